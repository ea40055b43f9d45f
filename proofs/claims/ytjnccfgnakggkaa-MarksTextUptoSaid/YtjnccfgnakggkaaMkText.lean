import Derived.Test.YtjnccfgnakggkaaMkTy
import Derived.Deep.Upon
namespace Go.Proofs.Ytjnccfgnakggkaa
open Go.RowKit

/-- 'append(out, l...)' to a row of the call's own -/
theorem wpList_appAll {P : Program} {t e : TypeId} {size bytes : Nat} (hE : ElemOK P t e size bytes) {B : Nat} {w0 wr : World} {ops : Array Oper} {rest : List Oper} {o : Oper} {a : Act} {Q : Exit → Act → World → Prop} (hgd : o.guard = none) (s x : Operand)
    (ho : o.op = .call { callee := .builtin .append, args := #[s, x], argTypes := #[t, t] })
    {v : Value} {n : Nat} {xs : List Value} (hown : wr.ownsRow B e size v n xs) (hs : a.eval s = v)
    {ad : Addr} {m c : Nat} {news : List Value} (hx : a.eval x = .slice (some ad) m c) (hl : news.length = m * size) (hnews : ∀ j u, news[j]? = some u → wr.cell? (ad.add j) = some u) (h1 : ∀ u ∈ news, u.oneCell' = true)
    (hn : n + m < 4294967296) (hby : bytes ≤ 16384) (hb : Below B w0 wr) (hB : B ≤ w0.heap.size)
    (h : ∀ v' w', w'.ownsRow B e size v' (n + m) (xs ++ news) → Below B w0 w' → wpList P ops Q rest (a.put o.dst v') w') :
    wpList P ops Q (o :: rest) a wr := by
  obtain ⟨i, z, ht, hi, hz, hz1, hz2, hz3, hz4⟩ := hE.ex
  have hbs := hb.size
  refine wpList_append_own (P := P) _ hgd s x t ho B e i z size bytes ht hi hz hz1 hz2 hz3 hz4 v n xs hs hown ad m c news hx hl hnews h1 (by unfold maxLen; omega) ?_ (by omega) ?_
  · have : (n + m) * bytes ≤ 4294967296 * 16384 := Nat.mul_le_mul (by omega) hby
    omega
  · intro v' w' hown' hg _
    exact h v' w' hown' (hb.grown hg (by omega) (fun k hk => (hown.lt k hk).1))
/-- 'append(out, l...)' of nothing -/
theorem wpList_app0 {P : Program} {t e : TypeId} {size bytes : Nat} (hE : ElemOK P t e size bytes) {w : World} {ops : Array Oper} {rest : List Oper} {o : Oper} {a : Act} {Q : Exit → Act → World → Prop} (hgd : o.guard = none) (s x : Operand)
    (ho : o.op = .call { callee := .builtin .append, args := #[s, x], argTypes := #[t, t] })
    {base : Option Addr} {n c : Nat} (hs : a.eval s = .slice base n c) (hle : n ≤ c) {ao : Option Addr} {c2 : Nat} (hx : a.eval x = .slice ao 0 c2)
    (h : wpList P ops Q rest (a.put o.dst (.slice base n c)) w) : wpList P ops Q (o :: rest) a w := by
  obtain ⟨i, z, ht, hi, hz, hz1, hz2, hz3, hz4⟩ := hE.ex
  refine wpList_plain hgd fun K hK' => ?_
  have hsrc : Src P i.size t (.slice ao 0 c2) 0 [] w := by
    cases ao with
    | none => exact Src.ofNil w ht c2
    | some ad => exact Src.ofSlice w ht ad 0 c2 [] (by simp) (by simp) (by simp)
  have hrun := run_append_nothing w t t o.type e i ht hi base n c hle _ hsrc
  unfold Oper.wp
  simp [execOp, ho, resolve, invoke, builtin, hs, hx, hrun, Result.andThen]
  exact hK' _ _ h

set_option maxRecDepth 100000 in
set_option maxHeartbeats 1600000 in
theorem marksText_any (va : Value) (l : List Mi) (w : World) (hr : RdMi w va l) (ht : tot l ≤ 1048576) :
    Calls Try.prog 5 #[va] w fun e w' => e = .returned (.bool true) ∧ Below w.heap.size w w' := by
  have htl := tot_len l
  obtain ⟨hal, ao, ac, rfl, ha2⟩ := id hr
  have HR := Lib.hid hr
  clear hr ha2 hal
  have HT : Hid (∀ w v, RdMi w v l → Calls Try.prog 18 #[v] w fun e w' => e = .returned (.tuple #[.string (textM l).1, .int .i64 (textM l).2]) ∧ Below w.heap.size w w') := fun w v h => text_any v l w h (by omega)
  have HU : Hid (∀ w v, RdMi w v l → Calls Try.prog 19 #[v] w fun e w' => e = .returned (.tuple #[.string (textM l).1, .int .i64 (textM l).2]) ∧ Below w.heap.size w w') := fun w v h => rText_any v l w h (by omega)
  have HA : Hid (∀ w, Calls Try.prog 14 #[] w fun e w' => e = .returned (.bool true) ∧ Below w.heap.size w w') := awake_any
  have HL : Hid (∀ w va vb, RdMi w va l → RdMi w vb l → Calls Try.prog 11 #[va, vb] w fun e w' => e = .returned (.bool true) ∧ Below w.heap.size w w') := fun w va vb h1 h2 => by
    have := listI_any va vb l l w h1 h2 (by omega) (by omega)
    rw [decide_eq_true rfl] at this
    exact this
  generalize (textM l).1 = ts at *
  generalize (textM l).2 = te at *
  go_enter Try.func5, Try.ntmps5
  have hw0 : (w.alloc (.cells #[] 29)).ownsRow w.heap.size 29 3 (.slice (some ⟨w.heap.size, 0, none⟩) 0 0) 0 [] :=
    ⟨rfl, .inr ⟨w.heap.size, 0, #[], rfl, Nat.le_refl _, World.alloc_heap_new w _, Nat.le_refl _, Nat.zero_le _, rfl, rfl⟩⟩
  have hb0 : Below w.heap.size w (w.alloc (.cells #[] 29)) := below1 w _
  have HRw : ∀ w1, Below w.heap.size w w1 → RdMi w1 (.slice ao l.length ac) l := fun w1 h => Rd.below HR.out h
  have HRw' := Lib.hid HRw
  clear HRw
  by_cases h0 : l = []
  case pos =>
    have hR1 : RdMi (w.alloc (.cells #[] 29)) (.slice (some ⟨w.heap.size, 0, none⟩) 0 0) l := by subst h0; exact Rd.of_owns hw0
    have hl0 : Hid (l.length = 0) := by unfold Hid; rw [h0]; rfl
    clear h0
    go_wp2_with (at_builtin; go_must (refine wpList_app0 elemMk rfl _ _ rfl rfl (Nat.le_refl _) (congrArg (fun n => Value.slice ao n ac) hl0.out) ?_))
    clear hl0 hw0
    generalize w.alloc (.cells #[] 29) = w1 at *
    generalize Value.slice (some ⟨w.heap.size, 0, none⟩) 0 0 = v1 at *
    refine (HT.out _ _ hR1).mono ?_
    rintro e w2 ⟨rfl, hb2⟩
    have hr2 := HRw'.out w2 (below_then hb0 hb2)
    have hR2 : RdMi w2 v1 l := Rd.below hR1 hb2
    go_wp2_with fail
    refine (HU.out _ _ hr2).mono ?_
    rintro e w3 ⟨rfl, hb3⟩
    have hr3 := HRw'.out w3 (below_then (below_then hb0 hb2) hb3)
    have hR3 : RdMi w3 v1 l := Rd.below hR2 hb3
    have hb4 := below_then (below_then hb0 hb2) hb3
    clear hr2 hR2 hb2 hb3 hb0 hR1
    have HL3 := Lib.hid (HL.out w3 _ _ hR3 hr3)
    clear hr3 hR3
    go_wp2_with (go_at_call 11; refine (HL3.out).mono ?_; rintro e w4 ⟨rfl, hb5⟩)
    have hb1 := below_then hb4 hb5
    clear hb4 hb5 HL3 HT HU HL
    go_loopw [8] (fun i wr => ∃ j : Nat, j ≤ l.length ∧ i = .int .i64 j ∧ Below w.heap.size w wr) (fun i _ => l.length - (intOf i).toNat)
    case atStart => exact ⟨0, by omega, rfl, hb1⟩
    case round =>
      obtain ⟨j, hj, rfl, hbel⟩ := hrel
      by_cases hlt : j < l.length
      · obtain ⟨m, hm⟩ : ∃ m, l[j]? = some m := ⟨_, List.getElem?_eq_getElem hlt⟩
        obtain ⟨b1, o1, c1, e1, l1, k1, x0, x1, x2⟩ := (HR.out).at hm
        simp only [Value.slice.injEq] at e1
        obtain ⟨hao, -, hac⟩ := e1
        subst hac
        first | subst hao | (simp only [Option.some.injEq, Addr.mk.injEq] at hao; obtain ⟨hx1, hx2, -⟩ := hao; obtain rfl := hx1.symm; obtain rfl := hx2.symm)
        have X2 := (hbel.cell (p := ⟨b1, _, none⟩) l1).trans x2
        clear x0 x1 x2
        have hts := tot_at l j m hm
        have HK : Hid (∀ w, Calls Try.prog 17 #[.string m.t] w fun e w' => e = .returned (.tuple #[.int .i64 (kindM m.t).1, .bool (kindM m.t).2]) ∧ Below w.heap.size w w') := fun w => kind_walk m.t w (by omega)
        have HQ : Hid (∀ w, Calls Try.prog 20 #[.string m.t] w fun e w' => e = .returned (.tuple #[.int .i64 (kindM m.t).1, .bool (kindM m.t).2]) ∧ Below w.heap.size w w') := fun w => rKind_any m.t (by omega) w
        clear hm
        generalize (kindM m.t).1 = k at *
        generalize (kindM m.t).2 = ok at *
        have hl1 : b1 < wr.heap.size := by have := hbel.size; omega
        go_wp2_with fail
        refine (HK.out _).mono ?_
        rintro e w5 ⟨rfl, hb5⟩
        have Y2 := (hb5.cell (p := ⟨b1, _, none⟩) hl1).trans X2
        have hb6 := below_then hbel hb5
        clear X2 hb5 hbel
        go_wp2_with (go_at_call 20; refine (HQ.out _).mono ?_; rintro e w7 ⟨rfl, hb7⟩)
        go_roundw
        case rel => exact ⟨j + 1, by omega, by go_num, below_then hb6 hb7⟩
        case measure => simp [intOf]; omega
      · go_wp2_with (go_at_call 14; refine (HA.out _).mono ?_; rintro e w7 ⟨rfl, hb7⟩)
        go_ret
        exact ⟨rfl, below_then hbel hb7⟩
  case neg =>
    have hl0 : 0 < l.length := by cases l with | nil => exact absurd rfl h0 | cons _ _ => simp
    have hrd := HR.out
    obtain ⟨b, off, cap, e1, hlt, _, hc⟩ := Rd.at hrd hl0
    simp only [Value.slice.injEq] at e1
    obtain ⟨rfl, -, rfl⟩ := e1
    have hcs : ∀ j u, (flatMi l)[j]? = some u → (w.alloc (.cells #[] 29)).cell? ((⟨b, off, none⟩ : Addr).add j) = some u := by
      intro j u hu
      have e : (⟨b, off, none⟩ : Addr).add j = ⟨b, off + j, none⟩ := by unfold Addr.add; split <;> simp_all
      rw [e]
      exact (hb0.cell (p := ⟨b, _, none⟩) hlt).trans (hc j u hu)
    have h1c : ∀ u ∈ flatMi l, u.oneCell' = true := by
      intro u hu
      unfold flatMi at hu
      rw [List.mem_flatMap] at hu
      obtain ⟨m, _, hm⟩ := hu
      simp [Mi.cells] at hm
      rcases hm with rfl | rfl | rfl <;> rfl
    have hfl := flatMi_len l
    have hln : 0 + l.length < 4294967296 := by omega
    clear hrd hc h0 hl0 hlt
    go_wp2_with (at_builtin; go_must (refine wpList_appAll elemMk rfl _ _ rfl hw0 rfl (news := flatMi l) rfl (by omega) hcs h1c hln (by decide) hb0 (Nat.le_refl _) ?_); intro v1 w1 hown1 hb1)
    have hR1 : RdMi w1 v1 l := by
      have := Rd.of_owns hown1
      rw [Nat.zero_add, List.nil_append] at this
      exact this
    clear hb0 hcs h1c hw0 hown1
    have hb0 := hb1
    clear hb1
    refine (HT.out _ _ hR1).mono ?_
    rintro e w2 ⟨rfl, hb2⟩
    have hr2 := HRw'.out w2 (below_then hb0 hb2)
    have hR2 : RdMi w2 v1 l := Rd.below hR1 hb2
    go_wp2_with fail
    refine (HU.out _ _ hr2).mono ?_
    rintro e w3 ⟨rfl, hb3⟩
    have hr3 := HRw'.out w3 (below_then (below_then hb0 hb2) hb3)
    have hR3 : RdMi w3 v1 l := Rd.below hR2 hb3
    have hb4 := below_then (below_then hb0 hb2) hb3
    clear hr2 hR2 hb2 hb3 hb0 hR1
    have HL3 := Lib.hid (HL.out w3 _ _ hR3 hr3)
    clear hr3 hR3
    go_wp2_with (go_at_call 11; refine (HL3.out).mono ?_; rintro e w4 ⟨rfl, hb5⟩)
    have hb1 := below_then hb4 hb5
    clear hb4 hb5 HL3 HT HU HL
    go_loopw [8] (fun i wr => ∃ j : Nat, j ≤ l.length ∧ i = .int .i64 j ∧ Below w.heap.size w wr) (fun i _ => l.length - (intOf i).toNat)
    case atStart => exact ⟨0, by omega, rfl, hb1⟩
    case round =>
      obtain ⟨j, hj, rfl, hbel⟩ := hrel
      by_cases hlt : j < l.length
      · obtain ⟨m, hm⟩ : ∃ m, l[j]? = some m := ⟨_, List.getElem?_eq_getElem hlt⟩
        obtain ⟨b1, o1, c1, e1, l1, k1, x0, x1, x2⟩ := (HR.out).at hm
        simp only [Value.slice.injEq] at e1
        obtain ⟨hao, -, hac⟩ := e1
        subst hac
        first | subst hao | (simp only [Option.some.injEq, Addr.mk.injEq] at hao; obtain ⟨hx1, hx2, -⟩ := hao; obtain rfl := hx1.symm; obtain rfl := hx2.symm)
        have X2 := (hbel.cell (p := ⟨b1, _, none⟩) l1).trans x2
        clear x0 x1 x2
        have hts := tot_at l j m hm
        have HK : Hid (∀ w, Calls Try.prog 17 #[.string m.t] w fun e w' => e = .returned (.tuple #[.int .i64 (kindM m.t).1, .bool (kindM m.t).2]) ∧ Below w.heap.size w w') := fun w => kind_walk m.t w (by omega)
        have HQ : Hid (∀ w, Calls Try.prog 20 #[.string m.t] w fun e w' => e = .returned (.tuple #[.int .i64 (kindM m.t).1, .bool (kindM m.t).2]) ∧ Below w.heap.size w w') := fun w => rKind_any m.t (by omega) w
        clear hm
        generalize (kindM m.t).1 = k at *
        generalize (kindM m.t).2 = ok at *
        have hl1 : b1 < wr.heap.size := by have := hbel.size; omega
        go_wp2_with fail
        refine (HK.out _).mono ?_
        rintro e w5 ⟨rfl, hb5⟩
        have Y2 := (hb5.cell (p := ⟨b1, _, none⟩) hl1).trans X2
        have hb6 := below_then hbel hb5
        clear X2 hb5 hbel
        go_wp2_with (go_at_call 20; refine (HQ.out _).mono ?_; rintro e w7 ⟨rfl, hb7⟩)
        go_roundw
        case rel => exact ⟨j + 1, by omega, by go_num, below_then hb6 hb7⟩
        case measure => simp [intOf]; omega
      · go_wp2_with (go_at_call 14; refine (HA.out _).mono ?_; rintro e w7 ⟨rfl, hb7⟩)
        go_ret
        exact ⟨rfl, below_then hbel hb7⟩
end Go.Proofs.Ytjnccfgnakggkaa
