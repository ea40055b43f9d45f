import Derived.Test.YtjnccfgnakggkaaMkTxP
import Derived.Test.YtjnccfgnakggkaaMkShJ
import Derived.Deep.AppendLies
namespace Go.Proofs.Ytjnccfgnakggkaa
open Go.RowKit

theorem okMi_iff {m : Mi} : okMi m = true ↔ (kindM m.t).2 = true ∧ (kindM m.t).1 = m.k := by
  unfold okMi
  rw [decide_eq_true_iff, Prod.ext_iff]
  exact And.comm

theorem elemStr : ElemOK Try.prog 46 9 1 16 :=
  ElemOK.mk' (z := .string ⟨#[]⟩) Try.underlying46 (by kernel_rfl) rfl (by decide)
def strs (l : List ByteArray) : List Value := l.map Value.string
theorem own_below {w w' : World} {B : Nat} {e : TypeId} {size : Nat} {v : Value} {n : Nat} {xs : List Value} (h : w.ownsRow B e size v n xs) (hb : Below w.heap.size w w') : w'.ownsRow B e size v n xs := by
  refine ⟨h.1, ?_⟩
  rcases h.2 with h | ⟨g, cap, cur, h2, h3, h4, hr⟩
  · exact .inl h
  · exact .inr ⟨g, cap, cur, h2, h3, (hb.block g (Array.getElem?_eq_some_iff.1 h4).1).trans h4, hr⟩
def OwnStr (w : World) (B : Nat) (v : Value) (l : List ByteArray) : Prop := w.ownsRow B 9 1 v l.length (strs l)
theorem OwnStr.snoc {w : World} {B : Nat} {v : Value} {l : List ByteArray} {m : ByteArray} (h : w.ownsRow B 9 1 v (l.length + 1) (strs l ++ [.string m])) : OwnStr w B v (l ++ [m]) := by
  unfold OwnStr strs at *; rw [List.map_append, List.length_append]; exact h

set_option maxHeartbeats 1600000 in
theorem text_any (va : Value) (l : List Mi) (w : World) (hr : RdMi w va l) (ht : tot l ≤ 16777216) :
    Calls Try.prog 18 #[va] w fun e w' => e = .returned (.tuple #[.string (textM l).1, .int .i64 (textM l).2]) ∧ Below w.heap.size w w' := by
  have htl := tot_len l
  obtain ⟨hal, ao, ac, rfl, ha2⟩ := id hr
  have HR := Lib.hid hr
  clear hr ha2 hal
  go_enter Try.func18, Try.ntmps18
  go_wp2
  go_loopw [4, 11] (fun v i wr => ∃ j : Nat, j ≤ l.length ∧ i = .int .i64 j ∧ OwnStr wr w.heap.size v ((l.take j).map (·.t)) ∧ Hid (∀ (q : Nat) m, q < j → l[q]? = some m → okMi m = true) ∧ Below w.heap.size w wr) (fun _ i _ => l.length - (intOf i).toNat)
  case atStart => exact ⟨0, by omega, rfl, World.ownsRow_nil _ _ _ _, fun q m h => by omega, Below.refl _ _⟩
  case round =>
    obtain ⟨j, hj, rfl, hown, HQ, hbel⟩ := hrel
    by_cases hlt : j < l.length
    · obtain ⟨m, hm⟩ : ∃ m, l[j]? = some m := ⟨_, List.getElem?_eq_getElem hlt⟩
      obtain ⟨b1, o1, c1, e1, l1, k1, x0, x1, x2⟩ := (HR.out).at hm
      simp only [Value.slice.injEq] at e1
      obtain ⟨rfl, -, rfl⟩ := e1
      have X0 := (hbel.cell (p := ⟨b1, _, none⟩) l1).trans x0
      have X1 := (hbel.cell (p := ⟨b1, _, none⟩) l1).trans x1
      have X2 := (hbel.cell (p := ⟨b1, _, none⟩) l1).trans x2
      clear x0 x1 x2
      have hts := tot_at l j m hm
      have HK : Hid (∀ w, Calls Try.prog 17 #[.string m.t] w fun e w' => e = .returned (.tuple #[.int .i64 (kindM m.t).1, .bool (kindM m.t).2]) ∧ Below w.heap.size w w') := fun w => kind_walk m.t w (by omega)
      have HO : Hid (okMi m = true ↔ (kindM m.t).2 = true ∧ (kindM m.t).1 = m.k) := okMi_iff
      have HM := Lib.hid hm
      clear hm
      generalize (kindM m.t).1 = k at *
      generalize (kindM m.t).2 = ok at *
      have hl1 : b1 < wr.heap.size := by have := hbel.size; omega
      by_cases hok : ok = true ∧ k = m.k
      · obtain ⟨rfl, hk⟩ := hok
        have hk' : (k != m.k) = false := by simpa using hk
        have HOK : Hid (okMi m = true) := HO.out.2 ⟨rfl, hk⟩
        clear hk
        clear HO
        go_wp2_with fail
        refine (HK.out _).mono ?_
        rintro e w2 ⟨rfl, hb2⟩
        have hm0 : (wr.alloc (.cells #[.int .i64 m.k, .int .i64 m.p, .string m.t] 29)).heap[wr.heap.size]? = some (.cells #[.int .i64 m.k, .int .i64 m.p, .string m.t] 29 (0, 0)) := World.alloc_heap_new wr _
        have hm1 : w2.heap[wr.heap.size]? = some (.cells #[.int .i64 m.k, .int .i64 m.p, .string m.t] 29 (0, 0)) := (hb2.block _ (Array.getElem?_eq_some_iff.1 hm0).1).trans hm0
        have D0 : w2.cell? ⟨wr.heap.size, 0, none⟩ = some (.int .i64 m.k) := by simp [World.cell?, hm1]
        have D2 : w2.cell? ⟨wr.heap.size, 2, none⟩ = some (.string m.t) := by simp [World.cell?, hm1]
        have hown2 : OwnStr w2 w.heap.size u4 ((l.take j).map (·.t)) := own_below (World.ownsRow.alloc (w := wr) hown _) hb2
        have hb3 : Below w.heap.size w w2 := below_then (hbel.alloc hbel.size _) hb2
        have hln : ((l.take j).map (·.t)).length < 4294967296 := by simp; omega
        clear hm0 hm1 hb2 X0 X1 X2 hown hbel
        obtain ⟨ao4, c4, hu4⟩ : ∃ ao4 c4, u4 = .slice ao4 ((l.take j).map (·.t)).length c4 := by obtain ⟨_, ao, cp, e, _⟩ := Rd.of_owns hown2; exact ⟨ao, cp, e⟩
        have HT : Hid ((l.take (j + 1)).map (·.t) = (l.take j).map (·.t) ++ [m.t]) := by unfold Hid; rw [take_snoc l j m HM.out, List.map_append]; rfl
        subst hu4
        generalize (l.take j).map (·.t) = xs at *
        go_wp2_with (at_builtin; go_must (refine wpList_app1 elemStr rfl _ _ rfl hown2 rfl (news := [.string m.t]) rfl rfl (by intro u hu; simp at hu; rcases hu with rfl; rfl) hln (by decide) hb3 (Nat.le_refl _) ?_); intro v' w1 hown1 hbel1 _)
        go_roundw
        case rel => exact ⟨j + 1, by omega, by go_num, by rw [HT.out]; exact OwnStr.snoc hown1, fun q x hq hx => (Nat.lt_succ_iff_lt_or_eq.1 hq).elim (fun h => HQ.out q x h hx) (fun h => by subst h; rw [HM.out] at hx; injection hx with hx; subst hx; exact HOK.out), hbel1⟩
        case measure => simp [intOf]; omega
      · have HE : Hid (textM l = (⟨#[]⟩, 2)) := textM_bad l j m HM.out (by rw [Bool.eq_false_iff]; exact fun h => hok (HO.out.1 h))
        clear HO
        go_wp2_with fail
        refine (HK.out _).mono ?_
        rintro e w2 ⟨rfl, hb2⟩
        have hm0 : (wr.alloc (.cells #[.int .i64 m.k, .int .i64 m.p, .string m.t] 29)).heap[wr.heap.size]? = some (.cells #[.int .i64 m.k, .int .i64 m.p, .string m.t] 29 (0, 0)) := World.alloc_heap_new wr _
        have hm1 : w2.heap[wr.heap.size]? = some (.cells #[.int .i64 m.k, .int .i64 m.p, .string m.t] 29 (0, 0)) := (hb2.block _ (Array.getElem?_eq_some_iff.1 hm0).1).trans hm0
        have D0 : w2.cell? ⟨wr.heap.size, 0, none⟩ = some (.int .i64 m.k) := by simp [World.cell?, hm1]
        have D2 : w2.cell? ⟨wr.heap.size, 2, none⟩ = some (.string m.t) := by simp [World.cell?, hm1]
        have hb3 : Below w.heap.size w w2 := below_then (hbel.alloc hbel.size _) hb2
        clear hm0 hm1 hb2 X0 X1 X2 hown hbel
        cases ok with
        | false =>
          clear hok
          go_wp2
          go_ret2
          exact ⟨by rw [HE.out]; rfl, hb3⟩
        | true =>
          have hk' : (k != m.k) = true := by rw [bne_iff_ne]; exact fun h => hok ⟨rfl, h⟩
          clear hok
          go_wp2
          go_ret2
          exact ⟨by rw [HE.out]; rfl, hb3⟩
    · have hj : j = l.length := by omega
      subst hj
      have HE : Hid (textM l = (joinM (l.map (·.t)), 0)) := textM_good l (fun i m h => HQ.out i m ((List.getElem?_eq_some_iff.1 h).1) h)
      rw [List.take_length] at hown
      have hjs := joinM_size l
      by_cases h0 : l = []
      · subst h0
        obtain ⟨ao4, c4, hu4⟩ : ∃ ao4 c4, u4 = .slice ao4 0 c4 := by obtain ⟨_, ao, cp, e, _⟩ := Rd.of_owns hown; exact ⟨ao, cp, e⟩
        subst hu4
        have HJ : Hid (∀ w, Calls Try.prog 28 #[.slice ao4 0 c4, .string ⟨#[32]⟩] w fun e w' => e = .returned (.string ⟨#[]⟩) ∧ w' = w) := fun w => Try.strings_Join_none ao4 c4 _ w
        go_wp2_with (go_at_call 28; refine (HJ.out _).mono ?_; rintro e _ ⟨rfl, rfl⟩)
        go_ret2
        exact ⟨by rw [HE.out]; rfl, hbel⟩
      · have hlen : 0 < (l.map (·.t)).length := by cases l with | nil => exact absurd rfl h0 | cons _ _ => simp
        obtain ⟨g, c4, hu4, hg1, hg2⟩ := World.ownsRow.form hown hlen
        subst hu4
        have HJ : Hid (Calls Try.prog 28 #[.slice (some ⟨g, 0, none⟩) (l.map (·.t)).length c4, .string ⟨#[32]⟩] wr fun e w' => e = .returned (.string (joinM (l.map (·.t)))) ∧ Below wr.heap.size wr w') := by
          have hrd := Rd.of_owns hown
          refine Try.strings_Join g 0 c4 (l.map (·.t)) ⟨#[32]⟩ wr ?_ hg2 (by simp; omega) ?_ ?_
          · intro j x hx
            obtain ⟨b, off, cap, e1, _, _, hc⟩ := Rd.at hrd hlen
            simp only [Value.slice.injEq, Option.some.injEq, Addr.mk.injEq] at e1
            obtain ⟨⟨rfl, rfl, -⟩, -, rfl⟩ := e1
            exact hc j (.string x) (by unfold strs; rw [List.getElem?_map, hx]; rfl)
          · obtain ⟨_, ao, cp, e, hle, _⟩ := hrd
            simp only [Value.slice.injEq] at e
            obtain ⟨_, _, rfl⟩ := e
            exact hle
          · have : (joinM (l.map (·.t))).size = (Lib.join ((l.map (·.t)).map (·.data.toList)) [32]).length := by unfold joinM; simp [ByteArray.size]
            have e2 : (⟨#[32]⟩ : ByteArray).data.toList = [32] := rfl
            rw [e2]
            omega
        have hln : (l.map (·.t)).length = l.length := List.length_map _
        rw [hln] at HJ
        go_wp2_with (go_at_call 28; refine HJ.out.mono ?_; rintro e w5 ⟨rfl, hb5⟩)
        go_ret2
        exact ⟨by rw [HE.out]; rfl, below_then hbel hb5⟩
end Go.Proofs.Ytjnccfgnakggkaa
