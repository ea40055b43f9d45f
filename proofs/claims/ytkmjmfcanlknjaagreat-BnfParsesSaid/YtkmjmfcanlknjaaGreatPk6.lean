/- The walks and facts that the laws lean on, part 6. No condition of its own: each theorem tells its own. -/
import Derived.Test.YtkmjmfcanlknjaaGreatPk5
import Derived.Test.YtkmjmfcanlknjaaGreatRows
import Derived.Deep.Strs
import Derived.WideShapes
namespace Go.Proofs.YtkmjmfcanlknjaaGreat
open Go.RowKit Go.Shelf

/-! ### the door of Parse -/
set_option maxRecDepth 100000 in
set_option maxHeartbeats 800000 in
theorem xCatchG_idle (a b c : Addr) (w : World) :
    CallsD Tryz.prog 36 #[.pointer (some a), .pointer (some b), .pointer (some c)] .returning w fun e u' w' => e = .returned (.tuple #[]) ∧ u' = .returning ∧ w' = w := by
  refine callsD_of_wpS Tryz.func36 rfl fun c₀ cs hu => ?_
  apply wpS_seq
  apply wpS_region
  simp [wpOpsS, go_sem, recoverD, hu, Tryz.ntmps36, Exit.thenS]
  refine wpS_of_wp ?_
  simp only [Array.replicate_succ, Array.replicate_zero, List.push_toArray, List.append_toArray, List.nil_append, List.cons_append, List.setIfInBounds_toArray, List.set_cons_succ, List.set_cons_zero]
  go_wp2
  cases c₀
  simp_all [bodyPostS, results, Tryz.results36]

set_option maxRecDepth 100000 in
set_option maxHeartbeats 800000 in
theorem xCatchG_panic (b2 b3 b4 : Nat) (x : Int) (older : List PanicEntry) (w : World) (v2 v3 v4 : Value) (h2 : Boxed w b2 22 v2) (h3 : Boxed w b3 3 v3) (h4 : Boxed w b4 23 v4) (n23 : b2 ≠ b3) (n24 : b2 ≠ b4) (n34 : b3 ≠ b4) :
    CallsD Tryz.prog 36 #[.pointer (some ⟨b2, 0, none⟩), .pointer (some ⟨b3, 0, none⟩), .pointer (some ⟨b4, 0, none⟩)] (.panicking ({ v := .iface 60 (.agg #[.int .i64 x]), recovered := false } :: older)) w fun e u' w' =>
      e = .returned (.tuple #[]) ∧ u' = .panicking ({ v := .iface 60 (.agg #[.int .i64 x]), recovered := true } :: older) ∧
        (Boxed w' b2 22 (.slice none 0 0) ∧ Boxed w' b3 3 (.int .i64 x) ∧ Boxed w' b4 23 (.int .i64 172) ∧ ∀ B w0, Below B w0 w → B ≤ b2 → B ≤ b3 → B ≤ b4 → B ≤ w.heap.size → Below B w0 w') := by
  have hta : ∀ w, (Instr.typeAssert (.iface 60 (.agg #[.int .i64 x])) 20 60 true).run Tryz.prog w = .ok (.tuple #[.agg #[.int .i64 x], .bool true]) w := fun _ => by kernel_rfl
  have c2 := h2.cell
  have c3 := h3.cell
  have c4 := h4.cell
  have f2 := h2.frozen
  have f3 := h3.frozen
  have f4 := h4.frozen
  have l2 := h2.lt
  have l3 := h3.lt
  have l4 := h4.lt
  refine callsD_of_wpS Tryz.func36 rfl fun c₀ cs hu => ?_
  apply wpS_seq
  apply wpS_region
  simp [wpOpsS, go_sem, recoverD, hu, Tryz.ntmps36, Exit.thenS]
  refine wpS_of_wp ?_
  simp only [Array.replicate_succ, Array.replicate_zero, List.push_toArray, List.append_toArray, List.nil_append, List.cons_append, List.setIfInBounds_toArray, List.set_cons_succ, List.set_cons_zero]
  go_wp2
  go_region
  refine ⟨rfl, _, rfl, _, by simp [results, Tryz.results36], rfl, rfl, ?_⟩
  have k2 : Boxed (((w.setCell ⟨b2, 0, none⟩ (.slice none 0 0)).setCell ⟨b3, 0, none⟩ (.int .i64 x)).setCell ⟨b4, 0, none⟩ (.int .i64 172)) b2 22 (.slice none 0 0) := ((h2.set _).other n23 _).other n24 _
  have k3 : Boxed (((w.setCell ⟨b2, 0, none⟩ (.slice none 0 0)).setCell ⟨b3, 0, none⟩ (.int .i64 x)).setCell ⟨b4, 0, none⟩ (.int .i64 172)) b3 3 (.int .i64 x) := ((h3.other (Ne.symm n23) _).set _).other n34 _
  have k4 : Boxed (((w.setCell ⟨b2, 0, none⟩ (.slice none 0 0)).setCell ⟨b3, 0, none⟩ (.int .i64 x)).setCell ⟨b4, 0, none⟩ (.int .i64 172)) b4 23 (.int .i64 172) := ((h4.other (Ne.symm n24) _).other (Ne.symm n34) _).set _
  refine ⟨(k2.alloc _).kept (grown_drewN _ 1 none) (by simp), (k3.alloc _).kept (grown_drewN _ 1 none) (by simp), (k4.alloc _).kept (grown_drewN _ 1 none) (by simp), ?_⟩
  intro B w0 hb e2 e3 e4 e5
  exact ((((hb.setCell (p := ⟨b2, 0, none⟩) e2 _).setCell (p := ⟨b3, 0, none⟩) e3 _).setCell (p := ⟨b4, 0, none⟩) e4 _).alloc (by simpa [World.setCell] using e5) _).drew
/-- what Parse leaves -/
def GRet (w : World) (x : List Ru × Int × Int) (e : Ending) (w' : World) : Prop :=
  ∃ v P, e = .returned (.tuple #[v, .int .i64 x.2.1, .int .i64 x.2.2]) ∧ P.map (·.1) = x.1 ∧ OwnP w' w.heap.size v P ∧ Below w.heap.size w w'
theorem parseG_results (tmps : Array Value) (b2 b3 b4 : Nat) (v2 : Value) (x e : Int) (w : World) (h2 : tmps[2]? = some (.pointer (some ⟨b2, 0, none⟩))) (h3 : tmps[3]? = some (.pointer (some ⟨b3, 0, none⟩))) (h4 : tmps[4]? = some (.pointer (some ⟨b4, 0, none⟩)))
    (k2 : Boxed w b2 22 v2) (k3 : Boxed w b3 3 (.int .i64 x)) (k4 : Boxed w b4 23 (.int .i64 e)) : (results Tryz.f15 tmps).run Tryz.prog w = .ok (.tuple #[v2, .int .i64 x, .int .i64 e]) w := by
  have c2 := k2.cell
  have c3 := k3.cell
  have c4 := k4.cell
  simp [results, Tryz.results15, go_sem, h2, h3, h4, c2, c3, c4]
set_option maxRecDepth 100000 in
set_option maxHeartbeats 1600000 in
theorem xParseG_long (s : ByteArray) (w : World) (hs : 2048 < s.size) :
    Calls Tryz.prog 15 #[.string s] w (GRet w ([], 0, 3)) := by
  have hmf : ∀ (fn : Fn) (first cap : Array Value) (w : World), (Instr.makeFunc fn first cap).run Tryz.prog w = .ok (.func fn first cap) w := fun _ _ _ _ => rfl
  go_enter_defers Tryz.func15, Tryz.ntmps15
  go_wp2
  have k2 := ((Boxed.new w 22 (.slice none 0 0)).alloc (.cells #[.int .i64 0] 3)).alloc (.cells #[.int .i64 3] 23)
  have k3 := (Boxed.new (w.alloc (.cells #[.slice none 0 0] 22)) 3 (.int .i64 0)).alloc (.cells #[.int .i64 3] 23)
  have k4 := Boxed.new ((w.alloc (.cells #[.slice none 0 0] 22)).alloc (.cells #[.int .i64 0] 3)) 23 (.int .i64 3)
  exact ⟨_, parseG_results _ _ _ _ _ _ _ _ (by simp) (by simp) (by simp) k2 k3 k4, .slice none 0 0, [], rfl, rfl, OwnP.nil _ _, below3 _ _ _ _⟩
/-- the deferred call that Parse lays -/
def rcvG (b2 b3 b4 : Nat) : List Deferred := [{ target := .fn (.func 36) #[.pointer (some ⟨b2, 0, none⟩), .pointer (some ⟨b3, 0, none⟩), .pointer (some ⟨b4, 0, none⟩)], args := #[] }]
theorem doorG_panic {w w7 : World} {tmps : Array Value} {b2 b3 b4 : Nat} {x : Int} {v2 v3 v4 : Value} (h2 : tmps[2]? = some (.pointer (some ⟨b2, 0, none⟩))) (h3 : tmps[3]? = some (.pointer (some ⟨b3, 0, none⟩))) (h4 : tmps[4]? = some (.pointer (some ⟨b4, 0, none⟩)))
    (k2 : Boxed w7 b2 22 v2) (k3 : Boxed w7 b3 3 v3) (k4 : Boxed w7 b4 23 v4) (n23 : b2 ≠ b3) (n24 : b2 ≠ b4) (n34 : b3 ≠ b4) (hb : Below w.heap.size w w7) (e2 : w.heap.size ≤ b2) (e3 : w.heap.size ≤ b3) (e4 : w.heap.size ≤ b4) :
    bodyPostD Tryz.prog Tryz.f15 (GRet w ([], x, 172)) (.panic (wrongG x)) { tmps := tmps, defers := rcvG b2 b3 b4 } w7 := by
  refine leaves_cons (f := 36) (args := #[.pointer (some ⟨b2, 0, none⟩), .pointer (some ⟨b3, 0, none⟩), .pointer (some ⟨b4, 0, none⟩)]) (by simp [wrongG]) (by simp [go_sem]) ?_
  refine (xCatchG_panic b2 b3 b4 x [] w7 v2 v3 v4 k2 k3 k4 n23 n24 n34).mono ?_
  rintro e u' w8 ⟨rfl, rfl, c2, c3, c4, hw⟩
  exact ⟨_, parseG_results _ _ _ _ _ _ _ _ h2 h3 h4 c2 c3 c4, _, [], rfl, rfl, OwnP.nil _ _, hw _ _ hb e2 e3 e4 hb.size⟩
theorem doorG_ret {w w7 : World} {tmps : Array Value} {b2 b3 b4 : Nat} {v2 : Value} {P : List (Ru × Value)} {l : List Ru} {x e : Int} (h2 : tmps[2]? = some (.pointer (some ⟨b2, 0, none⟩))) (h3 : tmps[3]? = some (.pointer (some ⟨b3, 0, none⟩))) (h4 : tmps[4]? = some (.pointer (some ⟨b4, 0, none⟩)))
    (k2 : Boxed w7 b2 22 v2) (k3 : Boxed w7 b3 3 (.int .i64 x)) (k4 : Boxed w7 b4 23 (.int .i64 e)) (hb : Below w.heap.size w w7) (hl : P.map (·.1) = l) (ho : OwnP w7 w.heap.size v2 P) :
    bodyPostD Tryz.prog Tryz.f15 (GRet w (l, x, e)) .ret { tmps := tmps, defers := rcvG b2 b3 b4 } w7 := by
  refine leaves_cons (f := 36) (args := #[.pointer (some ⟨b2, 0, none⟩), .pointer (some ⟨b3, 0, none⟩), .pointer (some ⟨b4, 0, none⟩)]) (by simp) (by simp [go_sem]) ?_
  refine (xCatchG_idle _ _ _ w7).mono ?_
  rintro e u' w8 ⟨rfl, rfl, rfl⟩
  exact ⟨_, parseG_results _ _ _ _ _ _ _ _ h2 h3 h4 k2 k3 k4, _, P, rfl, hl, ho, hb⟩
/-- the three boxes of the results -/
structure Bx3 (w w' : World) (v2 : Value) (x e : Int) : Prop where
  below : Below w.heap.size w w'
  k2 : Boxed w' w.heap.size 22 v2
  k3 : Boxed w' (w.heap.size + 1) 3 (.int .i64 x)
  k4 : Boxed w' (w.heap.size + 1 + 1) 23 (.int .i64 e)
theorem Bx3.new (w : World) : Bx3 w (((w.alloc (.cells #[.slice none 0 0] 22)).alloc (.cells #[.int .i64 0] 3)).alloc (.cells #[.int .i64 0] 23)) (.slice none 0 0) 0 0 := by
  refine ⟨below3 _ _ _ _, ((Boxed.new w _ _).alloc _).alloc _, ?_, ?_⟩
  · have h := (Boxed.new (w.alloc (.cells #[.slice none 0 0] 22)) 3 (.int .i64 0)).alloc (.cells #[.int .i64 0] 23)
    simpa using h
  · have h := Boxed.new ((w.alloc (.cells #[.slice none 0 0] 22)).alloc (.cells #[.int .i64 0] 3)) 23 (.int .i64 0)
    simpa using h
theorem Bx3.kept {w a b : World} {v2 : Value} {x e : Int} {row : Option Nat} (h : Bx3 w a v2 x e) (hg : a.grownBy b row) (hr : ∀ j, row = some j → w.heap.size + 1 + 1 < j) : Bx3 w b v2 x e :=
  ⟨h.below.grown hg h.below.size (fun j hj => by have := hr j hj; omega), h.k2.kept hg (fun e => by have := hr _ e.symm; omega), h.k3.kept hg (fun e => by have := hr _ e.symm; omega), h.k4.kept hg (fun e => by have := hr _ e.symm; omega)⟩
theorem Bx3.set2 {w a : World} {v2 : Value} {x e : Int} (h : Bx3 w a v2 x e) (u : Value) : Bx3 w (a.setCell ⟨w.heap.size, 0, none⟩ u) u x e :=
  ⟨h.below.setCell (p := ⟨w.heap.size, 0, none⟩) (Nat.le_refl _) _, h.k2.set u, h.k3.other (by omega) u, h.k4.other (by omega) u⟩
theorem Bx3.set3 {w a : World} {v2 : Value} {x e : Int} (h : Bx3 w a v2 x e) (y : Int) : Bx3 w (a.setCell ⟨w.heap.size + 1, 0, none⟩ (.int .i64 y)) v2 y e :=
  ⟨h.below.setCell (p := ⟨w.heap.size + 1, 0, none⟩) (by show w.heap.size ≤ w.heap.size + 1; omega) _, h.k2.other (by omega) _, h.k3.set _, h.k4.other (by omega) _⟩
theorem Bx3.set4 {w a : World} {v2 : Value} {x e : Int} (h : Bx3 w a v2 x e) (y : Int) : Bx3 w (a.setCell ⟨w.heap.size + 1 + 1, 0, none⟩ (.int .i64 y)) v2 x y :=
  ⟨h.below.setCell (p := ⟨w.heap.size + 1 + 1, 0, none⟩) (by show w.heap.size ≤ w.heap.size + 1 + 1; omega) _, h.k2.other (by omega) _, h.k3.other (by omega) _, h.k4.set _⟩
set_option maxRecDepth 100000 in
set_option maxHeartbeats 6400000 in
theorem xParseG_good (s : ByteArray) (w : World) (hs : ¬ 2048 < s.size) (hq : (cut s 0).2 = s.size) :
    Calls Tryz.prog 15 #[.string s] w (GRet w (parseG s)) := by
  have hmf : ∀ (fn : Fn) (first cap : Array Value) (w : World), (Instr.makeFunc fn first cap).run Tryz.prog w = .ok (.func fn first cap) w := fun _ _ _ _ => rfl
  have HS := Lib.hid (scan_any s (by omega))
  have HE : scanM s = ((cut s 0).1, 0, 0) := by unfold scanM; rw [if_neg (by omega)]
  rw [HE] at HS
  clear HE
  have HRu := Lib.hid (fun (w : World) (Br : Nat) (vl : Value) (h : Rdg w Br s vl (cut s 0).1 0 ((cut s 0).2 : Nat)) => xRules_any h (by omega))
  rw [hq] at HRu
  have HPa : Hid (parseG s = if (gParsed s).ok = false then ([], plc (cut s 0).1 s.size (gParsed s).p, 172) else if longG (gParsed s).g = true then ([], 0, 173) else if checkG (gParsed s).g ≠ 0 then ([], 0, checkG (gParsed s).g) else ((gParsed s).g, 0, 0)) := by
    unfold Hid parseG
    rw [if_neg hs, hq, if_neg (Nat.lt_irrefl _)]
  have HBox := Lib.hid (Bx3.new w)
  go_enter_defers Tryz.func15, Tryz.ntmps15
  go_wp2_with fail
  refine (HS.out _).mono ?_
  rintro e w5 ⟨v1, rfl, ho1, hb5⟩
  have HBx5 := Lib.hid (HBox.out.kept (grown_below hb5) (by simp))
  have HM5 := Lib.hid (RdMk.of_own ho1)
  have hlt5 : ∀ g, v1.ownBlock = some g → g < w5.heap.size := fun g hg => (World.ownsRow.lt ho1 g hg).2
  have HLt := Lib.hid hlt5
  obtain ⟨_, ao, cap, rfl, -⟩ := Rd.of_owns ho1
  have hw5 : w.heap.size + 1 + 1 < w5.heap.size := HBx5.out.k4.lt
  clear ho1 hb5 HBox hlt5
  go_wp2_with fail
  have HRd6 : Hid (Rdg (w5.alloc (.cells #[.string s, .slice ao (cut s 0).1.length cap, .int .i64 0, .int .i64 s.size] 67)) w5.heap.size s (.slice ao (cut s 0).1.length cap) (cut s 0).1 0 (s.size : Nat)) := by
    refine ⟨World.alloc_heap_new w5 _, Rd.below HM5.out (below1 _ _), ?_⟩
    intro a n c e
    simp only [Value.slice.injEq] at e
    obtain ⟨rfl, -, -⟩ := e
    have := HLt.out a.block rfl
    omega
  have HBx6 := Lib.hid (HBx5.out.kept (World.grownBy_alloc w5 (.cells #[.string s, .slice ao (cut s 0).1.length cap, .int .i64 0, .int .i64 s.size] 67) none) (by simp))
  clear HM5 HLt HBx5
  generalize w5.alloc (.cells #[.string s, .slice ao (cut s 0).1.length cap, .int .i64 0, .int .i64 s.size] 67) = w6 at *
  generalize w5.heap.size = Br at *
  refine (HRu.out _ _ _ HRd6.out).mono ?_
  have HSz : Hid ((gParsed s).ok = true → (gParsed s).g.length ≤ 2048 ∧ nodesG (gParsed s).g ≤ 4096) := fun hok => by
    have h1 := (cut_len s s.size 0 (by omega) (by omega)).1
    have h2 := rules_size (cut s 0).1 ((cut s 0).1.length + 1) 0 [] (by omega) (by omega) hok
    have e0 : nodesG [] = 0 := rfl
    rw [e0, List.length_nil] at h2
    have h3 : (gParsed s).g.length ≤ 0 + ((cut s 0).1.length - 0) := h2.1
    have h4 : nodesG (gParsed s).g ≤ 0 + 2 * ((cut s 0).1.length - 0) := h2.2
    omega
  have hw6 : w.heap.size + 1 + 1 < w6.heap.size := HBx6.out.k4.lt
  clear HRd6 HS HRu
  rintro e w7 ⟨hg7, (⟨hok, v, P, rfl, hP, ho7⟩ | ⟨hok, rfl⟩)⟩
  · have HBx7 := Lib.hid (HBx6.out.kept hg7 (fun j hj => by cases hj; exact hw5))
    obtain ⟨hsz1, hsz2⟩ := HSz.out hok
    rw [if_neg (by rw [hok]; simp)] at HPa
    clear HSz hok hg7 HBx6
    generalize (gParsed s).g = G at *
    have HP := Lib.hid hP
    have HO7 := Lib.hid ho7
    obtain ⟨_, av, cv, rfl, -⟩ := Rd.of_owns ho7.row
    have c2 := HBx7.out.k2.cell
    have f2 := HBx7.out.k2.frozen
    clear hP ho7
    go_wp2_with fail
    have HBx8 := Lib.hid (HBx7.out.set2 (.slice av P.length cv))
    have HO8 : Hid (OwnP (w7.setCell ⟨w.heap.size, 0, none⟩ (.slice av P.length cv)) w6.heap.size (.slice av P.length cv) P) := HO7.out.grown (grown_set w7 w.heap.size 0 _) (fun j hj => by cases hj; omega)
    clear c2 f2 HO7 HBx7
    generalize w7.setCell ⟨w.heap.size, 0, none⟩ (.slice av P.length cv) = w8 at *
    refine (xLongG_any _ G _ ⟨P, HP.out, HO8.out.rd⟩ (by omega) (by omega)).mono ?_
    rintro e w9 ⟨rfl, hb9⟩
    have HBx9 := Lib.hid (HBx8.out.kept (grown_below hb9) (by simp))
    have HO9 := Lib.hid (HO8.out.below hb9)
    clear hb9 HBx8 HO8
    cases hlg : longG G with
    | true =>
      rw [hlg, if_pos rfl] at HPa
      have c2 := HBx9.out.k2.cell
      have f2 := HBx9.out.k2.frozen
      have c3 := HBx9.out.k3.cell
      have f3 := HBx9.out.k3.frozen
      have c4 := HBx9.out.k4.cell
      have f4 := HBx9.out.k4.frozen
      clear hlg
      go_wp2_with fail
      have hB := ((HBx9.out.set2 (.slice none 0 0)).set3 0).set4 173
      rw [HPa.out]
      exact doorG_ret (by simp) (by simp) (by simp) hB.k2 hB.k3 hB.k4 hB.below (P := []) rfl (OwnP.nil _ _)
    | false =>
      rw [hlg, if_neg (by simp)] at HPa
      have HLim : Hid (LimG G) := by
        unfold longG at hlg
        rw [List.any_eq_false] at hlg
        refine ⟨by omega, by omega, fun r hr => ?_, fun r hr x hx => ?_⟩
        · have := hlg r hr
          simp only [Bool.or_eq_true, decide_eq_true_eq, not_or] at this
          omega
        · have := hlg r hr
          simp only [Bool.or_eq_true, decide_eq_true_eq, not_or] at this
          have h2 := this.2
          unfold longN at h2
          have h3 : (r.b.any fun x => decide (16 < x.n.size)) = false := by simpa using h2
          rw [List.any_eq_false] at h3
          have := h3 x hx
          simp only [decide_eq_true_eq] at this
          omega
      have c2 := HBx9.out.k2.cell
      clear hlg
      go_wp2_with fail
      refine (xCheckG_any _ G _ ⟨P, HP.out, HO9.out.rd⟩ HLim.out (by omega)).mono ?_
      rintro e w10 ⟨rfl, hb10⟩
      have HBx10 := Lib.hid (HBx9.out.kept (grown_below hb10) (by simp))
      have HO10 := Lib.hid (HO9.out.below hb10)
      clear hb10 HBx9 HO9 c2
      have c2 := HBx10.out.k2.cell
      have f2 := HBx10.out.k2.frozen
      have c3 := HBx10.out.k3.cell
      have f3 := HBx10.out.k3.frozen
      have c4 := HBx10.out.k4.cell
      have f4 := HBx10.out.k4.frozen
      by_cases hz : checkG G = 0
      · rw [if_neg (by simp [hz])] at HPa
        rw [hz]
        clear hz
        go_wp2_with fail
        have hB := ((HBx10.out.set2 (.slice av P.length cv)).set3 0).set4 0
        have ho : OwnP w10 w6.heap.size (.slice av P.length cv) P := HO10.out
        have ho1 := ho.grown (grown_set w10 w.heap.size 0 (.slice av P.length cv)) (fun j hj => by cases hj; omega)
        have ho2 := ho1.grown (grown_set _ (w.heap.size + 1) 0 (.int .i64 0)) (fun j hj => by cases hj; omega)
        have ho3 := ho2.grown (grown_set _ (w.heap.size + 1 + 1) 0 (.int .i64 0)) (fun j hj => by cases hj; omega)
        rw [HPa.out]
        exact doorG_ret (by simp) (by simp) (by simp) hB.k2 hB.k3 hB.k4 hB.below HP.out (ho3.lower (by omega))
      · rw [if_pos hz] at HPa
        have hz2 : (checkG G != 0) = true := by simpa using hz
        clear hz
        generalize checkG G = ce at *
        go_wp2_with fail
        have hB := ((HBx10.out.set2 (.slice none 0 0)).set3 0).set4 ce
        rw [HPa.out]
        exact doorG_ret (by simp) (by simp) (by simp) hB.k2 hB.k3 hB.k4 hB.below (P := []) rfl (OwnP.nil _ _)
  · have HBx7 := Lib.hid (HBx6.out.kept hg7 (fun j hj => by cases hj; exact hw5))
    rw [if_pos hok] at HPa
    clear HSz hok hg7 HBx6
    go_wp2_with fail
    rw [HPa.out]
    exact doorG_panic (by simp) (by simp) (by simp) HBx7.out.k2 HBx7.out.k3 HBx7.out.k4 (by omega) (by omega) (by omega) HBx7.out.below (Nat.le_refl _) (by omega) (by omega)
set_option maxRecDepth 100000 in
set_option maxHeartbeats 6400000 in
theorem xParseG_bad (s : ByteArray) (w : World) (hs : ¬ 2048 < s.size) (hq : (cut s 0).2 < s.size) :
    Calls Tryz.prog 15 #[.string s] w (GRet w (parseG s)) := by
  have hmf : ∀ (fn : Fn) (first cap : Array Value) (w : World), (Instr.makeFunc fn first cap).run Tryz.prog w = .ok (.func fn first cap) w := fun _ _ _ _ => rfl
  have HS := Lib.hid (scan_any s (by omega))
  have HE : scanM s = ([], (((cut s 0).2 : Nat) : Int), 160) := by unfold scanM; rw [if_pos hq]
  rw [HE] at HS
  have hpre := cut_pre s s.size 0 _ (by omega) (by omega) rfl
  have hpz : (s.extract 0 (cut s 0).2).size = (cut s 0).2 := by rw [ByteArray.size_extract]; omega
  have HS2 := Lib.hid (scan_any (s.extract 0 (cut s 0).2) (by omega))
  have HE2 : scanM (s.extract 0 (cut s 0).2) = ((cut s 0).1, 0, 0) := by unfold scanM; rw [hpre, if_neg (by simp only; omega)]
  rw [HE2] at HS2
  clear HE HE2 hpre hpz
  have HRu := Lib.hid (fun (w : World) (Br : Nat) (vl : Value) (h : Rdg w Br s vl (cut s 0).1 0 ((cut s 0).2 : Nat)) => xRules_any h (by omega))
  have HPa : Hid (parseG s = if (gParsed s).ok = false then ([], plc (cut s 0).1 ((cut s 0).2 : Nat) (gParsed s).p, 172) else ([], ((cut s 0).2 : Nat), 172)) := by
    unfold Hid parseG
    rw [if_neg hs, if_pos hq]
  have HBox := Lib.hid (Bx3.new w)
  generalize (cut s 0).1 = L at *
  generalize (cut s 0).2 = bad at *
  go_enter_defers Tryz.func15, Tryz.ntmps15
  go_wp2_with fail
  refine (HS.out _).mono ?_
  rintro e w5 ⟨v1, rfl, ho1, hb5⟩
  have HBx5 := Lib.hid (HBox.out.kept (grown_below hb5) (by simp))
  obtain ⟨_, ao1, cap1, rfl, -⟩ := Rd.of_owns ho1
  have hw5 : w.heap.size + 1 + 1 < w5.heap.size := HBx5.out.k4.lt
  clear ho1 hb5 HBox
  go_wp2_with fail
  have HBox6 : Hid ((w5.alloc (.cells #[.string s, .slice ao1 ([] : List Mk).length cap1, .int .i64 0, .int .i64 s.size] 67)).heap[w5.heap.size]? = some (.cells #[.string s, .slice ao1 ([] : List Mk).length cap1, .int .i64 0, .int .i64 s.size] 67 (0, 0))) := World.alloc_heap_new w5 _
  have HBx6 := Lib.hid (HBx5.out.kept (World.grownBy_alloc w5 (.cells #[.string s, .slice ao1 ([] : List Mk).length cap1, .int .i64 0, .int .i64 s.size] 67) none) (by simp))
  have hz6 : w5.heap.size < (w5.alloc (.cells #[.string s, .slice ao1 ([] : List Mk).length cap1, .int .i64 0, .int .i64 s.size] 67)).heap.size := by simp
  clear HBx5
  simp only [List.length_nil] at HBox6 HBx6 hz6 ⊢
  generalize w5.alloc (.cells #[.string s, .slice ao1 0 cap1, .int .i64 0, .int .i64 s.size] 67) = w6 at *
  generalize w5.heap.size = Br at *
  refine (HS2.out _).mono ?_
  rintro e w7 ⟨v2, rfl, ho7, hb7⟩
  have HBx7 := Lib.hid (HBx6.out.kept (grown_below hb7) (by simp))
  have HBox7 : Hid (w7.heap[Br]? = some (.cells #[.string s, .slice ao1 0 cap1, .int .i64 0, .int .i64 s.size] 67 (0, 0))) := (hb7.block Br hz6).trans HBox6.out
  have HO7 := Lib.hid ho7
  have hw6 : w.heap.size + 1 + 1 < w6.heap.size := HBx6.out.k4.lt
  obtain ⟨_, ao, cap, rfl, -⟩ := Rd.of_owns ho7
  have c1 : w7.cell? ⟨Br, 1, none⟩ = some (.slice ao1 0 cap1) := by have := HBox7.out; simp [World.cell?, this]
  have c3 : w7.cell? ⟨Br, 3, none⟩ = some (.int .i64 s.size) := by have := HBox7.out; simp [World.cell?, this]
  have f1 : w7.frozen? ⟨Br, 1, none⟩ = false := by have := HBox7.out; simp [World.frozen?, this]
  have f3 : w7.frozen? ⟨Br, 3, none⟩ = false := by have := HBox7.out; simp [World.frozen?, this]
  clear ho7 hb7 HBox6 HBx6
  go_wp2_with fail
  have HG8 : Hid (w7.grownBy ((w7.setCell ⟨Br, 1, none⟩ (.slice ao L.length cap)).setCell ⟨Br, 3, none⟩ (.int .i64 bad)) (some Br)) := grown_then (grown_set _ _ _ _) (grown_set _ _ _ _) (fun j hj => by cases hj; exact .inr rfl)
  have HBx8 := Lib.hid (HBx7.out.kept HG8.out (fun j hj => by cases hj; exact hw5))
  have HRd8 : Hid (Rdg ((w7.setCell ⟨Br, 1, none⟩ (.slice ao L.length cap)).setCell ⟨Br, 3, none⟩ (.int .i64 bad)) Br s (.slice ao L.length cap) L 0 (bad : Nat)) := by
    refine ⟨?_, RdMk.of_own (own_grown HO7.out HG8.out (fun j hj => by cases hj; exact .inl hz6)), ?_⟩
    · simp only [World.setCell]
      rw [Array.getElem?_modify, if_pos rfl, Array.getElem?_modify, if_pos rfl, HBox7.out]
      rfl
    · intro a n c e
      simp only [Value.slice.injEq] at e
      obtain ⟨rfl, -, -⟩ := e
      have := own_block HO7.out a.block rfl
      omega
  clear c1 c3 f1 f3 HBox7 HO7 HG8 HBx7
  generalize (w7.setCell ⟨Br, 1, none⟩ (.slice ao L.length cap)).setCell ⟨Br, 3, none⟩ (.int .i64 bad) = w8 at *
  refine (HRu.out _ _ _ HRd8.out).mono ?_
  clear HRd8 HS HS2 HRu
  rintro e w9 ⟨hg9, (⟨hok, v, P, rfl, hP, ho9⟩ | ⟨hok, rfl⟩)⟩
  · have HBx9 := Lib.hid (HBx8.out.kept hg9 (fun j hj => by cases hj; exact hw5))
    rw [if_neg (by rw [hok]; simp)] at HPa
    obtain ⟨_, av, cv, rfl, -⟩ := Rd.of_owns ho9.row
    have c2 := HBx9.out.k2.cell
    have f2 := HBx9.out.k2.frozen
    have c3 := HBx9.out.k3.cell
    have f3 := HBx9.out.k3.frozen
    have c4 := HBx9.out.k4.cell
    have f4 := HBx9.out.k4.frozen
    clear hok hg9 HBx8 hP ho9
    have hne1 : w.heap.size ≠ w.heap.size + 1 := by omega
    go_wp2_with fail
    have hB := (((HBx9.out.set2 (.slice av P.length cv)).set2 (.slice none 0 0)).set3 bad).set4 172
    rw [HPa.out]
    exact doorG_ret (by simp) (by simp) (by simp) hB.k2 hB.k3 hB.k4 hB.below (P := []) rfl (OwnP.nil _ _)
  · have HBx9 := Lib.hid (HBx8.out.kept hg9 (fun j hj => by cases hj; exact hw5))
    rw [if_pos hok] at HPa
    clear hok hg9 HBx8
    go_wp2_with fail
    rw [HPa.out]
    exact doorG_panic (by simp) (by simp) (by simp) HBx9.out.k2 HBx9.out.k3 HBx9.out.k4 (by omega) (by omega) (by omega) HBx9.out.below (Nat.le_refl _) (by omega) (by omega)
theorem xParseG_any (s : ByteArray) (w : World) : Calls Tryz.prog 15 #[.string s] w (GRet w (parseG s)) := by
  by_cases hs : 2048 < s.size
  · have e : parseG s = ([], 0, 3) := by unfold parseG; rw [if_pos hs]
    rw [e]; exact xParseG_long s w hs
  · by_cases hq : (cut s 0).2 < s.size
    · exact xParseG_bad s w hs hq
    · exact xParseG_good s w hs (by have := (cut_len s s.size 0 (by omega) (by omega)).2.2; omega)
end Go.Proofs.YtkmjmfcanlknjaaGreat
namespace Go.Proofs.YtkmjmfcanlknjaaGreat
open Go.RowKit Go.Shelf

/-! ### the two texts of head -/
def headG : List Ru := [⟨⟨#[83]⟩, [⟨3, ⟨#[97]⟩, 0⟩]⟩]
theorem headG_good : GoodT [⟨3, ⟨#[97]⟩, 0⟩] ⟨3, ⟨#[97]⟩, 0⟩ .nil :=
  ⟨rfl, ⟨rfl, trivial, trivial⟩, ⟨(mayB_iff _).1 (by decide +kernel), trivial, trivial⟩⟩
set_option maxRecDepth 100000 in
theorem headG_check : checkG headG = 0 := by
  have h1 : treesB headG = true := by decide +kernel
  have h2 : (heads headG).length + missing headG = 1 := by decide +kernel
  have h3 : (used 3 headG).length = 1 := by decide +kernel
  have h4 : occG headG = 1 := by decide +kernel
  have h5 : missing headG = 0 := by decide +kernel
  have h6 : deepB headG = false := by
    unfold deepB headG
    rw [List.any_cons, heightN_eq headG_good]
    rfl
  have h7 : (textG headG).size = 8 := by
    show (textG [⟨⟨#[83]⟩, [⟨3, ⟨#[97]⟩, 0⟩]⟩]).size = 8
    rw [textG_cons]
    unfold textR
    rw [textN_eq headG_good]
    decide +kernel
  unfold checkG
  rw [if_neg (by show ¬ (1 < 1 ∨ 64 < 1); omega), if_neg (by rw [h1]; simp), if_neg (by omega), if_neg (by omega), if_neg (by omega), if_neg (by rw [h6]; simp), if_neg (by omega), if_neg (by omega)]
set_option maxRecDepth 100000 in
theorem headG_one : parseG ⟨#[83, 32, 61, 32, 97, 32, 59]⟩ = (headG, 0, 0) := by
  have h1 : (gParsed ⟨#[83, 32, 61, 32, 97, 32, 59]⟩).ok = true := by decide +kernel
  have h2 : (gParsed ⟨#[83, 32, 61, 32, 97, 32, 59]⟩).g = headG := by decide +kernel
  have h3 : (cut ⟨#[83, 32, 61, 32, 97, 32, 59]⟩ 0).2 = 7 := by decide +kernel
  have h4 : longG headG = false := by decide +kernel
  unfold parseG
  rw [if_neg (by decide), h1, if_neg (by simp), h3, if_neg (by decide), h2, h4, if_neg (by simp), headG_check, if_neg (by simp)]
set_option maxRecDepth 100000 in
theorem headG_two : parseG ⟨#[83, 32, 97, 59]⟩ = ([], 2, 172) := by
  have h1 : (gParsed ⟨#[83, 32, 97, 59]⟩).ok = false := by decide +kernel
  have h2 : plc (cut ⟨#[83, 32, 97, 59]⟩ 0).1 (cut ⟨#[83, 32, 97, 59]⟩ 0).2 (gParsed ⟨#[83, 32, 97, 59]⟩).p = 2 := by decide +kernel
  unfold parseG
  rw [if_neg (by decide), h1, if_pos rfl, h2]
theorem check_nil : checkG [] = 180 := rfl
theorem lim_nil : LimG [] := ⟨by simp, by simp [nodesG], fun r hr => (by cases hr), fun r hr => (by cases hr)⟩
theorem one_nd (w : World) (t : TypeId) (q : Nat × Nat) (x : Nd) : RdNd (w.alloc (.cells #[.int .i64 x.k, .string x.n, .int .i64 x.c] t q)) (.slice (some ⟨w.heap.size, 0, none⟩) 1 1) [x] := one_rd w t q x
set_option maxRecDepth 100000 in
set_option maxHeartbeats 3200000 in
theorem headG_any (w : World) : Calls Tryz.prog 13 #[] w fun e w' => e = .returned (.bool true) ∧ Below w.heap.size w w' := by
  have H1 := Lib.hid (xParseG_any ⟨#[83, 32, 61, 32, 97, 32, 59]⟩ w)
  have H2 := Lib.hid (fun w => xParseG_any ⟨#[83, 32, 97, 59]⟩ w)
  have H3 := Lib.hid (fun w => xCheckG_any (.slice none 0 0) [] w ⟨[], rfl, Rd.nil _ _, fun p hp => by cases hp⟩ lim_nil (by simp [nodesG]))
  rw [headG_one] at H1
  rw [headG_two] at H2
  rw [check_nil] at H3
  go_enter Tryz.func13, Tryz.ntmps13
  go_wp2_with fail
  refine (H1.out).mono ?_
  rintro e w1 ⟨v, P, rfl, hP, ho, hb⟩
  have HB := Lib.hid hb
  obtain ⟨p, rfl, hp⟩ : ∃ p : Ru × Value, P = [p] ∧ p.1 = ⟨⟨#[83]⟩, [⟨3, ⟨#[97]⟩, 0⟩]⟩ := by
    simp only [headG] at hP
    cases P with
    | nil => simp at hP
    | cons p P =>
      simp only [List.map_cons, List.cons.injEq, List.map_eq_nil_iff] at hP
      exact ⟨p, by rw [hP.2], hP.1⟩
  obtain ⟨⟨ph, pb⟩, pv⟩ := p
  simp only [Ru.mk.injEq] at hp
  obtain ⟨rfl, rfl⟩ := hp
  obtain ⟨b, off, cap, rfl, hbl, hcap, x0, x1, hrd⟩ := RdP.at ho.rd (i := 0) rfl
  have HRd := Lib.hid hrd
  obtain ⟨_, ao3, cp3, hv2, -⟩ := id hrd
  simp only at hv2
  subst hv2
  simp only [Nat.zero_mul, Nat.add_zero] at x0 x1
  clear hb ho hP hrd hcap
  have hl1 : [(⟨3, ⟨#[97]⟩, 0⟩ : Nd)].length = 1 := rfl
  rw [hl1] at x1 HRd
  go_wp2_with fail
  have HW := Lib.hid (below1 w1 (.cells #[.int .i64 3, .string ⟨#[97]⟩, .int .i64 0] 57))
  refine (rSame_any _ _ [⟨3, ⟨#[97]⟩, 0⟩] [⟨3, ⟨#[97]⟩, 0⟩] _ (RdNd.below HRd.out HW.out) (one_nd w1 _ _ ⟨3, ⟨#[97]⟩, 0⟩) (by decide) (by decide)).mono ?_
  rintro e w2 ⟨rfl, hb2⟩
  have HB2 := Lib.hid ((HB.out.trans (HW.out.mono HB.out.size)).trans (hb2.mono (HB.out.trans (HW.out.mono HB.out.size)).size))
  clear hb2 HRd HW x0 x1
  rw [decide_eq_true (show [(⟨3, ⟨#[97]⟩, 0⟩ : Nd)] = [⟨3, ⟨#[97]⟩, 0⟩] from rfl)]
  go_wp2_with fail
  refine (H2.out _).mono ?_
  rintro e w3 ⟨v3, P3, rfl, -, ho3, hb3⟩
  have HB3 := Lib.hid (HB2.out.trans (hb3.mono HB2.out.size))
  obtain ⟨_, ao4, cp4, rfl, -⟩ := Rd.of_owns ho3.row
  clear ho3 hb3
  go_wp2_with fail
  refine (H3.out _).mono ?_
  rintro e w4 ⟨rfl, hb4⟩
  have HB4 := Lib.hid (HB3.out.trans (hb4.mono HB3.out.size))
  clear hb4
  go_wp2_with fail
  go_ret
  exact ⟨rfl, HB4.out⟩
end Go.Proofs.YtkmjmfcanlknjaaGreat
namespace Go.Proofs.YtkmjmfcanlknjaaGreat
open Go.RowKit

/-! ### plain: a grammar's text is read as that grammar -/
noncomputable def tkR (r : Ru) : List TK := (1, r.h) :: (4, ⟨#[61]⟩) :: (tkN (pickT r.b).1 (pickT r.b).2.tk ++ [(5, ⟨#[59]⟩)])
noncomputable def tkG (G : List Ru) : List TK := G.flatMap tkR
theorem blank_not_inner : innerI ((32 : UInt8).toNat : Int) = false := by decide
theorem lex_tree {N : List Nd} (h : treeB N = true) : LexTo true (textN N).data.toList (tkN (pickT N).1 (pickT N).2.tk) := by
  have hG := pickT_good h
  exact (lex_tx (Fo.cons (pickT N).1 (pickT N).2 .nil) hG.wf hG.all 0 ((pickT N).1.k, txN (pickT N).1 (pickT N).2.tx) ((pickT N).1.k, tkN (pickT N).1 (pickT N).2.tk) rfl rfl).2
theorem lex_rule (r : Ru) (h : nameB r.h 1 = true) (h2 : treeB r.b = true) : LexTo false (textR r).data.toList (tkR r) := by
  have l1 := LexTo.name r.h 1 ((nameB_iff _ _).1 h) (.inl rfl)
  have l2 := LexTo.blank 32 (by decide)
  have l3 := LexTo.sign 61 4 (by decide) (by decide)
  have l4 := lex_tree h2
  have l5 := LexTo.sign 59 5 (by decide) (by decide)
  have l6 := LexTo.blank 10 (by decide)
  have a6 := l5.app l6 (.inl rfl)
  have a5 := l2.app a6 (.inl rfl)
  have a4 := l4.app a5 (.inr ⟨32, _, rfl, blank_not_inner⟩)
  have a3 := l2.app a4 (.inl rfl)
  have a2 := l3.app a3 (.inl rfl)
  have a1 := l2.app a2 (.inl rfl)
  have a0 := l1.app a1 (.inr ⟨32, _, rfl, blank_not_inner⟩)
  have e1 : (textR r).data.toList = r.h.data.toList ++ ([32] ++ ([61] ++ ([32] ++ ((textN r.b).data.toList ++ ([32] ++ ([59] ++ [10])))))) := by
    unfold textR
    simp [ByteArray.data_append]
  have e2 : tkR r = [(1, r.h)] ++ ([] ++ ([(4, (⟨#[61]⟩ : ByteArray))] ++ ([] ++ (tkN (pickT r.b).1 (pickT r.b).2.tk ++ ([] ++ ([(5, (⟨#[59]⟩ : ByteArray))] ++ [])))))) := by
    unfold tkR; simp
  rw [e1, e2]
  exact a0
theorem lex_grammar (G : List Ru) (h : treesB G = true) : LexTo false (textG G).data.toList (tkG G) := by
  induction G with
  | nil => exact LexTo.nil
  | cons r G ih =>
    have h2 : (nameB r.h 1 && treeB r.b) = true ∧ treesB G = true := by unfold treesB at h ⊢; rw [List.all_cons, Bool.and_eq_true] at h; exact h
    have h3 := h2.1
    rw [Bool.and_eq_true] at h3
    rw [textG_cons, ByteArray.data_append, Array.toList_append]
    exact (lex_rule r h3.1 h3.2).app (ih h2.2) (.inl rfl)
theorem cut_grammar (G : List Ru) (h : treesB G = true) : (cut (textG G) 0).1.map tkOf = tkG G ∧ (cut (textG G) 0).2 = (textG G).size := by
  obtain ⟨h1, h2⟩ := lex_grammar G h (textG G) [] [] (by simp) (fun hf => by cases hf)
  have hz : ([] : List UInt8).length + (textG G).data.toList.length = (textG G).size := by rw [List.length_nil, Array.length_toList, Nat.zero_add]; rfl
  rw [hz, cut_end] at h1 h2
  exact ⟨by simpa using h1, h2⟩
/-- the marks of a tree are none of the signs = and ; -/
def NoStop (T : List TK) : Prop := ∀ q ∈ T, q.1 ≠ 4 ∧ q.1 ≠ 5
theorem NoStop.app {A B : List TK} (h : NoStop A) (k : NoStop B) : NoStop (A ++ B) := fun q hq => (List.mem_append.1 hq).elim (h q) (k q)
theorem NoStop.one {k : Int} {t : ByteArray} (h : k ≠ 4 ∧ k ≠ 5) : NoStop [(k, t)] := fun q hq => by rw [List.mem_singleton.1 hq]; exact h
theorem NoStop.join {sep : List TK} (hs : NoStop sep) : ∀ {us : List (List TK)}, (∀ u ∈ us, NoStop u) → NoStop (joinT sep us)
  | [], _ => fun q hq => by simp [joinT] at hq
  | x :: r, h => by
    refine (h x (by simp)).app fun q hq => ?_
    obtain ⟨u, hu, hq⟩ := List.mem_flatMap.1 hq
    exact (hs.app (h u (by simp [hu]))) q hq
theorem nostop_brk {pk k : Int} {t : List TK} (h : NoStop t) : NoStop (brkK pk k t) := by
  unfold brkK
  split
  · exact fun q hq => by
      rcases List.mem_cons.1 hq with rfl | hq
      · exact ⟨by decide, by decide⟩
      · exact (h.app (NoStop.one ⟨by decide, by decide⟩)) q hq
  · exact h
theorem nostop_tk (f : Fo) : ∀ p ∈ f.tk, NoStop p.2 := by
  induction f with
  | nil => intro p hp; simp [Fo.tk] at hp
  | cons x k r ih1 ih2 =>
    intro p hp
    rcases List.mem_cons.1 (show p ∈ (x.k, tkN x k.tk) :: r.tk from hp) with rfl | hp
    · show NoStop (tkN x k.tk)
      unfold tkN
      split
      · exact NoStop.one ⟨by decide, by decide⟩
      · split
        · exact NoStop.one ⟨by decide, by decide⟩
        · split
          · exact NoStop.one ⟨by decide, by decide⟩
          · refine NoStop.app (NoStop.join ?_ ?_) ?_
            · unfold sepT; split
              · exact NoStop.one ⟨by decide, by decide⟩
              · exact fun q hq => by cases hq
            · intro u hu
              obtain ⟨p, hp, rfl⟩ := List.mem_map.1 hu
              exact nostop_brk (ih1 p hp)
            · unfold signT
              repeat (first | (split; · exact NoStop.one ⟨by decide, by decide⟩) | exact fun q hq => by cases hq)
    · exact ih2 p hp
theorem nostop_tree (x : Nd) (k : Fo) : NoStop (tkN x k.tk) := nostop_tk (.cons x k .nil) (x.k, tkN x k.tk) (by simp [Fo.tk])
/-- marks up to the first stop -/
theorem seg_tree {L : List Mk} {p : Nat} {T : List TK} {k : Int} {t : ByteArray} (h : HasT L p (T ++ [(k, t)])) (hn : NoStop T) (hk : k = 4 ∨ k = 5) : (seg L p).length = T.length ∧ HasT (seg L p) 0 T := by
  have hfit := h.fit
  rw [List.length_append, List.length_cons, List.length_nil] at hfit
  have hT := h.left
  have hS := h.right.head
  have h1 : (seg L p).length = T.length := by
    rcases Nat.lt_trichotomy (seg L p).length T.length with h1 | h1 | h1
    · obtain ⟨q, hq⟩ : ∃ q, T[(seg L p).length]? = some q := ⟨_, List.getElem?_eq_getElem h1⟩
      have h2 := (hT.at' _ q hq).1
      have h3 := seg_end L p (by omega)
      have h4 := hn q (List.mem_of_getElem? hq)
      omega
    · exact h1
    · have h2 := seg_in L p T.length h1
      have h3 := hS.1
      simp only at h3
      omega
  refine ⟨h1, ⟨by omega, fun i q hq => ?_⟩⟩
  have hi := (List.getElem?_eq_some_iff.1 hq).1
  obtain ⟨e1, e2⟩ := seg_kd L p i (by omega)
  rw [Nat.zero_add, e1, e2]
  exact hT.at' i q hq
theorem rule_self {L : List Mk} {p : Nat} (r : Ru) (_ : nameB r.h 1 = true) (h2 : treeB r.b = true) (hT : HasT L p (tkR r)) : ruleP L p = (some r, p + (tkR r).length) := by
  have hG := pickT_good h2
  have hg : GoodF (.cons (pickT r.b).1 (pickT r.b).2 .nil) := ⟨hG.wf, hG.all⟩
  obtain ⟨k1, t1, hT1, -⟩ := HasT.head hT
  obtain ⟨k2, t2, hT2, -⟩ := HasT.head hT1
  simp only at k1 k2 t1
  have hns := nostop_tree (pickT r.b).1 (pickT r.b).2
  obtain ⟨hsl, hsT⟩ := seg_tree hT2 hns (.inr rfl)
  have hh := (height_tk _ hg).1
  have e : tkSum (.cons (pickT r.b).1 (pickT r.b).2 .nil) = (tkN (pickT r.b).1 (pickT r.b).2.tk).length := by simp [tkSum, Fo.tk]
  simp only [Fo.height, Fo.len] at hh
  have hfl := hG.flat
  obtain ⟨k3, -, -, -⟩ := HasT.head hT2.right
  simp only at k3
  generalize hTT : tkN (pickT r.b).1 (pickT r.b).2.tk = T at *
  have hb : bodyP L (p + 1 + 1) = ⟨true, .cons (pickT r.b).1 (pickT r.b).2 .nil, T.length⟩ := by
    unfold bodyP
    have := expr_all (seg L (p + 1 + 1)) ((seg L (p + 1 + 1)).length + 1) (pickT r.b).1 (pickT r.b).2 0 hg (by omega) (by rw [hTT]; exact hsT) (by rw [hTT, kd_none (by omega)]; exact ⟨by decide, by decide, by decide⟩)
    rw [this, hTT, Nat.zero_add]
  have hlen : (tkR r).length = T.length + 3 := by unfold tkR; rw [hTT]; simp
  unfold ruleP
  rw [if_neg (by rw [k1]; decide), if_neg (by rw [k2]; decide), show p + 2 = p + 1 + 1 from rfl, hb, hsl]
  rw [if_pos ⟨rfl, rfl, by rw [k3]⟩]
  simp only [Prod.mk.injEq, Option.some.injEq]
  refine ⟨?_, by omega⟩
  rw [t1, ← hfl]
theorem rules_self {L : List Mk} : ∀ (G : List Ru) (n p : Nat) (g : List Ru), G ≠ [] → treesB G = true → HasT L p (tkG G) → p + (tkG G).length = L.length → L.length - p < n → rulesP L n p g = ⟨true, g ++ G, L.length⟩
  | [], n, p, g, h0, _, _, _, _ => absurd rfl h0
  | r :: G, 0, p, g, _, _, _, _, hn => by omega
  | r :: G, n + 1, p, g, _, h, hT, hl, hn => by
    have h2 : (nameB r.h 1 && treeB r.b) = true ∧ treesB G = true := by unfold treesB at h ⊢; rw [List.all_cons, Bool.and_eq_true] at h; exact h
    have h3 := h2.1
    rw [Bool.and_eq_true] at h3
    have e : tkG (r :: G) = tkR r ++ tkG G := rfl
    rw [e] at hT hl
    rw [List.length_append] at hl
    have hlr : 3 ≤ (tkR r).length := by unfold tkR; simp
    unfold rulesP
    rw [rule_self r h3.1 h3.2 hT.left]
    simp only
    cases G with
    | nil =>
      have e0 : (tkG ([] : List Ru)).length = 0 := rfl
      rw [if_neg (by omega)]
      simp only [GR.mk.injEq, true_and]
      omega
    | cons r2 G =>
      have hl2 : 0 < (tkG (r2 :: G)).length := by
        have e2 : tkG (r2 :: G) = tkR r2 ++ tkG G := rfl
        rw [e2, List.length_append]
        have : 3 ≤ (tkR r2).length := by unfold tkR; simp
        omega
      rw [if_pos (by omega), rules_self (r2 :: G) n _ (g ++ [r]) (by simp) h2.2 hT.right (by omega) (by omega)]
      simp
theorem long_not (G : List Ru) (h : treesB G = true) : longG G = false := by
  unfold longG
  rw [List.any_eq_false]
  intro r hr
  obtain ⟨h1, h2⟩ := trees_mem h hr
  have hn := (nameB_iff _ _).1 h1
  have hG := pickT_good h2
  have hl : longN r.b = false := by
    unfold longN
    rw [List.any_eq_false]
    intro y hy
    rw [hG.flat] at hy
    have := ((Fo.all_flat _).1 hG.all y hy).size
    simp; omega
  rw [hl]
  have := hn.2.1
  simp; omega
theorem check_zero {G : List Ru} (h : checkG G = 0) : 1 ≤ G.length ∧ G.length ≤ 64 ∧ treesB G = true ∧ (textG G).size ≤ 2048 := by
  unfold checkG at h
  split at h
  · omega
  · split at h
    · omega
    · split at h
      · omega
      · split at h
        · omega
        · split at h
          · omega
          · split at h
            · omega
            · split at h
              · omega
              · split at h
                · omega
                · rename_i h1 h2 _ _ _ _ _ h8
                  refine ⟨by omega, by omega, by simpa using h2, by omega⟩
theorem check_deep {G : List Ru} (h : checkG G = 0) : deepB G = false := by
  unfold checkG at h
  split at h
  · omega
  · split at h
    · omega
    · split at h
      · omega
      · split at h
        · omega
        · split at h
          · omega
          · split at h
            · omega
            · rename_i h6; simpa using h6
theorem parsed_grammar {G : List Ru} (h0 : G ≠ []) (ht : treesB G = true) : gParsed (textG G) = ⟨true, G, (cut (textG G) 0).1.length⟩ := by
  obtain ⟨h2, h3⟩ := cut_grammar G ht
  obtain ⟨hT, hl⟩ := HasT.of_map h2
  unfold gParsed
  rw [rules_self G _ 0 [] h0 ht hT (by omega) (by omega)]
  simp
/-- what is printed is read as itself -/
theorem grammar_round {G : List Ru} (h : checkG G = 0) : parseG (textG G) = (G, 0, 0) ∧ (textG G).size ≤ 2048 := by
  obtain ⟨h1, _, ht, hz⟩ := check_zero h
  have h0 : G ≠ [] := by intro e; subst e; simp at h1
  refine ⟨?_, hz⟩
  unfold parseG
  rw [if_neg (by omega), parsed_grammar h0 ht]
  rw [if_neg (by simp), (cut_grammar G ht).2, if_neg (by omega)]
  simp only
  rw [if_neg (by rw [long_not G ht]; simp), if_neg (by simp [h])]
end Go.Proofs.YtkmjmfcanlknjaaGreat
namespace Go.Proofs.YtkmjmfcanlknjaaGreat
open Go.RowKit

/-! ### Same of nodes: it only reads -/
set_option maxRecDepth 100000 in
set_option maxHeartbeats 1600000 in
theorem rSameQ_any (va vb : Value) (la lb : List Nd) (w : World) (ha : RdNd w va la) (hb : RdNd w vb lb) (hla : la.length ≤ 140737488355328) (hlb : lb.length ≤ 140737488355328) :
    Calls Tryz.prog 28 #[va, vb] w fun e w' => e = .returned (.bool (decide (la = lb))) ∧ ∃ m, w' = w.drewN m := by
  obtain ⟨hal, ao, ac, rfl, ha2⟩ := id ha
  obtain ⟨hbl, bo, bc, rfl, hb2⟩ := id hb
  have HA := Lib.hid ha
  have HB := Lib.hid hb
  clear ha hb ha2 hb2 hal hbl
  by_cases hlen : la.length = lb.length
  · have hlen' : ((la.length : Int) != lb.length) = false := by rw [hlen]; simp
    have HL := Lib.hid hlen
    clear hlen
    go_enter Tryz.func28, Tryz.ntmps28
    go_wp2
    go_loopw [5] (fun i wr => ∃ j : Nat, j ≤ la.length ∧ i = .int .i64 j ∧ Hid (∀ q, q < j → la[q]? = lb[q]?) ∧ Hid (∃ m, wr = w.drewN m)) (fun i _ => la.length - (intOf i).toNat)
    case atStart => exact ⟨0, by omega, rfl, fun q h => by omega, ⟨0, rfl⟩⟩
    case round =>
      obtain ⟨j, hj, rfl, HQ, HW⟩ := hrel
      have hcell : ∀ a v, w.cell? a = some v → wr.cell? a = some v := by obtain ⟨m, rfl⟩ := HW.out; exact fun a v h => h
      have HC := Lib.hid hcell
      clear hcell
      by_cases hlt : j < la.length
      · obtain ⟨ma, hma⟩ : ∃ m, la[j]? = some m := ⟨_, List.getElem?_eq_getElem hlt⟩
        obtain ⟨mb, hmb⟩ : ∃ m, lb[j]? = some m := ⟨_, List.getElem?_eq_getElem (by rw [← HL.out]; exact hlt)⟩
        obtain ⟨b1, o1, c1, e1, l1, k1, x0, x1, x2⟩ := (HA.out).at hma
        obtain ⟨b2, o2, c2, e2, l2, k2, y0, y1, y2⟩ := (HB.out).at hmb
        simp only [Value.slice.injEq] at e1 e2
        obtain ⟨rfl, -, rfl⟩ := e1
        obtain ⟨rfl, -, rfl⟩ := e2
        have X0 := HC.out _ _ x0
        have X1 := HC.out _ _ x1
        have X2 := HC.out _ _ x2
        have Y0 := HC.out _ _ y0
        have Y1 := HC.out _ _ y1
        have Y2 := HC.out _ _ y2
        clear x0 x1 x2 y0 y1 y2
        have hltb : j < lb.length := by rw [← HL.out]; exact hlt
        have H1 := Lib.hid hma
        have H2 := Lib.hid hmb
        clear hma hmb
        have hm := guardNd
        have hne := neqNd ma mb
        go_wp2
        go_quiet (fail)
        go_wp2
        · have hd : (!decide (ma = mb)) = true := by assumption
          go_ret
          refine ⟨?_, (by obtain ⟨m, hm⟩ := HW.out; exact ⟨m + nq, by rw [hm, World.drewN_drewN]⟩)⟩
          have : la ≠ lb := by rintro rfl; have e := H1.out.symm.trans H2.out; simp at e; simp [e] at hd
          rw [decide_eq_false this]; rfl
        · have hd : (!decide (ma = mb)) = false := by assumption
          go_roundw
          case rel =>
            refine ⟨j + 1, by omega, by go_num, ?_, (by obtain ⟨m, hm⟩ := HW.out; exact ⟨m + nq, by rw [hm, World.drewN_drewN]⟩)⟩
            intro q hq
            by_cases h : q = j
            · subst h; rw [H1.out, H2.out]; simpa using hd
            · exact HQ.out q (by omega)
          case measure => simp [intOf]; omega
      · go_wp2
        go_ret
        refine ⟨?_, HW.out⟩
        have : la = lb := by
          apply List.ext_getElem?
          intro q
          by_cases h : q < j
          · exact HQ.out q h
          · rw [List.getElem?_eq_none (by omega), List.getElem?_eq_none (by have := HL.out; omega)]
        rw [decide_eq_true this]; rfl
  · have hlen' : ((la.length : Int) != lb.length) = true := by rw [bne_iff_ne]; omega
    go_enter Tryz.func28, Tryz.ntmps28
    go_wp2
    go_ret
    exact ⟨by rw [decide_eq_false (fun h => hlen (by rw [h]))]; rfl, ⟨0, rfl⟩⟩


/-! ### Same of rules -/
set_option maxRecDepth 100000 in
set_option maxHeartbeats 3200000 in
theorem rSameG_any (va vb : Value) (A B : List Ru) (w : World) (ha : RdRu w va A) (hb : RdRu w vb B) (hla : A.length ≤ 140737488355328) (hlb : B.length ≤ 140737488355328) (hna : nodesG A ≤ 140737488355328) (hnb : nodesG B ≤ 140737488355328) :
    Calls Tryz.prog 17 #[va, vb] w fun e w' => e = .returned (.bool (decide (A = B))) ∧ ∃ m, w' = w.drewN m := by
  obtain ⟨P, rfl, hP⟩ := ha
  obtain ⟨Q, rfl, hQ⟩ := hb
  have HP := Lib.hid hP
  have HQ0 := Lib.hid hQ
  obtain ⟨⟨_, ao, ac, rfl, -⟩, -⟩ := hP
  obtain ⟨⟨_, bo, bc, rfl, -⟩, -⟩ := hQ
  have HNa := Lib.hid hna
  have HNb := Lib.hid hnb
  rw [List.length_map] at hla hlb
  generalize hA : P.map (·.1) = A at *
  generalize hB : Q.map (·.1) = B at *
  have HA := Lib.hid hA
  have HB := Lib.hid hB
  have HAL : Hid (A.length = P.length) := by unfold Hid; rw [← hA, List.length_map]
  have HBL : Hid (B.length = Q.length) := by unfold Hid; rw [← hB, List.length_map]
  clear hA hB hna hnb
  by_cases hlen : P.length = Q.length
  · have hlen' : ((P.length : Int) != Q.length) = false := by rw [hlen]; simp
    have HL := Lib.hid hlen
    clear hlen
    go_enter Tryz.func17, Tryz.ntmps17
    go_wp2
    go_loopw [5] (fun i wr => ∃ j : Nat, j ≤ P.length ∧ i = .int .i64 j ∧ Hid (∀ q, q < j → A[q]? = B[q]?) ∧ Hid (∃ m, wr = w.drewN m)) (fun i _ => P.length - (intOf i).toNat)
    case atStart => exact ⟨0, by omega, rfl, fun q h => by omega, ⟨0, rfl⟩⟩
    case round =>
      obtain ⟨j, hj, rfl, HQ, HW⟩ := hrel
      have hcell : ∀ a v, w.cell? a = some v → wr.cell? a = some v := by obtain ⟨m, rfl⟩ := HW.out; exact fun a v h => h
      have HC := Lib.hid hcell
      have hrdk : ∀ v l, RdNd w v l → RdNd wr v l := by obtain ⟨m, rfl⟩ := HW.out; exact fun v l h => Rd.mono h (fun _ _ _ => rfl) (Nat.le_refl _)
      have HK := Lib.hid hrdk
      clear hcell hrdk
      by_cases hlt : j < P.length
      · obtain ⟨p, hp⟩ : ∃ p, P[j]? = some p := ⟨_, List.getElem?_eq_getElem hlt⟩
        obtain ⟨q, hq⟩ : ∃ q, Q[j]? = some q := ⟨_, List.getElem?_eq_getElem (by rw [← HL.out]; exact hlt)⟩
        obtain ⟨b1, o1, c1, e1, l1, k1, x0, x1, rp⟩ := RdP.at HP.out hp
        obtain ⟨b2, o2, c2, e2, l2, k2, y0, y1, rq⟩ := RdP.at HQ0.out hq
        simp only [Value.slice.injEq] at e1 e2
        obtain ⟨rfl, -, rfl⟩ := e1
        obtain ⟨rfl, -, rfl⟩ := e2
        have X0 := HC.out _ _ x0
        have X1 := HC.out _ _ x1
        have Y0 := HC.out _ _ y0
        have Y1 := HC.out _ _ y1
        have HAj : Hid (A[j]? = some p.1) := by unfold Hid; rw [← HA.out, List.getElem?_map, hp]; rfl
        have HBj : Hid (B[j]? = some q.1) := by unfold Hid; rw [← HB.out, List.getElem?_map, hq]; rfl
        have hltb : j < Q.length := by rw [← HL.out]; exact hlt
        have hbp : p.1.b.length ≤ 140737488355328 := Nat.le_trans (body_le (List.mem_of_getElem? HAj.out)) HNa.out
        have hbq : q.1.b.length ≤ 140737488355328 := Nat.le_trans (body_le (List.mem_of_getElem? HBj.out)) HNb.out
        have HS := Lib.hid (fun x h1 h2 => rSameQ_any p.2 q.2 p.1.b q.1.b x h1 h2 hbp hbq)
        have HRp := Lib.hid (HK.out _ _ rp)
        have HRq := Lib.hid (HK.out _ _ rq)
        obtain ⟨_, ap, cp, hv1, -⟩ := rp
        obtain ⟨_, aq, cq, hv2, -⟩ := rq
        obtain ⟨⟨ph, pb⟩, pv⟩ := p
        obtain ⟨⟨qh, qb⟩, qv⟩ := q
        simp only at hv1 hv2 X0 X1 Y0 Y1 HAj HBj HS HRp HRq
        subst hv1 hv2
        clear x0 x1 y0 y1 hp hq hbp hbq
        by_cases hh : ph = qh
        · subst hh
          have hhb : (ph.toList != ph.toList) = false := by simp
          by_cases hb : pb = qb
          · have HD : Hid (decide (pb = qb) = true) := by simpa [Hid] using hb
            have hb' := Lib.hid hb
            clear hb
            rw [HD.out] at HS
            go_wp2
            go_quiet ((go_at_call 28; exact Calls.quiet_of (HS.out _ (Rd.mono HRp.out (fun _ _ _ => rfl) (Nat.le_refl _)) (Rd.mono HRq.out (fun _ _ _ => rfl) (Nat.le_refl _)))))
            go_wp2
            go_roundw
            case rel =>
              refine ⟨j + 1, by omega, by go_num, ?_, (by obtain ⟨m, hm⟩ := HW.out; exact ⟨m + nq, by rw [hm, World.drewN_drewN]⟩)⟩
              intro q hq
              by_cases h : q = j
              · subst h; rw [HAj.out, HBj.out, hb'.out]
              · exact HQ.out q (by omega)
            case measure => simp [intOf]; omega
          · have HD : Hid (decide (pb = qb) = false) := by simpa [Hid] using hb
            have hb' := Lib.hid hb
            clear hb
            rw [HD.out] at HS
            go_wp2
            go_quiet ((go_at_call 28; exact Calls.quiet_of (HS.out _ (Rd.mono HRp.out (fun _ _ _ => rfl) (Nat.le_refl _)) (Rd.mono HRq.out (fun _ _ _ => rfl) (Nat.le_refl _)))))
            go_wp2
            go_ret
            refine ⟨?_, (by obtain ⟨m, hm⟩ := HW.out; exact ⟨m + nq, by rw [hm, World.drewN_drewN]⟩)⟩
            have : A ≠ B := by intro e; have e2 := HAj.out.symm.trans ((congrArg (·[j]?) e).trans HBj.out); simp at e2; exact hb'.out e2
            rw [decide_eq_false this]; rfl
        · have hhb : (ph.toList != qh.toList) = true := by
            simp only [bne_iff_ne, ne_eq]
            exact fun h => hh ((toList_inj _ _).1 h)
          have hhb2 : (ph.toList == qh.toList) = false := by
            simp only [beq_eq_false_iff_ne, ne_eq]
            exact fun h => hh ((toList_inj _ _).1 h)
          have hh' := Lib.hid hh
          clear hh
          go_wp2
          go_quiet (fail)
          go_wp2
          go_ret
          refine ⟨?_, (by obtain ⟨m, hm⟩ := HW.out; exact ⟨m + nq, by rw [hm, World.drewN_drewN]⟩)⟩
          have : A ≠ B := by intro e; have e2 := HAj.out.symm.trans ((congrArg (·[j]?) e).trans HBj.out); simp at e2; exact hh'.out e2.1
          rw [decide_eq_false this]; rfl
      · go_wp2
        go_ret
        refine ⟨?_, HW.out⟩
        have : A = B := by
          apply List.ext_getElem?
          intro q
          by_cases h : q < j
          · exact HQ.out q h
          · rw [List.getElem?_eq_none (by have := HAL.out; omega), List.getElem?_eq_none (by have := HBL.out; have := HL.out; omega)]
        rw [decide_eq_true this]; rfl
  · have hlen' : ((P.length : Int) != Q.length) = true := by simp; omega
    have hne : A ≠ B := by intro e; have := congrArg List.length e; rw [HAL.out, HBL.out] at this; exact hlen this
    have HN := Lib.hid hne
    clear hlen hne
    go_enter Tryz.func17, Tryz.ntmps17
    go_wp2
    go_ret
    exact ⟨by rw [decide_eq_false HN.out]; rfl, 0, rfl⟩
/-! ### Print -/
noncomputable def printG (G : List Ru) : ByteArray := if checkG G = 0 then textG G else ⟨#[]⟩
set_option maxRecDepth 100000 in
set_option maxHeartbeats 1600000 in
theorem xPrintG_any (v : Value) (G : List Ru) (w : World) (h : RdRu w v G) (hl : LimG G) (hn : nodesG G ≤ 16777216) :
    Calls Tryz.prog 18 #[v] w fun e w' => e = .returned (.tuple #[.string (printG G), .int .i64 (checkG G)]) ∧ Below w.heap.size w w' := by
  have HC := Lib.hid (xCheckG_any v G w h hl hn)
  have HV := Lib.hid h
  obtain ⟨P, hG, hR⟩ := h
  obtain ⟨⟨_, ao, cap, rfl, -⟩, -⟩ := hR
  clear hG
  by_cases hc : checkG G = 0
  · obtain ⟨-, h1, h2, h3⟩ := check_zero hc
    have hd : deepB G = false := check_deep hc
    have HT := Lib.hid (fun w h => xText_any (.slice ao P.length cap) G w h h1 hn h2 hd)
    have HZ : Hid ((textG G).size ≤ 2048) := h3
    have HD : Hid (decide ((textG G).size ≤ 2048) = true) := by simpa [Hid] using h3
    have hp : printG G = textG G := by unfold printG; rw [if_pos hc]
    rw [hp, hc]
    rw [hc] at HC
    rw [HD.out] at HT
    clear hc h1 h2 h3 hd hp
    go_enter Tryz.func18, Tryz.ntmps18
    go_wp2_with fail
    refine (HC.out).mono ?_
    rintro e w1 ⟨rfl, hb1⟩
    have HB1 := Lib.hid hb1
    clear hb1
    go_wp2_with fail
    refine (HT.out _ (HV.out.below HB1.out)).mono ?_
    rintro e w2 ⟨t, rfl, ht, hb2⟩
    have HB2 := Lib.hid (HB1.out.trans (hb2.mono HB1.out.size))
    have HTt : Hid (t = textG G) := ht HZ.out
    clear hb2 ht
    go_wp2_with fail
    go_ret2
    exact ⟨by rw [HTt.out]; rfl, HB2.out⟩
  · have hp : printG G = ⟨#[]⟩ := by unfold printG; rw [if_neg hc]
    have hcb : (checkG G != 0) = true := by simpa using hc
    rw [hp]
    clear hc hp
    generalize checkG G = c at *
    go_enter Tryz.func18, Tryz.ntmps18
    go_wp2_with fail
    refine (HC.out).mono ?_
    rintro e w1 ⟨rfl, hb1⟩
    have HB1 := Lib.hid hb1
    clear hb1
    go_wp2_with fail
    go_ret2
    exact ⟨rfl, HB1.out⟩
set_option maxRecDepth 100000 in
set_option maxHeartbeats 1600000 in
theorem rPrintG_any (v : Value) (G : List Ru) (w : World) (h : RdRu w v G) (hl : LimG G) (hn : nodesG G ≤ 16777216) :
    Calls Tryz.prog 19 #[v] w fun e w' => e = .returned (.tuple #[.string (printG G), .int .i64 (checkG G)]) ∧ Below w.heap.size w w' := by
  have HC := Lib.hid (rCheckG_any v G w h hl hn)
  have HV := Lib.hid h
  obtain ⟨P, hG, hR⟩ := h
  obtain ⟨⟨_, ao, cap, rfl, -⟩, -⟩ := hR
  clear hG
  by_cases hc : checkG G = 0
  · obtain ⟨-, h1, h2, h3⟩ := check_zero hc
    have HT := Lib.hid (fun w h => rText_any (.slice ao P.length cap) G w h h1 hn h2)
    have hp : printG G = textG G := by unfold printG; rw [if_pos hc]
    rw [hp, hc]
    rw [hc] at HC
    clear hc h1 h2 h3 hp
    go_enter Tryz.func19, Tryz.ntmps19
    go_wp2_with fail
    refine (HC.out).mono ?_
    rintro e w1 ⟨rfl, hb1⟩
    have HB1 := Lib.hid hb1
    clear hb1
    go_wp2_with fail
    refine (HT.out _ (HV.out.below HB1.out)).mono ?_
    rintro e w2 ⟨rfl, hb2⟩
    have HB2 := Lib.hid (HB1.out.trans (hb2.mono HB1.out.size))
    clear hb2
    go_wp2_with fail
    go_ret2
    exact ⟨rfl, HB2.out⟩
  · have hp : printG G = ⟨#[]⟩ := by unfold printG; rw [if_neg hc]
    have hcb : (checkG G != 0) = true := by simpa using hc
    rw [hp]
    clear hc hp
    generalize checkG G = c at *
    go_enter Tryz.func19, Tryz.ntmps19
    go_wp2_with fail
    refine (HC.out).mono ?_
    rintro e w1 ⟨rfl, hb1⟩
    have HB1 := Lib.hid hb1
    clear hb1
    go_wp2_with fail
    go_ret2
    exact ⟨rfl, HB1.out⟩
end Go.Proofs.YtkmjmfcanlknjaaGreat
namespace Go.Proofs.YtkmjmfcanlknjaaGreat
open Go.RowKit

theorem rdRu_shapeK {w : World} {v : Value} {G : List Ru} (h : RdRu w v G) : ∃ a c, v = .slice a G.length c := by
  obtain ⟨P, rfl, hR⟩ := h
  obtain ⟨⟨_, ao, cap, rfl, -⟩, -⟩ := hR
  exact ⟨ao, cap, by rw [List.length_map]⟩
theorem ownP_shape {w : World} {B : Nat} {v : Value} {P : List (Ru × Value)} {G : List Ru} (h : OwnP w B v P) (hP : P.map (·.1) = G) : ∃ a c, v = .slice a G.length c := rdRu_shapeK ⟨P, hP, h.rd⟩
/-! ### the law BnfChecks -/
set_option maxRecDepth 100000 in
set_option maxHeartbeats 3200000 in
theorem bnfChecks_any (v : Value) (G : List Ru) (w : World) (h : RdRu w v G) (hb : Bulk G 1048576) :
    Calls Tryz.prog 3 #[v] w fun e w' => e = .returned (.bool true) ∧ Below w.heap.size w w' := by
  have hl := hb.lim (by omega)
  have hl2 := hb.len
  have hn := hb.nodes
  clear hb
  have HV := Lib.hid h
  have H1 := Lib.hid (rCopyG_any v G w h hl (by omega))
  have H2 := Lib.hid (fun v w h => xCheckG_any v G w h hl (by omega))
  have H3 := Lib.hid (fun w h => rCheckG_any v G w h hl (by omega))
  obtain ⟨a0, c0, rfl⟩ := rdRu_shapeK h
  clear h hl hn hl2
  generalize checkG G = c at *
  have hcc : (c == c) = true := by simp
  go_enter Tryz.func3, Tryz.ntmps3
  go_wp2_with fail
  refine (H1.out).mono ?_
  rintro e w1 ⟨v1, P1, rfl, hP1, ho1, hb1⟩
  have HR1 : Hid (RdRu w1 v1 G) := ⟨P1, hP1, ho1.rd⟩
  have HB1 := Lib.hid hb1
  obtain ⟨a1, c1, rfl⟩ := ownP_shape ho1 hP1
  clear hb1 ho1 hP1
  go_wp2_with fail
  refine (H2.out _ _ HR1.out).mono ?_
  rintro e w2 ⟨rfl, hb2⟩
  have HB2 := Lib.hid (HB1.out.trans (hb2.mono HB1.out.size))
  clear hb2
  go_wp2_with fail
  refine (headG_any _).mono ?_
  rintro e w3 ⟨rfl, hb3⟩
  have HB3 := Lib.hid (HB2.out.trans (hb3.mono HB2.out.size))
  clear hb3
  go_wp2_with fail
  refine (H3.out _ (HV.out.below HB3.out)).mono ?_
  rintro e w4 ⟨rfl, hb4⟩
  have HB4 := Lib.hid (HB3.out.trans (hb4.mono HB3.out.size))
  clear hb4
  go_wp2_with fail
  go_ret
  exact ⟨rfl, HB4.out⟩
/-! ### the law BnfPrints -/
set_option maxRecDepth 100000 in
set_option maxHeartbeats 3200000 in
theorem bnfPrints_any (v : Value) (G : List Ru) (w : World) (h : RdRu w v G) (hb : Bulk G 1048576) :
    Calls Tryz.prog 7 #[v] w fun e w' => e = .returned (.bool true) ∧ Below w.heap.size w w' := by
  have hl := hb.lim (by omega)
  have hl2 := hb.len
  have hn := hb.nodes
  clear hb
  have HV := Lib.hid h
  have H1 := Lib.hid (rCopyG_any v G w h hl (by omega))
  have H2 := Lib.hid (fun v w h => xPrintG_any v G w h hl (by omega))
  have H3 := Lib.hid (fun w h => rPrintG_any v G w h hl (by omega))
  obtain ⟨a0, c0, rfl⟩ := rdRu_shapeK h
  clear h hl hn hl2
  generalize checkG G = c at *
  generalize printG G = t at *
  have hcc : (c == c) = true := by simp
  have htt : (t.toList == t.toList) = true := by simp
  go_enter Tryz.func7, Tryz.ntmps7
  go_wp2_with fail
  refine (H1.out).mono ?_
  rintro e w1 ⟨v1, P1, rfl, hP1, ho1, hb1⟩
  have HR1 : Hid (RdRu w1 v1 G) := ⟨P1, hP1, ho1.rd⟩
  have HB1 := Lib.hid hb1
  obtain ⟨a1, c1, rfl⟩ := ownP_shape ho1 hP1
  clear hb1 ho1 hP1
  go_wp2_with fail
  refine (H2.out _ _ HR1.out).mono ?_
  rintro e w2 ⟨rfl, hb2⟩
  have HB2 := Lib.hid (HB1.out.trans (hb2.mono HB1.out.size))
  clear hb2
  go_wp2_with fail
  refine (H3.out _ (HV.out.below HB2.out)).mono ?_
  rintro e w3 ⟨rfl, hb3⟩
  have HB3 := Lib.hid (HB2.out.trans (hb3.mono HB2.out.size))
  clear hb3
  go_wp2_with fail
  refine (headG_any _).mono ?_
  rintro e w4 ⟨rfl, hb4⟩
  have HB4 := Lib.hid (HB3.out.trans (hb4.mono HB3.out.size))
  clear hb4
  go_wp2_with fail
  go_ret
  exact ⟨rfl, HB4.out⟩
/-! ### the law BnfRound -/
set_option maxRecDepth 100000 in
set_option maxHeartbeats 6400000 in
theorem bnfRound_any (v : Value) (G : List Ru) (w : World) (h : RdRu w v G) (hb : Bulk G 1048576) :
    Calls Tryz.prog 8 #[v] w fun e w' => e = .returned (.bool true) ∧ Below w.heap.size w w' := by
  have hl := hb.lim (by omega)
  have hl2 := hb.len
  have hn := hb.nodes
  clear hb
  have HV := Lib.hid h
  have H1 := Lib.hid (fun w h => rCopyG_any v G w h hl (by omega))
  have H2 := Lib.hid (fun v w h => xPrintG_any v G w h hl (by omega))
  have H3 := Lib.hid (fun v w h => xCheckG_any v G w h hl (by omega))
  have HS := Lib.hid (fun (va vb : Value) (w : World) (h1 : RdRu w va G) (h2 : RdRu w vb G) => rSameG_any va vb G G w h1 h2 (by omega) (by omega) (by omega) (by omega))
  rw [decide_eq_true (rfl : G = G)] at HS
  obtain ⟨a0, c0, rfl⟩ := rdRu_shapeK h
  clear h hl hn hl2
  by_cases hc : checkG G = 0
  · obtain ⟨hr, hz⟩ := grammar_round hc
    have hp : printG G = textG G := by unfold printG; rw [if_pos hc]
    have HP := Lib.hid (fun w => xParseG_any (textG G) w)
    rw [hr] at HP
    rw [hc, hp] at H2
    have hz1 : decide ((textG G).size ≤ 2048) = true := by simpa using hz
    have hz2 : decide (((textG G).size : Int) ≤ 2048) = true := by simp; omega
    clear hc hr hp hz H3
    generalize textG G = t at *
    go_enter Tryz.func8, Tryz.ntmps8
    go_wp2_with fail
    refine (H1.out _ HV.out).mono ?_
    rintro e w1 ⟨v1, P1, rfl, hP1, ho1, hb1⟩
    have HR1 : Hid (RdRu w1 v1 G) := ⟨P1, hP1, ho1.rd⟩
    have HB1 := Lib.hid hb1
    obtain ⟨a1, c1, rfl⟩ := ownP_shape ho1 hP1
    clear hb1 ho1 hP1
    go_wp2_with fail
    refine (H2.out _ _ HR1.out).mono ?_
    rintro e w2 ⟨rfl, hb2⟩
    have HB2 := Lib.hid (HB1.out.trans (hb2.mono HB1.out.size))
    clear hb2
    go_wp2_with fail
    refine (headG_any _).mono ?_
    rintro e w3 ⟨rfl, hb3⟩
    have HB3 := Lib.hid (HB2.out.trans (hb3.mono HB2.out.size))
    clear hb3
    go_wp2_with fail
    refine (HP.out _).mono ?_
    rintro e w4 ⟨v4, P4, rfl, hP4, ho4, hb4⟩
    have HB4 := Lib.hid (HB3.out.trans (hb4.mono HB3.out.size))
    have HR4 : Hid (RdRu w4 v4 G) := ⟨P4, hP4, ho4.rd⟩
    obtain ⟨a4, c4, rfl⟩ := ownP_shape ho4 hP4
    clear hb4 ho4 hP4
    go_wp2_with fail
    refine (HS.out _ _ _ HR4.out (HV.out.below HB4.out)).mono ?_
    rintro e w5 ⟨rfl, nq, rfl⟩
    go_wp2_with fail
    go_ret
    exact ⟨rfl, below_drewN HB4.out _⟩
  · generalize checkG G = c at *
    have hcb : (c != 0) = true := by simpa using hc
    have hcc : (c == c) = true := by simp
    clear hc
    go_enter Tryz.func8, Tryz.ntmps8
    go_wp2_with fail
    refine (H1.out _ HV.out).mono ?_
    rintro e w1 ⟨v1, P1, rfl, hP1, ho1, hb1⟩
    have HR1 : Hid (RdRu w1 v1 G) := ⟨P1, hP1, ho1.rd⟩
    have HB1 := Lib.hid hb1
    obtain ⟨a1, c1, rfl⟩ := ownP_shape ho1 hP1
    clear hb1 ho1 hP1
    go_wp2_with fail
    refine (H2.out _ _ HR1.out).mono ?_
    rintro e w2 ⟨rfl, hb2⟩
    have HB2 := Lib.hid (HB1.out.trans (hb2.mono HB1.out.size))
    clear hb2
    go_wp2_with fail
    refine (headG_any _).mono ?_
    rintro e w3 ⟨rfl, hb3⟩
    have HB3 := Lib.hid (HB2.out.trans (hb3.mono HB2.out.size))
    clear hb3
    go_wp2_with fail
    refine (H1.out _ (HV.out.below HB3.out)).mono ?_
    rintro e w4 ⟨v4, P4, rfl, hP4, ho4, hb4⟩
    have HB4 := Lib.hid (HB3.out.trans (hb4.mono HB3.out.size))
    have HR4 : Hid (RdRu w4 v4 G) := ⟨P4, hP4, ho4.rd⟩
    obtain ⟨a4, c4, rfl⟩ := ownP_shape ho4 hP4
    clear hb4 ho4 hP4
    go_wp2_with fail
    refine (H3.out _ _ HR4.out).mono ?_
    rintro e w5 ⟨rfl, hb5⟩
    have HB5 := Lib.hid (HB4.out.trans (hb5.mono HB4.out.size))
    clear hb5
    go_wp2_with fail
    go_ret
    exact ⟨rfl, HB5.out⟩
/-! ### the law BnfAgain -/
theorem parseG_ok {s : ByteArray} (h : (parseG s).2.2 = 0) : checkG (parseG s).1 = 0 ∧ LimG (parseG s).1 ∧ nodesG (parseG s).1 ≤ 4096 ∧ (parseG s).1.length ≤ 2048 := by
  unfold parseG at h ⊢
  split at h
  · simp at h
  · split at h
    · simp at h
    · split at h
      · simp at h
      · split at h
        · simp at h
        · split at h
          · rename_i hz; exact absurd h hz
          · rename_i h1 h2 h3 h4 h5
            rw [if_neg h1, if_neg h2, if_neg h3, if_neg h4, if_neg h5]
            have hok : (gParsed s).ok = true := by simpa using h2
            have g1 := (cut_len s s.size 0 (by omega) (by omega)).1
            have g2 := rules_size (cut s 0).1 ((cut s 0).1.length + 1) 0 [] (by omega) (by omega) hok
            have e0 : nodesG [] = 0 := rfl
            rw [e0, List.length_nil] at g2
            have g3 : (gParsed s).g.length ≤ 0 + ((cut s 0).1.length - 0) := g2.1
            have g4 : nodesG (gParsed s).g ≤ 0 + 2 * ((cut s 0).1.length - 0) := g2.2
            have hlg : longG (gParsed s).g = false := by simpa using h4
            refine ⟨by simpa using h5, ?_, by simp only; omega, by simp only; omega⟩
            unfold longG at hlg
            rw [List.any_eq_false] at hlg
            refine ⟨by simp only; omega, by simp only; omega, fun r hr => ?_, fun r hr x hx => ?_⟩
            · have := hlg r hr
              simp only [Bool.or_eq_true, decide_eq_true_eq, not_or] at this
              omega
            · have := hlg r hr
              simp only [Bool.or_eq_true, decide_eq_true_eq, not_or] at this
              have h2 := this.2
              unfold longN at h2
              have h3 : (r.b.any fun x => decide (16 < x.n.size)) = false := by simpa using h2
              rw [List.any_eq_false] at h3
              have := h3 x hx
              simp only [decide_eq_true_eq] at this
              omega
set_option maxRecDepth 100000 in
set_option maxHeartbeats 6400000 in
theorem bnfAgain_any (s : ByteArray) (w : World) :
    Calls Tryz.prog 9 #[.string s] w fun e w' => e = .returned (.bool true) ∧ Below w.heap.size w w' := by
  have H1 := Lib.hid (xParseG_any s w)
  have HO := Lib.hid (parseG_ok (s := s))
  generalize parseG s = R at *
  obtain ⟨G, at_, er⟩ := R
  simp only at HO
  by_cases he : er = 0
  · subst he
    obtain ⟨hc, hl, hn, hg⟩ := HO.out rfl
    obtain ⟨hr, -⟩ := grammar_round hc
    have hp : printG G = textG G := by unfold printG; rw [if_pos hc]
    have H2 := Lib.hid (fun v w h => xPrintG_any v G w h hl (by omega))
    have HP := Lib.hid (fun w => xParseG_any (textG G) w)
    have HS := Lib.hid (fun (va vb : Value) (w : World) (h1 : RdRu w va G) (h2 : RdRu w vb G) => rSameG_any va vb G G w h1 h2 (by omega) (by omega) (by omega) (by omega))
    rw [decide_eq_true (rfl : G = G)] at HS
    rw [hr] at HP
    rw [hc, hp] at H2
    clear hc hl hn hg hr hp HO
    generalize textG G = t at *
    have htt : (t.toList == t.toList) = true := by simp
    go_enter Tryz.func9, Tryz.ntmps9
    go_wp2_with fail
    refine (H1.out).mono ?_
    rintro e w1 ⟨v1, P1, rfl, hP1, ho1, hb1⟩
    have HR1 : Hid (RdRu w1 v1 G) := ⟨P1, hP1, ho1.rd⟩
    have HB1 := Lib.hid hb1
    obtain ⟨a1, c1, rfl⟩ := ownP_shape ho1 hP1
    clear hb1 ho1 hP1
    go_wp2_with fail
    refine (headG_any _).mono ?_
    rintro e w2 ⟨rfl, hb2⟩
    have HB2 := Lib.hid (HB1.out.trans (hb2.mono HB1.out.size))
    have HR2 := Lib.hid (HR1.out.below hb2)
    clear hb2 HR1
    go_wp2_with fail
    refine (H2.out _ _ HR2.out).mono ?_
    rintro e w3 ⟨rfl, hb3⟩
    have HB3 := Lib.hid (HB2.out.trans (hb3.mono HB2.out.size))
    have HR3 := Lib.hid (HR2.out.below hb3)
    clear hb3 HR2
    go_wp2_with fail
    refine (HP.out _).mono ?_
    rintro e w4 ⟨v4, P4, rfl, hP4, ho4, hb4⟩
    have HB4 := Lib.hid (HB3.out.trans (hb4.mono HB3.out.size))
    have HR4 := Lib.hid (HR3.out.below hb4)
    have HQ4 : Hid (RdRu w4 v4 G) := ⟨P4, hP4, ho4.rd⟩
    obtain ⟨a4, c4, rfl⟩ := ownP_shape ho4 hP4
    clear hb4 ho4 hP4 HR3
    go_wp2_with fail
    refine (H2.out _ _ HQ4.out).mono ?_
    rintro e w5 ⟨rfl, hb5⟩
    have HB5 := Lib.hid (HB4.out.trans (hb5.mono HB4.out.size))
    have HR5 := Lib.hid (HR4.out.below hb5)
    have HQ5 := Lib.hid (HQ4.out.below hb5)
    clear hb5 HR4 HQ4
    go_wp2_with fail
    refine (HS.out _ _ _ HR5.out HQ5.out).mono ?_
    rintro e w6 ⟨rfl, nq, rfl⟩
    go_wp2_with fail
    go_ret
    exact ⟨rfl, below_drewN HB5.out _⟩
  · have heb : (er != 0) = true := by simpa using he
    clear he HO
    go_enter Tryz.func9, Tryz.ntmps9
    go_wp2_with fail
    refine (H1.out).mono ?_
    rintro e w1 ⟨v1, P1, rfl, hP1, ho1, hb1⟩
    have HB1 := Lib.hid hb1
    obtain ⟨a1, c1, rfl⟩ := ownP_shape ho1 hP1
    clear hb1 ho1 hP1
    go_wp2_with fail
    refine (headG_any _).mono ?_
    rintro e w2 ⟨rfl, hb2⟩
    have HB2 := Lib.hid (HB1.out.trans (hb2.mono HB1.out.size))
    clear hb2
    go_wp2_with fail
    go_ret
    exact ⟨rfl, HB2.out⟩
end Go.Proofs.YtkmjmfcanlknjaaGreat
namespace Go.Proofs.YtkmjmfcanlknjaaGreat
open Go.RowKit Go.Shelf

/-! ### plain: where a text goes wrong hangs on what stands ahead of that place -/
theorem parse_syntax (s : ByteArray) : (parseS s).2.2 = 172 ↔ (s.size ≤ 2048 ∧ ¬ ((parsed s).ok = true ∧ (parsed s).p = (cut s 0).1.length ∧ (cut s 0).2 = s.size)) := by
  have hb : ∀ f : Fo, boundsFo f ≠ 172 := by
    intro f
    cases f with
    | nil => decide
    | cons x k r => show boundsF x k ≠ 172; unfold boundsF; split <;> (try split) <;> decide
  constructor
  · intro h
    unfold parseS at h
    split at h
    · unfold readS at h
      split at h
      · exact absurd h (by decide)
      · rename_i hs
        split at h
        · exact absurd h (by simp)
        · rename_i hc; exact ⟨by omega, hc⟩
    · split at h
      · exact absurd h (by simp)
      · split at h
        · exact absurd h (hb _)
        · exact absurd h (by simp)
  · rintro ⟨hs, hc⟩
    have e : readS s = ([], plc (cut s 0).1 (cut s 0).2 (parsed s).p, 172) := by unfold readS; rw [if_neg (by omega), if_neg hc]
    unfold parseS
    rw [e]; rfl
theorem parse_place (s : ByteArray) (h : (parseS s).2.2 = 172) : (parseS s).2.1 = plc (cut s 0).1 (cut s 0).2 (parsed s).p := by
  obtain ⟨hs, hc⟩ := (parse_syntax s).1 h
  have e : readS s = ([], plc (cut s 0).1 (cut s 0).2 (parsed s).p, 172) := by unfold readS; rw [if_neg (by omega), if_neg hc]
  unfold parseS
  rw [e]; rfl
theorem plc_lt {L : List Mk} {en : Int} {p : Nat} {m : Mk} (h : L[p]? = some m) : plc L en p = m.p := by unfold plc; rw [h]
theorem plc_end {L : List Mk} {en : Int} {p : Nat} (h : L.length ≤ p) : plc L en p = en := by unfold plc; rw [List.getElem?_eq_none h]
theorem ag_app (L M : List Mk) : Ag L (L ++ M) L.length := by
  intro i hi
  have e : (L ++ M)[i]? = L[i]? := List.getElem?_append_left hi
  unfold kd tx
  rw [e]; exact ⟨rfl, rfl⟩
theorem ag_take (L : List Mk) (p : Nat) : Ag (L.take p) L p := by
  intro i hi
  have e : (L.take p)[i]? = L[i]? := by rw [List.getElem?_take, if_pos hi]
  unfold kd tx
  rw [e]; exact ⟨rfl, rfl⟩
/-- the place is one of the text -/
theorem cuts_place (s : ByteArray) (h : (parseS s).2.2 = 172) : ∃ a : Nat, (parseS s).2.1 = a ∧ a ≤ s.size := by
  have hlen := cut_len s s.size 0 (by omega) (by omega)
  rw [parse_place s h]
  cases hm : (cut s 0).1[(parsed s).p]? with
  | none => exact ⟨(cut s 0).2, plc_end (List.getElem?_eq_none_iff.1 hm), hlen.2.2⟩
  | some m => exact ⟨m.p, plc_lt hm, (cut_at s s.size 0 _ m (by omega) (by omega) hm).2.1⟩
theorem cuts_short (s : ByteArray) (a : Nat) (h : (parseS s).2.2 = 172) (ha : (parseS s).2.1 = a) (h2 : (parseS (s.extract 0 a)).2.2 = 172) : (parseS (s.extract 0 a)).2.1 = a := by
  have hlen := cut_len s s.size 0 (by omega) (by omega)
  have hpb : PB (cut s 0).1 0 (parsed s) := pExpr_b (cut s 0).1 ((cut s 0).1.length + 1) 0 (by omega)
  have hle := hpb.le
  rw [parse_place s h] at ha
  rw [parse_place _ h2]
  cases hm : (cut s 0).1[(parsed s).p]? with
  | none =>
    have hp := List.getElem?_eq_none_iff.1 hm
    rw [plc_end hp] at ha
    have ha' : (cut s 0).2 = a := by omega
    have e := cut_pre s s.size 0 a (by omega) (by omega) ha'
    have e2 : parsed (s.extract 0 a) = parsed s := by unfold parsed; rw [e]
    rw [e2, e]
    exact plc_end hp
  | some m =>
    rw [plc_lt hm] at ha
    have ha' : m.p = a := by omega
    have e := (cut_at s s.size 0 _ m (by omega) (by omega) hm).2.2
    rw [ha'] at e
    have hlt := (List.getElem?_eq_some_iff.1 hm).1
    have hl : ((cut s 0).1.take (parsed s).p).length = (parsed s).p := by rw [List.length_take]; omega
    have e2 : parsed (s.extract 0 a) = pExpr ((cut s 0).1.take (parsed s).p) ((parsed s).p + 1) 0 := by
      show pExpr (cut (s.extract 0 a) 0).1 ((cut (s.extract 0 a) 0).1.length + 1) 0 = _
      rw [e]; simp only; rw [hl]
    have hB := pExpr_b ((cut s 0).1.take (parsed s).p) ((parsed s).p + 1) 0 (by omega)
    have hge : (parsed s).p ≤ (pExpr ((cut s 0).1.take (parsed s).p) ((parsed s).p + 1) 0).p := by
      rcases Nat.lt_or_ge (pExpr ((cut s 0).1.take (parsed s).p) ((parsed s).p + 1) 0).p (parsed s).p with hlt2 | hge
      · have := pExpr_ag (ag_take (cut s 0).1 (parsed s).p) ((parsed s).p + 1) ((cut s 0).1.length + 1) 0 (by omega) (by omega) (by omega) (by omega) hlt2
        have e3 : pExpr (cut s 0).1 ((cut s 0).1.length + 1) 0 = parsed s := rfl
        rw [e3] at this
        rw [← this] at hlt2
        omega
      · exact hge
    rw [e2, e]
    exact plc_end (by simp only; omega)
theorem cuts_more (s m : ByteArray) (a : Nat) (h : (parseS s).2.2 = 172) (ha : (parseS s).2.1 = a) (hlt : a < s.size) (hsz : s.size + m.size ≤ 2047) :
    (parseS (s ++ ⟨#[32]⟩ ++ m)).2.2 = 172 ∧ (parseS (s ++ ⟨#[32]⟩ ++ m)).2.1 = a := by
  have hlen := cut_len s s.size 0 (by omega) (by omega)
  have hpb : PB (cut s 0).1 0 (parsed s) := pExpr_b (cut s 0).1 ((cut s 0).1.length + 1) 0 (by omega)
  have hle := hpb.le
  have hs1 : (s ++ ⟨#[32]⟩ ++ m).size = s.size + 1 + m.size := by rw [ByteArray.size_append, ByteArray.size_append]; rfl
  have hl : (s ++ ⟨#[32]⟩ ++ m).data.toList = s.data.toList ++ 32 :: m.data.toList := by simp
  have hbt : ∀ i, i < s.size → bt (s ++ ⟨#[32]⟩ ++ m) i = bt s i := fun i hi => by
    unfold bt; rw [hl, List.getD_eq_getElem?_getD, List.getD_eq_getElem?_getD, List.getElem?_append_left (by simpa using hi)]
  have hsp : innerI (bt (s ++ ⟨#[32]⟩ ++ m) s.size) = false := by
    have : bt (s ++ ⟨#[32]⟩ ++ m) s.size = 32 := by
      unfold bt; rw [hl, List.getD_eq_getElem?_getD, List.getElem?_append_right (by simp)]; simp
    rw [this]; decide
  have hex : ∀ a b, b ≤ s.size → (s ++ ⟨#[32]⟩ ++ m).extract a b = s.extract a b := fun a b hb => by
    have e : s = (s ++ ⟨#[32]⟩ ++ m).extract 0 s.size := by
      apply ByteArray.ext
      apply Array.toList_inj.1
      rw [ByteArray.data_extract, Array.toList_extract, hl]
      simp
    conv => rhs; rw [e]
    rw [extract_pre _ _ _ _ hb]
  obtain ⟨M, b, e, hb⟩ := cut_ext s _ (by omega) hbt hex hsp s.size 0 (by omega) (by omega)
  rw [parse_place s h] at ha
  obtain ⟨hs, hc⟩ := (parse_syntax s).1 h
  cases hm : (cut s 0).1[(parsed s).p]? with
  | none =>
    have hp := List.getElem?_eq_none_iff.1 hm
    rw [plc_end hp] at ha
    obtain ⟨rfl, hb2⟩ := hb (by omega)
    rw [List.append_nil] at e
    have e2 : parsed (s ++ ⟨#[32]⟩ ++ m) = parsed s := by unfold parsed; rw [e]
    have h3 : (parseS (s ++ ⟨#[32]⟩ ++ m)).2.2 = 172 := by
      rw [parse_syntax, e]
      refine ⟨by omega, fun ⟨_, _, h⟩ => ?_⟩
      simp only at h; omega
    refine ⟨h3, ?_⟩
    rw [parse_place _ h3, e2, e, plc_end hp]
    simp only; omega
  | some x =>
    rw [plc_lt hm] at ha
    have hx := (List.getElem?_eq_some_iff.1 hm).1
    have e2 : parsed (s ++ ⟨#[32]⟩ ++ m) = parsed s := by
      have := pExpr_ag (ag_app (cut s 0).1 M) ((cut s 0).1.length + 1) (((cut s 0).1 ++ M).length + 1) 0 (by omega) (by omega) (by omega) (by omega) hx
      unfold parsed; rw [e]; exact this
    have h3 : (parseS (s ++ ⟨#[32]⟩ ++ m)).2.2 = 172 := by
      rw [parse_syntax, e, e2]
      refine ⟨by omega, fun ⟨_, h, _⟩ => ?_⟩
      simp only [List.length_append] at h; omega
    refine ⟨h3, ?_⟩
    rw [parse_place _ h3, e2, e]
    have : ((cut s 0).1 ++ M)[(parsed s).p]? = some x := by rw [List.getElem?_append_left hx]; exact hm
    rw [plc_lt this]; exact ha
end Go.Proofs.YtkmjmfcanlknjaaGreat
namespace Go.Proofs.YtkmjmfcanlknjaaGreat
open Go.RowKit

/-! ### plain: where a grammar's text first goes wrong hangs on what stands ahead alone -/
def gRun : List Mk → GW → Nat × GW
  | [], g => (0, g)
  | m :: L, g => if (nextG g m.k).2 = true then ((gRun L (nextG g m.k).1).1 + 1, (gRun L (nextG g m.k).1).2) else (0, g)
theorem gRun_le : ∀ (L : List Mk) (g : GW), (gRun L g).1 ≤ L.length
  | [], _ => Nat.le_refl _
  | m :: L, g => by
    unfold gRun
    split
    · have := gRun_le L (nextG g m.k).1; simp; omega
    · simp
theorem gF_run (L : List Mk) (en : Int) (bad : Bool) : ∀ (n p : Nat) (g : GW), n = L.length - p → p ≤ L.length →
    gF L en bad n p g = if (gRun (L.drop p) g).1 = L.length - p then (if bad = true ∨ (gRun (L.drop p) g).2.s = false then en else -1) else plcR L en (p + (gRun (L.drop p) g).1)
  | 0, p, g, hn, hp => by
    rw [List.drop_eq_nil_of_le (by omega)]
    show (if bad = true ∨ g.s = false then en else -1) = if (0 : Nat) = L.length - p then (if bad = true ∨ g.s = false then en else -1) else plcR L en (p + 0)
    exact (if_pos (by omega)).symm
  | n + 1, p, g, hn, hp => by
    obtain ⟨m, hm, hd⟩ := drop_get (L := L) (p := p) (by omega)
    have hk := kd_some hm
    show (if (nextG g (kd L p)).2 = true then gF L en bad n (p + 1) (nextG g (kd L p)).1 else plcR L en p) = _
    rw [hd, hk]
    unfold gRun
    by_cases h : (nextG g m.k).2 = true
    · rw [if_pos h, if_pos h, gF_run L en bad n (p + 1) _ (by omega) (by omega)]
      simp only
      by_cases h2 : (gRun (L.drop (p + 1)) (nextG g m.k).1).1 = L.length - (p + 1)
      · rw [if_pos h2, if_pos (show (gRun (L.drop (p + 1)) (nextG g m.k).1).1 + 1 = L.length - p from by omega)]
      · rw [if_neg h2, if_neg (show ¬ (gRun (L.drop (p + 1)) (nextG g m.k).1).1 + 1 = L.length - p from by omega), show p + ((gRun (L.drop (p + 1)) (nextG g m.k).1).1 + 1) = p + 1 + (gRun (L.drop (p + 1)) (nextG g m.k).1).1 from by omega]
    · rw [if_neg h, if_neg h]
      simp only
      rw [if_neg (by omega), Nat.add_zero]
theorem gRun_take : ∀ (L : List Mk) (g : GW), gRun (L.take (gRun L g).1) g = gRun L g
  | [], _ => rfl
  | m :: L, g => by
    by_cases h : (nextG g m.k).2 = true
    · have e : gRun (m :: L) g = ((gRun L (nextG g m.k).1).1 + 1, (gRun L (nextG g m.k).1).2) := by conv => lhs; unfold gRun; rw [if_pos h]
      rw [e]
      simp only [List.take_succ_cons]
      conv => lhs; unfold gRun
      rw [if_pos h, gRun_take L _]
    · have e : gRun (m :: L) g = (0, g) := by conv => lhs; unfold gRun; rw [if_neg h]
      rw [e]; rfl
theorem gRun_app : ∀ (L M : List Mk) (g : GW), (gRun L g).1 < L.length → gRun (L ++ M) g = gRun L g
  | [], M, g, h => by simp [gRun] at h
  | m :: L, M, g, h => by
    rw [List.cons_append]
    by_cases hn : (nextG g m.k).2 = true
    · have e : gRun (m :: L) g = ((gRun L (nextG g m.k).1).1 + 1, (gRun L (nextG g m.k).1).2) := by conv => lhs; unfold gRun; rw [if_pos hn]
      rw [e] at h ⊢
      simp only [List.length_cons] at h
      conv => lhs; unfold gRun
      rw [if_pos hn, gRun_app L M _ (by omega)]
    · have e : gRun (m :: L) g = (0, g) := by conv => lhs; unfold gRun; rw [if_neg hn]
      rw [e]
      conv => lhs; unfold gRun
      rw [if_neg hn]
/-- how far the text goes, and in which state the walk ends -/
def gEnd (s : ByteArray) : Nat × GW := gRun (cut s 0).1 ⟨0, 0, false, false⟩
/-- where the text goes wrong; -1: it is a grammar's -/
def gPlace (s : ByteArray) : Int := gF (cut s 0).1 ((cut s 0).2 : Nat) (decide ((cut s 0).2 < s.size)) (cut s 0).1.length 0 ⟨0, 0, false, false⟩
theorem gPlace_run (s : ByteArray) : gPlace s = if (gEnd s).1 = (cut s 0).1.length then (if (cut s 0).2 < s.size ∨ (gEnd s).2.s = false then ((cut s 0).2 : Int) else -1) else plcR (cut s 0).1 ((cut s 0).2 : Nat) (gEnd s).1 := by
  unfold gPlace
  rw [gF_run _ _ _ _ 0 _ (by omega) (by omega)]
  simp only [List.drop_zero, Nat.sub_zero, Nat.zero_add, decide_eq_true_eq]
  rfl
theorem plcR_plc (L : List Mk) (en : Int) (p : Nat) : plcR L en p = plc L en p := rfl
theorem plcR_ge {s : ByteArray} (p : Nat) : 0 ≤ plcR (cut s 0).1 ((cut s 0).2 : Nat) p := by
  unfold plcR; cases (cut s 0).1[p]? <;> simp
theorem parseG_place (s : ByteArray) : ((parseG s).2.2 = 172 ↔ s.size ≤ 2048 ∧ gPlace s ≠ -1) ∧ ((parseG s).2.2 = 172 → (parseG s).2.1 = gPlace s) := by
  have hp := placeG s
  have hpl : gPlace s = _ := hp
  have hck : ∀ G : List Ru, checkG G ≠ 172 := by
    intro G; unfold checkG
    repeat (first | (split; · decide) | decide)
  have hge := plcR_ge (s := s) (gParsed s).p
  unfold parseG
  by_cases h1 : 2048 < s.size
  · rw [if_pos h1]
    refine ⟨⟨fun h => by simp at h, fun h => by omega⟩, fun h => by simp at h⟩
  · rw [if_neg h1]
    cases hok : (gParsed s).ok with
    | false =>
      rw [if_pos rfl]
      rw [hok, if_neg (by simp)] at hpl
      rw [hpl]
      exact ⟨⟨fun _ => ⟨by omega, by omega⟩, fun _ => rfl⟩, fun _ => rfl⟩
    | true =>
      rw [if_neg (by simp)]
      rw [hok, if_pos rfl] at hpl
      by_cases h2 : (cut s 0).2 < s.size
      · rw [if_pos h2] at hpl ⊢
        rw [hpl]
        exact ⟨⟨fun _ => ⟨by omega, by omega⟩, fun _ => rfl⟩, fun _ => rfl⟩
      · rw [if_neg h2] at hpl ⊢
        rw [hpl]
        split
        · exact ⟨⟨fun h => by simp at h, fun h => absurd rfl h.2⟩, fun h => by simp at h⟩
        · split
          · exact ⟨⟨fun h => absurd h (hck _), fun h => absurd rfl h.2⟩, fun h => absurd h (hck _)⟩
          · exact ⟨⟨fun h => by simp at h, fun h => absurd rfl h.2⟩, fun h => by simp at h⟩
theorem gcut_place (s : ByteArray) (h : (parseG s).2.2 = 172) : ∃ a : Nat, (parseG s).2.1 = a ∧ a ≤ s.size := by
  have hlen := cut_len s s.size 0 (by omega) (by omega)
  rw [(parseG_place s).2 h]
  have hne := ((parseG_place s).1.1 h).2
  rw [gPlace_run] at hne ⊢
  split at hne
  · rename_i h1
    rw [if_pos h1]
    split at hne
    · rename_i h2
      rw [if_pos h2]
      exact ⟨_, rfl, hlen.2.2⟩
    · exact absurd rfl hne
  · rename_i h1
    rw [if_neg h1]
    unfold plcR
    cases hm : (cut s 0).1[(gEnd s).1]? with
    | none => exact ⟨_, rfl, hlen.2.2⟩
    | some m => exact ⟨_, rfl, (cut_at s s.size 0 _ m (by omega) (by omega) hm).2.1⟩
theorem gcut_short (s : ByteArray) (a : Nat) (h : (parseG s).2.2 = 172) (ha : (parseG s).2.1 = a) (h2 : (parseG (s.extract 0 a)).2.2 = 172) : (parseG (s.extract 0 a)).2.1 = a := by
  rw [(parseG_place s).2 h] at ha
  rw [(parseG_place _).2 h2]
  have hne := ((parseG_place _).1.1 h2).2
  have hle := gRun_le (cut s 0).1 ⟨0, 0, false, false⟩
  rw [gPlace_run] at ha
  rw [gPlace_run] at hne ⊢
  by_cases h1 : (gEnd s).1 = (cut s 0).1.length
  · rw [if_pos h1] at ha
    have ha' : (cut s 0).2 = a := by
      split at ha
      · omega
      · omega
    have e := cut_pre s s.size 0 a (by omega) (by omega) ha'
    have e2 : gEnd (s.extract 0 a) = gEnd s := by unfold gEnd; rw [e]
    rw [e2, e] at hne ⊢
    simp only at hne ⊢
    rw [if_pos h1] at hne ⊢
    split at hne
    · rename_i h3; rw [if_pos h3]
    · exact absurd rfl hne
  · have hlt : (gEnd s).1 < (cut s 0).1.length := by unfold gEnd at h1 ⊢; omega
    rw [if_neg h1] at ha
    obtain ⟨m, hm⟩ : ∃ m, (cut s 0).1[(gEnd s).1]? = some m := ⟨_, List.getElem?_eq_getElem hlt⟩
    unfold plcR at ha
    rw [hm] at ha
    simp only at ha
    have ha' : m.p = a := by omega
    have e := (cut_at s s.size 0 _ m (by omega) (by omega) hm).2.2
    rw [ha'] at e
    have e2 : gEnd (s.extract 0 a) = gEnd s := by
      have : gRun ((cut s 0).1.take (gEnd s).1) ⟨0, 0, false, false⟩ = gEnd s := gRun_take _ _
      show gRun (cut (s.extract 0 a) 0).1 _ = _
      rw [e]; exact this
    have hl : ((cut s 0).1.take (gEnd s).1).length = (gEnd s).1 := by rw [List.length_take]; omega
    rw [e2, e] at hne ⊢
    simp only at hne ⊢
    rw [if_pos hl.symm] at hne ⊢
    split at hne
    · rename_i h3; rw [if_pos h3]
    · exact absurd rfl hne
theorem gcut_more (s m : ByteArray) (a : Nat) (h : (parseG s).2.2 = 172) (ha : (parseG s).2.1 = a) (hlt : a < s.size) (hsz : s.size + m.size ≤ 2047) :
    (parseG (s ++ ⟨#[32]⟩ ++ m)).2.2 = 172 ∧ (parseG (s ++ ⟨#[32]⟩ ++ m)).2.1 = a := by
  have hlen := cut_len s s.size 0 (by omega) (by omega)
  have hle := gRun_le (cut s 0).1 ⟨0, 0, false, false⟩
  have hs1 : (s ++ ⟨#[32]⟩ ++ m).size = s.size + 1 + m.size := by rw [ByteArray.size_append, ByteArray.size_append]; rfl
  have hl : (s ++ ⟨#[32]⟩ ++ m).data.toList = s.data.toList ++ 32 :: m.data.toList := by simp
  have hbt : ∀ i, i < s.size → bt (s ++ ⟨#[32]⟩ ++ m) i = bt s i := fun i hi => by
    unfold bt; rw [hl, List.getD_eq_getElem?_getD, List.getD_eq_getElem?_getD, List.getElem?_append_left (by simpa using hi)]
  have hsp : innerI (bt (s ++ ⟨#[32]⟩ ++ m) s.size) = false := by
    have : bt (s ++ ⟨#[32]⟩ ++ m) s.size = 32 := by
      unfold bt; rw [hl, List.getD_eq_getElem?_getD, List.getElem?_append_right (by simp)]; simp
    rw [this]; decide
  have hex : ∀ a b, b ≤ s.size → (s ++ ⟨#[32]⟩ ++ m).extract a b = s.extract a b := fun a b hb => by
    have e : s = (s ++ ⟨#[32]⟩ ++ m).extract 0 s.size := by
      apply ByteArray.ext
      apply Array.toList_inj.1
      rw [ByteArray.data_extract, Array.toList_extract, hl]
      simp
    conv => rhs; rw [e]
    rw [extract_pre _ _ _ _ hb]
  obtain ⟨M, b, e, hb⟩ := cut_ext s _ (by omega) hbt hex hsp s.size 0 (by omega) (by omega)
  rw [(parseG_place s).2 h] at ha
  have key : gPlace (s ++ ⟨#[32]⟩ ++ m) = a := by
    rw [gPlace_run] at ha ⊢
    by_cases h1 : (gEnd s).1 = (cut s 0).1.length
    · rw [if_pos h1] at ha
      have ha' : (cut s 0).2 = a := by
        split at ha
        · omega
        · omega
      obtain ⟨rfl, hb2⟩ := hb (by omega)
      rw [List.append_nil] at e
      have e2 : gEnd (s ++ ⟨#[32]⟩ ++ m) = gEnd s := by unfold gEnd; rw [e]
      rw [e2, e]
      simp only
      rw [if_pos h1, if_pos (.inl (by omega))]
      omega
    · have hlt2 : (gEnd s).1 < (cut s 0).1.length := by unfold gEnd at h1 ⊢; omega
      rw [if_neg h1] at ha
      obtain ⟨x, hx⟩ : ∃ x, (cut s 0).1[(gEnd s).1]? = some x := ⟨_, List.getElem?_eq_getElem hlt2⟩
      have e2 : gEnd (s ++ ⟨#[32]⟩ ++ m) = gEnd s := by
        show gRun (cut (s ++ ⟨#[32]⟩ ++ m) 0).1 _ = _
        rw [e]; exact gRun_app _ _ _ hlt2
      rw [e2, e]
      simp only
      rw [if_neg (by rw [List.length_append]; omega)]
      unfold plcR at ha ⊢
      rw [List.getElem?_append_left hlt2, hx]
      rw [hx] at ha
      exact ha
  have h3 : (parseG (s ++ ⟨#[32]⟩ ++ m)).2.2 = 172 := (parseG_place _).1.2 ⟨by omega, by omega⟩
  exact ⟨h3, ((parseG_place _).2 h3).trans key⟩
end Go.Proofs.YtkmjmfcanlknjaaGreat
namespace Go.Proofs.YtkmjmfcanlknjaaGreat
open Go.RowKit

/-! ### plain: two grammars' texts, one behind the other -/
/-- the marks of a text that ends behind a sign, and more behind it -/
theorem cut_cat (s s' : ByteArray) (hbt : ∀ i, i < s.size → bt s' i = bt s i) (hex : ∀ a b, b ≤ s.size → s'.extract a b = s.extract a b) (hle : s.size ≤ s'.size) :
    ∀ (n k : Nat), k ≤ s.size → s.size - k ≤ n → (cut s k).2 = s.size → (∀ m ∈ (cut s k).1, m.k ≤ 3 → m.p + m.t.size < s.size) → cut s' k = ((cut s k).1 ++ (cut s' s.size).1, (cut s' s.size).2)
  | n, k, hk, hn, h2, hw => by
    by_cases hz : (nextM s k).k = 0
    · rw [cut_none s k hk hz] at h2 ⊢
      simp only [nextM_p] at h2
      have e : cut s' k = cut s' s.size := by
        rcases Nat.lt_or_ge k s.size with hks | hks
        · have hsk : ∀ j, j < s.size - k → blankI (bt s' (k + j)) = true := fun j hj => by
            rw [hbt _ (by omega)]; exact (skip_blank s _ k (k + j) rfl (by omega) (by omega)).1
          have h3 := skipTo_run s' k (s.size - k) (by omega) hsk
          rw [show k + (s.size - k) = s.size from by omega] at h3
          have h4 : nextM s' k = nextM s' s.size := by unfold nextM; rw [h3]
          by_cases hz2 : (nextM s' s.size).k = 0
          · rw [cut_none s' k (by omega) (by rw [h4]; exact hz2), cut_none s' s.size hle hz2, h4]
          · rw [cut_some s' k (by omega) (by rw [h4]; exact hz2), cut_some s' s.size hle hz2, h4]
        · rw [show k = s.size from by omega]
      rw [e]; rfl
    · have M := mfacts s k hz
      have h1 := M.one
      have hl := M.le
      have h3 := M.ge
      have hc := cut_some s k hk hz
      rw [hc] at h2 hw
      have hnm : nextM s' k = nextM s k := by
        refine nextM_same s s' k _ hz rfl (by omega) (fun i hi => hbt i (by omega)) (hex _ _ hl) (fun h4 _ => ?_)
        have hq := hw _ (by simp) h4
        rw [hbt _ hq]; exact M.max h4 hq
      cases n with
      | zero => omega
      | succ n =>
        rw [cut_some s' k (by omega) (by rw [hnm]; exact hz), hnm, hc, cut_cat s s' hbt hex hle n _ hl (by omega) h2 (fun m hm => hw m (by simp [hm]))]
        rfl
/-- two lists of marks that are alike but for the places -/
def AgAt (L M : List Mk) (b : Nat) : Prop := M.length + b = L.length ∧ ∀ i, kd L (b + i) = kd M i ∧ tx L (b + i) = tx M i
theorem kd_app_left {L M : List Mk} {p : Nat} (h : p < L.length) : kd (L ++ M) p = kd L p ∧ tx (L ++ M) p = tx L p := by
  unfold kd tx; rw [List.getElem?_append_left h]; exact ⟨rfl, rfl⟩
theorem agAt_app (L M : List Mk) : AgAt (L ++ M) M L.length := by
  refine ⟨by rw [List.length_append]; omega, fun i => ?_⟩
  unfold kd tx
  rw [List.getElem?_append_right (by omega), show L.length + i - L.length = i from by omega]
  exact ⟨rfl, rfl⟩
/-- up to the first stop nothing else is read -/
theorem seg_app {L M : List Mk} {p : Nat} (h : p + (seg L p).length < L.length) : seg (L ++ M) p = seg L p := by
  unfold seg at h ⊢
  rw [List.drop_append_of_le_length (by omega)]
  generalize hd : L.drop p = D at *
  have hlen : D.length = L.length - p := by rw [← hd, List.length_drop]
  have h2 : (D.takeWhile fun m => !stopK m.k).length < D.length := by omega
  clear hd h hlen
  induction D with
  | nil => simp at h2
  | cons x D ih =>
    by_cases hx : (!stopK x.k) = true
    · simp only [List.cons_append, List.takeWhile_cons, hx, if_true] at h2 ⊢
      rw [ih (by simpa using h2)]
    · simp only [List.cons_append, List.takeWhile_cons, hx] at h2 ⊢
      simp
theorem rule_app {L M : List Mk} {p q : Nat} {r : Ru} (h : ruleP L p = (some r, q)) : ruleP (L ++ M) p = (some r, q) := by
  obtain ⟨h1, h2, h3⟩ := ruleP_lt h
  unfold ruleP at h ⊢
  split at h
  · cases h
  · split at h
    · cases h
    · split at h
      · rename_i k1 k2 k3
        obtain ⟨k3, k4, k5⟩ := k3
        simp only [Prod.mk.injEq, Option.some.injEq] at h
        obtain ⟨h4, h5⟩ := h
        have hlt : p + 2 + (seg L (p + 2)).length < L.length := by
          have : kd L (p + 2 + (seg L (p + 2)).length) ≠ 0 := by omega
          rcases Nat.lt_or_ge (p + 2 + (seg L (p + 2)).length) L.length with h6 | h6
          · exact h6
          · exact absurd (kd_none h6) this
        have hs := seg_app (M := M) hlt
        have hb : bodyP (L ++ M) (p + 2) = bodyP L (p + 2) := by unfold bodyP; rw [hs]
        rw [(kd_app_left (by omega)).1, (kd_app_left (by omega)).1, hb, hs, (kd_app_left hlt).1, (kd_app_left (L := L) (M := M) (p := p) (by omega)).2, if_neg k1, if_neg k2, if_pos ⟨k3, k4, k5⟩]
        simp only [Prod.mk.injEq, Option.some.injEq]
        exact ⟨h4, h5⟩
      · cases h
/-- a segment of marks behind others -/
theorem seg_sh {L M : List Mk} (p : Nat) : seg (L ++ M) (L.length + p) = seg M p := by
  unfold seg
  rw [List.drop_append, List.drop_eq_nil_of_le (by omega), show L.length + p - L.length = p from by omega]
  rfl
theorem rule_sh {L M : List Mk} (p : Nat) : ruleP (L ++ M) (L.length + p) = ((ruleP M p).1, L.length + (ruleP M p).2) := by
  have k0 := (agAt_app L M).2
  have hb : bodyP (L ++ M) (L.length + p + 2) = bodyP M (p + 2) := by unfold bodyP; rw [show L.length + p + 2 = L.length + (p + 2) from by omega, seg_sh]
  have hs : seg (L ++ M) (L.length + p + 2) = seg M (p + 2) := by rw [show L.length + p + 2 = L.length + (p + 2) from by omega, seg_sh]
  unfold ruleP
  rw [(k0 p).1, show L.length + p + 1 = L.length + (p + 1) from by omega, (k0 (p + 1)).1, hb, hs, show L.length + p + 2 + (seg M (p + 2)).length = L.length + (p + 2 + (seg M (p + 2)).length) from by omega, (k0 _).1, (k0 p).2]
  by_cases h1 : kd M p ≠ 1
  · rw [if_pos h1, if_pos h1]
  · rw [if_neg h1, if_neg h1]
    by_cases h2 : kd M (p + 1) ≠ 4
    · rw [if_pos h2, if_pos h2]
    · rw [if_neg h2, if_neg h2]
      by_cases h3 : (bodyP M (p + 2)).ok = true ∧ (bodyP M (p + 2)).p = (seg M (p + 2)).length ∧ kd M (p + 2 + (seg M (p + 2)).length) = 5
      · rw [if_pos h3, if_pos h3]
        simp only [Prod.mk.injEq, true_and]; omega
      · rw [if_neg h3, if_neg h3]
        simp only [Prod.mk.injEq, true_and]; omega
theorem rules_sh {L M : List Mk} : ∀ (n n' p : Nat) (g : List Ru), M.length - p < n → M.length - p < n' → (rulesP M n p []).ok = true → rulesP (L ++ M) n' (L.length + p) g = ⟨true, g ++ (rulesP M n p []).g, L.length + (rulesP M n p []).p⟩ := by
  have key : ∀ (n n' p : Nat) (g h : List Ru), M.length - p < n → M.length - p < n' → (rulesP M n p h).ok = true → rulesP (L ++ M) n' (L.length + p) (g ++ h) = ⟨true, g ++ (rulesP M n p h).g, L.length + (rulesP M n p h).p⟩ := by
    intro n
    induction n with
    | zero => intro n' p g h hn; omega
    | succ n ih =>
      intro n' p g h hn hn' hok
      cases n' with
      | zero => omega
      | succ n' =>
        unfold rulesP at hok ⊢
        rw [rule_sh]
        cases hr : ruleP M p with
        | mk o q =>
          rw [hr] at hok
          cases o with
          | none => simp at hok
          | some r =>
            have hlt := ruleP_lt hr
            simp only at hok ⊢
            rw [List.length_append]
            by_cases hq : q < M.length
            · rw [if_pos hq] at hok ⊢
              rw [if_pos (by omega), List.append_assoc]
              exact ih n' q g (h ++ [r]) (by omega) (by omega) hok
            · rw [if_neg hq, if_neg (by omega)]
              simp
  intro n n' p g h1 h2 h3
  have := key n n' p g [] h1 h2 h3
  rwa [List.append_nil] at this
theorem rules_app {L M : List Mk} (hM : M ≠ []) : ∀ (n n' p : Nat) (g : List Ru), L.length - p < n → (L ++ M).length - p < n' → p ≤ L.length → (rulesP L n p g).ok = true → ∃ n2, M.length < n2 ∧ rulesP (L ++ M) n' p g = rulesP (L ++ M) n2 L.length (rulesP L n p g).g
  | 0, n', p, g, hn, _, _, _ => by omega
  | n + 1, 0, p, g, _, hn', _, _ => by omega
  | n + 1, n' + 1, p, g, hn, hn', hp, hok => by
    have hMl : 0 < M.length := List.length_pos_iff.2 hM
    unfold rulesP at hok
    cases hr : ruleP L p with
    | mk o q =>
      rw [hr] at hok
      cases o with
      | none => simp at hok
      | some r =>
        have hlt := ruleP_lt hr
        rw [List.length_append] at hn'
        have e1 : rulesP (L ++ M) (n' + 1) p g = rulesP (L ++ M) n' q (g ++ [r]) := by
          conv => lhs; unfold rulesP
          rw [rule_app hr]
          simp only
          rw [if_pos (by rw [List.length_append]; omega)]
        have e2 : rulesP L (n + 1) p g = if q < L.length then rulesP L n q (g ++ [r]) else ⟨true, g ++ [r], q⟩ := by
          conv => lhs; unfold rulesP
          rw [hr]
        simp only at hok
        by_cases hq : q < L.length
        · rw [if_pos hq] at hok
          obtain ⟨n2, h1, h2⟩ := rules_app hM n n' q (g ++ [r]) (by omega) (by rw [List.length_append]; omega) (by omega) hok
          exact ⟨n2, h1, by rw [e1, e2, if_pos hq, h2]⟩
        · obtain rfl : q = L.length := by omega
          exact ⟨n', by omega, by rw [e1, e2, if_neg hq]⟩
theorem rules_end {L : List Mk} : ∀ (n p : Nat) (g : List Ru), L.length - p < n → p ≤ L.length → (rulesP L n p g).ok = true → 0 < L.length ∧ kd L (L.length - 1) = 5
  | 0, p, g, hn, _, _ => by omega
  | n + 1, p, g, hn, hp, hok => by
    unfold rulesP at hok
    cases hr : ruleP L p with
    | mk o q =>
      rw [hr] at hok
      cases o with
      | none => simp at hok
      | some r =>
        have hlt := ruleP_lt hr
        simp only at hok
        by_cases hq : q < L.length
        · rw [if_pos hq] at hok
          exact rules_end n q _ (by omega) (by omega) hok
        · obtain rfl : q = L.length := by omega
          refine ⟨by omega, ?_⟩
          unfold ruleP at hr
          split at hr
          · cases hr
          · split at hr
            · cases hr
            · split at hr
              · rename_i k3
                simp only [Prod.mk.injEq, Option.some.injEq] at hr
                rw [← hr.2, show p + 2 + (seg L (p + 2)).length + 1 - 1 = p + 2 + (seg L (p + 2)).length from by omega]
                exact k3.2.2
              · cases hr
/-- marks rise -/
theorem cut_rise (s : ByteArray) : ∀ (n k : Nat), k ≤ s.size → s.size - k ≤ n → ∀ (i j : Nat) (a b : Mk), i < j → (cut s k).1[i]? = some a → (cut s k).1[j]? = some b → a.p + a.t.size ≤ b.p ∧ b.p < s.size
  | n, k, hk, hn, i, j, a, b, hij, ha, hb => by
    by_cases hz : (nextM s k).k = 0
    · rw [cut_none s k hk hz] at ha; simp at ha
    · have M := mfacts s k hz
      have h1 := M.one
      have h2 := M.le
      have h3 := M.ge
      rw [cut_some s k hk hz] at ha hb
      cases n with
      | zero => omega
      | succ n =>
        cases j with
        | zero => omega
        | succ j =>
          simp only [List.getElem?_cons_succ] at hb
          cases i with
          | zero =>
            simp only [List.getElem?_cons_zero, Option.some.injEq] at ha
            subst ha
            obtain ⟨x, hx, F⟩ := cut_facts s n _ h2 (by omega) b (List.mem_of_getElem? hb)
            have := F.ge
            have := F.one
            have := F.le
            omega
          | succ i =>
            simp only [List.getElem?_cons_succ] at ha
            exact cut_rise s n _ h2 (by omega) i j a b (by omega) ha hb
theorem map_kd (L : List Mk) (b i : Nat) : kd (L.map (shM b)) i = kd L i ∧ tx (L.map (shM b)) i = tx L i := by
  unfold kd tx; rw [List.getElem?_map]; cases L[i]? <;> exact ⟨rfl, rfl⟩
theorem seg_map (L : List Mk) (b p : Nat) : seg (L.map (shM b)) p = (seg L p).map (shM b) := by
  unfold seg
  rw [← List.map_drop]
  generalize L.drop p = D
  induction D with
  | nil => rfl
  | cons x D ih =>
    simp only [List.map_cons, List.takeWhile_cons]
    by_cases hx : (!stopK x.k) = true
    · have hx2 : (!stopK (shM b x).k) = true := hx
      rw [hx, hx2, if_pos rfl, if_pos rfl, List.map_cons, ih]
    · have hx1 : (!stopK x.k) = false := by simpa using hx
      have hx2 : (!stopK (shM b x).k) = false := hx1
      rw [hx1, hx2]; rfl
theorem body_map (L : List Mk) (b p : Nat) : bodyP (L.map (shM b)) p = bodyP L p := by
  have hb := (bodyP_b L p).le
  have hl : (seg (L.map (shM b)) p).length = (seg L p).length := by rw [seg_map, List.length_map]
  have hag : Ag (seg L p) (seg (L.map (shM b)) p) ((seg L p).length + 1) := by
    intro i _
    rw [seg_map]
    exact ⟨(map_kd _ _ _).1.symm, (map_kd _ _ _).2.symm⟩
  exact pExpr_ag hag ((seg L p).length + 1) ((seg (L.map (shM b)) p).length + 1) 0 (by omega) (by omega) (by omega) (by omega) (by unfold bodyP at hb; omega)
theorem rule_map (L : List Mk) (b p : Nat) : ruleP (L.map (shM b)) p = ruleP L p := by
  unfold ruleP
  rw [(map_kd L b p).1, (map_kd L b (p + 1)).1, body_map, seg_map, List.length_map, (map_kd L b _).1, (map_kd L b p).2]
theorem rules_map (L : List Mk) (b : Nat) : ∀ (n p : Nat) (g : List Ru), rulesP (L.map (shM b)) n p g = rulesP L n p g
  | 0, p, g => rfl
  | n + 1, p, g => by
    unfold rulesP
    rw [rule_map, List.length_map]
    cases ruleP L p with
    | mk o q =>
      cases o with
      | none => rfl
      | some r => simp only; rw [rules_map L b n q (g ++ [r])]
theorem grammar_rows (s t : ByteArray) (A B : List Ru) (hs : parseG s = (A, 0, 0)) (ht : parseG t = (B, 0, 0)) (hz : s.size + t.size ≤ 2048) :
    parseG (s ++ t) = if checkG (A ++ B) = 0 then (A ++ B, 0, 0) else ([], 0, checkG (A ++ B)) := by
  have ok : ∀ (s : ByteArray) (A : List Ru), parseG s = (A, 0, 0) → s.size ≤ 2048 ∧ (gParsed s).ok = true ∧ (gParsed s).g = A ∧ (cut s 0).2 = s.size ∧ longG A = false := by
    intro s A h
    have hlen := cut_len s s.size 0 (by omega) (by omega)
    unfold parseG at h
    split at h
    · simp at h
    · split at h
      · simp at h
      · split at h
        · simp at h
        · split at h
          · simp at h
          · split at h
            · simp only [Prod.mk.injEq, true_and] at h
              rename_i h5; exact absurd h.2 h5
            · rename_i h1 h2 h3 h4 h5
              simp only [Prod.mk.injEq, and_true] at h
              refine ⟨by omega, by simpa using h2, h, by omega, ?_⟩
              rw [← h]; simpa using h4
  obtain ⟨s1, s2, s3, s4, s5⟩ := ok s A hs
  obtain ⟨t1, t2, t3, t4, t5⟩ := ok t B ht
  have hend := rules_end ((cut s 0).1.length + 1) 0 [] (by omega) (by omega) s2
  have hendt := rules_end ((cut t 0).1.length + 1) 0 [] (by omega) (by omega) t2
  have hl : (s ++ t).data.toList = s.data.toList ++ t.data.toList := by simp
  have hsz : (s ++ t).size = s.size + t.size := ByteArray.size_append
  have hbt : ∀ i, i < s.size → bt (s ++ t) i = bt s i := fun i hi => by
    unfold bt; rw [hl, List.getD_eq_getElem?_getD, List.getD_eq_getElem?_getD, List.getElem?_append_left (by simpa using hi)]
  have hex : ∀ a b, b ≤ s.size → (s ++ t).extract a b = s.extract a b := fun a b hb => by
    have e : s = (s ++ t).extract 0 s.size := by
      apply ByteArray.ext
      apply Array.toList_inj.1
      rw [ByteArray.data_extract, Array.toList_extract, hl]
      simp
    conv => rhs; rw [e]
    rw [extract_pre _ _ _ _ hb]
  have hw : ∀ m ∈ (cut s 0).1, m.k ≤ 3 → m.p + m.t.size < s.size := by
    intro m hm h3
    obtain ⟨i, hi⟩ := List.getElem?_of_mem hm
    have hil := (List.getElem?_eq_some_iff.1 hi).1
    obtain ⟨x, hx⟩ : ∃ x, (cut s 0).1[(cut s 0).1.length - 1]? = some x := ⟨_, List.getElem?_eq_getElem (by omega)⟩
    have hxk := kd_some hx
    rcases Nat.lt_or_ge i ((cut s 0).1.length - 1) with h4 | h4
    · have := cut_rise s s.size 0 (by omega) (by omega) _ _ _ _ h4 hi hx
      omega
    · rw [show i = (cut s 0).1.length - 1 from by omega, hx] at hi
      cases hi
      omega
  have hcat := cut_cat s (s ++ t) hbt hex (by omega) s.size 0 (by omega) (by omega) s4 hw
  have htt : (s ++ t).extract s.size (s ++ t).size = t := by
    apply ByteArray.ext
    apply Array.toList_inj.1
    rw [ext_list, hl]
    exact List.drop_left' (by rw [Array.length_toList]; rfl)
  have hsh := cut_sh (s ++ t) s.size 0 (by omega)
  rw [Nat.add_zero, htt] at hsh
  rw [hsh] at hcat
  simp only [t4] at hcat
  have hML : (cut t 0).1.map (shM s.size) ≠ [] := by
    intro e
    have := congrArg List.length e
    rw [List.length_map] at this
    simp at this
    rw [this] at hendt
    simp at hendt
  have htM : rulesP ((cut t 0).1.map (shM s.size)) ((cut t 0).1.length + 1) 0 [] = rulesP (cut t 0).1 ((cut t 0).1.length + 1) 0 [] := rules_map _ _ _ _ _
  have hA : (rulesP (cut s 0).1 ((cut s 0).1.length + 1) 0 []).g = A := s3
  have hB : (rulesP (cut t 0).1 ((cut t 0).1.length + 1) 0 []).g = B := t3
  have hp : (gParsed (s ++ t)).ok = true ∧ (gParsed (s ++ t)).g = A ++ B := by
    unfold gParsed
    rw [hcat]
    simp only
    obtain ⟨n2, h1, h2⟩ := rules_app (L := (cut s 0).1) hML ((cut s 0).1.length + 1) (((cut s 0).1 ++ (cut t 0).1.map (shM s.size)).length + 1) 0 [] (by omega) (by omega) (by omega) s2
    rw [h2, hA]
    have := rules_sh (L := (cut s 0).1) (M := (cut t 0).1.map (shM s.size)) ((cut t 0).1.length + 1) n2 0 A (by rw [List.length_map]; omega) (by omega) (by rw [htM]; exact t2)
    rw [Nat.add_zero] at this
    rw [this, htM, hB]
    exact ⟨rfl, rfl⟩
  unfold parseG
  rw [if_neg (by omega), hp.1, if_neg (by simp), hcat, if_neg (by simp only; omega), hp.2]
  have hlg : longG (A ++ B) = false := by rw [longG_app, s5, t5]; rfl
  rw [if_neg (by rw [hlg]; simp)]
  by_cases hc : checkG (A ++ B) = 0
  · rw [if_neg (by simp [hc]), if_pos hc]
  · rw [if_pos hc, if_neg hc]
end Go.Proofs.YtkmjmfcanlknjaaGreat
namespace Go.Proofs.YtkmjmfcanlknjaaGreat
open Go.RowKit Go.Shelf

set_option maxRecDepth 100000 in
set_option maxHeartbeats 3200000 in
theorem bnfCuts_any (s m : ByteArray) (hs : s.size ≤ 140737488351232) (hm : m.size ≤ 140737488351232) (w : World) : Calls Tryz.prog 5 #[.string s, .string m] w fun e w' => e = .returned (.bool true) ∧ Below w.heap.size w w' := by
  have H1 := Lib.hid (xParseG_any s w)
  have HH := Lib.hid headG_any
  have HP := Lib.hid (fun s w => xParseG_any s w)
  by_cases h : (parseG s).2.2 = 172
  · obtain ⟨a, ha, hal⟩ := gcut_place s h
    have HS := Lib.hid (gcut_short s a h ha)
    have HM := Lib.hid (fun hlt hsz => gcut_more s m a h ha hlt hsz)
    have HF : Hid (a = s.size → (parseG (s.extract 0 a)).2.2 = 172) := fun e => by
      have : s.extract 0 a = s := by rw [e]; exact ByteArray.extract_zero_size
      rw [this]; exact h
    have HQ : Hid (parseG s = ((parseG s).1, (a : Int), 172)) := Prod.ext rfl (Prod.ext ha h)
    rw [HQ.out] at H1
    clear h ha
    go_enter Tryz.func5, Tryz.ntmps5
    go_wp2_with fail
    refine (H1.out).mono ?_
    rintro ee w1 ⟨v, P, rfl, hP, ho, hb⟩; clear hP
    have HB := Lib.hid hb
    obtain ⟨_, ao, cp, rfl, -⟩ := Rd.of_owns ho.row
    clear ho hb
    by_cases h6 : a = s.size
    · subst h6
      have H2 := Lib.hid (fun w => HP.out s w)
      rw [HQ.out] at H2
      clear H1 HS HF HM
      go_wp2_with (first | (go_at_call 13; refine (HH.out _).mono ?_; rintro ee w3 ⟨rfl, hb3⟩; have HB3 := Lib.hid (HB.out.trans (hb3.mono HB.out.size)); clear hb3) | (go_at_call 15; refine (H2.out _).mono ?_; rintro ee w4 ⟨v4, P, rfl, hP, ho4, hb4⟩; clear hP; have HB4 := Lib.hid (HB3.out.trans (hb4.mono HB3.out.size)); obtain ⟨_, ao4, cp4, rfl, -⟩ := Rd.of_owns ho4.row; clear ho4 hb4))
      go_ret
      exact ⟨rfl, HB4.out⟩
    · have hlt : a < s.size := by omega
      have hne : ((a : Int) == s.size) = false := by simp; omega
      have H2 := Lib.hid (fun w => HP.out (s.extract 0 a) w)
      clear H1 h6
      have HM2 := Lib.hid (HM.out hlt)
      have H3 := Lib.hid (fun w => HP.out (s ++ ⟨#[32]⟩ ++ m) w)
      have hs2 : (s ++ ⟨#[32]⟩).size = s.size + 1 := by rw [ByteArray.size_append]; rfl
      clear HM HF
      by_cases h5 : (parseG (s.extract 0 a)).2.2 = 172
      · rw [show parseG (s.extract 0 a) = ((parseG (s.extract 0 a)).1, (a : Int), 172) from Prod.ext rfl (Prod.ext (HS.out h5) h5)] at H2
        clear h5 HS
        by_cases h7 : s.size + m.size ≤ 2047
        · have e3 := HM2.out h7
          rw [show parseG (s ++ ⟨#[32]⟩ ++ m) = ((parseG (s ++ ⟨#[32]⟩ ++ m)).1, (a : Int), 172) from Prod.ext rfl (Prod.ext e3.2 e3.1)] at H3
          clear HM2 e3
          have hg : ¬ (2047 : Int) < s.size + m.size := by omega
          go_wp2_with (first | (go_at_call 13; refine (HH.out _).mono ?_; rintro ee w3 ⟨rfl, hb3⟩; have HB3 := Lib.hid (HB.out.trans (hb3.mono HB.out.size)); clear hb3) | (go_at_call 15; have hz9 := HB4.out.size; clear hz9; refine (H3.out _).mono ?_; rintro ee w5 ⟨v5, P, rfl, hP, ho5, hb5⟩; clear hP; have HB5 := Lib.hid (HB4.out.trans (hb5.mono HB4.out.size)); obtain ⟨_, ao5, cp5, rfl, -⟩ := Rd.of_owns ho5.row; clear ho5 hb5) | (go_at_call 15; refine (H2.out _).mono ?_; rintro ee w4 ⟨v4, P, rfl, hP, ho4, hb4⟩; clear hP; have HB4 := Lib.hid (HB3.out.trans (hb4.mono HB3.out.size)); obtain ⟨_, ao4, cp4, rfl, -⟩ := Rd.of_owns ho4.row; clear ho4 hb4))
          go_ret
          exact ⟨rfl, HB5.out⟩
        · have hg : (2047 : Int) < s.size + m.size := by omega
          clear HM2 H3
          go_wp2_with (first | (go_at_call 13; refine (HH.out _).mono ?_; rintro ee w3 ⟨rfl, hb3⟩; have HB3 := Lib.hid (HB.out.trans (hb3.mono HB.out.size)); clear hb3) | (go_at_call 15; refine (H2.out _).mono ?_; rintro ee w4 ⟨v4, P, rfl, hP, ho4, hb4⟩; clear hP; have HB4 := Lib.hid (HB3.out.trans (hb4.mono HB3.out.size)); obtain ⟨_, ao4, cp4, rfl, -⟩ := Rd.of_owns ho4.row; clear ho4 hb4))
          go_ret
          exact ⟨rfl, HB4.out⟩
      · have hn5 : ((parseG (s.extract 0 a)).2.2 == 172) = false := by simpa using h5
        clear h5 HS
        generalize parseG (s.extract 0 a) = r2 at *
        obtain ⟨l2, a2, e2⟩ := r2
        simp only at hn5
        by_cases h7 : s.size + m.size ≤ 2047
        · have e3 := HM2.out h7
          rw [show parseG (s ++ ⟨#[32]⟩ ++ m) = ((parseG (s ++ ⟨#[32]⟩ ++ m)).1, (a : Int), 172) from Prod.ext rfl (Prod.ext e3.2 e3.1)] at H3
          clear HM2 e3
          have hg : ¬ (2047 : Int) < s.size + m.size := by omega
          go_wp2_with (first | (go_at_call 13; refine (HH.out _).mono ?_; rintro ee w3 ⟨rfl, hb3⟩; have HB3 := Lib.hid (HB.out.trans (hb3.mono HB.out.size)); clear hb3) | (go_at_call 15; have hz9 := HB4.out.size; clear hz9; refine (H3.out _).mono ?_; rintro ee w5 ⟨v5, P, rfl, hP, ho5, hb5⟩; clear hP; have HB5 := Lib.hid (HB4.out.trans (hb5.mono HB4.out.size)); obtain ⟨_, ao5, cp5, rfl, -⟩ := Rd.of_owns ho5.row; clear ho5 hb5) | (go_at_call 15; refine (H2.out _).mono ?_; rintro ee w4 ⟨v4, P, rfl, hP, ho4, hb4⟩; clear hP; have HB4 := Lib.hid (HB3.out.trans (hb4.mono HB3.out.size)); obtain ⟨_, ao4, cp4, rfl, -⟩ := Rd.of_owns ho4.row; clear ho4 hb4))
          go_ret
          exact ⟨rfl, HB5.out⟩
        · have hg : (2047 : Int) < s.size + m.size := by omega
          clear HM2 H3
          go_wp2_with (first | (go_at_call 13; refine (HH.out _).mono ?_; rintro ee w3 ⟨rfl, hb3⟩; have HB3 := Lib.hid (HB.out.trans (hb3.mono HB.out.size)); clear hb3) | (go_at_call 15; refine (H2.out _).mono ?_; rintro ee w4 ⟨v4, P, rfl, hP, ho4, hb4⟩; clear hP; have HB4 := Lib.hid (HB3.out.trans (hb4.mono HB3.out.size)); obtain ⟨_, ao4, cp4, rfl, -⟩ := Rd.of_owns ho4.row; clear ho4 hb4))
          go_ret
          exact ⟨rfl, HB4.out⟩
  · have h2 : ((parseG s).2.2 != 172) = true := by simpa using h
    generalize parseG s = r at *
    obtain ⟨l, a, e⟩ := r
    simp only at h h2
    clear h
    go_enter Tryz.func5, Tryz.ntmps5
    go_wp2_with fail
    refine (H1.out).mono ?_
    rintro ee w1 ⟨v, P, rfl, hP, ho, hb⟩; clear hP
    have HB := Lib.hid hb
    obtain ⟨_, ao, cp, rfl, -⟩ := Rd.of_owns ho.row
    clear ho hb
    go_wp2_with (go_at_call 13; refine (HH.out _).mono ?_; rintro ee w3 ⟨rfl, hb3⟩; have HB3 := Lib.hid (HB.out.trans (hb3.mono HB.out.size)); clear hb3)
    go_ret
    exact ⟨rfl, HB3.out⟩
end Go.Proofs.YtkmjmfcanlknjaaGreat
namespace Go.Proofs.YtkmjmfcanlknjaaGreat
open Go.ChangeShapes Go.WideShapes Go.RowKit Go.Deep

theorem spot_noneN {w : World} {b o : Nat} {sp : Option Nat} {v : Value} (h : w.cell? ⟨b, o, sp⟩ = some v) : sp = none := by
  cases sp with
  | none => rfl
  | some s => unfold World.cell? at h; split at h <;> simp at h
theorem bulk_append {H : Type} (l r : List (DataW H)) : Rows.uptoBulkAll (l ++ r) = Rows.uptoBulkAll l + Rows.uptoBulkAll r := by
  induction l with
  | nil => simp [Rows.uptoBulkAll]
  | cons x l ih => simp only [List.cons_append, Rows.uptoBulkAll, ih]; omega
theorem bulk_pos {H : Type} (x : DataW H) : 1 ≤ Rows.uptoBulk x := by
  unfold Rows.uptoBulk
  split <;> omega
theorem bulk_len {H : Type} (l : List (DataW H)) : l.length ≤ Rows.uptoBulkAll l := by
  induction l with
  | nil => simp [Rows.uptoBulkAll]
  | cons x l ih => have := bulk_pos x; simp only [List.length_cons, Rows.uptoBulkAll]; omega
theorem bulk_mem {H : Type} {x : DataW H} {l : List (DataW H)} (h : x ∈ l) : Rows.uptoBulk x ≤ Rows.uptoBulkAll l := by
  induction l with
  | nil => cases h
  | cons y l ih =>
    simp only [Rows.uptoBulkAll]
    rcases List.mem_cons.1 h with rfl | h
    · omega
    · have := ih h; omega
/-- a slice whose elements are read lies as its cells lie -/
theorem rd_cells {w : World} {a : Addr} {n size cap : Nat} {xs : List Value} (hs : 0 < size) (hx : xs.length = n * size) (hc : n ≤ cap) (hm : cap ≤ maxLen) (h : ∀ j u, xs[j]? = some u → w.cell? (a.add j) = some u) : Rd w (.slice (some a) n cap) n size xs := by
  refine ⟨hx, some a, cap, rfl, hc, hm, ?_⟩
  by_cases h0 : n = 0
  · exact .inl h0
  · right
    have hpos : 0 < xs.length := by rw [hx]; exact Nat.mul_pos (by omega) hs
    have hz := h 0 _ (List.getElem?_eq_getElem hpos)
    obtain ⟨b, o, sp⟩ := a
    have hadd : ((⟨b, o, sp⟩ : Addr).add 0) = ⟨b, o, sp⟩ := rfl
    rw [hadd] at hz
    obtain rfl := spot_noneN hz
    refine ⟨b, o, rfl, ?_, ?_⟩
    · unfold World.cell? at hz
      split at hz
      · rename_i hg
        exact (Array.getElem?_eq_some_iff.1 hg).1
      all_goals simp at hz
    · intro j u hj
      have := h j u hj
      rwa [show (⟨b, o, none⟩ : Addr).add j = ⟨b, o + j, none⟩ from by unfold Addr.add; split <;> simp_all] at this
set_option maxRecDepth 100000 in
/-- one node, read -/
theorem open_nodeB {H : Type} {enc : TypeId × Value → H} {w : World} {base : Nat} {spare : Nat → Bool} {held : Bool} {fuel : Nat} {cs : List Value} {x : DataW H × List MemPlace} (h : DataW.trod enc Tryz.prog w base spare held fuel 57 cs = some x) :
    ∃ m : Nd, cs = m.cells ∧ m.n.size ≤ Rows.uptoBulk x.1 := by
  obtain ⟨y0, y1, y2, n, rfl, hl, h0, h1, h2⟩ := trod_struct3 Tryz.underlying57 h
  obtain ⟨k, e0, rfl, _⟩ := DataW.trod_int (k := .i64) (by kernel_rfl) h0
  obtain ⟨t, e1, rfl, _⟩ := DataW.trod_string (by kernel_rfl) h1
  obtain ⟨p, e2, rfl, _⟩ := DataW.trod_int (k := .i64) (by kernel_rfl) h2
  have hl3 : cs.length = 3 := by rw [hl]; kernel_rfl
  obtain ⟨c0, c1, c2, rfl⟩ : ∃ c0 c1 c2, cs = [c0, c1, c2] := by
    match cs, hl3 with
    | [c0, c1, c2], _ => exact ⟨c0, c1, c2, rfl⟩
  refine ⟨⟨k, t, p⟩, ?_, ?_⟩
  · have k0 : Tryz.prog.cellsOf 55 = 1 := by kernel_rfl
    have k1 : Tryz.prog.cellsOf 3 = 1 := by kernel_rfl
    have k2 : Tryz.prog.cellsOf 9 = 1 := by kernel_rfl
    simp [k0] at e0
    simp [k2] at e1
    simp [k1] at e2
    rw [e0, e1, e2]; rfl
  · have := ba_len t
    simp only [Rows.uptoBulk, Rows.uptoBulkAll]; omega
set_option maxRecDepth 100000 in
/-- a list of nodes, read off its cell -/
theorem open_nodesB {H : Type} {enc : TypeId × Value → H} {w : World} {base : Nat} {spare : Nat → Bool} {held : Bool} {fuel : Nat} {cs : List Value} {x : DataW H × List MemPlace} (hf : DataW.trod enc Tryz.prog w base spare held fuel 45 cs = some x) :
    ∃ v l, cs = [v] ∧ RdNd w v l ∧ l.length + 1 ≤ Rows.uptoBulk x.1 ∧ ∀ m ∈ l, m.n.size ≤ Rows.uptoBulk x.1 := by
  have hC : Tryz.prog.cellsOf 57 = 3 := by kernel_rfl
  rcases open_slice Tryz.underlying45 hf with ⟨hcs, hx⟩ | ⟨a, len', cap', m, n, D, Pl, hcs, hb, hle, hmax, hm, hx, hi⟩
  · subst hcs; subst hx
    exact ⟨_, [], rfl, Rd.nil _ _, by simp [Rows.uptoBulk], fun m hm => by cases hm⟩
  · subst hcs; subst hx
    have hml : len' ≤ m := by rw [hm]; split <;> omega
    rw [hC] at hi
    have key : ∀ k, k ≤ len' → ∃ l : List Nd, l.length = k ∧ (∀ j u, (flatNd l)[j]? = some u → w.cell? (a.add j) = some u) ∧ ∀ x ∈ l, x.n.size ≤ Rows.uptoBulkAll ((List.range k).map D) := by
      intro k
      induction k with
      | zero => exact fun _ => ⟨[], rfl, by simp [flatNd], fun x hx => by cases hx⟩
      | succ k ih =>
        intro hk
        obtain ⟨l, h1, h2, h3⟩ := ih (by omega)
        obtain ⟨cs', hc, ht⟩ := hi k (by omega)
        obtain ⟨mk, rfl, hmk⟩ := open_nodeB ht
        obtain ⟨_, _, hcell⟩ := World.cells?_some hc
        refine ⟨l ++ [mk], by simp [h1], ?_, ?_⟩
        · intro j u hj
          have e : flatNd (l ++ [mk]) = flatNd l ++ mk.cells := by simp [flatNd]
          rw [e, List.getElem?_append] at hj
          have hfl := flatNd_len l
          split at hj
          · exact h2 j u hj
          · rename_i hge
            have hj3 : j - (flatNd l).length < 3 := by
              have := (List.getElem?_eq_some_iff.1 hj).1
              simpa [Nd.cells] using this
            have := hcell (j - (flatNd l).length) hj3
            rw [hj, Go.Deep.add_add] at this
            rw [← this]
            congr 2
            omega
        · intro y hy
          rw [List.range_succ, List.map_append, bulk_append]
          simp only [List.map_cons, List.map_nil, Rows.uptoBulkAll]
          simp only at hmk
          rcases List.mem_append.1 hy with hy | hy
          · have := h3 y hy; omega
          · rw [List.mem_singleton.1 hy]; omega
    obtain ⟨l, h1, h2, h3⟩ := key len' (Nat.le_refl _)
    refine ⟨_, l, rfl, ?_, ?_, fun y hy => ?_⟩
    · have := rd_cells (w := w) (a := a) (n := l.length) (size := 3) (cap := cap') (by omega) (flatNd_len l) (by omega) hmax h2
      rwa [show (Value.slice (some a) len' cap') = .slice (some a) l.length cap' from by rw [h1]]
    · simp only [Rows.uptoBulk]
      have := bulk_len ((List.range len').map D)
      simp at this
      omega
    · have := h3 y hy
      simp only [Rows.uptoBulk]; omega
set_option maxRecDepth 100000 in
/-- one rule, read -/
theorem open_rule {H : Type} {enc : TypeId × Value → H} {w : World} {base : Nat} {spare : Nat → Bool} {held : Bool} {fuel : Nat} {cs : List Value} {x : DataW H × List MemPlace} (h : DataW.trod enc Tryz.prog w base spare held fuel 47 cs = some x) :
    ∃ p : Ru × Value, cs = [.string p.1.h, p.2] ∧ RdNd w p.2 p.1.b ∧ p.1.h.size ≤ Rows.uptoBulk x.1 ∧ p.1.b.length ≤ Rows.uptoBulk x.1 ∧ ∀ m ∈ p.1.b, m.n.size ≤ Rows.uptoBulk x.1 := by
  obtain ⟨y0, y1, n, rfl, hl, h0, h1⟩ := trod_struct2 Tryz.underlying47 h
  obtain ⟨t, e1, rfl, _⟩ := DataW.trod_string (by kernel_rfl) h0
  obtain ⟨v, l, e2, hrd, hln, hnm⟩ := open_nodesB h1
  have hl2 : cs.length = 2 := by rw [hl]; kernel_rfl
  obtain ⟨c0, c1, rfl⟩ : ∃ c0 c1, cs = [c0, c1] := by
    match cs, hl2 with
    | [c0, c1], _ => exact ⟨c0, c1, rfl⟩
  have k1 : Tryz.prog.cellsOf 45 = 1 := by kernel_rfl
  have k2 : Tryz.prog.cellsOf 9 = 1 := by kernel_rfl
  simp [k2] at e1
  simp [k1] at e2
  refine ⟨(⟨t, l⟩, v), by rw [e1, e2], hrd, ?_, ?_, fun m hm => ?_⟩
  · have := ba_len t
    simp only [Rows.uptoBulk, Rows.uptoBulkAll]; omega
  · simp only [Rows.uptoBulk, Rows.uptoBulkAll]; omega
  · have := hnm m hm; simp only [Rows.uptoBulk, Rows.uptoBulkAll]; omega
set_option maxRecDepth 100000 in
/-- a grammar, read -/
theorem open_rules {H : Type} {enc : TypeId × Value → H} {w : World} {base : Nat} {spare : Nat → Bool} {held : Bool} {r : Reach} {b0 : Nat} {v : Value} {d : DataW H} {ps : List MemPlace}
    (hval : Value.okWide Tryz.prog w r b0 22 v) (h : DataW.Trod enc Tryz.prog w base spare held 22 v d ps) :
    ∃ G : List Ru, RdRu w v G ∧ Bulk G (Rows.uptoBulk d) := by
  obtain ⟨ao, len, cap, rfl⟩ := okWide_slice Tryz.underlying22 hval
  obtain ⟨fuel, hf⟩ := h
  have hC : Tryz.prog.cellsOf 47 = 2 := by kernel_rfl
  rcases open_slice Tryz.underlying22 hf with ⟨hcs, hx⟩ | ⟨a, len', cap', m, n, D, Pl, hcs, hb, hle, hmax, hm, hx, hi⟩
  · simp [Value.cells] at hcs
    obtain ⟨rfl, rfl, rfl⟩ := hcs
    exact ⟨[], ⟨[], rfl, Rd.nil _ _, (fun p hp => by cases hp)⟩, ⟨by simp, by simp [nodesG], (fun r hr => by cases hr), (fun r hr => by cases hr)⟩⟩
  · simp [Value.cells] at hcs
    obtain ⟨rfl, rfl, rfl⟩ := hcs
    simp only [Prod.mk.injEq] at hx
    obtain ⟨rfl, rfl⟩ := hx
    have hml : len ≤ m := by rw [hm]; split <;> omega
    rw [hC] at hi
    have key : ∀ k, k ≤ len → ∃ P : List (Ru × Value), P.length = k ∧ (∀ j u, (flatP P)[j]? = some u → w.cell? (a.add j) = some u) ∧ Bods w P ∧ Bulk (P.map (·.1)) (Rows.uptoBulkAll ((List.range k).map D)) := by
      intro k
      induction k with
      | zero => exact fun _ => ⟨[], rfl, by simp [flatP], (fun p hp => by cases hp), ⟨by simp, by simp [nodesG], (fun r hr => by cases hr), (fun r hr => by cases hr)⟩⟩
      | succ k ih =>
        intro hk
        obtain ⟨P, h1, h2, h3, h4⟩ := ih (by omega)
        obtain ⟨cs', hc, ht⟩ := hi k (by omega)
        obtain ⟨p, rfl, hp1, hp2, hp3, hp4⟩ := open_rule ht
        simp only at hp2 hp3 hp4
        obtain ⟨_, _, hcell⟩ := World.cells?_some hc
        have hsum : Rows.uptoBulkAll ((List.range (k + 1)).map D) = Rows.uptoBulkAll ((List.range k).map D) + Rows.uptoBulk (D k) := by
          rw [List.range_succ, List.map_append, bulk_append]
          simp only [List.map_cons, List.map_nil, Rows.uptoBulkAll]; omega
        have hpos := bulk_pos (D k)
        refine ⟨P ++ [p], by simp [h1], ?_, ?_, ?_⟩
        · intro j u hj
          rw [flatP_snoc, List.getElem?_append] at hj
          have hfl := flatP_len P
          split at hj
          · exact h2 j u hj
          · rename_i hge
            have hj3 : j - (flatP P).length < 2 := by
              have := (List.getElem?_eq_some_iff.1 hj).1
              simpa using this
            have := hcell (j - (flatP P).length) hj3
            rw [hj, Go.Deep.add_add] at this
            rw [← this]
            congr 2
            omega
        · intro q hq
          rcases List.mem_append.1 hq with hq | hq
          · exact h3 q hq
          · rw [List.mem_singleton.1 hq]; exact hp1
        · rw [hsum, List.map_append]
          have e : nodesG (P.map (·.1) ++ [p].map (·.1)) = nodesG (P.map (·.1)) + p.1.b.length := by simp [nodesG]
          refine ⟨?_, ?_, fun r hr => ?_, fun r hr x hx => ?_⟩
          · have := h4.len; simp at this ⊢; omega
          · rw [e]; have := h4.nodes; omega
          · rcases List.mem_append.1 hr with hr | hr
            · have := h4.head r hr; omega
            · simp at hr; subst hr; omega
          · rcases List.mem_append.1 hr with hr | hr
            · have := h4.name r hr x hx; omega
            · simp at hr; subst hr; have := hp4 x hx; omega
    obtain ⟨P, h1, h2, h3, h4⟩ := key len (Nat.le_refl _)
    have hle2 : Rows.uptoBulkAll ((List.range len).map D) ≤ Rows.uptoBulk (DataW.slice ((List.range len).map D) ((List.range (m - len)).map fun j => D (len + j))) := by
      simp only [Rows.uptoBulk]; omega
    refine ⟨P.map (·.1), ⟨P, rfl, ?_, h3⟩, ⟨Nat.le_trans h4.len hle2, Nat.le_trans h4.nodes hle2, fun r hr => Nat.le_trans (h4.head r hr) hle2, fun r hr x hx => Nat.le_trans (h4.name r hr x hx) hle2⟩⟩
    have := rd_cells (w := w) (a := a) (n := P.length) (size := 2) (cap := cap) (by omega) (flatP_len P) (by omega) hmax h2
    rwa [show (Value.slice (some a) len cap) = .slice (some a) P.length cap from by rw [h1]]
end Go.Proofs.YtkmjmfcanlknjaaGreat
