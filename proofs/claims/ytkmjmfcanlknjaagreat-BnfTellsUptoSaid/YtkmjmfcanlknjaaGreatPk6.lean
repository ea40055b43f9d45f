/- The walks and facts that the laws lean on, part 6. No condition of its own: each theorem tells its own. -/
import Derived.Test.YtkmjmfcanlknjaaGreatPk5
import Derived.Test.YtkmjmfcanlknjaaGreatRows
import Derived.Deep.Strs
import Derived.WideShapes
namespace Go.Proofs.YtkmjmfcanlknjaaGreat
open Go.RowKit Go.Shelf

/-! ### the door of Parse -/
set_option maxRecDepth 100000 in
set_option maxHeartbeats 800000 in
theorem xCatchG_idle (a b c : Addr) (w : World) :
    CallsD Tryz.prog 36 #[.pointer (some a), .pointer (some b), .pointer (some c)] .returning w fun e u' w' => e = .returned (.tuple #[]) ∧ u' = .returning ∧ w' = w := by
  refine callsD_of_wpS Tryz.func36 rfl fun c₀ cs hu => ?_
  apply wpS_seq
  apply wpS_region
  simp [wpOpsS, go_sem, recoverD, hu, Tryz.ntmps36, Exit.thenS]
  refine wpS_of_wp ?_
  simp only [Array.replicate_succ, Array.replicate_zero, List.push_toArray, List.append_toArray, List.nil_append, List.cons_append, List.setIfInBounds_toArray, List.set_cons_succ, List.set_cons_zero]
  go_wp2
  cases c₀
  simp_all [bodyPostS, results, Tryz.results36]

set_option maxRecDepth 100000 in
set_option maxHeartbeats 800000 in
theorem xCatchG_panic (b2 b3 b4 : Nat) (x : Int) (older : List PanicEntry) (w : World) (v2 v3 v4 : Value) (h2 : Boxed w b2 22 v2) (h3 : Boxed w b3 3 v3) (h4 : Boxed w b4 23 v4) (n23 : b2 ≠ b3) (n24 : b2 ≠ b4) (n34 : b3 ≠ b4) :
    CallsD Tryz.prog 36 #[.pointer (some ⟨b2, 0, none⟩), .pointer (some ⟨b3, 0, none⟩), .pointer (some ⟨b4, 0, none⟩)] (.panicking ({ v := .iface 60 (.agg #[.int .i64 x]), recovered := false } :: older)) w fun e u' w' =>
      e = .returned (.tuple #[]) ∧ u' = .panicking ({ v := .iface 60 (.agg #[.int .i64 x]), recovered := true } :: older) ∧
        (Boxed w' b2 22 (.slice none 0 0) ∧ Boxed w' b3 3 (.int .i64 x) ∧ Boxed w' b4 23 (.int .i64 172) ∧ ∀ B w0, Below B w0 w → B ≤ b2 → B ≤ b3 → B ≤ b4 → B ≤ w.heap.size → Below B w0 w') := by
  have hta : ∀ w, (Instr.typeAssert (.iface 60 (.agg #[.int .i64 x])) 20 60 true).run Tryz.prog w = .ok (.tuple #[.agg #[.int .i64 x], .bool true]) w := fun _ => by kernel_rfl
  have c2 := h2.cell
  have c3 := h3.cell
  have c4 := h4.cell
  have f2 := h2.frozen
  have f3 := h3.frozen
  have f4 := h4.frozen
  have l2 := h2.lt
  have l3 := h3.lt
  have l4 := h4.lt
  refine callsD_of_wpS Tryz.func36 rfl fun c₀ cs hu => ?_
  apply wpS_seq
  apply wpS_region
  simp [wpOpsS, go_sem, recoverD, hu, Tryz.ntmps36, Exit.thenS]
  refine wpS_of_wp ?_
  simp only [Array.replicate_succ, Array.replicate_zero, List.push_toArray, List.append_toArray, List.nil_append, List.cons_append, List.setIfInBounds_toArray, List.set_cons_succ, List.set_cons_zero]
  go_wp2
  go_region
  refine ⟨rfl, _, rfl, _, by simp [results, Tryz.results36], rfl, rfl, ?_⟩
  have k2 : Boxed (((w.setCell ⟨b2, 0, none⟩ (.slice none 0 0)).setCell ⟨b3, 0, none⟩ (.int .i64 x)).setCell ⟨b4, 0, none⟩ (.int .i64 172)) b2 22 (.slice none 0 0) := ((h2.set _).other n23 _).other n24 _
  have k3 : Boxed (((w.setCell ⟨b2, 0, none⟩ (.slice none 0 0)).setCell ⟨b3, 0, none⟩ (.int .i64 x)).setCell ⟨b4, 0, none⟩ (.int .i64 172)) b3 3 (.int .i64 x) := ((h3.other (Ne.symm n23) _).set _).other n34 _
  have k4 : Boxed (((w.setCell ⟨b2, 0, none⟩ (.slice none 0 0)).setCell ⟨b3, 0, none⟩ (.int .i64 x)).setCell ⟨b4, 0, none⟩ (.int .i64 172)) b4 23 (.int .i64 172) := ((h4.other (Ne.symm n24) _).other (Ne.symm n34) _).set _
  refine ⟨(k2.alloc _).kept (grown_drewN _ 1 none) (by simp), (k3.alloc _).kept (grown_drewN _ 1 none) (by simp), (k4.alloc _).kept (grown_drewN _ 1 none) (by simp), ?_⟩
  intro B w0 hb e2 e3 e4 e5
  exact ((((hb.setCell (p := ⟨b2, 0, none⟩) e2 _).setCell (p := ⟨b3, 0, none⟩) e3 _).setCell (p := ⟨b4, 0, none⟩) e4 _).alloc (by simpa [World.setCell] using e5) _).drew
/-- what Parse leaves -/
def GRet (w : World) (x : List Ru × Int × Int) (e : Ending) (w' : World) : Prop :=
  ∃ v P, e = .returned (.tuple #[v, .int .i64 x.2.1, .int .i64 x.2.2]) ∧ P.map (·.1) = x.1 ∧ OwnP w' w.heap.size v P ∧ Below w.heap.size w w'
theorem parseG_results (tmps : Array Value) (b2 b3 b4 : Nat) (v2 : Value) (x e : Int) (w : World) (h2 : tmps[2]? = some (.pointer (some ⟨b2, 0, none⟩))) (h3 : tmps[3]? = some (.pointer (some ⟨b3, 0, none⟩))) (h4 : tmps[4]? = some (.pointer (some ⟨b4, 0, none⟩)))
    (k2 : Boxed w b2 22 v2) (k3 : Boxed w b3 3 (.int .i64 x)) (k4 : Boxed w b4 23 (.int .i64 e)) : (results Tryz.f15 tmps).run Tryz.prog w = .ok (.tuple #[v2, .int .i64 x, .int .i64 e]) w := by
  have c2 := k2.cell
  have c3 := k3.cell
  have c4 := k4.cell
  simp [results, Tryz.results15, go_sem, h2, h3, h4, c2, c3, c4]
set_option maxRecDepth 100000 in
set_option maxHeartbeats 1600000 in
theorem xParseG_long (s : ByteArray) (w : World) (hs : 2048 < s.size) :
    Calls Tryz.prog 15 #[.string s] w (GRet w ([], 0, 3)) := by
  have hmf : ∀ (fn : Fn) (first cap : Array Value) (w : World), (Instr.makeFunc fn first cap).run Tryz.prog w = .ok (.func fn first cap) w := fun _ _ _ _ => rfl
  go_enter_defers Tryz.func15, Tryz.ntmps15
  go_wp2
  have k2 := ((Boxed.new w 22 (.slice none 0 0)).alloc (.cells #[.int .i64 0] 3)).alloc (.cells #[.int .i64 3] 23)
  have k3 := (Boxed.new (w.alloc (.cells #[.slice none 0 0] 22)) 3 (.int .i64 0)).alloc (.cells #[.int .i64 3] 23)
  have k4 := Boxed.new ((w.alloc (.cells #[.slice none 0 0] 22)).alloc (.cells #[.int .i64 0] 3)) 23 (.int .i64 3)
  exact ⟨_, parseG_results _ _ _ _ _ _ _ _ (by simp) (by simp) (by simp) k2 k3 k4, .slice none 0 0, [], rfl, rfl, OwnP.nil _ _, below3 _ _ _ _⟩
/-- the deferred call that Parse lays -/
def rcvG (b2 b3 b4 : Nat) : List Deferred := [{ target := .fn (.func 36) #[.pointer (some ⟨b2, 0, none⟩), .pointer (some ⟨b3, 0, none⟩), .pointer (some ⟨b4, 0, none⟩)], args := #[] }]
theorem doorG_panic {w w7 : World} {tmps : Array Value} {b2 b3 b4 : Nat} {x : Int} {v2 v3 v4 : Value} (h2 : tmps[2]? = some (.pointer (some ⟨b2, 0, none⟩))) (h3 : tmps[3]? = some (.pointer (some ⟨b3, 0, none⟩))) (h4 : tmps[4]? = some (.pointer (some ⟨b4, 0, none⟩)))
    (k2 : Boxed w7 b2 22 v2) (k3 : Boxed w7 b3 3 v3) (k4 : Boxed w7 b4 23 v4) (n23 : b2 ≠ b3) (n24 : b2 ≠ b4) (n34 : b3 ≠ b4) (hb : Below w.heap.size w w7) (e2 : w.heap.size ≤ b2) (e3 : w.heap.size ≤ b3) (e4 : w.heap.size ≤ b4) :
    bodyPostD Tryz.prog Tryz.f15 (GRet w ([], x, 172)) (.panic (wrongG x)) { tmps := tmps, defers := rcvG b2 b3 b4 } w7 := by
  refine leaves_cons (f := 36) (args := #[.pointer (some ⟨b2, 0, none⟩), .pointer (some ⟨b3, 0, none⟩), .pointer (some ⟨b4, 0, none⟩)]) (by simp [wrongG]) (by simp [go_sem]) ?_
  refine (xCatchG_panic b2 b3 b4 x [] w7 v2 v3 v4 k2 k3 k4 n23 n24 n34).mono ?_
  rintro e u' w8 ⟨rfl, rfl, c2, c3, c4, hw⟩
  exact ⟨_, parseG_results _ _ _ _ _ _ _ _ h2 h3 h4 c2 c3 c4, _, [], rfl, rfl, OwnP.nil _ _, hw _ _ hb e2 e3 e4 hb.size⟩
theorem doorG_ret {w w7 : World} {tmps : Array Value} {b2 b3 b4 : Nat} {v2 : Value} {P : List (Ru × Value)} {l : List Ru} {x e : Int} (h2 : tmps[2]? = some (.pointer (some ⟨b2, 0, none⟩))) (h3 : tmps[3]? = some (.pointer (some ⟨b3, 0, none⟩))) (h4 : tmps[4]? = some (.pointer (some ⟨b4, 0, none⟩)))
    (k2 : Boxed w7 b2 22 v2) (k3 : Boxed w7 b3 3 (.int .i64 x)) (k4 : Boxed w7 b4 23 (.int .i64 e)) (hb : Below w.heap.size w w7) (hl : P.map (·.1) = l) (ho : OwnP w7 w.heap.size v2 P) :
    bodyPostD Tryz.prog Tryz.f15 (GRet w (l, x, e)) .ret { tmps := tmps, defers := rcvG b2 b3 b4 } w7 := by
  refine leaves_cons (f := 36) (args := #[.pointer (some ⟨b2, 0, none⟩), .pointer (some ⟨b3, 0, none⟩), .pointer (some ⟨b4, 0, none⟩)]) (by simp) (by simp [go_sem]) ?_
  refine (xCatchG_idle _ _ _ w7).mono ?_
  rintro e u' w8 ⟨rfl, rfl, rfl⟩
  exact ⟨_, parseG_results _ _ _ _ _ _ _ _ h2 h3 h4 k2 k3 k4, _, P, rfl, hl, ho, hb⟩
/-- the three boxes of the results -/
structure Bx3 (w w' : World) (v2 : Value) (x e : Int) : Prop where
  below : Below w.heap.size w w'
  k2 : Boxed w' w.heap.size 22 v2
  k3 : Boxed w' (w.heap.size + 1) 3 (.int .i64 x)
  k4 : Boxed w' (w.heap.size + 1 + 1) 23 (.int .i64 e)
theorem Bx3.new (w : World) : Bx3 w (((w.alloc (.cells #[.slice none 0 0] 22)).alloc (.cells #[.int .i64 0] 3)).alloc (.cells #[.int .i64 0] 23)) (.slice none 0 0) 0 0 := by
  refine ⟨below3 _ _ _ _, ((Boxed.new w _ _).alloc _).alloc _, ?_, ?_⟩
  · have h := (Boxed.new (w.alloc (.cells #[.slice none 0 0] 22)) 3 (.int .i64 0)).alloc (.cells #[.int .i64 0] 23)
    simpa using h
  · have h := Boxed.new ((w.alloc (.cells #[.slice none 0 0] 22)).alloc (.cells #[.int .i64 0] 3)) 23 (.int .i64 0)
    simpa using h
theorem Bx3.kept {w a b : World} {v2 : Value} {x e : Int} {row : Option Nat} (h : Bx3 w a v2 x e) (hg : a.grownBy b row) (hr : ∀ j, row = some j → w.heap.size + 1 + 1 < j) : Bx3 w b v2 x e :=
  ⟨h.below.grown hg h.below.size (fun j hj => by have := hr j hj; omega), h.k2.kept hg (fun e => by have := hr _ e.symm; omega), h.k3.kept hg (fun e => by have := hr _ e.symm; omega), h.k4.kept hg (fun e => by have := hr _ e.symm; omega)⟩
theorem Bx3.set2 {w a : World} {v2 : Value} {x e : Int} (h : Bx3 w a v2 x e) (u : Value) : Bx3 w (a.setCell ⟨w.heap.size, 0, none⟩ u) u x e :=
  ⟨h.below.setCell (p := ⟨w.heap.size, 0, none⟩) (Nat.le_refl _) _, h.k2.set u, h.k3.other (by omega) u, h.k4.other (by omega) u⟩
theorem Bx3.set3 {w a : World} {v2 : Value} {x e : Int} (h : Bx3 w a v2 x e) (y : Int) : Bx3 w (a.setCell ⟨w.heap.size + 1, 0, none⟩ (.int .i64 y)) v2 y e :=
  ⟨h.below.setCell (p := ⟨w.heap.size + 1, 0, none⟩) (by show w.heap.size ≤ w.heap.size + 1; omega) _, h.k2.other (by omega) _, h.k3.set _, h.k4.other (by omega) _⟩
theorem Bx3.set4 {w a : World} {v2 : Value} {x e : Int} (h : Bx3 w a v2 x e) (y : Int) : Bx3 w (a.setCell ⟨w.heap.size + 1 + 1, 0, none⟩ (.int .i64 y)) v2 x y :=
  ⟨h.below.setCell (p := ⟨w.heap.size + 1 + 1, 0, none⟩) (by show w.heap.size ≤ w.heap.size + 1 + 1; omega) _, h.k2.other (by omega) _, h.k3.other (by omega) _, h.k4.set _⟩
set_option maxRecDepth 100000 in
set_option maxHeartbeats 6400000 in
theorem xParseG_good (s : ByteArray) (w : World) (hs : ¬ 2048 < s.size) (hq : (cut s 0).2 = s.size) :
    Calls Tryz.prog 15 #[.string s] w (GRet w (parseG s)) := by
  have hmf : ∀ (fn : Fn) (first cap : Array Value) (w : World), (Instr.makeFunc fn first cap).run Tryz.prog w = .ok (.func fn first cap) w := fun _ _ _ _ => rfl
  have HS := Lib.hid (scan_any s (by omega))
  have HE : scanM s = ((cut s 0).1, 0, 0) := by unfold scanM; rw [if_neg (by omega)]
  rw [HE] at HS
  clear HE
  have HRu := Lib.hid (fun (w : World) (Br : Nat) (vl : Value) (h : Rdg w Br s vl (cut s 0).1 0 ((cut s 0).2 : Nat)) => xRules_any h (by omega))
  rw [hq] at HRu
  have HPa : Hid (parseG s = if (gParsed s).ok = false then ([], plc (cut s 0).1 s.size (gParsed s).p, 172) else if longG (gParsed s).g = true then ([], 0, 173) else if checkG (gParsed s).g ≠ 0 then ([], 0, checkG (gParsed s).g) else ((gParsed s).g, 0, 0)) := by
    unfold Hid parseG
    rw [if_neg hs, hq, if_neg (Nat.lt_irrefl _)]
  have HBox := Lib.hid (Bx3.new w)
  go_enter_defers Tryz.func15, Tryz.ntmps15
  go_wp2_with fail
  refine (HS.out _).mono ?_
  rintro e w5 ⟨v1, rfl, ho1, hb5⟩
  have HBx5 := Lib.hid (HBox.out.kept (grown_below hb5) (by simp))
  have HM5 := Lib.hid (RdMk.of_own ho1)
  have hlt5 : ∀ g, v1.ownBlock = some g → g < w5.heap.size := fun g hg => (World.ownsRow.lt ho1 g hg).2
  have HLt := Lib.hid hlt5
  obtain ⟨_, ao, cap, rfl, -⟩ := Rd.of_owns ho1
  have hw5 : w.heap.size + 1 + 1 < w5.heap.size := HBx5.out.k4.lt
  clear ho1 hb5 HBox hlt5
  go_wp2_with fail
  have HRd6 : Hid (Rdg (w5.alloc (.cells #[.string s, .slice ao (cut s 0).1.length cap, .int .i64 0, .int .i64 s.size] 67)) w5.heap.size s (.slice ao (cut s 0).1.length cap) (cut s 0).1 0 (s.size : Nat)) := by
    refine ⟨World.alloc_heap_new w5 _, Rd.below HM5.out (below1 _ _), ?_⟩
    intro a n c e
    simp only [Value.slice.injEq] at e
    obtain ⟨rfl, -, -⟩ := e
    have := HLt.out a.block rfl
    omega
  have HBx6 := Lib.hid (HBx5.out.kept (World.grownBy_alloc w5 (.cells #[.string s, .slice ao (cut s 0).1.length cap, .int .i64 0, .int .i64 s.size] 67) none) (by simp))
  clear HM5 HLt HBx5
  generalize w5.alloc (.cells #[.string s, .slice ao (cut s 0).1.length cap, .int .i64 0, .int .i64 s.size] 67) = w6 at *
  generalize w5.heap.size = Br at *
  refine (HRu.out _ _ _ HRd6.out).mono ?_
  have HSz : Hid ((gParsed s).ok = true → (gParsed s).g.length ≤ 2048 ∧ nodesG (gParsed s).g ≤ 4096) := fun hok => by
    have h1 := (cut_len s s.size 0 (by omega) (by omega)).1
    have h2 := rules_size (cut s 0).1 ((cut s 0).1.length + 1) 0 [] (by omega) (by omega) hok
    have e0 : nodesG [] = 0 := rfl
    rw [e0, List.length_nil] at h2
    have h3 : (gParsed s).g.length ≤ 0 + ((cut s 0).1.length - 0) := h2.1
    have h4 : nodesG (gParsed s).g ≤ 0 + 2 * ((cut s 0).1.length - 0) := h2.2
    omega
  have hw6 : w.heap.size + 1 + 1 < w6.heap.size := HBx6.out.k4.lt
  clear HRd6 HS HRu
  rintro e w7 ⟨hg7, (⟨hok, v, P, rfl, hP, ho7⟩ | ⟨hok, rfl⟩)⟩
  · have HBx7 := Lib.hid (HBx6.out.kept hg7 (fun j hj => by cases hj; exact hw5))
    obtain ⟨hsz1, hsz2⟩ := HSz.out hok
    rw [if_neg (by rw [hok]; simp)] at HPa
    clear HSz hok hg7 HBx6
    generalize (gParsed s).g = G at *
    have HP := Lib.hid hP
    have HO7 := Lib.hid ho7
    obtain ⟨_, av, cv, rfl, -⟩ := Rd.of_owns ho7.row
    have c2 := HBx7.out.k2.cell
    have f2 := HBx7.out.k2.frozen
    clear hP ho7
    go_wp2_with fail
    have HBx8 := Lib.hid (HBx7.out.set2 (.slice av P.length cv))
    have HO8 : Hid (OwnP (w7.setCell ⟨w.heap.size, 0, none⟩ (.slice av P.length cv)) w6.heap.size (.slice av P.length cv) P) := HO7.out.grown (grown_set w7 w.heap.size 0 _) (fun j hj => by cases hj; omega)
    clear c2 f2 HO7 HBx7
    generalize w7.setCell ⟨w.heap.size, 0, none⟩ (.slice av P.length cv) = w8 at *
    refine (xLongG_any _ G _ ⟨P, HP.out, HO8.out.rd⟩ (by omega) (by omega)).mono ?_
    rintro e w9 ⟨rfl, hb9⟩
    have HBx9 := Lib.hid (HBx8.out.kept (grown_below hb9) (by simp))
    have HO9 := Lib.hid (HO8.out.below hb9)
    clear hb9 HBx8 HO8
    cases hlg : longG G with
    | true =>
      rw [hlg, if_pos rfl] at HPa
      have c2 := HBx9.out.k2.cell
      have f2 := HBx9.out.k2.frozen
      have c3 := HBx9.out.k3.cell
      have f3 := HBx9.out.k3.frozen
      have c4 := HBx9.out.k4.cell
      have f4 := HBx9.out.k4.frozen
      clear hlg
      go_wp2_with fail
      have hB := ((HBx9.out.set2 (.slice none 0 0)).set3 0).set4 173
      rw [HPa.out]
      exact doorG_ret (by simp) (by simp) (by simp) hB.k2 hB.k3 hB.k4 hB.below (P := []) rfl (OwnP.nil _ _)
    | false =>
      rw [hlg, if_neg (by simp)] at HPa
      have HLim : Hid (LimG G) := by
        unfold longG at hlg
        rw [List.any_eq_false] at hlg
        refine ⟨by omega, by omega, fun r hr => ?_, fun r hr x hx => ?_⟩
        · have := hlg r hr
          simp only [Bool.or_eq_true, decide_eq_true_eq, not_or] at this
          omega
        · have := hlg r hr
          simp only [Bool.or_eq_true, decide_eq_true_eq, not_or] at this
          have h2 := this.2
          unfold longN at h2
          have h3 : (r.b.any fun x => decide (16 < x.n.size)) = false := by simpa using h2
          rw [List.any_eq_false] at h3
          have := h3 x hx
          simp only [decide_eq_true_eq] at this
          omega
      have c2 := HBx9.out.k2.cell
      clear hlg
      go_wp2_with fail
      refine (xCheckG_any _ G _ ⟨P, HP.out, HO9.out.rd⟩ HLim.out (by omega)).mono ?_
      rintro e w10 ⟨rfl, hb10⟩
      have HBx10 := Lib.hid (HBx9.out.kept (grown_below hb10) (by simp))
      have HO10 := Lib.hid (HO9.out.below hb10)
      clear hb10 HBx9 HO9 c2
      have c2 := HBx10.out.k2.cell
      have f2 := HBx10.out.k2.frozen
      have c3 := HBx10.out.k3.cell
      have f3 := HBx10.out.k3.frozen
      have c4 := HBx10.out.k4.cell
      have f4 := HBx10.out.k4.frozen
      by_cases hz : checkG G = 0
      · rw [if_neg (by simp [hz])] at HPa
        rw [hz]
        clear hz
        go_wp2_with fail
        have hB := ((HBx10.out.set2 (.slice av P.length cv)).set3 0).set4 0
        have ho : OwnP w10 w6.heap.size (.slice av P.length cv) P := HO10.out
        have ho1 := ho.grown (grown_set w10 w.heap.size 0 (.slice av P.length cv)) (fun j hj => by cases hj; omega)
        have ho2 := ho1.grown (grown_set _ (w.heap.size + 1) 0 (.int .i64 0)) (fun j hj => by cases hj; omega)
        have ho3 := ho2.grown (grown_set _ (w.heap.size + 1 + 1) 0 (.int .i64 0)) (fun j hj => by cases hj; omega)
        rw [HPa.out]
        exact doorG_ret (by simp) (by simp) (by simp) hB.k2 hB.k3 hB.k4 hB.below HP.out (ho3.lower (by omega))
      · rw [if_pos hz] at HPa
        have hz2 : (checkG G != 0) = true := by simpa using hz
        clear hz
        generalize checkG G = ce at *
        go_wp2_with fail
        have hB := ((HBx10.out.set2 (.slice none 0 0)).set3 0).set4 ce
        rw [HPa.out]
        exact doorG_ret (by simp) (by simp) (by simp) hB.k2 hB.k3 hB.k4 hB.below (P := []) rfl (OwnP.nil _ _)
  · have HBx7 := Lib.hid (HBx6.out.kept hg7 (fun j hj => by cases hj; exact hw5))
    rw [if_pos hok] at HPa
    clear HSz hok hg7 HBx6
    go_wp2_with fail
    rw [HPa.out]
    exact doorG_panic (by simp) (by simp) (by simp) HBx7.out.k2 HBx7.out.k3 HBx7.out.k4 (by omega) (by omega) (by omega) HBx7.out.below (Nat.le_refl _) (by omega) (by omega)
set_option maxRecDepth 100000 in
set_option maxHeartbeats 6400000 in
theorem xParseG_bad (s : ByteArray) (w : World) (hs : ¬ 2048 < s.size) (hq : (cut s 0).2 < s.size) :
    Calls Tryz.prog 15 #[.string s] w (GRet w (parseG s)) := by
  have hmf : ∀ (fn : Fn) (first cap : Array Value) (w : World), (Instr.makeFunc fn first cap).run Tryz.prog w = .ok (.func fn first cap) w := fun _ _ _ _ => rfl
  have HS := Lib.hid (scan_any s (by omega))
  have HE : scanM s = ([], (((cut s 0).2 : Nat) : Int), 160) := by unfold scanM; rw [if_pos hq]
  rw [HE] at HS
  have hpre := cut_pre s s.size 0 _ (by omega) (by omega) rfl
  have hpz : (s.extract 0 (cut s 0).2).size = (cut s 0).2 := by rw [ByteArray.size_extract]; omega
  have HS2 := Lib.hid (scan_any (s.extract 0 (cut s 0).2) (by omega))
  have HE2 : scanM (s.extract 0 (cut s 0).2) = ((cut s 0).1, 0, 0) := by unfold scanM; rw [hpre, if_neg (by simp only; omega)]
  rw [HE2] at HS2
  clear HE HE2 hpre hpz
  have HRu := Lib.hid (fun (w : World) (Br : Nat) (vl : Value) (h : Rdg w Br s vl (cut s 0).1 0 ((cut s 0).2 : Nat)) => xRules_any h (by omega))
  have HPa : Hid (parseG s = if (gParsed s).ok = false then ([], plc (cut s 0).1 ((cut s 0).2 : Nat) (gParsed s).p, 172) else ([], ((cut s 0).2 : Nat), 172)) := by
    unfold Hid parseG
    rw [if_neg hs, if_pos hq]
  have HBox := Lib.hid (Bx3.new w)
  generalize (cut s 0).1 = L at *
  generalize (cut s 0).2 = bad at *
  go_enter_defers Tryz.func15, Tryz.ntmps15
  go_wp2_with fail
  refine (HS.out _).mono ?_
  rintro e w5 ⟨v1, rfl, ho1, hb5⟩
  have HBx5 := Lib.hid (HBox.out.kept (grown_below hb5) (by simp))
  obtain ⟨_, ao1, cap1, rfl, -⟩ := Rd.of_owns ho1
  have hw5 : w.heap.size + 1 + 1 < w5.heap.size := HBx5.out.k4.lt
  clear ho1 hb5 HBox
  go_wp2_with fail
  have HBox6 : Hid ((w5.alloc (.cells #[.string s, .slice ao1 ([] : List Mk).length cap1, .int .i64 0, .int .i64 s.size] 67)).heap[w5.heap.size]? = some (.cells #[.string s, .slice ao1 ([] : List Mk).length cap1, .int .i64 0, .int .i64 s.size] 67 (0, 0))) := World.alloc_heap_new w5 _
  have HBx6 := Lib.hid (HBx5.out.kept (World.grownBy_alloc w5 (.cells #[.string s, .slice ao1 ([] : List Mk).length cap1, .int .i64 0, .int .i64 s.size] 67) none) (by simp))
  have hz6 : w5.heap.size < (w5.alloc (.cells #[.string s, .slice ao1 ([] : List Mk).length cap1, .int .i64 0, .int .i64 s.size] 67)).heap.size := by simp
  clear HBx5
  simp only [List.length_nil] at HBox6 HBx6 hz6 ⊢
  generalize w5.alloc (.cells #[.string s, .slice ao1 0 cap1, .int .i64 0, .int .i64 s.size] 67) = w6 at *
  generalize w5.heap.size = Br at *
  refine (HS2.out _).mono ?_
  rintro e w7 ⟨v2, rfl, ho7, hb7⟩
  have HBx7 := Lib.hid (HBx6.out.kept (grown_below hb7) (by simp))
  have HBox7 : Hid (w7.heap[Br]? = some (.cells #[.string s, .slice ao1 0 cap1, .int .i64 0, .int .i64 s.size] 67 (0, 0))) := (hb7.block Br hz6).trans HBox6.out
  have HO7 := Lib.hid ho7
  have hw6 : w.heap.size + 1 + 1 < w6.heap.size := HBx6.out.k4.lt
  obtain ⟨_, ao, cap, rfl, -⟩ := Rd.of_owns ho7
  have c1 : w7.cell? ⟨Br, 1, none⟩ = some (.slice ao1 0 cap1) := by have := HBox7.out; simp [World.cell?, this]
  have c3 : w7.cell? ⟨Br, 3, none⟩ = some (.int .i64 s.size) := by have := HBox7.out; simp [World.cell?, this]
  have f1 : w7.frozen? ⟨Br, 1, none⟩ = false := by have := HBox7.out; simp [World.frozen?, this]
  have f3 : w7.frozen? ⟨Br, 3, none⟩ = false := by have := HBox7.out; simp [World.frozen?, this]
  clear ho7 hb7 HBox6 HBx6
  go_wp2_with fail
  have HG8 : Hid (w7.grownBy ((w7.setCell ⟨Br, 1, none⟩ (.slice ao L.length cap)).setCell ⟨Br, 3, none⟩ (.int .i64 bad)) (some Br)) := grown_then (grown_set _ _ _ _) (grown_set _ _ _ _) (fun j hj => by cases hj; exact .inr rfl)
  have HBx8 := Lib.hid (HBx7.out.kept HG8.out (fun j hj => by cases hj; exact hw5))
  have HRd8 : Hid (Rdg ((w7.setCell ⟨Br, 1, none⟩ (.slice ao L.length cap)).setCell ⟨Br, 3, none⟩ (.int .i64 bad)) Br s (.slice ao L.length cap) L 0 (bad : Nat)) := by
    refine ⟨?_, RdMk.of_own (own_grown HO7.out HG8.out (fun j hj => by cases hj; exact .inl hz6)), ?_⟩
    · simp only [World.setCell]
      rw [Array.getElem?_modify, if_pos rfl, Array.getElem?_modify, if_pos rfl, HBox7.out]
      rfl
    · intro a n c e
      simp only [Value.slice.injEq] at e
      obtain ⟨rfl, -, -⟩ := e
      have := own_block HO7.out a.block rfl
      omega
  clear c1 c3 f1 f3 HBox7 HO7 HG8 HBx7
  generalize (w7.setCell ⟨Br, 1, none⟩ (.slice ao L.length cap)).setCell ⟨Br, 3, none⟩ (.int .i64 bad) = w8 at *
  refine (HRu.out _ _ _ HRd8.out).mono ?_
  clear HRd8 HS HS2 HRu
  rintro e w9 ⟨hg9, (⟨hok, v, P, rfl, hP, ho9⟩ | ⟨hok, rfl⟩)⟩
  · have HBx9 := Lib.hid (HBx8.out.kept hg9 (fun j hj => by cases hj; exact hw5))
    rw [if_neg (by rw [hok]; simp)] at HPa
    obtain ⟨_, av, cv, rfl, -⟩ := Rd.of_owns ho9.row
    have c2 := HBx9.out.k2.cell
    have f2 := HBx9.out.k2.frozen
    have c3 := HBx9.out.k3.cell
    have f3 := HBx9.out.k3.frozen
    have c4 := HBx9.out.k4.cell
    have f4 := HBx9.out.k4.frozen
    clear hok hg9 HBx8 hP ho9
    have hne1 : w.heap.size ≠ w.heap.size + 1 := by omega
    go_wp2_with fail
    have hB := (((HBx9.out.set2 (.slice av P.length cv)).set2 (.slice none 0 0)).set3 bad).set4 172
    rw [HPa.out]
    exact doorG_ret (by simp) (by simp) (by simp) hB.k2 hB.k3 hB.k4 hB.below (P := []) rfl (OwnP.nil _ _)
  · have HBx9 := Lib.hid (HBx8.out.kept hg9 (fun j hj => by cases hj; exact hw5))
    rw [if_pos hok] at HPa
    clear hok hg9 HBx8
    go_wp2_with fail
    rw [HPa.out]
    exact doorG_panic (by simp) (by simp) (by simp) HBx9.out.k2 HBx9.out.k3 HBx9.out.k4 (by omega) (by omega) (by omega) HBx9.out.below (Nat.le_refl _) (by omega) (by omega)
theorem xParseG_any (s : ByteArray) (w : World) : Calls Tryz.prog 15 #[.string s] w (GRet w (parseG s)) := by
  by_cases hs : 2048 < s.size
  · have e : parseG s = ([], 0, 3) := by unfold parseG; rw [if_pos hs]
    rw [e]; exact xParseG_long s w hs
  · by_cases hq : (cut s 0).2 < s.size
    · exact xParseG_bad s w hs hq
    · exact xParseG_good s w hs (by have := (cut_len s s.size 0 (by omega) (by omega)).2.2; omega)
end Go.Proofs.YtkmjmfcanlknjaaGreat
namespace Go.Proofs.YtkmjmfcanlknjaaGreat
open Go.RowKit Go.Shelf

/-! ### the two texts of head -/
def headG : List Ru := [⟨⟨#[83]⟩, [⟨3, ⟨#[97]⟩, 0⟩]⟩]
theorem headG_good : GoodT [⟨3, ⟨#[97]⟩, 0⟩] ⟨3, ⟨#[97]⟩, 0⟩ .nil :=
  ⟨rfl, ⟨rfl, trivial, trivial⟩, ⟨(mayB_iff _).1 (by decide +kernel), trivial, trivial⟩⟩
set_option maxRecDepth 100000 in
theorem headG_check : checkG headG = 0 := by
  have h1 : treesB headG = true := by decide +kernel
  have h2 : (heads headG).length + missing headG = 1 := by decide +kernel
  have h3 : (used 3 headG).length = 1 := by decide +kernel
  have h4 : occG headG = 1 := by decide +kernel
  have h5 : missing headG = 0 := by decide +kernel
  have h6 : deepB headG = false := by
    unfold deepB headG
    rw [List.any_cons, heightN_eq headG_good]
    rfl
  have h7 : (textG headG).size = 8 := by
    show (textG [⟨⟨#[83]⟩, [⟨3, ⟨#[97]⟩, 0⟩]⟩]).size = 8
    rw [textG_cons]
    unfold textR
    rw [textN_eq headG_good]
    decide +kernel
  unfold checkG
  rw [if_neg (by show ¬ (1 < 1 ∨ 64 < 1); omega), if_neg (by rw [h1]; simp), if_neg (by omega), if_neg (by omega), if_neg (by omega), if_neg (by rw [h6]; simp), if_neg (by omega), if_neg (by omega)]
set_option maxRecDepth 100000 in
theorem headG_one : parseG ⟨#[83, 32, 61, 32, 97, 32, 59]⟩ = (headG, 0, 0) := by
  have h1 : (gParsed ⟨#[83, 32, 61, 32, 97, 32, 59]⟩).ok = true := by decide +kernel
  have h2 : (gParsed ⟨#[83, 32, 61, 32, 97, 32, 59]⟩).g = headG := by decide +kernel
  have h3 : (cut ⟨#[83, 32, 61, 32, 97, 32, 59]⟩ 0).2 = 7 := by decide +kernel
  have h4 : longG headG = false := by decide +kernel
  unfold parseG
  rw [if_neg (by decide), h1, if_neg (by simp), h3, if_neg (by decide), h2, h4, if_neg (by simp), headG_check, if_neg (by simp)]
set_option maxRecDepth 100000 in
theorem headG_two : parseG ⟨#[83, 32, 97, 59]⟩ = ([], 2, 172) := by
  have h1 : (gParsed ⟨#[83, 32, 97, 59]⟩).ok = false := by decide +kernel
  have h2 : plc (cut ⟨#[83, 32, 97, 59]⟩ 0).1 (cut ⟨#[83, 32, 97, 59]⟩ 0).2 (gParsed ⟨#[83, 32, 97, 59]⟩).p = 2 := by decide +kernel
  unfold parseG
  rw [if_neg (by decide), h1, if_pos rfl, h2]
theorem check_nil : checkG [] = 180 := rfl
theorem lim_nil : LimG [] := ⟨by simp, by simp [nodesG], fun r hr => (by cases hr), fun r hr => (by cases hr)⟩
theorem one_nd (w : World) (t : TypeId) (q : Nat × Nat) (x : Nd) : RdNd (w.alloc (.cells #[.int .i64 x.k, .string x.n, .int .i64 x.c] t q)) (.slice (some ⟨w.heap.size, 0, none⟩) 1 1) [x] := one_rd w t q x
set_option maxRecDepth 100000 in
set_option maxHeartbeats 3200000 in
theorem headG_any (w : World) : Calls Tryz.prog 13 #[] w fun e w' => e = .returned (.bool true) ∧ Below w.heap.size w w' := by
  have H1 := Lib.hid (xParseG_any ⟨#[83, 32, 61, 32, 97, 32, 59]⟩ w)
  have H2 := Lib.hid (fun w => xParseG_any ⟨#[83, 32, 97, 59]⟩ w)
  have H3 := Lib.hid (fun w => xCheckG_any (.slice none 0 0) [] w ⟨[], rfl, Rd.nil _ _, fun p hp => by cases hp⟩ lim_nil (by simp [nodesG]))
  rw [headG_one] at H1
  rw [headG_two] at H2
  rw [check_nil] at H3
  go_enter Tryz.func13, Tryz.ntmps13
  go_wp2_with fail
  refine (H1.out).mono ?_
  rintro e w1 ⟨v, P, rfl, hP, ho, hb⟩
  have HB := Lib.hid hb
  obtain ⟨p, rfl, hp⟩ : ∃ p : Ru × Value, P = [p] ∧ p.1 = ⟨⟨#[83]⟩, [⟨3, ⟨#[97]⟩, 0⟩]⟩ := by
    simp only [headG] at hP
    cases P with
    | nil => simp at hP
    | cons p P =>
      simp only [List.map_cons, List.cons.injEq, List.map_eq_nil_iff] at hP
      exact ⟨p, by rw [hP.2], hP.1⟩
  obtain ⟨⟨ph, pb⟩, pv⟩ := p
  simp only [Ru.mk.injEq] at hp
  obtain ⟨rfl, rfl⟩ := hp
  obtain ⟨b, off, cap, rfl, hbl, hcap, x0, x1, hrd⟩ := RdP.at ho.rd (i := 0) rfl
  have HRd := Lib.hid hrd
  obtain ⟨_, ao3, cp3, hv2, -⟩ := id hrd
  simp only at hv2
  subst hv2
  simp only [Nat.zero_mul, Nat.add_zero] at x0 x1
  clear hb ho hP hrd hcap
  have hl1 : [(⟨3, ⟨#[97]⟩, 0⟩ : Nd)].length = 1 := rfl
  rw [hl1] at x1 HRd
  go_wp2_with fail
  have HW := Lib.hid (below1 w1 (.cells #[.int .i64 3, .string ⟨#[97]⟩, .int .i64 0] 57))
  refine (rSame_any _ _ [⟨3, ⟨#[97]⟩, 0⟩] [⟨3, ⟨#[97]⟩, 0⟩] _ (RdNd.below HRd.out HW.out) (one_nd w1 _ _ ⟨3, ⟨#[97]⟩, 0⟩) (by decide) (by decide)).mono ?_
  rintro e w2 ⟨rfl, hb2⟩
  have HB2 := Lib.hid ((HB.out.trans (HW.out.mono HB.out.size)).trans (hb2.mono (HB.out.trans (HW.out.mono HB.out.size)).size))
  clear hb2 HRd HW x0 x1
  rw [decide_eq_true (show [(⟨3, ⟨#[97]⟩, 0⟩ : Nd)] = [⟨3, ⟨#[97]⟩, 0⟩] from rfl)]
  go_wp2_with fail
  refine (H2.out _).mono ?_
  rintro e w3 ⟨v3, P3, rfl, -, ho3, hb3⟩
  have HB3 := Lib.hid (HB2.out.trans (hb3.mono HB2.out.size))
  obtain ⟨_, ao4, cp4, rfl, -⟩ := Rd.of_owns ho3.row
  clear ho3 hb3
  go_wp2_with fail
  refine (H3.out _).mono ?_
  rintro e w4 ⟨rfl, hb4⟩
  have HB4 := Lib.hid (HB3.out.trans (hb4.mono HB3.out.size))
  clear hb4
  go_wp2_with fail
  go_ret
  exact ⟨rfl, HB4.out⟩
end Go.Proofs.YtkmjmfcanlknjaaGreat
namespace Go.Proofs.YtkmjmfcanlknjaaGreat
open Go.RowKit

/-! ### plain: a grammar's text is read as that grammar -/
noncomputable def tkR (r : Ru) : List TK := (1, r.h) :: (4, ⟨#[61]⟩) :: (tkN (pickT r.b).1 (pickT r.b).2.tk ++ [(5, ⟨#[59]⟩)])
noncomputable def tkG (G : List Ru) : List TK := G.flatMap tkR
theorem blank_not_inner : innerI ((32 : UInt8).toNat : Int) = false := by decide
theorem lex_tree {N : List Nd} (h : treeB N = true) : LexTo true (textN N).data.toList (tkN (pickT N).1 (pickT N).2.tk) := by
  have hG := pickT_good h
  exact (lex_tx (Fo.cons (pickT N).1 (pickT N).2 .nil) hG.wf hG.all 0 ((pickT N).1.k, txN (pickT N).1 (pickT N).2.tx) ((pickT N).1.k, tkN (pickT N).1 (pickT N).2.tk) rfl rfl).2
theorem lex_rule (r : Ru) (h : nameB r.h 1 = true) (h2 : treeB r.b = true) : LexTo false (textR r).data.toList (tkR r) := by
  have l1 := LexTo.name r.h 1 ((nameB_iff _ _).1 h) (.inl rfl)
  have l2 := LexTo.blank 32 (by decide)
  have l3 := LexTo.sign 61 4 (by decide) (by decide)
  have l4 := lex_tree h2
  have l5 := LexTo.sign 59 5 (by decide) (by decide)
  have l6 := LexTo.blank 10 (by decide)
  have a6 := l5.app l6 (.inl rfl)
  have a5 := l2.app a6 (.inl rfl)
  have a4 := l4.app a5 (.inr ⟨32, _, rfl, blank_not_inner⟩)
  have a3 := l2.app a4 (.inl rfl)
  have a2 := l3.app a3 (.inl rfl)
  have a1 := l2.app a2 (.inl rfl)
  have a0 := l1.app a1 (.inr ⟨32, _, rfl, blank_not_inner⟩)
  have e1 : (textR r).data.toList = r.h.data.toList ++ ([32] ++ ([61] ++ ([32] ++ ((textN r.b).data.toList ++ ([32] ++ ([59] ++ [10])))))) := by
    unfold textR
    simp [ByteArray.data_append]
  have e2 : tkR r = [(1, r.h)] ++ ([] ++ ([(4, (⟨#[61]⟩ : ByteArray))] ++ ([] ++ (tkN (pickT r.b).1 (pickT r.b).2.tk ++ ([] ++ ([(5, (⟨#[59]⟩ : ByteArray))] ++ [])))))) := by
    unfold tkR; simp
  rw [e1, e2]
  exact a0
theorem lex_grammar (G : List Ru) (h : treesB G = true) : LexTo false (textG G).data.toList (tkG G) := by
  induction G with
  | nil => exact LexTo.nil
  | cons r G ih =>
    have h2 : (nameB r.h 1 && treeB r.b) = true ∧ treesB G = true := by unfold treesB at h ⊢; rw [List.all_cons, Bool.and_eq_true] at h; exact h
    have h3 := h2.1
    rw [Bool.and_eq_true] at h3
    rw [textG_cons, ByteArray.data_append, Array.toList_append]
    exact (lex_rule r h3.1 h3.2).app (ih h2.2) (.inl rfl)
theorem cut_grammar (G : List Ru) (h : treesB G = true) : (cut (textG G) 0).1.map tkOf = tkG G ∧ (cut (textG G) 0).2 = (textG G).size := by
  obtain ⟨h1, h2⟩ := lex_grammar G h (textG G) [] [] (by simp) (fun hf => by cases hf)
  have hz : ([] : List UInt8).length + (textG G).data.toList.length = (textG G).size := by rw [List.length_nil, Array.length_toList, Nat.zero_add]; rfl
  rw [hz, cut_end] at h1 h2
  exact ⟨by simpa using h1, h2⟩
/-- the marks of a tree are none of the signs = and ; -/
def NoStop (T : List TK) : Prop := ∀ q ∈ T, q.1 ≠ 4 ∧ q.1 ≠ 5
theorem NoStop.app {A B : List TK} (h : NoStop A) (k : NoStop B) : NoStop (A ++ B) := fun q hq => (List.mem_append.1 hq).elim (h q) (k q)
theorem NoStop.one {k : Int} {t : ByteArray} (h : k ≠ 4 ∧ k ≠ 5) : NoStop [(k, t)] := fun q hq => by rw [List.mem_singleton.1 hq]; exact h
theorem NoStop.join {sep : List TK} (hs : NoStop sep) : ∀ {us : List (List TK)}, (∀ u ∈ us, NoStop u) → NoStop (joinT sep us)
  | [], _ => fun q hq => by simp [joinT] at hq
  | x :: r, h => by
    refine (h x (by simp)).app fun q hq => ?_
    obtain ⟨u, hu, hq⟩ := List.mem_flatMap.1 hq
    exact (hs.app (h u (by simp [hu]))) q hq
theorem nostop_brk {pk k : Int} {t : List TK} (h : NoStop t) : NoStop (brkK pk k t) := by
  unfold brkK
  split
  · exact fun q hq => by
      rcases List.mem_cons.1 hq with rfl | hq
      · exact ⟨by decide, by decide⟩
      · exact (h.app (NoStop.one ⟨by decide, by decide⟩)) q hq
  · exact h
theorem nostop_tk (f : Fo) : ∀ p ∈ f.tk, NoStop p.2 := by
  induction f with
  | nil => intro p hp; simp [Fo.tk] at hp
  | cons x k r ih1 ih2 =>
    intro p hp
    rcases List.mem_cons.1 (show p ∈ (x.k, tkN x k.tk) :: r.tk from hp) with rfl | hp
    · show NoStop (tkN x k.tk)
      unfold tkN
      split
      · exact NoStop.one ⟨by decide, by decide⟩
      · split
        · exact NoStop.one ⟨by decide, by decide⟩
        · split
          · exact NoStop.one ⟨by decide, by decide⟩
          · refine NoStop.app (NoStop.join ?_ ?_) ?_
            · unfold sepT; split
              · exact NoStop.one ⟨by decide, by decide⟩
              · exact fun q hq => by cases hq
            · intro u hu
              obtain ⟨p, hp, rfl⟩ := List.mem_map.1 hu
              exact nostop_brk (ih1 p hp)
            · unfold signT
              repeat (first | (split; · exact NoStop.one ⟨by decide, by decide⟩) | exact fun q hq => by cases hq)
    · exact ih2 p hp
theorem nostop_tree (x : Nd) (k : Fo) : NoStop (tkN x k.tk) := nostop_tk (.cons x k .nil) (x.k, tkN x k.tk) (by simp [Fo.tk])
/-- marks up to the first stop -/
theorem seg_tree {L : List Mk} {p : Nat} {T : List TK} {k : Int} {t : ByteArray} (h : HasT L p (T ++ [(k, t)])) (hn : NoStop T) (hk : k = 4 ∨ k = 5) : (seg L p).length = T.length ∧ HasT (seg L p) 0 T := by
  have hfit := h.fit
  rw [List.length_append, List.length_cons, List.length_nil] at hfit
  have hT := h.left
  have hS := h.right.head
  have h1 : (seg L p).length = T.length := by
    rcases Nat.lt_trichotomy (seg L p).length T.length with h1 | h1 | h1
    · obtain ⟨q, hq⟩ : ∃ q, T[(seg L p).length]? = some q := ⟨_, List.getElem?_eq_getElem h1⟩
      have h2 := (hT.at' _ q hq).1
      have h3 := seg_end L p (by omega)
      have h4 := hn q (List.mem_of_getElem? hq)
      omega
    · exact h1
    · have h2 := seg_in L p T.length h1
      have h3 := hS.1
      simp only at h3
      omega
  refine ⟨h1, ⟨by omega, fun i q hq => ?_⟩⟩
  have hi := (List.getElem?_eq_some_iff.1 hq).1
  obtain ⟨e1, e2⟩ := seg_kd L p i (by omega)
  rw [Nat.zero_add, e1, e2]
  exact hT.at' i q hq
theorem rule_self {L : List Mk} {p : Nat} (r : Ru) (_ : nameB r.h 1 = true) (h2 : treeB r.b = true) (hT : HasT L p (tkR r)) : ruleP L p = (some r, p + (tkR r).length) := by
  have hG := pickT_good h2
  have hg : GoodF (.cons (pickT r.b).1 (pickT r.b).2 .nil) := ⟨hG.wf, hG.all⟩
  obtain ⟨k1, t1, hT1, -⟩ := HasT.head hT
  obtain ⟨k2, t2, hT2, -⟩ := HasT.head hT1
  simp only at k1 k2 t1
  have hns := nostop_tree (pickT r.b).1 (pickT r.b).2
  obtain ⟨hsl, hsT⟩ := seg_tree hT2 hns (.inr rfl)
  have hh := (height_tk _ hg).1
  have e : tkSum (.cons (pickT r.b).1 (pickT r.b).2 .nil) = (tkN (pickT r.b).1 (pickT r.b).2.tk).length := by simp [tkSum, Fo.tk]
  simp only [Fo.height, Fo.len] at hh
  have hfl := hG.flat
  obtain ⟨k3, -, -, -⟩ := HasT.head hT2.right
  simp only at k3
  generalize hTT : tkN (pickT r.b).1 (pickT r.b).2.tk = T at *
  have hb : bodyP L (p + 1 + 1) = ⟨true, .cons (pickT r.b).1 (pickT r.b).2 .nil, T.length⟩ := by
    unfold bodyP
    have := expr_all (seg L (p + 1 + 1)) ((seg L (p + 1 + 1)).length + 1) (pickT r.b).1 (pickT r.b).2 0 hg (by omega) (by rw [hTT]; exact hsT) (by rw [hTT, kd_none (by omega)]; exact ⟨by decide, by decide, by decide⟩)
    rw [this, hTT, Nat.zero_add]
  have hlen : (tkR r).length = T.length + 3 := by unfold tkR; rw [hTT]; simp
  unfold ruleP
  rw [if_neg (by rw [k1]; decide), if_neg (by rw [k2]; decide), show p + 2 = p + 1 + 1 from rfl, hb, hsl]
  rw [if_pos ⟨rfl, rfl, by rw [k3]⟩]
  simp only [Prod.mk.injEq, Option.some.injEq]
  refine ⟨?_, by omega⟩
  rw [t1, ← hfl]
theorem rules_self {L : List Mk} : ∀ (G : List Ru) (n p : Nat) (g : List Ru), G ≠ [] → treesB G = true → HasT L p (tkG G) → p + (tkG G).length = L.length → L.length - p < n → rulesP L n p g = ⟨true, g ++ G, L.length⟩
  | [], n, p, g, h0, _, _, _, _ => absurd rfl h0
  | r :: G, 0, p, g, _, _, _, _, hn => by omega
  | r :: G, n + 1, p, g, _, h, hT, hl, hn => by
    have h2 : (nameB r.h 1 && treeB r.b) = true ∧ treesB G = true := by unfold treesB at h ⊢; rw [List.all_cons, Bool.and_eq_true] at h; exact h
    have h3 := h2.1
    rw [Bool.and_eq_true] at h3
    have e : tkG (r :: G) = tkR r ++ tkG G := rfl
    rw [e] at hT hl
    rw [List.length_append] at hl
    have hlr : 3 ≤ (tkR r).length := by unfold tkR; simp
    unfold rulesP
    rw [rule_self r h3.1 h3.2 hT.left]
    simp only
    cases G with
    | nil =>
      have e0 : (tkG ([] : List Ru)).length = 0 := rfl
      rw [if_neg (by omega)]
      simp only [GR.mk.injEq, true_and]
      omega
    | cons r2 G =>
      have hl2 : 0 < (tkG (r2 :: G)).length := by
        have e2 : tkG (r2 :: G) = tkR r2 ++ tkG G := rfl
        rw [e2, List.length_append]
        have : 3 ≤ (tkR r2).length := by unfold tkR; simp
        omega
      rw [if_pos (by omega), rules_self (r2 :: G) n _ (g ++ [r]) (by simp) h2.2 hT.right (by omega) (by omega)]
      simp
theorem long_not (G : List Ru) (h : treesB G = true) : longG G = false := by
  unfold longG
  rw [List.any_eq_false]
  intro r hr
  obtain ⟨h1, h2⟩ := trees_mem h hr
  have hn := (nameB_iff _ _).1 h1
  have hG := pickT_good h2
  have hl : longN r.b = false := by
    unfold longN
    rw [List.any_eq_false]
    intro y hy
    rw [hG.flat] at hy
    have := ((Fo.all_flat _).1 hG.all y hy).size
    simp; omega
  rw [hl]
  have := hn.2.1
  simp; omega
theorem check_zero {G : List Ru} (h : checkG G = 0) : 1 ≤ G.length ∧ G.length ≤ 64 ∧ treesB G = true ∧ (textG G).size ≤ 2048 := by
  unfold checkG at h
  split at h
  · omega
  · split at h
    · omega
    · split at h
      · omega
      · split at h
        · omega
        · split at h
          · omega
          · split at h
            · omega
            · split at h
              · omega
              · split at h
                · omega
                · rename_i h1 h2 _ _ _ _ _ h8
                  refine ⟨by omega, by omega, by simpa using h2, by omega⟩
theorem check_deep {G : List Ru} (h : checkG G = 0) : deepB G = false := by
  unfold checkG at h
  split at h
  · omega
  · split at h
    · omega
    · split at h
      · omega
      · split at h
        · omega
        · split at h
          · omega
          · split at h
            · omega
            · rename_i h6; simpa using h6
theorem parsed_grammar {G : List Ru} (h0 : G ≠ []) (ht : treesB G = true) : gParsed (textG G) = ⟨true, G, (cut (textG G) 0).1.length⟩ := by
  obtain ⟨h2, h3⟩ := cut_grammar G ht
  obtain ⟨hT, hl⟩ := HasT.of_map h2
  unfold gParsed
  rw [rules_self G _ 0 [] h0 ht hT (by omega) (by omega)]
  simp
/-- what is printed is read as itself -/
theorem grammar_round {G : List Ru} (h : checkG G = 0) : parseG (textG G) = (G, 0, 0) ∧ (textG G).size ≤ 2048 := by
  obtain ⟨h1, _, ht, hz⟩ := check_zero h
  have h0 : G ≠ [] := by intro e; subst e; simp at h1
  refine ⟨?_, hz⟩
  unfold parseG
  rw [if_neg (by omega), parsed_grammar h0 ht]
  rw [if_neg (by simp), (cut_grammar G ht).2, if_neg (by omega)]
  simp only
  rw [if_neg (by rw [long_not G ht]; simp), if_neg (by simp [h])]
end Go.Proofs.YtkmjmfcanlknjaaGreat
namespace Go.Proofs.YtkmjmfcanlknjaaGreat
open Go.RowKit

/-! ### Same of nodes: it only reads -/
set_option maxRecDepth 100000 in
set_option maxHeartbeats 1600000 in
theorem rSameQ_any (va vb : Value) (la lb : List Nd) (w : World) (ha : RdNd w va la) (hb : RdNd w vb lb) (hla : la.length ≤ 140737488355328) (hlb : lb.length ≤ 140737488355328) :
    Calls Tryz.prog 28 #[va, vb] w fun e w' => e = .returned (.bool (decide (la = lb))) ∧ ∃ m, w' = w.drewN m := by
  obtain ⟨hal, ao, ac, rfl, ha2⟩ := id ha
  obtain ⟨hbl, bo, bc, rfl, hb2⟩ := id hb
  have HA := Lib.hid ha
  have HB := Lib.hid hb
  clear ha hb ha2 hb2 hal hbl
  by_cases hlen : la.length = lb.length
  · have hlen' : ((la.length : Int) != lb.length) = false := by rw [hlen]; simp
    have HL := Lib.hid hlen
    clear hlen
    go_enter Tryz.func28, Tryz.ntmps28
    go_wp2
    go_loopw [5] (fun i wr => ∃ j : Nat, j ≤ la.length ∧ i = .int .i64 j ∧ Hid (∀ q, q < j → la[q]? = lb[q]?) ∧ Hid (∃ m, wr = w.drewN m)) (fun i _ => la.length - (intOf i).toNat)
    case atStart => exact ⟨0, by omega, rfl, fun q h => by omega, ⟨0, rfl⟩⟩
    case round =>
      obtain ⟨j, hj, rfl, HQ, HW⟩ := hrel
      have hcell : ∀ a v, w.cell? a = some v → wr.cell? a = some v := by obtain ⟨m, rfl⟩ := HW.out; exact fun a v h => h
      have HC := Lib.hid hcell
      clear hcell
      by_cases hlt : j < la.length
      · obtain ⟨ma, hma⟩ : ∃ m, la[j]? = some m := ⟨_, List.getElem?_eq_getElem hlt⟩
        obtain ⟨mb, hmb⟩ : ∃ m, lb[j]? = some m := ⟨_, List.getElem?_eq_getElem (by rw [← HL.out]; exact hlt)⟩
        obtain ⟨b1, o1, c1, e1, l1, k1, x0, x1, x2⟩ := (HA.out).at hma
        obtain ⟨b2, o2, c2, e2, l2, k2, y0, y1, y2⟩ := (HB.out).at hmb
        simp only [Value.slice.injEq] at e1 e2
        obtain ⟨rfl, -, rfl⟩ := e1
        obtain ⟨rfl, -, rfl⟩ := e2
        have X0 := HC.out _ _ x0
        have X1 := HC.out _ _ x1
        have X2 := HC.out _ _ x2
        have Y0 := HC.out _ _ y0
        have Y1 := HC.out _ _ y1
        have Y2 := HC.out _ _ y2
        clear x0 x1 x2 y0 y1 y2
        have hltb : j < lb.length := by rw [← HL.out]; exact hlt
        have H1 := Lib.hid hma
        have H2 := Lib.hid hmb
        clear hma hmb
        have hm := guardNd
        have hne := neqNd ma mb
        go_wp2
        go_quiet (fail)
        go_wp2
        · have hd : (!decide (ma = mb)) = true := by assumption
          go_ret
          refine ⟨?_, (by obtain ⟨m, hm⟩ := HW.out; exact ⟨m + nq, by rw [hm, World.drewN_drewN]⟩)⟩
          have : la ≠ lb := by rintro rfl; have e := H1.out.symm.trans H2.out; simp at e; simp [e] at hd
          rw [decide_eq_false this]; rfl
        · have hd : (!decide (ma = mb)) = false := by assumption
          go_roundw
          case rel =>
            refine ⟨j + 1, by omega, by go_num, ?_, (by obtain ⟨m, hm⟩ := HW.out; exact ⟨m + nq, by rw [hm, World.drewN_drewN]⟩)⟩
            intro q hq
            by_cases h : q = j
            · subst h; rw [H1.out, H2.out]; simpa using hd
            · exact HQ.out q (by omega)
          case measure => simp [intOf]; omega
      · go_wp2
        go_ret
        refine ⟨?_, HW.out⟩
        have : la = lb := by
          apply List.ext_getElem?
          intro q
          by_cases h : q < j
          · exact HQ.out q h
          · rw [List.getElem?_eq_none (by omega), List.getElem?_eq_none (by have := HL.out; omega)]
        rw [decide_eq_true this]; rfl
  · have hlen' : ((la.length : Int) != lb.length) = true := by rw [bne_iff_ne]; omega
    go_enter Tryz.func28, Tryz.ntmps28
    go_wp2
    go_ret
    exact ⟨by rw [decide_eq_false (fun h => hlen (by rw [h]))]; rfl, ⟨0, rfl⟩⟩


/-! ### Same of rules -/
set_option maxRecDepth 100000 in
set_option maxHeartbeats 3200000 in
theorem rSameG_any (va vb : Value) (A B : List Ru) (w : World) (ha : RdRu w va A) (hb : RdRu w vb B) (hla : A.length ≤ 140737488355328) (hlb : B.length ≤ 140737488355328) (hna : nodesG A ≤ 140737488355328) (hnb : nodesG B ≤ 140737488355328) :
    Calls Tryz.prog 17 #[va, vb] w fun e w' => e = .returned (.bool (decide (A = B))) ∧ ∃ m, w' = w.drewN m := by
  obtain ⟨P, rfl, hP⟩ := ha
  obtain ⟨Q, rfl, hQ⟩ := hb
  have HP := Lib.hid hP
  have HQ0 := Lib.hid hQ
  obtain ⟨⟨_, ao, ac, rfl, -⟩, -⟩ := hP
  obtain ⟨⟨_, bo, bc, rfl, -⟩, -⟩ := hQ
  have HNa := Lib.hid hna
  have HNb := Lib.hid hnb
  rw [List.length_map] at hla hlb
  generalize hA : P.map (·.1) = A at *
  generalize hB : Q.map (·.1) = B at *
  have HA := Lib.hid hA
  have HB := Lib.hid hB
  have HAL : Hid (A.length = P.length) := by unfold Hid; rw [← hA, List.length_map]
  have HBL : Hid (B.length = Q.length) := by unfold Hid; rw [← hB, List.length_map]
  clear hA hB hna hnb
  by_cases hlen : P.length = Q.length
  · have hlen' : ((P.length : Int) != Q.length) = false := by rw [hlen]; simp
    have HL := Lib.hid hlen
    clear hlen
    go_enter Tryz.func17, Tryz.ntmps17
    go_wp2
    go_loopw [5] (fun i wr => ∃ j : Nat, j ≤ P.length ∧ i = .int .i64 j ∧ Hid (∀ q, q < j → A[q]? = B[q]?) ∧ Hid (∃ m, wr = w.drewN m)) (fun i _ => P.length - (intOf i).toNat)
    case atStart => exact ⟨0, by omega, rfl, fun q h => by omega, ⟨0, rfl⟩⟩
    case round =>
      obtain ⟨j, hj, rfl, HQ, HW⟩ := hrel
      have hcell : ∀ a v, w.cell? a = some v → wr.cell? a = some v := by obtain ⟨m, rfl⟩ := HW.out; exact fun a v h => h
      have HC := Lib.hid hcell
      have hrdk : ∀ v l, RdNd w v l → RdNd wr v l := by obtain ⟨m, rfl⟩ := HW.out; exact fun v l h => Rd.mono h (fun _ _ _ => rfl) (Nat.le_refl _)
      have HK := Lib.hid hrdk
      clear hcell hrdk
      by_cases hlt : j < P.length
      · obtain ⟨p, hp⟩ : ∃ p, P[j]? = some p := ⟨_, List.getElem?_eq_getElem hlt⟩
        obtain ⟨q, hq⟩ : ∃ q, Q[j]? = some q := ⟨_, List.getElem?_eq_getElem (by rw [← HL.out]; exact hlt)⟩
        obtain ⟨b1, o1, c1, e1, l1, k1, x0, x1, rp⟩ := RdP.at HP.out hp
        obtain ⟨b2, o2, c2, e2, l2, k2, y0, y1, rq⟩ := RdP.at HQ0.out hq
        simp only [Value.slice.injEq] at e1 e2
        obtain ⟨rfl, -, rfl⟩ := e1
        obtain ⟨rfl, -, rfl⟩ := e2
        have X0 := HC.out _ _ x0
        have X1 := HC.out _ _ x1
        have Y0 := HC.out _ _ y0
        have Y1 := HC.out _ _ y1
        have HAj : Hid (A[j]? = some p.1) := by unfold Hid; rw [← HA.out, List.getElem?_map, hp]; rfl
        have HBj : Hid (B[j]? = some q.1) := by unfold Hid; rw [← HB.out, List.getElem?_map, hq]; rfl
        have hltb : j < Q.length := by rw [← HL.out]; exact hlt
        have hbp : p.1.b.length ≤ 140737488355328 := Nat.le_trans (body_le (List.mem_of_getElem? HAj.out)) HNa.out
        have hbq : q.1.b.length ≤ 140737488355328 := Nat.le_trans (body_le (List.mem_of_getElem? HBj.out)) HNb.out
        have HS := Lib.hid (fun x h1 h2 => rSameQ_any p.2 q.2 p.1.b q.1.b x h1 h2 hbp hbq)
        have HRp := Lib.hid (HK.out _ _ rp)
        have HRq := Lib.hid (HK.out _ _ rq)
        obtain ⟨_, ap, cp, hv1, -⟩ := rp
        obtain ⟨_, aq, cq, hv2, -⟩ := rq
        obtain ⟨⟨ph, pb⟩, pv⟩ := p
        obtain ⟨⟨qh, qb⟩, qv⟩ := q
        simp only at hv1 hv2 X0 X1 Y0 Y1 HAj HBj HS HRp HRq
        subst hv1 hv2
        clear x0 x1 y0 y1 hp hq hbp hbq
        by_cases hh : ph = qh
        · subst hh
          have hhb : (ph.toList != ph.toList) = false := by simp
          by_cases hb : pb = qb
          · have HD : Hid (decide (pb = qb) = true) := by simpa [Hid] using hb
            have hb' := Lib.hid hb
            clear hb
            rw [HD.out] at HS
            go_wp2
            go_quiet ((go_at_call 28; exact Calls.quiet_of (HS.out _ (Rd.mono HRp.out (fun _ _ _ => rfl) (Nat.le_refl _)) (Rd.mono HRq.out (fun _ _ _ => rfl) (Nat.le_refl _)))))
            go_wp2
            go_roundw
            case rel =>
              refine ⟨j + 1, by omega, by go_num, ?_, (by obtain ⟨m, hm⟩ := HW.out; exact ⟨m + nq, by rw [hm, World.drewN_drewN]⟩)⟩
              intro q hq
              by_cases h : q = j
              · subst h; rw [HAj.out, HBj.out, hb'.out]
              · exact HQ.out q (by omega)
            case measure => simp [intOf]; omega
          · have HD : Hid (decide (pb = qb) = false) := by simpa [Hid] using hb
            have hb' := Lib.hid hb
            clear hb
            rw [HD.out] at HS
            go_wp2
            go_quiet ((go_at_call 28; exact Calls.quiet_of (HS.out _ (Rd.mono HRp.out (fun _ _ _ => rfl) (Nat.le_refl _)) (Rd.mono HRq.out (fun _ _ _ => rfl) (Nat.le_refl _)))))
            go_wp2
            go_ret
            refine ⟨?_, (by obtain ⟨m, hm⟩ := HW.out; exact ⟨m + nq, by rw [hm, World.drewN_drewN]⟩)⟩
            have : A ≠ B := by intro e; have e2 := HAj.out.symm.trans ((congrArg (·[j]?) e).trans HBj.out); simp at e2; exact hb'.out e2
            rw [decide_eq_false this]; rfl
        · have hhb : (ph.toList != qh.toList) = true := by
            simp only [bne_iff_ne, ne_eq]
            exact fun h => hh ((toList_inj _ _).1 h)
          have hhb2 : (ph.toList == qh.toList) = false := by
            simp only [beq_eq_false_iff_ne, ne_eq]
            exact fun h => hh ((toList_inj _ _).1 h)
          have hh' := Lib.hid hh
          clear hh
          go_wp2
          go_quiet (fail)
          go_wp2
          go_ret
          refine ⟨?_, (by obtain ⟨m, hm⟩ := HW.out; exact ⟨m + nq, by rw [hm, World.drewN_drewN]⟩)⟩
          have : A ≠ B := by intro e; have e2 := HAj.out.symm.trans ((congrArg (·[j]?) e).trans HBj.out); simp at e2; exact hh'.out e2.1
          rw [decide_eq_false this]; rfl
      · go_wp2
        go_ret
        refine ⟨?_, HW.out⟩
        have : A = B := by
          apply List.ext_getElem?
          intro q
          by_cases h : q < j
          · exact HQ.out q h
          · rw [List.getElem?_eq_none (by have := HAL.out; omega), List.getElem?_eq_none (by have := HBL.out; have := HL.out; omega)]
        rw [decide_eq_true this]; rfl
  · have hlen' : ((P.length : Int) != Q.length) = true := by simp; omega
    have hne : A ≠ B := by intro e; have := congrArg List.length e; rw [HAL.out, HBL.out] at this; exact hlen this
    have HN := Lib.hid hne
    clear hlen hne
    go_enter Tryz.func17, Tryz.ntmps17
    go_wp2
    go_ret
    exact ⟨by rw [decide_eq_false HN.out]; rfl, 0, rfl⟩
/-! ### Print -/
noncomputable def printG (G : List Ru) : ByteArray := if checkG G = 0 then textG G else ⟨#[]⟩
set_option maxRecDepth 100000 in
set_option maxHeartbeats 1600000 in
theorem xPrintG_any (v : Value) (G : List Ru) (w : World) (h : RdRu w v G) (hl : LimG G) (hn : nodesG G ≤ 16777216) :
    Calls Tryz.prog 18 #[v] w fun e w' => e = .returned (.tuple #[.string (printG G), .int .i64 (checkG G)]) ∧ Below w.heap.size w w' := by
  have HC := Lib.hid (xCheckG_any v G w h hl hn)
  have HV := Lib.hid h
  obtain ⟨P, hG, hR⟩ := h
  obtain ⟨⟨_, ao, cap, rfl, -⟩, -⟩ := hR
  clear hG
  by_cases hc : checkG G = 0
  · obtain ⟨-, h1, h2, h3⟩ := check_zero hc
    have hd : deepB G = false := check_deep hc
    have HT := Lib.hid (fun w h => xText_any (.slice ao P.length cap) G w h h1 hn h2 hd)
    have HZ : Hid ((textG G).size ≤ 2048) := h3
    have HD : Hid (decide ((textG G).size ≤ 2048) = true) := by simpa [Hid] using h3
    have hp : printG G = textG G := by unfold printG; rw [if_pos hc]
    rw [hp, hc]
    rw [hc] at HC
    rw [HD.out] at HT
    clear hc h1 h2 h3 hd hp
    go_enter Tryz.func18, Tryz.ntmps18
    go_wp2_with fail
    refine (HC.out).mono ?_
    rintro e w1 ⟨rfl, hb1⟩
    have HB1 := Lib.hid hb1
    clear hb1
    go_wp2_with fail
    refine (HT.out _ (HV.out.below HB1.out)).mono ?_
    rintro e w2 ⟨t, rfl, ht, hb2⟩
    have HB2 := Lib.hid (HB1.out.trans (hb2.mono HB1.out.size))
    have HTt : Hid (t = textG G) := ht HZ.out
    clear hb2 ht
    go_wp2_with fail
    go_ret2
    exact ⟨by rw [HTt.out]; rfl, HB2.out⟩
  · have hp : printG G = ⟨#[]⟩ := by unfold printG; rw [if_neg hc]
    have hcb : (checkG G != 0) = true := by simpa using hc
    rw [hp]
    clear hc hp
    generalize checkG G = c at *
    go_enter Tryz.func18, Tryz.ntmps18
    go_wp2_with fail
    refine (HC.out).mono ?_
    rintro e w1 ⟨rfl, hb1⟩
    have HB1 := Lib.hid hb1
    clear hb1
    go_wp2_with fail
    go_ret2
    exact ⟨rfl, HB1.out⟩
set_option maxRecDepth 100000 in
set_option maxHeartbeats 1600000 in
theorem rPrintG_any (v : Value) (G : List Ru) (w : World) (h : RdRu w v G) (hl : LimG G) (hn : nodesG G ≤ 16777216) :
    Calls Tryz.prog 19 #[v] w fun e w' => e = .returned (.tuple #[.string (printG G), .int .i64 (checkG G)]) ∧ Below w.heap.size w w' := by
  have HC := Lib.hid (rCheckG_any v G w h hl hn)
  have HV := Lib.hid h
  obtain ⟨P, hG, hR⟩ := h
  obtain ⟨⟨_, ao, cap, rfl, -⟩, -⟩ := hR
  clear hG
  by_cases hc : checkG G = 0
  · obtain ⟨-, h1, h2, h3⟩ := check_zero hc
    have HT := Lib.hid (fun w h => rText_any (.slice ao P.length cap) G w h h1 hn h2)
    have hp : printG G = textG G := by unfold printG; rw [if_pos hc]
    rw [hp, hc]
    rw [hc] at HC
    clear hc h1 h2 h3 hp
    go_enter Tryz.func19, Tryz.ntmps19
    go_wp2_with fail
    refine (HC.out).mono ?_
    rintro e w1 ⟨rfl, hb1⟩
    have HB1 := Lib.hid hb1
    clear hb1
    go_wp2_with fail
    refine (HT.out _ (HV.out.below HB1.out)).mono ?_
    rintro e w2 ⟨rfl, hb2⟩
    have HB2 := Lib.hid (HB1.out.trans (hb2.mono HB1.out.size))
    clear hb2
    go_wp2_with fail
    go_ret2
    exact ⟨rfl, HB2.out⟩
  · have hp : printG G = ⟨#[]⟩ := by unfold printG; rw [if_neg hc]
    have hcb : (checkG G != 0) = true := by simpa using hc
    rw [hp]
    clear hc hp
    generalize checkG G = c at *
    go_enter Tryz.func19, Tryz.ntmps19
    go_wp2_with fail
    refine (HC.out).mono ?_
    rintro e w1 ⟨rfl, hb1⟩
    have HB1 := Lib.hid hb1
    clear hb1
    go_wp2_with fail
    go_ret2
    exact ⟨rfl, HB1.out⟩
end Go.Proofs.YtkmjmfcanlknjaaGreat
namespace Go.Proofs.YtkmjmfcanlknjaaGreat
open Go.RowKit Go.Shelf

set_option maxRecDepth 100000 in
set_option maxHeartbeats 1600000 in
theorem xEqualNd_any (va vb : Value) (la lb : List Nd) (w : World) (ha : RdNd w va la) (hb : RdNd w vb lb) (hla : la.length ≤ 140737488355328) (hlb : lb.length ≤ 140737488355328) :
    Calls Tryz.prog 56 #[va, vb] w fun e w' => e = .returned (.bool (decide (la = lb))) ∧ Below w.heap.size w w' := by
  obtain ⟨hal, ao, ac, rfl, ha2⟩ := id ha
  obtain ⟨hbl, bo, bc, rfl, hb2⟩ := id hb
  have HA := Lib.hid ha
  have HB := Lib.hid hb
  clear ha hb ha2 hb2 hal hbl
  by_cases hlen : la.length = lb.length
  · have hlen' : ((la.length : Int) != lb.length) = false := by rw [hlen]; simp
    have HL := Lib.hid hlen
    clear hlen
    go_enter Tryz.func56, Tryz.ntmps56
    go_wp2
    go_loopw [13] (fun i wr => ∃ j : Nat, j ≤ la.length ∧ i = .int .i64 j ∧ Hid (∀ q, q < j → la[q]? = lb[q]?) ∧ Below w.heap.size w wr) (fun i _ => la.length - (intOf i).toNat)
    case atStart => exact ⟨0, by omega, rfl, fun q h => by omega, Below.refl _ _⟩
    case round =>
      obtain ⟨j, hj, rfl, HQ, hbel⟩ := hrel
      by_cases hlt : j < la.length
      · obtain ⟨ma, hma⟩ : ∃ m, la[j]? = some m := ⟨_, List.getElem?_eq_getElem hlt⟩
        obtain ⟨mb, hmb⟩ : ∃ m, lb[j]? = some m := ⟨_, List.getElem?_eq_getElem (by rw [← HL.out]; exact hlt)⟩
        obtain ⟨b1, o1, c1, e1, l1, k1, x0, x1, x2⟩ := (HA.out).at hma
        obtain ⟨b2, o2, c2, e2, l2, k2, y0, y1, y2⟩ := (HB.out).at hmb
        simp only [Value.slice.injEq] at e1 e2
        obtain ⟨rfl, -, rfl⟩ := e1
        obtain ⟨rfl, -, rfl⟩ := e2
        have X0 := (hbel.cell (p := ⟨b1, _, none⟩) l1).trans x0
        have X1 := (hbel.cell (p := ⟨b1, _, none⟩) l1).trans x1
        have X2 := (hbel.cell (p := ⟨b1, _, none⟩) l1).trans x2
        have Y0 := (hbel.cell (p := ⟨b2, _, none⟩) l2).trans y0
        have Y1 := (hbel.cell (p := ⟨b2, _, none⟩) l2).trans y1
        have Y2 := (hbel.cell (p := ⟨b2, _, none⟩) l2).trans y2
        clear x0 x1 x2 y0 y1 y2
        have hltb : j < lb.length := by rw [← HL.out]; exact hlt
        have H1 := Lib.hid hma
        have H2 := Lib.hid hmb
        clear hma hmb
        have hm := guardNd
        have hne := neqNd ma mb
        go_wp2
        go_quiet (fail)
        go_wp2
        · have hd : (!decide (ma = mb)) = true := by assumption
          go_ret
          refine ⟨?_, below_drewN hbel _⟩
          have : la ≠ lb := by rintro rfl; have e := H1.out.symm.trans H2.out; simp at e; simp [e] at hd
          rw [decide_eq_false this]; rfl
        · have hd : (!decide (ma = mb)) = false := by assumption
          go_roundw
          case rel =>
            refine ⟨j + 1, by omega, by go_num, ?_, below_drewN hbel _⟩
            intro q hq
            by_cases h : q = j
            · subst h; rw [H1.out, H2.out]; simpa using hd
            · exact HQ.out q (by omega)
          case measure => simp [intOf]; omega
      · go_wp2
        go_ret
        refine ⟨?_, hbel⟩
        have : la = lb := by
          apply List.ext_getElem?
          intro q
          by_cases h : q < j
          · exact HQ.out q h
          · rw [List.getElem?_eq_none (by omega), List.getElem?_eq_none (by have := HL.out; omega)]
        rw [decide_eq_true this]; rfl
  · have hlen' : ((la.length : Int) != lb.length) = true := by rw [bne_iff_ne]; omega
    go_enter Tryz.func56, Tryz.ntmps56
    go_wp2
    go_ret
    exact ⟨by rw [decide_eq_false (fun h => hlen (by rw [h]))]; rfl, Below.refl _ _⟩
theorem ru_eq (a b : Ru) : decide (a = b) = (decide (a.h = b.h) && decide (a.b = b.b)) := by
  obtain ⟨ah, ab⟩ := a; obtain ⟨bh, bb⟩ := b
  rw [← Bool.decide_and, decide_eq_decide]; simp
set_option maxRecDepth 100000 in
set_option maxHeartbeats 1600000 in
theorem xSameCl_any (va vb : Value) (a b : Ru) (w : World) (ha : RdNd w va a.b) (hb : RdNd w vb b.b) (hla : a.b.length ≤ 140737488355328) (hlb : b.b.length ≤ 140737488355328) :
    Calls Tryz.prog 55 #[.agg #[.string a.h, va], .agg #[.string b.h, vb]] w fun e w' => e = .returned (.bool (decide (a = b))) ∧ Below w.heap.size w w' := by
  have HE := Lib.hid (ru_eq a b)
  obtain ⟨ah, ab⟩ := a
  obtain ⟨bh, bb⟩ := b
  simp only at ha hb hla hlb HE
  have HC := Lib.hid (fun wx h1 h2 => xEqualNd_any va vb ab bb wx h1 h2 hla hlb)
  have HA := Lib.hid (ha.below (below2 w (.cells #[.string ah, va] 47) (.cells #[.string bh, vb] 47)))
  have HB := Lib.hid (hb.below (below2 w (.cells #[.string ah, va] 47) (.cells #[.string bh, vb] 47)))
  have HD := Lib.hid (below2 w (.cells #[.string ah, va] 47) (.cells #[.string bh, vb] 47))
  obtain ⟨_, ao, cp, rfl, -⟩ := id ha
  obtain ⟨_, bo, cq, rfl, -⟩ := id hb
  clear ha hb
  by_cases h : ah = bh
  · subst h
    have hd : (ah.toList == ah.toList) = true := by simp
    go_enter Tryz.func55, Tryz.ntmps55
    go_wp2_with fail
    refine (HC.out _ HA.out HB.out).mono ?_
    rintro e w2 ⟨rfl, hb2⟩
    have HB2 := Lib.hid (HD.out.trans (hb2.mono HD.out.size))
    clear hb2
    go_wp2_with fail
    go_ret
    exact ⟨by rw [HE.out]; simp, HB2.out⟩
  · have hd : (ah.toList == bh.toList) = false := by rw [beq_eq_false_iff_ne]; exact fun e => h ((toList_inj _ _).1 e)
    go_enter Tryz.func55, Tryz.ntmps55
    go_wp2_with fail
    go_ret
    exact ⟨by rw [HE.out]; simp [h], HD.out⟩
end Go.Proofs.YtkmjmfcanlknjaaGreat
namespace Go.Proofs.YtkmjmfcanlknjaaGreat
open Go.RowKit Go.Shelf

set_option maxRecDepth 100000 in
set_option maxHeartbeats 3200000 in
theorem xEqFunc_any (va vb : Value) (A B : List Ru) (w : World) (ha : RdRu w va A) (hb : RdRu w vb B) (hla : A.length ≤ 140737488355328) (hlb : B.length ≤ 140737488355328) (hna : nodesG A ≤ 140737488355328) (hnb : nodesG B ≤ 140737488355328) :
    Calls Tryz.prog 54 #[va, vb, .func (.func 55) #[] #[]] w fun e w' => e = .returned (.bool (decide (A = B))) ∧ Below w.heap.size w w' := by
  obtain ⟨P, rfl, hP⟩ := ha
  obtain ⟨Q, rfl, hQ⟩ := hb
  have HP := Lib.hid hP
  have HQ0 := Lib.hid hQ
  obtain ⟨⟨_, ao, ac, rfl, -⟩, -⟩ := hP
  obtain ⟨⟨_, bo, bc, rfl, -⟩, -⟩ := hQ
  have HNa := Lib.hid hna
  have HNb := Lib.hid hnb
  rw [List.length_map] at hla hlb
  generalize hA : P.map (·.1) = A at *
  generalize hB : Q.map (·.1) = B at *
  have HA := Lib.hid hA
  have HB := Lib.hid hB
  have HAL : Hid (A.length = P.length) := by unfold Hid; rw [← hA, List.length_map]
  have HBL : Hid (B.length = Q.length) := by unfold Hid; rw [← hB, List.length_map]
  clear hA hB hna hnb
  by_cases hlen : P.length = Q.length
  · have hlen' : ((P.length : Int) != Q.length) = false := by rw [hlen]; simp
    have HL := Lib.hid hlen
    clear hlen
    go_enter Tryz.func54, Tryz.ntmps54
    go_wp2
    go_loopw [17] (fun i wr => ∃ j : Nat, j ≤ P.length ∧ i = .int .i64 j ∧ Hid (∀ q, q < j → A[q]? = B[q]?) ∧ Hid (Below w.heap.size w wr)) (fun i _ => P.length - (intOf i).toNat)
    case atStart => exact ⟨0, by omega, rfl, fun q h => by omega, Below.refl _ _⟩
    case round =>
      obtain ⟨j, hj, rfl, HQ, HBel⟩ := hrel
      have hws := HBel.out.size
      by_cases hlt : j < P.length
      · obtain ⟨p, hp⟩ : ∃ p, P[j]? = some p := ⟨_, List.getElem?_eq_getElem hlt⟩
        obtain ⟨q, hq⟩ : ∃ q, Q[j]? = some q := ⟨_, List.getElem?_eq_getElem (by rw [← HL.out]; exact hlt)⟩
        obtain ⟨b1, o1, c1, e1, l1, k1, x0, x1, rp⟩ := RdP.at HP.out hp
        obtain ⟨b2, o2, c2, e2, l2, k2, y0, y1, rq⟩ := RdP.at HQ0.out hq
        simp only [Value.slice.injEq] at e1 e2
        obtain ⟨rfl, -, rfl⟩ := e1
        obtain ⟨rfl, -, rfl⟩ := e2
        have X0 := (HBel.out.cell (p := ⟨b1, _, none⟩) l1).trans x0
        have X1 := (HBel.out.cell (p := ⟨b1, _, none⟩) l1).trans x1
        have Y0 := (HBel.out.cell (p := ⟨b2, _, none⟩) l2).trans y0
        have Y1 := (HBel.out.cell (p := ⟨b2, _, none⟩) l2).trans y1
        have hb1w : b1 < wr.heap.size := by omega
        have hb2w : b2 < wr.heap.size := by omega
        have HAj : Hid (A[j]? = some p.1) := by unfold Hid; rw [← HA.out, List.getElem?_map, hp]; rfl
        have HBj : Hid (B[j]? = some q.1) := by unfold Hid; rw [← HB.out, List.getElem?_map, hq]; rfl
        have hltb : j < Q.length := by rw [← HL.out]; exact hlt
        have hbp : p.1.b.length ≤ 140737488355328 := Nat.le_trans (body_le (List.mem_of_getElem? HAj.out)) HNa.out
        have hbq : q.1.b.length ≤ 140737488355328 := Nat.le_trans (body_le (List.mem_of_getElem? HBj.out)) HNb.out
        have HS := Lib.hid (fun x h1 h2 => xSameCl_any p.2 q.2 p.1 q.1 x h1 h2 hbp hbq)
        have HRp := Lib.hid (rp.below HBel.out)
        have HRq := Lib.hid (rq.below HBel.out)
        obtain ⟨_, ap, cp, hv1, -⟩ := rp
        obtain ⟨_, aq, cq, hv2, -⟩ := rq
        obtain ⟨⟨ph, pb⟩, pv⟩ := p
        obtain ⟨⟨qh, qb⟩, qv⟩ := q
        simp only at hv1 hv2 X0 X1 Y0 Y1 HAj HBj HS HRp HRq
        subst hv1 hv2
        clear x0 x1 y0 y1 hp hq hbp hbq
        have HD : Hid (decide ((⟨ph, pb⟩ : Ru) = ⟨qh, qb⟩) = decide (A[j]? = B[j]?)) := by unfold Hid; rw [HAj.out, HBj.out, decide_eq_decide]; simp
        rw [HD.out] at HS
        clear HD
        by_cases he : A[j]? = B[j]?
        · rw [decide_eq_true he] at HS
          have HEq := Lib.hid he
          clear he
          go_wp2_with fail
          refine (HS.out _ (HRp.out.below (below2 wr _ _)) (HRq.out.below (below2 wr _ _))).mono ?_
          rintro e w2 ⟨rfl, hb2⟩
          have HB2 := Lib.hid (HBel.out.trans (((below2 wr _ _).trans (hb2.mono (by simp; omega))).mono hws))
          clear hb2
          go_wp2_with fail
          go_roundw
          case rel =>
            refine ⟨j + 1, by omega, by go_num, ?_, HB2.out⟩
            intro q hq
            by_cases h : q = j
            · subst h; exact HEq.out
            · exact HQ.out q (by omega)
          case measure => simp [intOf]; omega
        · rw [decide_eq_false he] at HS
          have HNe := Lib.hid he
          clear he
          go_wp2_with fail
          refine (HS.out _ (HRp.out.below (below2 wr _ _)) (HRq.out.below (below2 wr _ _))).mono ?_
          rintro e w2 ⟨rfl, hb2⟩
          have HB2 := Lib.hid (HBel.out.trans (((below2 wr _ _).trans (hb2.mono (by simp; omega))).mono hws))
          clear hb2
          go_wp2_with fail
          go_ret
          exact ⟨by rw [decide_eq_false (fun h => HNe.out (by rw [h]))]; rfl, HB2.out⟩
      · go_wp2
        go_ret
        refine ⟨?_, HBel.out⟩
        have : A = B := by
          apply List.ext_getElem?
          intro q
          by_cases h : q < j
          · exact HQ.out q h
          · rw [List.getElem?_eq_none (by have := HAL.out; omega), List.getElem?_eq_none (by have := HL.out; have := HBL.out; omega)]
        rw [decide_eq_true this]; rfl
  · have hlen' : ((P.length : Int) != Q.length) = true := by rw [bne_iff_ne]; omega
    go_enter Tryz.func54, Tryz.ntmps54
    go_wp2
    go_ret
    exact ⟨by rw [decide_eq_false (fun h => hlen (by have := HAL.out; have := HBL.out; rw [h] at *; omega))]; rfl, Below.refl _ _⟩
set_option maxRecDepth 100000 in
theorem xSameG_any (va vb : Value) (A B : List Ru) (w : World) (ha : RdRu w va A) (hb : RdRu w vb B) (hla : A.length ≤ 140737488355328) (hlb : B.length ≤ 140737488355328) (hna : nodesG A ≤ 140737488355328) (hnb : nodesG B ≤ 140737488355328) :
    Calls Tryz.prog 29 #[va, vb] w fun e w' => e = .returned (.bool (decide (A = B))) ∧ Below w.heap.size w w' := by
  have HE := Lib.hid (xEqFunc_any va vb A B w ha hb hla hlb hna hnb)
  obtain ⟨P, rfl, ⟨_, ao, ac, rfl, -⟩, -⟩ := ha
  obtain ⟨Q, rfl, ⟨_, bo, bc, rfl, -⟩, -⟩ := hb
  generalize decide (P.map (·.1) = Q.map (·.1)) = d at *
  go_enter Tryz.func29, Tryz.ntmps29
  go_wp2_with fail
  refine (HE.out).mono ?_
  rintro e w2 ⟨rfl, hb2⟩
  go_wp2_with fail
  go_ret
  exact ⟨rfl, hb2⟩
end Go.Proofs.YtkmjmfcanlknjaaGreat
namespace Go.Proofs.YtkmjmfcanlknjaaGreat
open Go.RowKit

theorem rdRu_shapeK {w : World} {v : Value} {G : List Ru} (h : RdRu w v G) : ∃ a c, v = .slice a G.length c := by
  obtain ⟨P, rfl, hR⟩ := h
  obtain ⟨⟨_, ao, cap, rfl, -⟩, -⟩ := hR
  exact ⟨ao, cap, by rw [List.length_map]⟩
theorem ownP_shape {w : World} {B : Nat} {v : Value} {P : List (Ru × Value)} {G : List Ru} (h : OwnP w B v P) (hP : P.map (·.1) = G) : ∃ a c, v = .slice a G.length c := rdRu_shapeK ⟨P, hP, h.rd⟩
/-! ### the law BnfChecks -/
set_option maxRecDepth 100000 in
set_option maxHeartbeats 3200000 in
theorem bnfChecks_any (v : Value) (G : List Ru) (w : World) (h : RdRu w v G) (hb : Bulk G 1048576) :
    Calls Tryz.prog 3 #[v] w fun e w' => e = .returned (.bool true) ∧ Below w.heap.size w w' := by
  have hl := hb.lim (by omega)
  have hl2 := hb.len
  have hn := hb.nodes
  clear hb
  have HV := Lib.hid h
  have H1 := Lib.hid (rCopyG_any v G w h hl (by omega))
  have H2 := Lib.hid (fun v w h => xCheckG_any v G w h hl (by omega))
  have H3 := Lib.hid (fun w h => rCheckG_any v G w h hl (by omega))
  obtain ⟨a0, c0, rfl⟩ := rdRu_shapeK h
  clear h hl hn hl2
  generalize checkG G = c at *
  have hcc : (c == c) = true := by simp
  go_enter Tryz.func3, Tryz.ntmps3
  go_wp2_with fail
  refine (H1.out).mono ?_
  rintro e w1 ⟨v1, P1, rfl, hP1, ho1, hb1⟩
  have HR1 : Hid (RdRu w1 v1 G) := ⟨P1, hP1, ho1.rd⟩
  have HB1 := Lib.hid hb1
  obtain ⟨a1, c1, rfl⟩ := ownP_shape ho1 hP1
  clear hb1 ho1 hP1
  go_wp2_with fail
  refine (H2.out _ _ HR1.out).mono ?_
  rintro e w2 ⟨rfl, hb2⟩
  have HB2 := Lib.hid (HB1.out.trans (hb2.mono HB1.out.size))
  clear hb2
  go_wp2_with fail
  refine (headG_any _).mono ?_
  rintro e w3 ⟨rfl, hb3⟩
  have HB3 := Lib.hid (HB2.out.trans (hb3.mono HB2.out.size))
  clear hb3
  go_wp2_with fail
  refine (H3.out _ (HV.out.below HB3.out)).mono ?_
  rintro e w4 ⟨rfl, hb4⟩
  have HB4 := Lib.hid (HB3.out.trans (hb4.mono HB3.out.size))
  clear hb4
  go_wp2_with fail
  go_ret
  exact ⟨rfl, HB4.out⟩
/-! ### the law BnfPrints -/
set_option maxRecDepth 100000 in
set_option maxHeartbeats 3200000 in
theorem bnfPrints_any (v : Value) (G : List Ru) (w : World) (h : RdRu w v G) (hb : Bulk G 1048576) :
    Calls Tryz.prog 7 #[v] w fun e w' => e = .returned (.bool true) ∧ Below w.heap.size w w' := by
  have hl := hb.lim (by omega)
  have hl2 := hb.len
  have hn := hb.nodes
  clear hb
  have HV := Lib.hid h
  have H1 := Lib.hid (rCopyG_any v G w h hl (by omega))
  have H2 := Lib.hid (fun v w h => xPrintG_any v G w h hl (by omega))
  have H3 := Lib.hid (fun w h => rPrintG_any v G w h hl (by omega))
  obtain ⟨a0, c0, rfl⟩ := rdRu_shapeK h
  clear h hl hn hl2
  generalize checkG G = c at *
  generalize printG G = t at *
  have hcc : (c == c) = true := by simp
  have htt : (t.toList == t.toList) = true := by simp
  go_enter Tryz.func7, Tryz.ntmps7
  go_wp2_with fail
  refine (H1.out).mono ?_
  rintro e w1 ⟨v1, P1, rfl, hP1, ho1, hb1⟩
  have HR1 : Hid (RdRu w1 v1 G) := ⟨P1, hP1, ho1.rd⟩
  have HB1 := Lib.hid hb1
  obtain ⟨a1, c1, rfl⟩ := ownP_shape ho1 hP1
  clear hb1 ho1 hP1
  go_wp2_with fail
  refine (H2.out _ _ HR1.out).mono ?_
  rintro e w2 ⟨rfl, hb2⟩
  have HB2 := Lib.hid (HB1.out.trans (hb2.mono HB1.out.size))
  clear hb2
  go_wp2_with fail
  refine (H3.out _ (HV.out.below HB2.out)).mono ?_
  rintro e w3 ⟨rfl, hb3⟩
  have HB3 := Lib.hid (HB2.out.trans (hb3.mono HB2.out.size))
  clear hb3
  go_wp2_with fail
  refine (headG_any _).mono ?_
  rintro e w4 ⟨rfl, hb4⟩
  have HB4 := Lib.hid (HB3.out.trans (hb4.mono HB3.out.size))
  clear hb4
  go_wp2_with fail
  go_ret
  exact ⟨rfl, HB4.out⟩
/-! ### the law BnfRound -/
set_option maxRecDepth 100000 in
set_option maxHeartbeats 6400000 in
theorem bnfRound_any (v : Value) (G : List Ru) (w : World) (h : RdRu w v G) (hb : Bulk G 1048576) :
    Calls Tryz.prog 8 #[v] w fun e w' => e = .returned (.bool true) ∧ Below w.heap.size w w' := by
  have hl := hb.lim (by omega)
  have hl2 := hb.len
  have hn := hb.nodes
  clear hb
  have HV := Lib.hid h
  have H1 := Lib.hid (fun w h => rCopyG_any v G w h hl (by omega))
  have H2 := Lib.hid (fun v w h => xPrintG_any v G w h hl (by omega))
  have H3 := Lib.hid (fun v w h => xCheckG_any v G w h hl (by omega))
  have HS := Lib.hid (fun (va vb : Value) (w : World) (h1 : RdRu w va G) (h2 : RdRu w vb G) => rSameG_any va vb G G w h1 h2 (by omega) (by omega) (by omega) (by omega))
  rw [decide_eq_true (rfl : G = G)] at HS
  obtain ⟨a0, c0, rfl⟩ := rdRu_shapeK h
  clear h hl hn hl2
  by_cases hc : checkG G = 0
  · obtain ⟨hr, hz⟩ := grammar_round hc
    have hp : printG G = textG G := by unfold printG; rw [if_pos hc]
    have HP := Lib.hid (fun w => xParseG_any (textG G) w)
    rw [hr] at HP
    rw [hc, hp] at H2
    have hz1 : decide ((textG G).size ≤ 2048) = true := by simpa using hz
    have hz2 : decide (((textG G).size : Int) ≤ 2048) = true := by simp; omega
    clear hc hr hp hz H3
    generalize textG G = t at *
    go_enter Tryz.func8, Tryz.ntmps8
    go_wp2_with fail
    refine (H1.out _ HV.out).mono ?_
    rintro e w1 ⟨v1, P1, rfl, hP1, ho1, hb1⟩
    have HR1 : Hid (RdRu w1 v1 G) := ⟨P1, hP1, ho1.rd⟩
    have HB1 := Lib.hid hb1
    obtain ⟨a1, c1, rfl⟩ := ownP_shape ho1 hP1
    clear hb1 ho1 hP1
    go_wp2_with fail
    refine (H2.out _ _ HR1.out).mono ?_
    rintro e w2 ⟨rfl, hb2⟩
    have HB2 := Lib.hid (HB1.out.trans (hb2.mono HB1.out.size))
    clear hb2
    go_wp2_with fail
    refine (headG_any _).mono ?_
    rintro e w3 ⟨rfl, hb3⟩
    have HB3 := Lib.hid (HB2.out.trans (hb3.mono HB2.out.size))
    clear hb3
    go_wp2_with fail
    refine (HP.out _).mono ?_
    rintro e w4 ⟨v4, P4, rfl, hP4, ho4, hb4⟩
    have HB4 := Lib.hid (HB3.out.trans (hb4.mono HB3.out.size))
    have HR4 : Hid (RdRu w4 v4 G) := ⟨P4, hP4, ho4.rd⟩
    obtain ⟨a4, c4, rfl⟩ := ownP_shape ho4 hP4
    clear hb4 ho4 hP4
    go_wp2_with fail
    refine (HS.out _ _ _ HR4.out (HV.out.below HB4.out)).mono ?_
    rintro e w5 ⟨rfl, nq, rfl⟩
    go_wp2_with fail
    go_ret
    exact ⟨rfl, below_drewN HB4.out _⟩
  · generalize checkG G = c at *
    have hcb : (c != 0) = true := by simpa using hc
    have hcc : (c == c) = true := by simp
    clear hc
    go_enter Tryz.func8, Tryz.ntmps8
    go_wp2_with fail
    refine (H1.out _ HV.out).mono ?_
    rintro e w1 ⟨v1, P1, rfl, hP1, ho1, hb1⟩
    have HR1 : Hid (RdRu w1 v1 G) := ⟨P1, hP1, ho1.rd⟩
    have HB1 := Lib.hid hb1
    obtain ⟨a1, c1, rfl⟩ := ownP_shape ho1 hP1
    clear hb1 ho1 hP1
    go_wp2_with fail
    refine (H2.out _ _ HR1.out).mono ?_
    rintro e w2 ⟨rfl, hb2⟩
    have HB2 := Lib.hid (HB1.out.trans (hb2.mono HB1.out.size))
    clear hb2
    go_wp2_with fail
    refine (headG_any _).mono ?_
    rintro e w3 ⟨rfl, hb3⟩
    have HB3 := Lib.hid (HB2.out.trans (hb3.mono HB2.out.size))
    clear hb3
    go_wp2_with fail
    refine (H1.out _ (HV.out.below HB3.out)).mono ?_
    rintro e w4 ⟨v4, P4, rfl, hP4, ho4, hb4⟩
    have HB4 := Lib.hid (HB3.out.trans (hb4.mono HB3.out.size))
    have HR4 : Hid (RdRu w4 v4 G) := ⟨P4, hP4, ho4.rd⟩
    obtain ⟨a4, c4, rfl⟩ := ownP_shape ho4 hP4
    clear hb4 ho4 hP4
    go_wp2_with fail
    refine (H3.out _ _ HR4.out).mono ?_
    rintro e w5 ⟨rfl, hb5⟩
    have HB5 := Lib.hid (HB4.out.trans (hb5.mono HB4.out.size))
    clear hb5
    go_wp2_with fail
    go_ret
    exact ⟨rfl, HB5.out⟩
/-! ### the law BnfAgain -/
theorem parseG_ok {s : ByteArray} (h : (parseG s).2.2 = 0) : checkG (parseG s).1 = 0 ∧ LimG (parseG s).1 ∧ nodesG (parseG s).1 ≤ 4096 ∧ (parseG s).1.length ≤ 2048 := by
  unfold parseG at h ⊢
  split at h
  · simp at h
  · split at h
    · simp at h
    · split at h
      · simp at h
      · split at h
        · simp at h
        · split at h
          · rename_i hz; exact absurd h hz
          · rename_i h1 h2 h3 h4 h5
            rw [if_neg h1, if_neg h2, if_neg h3, if_neg h4, if_neg h5]
            have hok : (gParsed s).ok = true := by simpa using h2
            have g1 := (cut_len s s.size 0 (by omega) (by omega)).1
            have g2 := rules_size (cut s 0).1 ((cut s 0).1.length + 1) 0 [] (by omega) (by omega) hok
            have e0 : nodesG [] = 0 := rfl
            rw [e0, List.length_nil] at g2
            have g3 : (gParsed s).g.length ≤ 0 + ((cut s 0).1.length - 0) := g2.1
            have g4 : nodesG (gParsed s).g ≤ 0 + 2 * ((cut s 0).1.length - 0) := g2.2
            have hlg : longG (gParsed s).g = false := by simpa using h4
            refine ⟨by simpa using h5, ?_, by simp only; omega, by simp only; omega⟩
            unfold longG at hlg
            rw [List.any_eq_false] at hlg
            refine ⟨by simp only; omega, by simp only; omega, fun r hr => ?_, fun r hr x hx => ?_⟩
            · have := hlg r hr
              simp only [Bool.or_eq_true, decide_eq_true_eq, not_or] at this
              omega
            · have := hlg r hr
              simp only [Bool.or_eq_true, decide_eq_true_eq, not_or] at this
              have h2 := this.2
              unfold longN at h2
              have h3 : (r.b.any fun x => decide (16 < x.n.size)) = false := by simpa using h2
              rw [List.any_eq_false] at h3
              have := h3 x hx
              simp only [decide_eq_true_eq] at this
              omega
set_option maxRecDepth 100000 in
set_option maxHeartbeats 6400000 in
theorem bnfAgain_any (s : ByteArray) (w : World) :
    Calls Tryz.prog 9 #[.string s] w fun e w' => e = .returned (.bool true) ∧ Below w.heap.size w w' := by
  have H1 := Lib.hid (xParseG_any s w)
  have HO := Lib.hid (parseG_ok (s := s))
  generalize parseG s = R at *
  obtain ⟨G, at_, er⟩ := R
  simp only at HO
  by_cases he : er = 0
  · subst he
    obtain ⟨hc, hl, hn, hg⟩ := HO.out rfl
    obtain ⟨hr, -⟩ := grammar_round hc
    have hp : printG G = textG G := by unfold printG; rw [if_pos hc]
    have H2 := Lib.hid (fun v w h => xPrintG_any v G w h hl (by omega))
    have HP := Lib.hid (fun w => xParseG_any (textG G) w)
    have HS := Lib.hid (fun (va vb : Value) (w : World) (h1 : RdRu w va G) (h2 : RdRu w vb G) => rSameG_any va vb G G w h1 h2 (by omega) (by omega) (by omega) (by omega))
    rw [decide_eq_true (rfl : G = G)] at HS
    rw [hr] at HP
    rw [hc, hp] at H2
    clear hc hl hn hg hr hp HO
    generalize textG G = t at *
    have htt : (t.toList == t.toList) = true := by simp
    go_enter Tryz.func9, Tryz.ntmps9
    go_wp2_with fail
    refine (H1.out).mono ?_
    rintro e w1 ⟨v1, P1, rfl, hP1, ho1, hb1⟩
    have HR1 : Hid (RdRu w1 v1 G) := ⟨P1, hP1, ho1.rd⟩
    have HB1 := Lib.hid hb1
    obtain ⟨a1, c1, rfl⟩ := ownP_shape ho1 hP1
    clear hb1 ho1 hP1
    go_wp2_with fail
    refine (headG_any _).mono ?_
    rintro e w2 ⟨rfl, hb2⟩
    have HB2 := Lib.hid (HB1.out.trans (hb2.mono HB1.out.size))
    have HR2 := Lib.hid (HR1.out.below hb2)
    clear hb2 HR1
    go_wp2_with fail
    refine (H2.out _ _ HR2.out).mono ?_
    rintro e w3 ⟨rfl, hb3⟩
    have HB3 := Lib.hid (HB2.out.trans (hb3.mono HB2.out.size))
    have HR3 := Lib.hid (HR2.out.below hb3)
    clear hb3 HR2
    go_wp2_with fail
    refine (HP.out _).mono ?_
    rintro e w4 ⟨v4, P4, rfl, hP4, ho4, hb4⟩
    have HB4 := Lib.hid (HB3.out.trans (hb4.mono HB3.out.size))
    have HR4 := Lib.hid (HR3.out.below hb4)
    have HQ4 : Hid (RdRu w4 v4 G) := ⟨P4, hP4, ho4.rd⟩
    obtain ⟨a4, c4, rfl⟩ := ownP_shape ho4 hP4
    clear hb4 ho4 hP4 HR3
    go_wp2_with fail
    refine (H2.out _ _ HQ4.out).mono ?_
    rintro e w5 ⟨rfl, hb5⟩
    have HB5 := Lib.hid (HB4.out.trans (hb5.mono HB4.out.size))
    have HR5 := Lib.hid (HR4.out.below hb5)
    have HQ5 := Lib.hid (HQ4.out.below hb5)
    clear hb5 HR4 HQ4
    go_wp2_with fail
    refine (HS.out _ _ _ HR5.out HQ5.out).mono ?_
    rintro e w6 ⟨rfl, nq, rfl⟩
    go_wp2_with fail
    go_ret
    exact ⟨rfl, below_drewN HB5.out _⟩
  · have heb : (er != 0) = true := by simpa using he
    clear he HO
    go_enter Tryz.func9, Tryz.ntmps9
    go_wp2_with fail
    refine (H1.out).mono ?_
    rintro e w1 ⟨v1, P1, rfl, hP1, ho1, hb1⟩
    have HB1 := Lib.hid hb1
    obtain ⟨a1, c1, rfl⟩ := ownP_shape ho1 hP1
    clear hb1 ho1 hP1
    go_wp2_with fail
    refine (headG_any _).mono ?_
    rintro e w2 ⟨rfl, hb2⟩
    have HB2 := Lib.hid (HB1.out.trans (hb2.mono HB1.out.size))
    clear hb2
    go_wp2_with fail
    go_ret
    exact ⟨rfl, HB2.out⟩
end Go.Proofs.YtkmjmfcanlknjaaGreat
namespace Go.Proofs.YtkmjmfcanlknjaaGreat
open Go.RowKit

/-! ### lists of bodies in memory -/
theorem elemBo : ElemOK Tryz.prog 43 45 1 24 :=
  ElemOK.mk' (z := .slice none 0 0) Tryz.underlying43 (by kernel_rfl) rfl (by decide)
/-- the bodies own their row and themselves -/
structure OwnBo (w : World) (B : Nat) (v : Value) (Q : List (List Nd × Value)) : Prop where
  row : w.ownsRow B 45 1 v Q.length (Q.map (·.2))
  bods : ∀ p ∈ Q, OwnNd w B p.2 p.1
theorem OwnBo.nil (w : World) (B : Nat) : OwnBo w B (.slice none 0 0) [] := ⟨World.ownsRow_nil _ _ _ _, fun p hp => by cases hp⟩
theorem OwnBo.below {w w' : World} {B : Nat} {v : Value} {Q : List (List Nd × Value)} (h : OwnBo w B v Q) (hb : Below w.heap.size w w') : OwnBo w' B v Q :=
  ⟨own_grown h.row (grown_below hb) (fun j hj => by cases hj), fun p hp => own_grown (h.bods p hp) (grown_below hb) (fun j hj => by cases hj)⟩
theorem OwnBo.snoc {w w' : World} {B : Nat} {v v' : Value} {Q : List (List Nd × Value)} {p : List Nd × Value} (h : OwnBo w B v Q) (hb : OwnNd w B p.2 p.1) (hown : w'.ownsRow B 45 1 v' (Q.length + 1) (Q.map (·.2) ++ [p.2])) (hg : w.grownBy w' v.ownBlock) : OwnBo w' B v' (Q ++ [p]) := by
  refine ⟨?_, fun q hq => ?_⟩
  · rw [List.map_append, List.length_append]; exact hown
  · have hq2 : OwnNd w B q.2 q.1 := by
      rcases List.mem_append.1 hq with hq | hq
      · exact h.bods q hq
      · rw [List.mem_singleton.1 hq]; exact hb
    exact own_grown hq2 hg (fun j hj => .inr (own_apart hq2 h.row (by decide) j hj))
/-- the bodies of the rules with a head -/
def bodsG (G : List Ru) (t : ByteArray) : List (List Nd) := (G.filter fun r => decide (r.h = t)).map (·.b)
theorem bodsG_snoc (G : List Ru) (r : Ru) (t : ByteArray) : bodsG (G ++ [r]) t = if r.h = t then bodsG G t ++ [r.b] else bodsG G t := by
  unfold bodsG
  rw [List.filter_append, List.map_append]
  by_cases h : r.h = t
  · rw [if_pos h]; simp [h]
  · rw [if_neg h]; simp [h]
theorem bodsG_take (G : List Ru) {j : Nat} {r : Ru} (t : ByteArray) (h : G[j]? = some r) : bodsG (G.take (j + 1)) t = if r.h = t then bodsG (G.take j) t ++ [r.b] else bodsG (G.take j) t := by
  rw [(nodesG_take G h).1, bodsG_snoc]
theorem bodsG_len (G : List Ru) (t : ByteArray) (j : Nat) : (bodsG (G.take j) t).length ≤ j := by
  unfold bodsG; rw [List.length_map]; exact Nat.le_trans (List.length_filter_le _ _) (by rw [List.length_take]; omega)
set_option maxRecDepth 100000 in
set_option maxHeartbeats 3200000 in
theorem xBodies_any (v : Value) (G : List Ru) (t : ByteArray) (w : World) (h : RdRu w v G) (hl : LimG G) (hl2 : G.length ≤ 1099511627776) :
    Calls Tryz.prog 27 #[v, .string t] w fun e w' => ∃ v' Q, e = .returned v' ∧ Q.map (·.1) = bodsG G t ∧ OwnBo w' w.heap.size v' Q ∧ Below w.heap.size w w' := by
  obtain ⟨P, rfl, hR⟩ := h
  have HR := Lib.hid hR
  have HL := Lib.hid hl
  obtain ⟨⟨_, ao, cap, rfl, -⟩, -⟩ := hR
  have hpl : P.length ≤ 1099511627776 := by rwa [List.length_map] at hl2
  clear hl hl2
  generalize hG : P.map (·.1) = G at *
  have HG := Lib.hid hG
  have HGL : Hid (G.length = P.length) := by unfold Hid; rw [← hG, List.length_map]
  clear hG
  go_enter Tryz.func27, Tryz.ntmps27
  go_wp2_with fail
  go_loopw [5, 10] (fun o i wr => ∃ (j : Nat) (Q : List (List Nd × Value)), i = .int .i64 j ∧ j ≤ P.length ∧ Q.length ≤ j ∧ Hid (Q.map (·.1) = bodsG (G.take j) t) ∧ Hid (OwnBo wr w.heap.size o Q) ∧ Hid (Below w.heap.size w wr)) (fun _ i _ => P.length - (intOf i).toNat)
  case atStart => exact ⟨0, [], rfl, by omega, by simp, rfl, OwnBo.nil _ _, Below.refl _ _⟩
  case round =>
    obtain ⟨j, Q, rfl, hj, hQl, HQ, HO, HBel⟩ := hrel
    have hws := HBel.out.size
    by_cases hlt : j < P.length
    · obtain ⟨p, hp⟩ : ∃ p, P[j]? = some p := ⟨_, List.getElem?_eq_getElem hlt⟩
      obtain ⟨b, off, cp, e1, hb, hc, x0, x1, hrd⟩ := RdP.at HR.out hp
      simp only [Value.slice.injEq] at e1
      obtain ⟨rfl, -, rfl⟩ := e1
      have X0 := (HBel.out.cell (p := ⟨b, _, none⟩) hb).trans x0
      have X1 := (HBel.out.cell (p := ⟨b, _, none⟩) hb).trans x1
      have hbw : b < wr.heap.size := by omega
      have HGP : Hid (G[j]? = some p.1) := by unfold Hid; rw [← HG.out, List.getElem?_map, hp]; rfl
      have hbl : p.1.b.length ≤ 4398046511104 := Nat.le_trans (body_le (List.mem_of_getElem? HGP.out)) HL.out.nodes
      have HC := Lib.hid (fun wx h => xClone_any p.2 p.1.b wx h hbl)
      have HT := Lib.hid (bodsG_take G t HGP.out)
      have HV := Lib.hid (hrd.below HBel.out)
      obtain ⟨_, ao3, cp3, hv2, -⟩ := id hrd
      obtain ⟨⟨ph, pb⟩, pv⟩ := p
      simp only at hv2 X0 X1 HGP HC HT HV
      subst hv2
      clear x0 x1 hp hrd hbl
      have HB2 : Hid (Below w.heap.size w (wr.alloc (.cells #[.string ph, .slice ao3 pb.length cp3] 47))) := HBel.out.alloc hws _
      have HO2 := Lib.hid (HO.out.below (below1 wr (.cells #[.string ph, .slice ao3 pb.length cp3] 47)))
      by_cases hm : ph = t
      · subst hm
        rw [if_pos rfl] at HT
        have hd : (ph.toList == ph.toList) = true := by simp
        have HV2 := Lib.hid (HV.out.below (below1 wr (.cells #[.string ph, .slice ao3 pb.length cp3] 47)))
        go_wp2_with fail
        refine (HC.out _ HV2.out).mono ?_
        rintro e w2 ⟨v2, rfl, ho2, hb2⟩
        have HO3 := HO2.out.below hb2
        have hws2 : w.heap.size ≤ w2.heap.size := Nat.le_trans HB2.out.size hb2.size
        have hown2 : OwnNd w2 w.heap.size v2 pb := own_lower ho2 HB2.out.size
        have HB3 : Below w.heap.size w w2 := HB2.out.trans (hb2.mono HB2.out.size)
        obtain ⟨ao2, cp2, rfl⟩ : ∃ ao c, v2 = .slice ao pb.length c := by obtain ⟨_, ao, c, e, -⟩ := RdNd.of_own ho2; exact ⟨ao, c, e⟩
        go_wp2_with (first
          | (at_builtin; go_must (refine wpList_appG1 elemBo rfl _ _ rfl HO3.row rfl (news := [.slice ao2 pb.length cp2]) rfl rfl (by intro u hu; simp at hu; subst hu; rfl) (by unfold maxLen; omega) (by omega) hws2 ?_); intro v' w3 hown3 hg3))
        have HB4 : Hid (Below w.heap.size w w3) := HB3.grown hg3 hws2 (fun j hj => own_block HO3.row j hj)
        have HO4 : Hid (OwnBo w3 w.heap.size v' (Q ++ [(pb, .slice ao2 pb.length cp2)])) := OwnBo.snoc (p := (pb, .slice ao2 pb.length cp2)) HO3 hown2 hown3 hg3
        clear hown3 hg3 ho2 hb2 hown2 HO3
        go_roundw
        case rel => exact ⟨j + 1, _, by go_num, by omega, by simp; omega, by unfold Hid; rw [HT.out, List.map_append, HQ.out]; rfl, HO4.out, HB4.out⟩
        case measure => simp [intOf]; omega
      · rw [if_neg hm] at HT
        have hd : (ph.toList == t.toList) = false := by rw [beq_eq_false_iff_ne]; exact fun h => hm ((toList_inj _ _).1 h)
        clear hm
        go_wp2_with fail
        go_roundw
        case rel => exact ⟨j + 1, Q, by go_num, by omega, by omega, by unfold Hid; rw [HT.out]; exact HQ.out, HO2.out, HB2.out⟩
        case measure => simp [intOf]; omega
    · obtain rfl : j = P.length := by omega
      have HE : Hid (Q.map (·.1) = bodsG G t) := by have := HQ.out; rw [List.take_of_length_le (by have := HGL.out; omega)] at this; exact this
      go_wp2_with fail
      go_ret
      exact ⟨_, _, rfl, HE.out, HO.out, HBel.out⟩
end Go.Proofs.YtkmjmfcanlknjaaGreat
namespace Go.Proofs.YtkmjmfcanlknjaaGreat
open Go.RowKit Go.Shelf

/-! ### the law BnfTells, plain part -/
theorem bodsG_app (G H : List Ru) (t : ByteArray) : bodsG (G ++ H) t = bodsG G t ++ bodsG H t := by unfold bodsG; rw [List.filter_append, List.map_append]
theorem bodsG_get (G : List Ru) {j : Nat} {r : Ru} (t : ByteArray) (h : G[j]? = some r) (ht : r.h = t) : (bodsG G t)[(bodsG (G.take j) t).length]? = some r.b := by
  have e : G = G.take (j + 1) ++ G.drop (j + 1) := (List.take_append_drop _ _).symm
  conv => lhs; rw [e, bodsG_app, bodsG_take G t h, if_pos ht]
  simp
end Go.Proofs.YtkmjmfcanlknjaaGreat
namespace Go.Proofs.YtkmjmfcanlknjaaGreat
open Go.RowKit Go.Shelf

set_option maxRecDepth 100000 in
set_option maxHeartbeats 6400000 in
theorem bnfTells_any (v u : Value) (G H : List Ru) (t : ByteArray) (w : World) (h : RdRu w v G) (h2 : RdRu w u H) (hb : Bulk G 1048576) (hb2 : Bulk H 1048576) :
    Calls Tryz.prog 10 #[v, u, .string t] w fun e w' => e = .returned (.bool true) ∧ Below w.heap.size w w' := by
  have hl := hb.lim (by omega)
  have hl2 := hb.len
  have hn := hb.nodes
  have hl3 := hb2.len
  have hn3 := hb2.nodes
  have HLim := Lib.hid hl
  clear hb hb2
  have HV := Lib.hid h
  have HU := Lib.hid h2
  have HCo := Lib.hid (fun w h => rCopyG_any v G w h hl (by omega))
  have HHe := Lib.hid (fun v w h => xHeads_any v G w h hl)
  have HLa := Lib.hid (fun v w h => xLabels_any v G w h hl)
  have HOc := Lib.hid (fun v w h => xOccG_any v G w h hl)
  have HHr := Lib.hid (fun w h => rHeads_any v G w h hl)
  have HLr := Lib.hid (fun w h => rLabels_any v G w h hl)
  have HOr := Lib.hid (fun w h => rOccG_any v G w h hl)
  have HBo := Lib.hid (fun v w h => xBodies_any v G t w h hl (by omega))
  have HSx := Lib.hid (fun w h h2 => xSameG_any v u G H w h h2 (by omega) (by omega) (by omega) (by omega))
  have HSr := Lib.hid (fun w h h2 => rSameG_any v u G H w h h2 (by omega) (by omega) (by omega) (by omega))
  have HSc := Lib.hid (fun va w h h2 => xSameG_any v va G G w h h2 (by omega) (by omega) (by omega) (by omega))
  rw [decide_eq_true (rfl : G = G)] at HSc
  have hh := heads_len G
  have hu : (used 3 G).length ≤ 1048576 := by have := usedL_len (namesK 3 G); have := namesK_len 3 G; unfold used; omega
  have HT1 := Lib.hid (fun va vb w h1 h2 => rSameTexts_any va vb (heads G) (heads G) w h1 h2 (by omega) (by omega))
  rw [decide_eq_true (rfl : heads G = heads G)] at HT1
  have HT2 := Lib.hid (fun va vb w h1 h2 => rSameTexts_any va vb (used 3 G) (used 3 G) w h1 h2 (by omega) (by omega))
  rw [decide_eq_true (rfl : used 3 G = used 3 G)] at HT2
  generalize decide (G = H) = od at HSx HSr
  have hod : (od == od) = true := by cases od <;> rfl
  obtain ⟨a0, c0, rfl⟩ := rdRu_shapeK h
  obtain ⟨a1, c1, rfl⟩ := rdRu_shapeK h2
  clear h h2
  generalize heads G = hs at *
  generalize used 3 G = us at *
  generalize occG G = oc at *
  have hocc : (oc != oc) = false := by simp
  go_enter Tryz.func10, Tryz.ntmps10
  go_wp2_with fail
  refine (HCo.out _ (HV.out.below (Below.refl w.heap.size w))).mono ?_
  rintro e w1 ⟨v, P, rfl, hP, ho, hb⟩
  have HB1 := Lib.hid ((Below.refl w.heap.size w).trans (hb.mono (Below.refl w.heap.size w).size))
  have HR1 : Hid (RdRu w1 v G) := ⟨P, hP, ho.rd⟩
  obtain ⟨x1, y1, rfl⟩ := ownP_shape ho hP
  clear hb ho hP
  go_wp2_with fail
  refine (HHe.out _ _ HR1.out).mono ?_
  rintro e w2 ⟨v, rfl, ho, hb⟩
  have HB2 := Lib.hid (HB1.out.trans (hb.mono HB1.out.size))
  have HS_2 := Lib.hid (RdS.of_own ho)
  obtain ⟨x2, y2, rfl⟩ := own_str_shape ho
  clear hb ho
  go_wp2_with fail
  refine (HCo.out _ (HV.out.below HB2.out)).mono ?_
  rintro e w3 ⟨v, P, rfl, hP, ho, hb⟩
  have HB3 := Lib.hid (HB2.out.trans (hb.mono HB2.out.size))
  have HS_3 := Lib.hid (HS_2.out.below hb)
  have HR3 : Hid (RdRu w3 v G) := ⟨P, hP, ho.rd⟩
  obtain ⟨x3, y3, rfl⟩ := ownP_shape ho hP
  clear hb ho hP
  go_wp2_with fail
  refine (HLa.out _ _ HR3.out).mono ?_
  rintro e w4 ⟨v, rfl, ho, hb⟩
  have HB4 := Lib.hid (HB3.out.trans (hb.mono HB3.out.size))
  have HS_4 := Lib.hid (HS_3.out.below hb)
  have HL_4 := Lib.hid (RdS.of_own ho)
  obtain ⟨x4, y4, rfl⟩ := own_str_shape ho
  clear hb ho
  go_wp2_with fail
  refine (HCo.out _ (HV.out.below HB4.out)).mono ?_
  rintro e w5 ⟨v, P, rfl, hP, ho, hb⟩
  have HB5 := Lib.hid (HB4.out.trans (hb.mono HB4.out.size))
  have HS_5 := Lib.hid (HS_4.out.below hb)
  have HL_5 := Lib.hid (HL_4.out.below hb)
  have HR5 : Hid (RdRu w5 v G) := ⟨P, hP, ho.rd⟩
  obtain ⟨x5, y5, rfl⟩ := ownP_shape ho hP
  clear hb ho hP
  go_wp2_with fail
  refine (HOc.out _ _ HR5.out).mono ?_
  rintro e w6 ⟨rfl, hb⟩
  have HB6 := Lib.hid (HB5.out.trans (hb.mono HB5.out.size))
  have HS_6 := Lib.hid (HS_5.out.below hb)
  have HL_6 := Lib.hid (HL_5.out.below hb)
  clear hb
  go_wp2_with fail
  refine (headG_any _).mono ?_
  rintro e w7 ⟨rfl, hb⟩
  have HB7 := Lib.hid (HB6.out.trans (hb.mono HB6.out.size))
  have HS_7 := Lib.hid (HS_6.out.below hb)
  have HL_7 := Lib.hid (HL_6.out.below hb)
  clear hb
  go_wp2_with fail
  refine (HHr.out _ (HV.out.below HB7.out)).mono ?_
  rintro e w8 ⟨v, rfl, ho, hb⟩
  have HB8 := Lib.hid (HB7.out.trans (hb.mono HB7.out.size))
  have HS_8 := Lib.hid (HS_7.out.below hb)
  have HL_8 := Lib.hid (HL_7.out.below hb)
  have HSr2_8 := Lib.hid (RdS.of_own ho)
  obtain ⟨x8, y8, rfl⟩ := own_str_shape ho
  clear hb ho
  go_wp2_with fail
  refine (HT1.out _ _ _ HS_8.out HSr2_8.out).mono ?_
  rintro e w9 ⟨rfl, hb⟩
  have HB9 := Lib.hid (HB8.out.trans (hb.mono HB8.out.size))
  have HS_9 := Lib.hid (HS_8.out.below hb)
  have HL_9 := Lib.hid (HL_8.out.below hb)
  have HSr2_9 := Lib.hid (HSr2_8.out.below hb)
  clear hb
  go_wp2_with fail
  refine (HLr.out _ (HV.out.below HB9.out)).mono ?_
  rintro e w10 ⟨v, rfl, ho, hb⟩
  have HB10 := Lib.hid (HB9.out.trans (hb.mono HB9.out.size))
  have HS_10 := Lib.hid (HS_9.out.below hb)
  have HL_10 := Lib.hid (HL_9.out.below hb)
  have HSr2_10 := Lib.hid (HSr2_9.out.below hb)
  have HLr2_10 := Lib.hid (RdS.of_own ho)
  obtain ⟨x10, y10, rfl⟩ := own_str_shape ho
  clear hb ho
  go_wp2_with fail
  refine (HT2.out _ _ _ HL_10.out HLr2_10.out).mono ?_
  rintro e w11 ⟨rfl, hb⟩
  have HB11 := Lib.hid (HB10.out.trans (hb.mono HB10.out.size))
  have HS_11 := Lib.hid (HS_10.out.below hb)
  have HL_11 := Lib.hid (HL_10.out.below hb)
  have HSr2_11 := Lib.hid (HSr2_10.out.below hb)
  have HLr2_11 := Lib.hid (HLr2_10.out.below hb)
  clear hb
  go_wp2_with fail
  refine (HOr.out _ (HV.out.below HB11.out)).mono ?_
  rintro e w12 ⟨rfl, hb⟩
  have HB12 := Lib.hid (HB11.out.trans (hb.mono HB11.out.size))
  have HS_12 := Lib.hid (HS_11.out.below hb)
  have HL_12 := Lib.hid (HL_11.out.below hb)
  have HSr2_12 := Lib.hid (HSr2_11.out.below hb)
  have HLr2_12 := Lib.hid (HLr2_11.out.below hb)
  clear hb
  go_wp2_with fail
  refine (HCo.out _ (HV.out.below HB12.out)).mono ?_
  rintro e w13 ⟨v, P, rfl, hP, ho, hb⟩
  have HB13 := Lib.hid (HB12.out.trans (hb.mono HB12.out.size))
  have HR13 : Hid (RdRu w13 v G) := ⟨P, hP, ho.rd⟩
  obtain ⟨x13, y13, rfl⟩ := ownP_shape ho hP
  clear hb ho hP
  go_wp2_with fail
  refine (HBo.out _ _ HR13.out).mono ?_
  rintro e w14 ⟨v, Q, rfl, hQ, ho, hb⟩
  have HB14 := Lib.hid (HB13.out.trans (hb.mono HB13.out.size))
  have HQ : Hid (Q.map (·.1) = bodsG G t) := hQ
  have HO14 := Lib.hid ho
  obtain ⟨_, bo, bc, rfl, -⟩ := Rd.of_owns ho.row
  clear hb ho hQ
  have HQL : Hid (Q.length = (bodsG G t).length) := by unfold Hid; rw [← HQ.out, List.length_map]
  obtain ⟨P, hPm, hP⟩ := HV.out
  have HP := Lib.hid hP
  have HPm := Lib.hid hPm
  have hPL : G.length = P.length := by rw [← hPm, List.length_map]
  have HPL := Lib.hid hPL
  rw [hPL] at HV HSx HSr HCo HSc
  have hpl : P.length ≤ 1048576 := by omega
  clear hP hPm
  go_wp2_with fail
  go_loopw [11, 12] (fun kv iv wr => ∃ (j k : Nat), kv = .int .i64 k ∧ iv = .int .i64 j ∧ j ≤ P.length ∧ k ≤ j ∧ Hid (k = (bodsG (G.take j) t).length) ∧ Hid (∃ m, wr = w14.drewN m)) (fun _ i _ => P.length - (intOf i).toNat)
  case atStart => exact ⟨0, 0, rfl, rfl, by omega, by omega, by simp [Hid, bodsG], ⟨0, rfl⟩⟩
  case round =>
    obtain ⟨j, k, rfl, rfl, hj, hkj, HKb, HW⟩ := hrel
    have hcell : ∀ a v, w14.cell? a = some v → wr.cell? a = some v := by obtain ⟨m, rfl⟩ := HW.out; exact fun a v h => h
    have HC := Lib.hid hcell
    have hrdk : ∀ v l, RdNd w14 v l → RdNd wr v l := by obtain ⟨m, rfl⟩ := HW.out; exact fun v l h => Rd.mono h (fun _ _ _ => rfl) (Nat.le_refl _)
    have HK := Lib.hid hrdk
    have HBw : Hid (Below w.heap.size w wr) := by obtain ⟨m, rfl⟩ := HW.out; exact below_drewN HB14.out m
    clear hcell hrdk
    by_cases hlt : j < P.length
    · obtain ⟨p, hp⟩ : ∃ p, P[j]? = some p := ⟨_, List.getElem?_eq_getElem hlt⟩
      obtain ⟨b1, o1, c1, e1, l1, k1, x0, x1, rp⟩ := RdP.at HP.out hp
      simp only [Value.slice.injEq] at e1
      obtain ⟨rfl, -, rfl⟩ := e1
      have X0 := (HBw.out.cell (p := ⟨b1, _, none⟩) l1).trans x0
      have X1 := (HBw.out.cell (p := ⟨b1, _, none⟩) l1).trans x1
      have HGj : Hid (G[j]? = some p.1) := by unfold Hid; rw [← HPm.out, List.getElem?_map, hp]; rfl
      have HT := Lib.hid (bodsG_take G t HGj.out)
      have HG := Lib.hid (fun ht => bodsG_get G t HGj.out ht)
      have hbp : p.1.b.length ≤ 140737488355328 := Nat.le_trans (body_le (List.mem_of_getElem? HGj.out)) (by omega)
      have HRp := Lib.hid (rp.below HBw.out)
      obtain ⟨_, ap, cp, hv1, -⟩ := id rp
      obtain ⟨⟨ph, pb⟩, pv⟩ := p
      simp only at hv1 X0 X1 HGj HT HG HRp hbp
      subst hv1
      clear x0 x1 hp rp
      by_cases hm : ph = t
      · subst hm
        have hd : (ph.toList != ph.toList) = false := by simp
        rw [if_pos rfl] at HT
        have hget := HG.out rfl
        rw [← HKb.out, ← HQ.out, List.getElem?_map] at hget
        obtain ⟨q, hq, hqb⟩ := Option.map_eq_some_iff.1 hget
        have hkq : k < Q.length := (List.getElem?_eq_some_iff.1 hq).1
        obtain ⟨b2, o2, c2, e2, l2, k2, hc2⟩ := Rd.at (Rd.of_owns HO14.out.row) hkq
        simp only [Value.slice.injEq] at e2
        obtain ⟨rfl, -, rfl⟩ := e2
        have Y0 := HC.out _ _ (hc2 k q.2 (by rw [List.getElem?_map, hq]; rfl))
        have HRq := Lib.hid (HK.out _ _ (RdNd.of_own (HO14.out.bods q (List.mem_of_getElem? hq))))
        rw [hqb] at HRq
        obtain ⟨_, aq, cq, hv2, -⟩ := id HRq.out
        obtain ⟨qb, qv⟩ := q
        simp only at hv2 hqb Y0 HRq
        subst hqb
        subst hv2
        have hkz : (k : Int) < (Q.length : Int) := by omega
        have HS := Lib.hid (fun x h1 h2 => rSameQ_any (.slice aq qb.length cq) (.slice ap qb.length cp) qb qb x h1 h2 hbp hbp)
        rw [decide_eq_true (rfl : qb = qb)] at HS
        have hk2 : k + 1 ≤ P.length := by omega
        clear hget hq hc2
        go_wp2_with fail
        go_quiet ((go_at_call 28; exact Calls.quiet_of (HS.out _ (Rd.mono HRq.out (fun _ _ _ => rfl) (Nat.le_refl _)) (Rd.mono HRp.out (fun _ _ _ => rfl) (Nat.le_refl _)))))
        go_wp2_with fail
        go_roundw
        case rel => exact ⟨j + 1, k + 1, by go_num, by go_num, by omega, by omega, by unfold Hid; rw [HT.out, List.length_append, ← HKb.out]; rfl, (by obtain ⟨m, hm⟩ := HW.out; exact ⟨m + nq, by rw [hm, World.drewN_drewN]⟩)⟩
        case measure => simp [intOf]; omega
      · have hd : (ph.toList == t.toList) = false := by rw [beq_eq_false_iff_ne]; exact fun h => hm ((toList_inj _ _).1 h)
        rw [if_neg hm] at HT
        clear hm
        go_wp2_with fail
        go_roundw
        case rel => exact ⟨j + 1, k, by go_num, rfl, by omega, by omega, by unfold Hid; rw [HT.out]; exact HKb.out, HW.out⟩
        case measure => simp [intOf]; omega
    · obtain rfl : j = P.length := by omega
      have hk : k = Q.length := by have h1 := HKb.out; rw [List.take_of_length_le (by have := HPL.out; omega)] at h1; have := HQL.out; omega
      have hkb : ((k : Int) == (Q.length : Int)) = true := by rw [hk]; simp
      clear hk
      go_wp2_with fail
      refine (HSx.out _ (HV.out.below HBw.out) (HU.out.below HBw.out)).mono ?_
      rintro e w15 ⟨rfl, hb⟩
      have HB15 := Lib.hid (HBw.out.trans (hb.mono HBw.out.size))
      clear hb
      go_wp2_with fail
      refine (HSr.out _ (HV.out.below HB15.out) (HU.out.below HB15.out)).mono ?_
      rintro e w16 ⟨rfl, m2, rfl⟩
      have HB16 := Lib.hid (below_drewN HB15.out m2)
      go_wp2_with fail
      refine (HCo.out _ (HV.out.below HB16.out)).mono ?_
      rintro e w17 ⟨v, P2, rfl, hP2, ho, hb⟩
      have HB17 := Lib.hid (HB16.out.trans (hb.mono HB16.out.size))
      have HR17 : Hid (RdRu w17 v G) := ⟨P2, hP2, ho.rd⟩
      obtain ⟨x17, y17, rfl⟩ := ownP_shape ho hP2
      rw [hPL] at HR17
      clear hb ho hP2
      go_wp2_with fail
      refine (HSc.out _ _ (HV.out.below HB17.out) HR17.out).mono ?_
      rintro e w18 ⟨rfl, hb⟩
      have HB18 := Lib.hid (HB17.out.trans (hb.mono HB17.out.size))
      clear hb
      go_wp2_with fail
      go_ret
      exact ⟨rfl, HB18.out⟩
end Go.Proofs.YtkmjmfcanlknjaaGreat
namespace Go.Proofs.YtkmjmfcanlknjaaGreat
open Go.ChangeShapes Go.WideShapes Go.RowKit Go.Deep

theorem spot_noneN {w : World} {b o : Nat} {sp : Option Nat} {v : Value} (h : w.cell? ⟨b, o, sp⟩ = some v) : sp = none := by
  cases sp with
  | none => rfl
  | some s => unfold World.cell? at h; split at h <;> simp at h
theorem bulk_append {H : Type} (l r : List (DataW H)) : Rows.uptoBulkAll (l ++ r) = Rows.uptoBulkAll l + Rows.uptoBulkAll r := by
  induction l with
  | nil => simp [Rows.uptoBulkAll]
  | cons x l ih => simp only [List.cons_append, Rows.uptoBulkAll, ih]; omega
theorem bulk_pos {H : Type} (x : DataW H) : 1 ≤ Rows.uptoBulk x := by
  unfold Rows.uptoBulk
  split <;> omega
theorem bulk_len {H : Type} (l : List (DataW H)) : l.length ≤ Rows.uptoBulkAll l := by
  induction l with
  | nil => simp [Rows.uptoBulkAll]
  | cons x l ih => have := bulk_pos x; simp only [List.length_cons, Rows.uptoBulkAll]; omega
theorem bulk_mem {H : Type} {x : DataW H} {l : List (DataW H)} (h : x ∈ l) : Rows.uptoBulk x ≤ Rows.uptoBulkAll l := by
  induction l with
  | nil => cases h
  | cons y l ih =>
    simp only [Rows.uptoBulkAll]
    rcases List.mem_cons.1 h with rfl | h
    · omega
    · have := ih h; omega
/-- a slice whose elements are read lies as its cells lie -/
theorem rd_cells {w : World} {a : Addr} {n size cap : Nat} {xs : List Value} (hs : 0 < size) (hx : xs.length = n * size) (hc : n ≤ cap) (hm : cap ≤ maxLen) (h : ∀ j u, xs[j]? = some u → w.cell? (a.add j) = some u) : Rd w (.slice (some a) n cap) n size xs := by
  refine ⟨hx, some a, cap, rfl, hc, hm, ?_⟩
  by_cases h0 : n = 0
  · exact .inl h0
  · right
    have hpos : 0 < xs.length := by rw [hx]; exact Nat.mul_pos (by omega) hs
    have hz := h 0 _ (List.getElem?_eq_getElem hpos)
    obtain ⟨b, o, sp⟩ := a
    have hadd : ((⟨b, o, sp⟩ : Addr).add 0) = ⟨b, o, sp⟩ := rfl
    rw [hadd] at hz
    obtain rfl := spot_noneN hz
    refine ⟨b, o, rfl, ?_, ?_⟩
    · unfold World.cell? at hz
      split at hz
      · rename_i hg
        exact (Array.getElem?_eq_some_iff.1 hg).1
      all_goals simp at hz
    · intro j u hj
      have := h j u hj
      rwa [show (⟨b, o, none⟩ : Addr).add j = ⟨b, o + j, none⟩ from by unfold Addr.add; split <;> simp_all] at this
set_option maxRecDepth 100000 in
/-- one node, read -/
theorem open_nodeB {H : Type} {enc : TypeId × Value → H} {w : World} {base : Nat} {spare : Nat → Bool} {held : Bool} {fuel : Nat} {cs : List Value} {x : DataW H × List MemPlace} (h : DataW.trod enc Tryz.prog w base spare held fuel 57 cs = some x) :
    ∃ m : Nd, cs = m.cells ∧ m.n.size ≤ Rows.uptoBulk x.1 := by
  obtain ⟨y0, y1, y2, n, rfl, hl, h0, h1, h2⟩ := trod_struct3 Tryz.underlying57 h
  obtain ⟨k, e0, rfl, _⟩ := DataW.trod_int (k := .i64) (by kernel_rfl) h0
  obtain ⟨t, e1, rfl, _⟩ := DataW.trod_string (by kernel_rfl) h1
  obtain ⟨p, e2, rfl, _⟩ := DataW.trod_int (k := .i64) (by kernel_rfl) h2
  have hl3 : cs.length = 3 := by rw [hl]; kernel_rfl
  obtain ⟨c0, c1, c2, rfl⟩ : ∃ c0 c1 c2, cs = [c0, c1, c2] := by
    match cs, hl3 with
    | [c0, c1, c2], _ => exact ⟨c0, c1, c2, rfl⟩
  refine ⟨⟨k, t, p⟩, ?_, ?_⟩
  · have k0 : Tryz.prog.cellsOf 55 = 1 := by kernel_rfl
    have k1 : Tryz.prog.cellsOf 3 = 1 := by kernel_rfl
    have k2 : Tryz.prog.cellsOf 9 = 1 := by kernel_rfl
    simp [k0] at e0
    simp [k2] at e1
    simp [k1] at e2
    rw [e0, e1, e2]; rfl
  · have := ba_len t
    simp only [Rows.uptoBulk, Rows.uptoBulkAll]; omega
set_option maxRecDepth 100000 in
/-- a list of nodes, read off its cell -/
theorem open_nodesB {H : Type} {enc : TypeId × Value → H} {w : World} {base : Nat} {spare : Nat → Bool} {held : Bool} {fuel : Nat} {cs : List Value} {x : DataW H × List MemPlace} (hf : DataW.trod enc Tryz.prog w base spare held fuel 45 cs = some x) :
    ∃ v l, cs = [v] ∧ RdNd w v l ∧ l.length + 1 ≤ Rows.uptoBulk x.1 ∧ ∀ m ∈ l, m.n.size ≤ Rows.uptoBulk x.1 := by
  have hC : Tryz.prog.cellsOf 57 = 3 := by kernel_rfl
  rcases open_slice Tryz.underlying45 hf with ⟨hcs, hx⟩ | ⟨a, len', cap', m, n, D, Pl, hcs, hb, hle, hmax, hm, hx, hi⟩
  · subst hcs; subst hx
    exact ⟨_, [], rfl, Rd.nil _ _, by simp [Rows.uptoBulk], fun m hm => by cases hm⟩
  · subst hcs; subst hx
    have hml : len' ≤ m := by rw [hm]; split <;> omega
    rw [hC] at hi
    have key : ∀ k, k ≤ len' → ∃ l : List Nd, l.length = k ∧ (∀ j u, (flatNd l)[j]? = some u → w.cell? (a.add j) = some u) ∧ ∀ x ∈ l, x.n.size ≤ Rows.uptoBulkAll ((List.range k).map D) := by
      intro k
      induction k with
      | zero => exact fun _ => ⟨[], rfl, by simp [flatNd], fun x hx => by cases hx⟩
      | succ k ih =>
        intro hk
        obtain ⟨l, h1, h2, h3⟩ := ih (by omega)
        obtain ⟨cs', hc, ht⟩ := hi k (by omega)
        obtain ⟨mk, rfl, hmk⟩ := open_nodeB ht
        obtain ⟨_, _, hcell⟩ := World.cells?_some hc
        refine ⟨l ++ [mk], by simp [h1], ?_, ?_⟩
        · intro j u hj
          have e : flatNd (l ++ [mk]) = flatNd l ++ mk.cells := by simp [flatNd]
          rw [e, List.getElem?_append] at hj
          have hfl := flatNd_len l
          split at hj
          · exact h2 j u hj
          · rename_i hge
            have hj3 : j - (flatNd l).length < 3 := by
              have := (List.getElem?_eq_some_iff.1 hj).1
              simpa [Nd.cells] using this
            have := hcell (j - (flatNd l).length) hj3
            rw [hj, Go.Deep.add_add] at this
            rw [← this]
            congr 2
            omega
        · intro y hy
          rw [List.range_succ, List.map_append, bulk_append]
          simp only [List.map_cons, List.map_nil, Rows.uptoBulkAll]
          simp only at hmk
          rcases List.mem_append.1 hy with hy | hy
          · have := h3 y hy; omega
          · rw [List.mem_singleton.1 hy]; omega
    obtain ⟨l, h1, h2, h3⟩ := key len' (Nat.le_refl _)
    refine ⟨_, l, rfl, ?_, ?_, fun y hy => ?_⟩
    · have := rd_cells (w := w) (a := a) (n := l.length) (size := 3) (cap := cap') (by omega) (flatNd_len l) (by omega) hmax h2
      rwa [show (Value.slice (some a) len' cap') = .slice (some a) l.length cap' from by rw [h1]]
    · simp only [Rows.uptoBulk]
      have := bulk_len ((List.range len').map D)
      simp at this
      omega
    · have := h3 y hy
      simp only [Rows.uptoBulk]; omega
set_option maxRecDepth 100000 in
/-- one rule, read -/
theorem open_rule {H : Type} {enc : TypeId × Value → H} {w : World} {base : Nat} {spare : Nat → Bool} {held : Bool} {fuel : Nat} {cs : List Value} {x : DataW H × List MemPlace} (h : DataW.trod enc Tryz.prog w base spare held fuel 47 cs = some x) :
    ∃ p : Ru × Value, cs = [.string p.1.h, p.2] ∧ RdNd w p.2 p.1.b ∧ p.1.h.size ≤ Rows.uptoBulk x.1 ∧ p.1.b.length ≤ Rows.uptoBulk x.1 ∧ ∀ m ∈ p.1.b, m.n.size ≤ Rows.uptoBulk x.1 := by
  obtain ⟨y0, y1, n, rfl, hl, h0, h1⟩ := trod_struct2 Tryz.underlying47 h
  obtain ⟨t, e1, rfl, _⟩ := DataW.trod_string (by kernel_rfl) h0
  obtain ⟨v, l, e2, hrd, hln, hnm⟩ := open_nodesB h1
  have hl2 : cs.length = 2 := by rw [hl]; kernel_rfl
  obtain ⟨c0, c1, rfl⟩ : ∃ c0 c1, cs = [c0, c1] := by
    match cs, hl2 with
    | [c0, c1], _ => exact ⟨c0, c1, rfl⟩
  have k1 : Tryz.prog.cellsOf 45 = 1 := by kernel_rfl
  have k2 : Tryz.prog.cellsOf 9 = 1 := by kernel_rfl
  simp [k2] at e1
  simp [k1] at e2
  refine ⟨(⟨t, l⟩, v), by rw [e1, e2], hrd, ?_, ?_, fun m hm => ?_⟩
  · have := ba_len t
    simp only [Rows.uptoBulk, Rows.uptoBulkAll]; omega
  · simp only [Rows.uptoBulk, Rows.uptoBulkAll]; omega
  · have := hnm m hm; simp only [Rows.uptoBulk, Rows.uptoBulkAll]; omega
set_option maxRecDepth 100000 in
/-- a grammar, read -/
theorem open_rules {H : Type} {enc : TypeId × Value → H} {w : World} {base : Nat} {spare : Nat → Bool} {held : Bool} {r : Reach} {b0 : Nat} {v : Value} {d : DataW H} {ps : List MemPlace}
    (hval : Value.okWide Tryz.prog w r b0 22 v) (h : DataW.Trod enc Tryz.prog w base spare held 22 v d ps) :
    ∃ G : List Ru, RdRu w v G ∧ Bulk G (Rows.uptoBulk d) := by
  obtain ⟨ao, len, cap, rfl⟩ := okWide_slice Tryz.underlying22 hval
  obtain ⟨fuel, hf⟩ := h
  have hC : Tryz.prog.cellsOf 47 = 2 := by kernel_rfl
  rcases open_slice Tryz.underlying22 hf with ⟨hcs, hx⟩ | ⟨a, len', cap', m, n, D, Pl, hcs, hb, hle, hmax, hm, hx, hi⟩
  · simp [Value.cells] at hcs
    obtain ⟨rfl, rfl, rfl⟩ := hcs
    exact ⟨[], ⟨[], rfl, Rd.nil _ _, (fun p hp => by cases hp)⟩, ⟨by simp, by simp [nodesG], (fun r hr => by cases hr), (fun r hr => by cases hr)⟩⟩
  · simp [Value.cells] at hcs
    obtain ⟨rfl, rfl, rfl⟩ := hcs
    simp only [Prod.mk.injEq] at hx
    obtain ⟨rfl, rfl⟩ := hx
    have hml : len ≤ m := by rw [hm]; split <;> omega
    rw [hC] at hi
    have key : ∀ k, k ≤ len → ∃ P : List (Ru × Value), P.length = k ∧ (∀ j u, (flatP P)[j]? = some u → w.cell? (a.add j) = some u) ∧ Bods w P ∧ Bulk (P.map (·.1)) (Rows.uptoBulkAll ((List.range k).map D)) := by
      intro k
      induction k with
      | zero => exact fun _ => ⟨[], rfl, by simp [flatP], (fun p hp => by cases hp), ⟨by simp, by simp [nodesG], (fun r hr => by cases hr), (fun r hr => by cases hr)⟩⟩
      | succ k ih =>
        intro hk
        obtain ⟨P, h1, h2, h3, h4⟩ := ih (by omega)
        obtain ⟨cs', hc, ht⟩ := hi k (by omega)
        obtain ⟨p, rfl, hp1, hp2, hp3, hp4⟩ := open_rule ht
        simp only at hp2 hp3 hp4
        obtain ⟨_, _, hcell⟩ := World.cells?_some hc
        have hsum : Rows.uptoBulkAll ((List.range (k + 1)).map D) = Rows.uptoBulkAll ((List.range k).map D) + Rows.uptoBulk (D k) := by
          rw [List.range_succ, List.map_append, bulk_append]
          simp only [List.map_cons, List.map_nil, Rows.uptoBulkAll]; omega
        have hpos := bulk_pos (D k)
        refine ⟨P ++ [p], by simp [h1], ?_, ?_, ?_⟩
        · intro j u hj
          rw [flatP_snoc, List.getElem?_append] at hj
          have hfl := flatP_len P
          split at hj
          · exact h2 j u hj
          · rename_i hge
            have hj3 : j - (flatP P).length < 2 := by
              have := (List.getElem?_eq_some_iff.1 hj).1
              simpa using this
            have := hcell (j - (flatP P).length) hj3
            rw [hj, Go.Deep.add_add] at this
            rw [← this]
            congr 2
            omega
        · intro q hq
          rcases List.mem_append.1 hq with hq | hq
          · exact h3 q hq
          · rw [List.mem_singleton.1 hq]; exact hp1
        · rw [hsum, List.map_append]
          have e : nodesG (P.map (·.1) ++ [p].map (·.1)) = nodesG (P.map (·.1)) + p.1.b.length := by simp [nodesG]
          refine ⟨?_, ?_, fun r hr => ?_, fun r hr x hx => ?_⟩
          · have := h4.len; simp at this ⊢; omega
          · rw [e]; have := h4.nodes; omega
          · rcases List.mem_append.1 hr with hr | hr
            · have := h4.head r hr; omega
            · simp at hr; subst hr; omega
          · rcases List.mem_append.1 hr with hr | hr
            · have := h4.name r hr x hx; omega
            · simp at hr; subst hr; have := hp4 x hx; omega
    obtain ⟨P, h1, h2, h3, h4⟩ := key len (Nat.le_refl _)
    have hle2 : Rows.uptoBulkAll ((List.range len).map D) ≤ Rows.uptoBulk (DataW.slice ((List.range len).map D) ((List.range (m - len)).map fun j => D (len + j))) := by
      simp only [Rows.uptoBulk]; omega
    refine ⟨P.map (·.1), ⟨P, rfl, ?_, h3⟩, ⟨Nat.le_trans h4.len hle2, Nat.le_trans h4.nodes hle2, fun r hr => Nat.le_trans (h4.head r hr) hle2, fun r hr x hx => Nat.le_trans (h4.name r hr x hx) hle2⟩⟩
    have := rd_cells (w := w) (a := a) (n := P.length) (size := 2) (cap := cap) (by omega) (flatP_len P) (by omega) hmax h2
    rwa [show (Value.slice (some a) len cap) = .slice (some a) P.length cap from by rw [h1]]
end Go.Proofs.YtkmjmfcanlknjaaGreat
