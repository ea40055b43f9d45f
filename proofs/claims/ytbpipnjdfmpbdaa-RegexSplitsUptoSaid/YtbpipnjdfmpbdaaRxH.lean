import Derived.Test.YtbpipnjdfmpbdaaRxG
import Derived.Defers
import Derived.Recover
namespace Go.Proofs.Ytbpipnjdfmpbdaa
open Go.RowKit Go.Shelf

set_option maxRecDepth 100000 in
set_option maxHeartbeats 800000 in
theorem xCatch_idle (a b c : Addr) (w : World) :
    CallsD Try.prog 45 #[.pointer (some a), .pointer (some b), .pointer (some c)] .returning w fun e u' w' => e = .returned (.tuple #[]) ∧ u' = .returning ∧ w' = w := by
  refine callsD_of_wpS Try.func45 rfl fun c₀ cs hu => ?_
  apply wpS_seq
  apply wpS_region
  simp [wpOpsS, go_sem, recoverD, hu, Try.ntmps45, Exit.thenS]
  refine wpS_of_wp ?_
  simp only [Array.replicate_succ, Array.replicate_zero, List.push_toArray, List.append_toArray, List.nil_append, List.cons_append, List.setIfInBounds_toArray, List.set_cons_succ, List.set_cons_zero]
  go_wp2
  cases c₀
  simp_all [bodyPostS, results, Try.results45]

set_option maxRecDepth 100000 in
set_option maxHeartbeats 800000 in
theorem xCatch_panic (b2 b3 b4 : Nat) (x : Int) (older : List PanicEntry) (w : World) (v2 v3 v4 : Value) (h2 : Boxed w b2 22 v2) (h3 : Boxed w b3 3 v3) (h4 : Boxed w b4 23 v4) (n23 : b2 ≠ b3) (n24 : b2 ≠ b4) (n34 : b3 ≠ b4) :
    CallsD Try.prog 45 #[.pointer (some ⟨b2, 0, none⟩), .pointer (some ⟨b3, 0, none⟩), .pointer (some ⟨b4, 0, none⟩)] (.panicking ({ v := .iface 69 (.agg #[.int .i64 x]), recovered := false } :: older)) w fun e u' w' =>
      e = .returned (.tuple #[]) ∧ u' = .panicking ({ v := .iface 69 (.agg #[.int .i64 x]), recovered := true } :: older) ∧
        (Boxed w' b2 22 (.slice none 0 0) ∧ Boxed w' b3 3 (.int .i64 x) ∧ Boxed w' b4 23 (.int .i64 172) ∧ ∀ B w0, Below B w0 w → B ≤ b2 → B ≤ b3 → B ≤ b4 → B ≤ w.heap.size → Below B w0 w') := by
  have hta : ∀ w, (Instr.typeAssert (.iface 69 (.agg #[.int .i64 x])) 20 69 true).run Try.prog w = .ok (.tuple #[.agg #[.int .i64 x], .bool true]) w := fun _ => by kernel_rfl
  have c2 := h2.cell
  have c3 := h3.cell
  have c4 := h4.cell
  have f2 := h2.frozen
  have f3 := h3.frozen
  have f4 := h4.frozen
  have l2 := h2.lt
  have l3 := h3.lt
  have l4 := h4.lt
  refine callsD_of_wpS Try.func45 rfl fun c₀ cs hu => ?_
  apply wpS_seq
  apply wpS_region
  simp [wpOpsS, go_sem, recoverD, hu, Try.ntmps45, Exit.thenS]
  refine wpS_of_wp ?_
  simp only [Array.replicate_succ, Array.replicate_zero, List.push_toArray, List.append_toArray, List.nil_append, List.cons_append, List.setIfInBounds_toArray, List.set_cons_succ, List.set_cons_zero]
  go_wp2
  go_region
  refine ⟨rfl, _, rfl, _, by simp [results, Try.results45], rfl, rfl, ?_⟩
  have k2 : Boxed (((w.setCell ⟨b2, 0, none⟩ (.slice none 0 0)).setCell ⟨b3, 0, none⟩ (.int .i64 x)).setCell ⟨b4, 0, none⟩ (.int .i64 172)) b2 22 (.slice none 0 0) := ((h2.set _).other n23 _).other n24 _
  have k3 : Boxed (((w.setCell ⟨b2, 0, none⟩ (.slice none 0 0)).setCell ⟨b3, 0, none⟩ (.int .i64 x)).setCell ⟨b4, 0, none⟩ (.int .i64 172)) b3 3 (.int .i64 x) := ((h3.other (Ne.symm n23) _).set _).other n34 _
  have k4 : Boxed (((w.setCell ⟨b2, 0, none⟩ (.slice none 0 0)).setCell ⟨b3, 0, none⟩ (.int .i64 x)).setCell ⟨b4, 0, none⟩ (.int .i64 172)) b4 23 (.int .i64 172) := ((h4.other (Ne.symm n24) _).other (Ne.symm n34) _).set _
  refine ⟨(k2.alloc _).kept (grown_drewN _ 1 none) (by simp), (k3.alloc _).kept (grown_drewN _ 1 none) (by simp), (k4.alloc _).kept (grown_drewN _ 1 none) (by simp), ?_⟩
  intro B w0 hb e2 e3 e4 e5
  exact ((((hb.setCell (p := ⟨b2, 0, none⟩) e2 _).setCell (p := ⟨b3, 0, none⟩) e3 _).setCell (p := ⟨b4, 0, none⟩) e4 _).alloc (by simpa [World.setCell] using e5) _).drew
end Go.Proofs.Ytbpipnjdfmpbdaa
