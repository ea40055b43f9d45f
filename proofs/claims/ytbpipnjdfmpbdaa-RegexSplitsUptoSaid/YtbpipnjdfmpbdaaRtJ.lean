import Derived.Test.YtbpipnjdfmpbdaaRtI
namespace Go.Proofs.Ytbpipnjdfmpbdaa
open Go.RowKit Go.Shelf

def headTree : List Nd := [⟨4, ⟨#[]⟩, 2⟩, ⟨3, ⟨#[97]⟩, 0⟩, ⟨6, ⟨#[]⟩, 1⟩, ⟨3, ⟨#[98]⟩, 0⟩]
set_option maxRecDepth 100000 in
theorem head_one : parseS ⟨#[97, 32, 98, 42]⟩ = (headTree, 0, 0) := by decide +kernel
set_option maxRecDepth 100000 in
theorem head_two : parseS ⟨#[97, 32, 36]⟩ = ([], 2, 172) := by decide +kernel
end Go.Proofs.Ytbpipnjdfmpbdaa
namespace Go.Proofs.Ytbpipnjdfmpbdaa
open Go.RowKit Go.Shelf

theorem headTree_rd (w : World) (t : TypeId) (x : Nat × Nat) : RdNd (w.alloc (.cells #[.int .i64 4, .string ⟨#[]⟩, .int .i64 2, .int .i64 3, .string ⟨#[97]⟩, .int .i64 0, .int .i64 6, .string ⟨#[]⟩, .int .i64 1, .int .i64 3, .string ⟨#[98]⟩, .int .i64 0] t x)) (.slice (some ⟨w.heap.size, 0, none⟩) 4 4) headTree := by
  have hb := World.alloc_heap_new w (.cells #[.int .i64 4, .string ⟨#[]⟩, .int .i64 2, .int .i64 3, .string ⟨#[97]⟩, .int .i64 0, .int .i64 6, .string ⟨#[]⟩, .int .i64 1, .int .i64 3, .string ⟨#[98]⟩, .int .i64 0] t x)
  refine ⟨rfl, some ⟨w.heap.size, 0, none⟩, 4, rfl, by decide, by decide, .inr ⟨w.heap.size, 0, rfl, (Array.getElem?_eq_some_iff.1 hb).1, fun j u hj => ?_⟩⟩
  have hlt : j < 12 := (List.getElem?_eq_some_iff.1 hj).1
  unfold World.cell?
  simp only [hb]
  rw [← hj]
  have : j = 0 ∨ j = 1 ∨ j = 2 ∨ j = 3 ∨ j = 4 ∨ j = 5 ∨ j = 6 ∨ j = 7 ∨ j = 8 ∨ j = 9 ∨ j = 10 ∨ j = 11 := by omega
  rcases this with rfl | rfl | rfl | rfl | rfl | rfl | rfl | rfl | rfl | rfl | rfl | rfl <;> rfl
set_option maxRecDepth 100000 in
set_option maxHeartbeats 1600000 in
theorem head_any (w : World) : Calls Try.prog 19 #[] w fun e w' => e = .returned (.bool true) ∧ Below w.heap.size w w' := by
  have H1 := Lib.hid (xParse_any ⟨#[97, 32, 98, 42]⟩ w)
  have H2 := Lib.hid (fun w => xParse_any ⟨#[97, 32, 36]⟩ w)
  rw [head_one] at H1
  rw [head_two] at H2
  go_enter Try.func19, Try.ntmps19
  go_wp2_with fail
  refine (H1.out).mono ?_
  rintro e w1 ⟨v, rfl, ho, hb⟩
  have HO := Lib.hid ho
  have HB := Lib.hid hb
  obtain ⟨_, ao, cp, rfl, -⟩ := Rd.of_owns ho
  clear ho hb
  go_wp2_with fail
  have HW := Lib.hid (below1 w1 (.cells #[.int .i64 4, .string ⟨#[]⟩, .int .i64 2, .int .i64 3, .string ⟨#[97]⟩, .int .i64 0, .int .i64 6, .string ⟨#[]⟩, .int .i64 1, .int .i64 3, .string ⟨#[98]⟩, .int .i64 0] 39))
  refine (rSame_any _ _ headTree headTree _ (RdNd.below (RdNd.of_own HO.out) HW.out) (headTree_rd w1 _ _) (by decide) (by decide)).mono ?_
  rintro e w2 ⟨rfl, hb2⟩
  have HB2 := Lib.hid ((HB.out.trans (HW.out.mono HB.out.size)).trans (hb2.mono (HB.out.trans (HW.out.mono HB.out.size)).size))
  clear hb2 HO HW
  rw [decide_eq_true (show headTree = headTree from rfl)]
  generalize headTree.length = hl at *
  go_wp2_with fail
  refine (H2.out _).mono ?_
  rintro e w3 ⟨v3, rfl, ho3, hb3⟩
  have HB3 := Lib.hid (HB2.out.trans (hb3.mono HB2.out.size))
  obtain ⟨_, ao3, cp3, rfl, -⟩ := Rd.of_owns ho3
  clear ho3 hb3
  go_wp2_with fail
  go_ret
  exact ⟨rfl, HB3.out⟩
end Go.Proofs.Ytbpipnjdfmpbdaa
