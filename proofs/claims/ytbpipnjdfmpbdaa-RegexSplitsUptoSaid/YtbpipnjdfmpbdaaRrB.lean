import Derived.Test.YtbpipnjdfmpbdaaRrA
import Derived.StillTailTactics
namespace Go.Proofs.Ytbpipnjdfmpbdaa
open Go.RowKit

def nextS (o : Int) (w : Bool) (k : Int) : Int × Bool × Bool :=
  if beginsI k = true then (if k = 10 then (o + 1, true, true) else (o, false, true))
  else if w = true then (o, w, false)
  else if k = 6 then (o, true, true)
  else if k = 11 then (o - 1, false, decide (0 < o))
  else (o, w, k == 7 || k == 8 || k == 9)

set_option maxHeartbeats 400000 in
theorem rBegins_any (k : Int) (w : World) (h1 : 1 ≤ k) (h2 : k ≤ 12) :
    Calls Try.prog 102 #[.int .u8 (tkB k)] w fun e w' => e = .returned (.bool (beginsI k)) ∧ w = w' := by
  obtain rfl | rfl | rfl | rfl | rfl | rfl | rfl | rfl | rfl | rfl | rfl | rfl : k = 1 ∨ k = 2 ∨ k = 3 ∨ k = 4 ∨ k = 5 ∨ k = 6 ∨ k = 7 ∨ k = 8 ∨ k = 9 ∨ k = 10 ∨ k = 11 ∨ k = 12 := by omega
  all_goals
    simp only [tkB]
    go_enter Try.func102, Try.ntmps102
    go_wp2
    go_ret
    exact ⟨rfl, rfl⟩

set_option maxHeartbeats 4000000 in
theorem rNext_any (o : Int) (b : Bool) (k : Int) (w : World) (h1 : 1 ≤ k) (h2 : k ≤ 12) (ho : 0 ≤ o) (ho2 : o ≤ 4294967296) :
    Calls Try.prog 78 #[.agg #[.int .i64 o, .bool b], .int .u8 (tkB k)] w fun e w' => e = .returned (.tuple #[.agg #[.int .i64 (nextS o b k).1, .bool (nextS o b k).2.1], .bool (nextS o b k).2.2]) ∧ Below w.heap.size w w' := by
  have HB := Lib.hid (fun w => rBegins_any k w h1 h2)
  by_cases hk : k = 11 ∧ b = false
  · obtain ⟨rfl, rfl⟩ := hk
    have hN : nextS o false 11 = (o - 1, false, decide (0 < o)) := rfl
    rw [hN]
    clear hN h1 h2
    simp only [tkB, beginsI] at *
    go_enter Try.func78, Try.ntmps78
    go_wp2_with (go_at_call 102; refine (HB.out _).mono ?_; rintro e w' ⟨rfl, rfl⟩)
    go_region
    go_wp2
    refine bodyPost_ret (v := .tuple #[.agg #[.int .i64 (o - 1), .bool false], .bool (decide (0 < o))]) (by simp [results, Try.results78, go_sem]) rfl ⟨rfl, (below2 _ _ _).drew⟩
  · obtain rfl | rfl | rfl | rfl | rfl | rfl | rfl | rfl | rfl | rfl | rfl | rfl : k = 1 ∨ k = 2 ∨ k = 3 ∨ k = 4 ∨ k = 5 ∨ k = 6 ∨ k = 7 ∨ k = 8 ∨ k = 9 ∨ k = 10 ∨ k = 11 ∨ k = 12 := by omega
    all_goals cases b
    all_goals try (exfalso; exact hk ⟨rfl, rfl⟩)
    all_goals
      clear h1 h2 hk
      simp only [tkB, beginsI] at *
      go_enter Try.func78, Try.ntmps78
      go_wp2_with (go_at_call 102; refine (HB.out _).mono ?_; rintro e w' ⟨rfl, rfl⟩)
      refine bodyPost_ret (v := .tuple #[.agg #[.int .i64 (nextS o _ _).1, .bool (nextS o _ _).2.1], .bool (nextS o _ _).2.2]) (by simp [results, Try.results78, go_sem, nextS, beginsI]) rfl ⟨rfl, below2 _ _ _⟩
end Go.Proofs.Ytbpipnjdfmpbdaa
