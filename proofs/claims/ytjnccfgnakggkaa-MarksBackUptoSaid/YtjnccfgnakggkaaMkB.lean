import Derived.Test.YtjnccfgnakggkaaMkA
namespace Go.Proofs.Ytjnccfgnakggkaa
open Go.RowKit

set_option maxHeartbeats 400000 in
theorem rBlank_any (c : Int) (w : World) :
    Calls Try.prog 24 #[.int .u8 c] w fun e w' => e = .returned (.bool (blankI c)) ∧ w = w' := by
  go_enter Try.func24, Try.ntmps24
  go_wp2
  all_goals go_ret
  all_goals refine ⟨?_, rfl⟩
  all_goals simp [blankI, *]

set_option maxHeartbeats 400000 in
theorem rInner_any (c : Int) (w : World) :
    Calls Try.prog 26 #[.int .u8 c] w fun e w' => e = .returned (.bool (innerI c)) ∧ w = w' := by
  go_enter Try.func26, Try.ntmps26
  go_wp2
  all_goals go_ret
  all_goals refine ⟨congrArg (fun b => Ending.returned (.bool b)) ?_, rfl⟩
  all_goals (rw [Bool.eq_iff_iff]; simp [innerI]; omega)

def signsL : List Int := [61, 59, 124, 42, 43, 63, 40, 41, 37]
theorem sig_step {c x : Int} {j : Nat} (hx : signsL[j]? = some x) (H : Hid (∀ q : Nat, q < j → signsL[q]? ≠ some c)) (hne : (x == c) = false) : Hid (∀ q : Nat, q < j + 1 → signsL[q]? ≠ some c) := by
  intro q hq
  by_cases h : q = j
  · subst h; rw [hx]; intro e; injection e with e; simp [e] at hne
  · exact H.out q (by omega)
theorem sig_none {c : Int} (H : Hid (∀ q : Nat, q < 9 → signsL[q]? ≠ some c)) : ¬ c = 61 ∧ ¬ c = 59 ∧ ¬ c = 124 ∧ ¬ c = 42 ∧ ¬ c = 43 ∧ ¬ c = 63 ∧ ¬ c = 40 ∧ ¬ c = 41 ∧ ¬ c = 37 := by
  refine ⟨?_, ?_, ?_, ?_, ?_, ?_, ?_, ?_, ?_⟩ <;> rintro rfl
  · exact H.out 0 (by omega) rfl
  · exact H.out 1 (by omega) rfl
  · exact H.out 2 (by omega) rfl
  · exact H.out 3 (by omega) rfl
  · exact H.out 4 (by omega) rfl
  · exact H.out 5 (by omega) rfl
  · exact H.out 6 (by omega) rfl
  · exact H.out 7 (by omega) rfl
  · exact H.out 8 (by omega) rfl
theorem eq_of_beq_int {x c : Int} (h : (x == c) = true) : c = x := (by simpa using h : x = c).symm

set_option maxHeartbeats 1600000 in
theorem rBegins_any (c : Int) (w : World) :
    Calls Try.prog 25 #[.int .u8 c] w fun e w' => e = .returned (.int .i64 (kindI c)) ∧ w = w' := by
  go_enter Try.func25, Try.ntmps25
  go_wp2
  go_loop [4] (fun i => ∃ j : Nat, j ≤ 9 ∧ i = .int .i64 j ∧ Hid (∀ q : Nat, q < j → signsL[q]? ≠ some c)) (fun i => 9 - (intOf i).toNat)
  case atStart => exact ⟨0, by omega, rfl, fun q hq => by omega⟩
  case round =>
    obtain ⟨j, hj, rfl, HN⟩ := hrel
    by_cases h9 : j = 9
    · subst h9
      obtain ⟨n0, n1, n2, n3, n4, n5, n6, n7, n8⟩ := sig_none HN
      clear HN
      go_wp2_with (go_at_call 26; refine (rInner_any _ _).mono ?_; rintro e w' ⟨rfl, rfl⟩)
      all_goals go_ret
      all_goals refine ⟨congrArg (fun b => Ending.returned (.int .i64 b)) ?_, rfl⟩
      all_goals simp [kindI, *]
      all_goals omega
    · obtain rfl | rfl | rfl | rfl | rfl | rfl | rfl | rfl | rfl : j = 0 ∨ j = 1 ∨ j = 2 ∨ j = 3 ∨ j = 4 ∨ j = 5 ∨ j = 6 ∨ j = 7 ∨ j = 8 := by omega
      · go_wp2
        · have h : ((61 : Int) == c) = true := by assumption
          obtain rfl := eq_of_beq_int h
          go_ret
          exact ⟨rfl, rfl⟩
        · have h : ((61 : Int) == c) = false := by assumption
          exact ⟨⟨1, by omega, rfl, sig_step (j := 0) rfl HN h⟩, by simp [intOf]⟩
      · go_wp2
        · have h : ((59 : Int) == c) = true := by assumption
          obtain rfl := eq_of_beq_int h
          go_ret
          exact ⟨rfl, rfl⟩
        · have h : ((59 : Int) == c) = false := by assumption
          exact ⟨⟨2, by omega, rfl, sig_step (j := 1) rfl HN h⟩, by simp [intOf]⟩
      · go_wp2
        · have h : ((124 : Int) == c) = true := by assumption
          obtain rfl := eq_of_beq_int h
          go_ret
          exact ⟨rfl, rfl⟩
        · have h : ((124 : Int) == c) = false := by assumption
          exact ⟨⟨3, by omega, rfl, sig_step (j := 2) rfl HN h⟩, by simp [intOf]⟩
      · go_wp2
        · have h : ((42 : Int) == c) = true := by assumption
          obtain rfl := eq_of_beq_int h
          go_ret
          exact ⟨rfl, rfl⟩
        · have h : ((42 : Int) == c) = false := by assumption
          exact ⟨⟨4, by omega, rfl, sig_step (j := 3) rfl HN h⟩, by simp [intOf]⟩
      · go_wp2
        · have h : ((43 : Int) == c) = true := by assumption
          obtain rfl := eq_of_beq_int h
          go_ret
          exact ⟨rfl, rfl⟩
        · have h : ((43 : Int) == c) = false := by assumption
          exact ⟨⟨5, by omega, rfl, sig_step (j := 4) rfl HN h⟩, by simp [intOf]⟩
      · go_wp2
        · have h : ((63 : Int) == c) = true := by assumption
          obtain rfl := eq_of_beq_int h
          go_ret
          exact ⟨rfl, rfl⟩
        · have h : ((63 : Int) == c) = false := by assumption
          exact ⟨⟨6, by omega, rfl, sig_step (j := 5) rfl HN h⟩, by simp [intOf]⟩
      · go_wp2
        · have h : ((40 : Int) == c) = true := by assumption
          obtain rfl := eq_of_beq_int h
          go_ret
          exact ⟨rfl, rfl⟩
        · have h : ((40 : Int) == c) = false := by assumption
          exact ⟨⟨7, by omega, rfl, sig_step (j := 6) rfl HN h⟩, by simp [intOf]⟩
      · go_wp2
        · have h : ((41 : Int) == c) = true := by assumption
          obtain rfl := eq_of_beq_int h
          go_ret
          exact ⟨rfl, rfl⟩
        · have h : ((41 : Int) == c) = false := by assumption
          exact ⟨⟨8, by omega, rfl, sig_step (j := 7) rfl HN h⟩, by simp [intOf]⟩
      · go_wp2
        · have h : ((37 : Int) == c) = true := by assumption
          obtain rfl := eq_of_beq_int h
          go_ret
          exact ⟨rfl, rfl⟩
        · have h : ((37 : Int) == c) = false := by assumption
          exact ⟨⟨9, by omega, rfl, sig_step (j := 8) rfl HN h⟩, by simp [intOf]⟩
end Go.Proofs.Ytjnccfgnakggkaa
