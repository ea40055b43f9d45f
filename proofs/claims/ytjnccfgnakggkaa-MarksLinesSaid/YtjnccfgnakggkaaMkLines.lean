import Derived.Test.YtjnccfgnakggkaaMkPlace
namespace Go.Proofs.Ytjnccfgnakggkaa
open Go.RowKit

set_option maxRecDepth 100000 in
set_option maxHeartbeats 1600000 in
theorem marksLines_any (s : ByteArray) (hs : s.size ≤ maxLen) (w : World) :
    Calls Try.prog 8 #[.string s] w fun e w' => e = .returned (.bool true) ∧ Below w.heap.size w w' := by
  unfold maxLen at hs
  have HP : Hid (∀ (n : Nat) w, n ≤ s.size → n ≤ 300 → Calls Try.prog 21 #[.string s, .int .i64 n] w fun e w' => e = .returned (.tuple #[.int .i64 (lc s n).1, .int .i64 (lc s n).2, .int .i64 0]) ∧ Below w.heap.size w w') := by
    intro n w h1 h2
    have := place_any s n w (.inl (by omega)) (by omega)
    rw [show placeM s n = (((lc s n).1 : Int), ((lc s n).2 : Int), 0) from by unfold placeM; rw [if_neg (by omega)]; rfl] at this
    exact this
  have HE : Hid (∀ w, Calls Try.prog 21 #[.string s, .int .i64 (wrap64 ((s.size : Int) + 1))] w fun e w' => ∃ a b, e = .returned (.tuple #[.int .i64 a, .int .i64 b, .int .i64 2]) ∧ Below w.heap.size w w') := by
    intro w
    have h : wrap64 ((s.size : Int) + 1) < 0 ∨ (s.size : Int) < wrap64 ((s.size : Int) + 1) := by unfold wrap64; omega
    have := place_any s (wrap64 ((s.size : Int) + 1)) w (by unfold wrap64 at *; omega) (by unfold wrap64 at *; omega)
    rw [show placeM s (wrap64 ((s.size : Int) + 1)) = (0, 0, 2) from by unfold placeM; rw [if_pos h]] at this
    exact this.mono fun e w' h => ⟨_, _, h⟩
  have HM : Hid (∀ w, Calls Try.prog 21 #[.string s, .int .i64 (-1)] w fun e w' => ∃ a b, e = .returned (.tuple #[.int .i64 a, .int .i64 b, .int .i64 2]) ∧ Below w.heap.size w w') := by
    intro w
    have := place_any s (-1) w (.inl (by omega)) (by omega)
    rw [show placeM s (-1) = (0, 0, 2) from by unfold placeM; rw [if_pos (by omega)]] at this
    exact this.mono fun e w' h => ⟨_, _, h⟩
  have HA : Hid (∀ w, Calls Try.prog 14 #[] w fun e w' => e = .returned (.bool true) ∧ Below w.heap.size w w') := awake_any
  have H0 : Hid (∀ w, Calls Try.prog 21 #[.string s, .int .i64 0] w fun e w' => e = .returned (.tuple #[.int .i64 0, .int .i64 0, .int .i64 0]) ∧ Below w.heap.size w w') := fun w => HP.out 0 w (by omega) (by omega)
  go_enter Try.func8, Try.ntmps8
  go_wp2_with (go_at_call 21; refine (H0.out _).mono ?_; rintro e w1 ⟨rfl, hb1⟩)
  go_loopw [3, 4, 6] (fun l c i wr => ∃ j : Nat, j ≤ s.size ∧ j ≤ 300 ∧ i = .int .i64 j ∧ l = .int .i64 (lc s j).1 ∧ c = .int .i64 (lc s j).2 ∧ Below w.heap.size w wr) (fun _ _ i _ => 300 - (intOf i).toNat)
  case atStart => exact ⟨0, by omega, by omega, rfl, rfl, rfl, hb1⟩
  case round =>
    obtain ⟨j, hj, hj3, rfl, rfl, rfl, hbel⟩ := hrel
    have hle := lc_le s j
    by_cases hgo : j < s.size ∧ j < 300
    · obtain ⟨hlt, hlt3⟩ := hgo
      have t1 : decide (j < s.size) = true := by simpa using hlt
      have t2 : decide (j < 300) = true := by simpa using hlt3
      have hb := bt_get s j (by omega)
      have HS := lc_succ s j
      by_cases h10 : bt s j = 10
      · rw [if_pos h10] at HS
        have HN : Hid (∀ w, Calls Try.prog 21 #[.string s, .int .i64 ((j : Int) + 1)] w fun e w' => e = .returned (.tuple #[.int .i64 (((lc s j).1 : Int) + 1), .int .i64 0, .int .i64 0]) ∧ Below w.heap.size w w') := by
          intro w
          have := HP.out (j + 1) w (by omega) (by omega)
          rw [HS] at this
          exact this
        have ht : (((s[j].toNat : Nat) : Int) == 10) = true := by rw [hb, h10]; rfl
        have ht2 : (((s[j].toNat : Nat) : Int) != 10) = false := by rw [hb, h10]; rfl
        have HS' := Lib.hid HS
        clear hb h10 HS
        go_wp2_with (go_at_call 21; refine (HN.out _).mono ?_; rintro e w2 ⟨rfl, hb2⟩)
        exact ⟨⟨j + 1, by omega, by omega, by go_num, by rw [HS'.out]; simp, by rw [HS'.out]; rfl, below_then hbel hb2⟩, by simp [intOf]; omega⟩
      · rw [if_neg h10] at HS
        have HN : Hid (∀ w, Calls Try.prog 21 #[.string s, .int .i64 ((j : Int) + 1)] w fun e w' => e = .returned (.tuple #[.int .i64 ((lc s j).1 : Int), .int .i64 (((lc s j).2 : Int) + 1), .int .i64 0]) ∧ Below w.heap.size w w') := by
          intro w
          have := HP.out (j + 1) w (by omega) (by omega)
          rw [HS] at this
          exact this
        have ht : (((s[j].toNat : Nat) : Int) == 10) = false := by rw [hb]; simpa using h10
        have ht2 : (((s[j].toNat : Nat) : Int) != 10) = true := by rw [hb]; simpa using h10
        have HS' := Lib.hid HS
        clear hb h10 HS
        go_wp2_with (go_at_call 21; refine (HN.out _).mono ?_; rintro e w2 ⟨rfl, hb2⟩)
        exact ⟨⟨j + 1, by omega, by omega, by go_num, by rw [HS'.out], by rw [HS'.out]; simp, below_then hbel hb2⟩, by simp [intOf]; omega⟩
    · by_cases hlt : j < s.size
      · have t1 : decide (j < s.size) = true := by simpa using hlt
        have t2 : decide ((j : Int) < 300) = false := by simp; omega
        clear hgo
        go_wp2_with fail
        refine (HE.out _).mono ?_
        rintro e w2 ⟨a, b, rfl, hb2⟩
        go_wp2_with fail
        refine (HM.out _).mono ?_
        rintro e w3 ⟨a3, b3, rfl, hb3⟩
        go_wp2_with (go_at_call 14; refine (HA.out _).mono ?_; rintro e w4 ⟨rfl, hb4⟩)
        go_ret
        exact ⟨rfl, below_then (below_then (below_then hbel hb2) hb3) hb4⟩
      · have t1 : decide (j < s.size) = false := by simpa using hlt
        have hw : wrap64 ((s.size : Int) + 1) = (s.size : Int) + 1 := IntWalk.wrap64_in _ (by omega)
        rw [hw] at HE
        clear hgo
        go_wp2_with fail
        refine (HE.out _).mono ?_
        rintro e w2 ⟨a, b, rfl, hb2⟩
        go_wp2_with fail
        refine (HM.out _).mono ?_
        rintro e w3 ⟨a3, b3, rfl, hb3⟩
        go_wp2_with (go_at_call 14; refine (HA.out _).mono ?_; rintro e w4 ⟨rfl, hb4⟩)
        go_ret
        exact ⟨rfl, below_then (below_then (below_then hbel hb2) hb3) hb4⟩
end Go.Proofs.Ytjnccfgnakggkaa
