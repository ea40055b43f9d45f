import Derived.Test.YtjnccfgnakggkaaMkH
import Derived.Test.YtjnccfgnakggkaaMkPlP
import Derived.Test.YtjnccfgnakggkaaMkShP
import Derived.DataShut
namespace Go.Proofs.Ytjnccfgnakggkaa
open Go.RowKit

set_option maxHeartbeats 800000 in
theorem rPlace_any (s : ByteArray) (a : Int) (w : World) (hs : s.size ≤ maxLen) :
    Calls Try.prog 22 #[.string s, .int .i64 a] w fun e w' => e = .returned (.tuple #[.int .i64 (placeM s a).1, .int .i64 (placeM s a).2.1, .int .i64 (placeM s a).2.2]) ∧ w' = w := by
  unfold maxLen at hs
  by_cases h1 : a < 0 ∨ (s.size : Int) < a
  · have HE : Hid (placeM s a = (0, 0, 2)) := by unfold Hid placeM; rw [if_pos h1]
    go_enter Try.func22, Try.ntmps22
    go_wp2
    all_goals try (exfalso; omega)
    all_goals go_ret3
    all_goals exact ⟨by rw [HE.out]; rfl, rfl⟩
  · have HE : Hid (placeM s a = (((lc s a.toNat).1 : Int), ((lc s a.toNat).2 : Int), 0)) := by unfold Hid placeM; rw [if_neg h1]
    obtain ⟨n, rfl⟩ : ∃ n : Nat, a = n := ⟨a.toNat, by omega⟩
    have hn : n ≤ s.size := by omega
    clear h1
    have e1 : decide ((n : Int) < 0) = false := by simp
    have e2 : decide (s.size < n) = false := by simpa using hn
    go_enter Try.func22, Try.ntmps22
    go_wp2
    all_goals try (exfalso; omega)
    go_loopw [7, 8, 9] (fun l c i wr => wr = w ∧ ∃ j : Nat, j ≤ n ∧ i = .int .i64 j ∧ l = .int .i64 (lc s j).1 ∧ c = .int .i64 (lc s j).2) (fun _ _ i _ => n - (intOf i).toNat)
    case atStart => exact ⟨rfl, 0, by omega, rfl, rfl, rfl⟩
    case round =>
      obtain ⟨rfl, j, hj, rfl, rfl, rfl⟩ := hrel
      have hle := lc_le s j
      by_cases hlt : j < n
      · have hb := bt_get s j (by omega)
        by_cases h10 : bt s j = 10
        · have HS : Hid (lc s (j + 1) = ((lc s j).1 + 1, 0)) := by unfold Hid; rw [lc_succ, if_pos h10]
          have ht : (((s[j].toNat : Nat) : Int) == 10) = true := by rw [hb, h10]; rfl
          clear hb h10
          go_wp2
          go_roundw
          case rel => exact ⟨trivial, j + 1, by omega, by go_num, by rw [HS.out]; simp, by rw [HS.out]; simp⟩
          case measure => simp [intOf]; omega
        · have HS : Hid (lc s (j + 1) = ((lc s j).1, (lc s j).2 + 1)) := by unfold Hid; rw [lc_succ, if_neg h10]
          have ht : (((s[j].toNat : Nat) : Int) == 10) = false := by rw [hb]; simpa using h10
          clear hb h10
          go_wp2
          go_roundw
          case rel => exact ⟨trivial, j + 1, by omega, by go_num, by rw [HS.out], by rw [HS.out]; simp⟩
          case measure => simp [intOf]; omega
      · have hjn : j = n := by omega
        subst hjn
        go_wp2
        all_goals go_ret3
        all_goals exact ⟨by rw [HE.out]; rfl, rfl⟩

set_option maxHeartbeats 800000 in
theorem place_any (s : ByteArray) (a : Int) (w : World) (ha : (a : Int) < 4611686018427387904 ∨ (s.size : Int) < a) (ha2 : -9223372036854775808 ≤ a) :
    Calls Try.prog 21 #[.string s, .int .i64 a] w fun e w' => e = .returned (.tuple #[.int .i64 (placeM s a).1, .int .i64 (placeM s a).2.1, .int .i64 (placeM s a).2.2]) ∧ Below w.heap.size w w' := by
  by_cases h1 : a < 0 ∨ (s.size : Int) < a
  · have HE : Hid (placeM s a = (0, 0, 2)) := by unfold Hid placeM; rw [if_pos h1]
    go_enter Try.func21, Try.ntmps21
    go_wp2
    all_goals try (exfalso; omega)
    all_goals go_ret3
    all_goals exact ⟨by rw [HE.out]; rfl, Below.refl _ _⟩
  · have HE : Hid (placeM s a = (((lc s a.toNat).1 : Int), ((lc s a.toNat).2 : Int), 0)) := by unfold Hid placeM; rw [if_neg h1]
    obtain ⟨n, rfl⟩ : ∃ n : Nat, a = n := ⟨a.toNat, by omega⟩
    have hn : n ≤ s.size := by omega
    have hn2 : n < 4611686018427387904 := by omega
    clear h1 ha
    have e1 : decide ((n : Int) < 0) = false := by simp
    have e2 : decide (s.size < n) = false := by simpa using hn
    go_enter Try.func21, Try.ntmps21
    go_wp2
    have hsz : (s.extract 0 n).size = n := by rw [ByteArray.size_extract]; omega
    have HC : Hid (∀ w, Calls Try.prog 29 #[.string (s.extract 0 n), .string ⟨#[10]⟩] w fun e w' => e = .returned (.int .i64 (lc s n).1) ∧ w' = w) := by
      intro w
      have := Try.strings_Count_one (s.extract 0 n) 10 w
      rw [place_line s n hn] at this
      exact this
    have HL : Hid (∀ w, Calls Try.prog 30 #[.string (s.extract 0 n), .int .u8 10] w fun e w' => e = .returned (.int .i64 (Lib.lastIndexByte (s.extract 0 n) 10)) ∧ w' = w) := by
      intro w
      exact Try.strings_LastIndexByte (s.extract 0 n) 10 (by omega) w
    go_quiet (first | (go_at_call 29; exact Calls.quiet_of_same (HC.out _)) | (go_at_call 30; exact Calls.quiet_of_same (HL.out _)))
    have hcol := place_col s n hn
    have hle := lc_le s n
    rw [IntWalk.wrap64_in ((n : Int) - Lib.lastIndexByte (s.extract 0 n) 10) (by omega), IntWalk.wrap64_in _ (by omega), hcol]
    go_wp2
    go_ret3
    exact ⟨by rw [HE.out]; rfl, below_drewN (Below.refl _ _) _⟩

set_option maxHeartbeats 800000 in
theorem marksPlace_any (s : ByteArray) (a : Int) (hs : s.size ≤ 16777216) (hw : (Lit.int .i64 a).wf = true) (w : World) :
    Calls Try.prog 7 #[.string s, .int .i64 a] w fun e w' => e = .returned (.bool true) ∧ Below w.heap.size w w' := by
  have ha : -9223372036854775808 ≤ a := ((Lit.wf_int_iff .i64 a).1 hw).1
  clear hw
  have HP : Hid (∀ w, Calls Try.prog 21 #[.string s, .int .i64 a] w fun e w' => e = .returned (.tuple #[.int .i64 (placeM s a).1, .int .i64 (placeM s a).2.1, .int .i64 (placeM s a).2.2]) ∧ Below w.heap.size w w') := fun w => place_any s a w (by omega) ha
  have HR : Hid (∀ w, Calls Try.prog 22 #[.string s, .int .i64 a] w fun e w' => e = .returned (.tuple #[.int .i64 (placeM s a).1, .int .i64 (placeM s a).2.1, .int .i64 (placeM s a).2.2]) ∧ w' = w) := fun w => rPlace_any s a w (by unfold maxLen; omega)
  have HK : Hid (∀ w, Calls Try.prog 17 #[.string s] w fun e w' => e = .returned (.tuple #[.int .i64 (kindM s).1, .bool (kindM s).2]) ∧ Below w.heap.size w w') := fun w => kind_walk s w hs
  have HQ : Hid (∀ w, Calls Try.prog 20 #[.string s] w fun e w' => e = .returned (.tuple #[.int .i64 (kindM s).1, .bool (kindM s).2]) ∧ Below w.heap.size w w') := fun w => rKind_any s hs w
  have HA : Hid (∀ w, Calls Try.prog 14 #[] w fun e w' => e = .returned (.bool true) ∧ Below w.heap.size w w') := awake_any
  generalize (placeM s a).1 = p1 at *
  generalize (placeM s a).2.1 = p2 at *
  generalize (placeM s a).2.2 = p3 at *
  generalize (kindM s).1 = k1 at *
  generalize (kindM s).2 = k2 at *
  go_enter Try.func7, Try.ntmps7
  go_wp2_with (first | (go_at_call 21; refine (HP.out _).mono ?_; rintro e w1 ⟨rfl, hb1⟩) | (go_at_call 22; refine (HR.out _).mono ?_; rintro e _ ⟨rfl, rfl⟩) | (go_at_call 17; refine (HK.out _).mono ?_; rintro e w2 ⟨rfl, hb2⟩) | (go_at_call 20; refine (HQ.out _).mono ?_; rintro e w3 ⟨rfl, hb3⟩) | (go_at_call 14; refine (HA.out _).mono ?_; rintro e w4 ⟨rfl, hb4⟩))
  go_ret
  exact ⟨rfl, below_then (below_then (below_then hb1 hb2) hb3) hb4⟩
end Go.Proofs.Ytjnccfgnakggkaa
