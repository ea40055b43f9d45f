import Derived.Test.YtbpipnjdfmpbdaaRtM0
namespace Go.Proofs.Ytbpipnjdfmpbdaa
open Go.RowKit Go.Shelf

/-! ### named, may, whole -/
set_option maxHeartbeats 400000 in
theorem xUpper_any (c : Int) (w : World) :
    Calls Try.prog 108 #[.int .u8 c] w fun e w' => e = .returned (.bool (upperI c)) ∧ w = w' := by
  go_enter Try.func108, Try.ntmps108
  go_wp2
  all_goals go_ret
  all_goals refine ⟨congrArg (fun b => Ending.returned (.bool b)) ?_, rfl⟩
  all_goals (rw [Bool.eq_iff_iff]; simp [upperI]; omega)
set_option maxHeartbeats 400000 in
theorem xLower_any (c : Int) (w : World) :
    Calls Try.prog 109 #[.int .u8 c] w fun e w' => e = .returned (.bool (lowerI c)) ∧ w = w' := by
  go_enter Try.func109, Try.ntmps109
  go_wp2
  all_goals go_ret
  all_goals refine ⟨congrArg (fun b => Ending.returned (.bool b)) ?_, rfl⟩
  all_goals (rw [Bool.eq_iff_iff]; simp [lowerI]; omega)

set_option maxRecDepth 100000 in
set_option maxHeartbeats 3200000 in
theorem xNamed_any (s : ByteArray) (fv : Value) (k : Int) (w : World) (hc : (fv = .func (.func 108) #[] #[] ∧ k = 1) ∨ (fv = .func (.func 109) #[] #[] ∧ k = 2)) :
    Calls Try.prog 107 #[.string s, fv] w fun e w' => e = .returned (.bool (nameB s k)) ∧ w = w' := by
  by_cases h1 : s.size < 1
  · have HN : Hid (nameB s k = false) := by unfold Hid nameB; rw [decide_eq_false (by omega)]; rfl
    go_enter Try.func107, Try.ntmps107
    go_wp2_with fail
    go_ret
    exact ⟨by rw [HN.out]; rfl, rfl⟩
  · by_cases h2 : 16 < s.size
    · have HN : Hid (nameB s k = false) := by unfold Hid nameB; rw [decide_eq_true (by omega), decide_eq_false (by omega)]; rfl
      go_enter Try.func107, Try.ntmps107
      go_wp2_with fail
      go_ret
      exact ⟨by rw [HN.out]; rfl, rfl⟩
    · have HN : Hid (nameB s k = (s.data.toList.all (fun c => innerI c.toNat) && kindI (bt s 0) == k)) := by
        unfold Hid nameB; rw [decide_eq_true (by omega), decide_eq_true (by omega)]; rfl
      have h0 : 0 < s.size := by omega
      have HU : Hid (∀ (j : Nat) (h : j < s.size) w, Calls Try.prog 108 #[.int .u8 (s[j].toNat : Int)] w fun e w' => e = .returned (.bool (upperI (bt s j))) ∧ w = w') := by
        intro j h w; rw [← bt_get s j h]; exact xUpper_any _ _
      have HL : Hid (∀ (j : Nat) (h : j < s.size) w, Calls Try.prog 109 #[.int .u8 (s[j].toNat : Int)] w fun e w' => e = .returned (.bool (lowerI (bt s j))) ∧ w = w') := by
        intro j h w; rw [← bt_get s j h]; exact xLower_any _ _
      have HU0 : Hid (∀ w, Calls Try.prog 108 #[.int .u8 (s[0].toNat : Int)] w fun e w' => e = .returned (.bool (kindI (bt s 0) == 1)) ∧ w = w') := by
        intro w; rw [← (upper_kind s 0).1]; exact HU.out 0 h0 w
      have HL0 : Hid (∀ w, Calls Try.prog 109 #[.int .u8 (s[0].toNat : Int)] w fun e w' => e = .returned (.bool (kindI (bt s 0) == 2)) ∧ w = w') := by
        intro w; rw [← (upper_kind s 0).2]; exact HL.out 0 h0 w
      have HAll := Lib.hid (all_inner s)
      have HB := Lib.hid (fun j h => bt_get s j h)
      cases hk : (kindI (bt s 0) == k) with
      | false =>
        have HF : Hid (nameB s k = false) := by unfold Hid; rw [HN.out, hk, Bool.and_false]
        rcases hc with ⟨rfl, rfl⟩ | ⟨rfl, rfl⟩
        all_goals
          first | rw [hk] at HU0 | rw [hk] at HL0
          clear hk
          go_enter Try.func107, Try.ntmps107
          go_wp2_with (first | (go_at_call 108; refine (HU0.out _).mono ?_; rintro e w' ⟨rfl, rfl⟩) | (go_at_call 109; refine (HL0.out _).mono ?_; rintro e w' ⟨rfl, rfl⟩))
          go_ret
          exact ⟨by rw [HF.out]; rfl, rfl⟩
      | true =>
        have HN2 : Hid (nameB s k = s.data.toList.all (fun c => innerI c.toNat)) := by unfold Hid; rw [HN.out, hk, Bool.and_true]
        rcases hc with ⟨rfl, rfl⟩ | ⟨rfl, rfl⟩
        all_goals
          first | rw [hk] at HU0 | rw [hk] at HL0
          clear hk
          go_enter Try.func107, Try.ntmps107
          go_wp2_with (first | (go_at_call 108; refine (HU0.out _).mono ?_; rintro e w' ⟨rfl, rfl⟩) | (go_at_call 109; refine (HL0.out _).mono ?_; rintro e w' ⟨rfl, rfl⟩))
          clear HU0 HL0 HN
          go_loop [24] (fun i => ∃ j : Nat, j ≤ s.size ∧ i = .int .i64 j ∧ Hid (∀ q, q < j → innerI (bt s q) = true)) (fun i => s.size - (intOf i).toNat)
          case atStart => exact ⟨0, by omega, rfl, fun q h => by omega⟩
          case round =>
            obtain ⟨j, hj, rfl, HQ⟩ := hrel
            by_cases hlt : j < s.size
            · have HUj := Lib.hid (HU.out j hlt)
              have HLj := Lib.hid (HL.out j hlt)
              have HI : Hid (innerI (bt s j) = (lowerI (bt s j) || upperI (bt s j) || (decide (48 ≤ (s[j].toNat : Int)) && decide ((s[j].toNat : Int) ≤ 57)) || ((s[j].toNat : Int) == 95))) := by
                unfold Hid; rw [← HB.out j hlt]; rfl
              generalize upperI (bt s j) = u at *
              generalize lowerI (bt s j) = l at *
              have HF : Hid (innerI (bt s j) = false → s.data.toList.all (fun c => innerI c.toNat) = false) := by
                intro hi
                rw [Bool.eq_false_iff]
                intro h
                have := HAll.out.1 h j hlt
                rw [hi] at this; cases this
              have HQ2 : Hid (innerI (bt s j) = true → ∀ q, q < j + 1 → innerI (bt s q) = true) := fun hi q hq => by
                by_cases h : q = j
                · subst h; exact hi
                · exact HQ.out q (by omega)
              have hdig : (48 ≤ (s[j].toNat : Int) ∧ (s[j].toNat : Int) ≤ 57 ∧ ((s[j].toNat : Int) == 95) = false) ∨ ((s[j].toNat : Int) < 48 ∧ ((s[j].toNat : Int) == 95) = false) ∨ (48 ≤ (s[j].toNat : Int) ∧ 57 < (s[j].toNat : Int) ∧ ((s[j].toNat : Int) == 95) = true) ∨ (48 ≤ (s[j].toNat : Int) ∧ 57 < (s[j].toNat : Int) ∧ ((s[j].toNat : Int) == 95) = false) := by
                simp only [beq_iff_eq, beq_eq_false_iff_ne]; omega
              cases u <;> cases l <;> rcases hdig with ⟨d1, d2, d3⟩ | ⟨d1, d3⟩ | ⟨d1, d2, d3⟩ | ⟨d1, d2, d3⟩
              all_goals
                go_wp2_with (first | (go_at_call 108; refine (HUj.out _).mono ?_; rintro e w' ⟨rfl, rfl⟩) | (go_at_call 109; refine (HLj.out _).mono ?_; rintro e w' ⟨rfl, rfl⟩))
              all_goals first
                | (have hi : innerI (bt s j) = true := by (rw [HI.out, d3]; simp; try omega)
                   go_round
                   case rel => exact ⟨j + 1, by omega, by go_num, HQ2.out hi⟩
                   case measure => simp [intOf]; omega)
                | (have hi : innerI (bt s j) = false := by (rw [HI.out, d3]; simp; try omega)
                   go_ret
                   exact ⟨by rw [HN2.out, HF.out hi]; rfl, rfl⟩)
                | (exfalso; rename_i hx; simp at hx; omega)
            · have HF : Hid (s.data.toList.all (fun c => innerI c.toNat) = true) := HAll.out.2 (fun q hq => HQ.out q (by omega))
              go_wp2_with fail
              go_ret
              exact ⟨by rw [HN2.out, HF.out]; rfl, rfl⟩
end Go.Proofs.Ytbpipnjdfmpbdaa
