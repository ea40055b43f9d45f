import Derived.Test.YtbpipnjdfmpbdaaMkP
import Derived.Test.YtbpipnjdfmpbdaaLib
namespace Go.Proofs.Ytbpipnjdfmpbdaa
open Go.RowKit

set_option maxHeartbeats 400000 in
theorem blank_any (c : Int) (w : World) :
    Calls Try.prog 96 #[.int .u8 c] w fun e w' => e = .returned (.bool (blankI c)) ∧ w = w' := by
  go_enter Try.func96, Try.ntmps96
  go_wp2
  all_goals go_ret
  all_goals refine ⟨?_, rfl⟩
  all_goals simp [blankI, *]

set_option maxHeartbeats 400000 in
theorem inner_any (c : Int) (w : World) :
    Calls Try.prog 98 #[.int .u8 c] w fun e w' => e = .returned (.bool (innerI c)) ∧ w = w' := by
  go_enter Try.func98, Try.ntmps98
  go_wp2
  all_goals go_ret
  all_goals refine ⟨congrArg (fun b => Ending.returned (.bool b)) ?_, rfl⟩
  all_goals (rw [Bool.eq_iff_iff]; simp [innerI]; omega)

set_option maxHeartbeats 400000 in
theorem kind_any (c : Int) (w : World) :
    Calls Try.prog 97 #[.int .u8 c] w fun e w' => e = .returned (.int .i64 (kindI c)) ∧ w = w' := by
  go_enter Try.func97, Try.ntmps97
  go_wp2_with (go_at_call 98; refine (inner_any _ _).mono ?_; rintro e w' ⟨rfl, rfl⟩)
  all_goals go_ret
  all_goals refine ⟨congrArg (fun b => Ending.returned (.int .i64 b)) ?_, rfl⟩
  all_goals simp [kindI, *]
  all_goals omega

set_option maxHeartbeats 800000 in
theorem next_any (s : ByteArray) (k : Nat) (w : World) (hs : s.size ≤ maxLen) (hk : k ≤ s.size) :
    Calls Try.prog 73 #[.string s, .int .i64 k] w fun e w' => e = .returned (nextM s k).val ∧ Below w.heap.size w w' := by
  unfold maxLen at hs
  go_enter Try.func73, Try.ntmps73
  go_wp2
  go_loop [1] (fun i => ∃ j : Nat, k ≤ j ∧ j ≤ s.size ∧ i = .int .i64 j ∧ skipTo s j = skipTo s k) (fun i => s.size - (intOf i).toNat)
  case atStart => exact ⟨k, Nat.le_refl _, hk, rfl, rfl⟩
  case round =>
    obtain ⟨j, hj1, hj2, rfl, hsk⟩ := hrel
    have HS := Lib.hid hsk
    clear hsk
    by_cases hlt : j < s.size
    · have hbg := Lib.hid (bt_get s j hlt)
      obtain ⟨b, hb⟩ : ∃ b, b = blankI (bt s j) := ⟨_, rfl⟩
      obtain ⟨c, hc⟩ : ∃ c, c = kindI (bt s j) := ⟨_, rfl⟩
      have HB : ∀ w, Calls Try.prog 96 #[.int .u8 (s[j].toNat : Int)] w fun e w' => e = .returned (.bool b) ∧ w = w' := by
        intro w; rw [hb, ← hbg.out]; exact blank_any _ _
      have HC : ∀ w, Calls Try.prog 97 #[.int .u8 (s[j].toNat : Int)] w fun e w' => e = .returned (.int .i64 c) ∧ w = w' := by
        intro w; rw [hc, ← hbg.out]; exact kind_any _ _
      have Hb := Lib.hid hb
      have Hc := Lib.hid hc
      have HB' := Lib.hid HB
      have HC' := Lib.hid HC
      clear hb hc HB HC
      cases b with
      | true =>
        go_wp2_with (go_at_call 96; refine (HB'.out _).mono ?_; rintro e w' ⟨rfl, rfl⟩)
        go_round
        case rel => exact ⟨j + 1, by omega, by omega, by go_num, by rw [← HS.out]; exact (skipTo_yes s j hlt Hb.out.symm).symm⟩
        case measure => simp [intOf]; omega
      | false =>
        have Hn : Hid (skipTo s k = j) := by rw [← HS.out]; exact skipTo_no s j hlt Hb.out.symm
        by_cases hc0 : c = 0
        · subst hc0
          go_wp2_with (first | (go_at_call 96; refine (HB'.out _).mono ?_; rintro e w' ⟨rfl, rfl⟩) | (go_at_call 97; refine (HC'.out _).mono ?_; rintro e w' ⟨rfl, rfl⟩))
          refine bodyPost_ret (v := .agg #[.int .i64 0, .int .i64 j, .string ⟨#[]⟩]) (by simp [results, Try.results73, go_sem]) rfl ⟨?_, below1 _ _⟩
          rw [nextM, Hn.out, markAt, if_neg (by rw [← Hc.out]; simp)]; rfl
        · have hc0' : (c == 0) = false := by simpa using hc0
          by_cases hc3 : c ≤ 3
          · go_wp2_with (first | (go_at_call 96; refine (HB'.out _).mono ?_; rintro e w' ⟨rfl, rfl⟩) | (go_at_call 97; refine (HC'.out _).mono ?_; rintro e w' ⟨rfl, rfl⟩))
            go_step3
            go_wp2
            go_step3
            go_wp2
            go_loop [6] (fun i => ∃ m : Nat, j + 1 ≤ m ∧ m ≤ s.size ∧ i = .int .i64 m ∧ wordTo s m = wordTo s (j + 1)) (fun i => s.size - (intOf i).toNat)
            case atStart => exact ⟨j + 1, Nat.le_refl _, by omega, by go_num, rfl⟩
            case round =>
              obtain ⟨m, hm1, hm2, rfl, hwm⟩ := hrel
              have HW := Lib.hid hwm
              clear hwm
              by_cases hml : m < s.size
              · have hmg := Lib.hid (bt_get s m hml)
                obtain ⟨d, hd⟩ : ∃ d, d = innerI (bt s m) := ⟨_, rfl⟩
                have HD : ∀ w, Calls Try.prog 98 #[.int .u8 (s[m].toNat : Int)] w fun e w' => e = .returned (.bool d) ∧ w = w' := by
                  intro w; rw [hd, ← hmg.out]; exact inner_any _ _
                have Hd := Lib.hid hd
                have HD' := Lib.hid HD
                clear hd HD
                cases d with
                | true =>
                  go_wp2_with (go_at_call 98; refine (HD'.out _).mono ?_; rintro e w' ⟨rfl, rfl⟩)
                  go_round
                  case rel => exact ⟨m + 1, by omega, by omega, by go_num, by rw [← HW.out]; exact (wordTo_yes s m hml Hd.out.symm).symm⟩
                  case measure => simp [intOf]; omega
                | false =>
                  have Hm : Hid (wordTo s (j + 1) = m) := by rw [← HW.out]; exact wordTo_no s m hml Hd.out.symm
                  go_wp2_with (go_at_call 98; refine (HD'.out _).mono ?_; rintro e w' ⟨rfl, rfl⟩)
                  simp only [Exit.noGoto, Exit.then]
                  go_wp2
                  refine bodyPost_ret (v := .agg #[.int .i64 c, .int .i64 j, .string (s.extract j m)]) (by simp [results, Try.results73, go_sem]) rfl ⟨?_, below2 _ _ _⟩
                  rw [nextM, Hn.out, markAt, if_pos ⟨hlt, by rw [← Hc.out]; exact hc0⟩, ← Hc.out, if_pos hc3, Hm.out]; rfl
              · have Hm : Hid (wordTo s (j + 1) = m) := by rw [← HW.out]; exact wordTo_end s m (by omega)
                go_wp2
                refine bodyPost_ret (v := .agg #[.int .i64 c, .int .i64 j, .string (s.extract j m)]) (by simp [results, Try.results73, go_sem]) rfl ⟨?_, below2 _ _ _⟩
                rw [nextM, Hn.out, markAt, if_pos ⟨hlt, by rw [← Hc.out]; exact hc0⟩, ← Hc.out, if_pos hc3, Hm.out]; rfl
          · go_wp2_with (first | (go_at_call 96; refine (HB'.out _).mono ?_; rintro e w' ⟨rfl, rfl⟩) | (go_at_call 97; refine (HC'.out _).mono ?_; rintro e w' ⟨rfl, rfl⟩))
            refine bodyPost_ret (v := .agg #[.int .i64 c, .int .i64 j, .string (s.extract j (j + 1))]) (by simp [results, Try.results73, go_sem]) rfl ⟨?_, below2 _ _ _⟩
            rw [nextM, Hn.out, markAt, if_pos ⟨hlt, by rw [← Hc.out]; exact hc0⟩, ← Hc.out, if_neg (by omega)]; rfl
    · go_wp2
      have hb : Below w.heap.size w (w.alloc (.cells #[.int .i64 0, .int .i64 s.size, .string ⟨#[]⟩] 98)) := (Below.refl _ _).alloc (Nat.le_refl _) _
      refine bodyPost_ret (v := .agg #[.int .i64 0, .int .i64 s.size, .string ⟨#[]⟩]) (by simp [results, Try.results73, go_sem]) rfl ⟨?_, hb⟩
      have : skipTo s k = s.size := by rw [← HS.out, skipTo_end s j (by omega)]; omega
      rw [nextM, this, markAt, if_neg (by omega)]; rfl

end Go.Proofs.Ytbpipnjdfmpbdaa
