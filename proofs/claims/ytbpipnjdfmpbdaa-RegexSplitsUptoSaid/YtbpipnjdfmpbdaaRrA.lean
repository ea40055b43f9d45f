import Derived.Test.YtbpipnjdfmpbdaaRxP
import Derived.Test.YtbpipnjdfmpbdaaLib2
import Derived.Test.YtbpipnjdfmpbdaaMkQ
namespace Go.Proofs.Ytbpipnjdfmpbdaa
open Go.RowKit

/-! ### the reference's marks -/
def upperI (c : Int) : Bool := 65 ≤ c && c ≤ 90
def lowerI (c : Int) : Bool := 97 ≤ c && c ≤ 122
def signI (c : Int) : Bool := c == 61 || c == 59 || c == 124 || c == 42 || c == 43 || c == 63 || c == 40 || c == 41 || c == 37
/-- the byte by which the reference tells a mark's kind -/
def tkB (k : Int) : Int := if k = 1 then 85 else if k = 2 then 76 else if k = 3 then 79 else if k = 4 then 61 else if k = 5 then 59 else if k = 6 then 124 else if k = 7 then 42 else if k = 8 then 43 else if k = 9 then 63 else if k = 10 then 40 else if k = 11 then 41 else if k = 12 then 37 else 0
theorem byte1 : ∀ n : Fin 256, signI (n.val : Int) = true → 3 < kindI (n.val : Int) ∧ tkB (kindI (n.val : Int)) = (n.val : Int) := by decide +kernel
theorem byte2 : ∀ n : Fin 256, signI (n.val : Int) = false → innerI (n.val : Int) = false → kindI (n.val : Int) = 0 := by decide +kernel
theorem byte3 : ∀ n : Fin 256, signI (n.val : Int) = false → innerI (n.val : Int) = true → kindI (n.val : Int) ≠ 0 ∧ kindI (n.val : Int) ≤ 3 := by decide +kernel
theorem byte4 : ∀ n : Fin 256, signI (n.val : Int) = false → innerI (n.val : Int) = true → upperI (n.val : Int) = true → kindI (n.val : Int) = 1 := by decide +kernel
theorem byte5 : ∀ n : Fin 256, signI (n.val : Int) = false → innerI (n.val : Int) = true → lowerI (n.val : Int) = true → kindI (n.val : Int) = 2 := by decide +kernel
theorem byte6 : ∀ n : Fin 256, signI (n.val : Int) = false → innerI (n.val : Int) = true → upperI (n.val : Int) = false → lowerI (n.val : Int) = false → kindI (n.val : Int) = 3 := by decide +kernel
theorem byte7 : ∀ n : Fin 256, upperI (n.val : Int) = true → lowerI (n.val : Int) = false := by decide +kernel
theorem byte_facts : ∀ n : Fin 256, (signI (n.val : Int) = true → 3 < kindI (n.val : Int) ∧ tkB (kindI (n.val : Int)) = (n.val : Int)) ∧
    (signI (n.val : Int) = false → innerI (n.val : Int) = false → kindI (n.val : Int) = 0) ∧
    (signI (n.val : Int) = false → innerI (n.val : Int) = true → kindI (n.val : Int) ≠ 0 ∧ kindI (n.val : Int) ≤ 3 ∧ (upperI (n.val : Int) = true → kindI (n.val : Int) = 1) ∧ (lowerI (n.val : Int) = true → kindI (n.val : Int) = 2) ∧ (upperI (n.val : Int) = false → lowerI (n.val : Int) = false → kindI (n.val : Int) = 3)) ∧
    (upperI (n.val : Int) = true → lowerI (n.val : Int) = false) := fun n => ⟨byte1 n, byte2 n, fun h1 h2 => ⟨(byte3 n h1 h2).1, (byte3 n h1 h2).2, byte4 n h1 h2, byte5 n h1 h2, byte6 n h1 h2⟩, byte7 n⟩
theorem byte_bt (s : ByteArray) (k : Nat) : ∃ n : Fin 256, (n.val : Int) = bt s k := by
  refine ⟨⟨(s.data.toList.getD k 0).toNat, (s.data.toList.getD k 0).toNat_lt⟩, rfl⟩
def Mk.tcells (m : Mk) : List Value := [.int .u8 (tkB m.k), .int .i64 m.p, .string m.t]
def flatTk (l : List Mk) : List Value := l.flatMap Mk.tcells
theorem elemTk : ElemOK Try.prog 64 91 3 32 :=
  ElemOK.mk' (z := .agg #[.int .u8 0, .int .i64 0, .string ⟨#[]⟩]) Try.underlying64 (by kernel_rfl) rfl (by decide)
theorem flatTk_snoc (l : List Mk) (m : Mk) : flatTk (l ++ [m]) = flatTk l ++ m.tcells := by simp [flatTk]
def OwnTk (w : World) (B : Nat) (v : Value) (l : List Mk) : Prop := w.ownsRow B 91 3 v l.length (flatTk l)
theorem OwnTk.snoc {w : World} {B : Nat} {v : Value} {l : List Mk} {m : Mk} (h : w.ownsRow B 91 3 v (l.length + 1) (flatTk l ++ m.tcells)) : OwnTk w B v (l ++ [m]) := by
  unfold OwnTk; rw [flatTk_snoc, List.length_append]; exact h

set_option maxHeartbeats 400000 in
theorem rBlank_any (c : Int) (w : World) :
    Calls Try.prog 66 #[.int .u8 c] w fun e w' => e = .returned (.bool (blankI c)) ∧ w = w' := by
  go_enter Try.func66, Try.ntmps66
  go_wp2
  all_goals go_ret
  all_goals refine ⟨?_, rfl⟩
  all_goals simp [blankI, *]
set_option maxHeartbeats 400000 in
theorem rUpper_any (c : Int) (w : World) :
    Calls Try.prog 69 #[.int .u8 c] w fun e w' => e = .returned (.bool (upperI c)) ∧ w = w' := by
  go_enter Try.func69, Try.ntmps69
  go_wp2
  all_goals go_ret
  all_goals refine ⟨congrArg (fun b => Ending.returned (.bool b)) ?_, rfl⟩
  all_goals (rw [Bool.eq_iff_iff]; simp [upperI]; omega)
set_option maxHeartbeats 400000 in
theorem rLower_any (c : Int) (w : World) :
    Calls Try.prog 70 #[.int .u8 c] w fun e w' => e = .returned (.bool (lowerI c)) ∧ w = w' := by
  go_enter Try.func70, Try.ntmps70
  go_wp2
  all_goals go_ret
  all_goals refine ⟨congrArg (fun b => Ending.returned (.bool b)) ?_, rfl⟩
  all_goals (rw [Bool.eq_iff_iff]; simp [lowerI]; omega)
set_option maxHeartbeats 800000 in
theorem rSign_any (c : Int) (w : World) :
    Calls Try.prog 67 #[.int .u8 c] w fun e w' => e = .returned (.bool (signI c)) ∧ w = w' := by
  go_enter Try.func67, Try.ntmps67
  go_wp2
  all_goals go_ret
  all_goals refine ⟨?_, rfl⟩
  all_goals simp [signI, *]
theorem inner_of (c : Int) : innerI c = (upperI c || lowerI c || (48 ≤ c && c ≤ 57) || c == 95) := by
  rw [Bool.eq_iff_iff]; simp [innerI, upperI, lowerI]; omega
set_option maxHeartbeats 400000 in
theorem rInner_any (c : Int) (w : World) :
    Calls Try.prog 68 #[.int .u8 c] w fun e w' => e = .returned (.bool (innerI c)) ∧ w = w' := by
  have HU := Lib.hid (rUpper_any c)
  have HL := Lib.hid (rLower_any c)
  rw [inner_of]
  generalize upperI c = u at *
  generalize lowerI c = l at *
  go_enter Try.func68, Try.ntmps68
  cases u <;> cases l
  all_goals
    go_wp2_with (first | (go_at_call 69; refine (HU.out _).mono ?_; rintro e w' ⟨rfl, rfl⟩) | (go_at_call 70; refine (HL.out _).mono ?_; rintro e w' ⟨rfl, rfl⟩))
  all_goals go_ret
  all_goals refine ⟨congrArg (fun b => Ending.returned (.bool b)) ?_, rfl⟩
  all_goals first | rfl | (rw [Bool.eq_iff_iff]; simp; omega)

set_option maxHeartbeats 400000 in
theorem rWordEnd_any (s : ByteArray) (k : Nat) (w : World) (hs : s.size ≤ 16777216) (hk : k ≤ s.size) :
    Calls Try.prog 71 #[.string s, .int .i64 k] w fun e w' => e = .returned (.int .i64 (wordTo s k)) ∧ w = w' := by
  go_enter Try.func71, Try.ntmps71
  go_wp2
  go_loop [1] (fun i => ∃ j : Nat, k ≤ j ∧ j ≤ s.size ∧ i = .int .i64 j ∧ Hid (wordTo s j = wordTo s k)) (fun i => s.size - (intOf i).toNat)
  case atStart => exact ⟨k, Nat.le_refl _, hk, rfl, rfl⟩
  case round =>
    obtain ⟨j, hj1, hj2, rfl, HS⟩ := hrel
    by_cases hlt : j < s.size
    · have hbg := Lib.hid (bt_get s j hlt)
      cases hb : innerI (bt s j) with
      | true =>
        have HB : Hid (∀ w, Calls Try.prog 68 #[.int .u8 (s[j].toNat : Int)] w fun e w' => e = .returned (.bool true) ∧ w = w') := by
          intro w; rw [← hb, ← hbg.out]; exact rInner_any _ _
        have HN : Hid (wordTo s (j + 1) = wordTo s k) := by unfold Hid; rw [← HS.out]; exact (wordTo_yes s j hlt hb).symm
        clear hb
        go_wp2_with (go_at_call 68; refine (HB.out _).mono ?_; rintro e w' ⟨rfl, rfl⟩)
        go_round
        case rel => exact ⟨j + 1, by omega, by omega, by go_num, HN.out⟩
        case measure => simp [intOf]; omega
      | false =>
        have HB : Hid (∀ w, Calls Try.prog 68 #[.int .u8 (s[j].toNat : Int)] w fun e w' => e = .returned (.bool false) ∧ w = w') := by
          intro w; rw [← hb, ← hbg.out]; exact rInner_any _ _
        have HN : Hid (wordTo s k = j) := by unfold Hid; rw [← HS.out]; exact wordTo_no s j hlt hb
        clear hb
        go_wp2_with (go_at_call 68; refine (HB.out _).mono ?_; rintro e w' ⟨rfl, rfl⟩)
        go_ret
        exact ⟨congrArg (fun b : Nat => Ending.returned (.int .i64 (b : Int))) HN.out.symm, rfl⟩
    · have HN : Hid (wordTo s k = j) := by unfold Hid; rw [← HS.out]; exact wordTo_end s j (by omega)
      go_wp2
      go_ret
      exact ⟨congrArg (fun b : Nat => Ending.returned (.int .i64 (b : Int))) (by rw [HN.out]), rfl⟩
/-- what Toks tells of the first bad byte -/
def badI (s : ByteArray) : Int := if (cut s 0).2 < s.size then ((cut s 0).2 : Nat) else -1

set_option maxRecDepth 100000 in
set_option maxHeartbeats 1600000 in
theorem rToks_any (s : ByteArray) (w : World) (hs : s.size ≤ 16777216) :
    Calls Try.prog 42 #[.string s] w fun e w' => ∃ v, e = .returned (.tuple #[v, .int .i64 (badI s)]) ∧ OwnTk w' w.heap.size v (cut s 0).1 ∧ Below w.heap.size w w' := by
  go_enter Try.func42, Try.ntmps42
  go_wp2
  go_loopw [4, 5] (fun v i wr => ∃ (j : Nat) (l : List Mk), j ≤ s.size ∧ l.length ≤ j ∧ i = .int .i64 j ∧ OwnTk wr w.heap.size v l ∧ Below w.heap.size w wr ∧ Hid (cut s 0 = (l ++ (cut s j).1, (cut s j).2))) (fun _ i _ => s.size - (intOf i).toNat)
  case atStart => exact ⟨0, [], by omega, by simp, rfl, World.ownsRow_nil _ _ _ _, Below.refl _ _, rfl⟩
  case round =>
    obtain ⟨j, l, hj, hl, rfl, hown, hbel, HC⟩ := hrel
    by_cases hlt : j < s.size
    · have hbg := Lib.hid (bt_get s j hlt)
      have HB : Hid (∀ w, Calls Try.prog 66 #[.int .u8 (s[j].toNat : Int)] w fun e w' => e = .returned (.bool (blankI (bt s j))) ∧ w = w') := by
        intro w; rw [← hbg.out]; exact rBlank_any _ _
      have HSg : Hid (∀ w, Calls Try.prog 67 #[.int .u8 (s[j].toNat : Int)] w fun e w' => e = .returned (.bool (signI (bt s j))) ∧ w = w') := by
        intro w; rw [← hbg.out]; exact rSign_any _ _
      have HI : Hid (∀ w, Calls Try.prog 68 #[.int .u8 (s[j].toNat : Int)] w fun e w' => e = .returned (.bool (innerI (bt s j))) ∧ w = w') := by
        intro w; rw [← hbg.out]; exact rInner_any _ _
      have HU : Hid (∀ w, Calls Try.prog 69 #[.int .u8 (s[j].toNat : Int)] w fun e w' => e = .returned (.bool (upperI (bt s j))) ∧ w = w') := by
        intro w; rw [← hbg.out]; exact rUpper_any _ _
      have HL : Hid (∀ w, Calls Try.prog 70 #[.int .u8 (s[j].toNat : Int)] w fun e w' => e = .returned (.bool (lowerI (bt s j))) ∧ w = w') := by
        intro w; rw [← hbg.out]; exact rLower_any _ _
      obtain ⟨n, hn⟩ := byte_bt s j
      have hf := byte_facts n
      rw [hn] at hf
      have HF := Lib.hid hf
      clear hn hf
      cases hb : blankI (bt s j) with
      | true =>
        have HC2 : Hid (cut s 0 = (l ++ (cut s (j + 1)).1, (cut s (j + 1)).2)) := by unfold Hid; rw [HC.out, cut_blank s j hlt hb]
        rw [hb] at HB
        clear hb
        go_wp2_with (go_at_call 66; refine (HB.out _).mono ?_; rintro e w' ⟨rfl, rfl⟩)
        go_roundw
        case rel => exact ⟨j + 1, l, by omega, by omega, by go_num, hown, hbel, HC2⟩
        case measure => simp [intOf]; omega
      | false =>
        rw [hb] at HB
        cases hsg : signI (bt s j) with
        | true =>
          rw [hsg] at HSg
          obtain ⟨hk3, htk⟩ := HF.out.1 hsg
          have HC2 : Hid (cut s 0 = ((l ++ [⟨kindI (bt s j), j, s.extract j (j + 1)⟩]) ++ (cut s (j + 1)).1, (cut s (j + 1)).2)) := by
            unfold Hid
            have e : endM s j = j + 1 := by unfold endM; rw [if_neg (by omega)]
            rw [HC.out, cut_good s j hlt hb (by omega), e]; simp
          rw [← bt_get s j hlt] at htk
          have hto : tkB (kindI (bt s j)) = s[j].toNat := by rw [← hbg.out]; exact htk
          have HT := Lib.hid hto
          have hll : l.length + 1 ≤ 16777217 := by omega
          clear hb hsg hk3 htk hto
          generalize kindI (bt s j) = kk at *
          go_wp2_with (first | (go_at_call 66; refine (HB.out _).mono ?_; rintro e w' ⟨rfl, rfl⟩) | (go_at_call 67; refine (HSg.out _).mono ?_; rintro e w' ⟨rfl, rfl⟩) | (at_builtin; go_must (refine wpList_app1 elemTk rfl _ _ rfl hown rfl (news := [.int .u8 (s[j].toNat : Int), .int .i64 j, .string (s.extract j (j + 1))]) rfl rfl (by intro u hu; simp at hu; rcases hu with rfl | rfl | rfl <;> rfl) (by omega) (by decide) hbel (Nat.le_refl _) ?_); intro v' w1 hown1 hbel1 _))
          go_roundw
          case rel => exact ⟨j + 1, _, by omega, by simp; omega, by go_num, OwnTk.snoc (m := ⟨kk, j, s.extract j (j + 1)⟩) (by unfold Mk.tcells; simp only; rw [HT.out]; exact hown1), hbel1, HC2⟩
          case measure => simp [intOf]; omega
        | false =>
          rw [hsg] at HSg
          cases hi : innerI (bt s j) with
          | false =>
            rw [hi] at HI
            have hk0 := HF.out.2.1 hsg hi
            have HC2 : Hid (cut s 0 = (l, j)) := by unfold Hid; rw [HC.out, cut_bad s j hlt hb hk0]; simp
            have HBd : Hid (badI s = j) := by unfold Hid badI; rw [HC2.out, if_pos hlt]
            clear hb hsg hi hk0
            obtain ⟨_, ao, cp, rfl, -⟩ := Rd.of_owns hown
            go_wp2_with (first | (go_at_call 66; refine (HB.out _).mono ?_; rintro e w' ⟨rfl, rfl⟩) | (go_at_call 67; refine (HSg.out _).mono ?_; rintro e w' ⟨rfl, rfl⟩) | (go_at_call 68; refine (HI.out _).mono ?_; rintro e w' ⟨rfl, rfl⟩))
            go_ret2
            exact ⟨_, by rw [HBd.out]; rfl, by rw [HC2.out]; exact hown, hbel⟩
          | true =>
            rw [hi] at HI
            obtain ⟨hk0, hk3, hku, hkl, hko⟩ := HF.out.2.2.1 hsg hi
            have hul := HF.out.2.2.2
            have e : endM s j = wordTo s j := by unfold endM; rw [if_pos hk3, wordTo_yes s j hlt hi]
            have hEb := endM_b s j hlt
            rw [e] at hEb
            have HC2 : Hid (cut s 0 = ((l ++ [⟨kindI (bt s j), j, s.extract j (wordTo s j)⟩]) ++ (cut s (wordTo s j)).1, (cut s (wordTo s j)).2)) := by
              unfold Hid
              rw [HC.out, cut_good s j hlt hb hk0, e]; simp
            have HW := Lib.hid (fun w => rWordEnd_any s j w hs (by omega))
            have hcase : (upperI (bt s j) = true ∧ lowerI (bt s j) = false ∧ kindI (bt s j) = 1) ∨ (upperI (bt s j) = false ∧ lowerI (bt s j) = true ∧ kindI (bt s j) = 2) ∨ (upperI (bt s j) = false ∧ lowerI (bt s j) = false ∧ kindI (bt s j) = 3) := by
              cases h1 : upperI (bt s j) with
              | true => exact .inl ⟨rfl, hul h1, hku h1⟩
              | false => cases h2 : lowerI (bt s j) with
                | true => exact .inr (.inl ⟨rfl, rfl, hkl h2⟩)
                | false => exact .inr (.inr ⟨rfl, rfl, hko h1 h2⟩)
            clear hb hsg hi hk0 hk3 hku hkl hko hul e
            have hll : l.length + 1 ≤ 16777217 := by omega
            generalize wordTo s j = en at *
            rcases hcase with ⟨h1, h2, h3⟩ | ⟨h1, h2, h3⟩ | ⟨h1, h2, h3⟩
            all_goals
              rw [h1] at HU
              rw [h2] at HL
              rw [h3] at HC2
              clear h1 h2 h3
              go_wp2_with (first | (go_at_call 66; refine (HB.out _).mono ?_; rintro e w' ⟨rfl, rfl⟩) | (go_at_call 67; refine (HSg.out _).mono ?_; rintro e w' ⟨rfl, rfl⟩) | (go_at_call 68; refine (HI.out _).mono ?_; rintro e w' ⟨rfl, rfl⟩) | (go_at_call 69; refine (HU.out _).mono ?_; rintro e w' ⟨rfl, rfl⟩) | (go_at_call 70; refine (HL.out _).mono ?_; rintro e w' ⟨rfl, rfl⟩) | (go_at_call 71; refine (HW.out _).mono ?_; rintro e w' ⟨rfl, rfl⟩) | (at_builtin; go_must (refine wpList_app1 elemTk rfl _ _ rfl hown rfl (news := [.int .u8 _, .int .i64 j, .string (s.extract j en)]) rfl rfl (by intro u hu; simp at hu; rcases hu with rfl | rfl | rfl <;> rfl) (by omega) (by decide) hbel (Nat.le_refl _) ?_); intro v' w1 hown1 hbel1 _))
              go_roundw
              case rel => exact ⟨en, _, by omega, by simp; omega, rfl, OwnTk.snoc (m := ⟨_, j, s.extract j en⟩) hown1, hbel1, HC2⟩
              case measure => simp [intOf]; omega
    · obtain rfl : j = s.size := by omega
      have HC2 : Hid (cut s 0 = (l, s.size)) := by unfold Hid; rw [HC.out, cut_end]; simp
      have HBd : Hid (badI s = -1) := by unfold Hid badI; rw [HC2.out, if_neg (by omega)]
      obtain ⟨_, ao, cp, rfl, -⟩ := Rd.of_owns hown
      go_wp2
      go_ret2
      exact ⟨_, by rw [HBd.out]; rfl, by rw [HC2.out]; exact hown, hbel⟩
end Go.Proofs.Ytbpipnjdfmpbdaa
