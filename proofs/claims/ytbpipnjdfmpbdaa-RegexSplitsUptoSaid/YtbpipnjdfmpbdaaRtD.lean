import Derived.Test.YtbpipnjdfmpbdaaRtC
namespace Go.Proofs.Ytbpipnjdfmpbdaa
open Go.RowKit Go.Shelf

def nameB (t : ByteArray) (k : Int) : Bool := decide (1 ≤ t.size) && (decide (t.size ≤ 16) && (t.data.toList.all (fun c => innerI c.toNat) && kindI (bt t 0) == k))
def mayB (x : Nd) : Bool :=
  if x.k = 1 then x.n.toList.isEmpty && x.c == 0 else if x.k = 2 then nameB x.n 1 && x.c == 0 else if x.k = 3 then nameB x.n 2 && x.c == 0
  else if x.k = 4 ∨ x.k = 5 then x.n.toList.isEmpty && decide (2 ≤ x.c) else if x.k = 6 ∨ x.k = 7 ∨ x.k = 8 then x.n.toList.isEmpty && x.c == 1 else false
theorem empty_iff (t : ByteArray) : t.toList.isEmpty = true ↔ t = ⟨#[]⟩ := by
  rw [ByteArray.toList_eq]
  constructor
  · intro h
    apply ByteArray.ext
    apply Array.toList_inj.1
    simpa using h
  · rintro rfl; rfl
theorem all_inner (t : ByteArray) : t.data.toList.all (fun c => innerI c.toNat) = true ↔ ∀ q, q < t.size → innerI (bt t q) = true := by
  rw [List.all_eq_true]
  have hz : t.data.toList.length = t.size := by rw [Array.length_toList]; rfl
  constructor
  · intro h q hq
    have hq2 : q < t.data.toList.length := by omega
    have := h _ (List.getElem_mem hq2)
    unfold bt
    rw [List.getD_eq_getElem?_getD, List.getElem?_eq_getElem hq2]
    exact this
  · intro h c hc
    obtain ⟨q, hq⟩ := List.getElem?_of_mem hc
    have hq2 : q < t.data.toList.length := (List.getElem?_eq_some_iff.1 hq).1
    have := h q (by omega)
    unfold bt at this
    rw [List.getD_eq_getElem?_getD, hq] at this
    exact this
theorem nameB_iff (t : ByteArray) (k : Int) : nameB t k = true ↔ nameOk t k := by
  unfold nameB nameOk
  rw [Bool.and_eq_true, Bool.and_eq_true, Bool.and_eq_true, all_inner, decide_eq_true_eq, decide_eq_true_eq, beq_iff_eq]
  constructor
  · rintro ⟨h1, h2, h3, h4⟩; exact ⟨h1, h2, h4, h3⟩
  · rintro ⟨h1, h2, h4, h3⟩; exact ⟨h1, h2, h3, h4⟩
theorem mayB_iff (x : Nd) : mayB x = true ↔ mayN x := by
  unfold mayB mayN
  by_cases h1 : x.k = 1
  · rw [if_pos h1, Bool.and_eq_true, empty_iff, beq_iff_eq]
    constructor
    · intro h; exact .inl ⟨h1, h⟩
    · rintro (h | h | h | h | h)
      · exact h.2
      all_goals omega
  · rw [if_neg h1]
    by_cases h2 : x.k = 2
    · rw [if_pos h2, Bool.and_eq_true, nameB_iff, beq_iff_eq]
      constructor
      · intro h; exact .inr (.inl ⟨h2, h.2, h.1⟩)
      · rintro (h | h | h | h | h)
        · omega
        · exact ⟨h.2.2, h.2.1⟩
        all_goals omega
    · rw [if_neg h2]
      by_cases h3 : x.k = 3
      · rw [if_pos h3, Bool.and_eq_true, nameB_iff, beq_iff_eq]
        constructor
        · intro h; exact .inr (.inr (.inl ⟨h3, h.2, h.1⟩))
        · rintro (h | h | h | h | h)
          · omega
          · omega
          · exact ⟨h.2.2, h.2.1⟩
          all_goals omega
      · rw [if_neg h3]
        by_cases h4 : x.k = 4 ∨ x.k = 5
        · rw [if_pos h4]
          simp only [Bool.and_eq_true, empty_iff, decide_eq_true_eq]
          constructor
          · rintro ⟨h5, h6⟩; exact .inr (.inr (.inr (.inl ⟨h4, h5, h6⟩)))
          · rintro (h | h | h | h | h)
            · exact absurd h.1 h1
            · exact absurd h.1 h2
            · exact absurd h.1 h3
            · exact h.2
            · omega
        · rw [if_neg h4]
          by_cases h6 : x.k = 6 ∨ x.k = 7 ∨ x.k = 8
          · rw [if_pos h6]
            simp only [Bool.and_eq_true, empty_iff, beq_iff_eq]
            constructor
            · rintro ⟨h5, h7⟩; exact .inr (.inr (.inr (.inr ⟨h6, h5, h7⟩)))
            · rintro (h | h | h | h | h)
              · exact absurd h.1 h1
              · exact absurd h.1 h2
              · exact absurd h.1 h3
              · exact absurd h.1 h4
              · exact h.2
          · rw [if_neg h6]
            constructor
            · intro h; cases h
            · rintro (h | h | h | h | h)
              · exact absurd h.1 h1
              · exact absurd h.1 h2
              · exact absurd h.1 h3
              · exact absurd h.1 h4
              · exact absurd h.1 h6
theorem byte8 : ∀ n : Fin 256, (upperI (n.val : Int) = (kindI (n.val : Int) == 1)) ∧ (lowerI (n.val : Int) = (kindI (n.val : Int) == 2)) := by decide +kernel
theorem upper_kind (s : ByteArray) (k : Nat) : upperI (bt s k) = (kindI (bt s k) == 1) ∧ lowerI (bt s k) = (kindI (bt s k) == 2) := by
  obtain ⟨n, hn⟩ := byte_bt s k
  rw [← hn]; exact byte8 n

set_option maxRecDepth 100000 in
set_option maxHeartbeats 1600000 in
theorem rName_any (s : ByteArray) (c k : Int) (w : World) (hc : (c = 85 ∧ k = 1) ∨ (c = 76 ∧ k = 2)) :
    Calls Try.prog 115 #[.string s, .int .u8 c] w fun e w' => e = .returned (.bool (nameB s k)) ∧ w = w' := by
  by_cases h1 : s.size < 1
  · have HN : Hid (nameB s k = false) := by unfold Hid nameB; rw [decide_eq_false (by omega)]; rfl
    go_enter Try.func115, Try.ntmps115
    go_wp2_with fail
    go_ret
    exact ⟨by rw [HN.out]; rfl, rfl⟩
  · by_cases h2 : 16 < s.size
    · have HN : Hid (nameB s k = false) := by unfold Hid nameB; rw [decide_eq_true (by omega), decide_eq_false (by omega)]; rfl
      go_enter Try.func115, Try.ntmps115
      go_wp2_with fail
      go_ret
      exact ⟨by rw [HN.out]; rfl, rfl⟩
    · have HN : Hid (nameB s k = (s.data.toList.all (fun c => innerI c.toNat) && kindI (bt s 0) == k)) := by
        unfold Hid nameB; rw [decide_eq_true (by omega), decide_eq_true (by omega)]; rfl
      have h0 : 0 < s.size := by omega
      have HU : Hid (∀ w, Calls Try.prog 69 #[.int .u8 (s[0].toNat : Int)] w fun e w' => e = .returned (.bool (kindI (bt s 0) == 1)) ∧ w = w') := by
        intro w; rw [← (upper_kind s 0).1, ← bt_get s 0 h0]; exact rUpper_any _ _
      have HL : Hid (∀ w, Calls Try.prog 70 #[.int .u8 (s[0].toNat : Int)] w fun e w' => e = .returned (.bool (kindI (bt s 0) == 2)) ∧ w = w') := by
        intro w; rw [← (upper_kind s 0).2, ← bt_get s 0 h0]; exact rLower_any _ _
      have HAll := Lib.hid (all_inner s)
      go_enter Try.func115, Try.ntmps115
      go_wp2_with fail
      go_loop [5] (fun i => ∃ j : Nat, j ≤ s.size ∧ i = .int .i64 j ∧ Hid (∀ q, q < j → innerI (bt s q) = true)) (fun i => s.size - (intOf i).toNat)
      case atStart => exact ⟨0, by omega, rfl, fun q h => by omega⟩
      case round =>
        obtain ⟨j, hj, rfl, HQ⟩ := hrel
        by_cases hlt : j < s.size
        · have HI : Hid (∀ w, Calls Try.prog 68 #[.int .u8 (s[j].toNat : Int)] w fun e w' => e = .returned (.bool (innerI (bt s j))) ∧ w = w') := by
            intro w; rw [← bt_get s j hlt]; exact rInner_any _ _
          cases hi : innerI (bt s j) with
          | true =>
            rw [hi] at HI
            have HQ2 : Hid (∀ q, q < j + 1 → innerI (bt s q) = true) := fun q hq => by
              by_cases h : q = j
              · subst h; exact hi
              · exact HQ.out q (by omega)
            clear hi
            go_wp2_with (go_at_call 68; refine (HI.out _).mono ?_; rintro e w' ⟨rfl, rfl⟩)
            go_round
            case rel => exact ⟨j + 1, by omega, by go_num, HQ2.out⟩
            case measure => simp [intOf]; omega
          | false =>
            rw [hi] at HI
            have HF : Hid (nameB s k = false) := by
              unfold Hid
              rw [HN.out]
              have : s.data.toList.all (fun c => innerI c.toNat) = false := by
                rw [Bool.eq_false_iff]
                intro h
                have := HAll.out.1 h j hlt
                rw [hi] at this; cases this
              rw [this]; rfl
            clear hi
            go_wp2_with (go_at_call 68; refine (HI.out _).mono ?_; rintro e w' ⟨rfl, rfl⟩)
            go_ret
            exact ⟨by rw [HF.out]; rfl, rfl⟩
        · have HF : Hid (nameB s k = (kindI (bt s 0) == k)) := by
            unfold Hid
            rw [HN.out, HAll.out.2 (fun q hq => HQ.out q (by omega))]; rfl
          rcases hc with ⟨rfl, rfl⟩ | ⟨rfl, rfl⟩
          · generalize (kindI (bt s 0) == 1) = b1 at *
            cases b1
            all_goals
              go_wp2_with (first | (go_at_call 69; refine (HU.out _).mono ?_; rintro e w' ⟨rfl, rfl⟩) | (go_at_call 70; refine (HL.out _).mono ?_; rintro e w' ⟨rfl, rfl⟩))
              go_ret
              exact ⟨by rw [HF.out]; rfl, rfl⟩
          · generalize (kindI (bt s 0) == 2) = b1 at *
            cases b1
            all_goals
              go_wp2_with (first | (go_at_call 69; refine (HU.out _).mono ?_; rintro e w' ⟨rfl, rfl⟩) | (go_at_call 70; refine (HL.out _).mono ?_; rintro e w' ⟨rfl, rfl⟩))
              go_ret
              exact ⟨by rw [HF.out]; rfl, rfl⟩

set_option maxRecDepth 100000 in
set_option maxHeartbeats 3200000 in
theorem rMay_any (x : Nd) (w : World) :
    Calls Try.prog 111 #[.agg #[.int .i64 x.k, .string x.n, .int .i64 x.c]] w fun e w' => e = .returned (.bool (mayB x)) ∧ Below w.heap.size w w' := by
  have HU := Lib.hid (fun w => rName_any x.n 85 1 w (.inl ⟨rfl, rfl⟩))
  have HL := Lib.hid (fun w => rName_any x.n 76 2 w (.inr ⟨rfl, rfl⟩))
  have hcase : x.k = 1 ∨ x.k = 2 ∨ x.k = 3 ∨ x.k = 4 ∨ x.k = 5 ∨ x.k = 6 ∨ x.k = 7 ∨ x.k = 8 ∨ (x.k ≠ 1 ∧ x.k ≠ 2 ∧ x.k ≠ 3 ∧ x.k ≠ 4 ∧ x.k ≠ 5 ∧ x.k ≠ 6 ∧ x.k ≠ 7 ∧ x.k ≠ 8) := by omega
  obtain ⟨k, t, c⟩ := x
  simp only at hcase HU HL ⊢
  rcases hcase with rfl | rfl | rfl | rfl | rfl | rfl | rfl | rfl | h
  · have HM : Hid (mayB ⟨1, t, c⟩ = (t.toList.isEmpty && c == 0)) := rfl
    cases h1 : t.toList.isEmpty <;> cases h2 : (c == 0)
    all_goals
      have h1' := h1
      rw [h1, h2] at HM
      go_enter Try.func111, Try.ntmps111
      go_wp2_with fail
      go_ret
      exact ⟨by rw [HM.out]; rfl, below1 _ _⟩
  · have HM : Hid (mayB ⟨2, t, c⟩ = (nameB t 1 && c == 0)) := rfl
    generalize nameB t 1 = n1 at *
    cases n1 <;> cases h2 : (c == 0)
    all_goals
      rw [h2] at HM
      go_enter Try.func111, Try.ntmps111
      go_wp2_with (go_at_call 115; refine (HU.out _).mono ?_; rintro e w' ⟨rfl, rfl⟩)
      go_ret
      exact ⟨by rw [HM.out]; rfl, below1 _ _⟩
  · have HM : Hid (mayB ⟨3, t, c⟩ = (nameB t 2 && c == 0)) := rfl
    generalize nameB t 2 = n1 at *
    cases n1 <;> cases h2 : (c == 0)
    all_goals
      rw [h2] at HM
      go_enter Try.func111, Try.ntmps111
      go_wp2_with (go_at_call 115; refine (HL.out _).mono ?_; rintro e w' ⟨rfl, rfl⟩)
      go_ret
      exact ⟨by rw [HM.out]; rfl, below1 _ _⟩
  · have HM : Hid (mayB ⟨4, t, c⟩ = (t.toList.isEmpty && decide (2 ≤ c))) := rfl
    cases h1 : t.toList.isEmpty <;> cases h2 : decide (2 ≤ c)
    all_goals
      rw [h1, h2] at HM
      go_enter Try.func111, Try.ntmps111
      go_wp2_with fail
      go_ret
      exact ⟨by rw [HM.out]; rfl, below1 _ _⟩
  · have HM : Hid (mayB ⟨5, t, c⟩ = (t.toList.isEmpty && decide (2 ≤ c))) := rfl
    cases h1 : t.toList.isEmpty <;> cases h2 : decide (2 ≤ c)
    all_goals
      rw [h1, h2] at HM
      go_enter Try.func111, Try.ntmps111
      go_wp2_with fail
      go_ret
      exact ⟨by rw [HM.out]; rfl, below1 _ _⟩
  · have HM : Hid (mayB ⟨6, t, c⟩ = (t.toList.isEmpty && c == 1)) := rfl
    cases h1 : t.toList.isEmpty <;> cases h2 : (c == 1)
    all_goals
      rw [h1, h2] at HM
      go_enter Try.func111, Try.ntmps111
      go_wp2_with fail
      go_ret
      exact ⟨by rw [HM.out]; rfl, below1 _ _⟩
  · have HM : Hid (mayB ⟨7, t, c⟩ = (t.toList.isEmpty && c == 1)) := rfl
    cases h1 : t.toList.isEmpty <;> cases h2 : (c == 1)
    all_goals
      rw [h1, h2] at HM
      go_enter Try.func111, Try.ntmps111
      go_wp2_with fail
      go_ret
      exact ⟨by rw [HM.out]; rfl, below1 _ _⟩
  · have HM : Hid (mayB ⟨8, t, c⟩ = (t.toList.isEmpty && c == 1)) := rfl
    cases h1 : t.toList.isEmpty <;> cases h2 : (c == 1)
    all_goals
      rw [h1, h2] at HM
      go_enter Try.func111, Try.ntmps111
      go_wp2_with fail
      go_ret
      exact ⟨by rw [HM.out]; rfl, below1 _ _⟩
  · obtain ⟨a1, a2, a3, a4, a5, a6, a7, a8⟩ := h
    have HM : Hid (mayB ⟨k, t, c⟩ = false) := by
      unfold Hid mayB
      simp only
      rw [if_neg a1, if_neg a2, if_neg a3, if_neg (by omega), if_neg (by omega)]
    have b1 : (k == 1) = false := by simpa using a1
    have b2 : (k == 2) = false := by simpa using a2
    have b3 : (k == 3) = false := by simpa using a3
    have b4 : (k == 4) = false := by simpa using a4
    have b5 : (k == 5) = false := by simpa using a5
    have b6 : (k == 6) = false := by simpa using a6
    have b7 : (k == 7) = false := by simpa using a7
    have b8 : (k == 8) = false := by simpa using a8
    clear a1 a2 a3 a4 a5 a6 a7 a8
    go_enter Try.func111, Try.ntmps111
    go_wp2_with fail
    go_ret
    exact ⟨by rw [HM.out]; rfl, below1 _ _⟩
end Go.Proofs.Ytbpipnjdfmpbdaa
