import Derived.Test.YtjnccfgnakggkaaMkH
import Derived.Test.YtjnccfgnakggkaaMkQ
import Derived.Deep.DeepCutAuto
namespace Go.Proofs.Ytjnccfgnakggkaa
open Go.RowKit

set_option maxHeartbeats 400000 in
theorem lBlank_any (c : Int) (w : World) :
    Calls Try.prog 15 #[.int .u8 c] w fun e w' => e = .returned (.bool (blankI c)) ∧ w = w' := by
  go_enter Try.func15, Try.ntmps15
  go_wp2
  all_goals go_ret
  all_goals refine ⟨?_, rfl⟩
  all_goals simp [blankI, *]

set_option maxHeartbeats 400000 in
theorem lWord_any (c : Int) (w : World) :
    Calls Try.prog 16 #[.int .u8 c] w fun e w' => e = .returned (.bool (innerI c)) ∧ w = w' := by
  go_enter Try.func16, Try.ntmps16
  go_wp2
  all_goals go_ret
  all_goals refine ⟨congrArg (fun b => Ending.returned (.bool b)) ?_, rfl⟩
  all_goals (rw [Bool.eq_iff_iff]; simp [innerI]; omega)

/-- what stands ahead of a place behind a mark -/
def PrevOk (s : ByteArray) (j a : Nat) : Prop := j = 0 ∨ (1 ≤ a ∧ (a < s.size → innerI (bt s a) = true → innerI (bt s (a - 1)) = false))
theorem prevOk_step {s : ByteArray} {a j : Nat} {m : Mk} (h : MFacts s a m) : PrevOk s (j + 1) (m.p + m.t.size) := by
  refine .inr ⟨by have := h.one; omega, fun h1 h2 => ?_⟩
  by_cases hk : m.k ≤ 3
  · have := h.max hk h1; rw [h2] at this; simp at this
  · exact h.lastB (by omega)

theorem drop_next {s : ByteArray} {q j : Nat} {L : List Mk} (hq : q ≤ s.size) (h : cut s q = (L.drop j, s.size)) (hlt : j < L.length) :
    (nextM s q).k ≠ 0 ∧ L[j]? = some (nextM s q) ∧ cut s ((nextM s q).p + (nextM s q).t.size) = (L.drop (j + 1), s.size) := by
  have hz : (nextM s q).k ≠ 0 := by
    intro hz
    rw [cut_none s q hq hz] at h
    simp at h
    omega
  rw [cut_some s q hq hz, List.drop_eq_getElem_cons hlt] at h
  simp only [Prod.mk.injEq, List.cons.injEq] at h
  refine ⟨hz, by rw [List.getElem?_eq_getElem hlt, h.1.1], Prod.ext h.1.2 h.2⟩
theorem drop_end {s : ByteArray} {q j : Nat} {L : List Mk} (hq : q ≤ s.size) (h : cut s q = (L.drop j, s.size)) (hlt : ¬ j < L.length) : ∀ k, q ≤ k → k < s.size → blankI (bt s k) = true := by
  rw [List.drop_eq_nil_of_le (by omega)] at h
  have hz : (nextM s q).k = 0 := by
    by_cases hz : (nextM s q).k = 0
    · exact hz
    · rw [cut_some s q hq hz] at h; simp at h
  rw [cut_none s q hq hz, nextM_p] at h
  simp at h
  intro k h1 h2
  exact (skip_blank s _ q k rfl h1 (by omega)).1
theorem extract_empty (t : ByteArray) (h : 1 ≤ t.size) : t.toList.isEmpty = false := by
  rw [ByteArray.toList_eq]
  have : t.data.toList.length = t.size := by simp
  cases hl : t.data.toList with
  | nil => rw [hl] at this; simp at this; omega
  | cons _ _ => rfl

set_option maxRecDepth 100000 in
set_option maxHeartbeats 3200000 in
theorem marksPieces_any (s : ByteArray) (hs : s.size ≤ 16777216) (w : World) :
    Calls Try.prog 4 #[.string s] w fun e w' => e = .returned (.bool true) ∧ Below w.heap.size w w' := by
  have HS := Lib.hid (scan_any s hs)
  have hln := cut_len s s.size 0 (by omega) (by omega)
  by_cases hc : (cut s 0).2 < s.size
  · have HE : scanM s = ([], (((cut s 0).2 : Nat) : Int), 160) := by unfold scanM; rw [if_pos hc]
    rw [HE] at HS
    clear HE
    go_enter Try.func4, Try.ntmps4
    go_wp2_with (first | (go_at_call 9; refine (HS.out _).mono ?_; rintro e w1 ⟨v, rfl, ho, hb1⟩; obtain ⟨_, ao, cap, rfl, _, -⟩ := Rd.of_owns ho) | (go_at_call 14; refine (awake_any _).mono ?_; rintro e w2 ⟨rfl, hb2⟩))
    go_ret
    exact ⟨rfl, below_then hb1 hb2⟩
  · have HE : scanM s = ((cut s 0).1, 0, 0) := by unfold scanM; rw [if_neg hc]
    rw [HE] at HS
    clear HE
    have hl0 := hln.1
    obtain ⟨L, hL⟩ : ∃ L, L = (cut s 0).1 := ⟨_, rfl⟩
    have hc2 : cut s 0 = (L, s.size) := by rw [hL]; exact Prod.ext rfl (by simp only; omega)
    rw [← hL] at HS hl0
    have HC2 := Lib.hid hc2
    clear hL hc2 hc hln
    go_enter Try.func4, Try.ntmps4
    go_wp2_with (go_at_call 9; refine (HS.out _).mono ?_; rintro e w1 ⟨v, rfl, ho, hb1⟩; obtain ⟨_, ao, cap, rfl, _, -⟩ := Rd.of_owns ho)
    have hR : RdMk w1 (.slice ao L.length cap) L := RdMk.of_own ho
    have HR := Lib.hid hR
    clear hR ho
    go_loopw [6, 7] (fun a i wr => ∃ (j q : Nat), j ≤ L.length ∧ q ≤ s.size ∧ i = .int .i64 j ∧ a = .int .i64 q ∧ Hid (cut s q = (L.drop j, s.size)) ∧ Hid (PrevOk s j q) ∧ Below w1.heap.size w1 wr) (fun _ i _ => L.length - (intOf i).toNat)
    case atStart => exact ⟨0, 0, by omega, by omega, rfl, rfl, HC2.out, .inl rfl, Below.refl _ _⟩
    case round =>
      obtain ⟨j, q, hj, hq, rfl, rfl, HD, HP, hbel⟩ := hrel
      by_cases hlt : j < L.length
      · obtain ⟨hz, hm, hdr⟩ := drop_next hq HD.out hlt
        have F := mfacts s q hz
        generalize nextM s q = m at *
        obtain ⟨b, off, cp, e1, l1, k1, x0, x1, x2⟩ := HR.out.at hm
        simp only [Value.slice.injEq] at e1
        obtain ⟨rfl, -, rfl⟩ := e1
        have X0 := (hbel.cell (p := ⟨b, _, none⟩) l1).trans x0
        have X1 := (hbel.cell (p := ⟨b, _, none⟩) l1).trans x1
        have X2 := (hbel.cell (p := ⟨b, _, none⟩) l1).trans x2
        have f1 := F.ge
        have f2 := F.one
        have f3 := F.le
        have f4 := F.piece
        have f5 := extract_empty m.t F.one
        have d1 : decide (m.p < q) = false := by simp; omega
        have d2 : decide ((s.size : Int) < m.p + m.t.size) = false := by simp; omega
        have d3 : IntKind.i64.wrap ((m.p : Int) + m.t.size) = (m.p : Int) + m.t.size := IntWalk.i64_in _ ⟨by omega, by omega⟩
        have d4 : ((m.p : Int) + m.t.size).toNat = m.p + m.t.size := by omega
        have d5 : (0 : Int) ≤ (m.p : Int) + m.t.size := by omega
        have d6 : (m.p : Int) ≤ (m.p : Int) + m.t.size := by omega
        have d7 : (m.p : Int) + m.t.size ≤ s.size := by omega
        have HF := Lib.hid F
        have HDR := Lib.hid hdr
        clear x0 x1 x2 hm hdr F hz
        go_wp2
        go_quiet (fail)
        go_wp2
        clear d1 d2 d3 d4 d5 d6 d7 f4
        go_loop [9] (fun k => ∃ r : Nat, q ≤ r ∧ r ≤ m.p ∧ k = .int .i64 r) (fun k => m.p - (intOf k).toNat)
        case atStart => exact ⟨q, by omega, by omega, rfl⟩
        case round =>
          obtain ⟨r, hr1, hr2, rfl⟩ := hrel
          by_cases hrm : r < m.p
          · have hrs : r < s.size := by omega
            have HB : Hid (∀ w, Calls Try.prog 15 #[.int .u8 (s[r].toNat : Int)] w fun e w' => e = .returned (.bool true) ∧ w = w') := by
              intro w; rw [← HF.out.blanks r hr1 hrm, ← bt_get s r hrs]; exact lBlank_any _ _
            go_wp2_with (go_at_call 15; refine (HB.out _).mono ?_; rintro e w' ⟨rfl, rfl⟩)
            go_round
            case rel => exact ⟨r + 1, by omega, by omega, by go_num⟩
            case measure => simp [intOf]; omega
          · obtain rfl : r = m.p := by omega
            have HW : Hid (∀ (c : Int) w, Calls Try.prog 16 #[.int .u8 c] w fun e w' => e = .returned (.bool (innerI c)) ∧ w = w') := fun c w => lWord_any c w
            have hcase : Hid ((j = 0) ∨ (0 < j ∧ ¬ m.p = q) ∨ (0 < j ∧ m.p = q ∧ innerI (bt s m.p) = false) ∨ (0 < j ∧ m.p = q ∧ 1 ≤ q ∧ innerI (bt s m.p) = true ∧ innerI (bt s (q - 1)) = false)) := by
              by_cases h0 : j = 0
              · exact .inl h0
              · by_cases h1 : m.p = q
                · by_cases h2 : innerI (bt s m.p) = true
                  · rcases HP.out with h3 | ⟨h3, h4⟩
                    · exact absurd h3 h0
                    · exact .inr (.inr (.inr ⟨by omega, h1, h3, h2, h4 (by omega) (by rw [← h1]; exact h2)⟩))
                  · exact .inr (.inr (.inl ⟨by omega, h1, by simpa using h2⟩))
                · exact .inr (.inl ⟨by omega, h1⟩)
            have h0t : 0 < m.t.size := by omega
            have HT : Hid (((m.t[0].toNat : Nat) : Int) = bt s m.p) := by
              show _ = _
              rw [bt_get m.t 0 h0t, HF.out.bts 0 h0t]; rfl
            have HKD : Hid (∀ w, Calls Try.prog 17 #[.string m.t] w fun e w' => e = .returned (.tuple #[.int .i64 m.k, .bool true]) ∧ Below w.heap.size w w') := by
              intro w
              have := kind_walk m.t w (by omega)
              rw [HF.out.kind] at this
              exact this
            have hsz1 : Hid (¬ 1 < m.t.size ∨ (1 < m.t.size ∧ m.k ≤ 3)) := by
              by_cases h1 : 1 < m.t.size
              · by_cases h2 : m.k ≤ 3
                · exact .inr ⟨h1, h2⟩
                · have := HF.out.sign (by omega); omega
              · exact .inl h1
            have klo := HF.out.lo
            go_upto_region 16 with (fail)
            go_cut [109] (fun v wx => v = .bool false ∧ Hid (wx = (wr.alloc (.cells #[.int .i64 m.k, .int .i64 m.p, .string m.t] 29)).drewN nq))
            case first =>
              rcases hcase.out with h | ⟨h, h'⟩ | ⟨h, h', h''⟩ | ⟨h, h', h1, h2, h3⟩
              · have hj0 : ¬ 0 < j := by omega
                clear h
                go_wp2_with fail
                go_meet
                exact ⟨rfl, rfl⟩
              · have hpq : ((m.p : Int) == q) = false := by simp; omega
                go_wp2_with fail
                go_meet
                exact ⟨rfl, rfl⟩
              · have HW0 : Hid (∀ w, Calls Try.prog 16 #[.int .u8 (m.t[0].toNat : Int)] w fun e w' => e = .returned (.bool false) ∧ w = w') := by
                  intro w; rw [← h'', ← HT.out]; exact lWord_any _ _
                have hpq : ((m.p : Int) == q) = true := by simp; omega
                clear h' h'' HW
                go_wp2_with (go_at_call 16; refine (HW0.out _).mono ?_; rintro e w' ⟨rfl, rfl⟩)
                go_meet
                exact ⟨rfl, rfl⟩
              · have HW0 : Hid (∀ w, Calls Try.prog 16 #[.int .u8 (m.t[0].toNat : Int)] w fun e w' => e = .returned (.bool true) ∧ w = w') := by
                  intro w; rw [← h2, ← HT.out]; exact lWord_any _ _
                have hq1 : q - 1 < s.size := by omega
                have HW1 : Hid (∀ w, Calls Try.prog 16 #[.int .u8 (s[q - 1].toNat : Int)] w fun e w' => e = .returned (.bool false) ∧ w = w') := by
                  intro w; rw [← h3, ← bt_get s (q - 1) hq1]; exact lWord_any _ _
                have hpq : ((m.p : Int) == q) = true := by simp; omega
                clear h' h2 h3 HW
                go_wp2_with fail
                refine (HW0.out _).mono ?_
                rintro e w' ⟨rfl, rfl⟩
                go_wp2_with fail
                refine (HW1.out _).mono ?_
                rintro e w' ⟨rfl, rfl⟩
                go_wp2_with fail
                go_meet
                exact ⟨rfl, rfl⟩
            case rest =>
              obtain ⟨rfl, HWC⟩ := hcut
              have hwc := HWC.out
              subst hwc
              go_wp2_with fail
              refine (HKD.out _).mono ?_
              rintro e w5 ⟨rfl, hb5⟩
              have hb6 : Below w1.heap.size w1 w5 := (below_drewN (hbel.alloc hbel.size _) nq).trans (hb5.mono (by have := hbel.size; simp; omega))
              have hm0 : ((wr.alloc (.cells #[.int .i64 m.k, .int .i64 m.p, .string m.t] 29)).drewN nq).heap[wr.heap.size]? = some (.cells #[.int .i64 m.k, .int .i64 m.p, .string m.t] 29 (0, 0)) := World.alloc_heap_new wr _
              have hm1 : w5.heap[wr.heap.size]? = some (.cells #[.int .i64 m.k, .int .i64 m.p, .string m.t] 29 (0, 0)) := (hb5.block _ (Array.getElem?_eq_some_iff.1 hm0).1).trans hm0
              have D0 : w5.cell? ⟨wr.heap.size, 0, none⟩ = some (.int .i64 m.k) := by simp [World.cell?, hm1]
              have D1 : w5.cell? ⟨wr.heap.size, 1, none⟩ = some (.int .i64 m.p) := by simp [World.cell?, hm1]
              have D2 : w5.cell? ⟨wr.heap.size, 2, none⟩ = some (.string m.t) := by simp [World.cell?, hm1]
              clear hm0 hm1 hb5 hbel X0 X1 X2
              rcases hsz1.out with hs1 | ⟨hs1, hs2⟩
              all_goals
                go_wp2
                go_loop [12] (fun k => ∃ r : Nat, r ≤ m.t.size ∧ k = .int .i64 r) (fun k => m.t.size - (intOf k).toNat)
                case atStart => exact ⟨0, by omega, rfl⟩
                case round =>
                  obtain ⟨x, hx1, rfl⟩ := hrel
                  by_cases hgo : x < m.t.size ∧ m.k ≤ 3
                  · obtain ⟨g1, g2⟩ := hgo
                    have HW2 : Hid (∀ w, Calls Try.prog 16 #[.int .u8 (m.t[x].toNat : Int)] w fun e w' => e = .returned (.bool true) ∧ w = w') := by
                      intro w; rw [← HF.out.word g2 x g1, ← bt_get m.t x g1]; exact lWord_any _ _
                    go_wp2_with (go_at_call 16; refine (HW2.out _).mono ?_; rintro e w' ⟨rfl, rfl⟩)
                    go_round
                    case rel => exact ⟨x + 1, by omega, by go_num⟩
                    case measure => simp [intOf]; omega
                  · have hcs : ¬ x < m.t.size ∨ (x < m.t.size ∧ 3 < m.k) := by omega
                    rcases hcs with g1 | ⟨g1, g2⟩
                    all_goals try (exfalso; omega)
                    all_goals
                      go_wp2
                      go_roundw
                      case rel => exact ⟨j + 1, m.p + m.t.size, by omega, by omega, by go_num, by go_num, HDR.out, prevOk_step HF.out, hb6⟩
                      case measure => simp [intOf]; omega
      · have HB := Lib.hid (drop_end hq HD.out hlt)
        go_wp2
        go_loop [13] (fun k => ∃ r : Nat, q ≤ r ∧ r ≤ s.size ∧ k = .int .i64 r) (fun k => s.size - (intOf k).toNat)
        case atStart => exact ⟨q, by omega, by omega, rfl⟩
        case round =>
          obtain ⟨r, hr1, hr2, rfl⟩ := hrel
          by_cases hrs : r < s.size
          · have HB2 : Hid (∀ w, Calls Try.prog 15 #[.int .u8 (s[r].toNat : Int)] w fun e w' => e = .returned (.bool true) ∧ w = w') := by
              intro w; rw [← HB.out r hr1 hrs, ← bt_get s r hrs]; exact lBlank_any _ _
            go_wp2_with (go_at_call 15; refine (HB2.out _).mono ?_; rintro e w' ⟨rfl, rfl⟩)
            go_round
            case rel => exact ⟨r + 1, by omega, by omega, by go_num⟩
            case measure => simp [intOf]; omega
          · go_wp2_with (go_at_call 14; refine (awake_any _).mono ?_; rintro e w2 ⟨rfl, hb2⟩)
            go_ret
            exact ⟨rfl, below_then (below_then hb1 hbel) hb2⟩
end Go.Proofs.Ytjnccfgnakggkaa
