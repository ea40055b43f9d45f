import Derived.Test.YtbpipnjdfmpbdaaRtM1
namespace Go.Proofs.Ytbpipnjdfmpbdaa
open Go.RowKit Go.Shelf

theorem nd_box (w : World) (a b c : Value) (t : TypeId) : (w.alloc (.cells #[a, b, c] t)).cell? ⟨w.heap.size, 2, none⟩ = some c := by
  rw [World.cell?_alloc_at _ _ _ _ rfl]; rfl

set_option maxRecDepth 100000 in
set_option maxHeartbeats 3200000 in
theorem xMay_any (x : Nd) (w : World) :
    Calls Try.prog 85 #[.agg #[.int .i64 x.k, .string x.n, .int .i64 x.c]] w fun e w' => e = .returned (.bool (mayB x)) ∧ Below w.heap.size w w' := by
  have HU := Lib.hid (fun w => xNamed_any x.n _ 1 w (.inl ⟨rfl, rfl⟩))
  have HL := Lib.hid (fun w => xNamed_any x.n _ 2 w (.inr ⟨rfl, rfl⟩))
  have hcase : x.k = 1 ∨ x.k = 2 ∨ x.k = 3 ∨ x.k = 4 ∨ x.k = 5 ∨ x.k = 6 ∨ x.k = 7 ∨ x.k = 8 ∨ (x.k ≠ 1 ∧ x.k ≠ 2 ∧ x.k ≠ 3 ∧ x.k ≠ 4 ∧ x.k ≠ 5 ∧ x.k ≠ 6 ∧ x.k ≠ 7 ∧ x.k ≠ 8) := by omega
  obtain ⟨k, t, c⟩ := x
  simp only at hcase HU HL ⊢
  rcases hcase with rfl | rfl | rfl | rfl | rfl | rfl | rfl | rfl | h
  · have HM : Hid (mayB ⟨1, t, c⟩ = (t.toList.isEmpty && c == 0)) := rfl
    cases h1 : t.toList.isEmpty <;> cases h2 : (c == 0)
    all_goals
      have h1' := h1
      rw [h1, h2] at HM
      go_enter Try.func85, Try.ntmps85
      go_wp2_with fail
      go_ret
      exact ⟨by rw [HM.out]; rfl, below1 _ _⟩
  · have HM : Hid (mayB ⟨2, t, c⟩ = (nameB t 1 && c == 0)) := rfl
    generalize nameB t 1 = n1 at *
    cases n1 <;> cases h2 : (c == 0)
    all_goals
      rw [h2] at HM
      go_enter Try.func85, Try.ntmps85
      go_wp2_with (go_at_call 107; refine (HU.out _).mono ?_; rintro e w' ⟨rfl, rfl⟩)
      go_ret
      exact ⟨by rw [HM.out]; rfl, below1 _ _⟩
  · have HM : Hid (mayB ⟨3, t, c⟩ = (nameB t 2 && c == 0)) := rfl
    generalize nameB t 2 = n1 at *
    cases n1 <;> cases h2 : (c == 0)
    all_goals
      rw [h2] at HM
      go_enter Try.func85, Try.ntmps85
      go_wp2_with (go_at_call 107; refine (HL.out _).mono ?_; rintro e w' ⟨rfl, rfl⟩)
      go_ret
      exact ⟨by rw [HM.out]; rfl, below1 _ _⟩
  · have HM : Hid (mayB ⟨4, t, c⟩ = (t.toList.isEmpty && decide (2 ≤ c))) := rfl
    cases h1 : t.toList.isEmpty <;> cases h2 : decide (2 ≤ c)
    all_goals
      rw [h1, h2] at HM
      go_enter Try.func85, Try.ntmps85
      go_wp2_with fail
      go_ret
      exact ⟨by rw [HM.out]; rfl, below1 _ _⟩
  · have HM : Hid (mayB ⟨5, t, c⟩ = (t.toList.isEmpty && decide (2 ≤ c))) := rfl
    cases h1 : t.toList.isEmpty <;> cases h2 : decide (2 ≤ c)
    all_goals
      rw [h1, h2] at HM
      go_enter Try.func85, Try.ntmps85
      go_wp2_with fail
      go_ret
      exact ⟨by rw [HM.out]; rfl, below1 _ _⟩
  · have HM : Hid (mayB ⟨6, t, c⟩ = (t.toList.isEmpty && c == 1)) := rfl
    cases h1 : t.toList.isEmpty <;> cases h2 : (c == 1)
    all_goals
      rw [h1, h2] at HM
      go_enter Try.func85, Try.ntmps85
      go_wp2_with fail
      go_ret
      exact ⟨by rw [HM.out]; rfl, below1 _ _⟩
  · have HM : Hid (mayB ⟨7, t, c⟩ = (t.toList.isEmpty && c == 1)) := rfl
    cases h1 : t.toList.isEmpty <;> cases h2 : (c == 1)
    all_goals
      rw [h1, h2] at HM
      go_enter Try.func85, Try.ntmps85
      go_wp2_with fail
      go_ret
      exact ⟨by rw [HM.out]; rfl, below1 _ _⟩
  · have HM : Hid (mayB ⟨8, t, c⟩ = (t.toList.isEmpty && c == 1)) := rfl
    cases h1 : t.toList.isEmpty <;> cases h2 : (c == 1)
    all_goals
      rw [h1, h2] at HM
      go_enter Try.func85, Try.ntmps85
      go_wp2_with fail
      go_ret
      exact ⟨by rw [HM.out]; rfl, below1 _ _⟩
  · obtain ⟨a1, a2, a3, a4, a5, a6, a7, a8⟩ := h
    have HM : Hid (mayB ⟨k, t, c⟩ = false) := by
      unfold Hid mayB
      simp only
      rw [if_neg a1, if_neg a2, if_neg a3, if_neg (by omega), if_neg (by omega)]
    have b1 : (k == 1) = false := by simpa using a1
    have b2 : (k == 2) = false := by simpa using a2
    have b3 : (k == 3) = false := by simpa using a3
    have b4 : (k == 4) = false := by simpa using a4
    have b5 : (k == 5) = false := by simpa using a5
    have b6 : (k == 6) = false := by simpa using a6
    have b7 : (k == 7) = false := by simpa using a7
    have b8 : (k == 8) = false := by simpa using a8
    clear a1 a2 a3 a4 a5 a6 a7 a8
    go_enter Try.func85, Try.ntmps85
    go_wp2_with fail
    go_ret
    exact ⟨by rw [HM.out]; rfl, below1 _ _⟩

set_option maxRecDepth 100000 in
set_option maxHeartbeats 3200000 in
theorem xWhole_any (v : Value) (N : List Nd) (w : World) (h : RdNd w v N) (hl : N.length ≤ 16777216) :
    Calls Try.prog 55 #[v] w fun e w' => e = .returned (.bool (treeB N)) ∧ Below w.heap.size w w' := by
  have HR := Lib.hid h
  obtain ⟨_, ao, cap, rfl, -⟩ := id h
  have htg0 : treeB N = (decide (0 < N.length) && trB N.length (N.drop 0) 1) := rfl
  obtain ⟨n, hn⟩ : ∃ n, n = N.length := ⟨_, rfl⟩
  have HN := Lib.hid hn
  rw [← hn] at hl HR htg0 ⊢
  clear h hn
  generalize treeB N = tg at *
  have HT := Lib.hid htg0
  clear htg0
  go_enter Try.func55, Try.ntmps55
  go_wp2_with fail
  go_loopw [3, 8] (fun o a wr => ∃ (t want : Nat), a = .int .i64 t ∧ o = .int .i64 want ∧ t ≤ n ∧ want ≤ 1 + t * 16777216 ∧ Hid (Below w.heap.size w wr) ∧ Hid (tg = (decide (0 < n) && trB n (N.drop t) want))) (fun _ a _ => n - (intOf a).toNat)
  case atStart => exact ⟨0, 1, rfl, rfl, by omega, by omega, Below.refl _ _, HT.out⟩
  case round =>
    obtain ⟨t, want, rfl, rfl, ht, hw, HBel, HE⟩ := hrel
    have hws := HBel.out.size
    by_cases hlt : t < n
    · obtain ⟨x, hx⟩ : ∃ x, N[t]? = some x := ⟨_, List.getElem?_eq_getElem (by have := HN.out; omega)⟩
      obtain ⟨b, off, cp, e1, hb, hc, x0, x1, x2⟩ := RdNd.at (l := N) (by have := HR.out; rw [HN.out] at this; exact this) hx
      rw [← HN.out] at e1
      simp only [Value.slice.injEq] at e1
      obtain ⟨rfl, -, rfl⟩ := e1
      have X0 := (HBel.out.cell (p := ⟨b, _, none⟩) hb).trans x0
      have X1 := (HBel.out.cell (p := ⟨b, _, none⟩) hb).trans x1
      have X2 := (HBel.out.cell (p := ⟨b, _, none⟩) hb).trans x2
      have hd : N.drop t = x :: N.drop (t + 1) := by
        have hlt2 : t < N.length := by have := HN.out; omega
        rw [List.drop_eq_getElem_cons hlt2]
        have := List.getElem?_eq_getElem hlt2
        rw [hx] at this
        simp only [Option.some.injEq] at this
        rw [← this]
      have hn0 : decide (0 < n) = true := decide_eq_true (by omega)
      have HE2 : Hid (tg = if want = 0 then false else if mayB x = true ∧ x.c ≤ n then trB n (N.drop (t + 1)) (want - 1 + x.c.toNat) else false) := by
        unfold Hid
        rw [HE.out, hd, trB_cons, hn0]; rfl
      have HN0 := Lib.hid hn0
      have HM := Lib.hid (fun w => xMay_any x w)
      have hbw : b < wr.heap.size := by omega
      clear x0 x1 x2 hx hd hn0
      by_cases hw0 : want = 0
      · have HE3 : Hid (tg = false) := by unfold Hid; rw [HE2.out, if_pos hw0]
        subst hw0
        go_wp2_with fail
        go_ret
        exact ⟨congrArg (fun x => Ending.returned (.bool x)) HE3.out.symm, HBel.out.trans ((below1 _ _).mono hws)⟩
      · have hwp : 0 < want := by omega
        have hz0 : ((want : Int) == 0) = false := by simp; omega
        cases hmb : mayB x with
        | false =>
          rw [hmb] at HM
          have HE3 : Hid (tg = false) := by unfold Hid; rw [HE2.out, if_neg hw0, if_neg (by rw [hmb]; simp)]
          clear hmb hw0
          go_wp2_with (go_at_call 85; refine (HM.out _).mono ?_; rintro e w2 ⟨rfl, hb2⟩)
          go_ret
          exact ⟨congrArg (fun x => Ending.returned (.bool x)) HE3.out.symm, (HBel.out.alloc hws _).trans (hb2.mono (by simp; omega))⟩
        | true =>
          rw [hmb] at HM
          have hc0 := ((mayB_iff x).1 hmb).c
          by_cases hcl : x.c ≤ n
          · have HE3 : Hid (tg = (decide (0 < n) && trB n (N.drop (t + 1)) (want - 1 + x.c.toNat))) := by unfold Hid; rw [HE2.out, if_neg hw0, if_pos ⟨hmb, hcl⟩, HN0.out]; rfl
            obtain ⟨c, hc⟩ : ∃ c : Nat, x.c = c := ⟨x.c.toNat, by omega⟩
            rw [hc] at X2 HE3 hcl HM
            have hcn : c ≤ n := by omega
            have hcn2 : decide ((n : Int) < (c : Int)) = false := by simp; omega
            clear hmb HE2 hw0
            go_wp2_with (go_at_call 85; refine (HM.out _).mono ?_; rintro e w2 ⟨rfl, hb2⟩; have HB2 := Lib.hid hb2; have X2' : w2.cell? ⟨wr.heap.size, 2, none⟩ = some (.int .i64 c) := (hb2.cell (p := ⟨wr.heap.size, 2, none⟩) (by simp)).trans (nd_box _ _ _ _ _); clear hb2)
            have HB3 : Hid (Below w.heap.size w w2) := (HBel.out.alloc hws _).trans (HB2.out.mono (by simp; omega))
            clear X2 X2' X0 X1
            go_roundw
            case rel => exact ⟨t + 1, want - 1 + c, by go_num, by go_num, by omega, by omega, HB3.out, by unfold Hid; have := HE3.out; simpa using this⟩
            case measure => simp [intOf]; omega
          · have HE3 : Hid (tg = false) := by unfold Hid; rw [HE2.out, if_neg hw0, if_neg (by rintro ⟨_, h⟩; exact hcl h)]
            have hcl' : (n : Int) < x.c := by omega
            clear hmb HE2 hw0
            go_wp2_with (go_at_call 85; refine (HM.out _).mono ?_; rintro e w2 ⟨rfl, hb2⟩; have HB2 := Lib.hid hb2; have X2' : w2.cell? ⟨wr.heap.size, 2, none⟩ = some (.int .i64 x.c) := (hb2.cell (p := ⟨wr.heap.size, 2, none⟩) (by simp)).trans (nd_box _ _ _ _ _); clear hb2)
            go_ret
            exact ⟨congrArg (fun x => Ending.returned (.bool x)) HE3.out.symm, (HBel.out.alloc hws _).trans (HB2.out.mono (by simp; omega))⟩
    · obtain rfl : t = n := by omega
      have HE3 : Hid (tg = (decide (0 < t) && decide (want = 0))) := by
        unfold Hid
        rw [HE.out, List.drop_eq_nil_of_le (by have := HN.out; omega), trB_nil]
      by_cases hw0 : want = 0
      · subst hw0
        by_cases ht0 : t = 0
        · have HE4 : Hid (tg = false) := by unfold Hid; rw [HE3.out, ht0]; rfl
          subst ht0
          go_wp2_with fail
          go_ret
          exact ⟨congrArg (fun x => Ending.returned (.bool x)) HE4.out.symm, HBel.out⟩
        · have HE4 : Hid (tg = true) := by unfold Hid; rw [HE3.out, decide_eq_true (by omega)]; rfl
          have htp : 0 < t := by omega
          clear ht0
          go_wp2_with fail
          go_ret
          exact ⟨congrArg (fun x => Ending.returned (.bool x)) HE4.out.symm, HBel.out⟩
      · have HE4 : Hid (tg = false) := by unfold Hid; rw [HE3.out, decide_eq_false hw0, Bool.and_false]
        have hwp : 0 < want := by omega
        clear hw0
        go_wp2_with fail
        go_ret
        exact ⟨congrArg (fun x => Ending.returned (.bool x)) HE4.out.symm, HBel.out⟩

set_option maxRecDepth 100000 in
set_option maxHeartbeats 1600000 in
theorem rIsTree_any (v : Value) (N : List Nd) (w : World) (h : RdNd w v N) (hl : N.length ≤ 16777216) :
    Calls Try.prog 60 #[v] w fun e w' => e = .returned (.bool (treeB N)) ∧ Below w.heap.size w w' := by
  by_cases h0 : N.length = 0
  · obtain ⟨_, ao, cap, rfl, -⟩ := h
    have HT : Hid (treeB N = false) := by unfold Hid treeB; rw [h0]; rfl
    rw [h0]
    go_enter Try.func60, Try.ntmps60
    go_wp2_with fail
    go_ret
    exact ⟨congrArg (fun x => Ending.returned (.bool x)) HT.out.symm, Below.refl _ _⟩
  · have HE := Lib.hid (rEnd_any v N 0 w h hl (Nat.zero_le _))
    have hT : treeB N = (endR 0 (endL N.length (N.drop 0) 1) == (N.length : Int)) := by
      unfold treeB trB
      rw [decide_eq_true (by omega : 0 < N.length), List.drop_zero, Bool.true_and]
      cases endL N.length N 1 with
      | none => simp [endR]
      | some k =>
        simp only [endR, Option.some.injEq, Nat.zero_add]
        rw [Bool.eq_iff_iff]; simp; omega
    have HT := Lib.hid hT
    obtain ⟨_, ao, cap, rfl, -⟩ := h
    clear hT
    generalize endR 0 (endL N.length (N.drop 0) 1) = en at *
    generalize treeB N = tg at *
    have hn : 0 < N.length := by omega
    generalize N.length = n at *
    rw [show ((0 : Nat) : Int) = 0 from rfl] at HE
    clear h0
    go_enter Try.func60, Try.ntmps60
    go_wp2_with (go_at_call 89; refine (HE.out).mono ?_; rintro e w2 ⟨rfl, hb2⟩)
    go_ret
    exact ⟨congrArg (fun x => Ending.returned (.bool x)) HT.out.symm, hb2⟩
end Go.Proofs.Ytbpipnjdfmpbdaa
