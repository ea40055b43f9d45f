import Derived.Test.YtbpipnjdfmpbdaaRtJ
import Derived.Test.YtbpipnjdfmpbdaaRxCu
namespace Go.Proofs.Ytbpipnjdfmpbdaa
open Go.RowKit Go.Shelf

set_option maxRecDepth 100000 in
set_option maxHeartbeats 3200000 in
theorem regexCuts_any (s m : ByteArray) (hs : s.size ≤ 140737488351232) (hm : m.size ≤ 140737488351232) (w : World) : Calls Try.prog 5 #[.string s, .string m] w fun e w' => e = .returned (.bool true) ∧ Below w.heap.size w w' := by
  have H1 := Lib.hid (xParse_any s w)
  have HH := Lib.hid head_any
  have HP := Lib.hid (fun s w => xParse_any s w)
  by_cases h : (parseS s).2.2 = 172
  · obtain ⟨a, ha, hal⟩ := cuts_place s h
    have HS := Lib.hid (cuts_short s a h ha)
    have HM := Lib.hid (fun hlt hsz => cuts_more s m a h ha hlt hsz)
    have HF : Hid (a = s.size → (parseS (s.extract 0 a)).2.2 = 172) := fun e => by
      have : s.extract 0 a = s := by rw [e]; exact ByteArray.extract_zero_size
      rw [this]; exact h
    have HQ : Hid (parseS s = ((parseS s).1, (a : Int), 172)) := Prod.ext rfl (Prod.ext ha h)
    rw [HQ.out] at H1
    clear h ha
    go_enter Try.func5, Try.ntmps5
    go_wp2_with fail
    refine (H1.out).mono ?_
    rintro ee w1 ⟨v, rfl, ho, hb⟩
    have HB := Lib.hid hb
    obtain ⟨_, ao, cp, rfl, -⟩ := Rd.of_owns ho
    clear ho hb
    by_cases h6 : a = s.size
    · subst h6
      have H2 := Lib.hid (fun w => HP.out s w)
      rw [HQ.out] at H2
      clear H1 HS HF HM
      go_wp2_with (first | (go_at_call 19; refine (HH.out _).mono ?_; rintro ee w3 ⟨rfl, hb3⟩; have HB3 := Lib.hid (HB.out.trans (hb3.mono HB.out.size)); clear hb3) | (go_at_call 14; refine (H2.out _).mono ?_; rintro ee w4 ⟨v4, rfl, ho4, hb4⟩; have HB4 := Lib.hid (HB3.out.trans (hb4.mono HB3.out.size)); obtain ⟨_, ao4, cp4, rfl, -⟩ := Rd.of_owns ho4; clear ho4 hb4))
      go_ret
      exact ⟨rfl, HB4.out⟩
    · have hlt : a < s.size := by omega
      have hne : ((a : Int) == s.size) = false := by simp; omega
      have H2 := Lib.hid (fun w => HP.out (s.extract 0 a) w)
      clear H1 h6
      have HM2 := Lib.hid (HM.out hlt)
      have H3 := Lib.hid (fun w => HP.out (s ++ ⟨#[32]⟩ ++ m) w)
      have hs2 : (s ++ ⟨#[32]⟩).size = s.size + 1 := by rw [ByteArray.size_append]; rfl
      clear HM HF
      by_cases h5 : (parseS (s.extract 0 a)).2.2 = 172
      · rw [show parseS (s.extract 0 a) = ((parseS (s.extract 0 a)).1, (a : Int), 172) from Prod.ext rfl (Prod.ext (HS.out h5) h5)] at H2
        clear h5 HS
        by_cases h7 : s.size + m.size ≤ 2047
        · have e3 := HM2.out h7
          rw [show parseS (s ++ ⟨#[32]⟩ ++ m) = ((parseS (s ++ ⟨#[32]⟩ ++ m)).1, (a : Int), 172) from Prod.ext rfl (Prod.ext e3.2 e3.1)] at H3
          clear HM2 e3
          have hg : ¬ (2047 : Int) < s.size + m.size := by omega
          go_wp2_with (first | (go_at_call 19; refine (HH.out _).mono ?_; rintro ee w3 ⟨rfl, hb3⟩; have HB3 := Lib.hid (HB.out.trans (hb3.mono HB.out.size)); clear hb3) | (go_at_call 14; have hz9 := HB4.out.size; clear hz9; refine (H3.out _).mono ?_; rintro ee w5 ⟨v5, rfl, ho5, hb5⟩; have HB5 := Lib.hid (HB4.out.trans (hb5.mono HB4.out.size)); obtain ⟨_, ao5, cp5, rfl, -⟩ := Rd.of_owns ho5; clear ho5 hb5) | (go_at_call 14; refine (H2.out _).mono ?_; rintro ee w4 ⟨v4, rfl, ho4, hb4⟩; have HB4 := Lib.hid (HB3.out.trans (hb4.mono HB3.out.size)); obtain ⟨_, ao4, cp4, rfl, -⟩ := Rd.of_owns ho4; clear ho4 hb4))
          go_ret
          exact ⟨rfl, HB5.out⟩
        · have hg : (2047 : Int) < s.size + m.size := by omega
          clear HM2 H3
          go_wp2_with (first | (go_at_call 19; refine (HH.out _).mono ?_; rintro ee w3 ⟨rfl, hb3⟩; have HB3 := Lib.hid (HB.out.trans (hb3.mono HB.out.size)); clear hb3) | (go_at_call 14; refine (H2.out _).mono ?_; rintro ee w4 ⟨v4, rfl, ho4, hb4⟩; have HB4 := Lib.hid (HB3.out.trans (hb4.mono HB3.out.size)); obtain ⟨_, ao4, cp4, rfl, -⟩ := Rd.of_owns ho4; clear ho4 hb4))
          go_ret
          exact ⟨rfl, HB4.out⟩
      · have hn5 : ((parseS (s.extract 0 a)).2.2 == 172) = false := by simpa using h5
        clear h5 HS
        generalize parseS (s.extract 0 a) = r2 at *
        obtain ⟨l2, a2, e2⟩ := r2
        simp only at hn5
        by_cases h7 : s.size + m.size ≤ 2047
        · have e3 := HM2.out h7
          rw [show parseS (s ++ ⟨#[32]⟩ ++ m) = ((parseS (s ++ ⟨#[32]⟩ ++ m)).1, (a : Int), 172) from Prod.ext rfl (Prod.ext e3.2 e3.1)] at H3
          clear HM2 e3
          have hg : ¬ (2047 : Int) < s.size + m.size := by omega
          go_wp2_with (first | (go_at_call 19; refine (HH.out _).mono ?_; rintro ee w3 ⟨rfl, hb3⟩; have HB3 := Lib.hid (HB.out.trans (hb3.mono HB.out.size)); clear hb3) | (go_at_call 14; have hz9 := HB4.out.size; clear hz9; refine (H3.out _).mono ?_; rintro ee w5 ⟨v5, rfl, ho5, hb5⟩; have HB5 := Lib.hid (HB4.out.trans (hb5.mono HB4.out.size)); obtain ⟨_, ao5, cp5, rfl, -⟩ := Rd.of_owns ho5; clear ho5 hb5) | (go_at_call 14; refine (H2.out _).mono ?_; rintro ee w4 ⟨v4, rfl, ho4, hb4⟩; have HB4 := Lib.hid (HB3.out.trans (hb4.mono HB3.out.size)); obtain ⟨_, ao4, cp4, rfl, -⟩ := Rd.of_owns ho4; clear ho4 hb4))
          go_ret
          exact ⟨rfl, HB5.out⟩
        · have hg : (2047 : Int) < s.size + m.size := by omega
          clear HM2 H3
          go_wp2_with (first | (go_at_call 19; refine (HH.out _).mono ?_; rintro ee w3 ⟨rfl, hb3⟩; have HB3 := Lib.hid (HB.out.trans (hb3.mono HB.out.size)); clear hb3) | (go_at_call 14; refine (H2.out _).mono ?_; rintro ee w4 ⟨v4, rfl, ho4, hb4⟩; have HB4 := Lib.hid (HB3.out.trans (hb4.mono HB3.out.size)); obtain ⟨_, ao4, cp4, rfl, -⟩ := Rd.of_owns ho4; clear ho4 hb4))
          go_ret
          exact ⟨rfl, HB4.out⟩
  · have h2 : ((parseS s).2.2 != 172) = true := by simpa using h
    generalize parseS s = r at *
    obtain ⟨l, a, e⟩ := r
    simp only at h h2
    clear h
    go_enter Try.func5, Try.ntmps5
    go_wp2_with fail
    refine (H1.out).mono ?_
    rintro ee w1 ⟨v, rfl, ho, hb⟩
    have HB := Lib.hid hb
    obtain ⟨_, ao, cp, rfl, -⟩ := Rd.of_owns ho
    clear ho hb
    go_wp2_with (go_at_call 19; refine (HH.out _).mono ?_; rintro ee w3 ⟨rfl, hb3⟩; have HB3 := Lib.hid (HB.out.trans (hb3.mono HB.out.size)); clear hb3)
    go_ret
    exact ⟨rfl, HB3.out⟩
end Go.Proofs.Ytbpipnjdfmpbdaa
