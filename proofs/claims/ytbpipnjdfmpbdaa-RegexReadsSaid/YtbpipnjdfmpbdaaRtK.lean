import Derived.Test.YtbpipnjdfmpbdaaRtJ
namespace Go.Proofs.Ytbpipnjdfmpbdaa
open Go.RowKit Go.Shelf

theorem read_len (s : ByteArray) : (readS s).1.length ≤ 4096 := by
  by_cases h0 : (readS s).2.2 = 0
  · obtain ⟨x, k, hG⟩ := read_tree s h0
    rw [hG.l, Fo.flat_len]
    simp only [Fo.size]; have := hG.size; omega
  · have : (readS s).1 = [] := by
      unfold readS at h0 ⊢
      split
      · rfl
      · rename_i hs
        rw [if_neg hs] at h0
        split
        · rename_i hc; rw [if_pos hc] at h0; exact absurd rfl h0
        · rfl
    rw [this]; simp
set_option maxRecDepth 100000 in
set_option maxHeartbeats 1600000 in
theorem regexReads_any (s : ByteArray) (_ : s.size ≤ maxLen) (w : World) : Calls Try.prog 4 #[.string s] w fun e w' => e = .returned (.bool true) ∧ Below w.heap.size w w' := by
  have H1 := Lib.hid (xRead_any s w)
  have H2 := Lib.hid (fun w => rRead_any s w)
  have HH := Lib.hid head_any
  have hlen := read_len s
  generalize readS s = r at *
  obtain ⟨l, a, e⟩ := r
  simp only at hlen
  go_enter Try.func4, Try.ntmps4
  go_wp2_with fail
  refine (H1.out).mono ?_
  rintro ee w1 ⟨v, rfl, ho, hb⟩
  have HO := Lib.hid ho
  have HB := Lib.hid hb
  obtain ⟨_, ao, cp, rfl, -⟩ := Rd.of_owns ho
  clear ho hb
  go_wp2_with fail
  refine (H2.out _).mono ?_
  rintro ee w2 ⟨v2, rfl, ho2, hb2⟩
  have HO2 := Lib.hid ho2
  have HK2 := Lib.hid (own_below HO.out hb2)
  have HB2 := Lib.hid (HB.out.trans (hb2.mono HB.out.size))
  obtain ⟨_, ao2, cp2, rfl, -⟩ := Rd.of_owns ho2
  clear ho2 hb2
  go_wp2_with (first | (go_at_call 19; refine (HH.out _).mono ?_; rintro ee w3 ⟨rfl, hb3⟩; have HO3 := Lib.hid (own_below HO2.out hb3); have HK3 := Lib.hid (own_below HK2.out hb3); have HB3 := Lib.hid (HB2.out.trans (hb3.mono HB2.out.size)); clear hb3) | (go_at_call 16; refine (rSame_any _ _ l l _ (RdNd.of_own HK3.out) (RdNd.of_own HO3.out) (by omega) (by omega)).mono ?_; rintro ee w4 ⟨rfl, hb4⟩; have HB4 := Lib.hid (HB3.out.trans (hb4.mono HB3.out.size)); clear hb4; rw [decide_eq_true (show l = l from rfl)]))
  go_ret
  exact ⟨rfl, HB4.out⟩
end Go.Proofs.Ytbpipnjdfmpbdaa
