import Derived.Test.YtbpipnjdfmpbdaaRtH
namespace Go.Proofs.Ytbpipnjdfmpbdaa
open Go.RowKit Go.Shelf

/-! ### Parse, plain -/
def boundsFo : Fo → Int
  | .nil => 0
  | .cons x k _ => boundsF x k
def parseS (s : ByteArray) : List Nd × Int × Int :=
  if (readS s).2.2 ≠ 0 then ([], (readS s).2.1, (readS s).2.2)
  else if longN (readS s).1 = true then ([], 0, 173)
  else if boundsFo (parsed s).f ≠ 0 then ([], 0, boundsFo (parsed s).f)
  else ((readS s).1, 0, 0)
theorem len_one (f : Fo) (h : f.len = 1) : ∃ x k, f = .cons x k .nil := by
  cases f with
  | nil => simp [Fo.len] at h
  | cons x k r =>
    cases r with
    | nil => exact ⟨x, k, rfl⟩
    | cons => simp [Fo.len] at h
structure GoodTree (s : ByteArray) (x : Nd) (k : Fo) : Prop where
  f : (parsed s).f = .cons x k .nil
  l : (readS s).1 = (Fo.cons x k .nil).flat
  wf : (Fo.cons x k .nil).wf
  vn : (Fo.cons x k .nil).all (vN (cut s 0).1)
  size : k.size + 1 ≤ 4096
  toks : (cut s 0).1.length ≤ 2048
  small : s.size ≤ 2048
  long : longN (Fo.cons x k .nil).flat = longM (cut s 0).1
theorem read_tree (s : ByteArray) (h : (readS s).2.2 = 0) : ∃ x k, GoodTree s x k := by
  by_cases hs : 2048 < s.size
  · unfold readS at h; rw [if_pos hs] at h; exact absurd h (by decide)
  · by_cases hc : (parsed s).ok = true ∧ (parsed s).p = (cut s 0).1.length ∧ (cut s 0).2 = s.size
    · have hlen := cut_len s s.size 0 (by omega) (by omega)
      have hpb : PB (cut s 0).1 0 (parsed s) := pExpr_b (cut s 0).1 ((cut s 0).1.length + 1) 0 (by omega)
      obtain ⟨x, k, hf⟩ := len_one _ (hpb.one hc.1)
      have V : VF (cut s 0).1 0 (parsed s) := pExpr_vf (cut s 0).1 _ 0
      have e : (readS s).1 = (parsed s).f.flat := by unfold readS; rw [if_neg hs, if_pos hc]
      have hl := long_same s _ hc.1 hc.2.1
      change longN (parsed s).f.flat = _ at hl
      have hsz := hpb.size hc.1
      have h2 := V.all hc.1
      have h3 := hpb.wf hc.1
      rw [hf] at hl e hsz h2 h3
      refine ⟨x, k, hf, e, h3, h2, ?_, by omega, by omega, hl⟩
      simp only [Fo.size] at hsz
      have := hc.2.1
      omega
    · unfold readS at h; rw [if_neg hs, if_neg hc] at h; exact absurd h (by simp)
theorem GoodTree.may {s : ByteArray} {x : Nd} {k : Fo} (h : GoodTree s x k) (hn : longN (Fo.cons x k .nil).flat = false) : (Fo.cons x k .nil).all mayN := by
  rw [Fo.all_flat]
  intro y hy
  have hv := (Fo.all_flat _).1 h.vn y hy
  unfold longN at hn
  rw [List.any_eq_false] at hn
  have := hn y hy
  exact vN_may hv (by simpa using this)

set_option maxRecDepth 100000 in
set_option maxHeartbeats 1600000 in
theorem xParse_any (s : ByteArray) (w : World) : Calls Try.prog 14 #[.string s] w (RRet w (parseS s)) := by
  have HRd := Lib.hid (xRead_any s w)
  by_cases h0 : (readS s).2.2 = 0
  · obtain ⟨x, k, hG⟩ := read_tree s h0
    have hR : readS s = ((Fo.cons x k .nil).flat, (readS s).2.1, 0) := by
      rw [← hG.l]; exact Prod.ext rfl (Prod.ext rfl h0)
    have hP : parseS s = if longN (Fo.cons x k .nil).flat = true then ([], 0, 173) else if boundsF x k ≠ 0 then ([], 0, boundsF x k) else ((Fo.cons x k .nil).flat, 0, 0) := by
      unfold parseS; rw [if_neg (by rw [h0]; simp), hG.l, hG.f]; rfl
    rw [hR] at HRd
    have hfl : (Fo.cons x k .nil).flat.length = k.size + 1 := by rw [Fo.flat_len]; simp [Fo.size]
    have hsz := hG.size
    have HC : Hid (∀ v w, RdNd w v (Fo.cons x k .nil).flat → Calls Try.prog 39 #[v, .func (.func 40) #[] #[]] w fun e w' => e = .returned (.bool (longN (Fo.cons x k .nil).flat)) ∧ Below w.heap.size w w') :=
      fun v w h => xContains_any v _ w h (by omega)
    have HBd : Hid (∀ v w, longN (Fo.cons x k .nil).flat = false → RdNd w v (Fo.cons x k .nil).flat → Calls Try.prog 41 #[v] w fun e w' => e = .returned (.int .i64 (boundsF x k)) ∧ Below w.heap.size w w') := by
      intro v w hn h
      obtain ⟨b, off, cap, rfl, hc, hat⟩ := NdAt.of_rd h (by omega)
      rw [hfl] at hc ⊢
      exact xBounded_any b off cap x k w hat hG.wf (hG.may hn) hc (by omega)
    clear hG h0 hR
    generalize (readS s).2.1 = a0 at *
    generalize (Fo.cons x k .nil).flat = l at *
    generalize boundsF x k = bd at *
    have HP := Lib.hid hP
    clear hP hfl
    by_cases hn : longN l = true
    · have HE : Hid (parseS s = ([], 0, 173)) := by unfold Hid; rw [HP.out, if_pos hn]
      rw [hn] at HC
      clear hn HP HBd
      go_enter Try.func14, Try.ntmps14
      go_wp2_with fail
      refine (HRd.out).mono ?_
      rintro e w1 ⟨v, rfl, ho, hb⟩
      have HO := Lib.hid ho
      have HB := Lib.hid hb
      obtain ⟨_, ao, cp, rfl, -⟩ := Rd.of_owns ho
      clear ho hb
      go_wp2_with fail
      refine (HC.out _ _ (RdNd.of_own HO.out)).mono ?_
      rintro e w2 ⟨rfl, hb2⟩
      have HB2 := Lib.hid (HB.out.trans (hb2.mono HB.out.size))
      clear hb2
      go_wp2_with fail
      go_ret3
      rw [HE.out]
      exact ⟨_, rfl, World.ownsRow_nil _ _ _ _, HB2.out⟩
    · have hn2 : longN l = false := by simpa using hn
      have HBd2 := Lib.hid (fun v w => HBd.out v w hn2)
      rw [if_neg hn] at HP
      rw [hn2] at HC
      clear hn hn2 HBd
      by_cases hb0 : bd = 0
      · subst hb0
        have HE : Hid (parseS s = (l, 0, 0)) := by unfold Hid; rw [HP.out, if_neg (by simp)]
        clear HP
        go_enter Try.func14, Try.ntmps14
        go_wp2_with fail
        refine (HRd.out).mono ?_
        rintro e w1 ⟨v, rfl, ho, hb⟩
        have HO := Lib.hid ho
        have HB := Lib.hid hb
        obtain ⟨_, ao, cp, rfl, -⟩ := Rd.of_owns ho
        clear ho hb
        go_wp2_with fail
        refine (HC.out _ _ (RdNd.of_own HO.out)).mono ?_
        rintro e w2 ⟨rfl, hb2⟩
        have HO2 := Lib.hid (own_below HO.out hb2)
        have HB2 := Lib.hid (HB.out.trans (hb2.mono HB.out.size))
        clear hb2
        go_wp2_with fail
        refine (HBd2.out _ _ (RdNd.of_own HO2.out)).mono ?_
        rintro e w3 ⟨rfl, hb3⟩
        have HO3 := Lib.hid (own_below HO2.out hb3)
        have HB3 := Lib.hid (HB2.out.trans (hb3.mono HB2.out.size))
        clear hb3
        go_wp2_with fail
        go_ret3
        rw [HE.out]
        exact ⟨_, rfl, HO3.out, HB3.out⟩
      · have hbn : (bd != 0) = true := by simp [hb0]
        have HE : Hid (parseS s = ([], 0, bd)) := by unfold Hid; rw [HP.out, if_pos hb0]
        clear HP hb0
        go_enter Try.func14, Try.ntmps14
        go_wp2_with fail
        refine (HRd.out).mono ?_
        rintro e w1 ⟨v, rfl, ho, hb⟩
        have HO := Lib.hid ho
        have HB := Lib.hid hb
        obtain ⟨_, ao, cp, rfl, -⟩ := Rd.of_owns ho
        clear ho hb
        go_wp2_with fail
        refine (HC.out _ _ (RdNd.of_own HO.out)).mono ?_
        rintro e w2 ⟨rfl, hb2⟩
        have HO2 := Lib.hid (own_below HO.out hb2)
        have HB2 := Lib.hid (HB.out.trans (hb2.mono HB.out.size))
        clear hb2
        go_wp2_with fail
        refine (HBd2.out _ _ (RdNd.of_own HO2.out)).mono ?_
        rintro e w3 ⟨rfl, hb3⟩
        have HB3 := Lib.hid (HB2.out.trans (hb3.mono HB2.out.size))
        clear hb3
        go_wp2_with fail
        go_ret3
        rw [HE.out]
        exact ⟨_, rfl, World.ownsRow_nil _ _ _ _, HB3.out⟩
  · have HE : Hid (parseS s = ([], (readS s).2.1, (readS s).2.2)) := by unfold Hid parseS; rw [if_pos h0]
    have hn : ((readS s).2.2 != 0) = true := by simp [h0]
    generalize (readS s) = r at *
    obtain ⟨l, a, e⟩ := r
    simp only at h0 hn HE
    go_enter Try.func14, Try.ntmps14
    go_wp2_with fail
    refine (HRd.out).mono ?_
    rintro e w1 ⟨v, rfl, ho, hb⟩
    clear ho
    go_wp2_with fail
    go_ret3
    rw [HE.out]
    exact ⟨_, rfl, World.ownsRow_nil _ _ _ _, hb⟩

set_option maxRecDepth 100000 in
set_option maxHeartbeats 1600000 in
theorem rParse_any (s : ByteArray) (w : World) : Calls Try.prog 15 #[.string s] w (RRet w (parseS s)) := by
  have HRd := Lib.hid (rRead_any s w)
  by_cases h0 : (readS s).2.2 = 0
  · obtain ⟨x, k, hG⟩ := read_tree s h0
    have hR : readS s = ((Fo.cons x k .nil).flat, (readS s).2.1, 0) := by
      rw [← hG.l]; exact Prod.ext rfl (Prod.ext rfl h0)
    have hP : parseS s = if longM (cut s 0).1 = true then ([], 0, 173) else if boundsF x k ≠ 0 then ([], 0, boundsF x k) else ((Fo.cons x k .nil).flat, 0, 0) := by
      unfold parseS; rw [if_neg (by rw [h0]; simp), hG.l, hG.f, hG.long]; rfl
    rw [hR] at HRd
    have hfl : (Fo.cons x k .nil).flat.length = k.size + 1 := by rw [Fo.flat_len]; simp [Fo.size]
    have hsz := hG.size
    have hsm := hG.small
    have htk := hG.toks
    have HT := Lib.hid (fun w => rToks_any s w (by omega))
    have HC : Hid (∀ v w, RdTk w v (cut s 0).1 → Calls Try.prog 43 #[v] w fun e w' => e = .returned (.bool (longM (cut s 0).1)) ∧ w = w') :=
      fun v w h => rTooLong_any v _ w h (by omega)
    have HBd : Hid (∀ v w, longM (cut s 0).1 = false → RdNd w v (Fo.cons x k .nil).flat → Calls Try.prog 44 #[v] w fun e w' => e = .returned (.int .i64 (boundsF x k)) ∧ Below w.heap.size w w') := by
      intro v w hn h
      have hm := hG.may (by rw [hG.long]; exact hn)
      exact rBounds_any v _ x k [] w h (by omega) ⟨by rw [List.drop_zero, List.append_nil], hG.wf, hm⟩
    clear hG h0 hR
    generalize (readS s).2.1 = a0 at *
    generalize (Fo.cons x k .nil).flat = l at *
    generalize (cut s 0).1 = M at *
    generalize badI s = bs at *
    generalize boundsF x k = bd at *
    have HP := Lib.hid hP
    clear hP hfl
    by_cases hn : longM M = true
    · have HE : Hid (parseS s = ([], 0, 173)) := by unfold Hid; rw [HP.out, if_pos hn]
      rw [hn] at HC
      clear hn HP HBd
      go_enter Try.func15, Try.ntmps15
      go_wp2_with fail
      refine (HRd.out).mono ?_
      rintro e w1 ⟨v, rfl, ho, hb⟩
      have HB := Lib.hid hb
      obtain ⟨_, ao, cp, rfl, -⟩ := Rd.of_owns ho
      clear ho hb
      go_wp2_with fail
      refine (HT.out _).mono ?_
      rintro e w2 ⟨v2, rfl, ho2, hb2⟩
      have HO2 := Lib.hid ho2
      have HB2 := Lib.hid (HB.out.trans (hb2.mono HB.out.size))
      obtain ⟨_, ao2, cp2, rfl, -⟩ := Rd.of_owns ho2
      clear ho2 hb2
      go_wp2_with fail
      refine (HC.out _ _ (Rd.of_owns HO2.out)).mono ?_
      rintro e w3 ⟨rfl, rfl⟩
      go_wp2_with fail
      go_ret3
      rw [HE.out]
      exact ⟨_, rfl, World.ownsRow_nil _ _ _ _, HB2.out⟩
    · have hn2 : longM M = false := by simpa using hn
      have HBd2 := Lib.hid (fun v w => HBd.out v w hn2)
      rw [if_neg hn] at HP
      rw [hn2] at HC
      clear hn hn2 HBd
      by_cases hb0 : bd = 0
      · subst hb0
        have HE : Hid (parseS s = (l, 0, 0)) := by unfold Hid; rw [HP.out, if_neg (by simp)]
        clear HP
        go_enter Try.func15, Try.ntmps15
        go_wp2_with fail
        refine (HRd.out).mono ?_
        rintro e w1 ⟨v, rfl, ho, hb⟩
        have HO := Lib.hid ho
        have HB := Lib.hid hb
        obtain ⟨_, ao, cp, rfl, -⟩ := Rd.of_owns ho
        clear ho hb
        go_wp2_with fail
        refine (HT.out _).mono ?_
        rintro e w2 ⟨v2, rfl, ho2, hb2⟩
        have HO2 := Lib.hid ho2
        have HK2 := Lib.hid (own_below HO.out hb2)
        have HB2 := Lib.hid (HB.out.trans (hb2.mono HB.out.size))
        obtain ⟨_, ao2, cp2, rfl, -⟩ := Rd.of_owns ho2
        clear ho2 hb2
        go_wp2_with fail
        refine (HC.out _ _ (Rd.of_owns HO2.out)).mono ?_
        rintro e w3 ⟨rfl, rfl⟩
        go_wp2_with fail
        refine (HBd2.out _ _ (RdNd.of_own HK2.out)).mono ?_
        rintro e w3 ⟨rfl, hb3⟩
        have HO3 := Lib.hid (own_below HK2.out hb3)
        have HB3 := Lib.hid (HB2.out.trans (hb3.mono HB2.out.size))
        clear hb3
        go_wp2_with fail
        go_ret3
        rw [HE.out]
        exact ⟨_, rfl, HO3.out, HB3.out⟩
      · have hbn : (bd != 0) = true := by simp [hb0]
        have HE : Hid (parseS s = ([], 0, bd)) := by unfold Hid; rw [HP.out, if_pos hb0]
        clear HP hb0
        go_enter Try.func15, Try.ntmps15
        go_wp2_with fail
        refine (HRd.out).mono ?_
        rintro e w1 ⟨v, rfl, ho, hb⟩
        have HO := Lib.hid ho
        have HB := Lib.hid hb
        obtain ⟨_, ao, cp, rfl, -⟩ := Rd.of_owns ho
        clear ho hb
        go_wp2_with fail
        refine (HT.out _).mono ?_
        rintro e w2 ⟨v2, rfl, ho2, hb2⟩
        have HO2 := Lib.hid ho2
        have HK2 := Lib.hid (own_below HO.out hb2)
        have HB2 := Lib.hid (HB.out.trans (hb2.mono HB.out.size))
        obtain ⟨_, ao2, cp2, rfl, -⟩ := Rd.of_owns ho2
        clear ho2 hb2
        go_wp2_with fail
        refine (HC.out _ _ (Rd.of_owns HO2.out)).mono ?_
        rintro e w3 ⟨rfl, rfl⟩
        go_wp2_with fail
        refine (HBd2.out _ _ (RdNd.of_own HK2.out)).mono ?_
        rintro e w3 ⟨rfl, hb3⟩
        have HB3 := Lib.hid (HB2.out.trans (hb3.mono HB2.out.size))
        clear hb3
        go_wp2_with fail
        go_ret3
        rw [HE.out]
        exact ⟨_, rfl, World.ownsRow_nil _ _ _ _, HB3.out⟩
  · have HE : Hid (parseS s = ([], (readS s).2.1, (readS s).2.2)) := by unfold Hid parseS; rw [if_pos h0]
    have hn : ((readS s).2.2 != 0) = true := by simp [h0]
    generalize (readS s) = r at *
    obtain ⟨l, a, e⟩ := r
    simp only at h0 hn HE
    go_enter Try.func15, Try.ntmps15
    go_wp2_with fail
    refine (HRd.out).mono ?_
    rintro e w1 ⟨v, rfl, ho, hb⟩
    clear ho
    go_wp2_with fail
    go_ret3
    rw [HE.out]
    exact ⟨_, rfl, World.ownsRow_nil _ _ _ _, hb⟩

set_option maxRecDepth 100000 in
theorem regexParses_any (s : ByteArray) (w : World) : Calls Try.prog 3 #[.string s] w fun e w' => e = .returned (.bool true) ∧ Below w.heap.size w w' := by
  have H1 := Lib.hid (xParse_any s w)
  have H2 := Lib.hid (fun w => rParse_any s w)
  have hlen : (parseS s).1.length ≤ 4096 := by
    unfold parseS
    split
    · simp
    · rename_i h0
      obtain ⟨x, k, hG⟩ := read_tree s (by simpa using h0)
      split
      · simp
      · split
        · simp
        · simp only [hG.l, Fo.flat_len, Fo.size]; have := hG.size; omega
  generalize parseS s = r at *
  obtain ⟨l, a, e⟩ := r
  simp only at hlen
  go_enter Try.func3, Try.ntmps3
  go_wp2_with fail
  refine (H1.out).mono ?_
  rintro ee w1 ⟨v, rfl, ho, hb⟩
  have HO := Lib.hid ho
  have HB := Lib.hid hb
  obtain ⟨_, ao, cp, rfl, -⟩ := Rd.of_owns ho
  clear ho hb
  go_wp2_with fail
  refine (H2.out _).mono ?_
  rintro ee w2 ⟨v2, rfl, ho2, hb2⟩
  have HO2 := Lib.hid ho2
  have HK2 := Lib.hid (own_below HO.out hb2)
  have HB2 := Lib.hid (HB.out.trans (hb2.mono HB.out.size))
  obtain ⟨_, ao2, cp2, rfl, -⟩ := Rd.of_owns ho2
  clear ho2 hb2
  go_wp2_with fail
  refine (rSame_any _ _ l l _ (RdNd.of_own HK2.out) (RdNd.of_own HO2.out) (by omega) (by omega)).mono ?_
  rintro ee w3 ⟨rfl, hb3⟩
  have HB3 := Lib.hid (HB2.out.trans (hb3.mono HB2.out.size))
  clear hb3
  rw [decide_eq_true (show l = l from rfl)]
  go_wp2_with fail
  go_ret
  exact ⟨rfl, HB3.out⟩
end Go.Proofs.Ytbpipnjdfmpbdaa
