import Derived.Test.YtbpipnjdfmpbdaaRvA
namespace Go.Proofs.Ytbpipnjdfmpbdaa
open Go.RowKit Go.Shelf

/-! ### words -/
def RdW (w : World) (v : Value) (W : List ByteArray) : Prop := Rd w v W.length 1 (strs W)
theorem RdW.below {w w' : World} {v : Value} {W : List ByteArray} (h : RdW w v W) (hb : Below w.heap.size w w') : RdW w' v W := Rd.below h hb
theorem RdW.at {w : World} {v : Value} {W : List ByteArray} (h : RdW w v W) {i : Nat} {t : ByteArray} (ht : W[i]? = some t) :
    ∃ b off cap, v = .slice (some ⟨b, off, none⟩) W.length cap ∧ b < w.heap.size ∧ W.length ≤ cap ∧ w.cell? ⟨b, off + i, none⟩ = some (.string t) := by
  obtain ⟨b, off, cap, e, h1, h2, h3⟩ := Rd.at h (List.getElem?_eq_some_iff.1 ht).1
  exact ⟨b, off, cap, e, h1, h2, h3 i _ (by unfold strs; rw [List.getElem?_map, ht]; rfl)⟩
theorem st_setu (L : List Bool) (k m : Nat) (u : Bool) (hk : k < L.length) : St (L.set k u) m ↔ (m = k ∧ u = true) ∨ (m ≠ k ∧ St L m) := by
  unfold St
  rw [List.getElem?_set]
  by_cases h : k = m
  · subst h; simp [hk]
  · rw [if_neg h]
    constructor
    · exact fun h2 => .inr ⟨Ne.symm h, h2⟩
    · rintro (⟨rfl, _⟩ | ⟨_, h2⟩)
      · exact absurd rfl h
      · exact h2
theorem own_drew {w : World} {B : Nat} {v : Value} {l : List Bool} (h : OwnB w B v l) : OwnB w.drew B v l := h
/-! ### SpansAt -/
def SpOk (m : Nat) : Prop := ∀ (v : Value) (N : List Nd) (p : Nat) (x : Nd) (k : Fo) (R : List Nd) (vw : Value) (W : List ByteArray) (w : World), k.size + 1 ≤ m → RdNd w v N → N.length ≤ 16777216 → TreeAt N p x k R → RdW w vw W → W.length ≤ 64 →
  Calls Try.prog 64 #[v, .int .i64 p, vw] w fun e w' => ∃ v' L, e = .returned v' ∧ OwnB w' w.heap.size v' L ∧ MxS (W.length + 1) L (spN W x (k.sp W)) ∧ Below w.heap.size w w'

set_option maxRecDepth 100000 in
set_option maxHeartbeats 6400000 in
theorem rSpans_step (m : Nat) (ih : SpOk m) : SpOk (m + 1) := by
  intro v N p x k R vw W w hkn h hl hT hW hWl
  have HKd : Hid (Calls Try.prog 84 #[v, .int .i64 p] w fun e w' => ∃ v', e = .returned v' ∧ OwnI w' w.heap.size v' (starts k (p + 1)) ∧ Below w.heap.size w w') := rKids_any v N p x k R w h hl hT
  obtain ⟨h1, h2, h3⟩ := hT.head
  have HR := Lib.hid h
  have HT := Lib.hid hT
  have HIh := Lib.hid ih
  have HW := Lib.hid hW
  have hkl := Fo.len_le k
  obtain ⟨b, off, cap, rfl, hb, hcap, x0, x1, x2⟩ := RdNd.at h h1
  obtain ⟨_, aw, cw, rfl, hcw, -⟩ := id hW
  have HX := Lib.hid hl
  have hpn : p < N.length := by omega
  have HKn : Hid (k.size ≤ m) := by unfold Hid; omega
  have hks : k.size ≤ 16777216 := by omega
  have hmk := hT.all.1.k
  have hck := hT.wf.1
  have hmay := Lib.hid hT.all.1
  have HBd := Lib.hid (bd_sp W k)
  have HCall : Hid (∀ (j : Nat) (y : Nd) (kk : Fo), k.get j = .cons y kk .nil → j < k.len → ∃ pc, (intsV (starts k (p + 1)))[j]? = some (.int .i64 (pc : Nat)) ∧ ∀ wx, Below w.heap.size w wx → Calls Try.prog 64 #[.slice (some ⟨b, off, none⟩) N.length cap, .int .i64 pc, .slice aw W.length cw] wx fun e w' => ∃ v' L, e = .returned v' ∧ OwnB w' wx.heap.size v' L ∧ MxS (W.length + 1) L (spN W y (kk.sp W)) ∧ Below wx.heap.size wx w') := by
    intro j y kk hy hj
    obtain ⟨y', kk', hy1, hy2, hy3, hy4, -⟩ := Fo.get_cons k j hj
    rw [hy] at hy1
    simp only [Fo.cons.injEq, and_true] at hy1
    obtain ⟨rfl, rfl⟩ := hy1
    obtain ⟨pc, hpc⟩ : ∃ q, (k.pieces (p + 1))[j]? = some q := ⟨_, List.getElem?_eq_getElem (by rw [Fo.pieces_len]; exact hj)⟩
    obtain ⟨R2, hTk⟩ := treeAt_kid hT _ pc hpc y kk hy (hy4 hT.wf.2.1)
    refine ⟨pc.1, by unfold intsV starts; rw [List.getElem?_map, List.getElem?_map, hpc]; rfl, fun wx hbx => ?_⟩
    exact ih _ N pc.1 y kk R2 _ W wx (by omega) (h.below hbx) hl hTk (hW.below hbx) hWl
  obtain ⟨i0, hi, hz, hz1, hz2⟩ := infoB
  obtain ⟨n, hn⟩ : ∃ n, n = W.length + 1 := ⟨_, rfl⟩
  have hni : ((W.length : Int) + 1) = (n : Int) := by rw [hn]; simp
  have hn0 : 0 < n := by omega
  have hnl : n ≤ 65 := by omega
  have hsq := sq_le hnl
  have hsp := Nat.mul_pos hn0 hn0
  have HZ := Lib.hid (MxS.zero n)
  rw [← hn] at HBd HCall ⊢
  have HNn := Lib.hid hn
  obtain ⟨N2, hN2⟩ : ∃ q, q = n * n := ⟨_, rfl⟩
  have hN2i : ((n : Int) * (n : Int)) = (N2 : Int) := by rw [hN2]; simp
  have HN2 := Lib.hid hN2
  rw [← hN2] at hsq hsp HZ
  clear h h1 h2 hT ih hkn h3 x2 hW hn hN2
  go_enter Try.func64, Try.ntmps64
  go_wp2_with fail
  refine (HKd.out).mono ?_
  rintro e w1 ⟨v1, rfl, ho1, hb1⟩
  have HB1 := Lib.hid hb1
  have HK1 := Lib.hid ho1
  obtain ⟨ao1, cp1, rfl, hcp⟩ := OwnI.shape ho1
  rw [starts_len] at hcp HK1 ⊢
  have X0 := (hb1.cell (p := ⟨b, _, none⟩) hb).trans x0
  have X1 := (hb1.cell (p := ⟨b, _, none⟩) hb).trans x1
  clear ho1 hb1
  have hcase : x.k = 1 ∨ (x.k = 2 ∨ x.k = 3) ∨ x.k = 4 ∨ x.k = 5 ∨ x.k = 6 ∨ x.k = 7 ∨ x.k = 8 := by omega
  rcases hcase with hk | hk | hk | hk | hk | hk | hk
  · have HSp : Hid (∀ i j, spN W x (k.sp W) i j ↔ i = j) := fun i j => by unfold spN; rw [if_pos hk]
    rw [hk] at X0
    go_wp2_with (at_make; refine wpList_make_full _ rfl _ _ 85 rfl w1.heap.size 4 i0 (.bool false) 1 Try.underlying85 hi hz hz1 .i64 .i64 _ _ N2 rfl rfl rfl rfl (by rw [hz2]; omega) (by unfold maxLen; omega) (Nat.le_refl _) ?_; intro w2 hown2 hg2; rw [madeB] at hown2; have HB2 := Lib.hid (below_grown hg2); have X0' := (HB2.out.cell (p := ⟨b, off + p * 3, none⟩) (by have := HB1.out.size; show b < _; omega)).trans X0)
    have HO2 : Hid (OwnB w2 w1.heap.size (.slice (some ⟨w1.heap.size, 0, none⟩) N2 N2) (List.replicate N2 false)) := by unfold Hid OwnB; rw [List.length_replicate]; exact hown2
    have HBw : Hid (Below w.heap.size w w2) := HB1.out.trans (HB2.out.mono HB1.out.size)
    clear hown2 hg2
    have HOne := Lib.hid (fun w => rOne_any n w hn0 hnl)
    go_wp2_with fail
    refine (HOne.out _).mono ?_
    rintro e w3 ⟨v3, L, rfl, ho3, hL3, hM3, hb3⟩
    go_wp2_with fail
    go_ret
    exact ⟨_, L, rfl, own_lower ho3 HBw.out.size, ⟨hL3, fun p q hp hq => by rw [hM3 p q hp hq, HSp.out]⟩, HBw.out.trans (hb3.mono HBw.out.size)⟩
  · have HSp : Hid (∀ i j, spN W x (k.sp W) i j ↔ (j = i + 1 ∧ W[i]? = some x.n)) := fun i j => by unfold spN; rw [if_neg (by omega), if_pos hk]
    have HIl := Lib.hid (fun i j (h : i < n) (h' : j < n) => idx_lt h h')
    rw [← HN2.out] at HIl
    rcases hk with hk | hk
    all_goals
      rw [hk] at X0
      go_wp2_with (at_make; refine wpList_make_full _ rfl _ _ 85 rfl w1.heap.size 4 i0 (.bool false) 1 Try.underlying85 hi hz hz1 .i64 .i64 _ _ N2 rfl rfl rfl rfl (by rw [hz2]; omega) (by unfold maxLen; omega) (Nat.le_refl _) ?_; intro w2 hown2 hg2; rw [madeB] at hown2; have HB2 := Lib.hid (below_grown hg2); have X0' := (HB2.out.cell (p := ⟨b, off + p * 3, none⟩) (by have := HB1.out.size; show b < _; omega)).trans X0)
      have HO2 : Hid (OwnB w2 w1.heap.size (.slice (some ⟨w1.heap.size, 0, none⟩) N2 N2) (List.replicate N2 false)) := by unfold Hid OwnB; rw [List.length_replicate]; exact hown2
      clear hown2 hg2
      go_loopw [10] (fun i wr => ∃ (j : Nat) (L : List Bool), i = .int .i64 j ∧ j ≤ W.length ∧ L.length = N2 ∧ Hid (OwnB wr w1.heap.size (.slice (some ⟨w1.heap.size, 0, none⟩) N2 N2) L) ∧ Hid (∀ a c, a < n → c < n → (St L (a * n + c) ↔ (c = a + 1 ∧ W[a]? = some x.n ∧ a < j))) ∧ Hid (Below w1.heap.size w1 wr)) (fun i _ => W.length - (intOf i).toNat)
      case atStart => exact ⟨0, _, rfl, Nat.zero_le _, by simp, HO2.out, fun a c _ _ => ⟨fun h => absurd h (st_rep _ _), fun h => by omega⟩, HB2.out⟩
      case round =>
        obtain ⟨j, L, rfl, hj, hL, HO, HS, HBel⟩ := hrel
        by_cases hlt : j < W.length
        · obtain ⟨t, ht⟩ : ∃ t, W[j]? = some t := ⟨_, List.getElem?_eq_getElem hlt⟩
          obtain ⟨bw, ow, cw', ew, hbw, hcw', cW⟩ := HW.out.at ht
          simp only [Value.slice.injEq] at ew
          obtain ⟨rfl, -, rfl⟩ := ew
          have CW := (HBel.out.cell (p := ⟨bw, ow + j, none⟩) (by have := HB1.out.size; show bw < _; omega)).trans ((HB1.out.cell (p := ⟨bw, ow + j, none⟩) hbw).trans cW)
          have CX := (HBel.out.cell (p := ⟨b, off + p * 3 + 1, none⟩) (by have := HB1.out.size; show b < _; omega)).trans X1
          have hix := HIl.out j (j + 1) (by omega) (by omega)
          obtain ⟨r, hr⟩ : ∃ r, r = j * n := ⟨_, rfl⟩
          have hri : ((j : Int) * (n : Int)) = (r : Int) := by rw [hr]; simp
          have HRr := Lib.hid hr
          rw [← hr] at hix
          obtain ⟨q0, hq0⟩ : ∃ q0, L[r + j + 1]? = some q0 := ⟨_, List.getElem?_eq_getElem (by omega)⟩
          obtain ⟨g2, cap2, e2, hBg, hgl, hnc, hcs⟩ := HO.out.pos (by omega)
          simp only [Value.slice.injEq, Option.some.injEq, Addr.mk.injEq] at e2
          obtain ⟨⟨rfl, -, -⟩, -, rfl⟩ := e2
          obtain ⟨cT, fT⟩ := hcs (r + j + 1) q0 hq0
          have HTt := Lib.hid ht
          clear hcs hq0 hr ht cW
          have hw1 : IntKind.i64.wrap ((r : Int) + j) = (r : Int) + j := IntWalk.i64_in _ (by omega)
          have hw2 : IntKind.i64.wrap ((r : Int) + j + 1) = (r : Int) + j + 1 := IntWalk.i64_in _ (by omega)
          have hw3 : IntKind.i64.wrap (r : Int) = (r : Int) := IntWalk.i64_in _ (by omega)
          go_wp2_with fail
          go_region
          have HU : Hid ((t.toList == x.n.toList) = true ↔ t = x.n) := by unfold Hid; rw [beq_iff_eq, toList_inj]
          generalize (t.toList == x.n.toList) = u at *
          have HSt := Lib.hid (own_drew (OwnB.set HO.out hL (r + j + 1) u).1)
          have HBs : Hid (Below w1.heap.size w1 (wr.setCell ⟨w1.heap.size, r + j + 1, none⟩ (.bool u)).drew) := (HBel.out.setCell (p := ⟨w1.heap.size, r + j + 1, none⟩) (Nat.le_refl _) _).drew
          have HS2 : Hid (∀ a c, a < n → c < n → (St (L.set (r + j + 1) u) (a * n + c) ↔ (c = a + 1 ∧ W[a]? = some x.n ∧ a < j + 1))) := by
            intro a c ha hc
            rw [st_setu _ _ _ _ (by omega), HS.out a c ha hc, HRr.out, HU.out]
            constructor
            · rintro (⟨h1, rfl⟩ | ⟨_, h2, h3, h4⟩)
              · obtain ⟨rfl, rfl⟩ := idx_inj (i := j) (j := j + 1) (by omega) hc (by omega)
                exact ⟨rfl, HTt.out, by omega⟩
              · exact ⟨h2, h3, by omega⟩
            · rintro ⟨rfl, h3, h4⟩
              by_cases haj : a = j
              · subst haj
                rw [HTt.out] at h3
                injection h3 with h3
                exact .inl ⟨by omega, h3⟩
              · refine .inr ⟨?_, rfl, h3, by omega⟩
                intro h
                exact haj (idx_inj (i := j) (j := j + 1) (by omega) hc (by omega)).1
          have hLs : (L.set (r + j + 1) u).length = N2 := by rw [List.length_set]; exact hL
          go_wp2_with fail
          go_roundw
          case rel => exact ⟨j + 1, _, by go_num, by omega, hLs, HSt.out, HS2.out, HBs.out⟩
          case measure => simp [intOf]; omega
        · obtain rfl : j = W.length := by omega
          have HMx : Hid (MxS n L (spN W x (k.sp W))) := by
            refine ⟨by rw [hL, HN2.out], fun a c ha hc => ?_⟩
            rw [HS.out a c ha hc, HSp.out]
            constructor
            · rintro ⟨h1, h2, _⟩; exact ⟨h1, h2⟩
            · rintro ⟨h1, h2⟩; exact ⟨h1, h2, (List.getElem?_eq_some_iff.1 h2).1⟩
          go_wp2_with fail
          go_ret
          exact ⟨_, L, rfl, own_lower HO.out HB1.out.size, HMx.out, HB1.out.trans (HBel.out.mono HB1.out.size)⟩
  · have HSp : Hid (∀ i j, spN W x (k.sp W) i j ↔ seqR (k.sp W) i j) := fun i j => by unfold spN; rw [if_neg (by omega), if_neg (by omega), if_pos hk]
    rw [hk] at X0
    go_wp2_with (at_make; refine wpList_make_full _ rfl _ _ 85 rfl w1.heap.size 4 i0 (.bool false) 1 Try.underlying85 hi hz hz1 .i64 .i64 _ _ N2 rfl rfl rfl rfl (by rw [hz2]; omega) (by unfold maxLen; omega) (Nat.le_refl _) ?_; intro w2 hown2 hg2; rw [madeB] at hown2; have HB2 := Lib.hid (below_grown hg2); have X0' := (HB2.out.cell (p := ⟨b, off + p * 3, none⟩) (by have := HB1.out.size; show b < _; omega)).trans X0)
    have HO2 : Hid (OwnB w2 w1.heap.size (.slice (some ⟨w1.heap.size, 0, none⟩) N2 N2) (List.replicate N2 false)) := by unfold Hid OwnB; rw [List.length_replicate]; exact hown2
    have HBw : Hid (Below w.heap.size w w2) := HB1.out.trans (HB2.out.mono HB1.out.size)
    clear hown2 hg2
    have HOne := Lib.hid (fun w => rOne_any n w hn0 hnl)
    go_wp2_with fail
    refine (HOne.out _).mono ?_
    rintro e w3 ⟨v3, L3, rfl, ho3, hL3, hM3, hb3⟩
    have HO3 : Hid (OwnB w3 w.heap.size v3 L3) := own_lower ho3 HBw.out.size
    have HM3 : Hid (MxS n L3 (seqR ((k.sp W).take 0))) := ⟨hL3, hM3⟩
    have HB3 : Hid (Below w.heap.size w w3) := HBw.out.trans (hb3.mono HBw.out.size)
    have HK3 : Hid (OwnI w3 w.heap.size (.slice ao1 k.len cp1) (starts k (p + 1))) := own_grown (own_grown HK1.out (grown_below HB2.out) (by simp)) (grown_below hb3) (by simp)
    clear ho3 hL3 hM3 hb3
    go_wp2_with fail
    go_loopw [9, 12] (fun o i wr => ∃ (j : Nat) (L : List Bool), i = .int .i64 j ∧ j ≤ k.len ∧ Hid (OwnB wr w.heap.size o L) ∧ Hid (MxS n L (seqR ((k.sp W).take j))) ∧ Hid (OwnI wr w.heap.size (.slice ao1 k.len cp1) (starts k (p + 1))) ∧ Hid (Below w.heap.size w wr)) (fun _ i _ => k.len - (intOf i).toNat)
    case atStart => exact ⟨0, L3, rfl, Nat.zero_le _, HO3.out, HM3.out, HK3.out, HB3.out⟩
    case round =>
      obtain ⟨j, L, rfl, hj, HO, HM, HKr, HBel⟩ := hrel
      have hwr := HBel.out.size
      by_cases hlt : j < k.len
      · obtain ⟨y, kk, hy1, hy2, hy3, hy4, -⟩ := Fo.get_cons k j hlt
        obtain ⟨pc, hpc, hcl⟩ := HCall.out j y kk hy1 hlt
        obtain ⟨g, gc, e0, hg1, hg2', hg3, hcs⟩ := own_src HKr.out (by rw [starts_len]; omega)
        rw [starts_len] at e0
        simp only [Value.slice.injEq] at e0
        obtain ⟨rfl, -, rfl⟩ := e0
        have c0 := hcs _ _ hpc
        rw [Addr.add_lit, Nat.zero_add] at c0
        have HCl := Lib.hid hcl
        have HTk : Hid ((k.sp W).take (j + 1) = (k.sp W).take j ++ [spN W y (kk.sp W)]) := by unfold Hid; rw [List.take_add_one, sp_get W k j y kk hy1]; rfl
        have HBs : Hid (BdR n (seqR ((k.sp W).take j))) := bd_seq fun r hr => HBd.out r (List.mem_of_mem_take hr)
        clear hy1 hy2 hy3 hy4 hpc hcl hcs
        go_wp2_with fail
        refine (HCl.out _ HBel.out).mono ?_
        rintro e w5 ⟨v5, L5, rfl, ho5, hM5, hb5⟩
        have HO5 := Lib.hid ho5
        have HM5 := Lib.hid hM5
        have HOo : Hid (OwnB w5 w.heap.size u9 L) := own_grown HO.out (grown_below hb5) (by simp)
        have HK5 : Hid (OwnI w5 w.heap.size (.slice (some ⟨g, 0, none⟩) k.len cp1) (starts k (p + 1))) := own_grown HKr.out (grown_below hb5) (by simp)
        have HB5 : Hid (Below w.heap.size w w5) := HBel.out.trans (hb5.mono hwr)
        clear ho5 hM5 hb5 c0
        go_wp2_with fail
        refine (rMul_any _ _ L L5 n _ (RdB.of_own HOo.out) (RdB.of_own HO5.out) hn0 hnl HM.out.len HM5.out.len).mono ?_
        rintro e w6 ⟨v6, L6, rfl, ho6, hL6, hM6, hb6⟩
        have HO6 : Hid (OwnB w6 w.heap.size v6 L6) := own_lower ho6 HB5.out.size
        have HM6 : Hid (MxS n L6 (seqR ((k.sp W).take (j + 1)))) := by
          have hm := MxS.mul hL6 hM6 HM.out HM5.out HBs.out
          rw [HTk.out]
          exact hm.iff fun p q _ _ => (seqR_snoc _ _ p q).symm
        have HK6 : Hid (OwnI w6 w.heap.size (.slice (some ⟨g, 0, none⟩) k.len cp1) (starts k (p + 1))) := own_grown HK5.out (grown_below hb6) (by simp)
        have HB6 : Hid (Below w.heap.size w w6) := HB5.out.trans (hb6.mono HB5.out.size)
        clear ho6 hL6 hM6 hb6
        go_wp2_with fail
        go_roundw
        case rel => exact ⟨j + 1, L6, by go_num, by omega, HO6.out, HM6.out, HK6.out, HB6.out⟩
        case measure => simp [intOf]; omega
      · obtain rfl : j = k.len := by omega
        have e1 : (k.sp W).take k.len = k.sp W := List.take_of_length_le (by rw [sp_len]; exact Nat.le_refl _)
        rw [e1] at HM
        go_wp2_with fail
        go_ret
        exact ⟨_, L, rfl, HO.out, HM.out.iff fun p q _ _ => (HSp.out p q).symm, HBel.out⟩
  · have HSp : Hid (∀ i j, spN W x (k.sp W) i j ↔ anyR (k.sp W) i j) := fun i j => by unfold spN; rw [if_neg (by omega), if_neg (by omega), if_neg (by omega), if_pos hk]
    rw [hk] at X0
    go_wp2_with (at_make; refine wpList_make_full _ rfl _ _ 85 rfl w1.heap.size 4 i0 (.bool false) 1 Try.underlying85 hi hz hz1 .i64 .i64 _ _ N2 rfl rfl rfl rfl (by rw [hz2]; omega) (by unfold maxLen; omega) (Nat.le_refl _) ?_; intro w2 hown2 hg2; rw [madeB] at hown2; have HB2 := Lib.hid (below_grown hg2); have X0' := (HB2.out.cell (p := ⟨b, off + p * 3, none⟩) (by have := HB1.out.size; show b < _; omega)).trans X0)
    have HO2 : Hid (OwnB w2 w1.heap.size (.slice (some ⟨w1.heap.size, 0, none⟩) N2 N2) (List.replicate N2 false)) := by unfold Hid OwnB; rw [List.length_replicate]; exact hown2
    have HBw : Hid (Below w.heap.size w w2) := HB1.out.trans (HB2.out.mono HB1.out.size)
    clear hown2 hg2
    have HK3 : Hid (OwnI w2 w.heap.size (.slice ao1 k.len cp1) (starts k (p + 1))) := own_grown HK1.out (grown_below HB2.out) (by simp)
    have HO3 : Hid (OwnB w2 w.heap.size (.slice (some ⟨w1.heap.size, 0, none⟩) N2 N2) (List.replicate N2 false)) := own_lower HO2.out HB1.out.size
    go_wp2_with fail
    go_loopw [9, 11] (fun o i wr => ∃ (j : Nat) (L : List Bool), i = .int .i64 j ∧ j ≤ k.len ∧ Hid (OwnB wr w.heap.size o L) ∧ Hid (MxS n L (anyR ((k.sp W).take j))) ∧ Hid (OwnI wr w.heap.size (.slice ao1 k.len cp1) (starts k (p + 1))) ∧ Hid (Below w.heap.size w wr)) (fun _ i _ => k.len - (intOf i).toNat)
    case atStart => exact ⟨0, _, rfl, Nat.zero_le _, HO3.out, HZ.out, HK3.out, HBw.out⟩
    case round =>
      obtain ⟨j, L, rfl, hj, HO, HM, HKr, HBel⟩ := hrel
      have hwr := HBel.out.size
      by_cases hlt : j < k.len
      · obtain ⟨y, kk, hy1, hy2, hy3, hy4, -⟩ := Fo.get_cons k j hlt
        obtain ⟨pc, hpc, hcl⟩ := HCall.out j y kk hy1 hlt
        obtain ⟨g, gc, e0, hg1, hg2', hg3, hcs⟩ := own_src HKr.out (by rw [starts_len]; omega)
        rw [starts_len] at e0
        simp only [Value.slice.injEq] at e0
        obtain ⟨rfl, -, rfl⟩ := e0
        have c0 := hcs _ _ hpc
        rw [Addr.add_lit, Nat.zero_add] at c0
        have HCl := Lib.hid hcl
        have HTk : Hid ((k.sp W).take (j + 1) = (k.sp W).take j ++ [spN W y (kk.sp W)]) := by unfold Hid; rw [List.take_add_one, sp_get W k j y kk hy1]; rfl
        clear hy1 hy2 hy3 hy4 hpc hcl hcs
        go_wp2_with fail
        refine (HCl.out _ HBel.out).mono ?_
        rintro e w5 ⟨v5, L5, rfl, ho5, hM5, hb5⟩
        have HO5 := Lib.hid ho5
        have HM5 : Hid (MxS n L5 (spN W y (kk.sp W))) := hM5
        have HOo : Hid (OwnB w5 w.heap.size u9 L) := own_grown HO.out (grown_below hb5) (by simp)
        have HK5 : Hid (OwnI w5 w.heap.size (.slice (some ⟨g, 0, none⟩) k.len cp1) (starts k (p + 1))) := own_grown HKr.out (grown_below hb5) (by simp)
        have HB5 : Hid (Below w.heap.size w w5) := HBel.out.trans (hb5.mono hwr)
        clear ho5 hM5 hb5 c0
        go_wp2_with fail
        refine (rOr_any _ _ L L5 _ (RdB.of_own HOo.out) (RdB.of_own HO5.out) (n * n) HM.out.len HM5.out.len (by rw [← HN2.out]; exact hsp) (by rw [← HN2.out]; omega)).mono ?_
        rintro e w6 ⟨v6, rfl, ho6, hb6⟩
        have HO6 : Hid (OwnB w6 w.heap.size v6 (orL L L5)) := own_lower ho6 HB5.out.size
        have HM6 : Hid (MxS n (orL L L5) (anyR ((k.sp W).take (j + 1)))) := by
          rw [HTk.out]
          exact (HM.out.or HM5.out).iff fun p q _ _ => (anyR_snoc _ _ p q).symm
        have HK6 : Hid (OwnI w6 w.heap.size (.slice (some ⟨g, 0, none⟩) k.len cp1) (starts k (p + 1))) := own_grown HK5.out (grown_below hb6) (by simp)
        have HB6 : Hid (Below w.heap.size w w6) := HB5.out.trans (hb6.mono HB5.out.size)
        clear ho6 hb6
        go_wp2_with fail
        go_roundw
        case rel => exact ⟨j + 1, _, by go_num, by omega, HO6.out, HM6.out, HK6.out, HB6.out⟩
        case measure => simp [intOf]; omega
      · obtain rfl : j = k.len := by omega
        have e1 : (k.sp W).take k.len = k.sp W := List.take_of_length_le (by rw [sp_len]; exact Nat.le_refl _)
        rw [e1] at HM
        go_wp2_with fail
        go_ret
        exact ⟨_, L, rfl, HO.out, HM.out.iff fun p q _ _ => (HSp.out p q).symm, HBel.out⟩
  · have HSp : Hid (∀ i j, spN W x (k.sp W) i j ↔ (i = j ∨ Relation.TransGen (anyR (k.sp W)) i j)) := fun i j => by unfold spN; rw [if_neg (by omega), if_neg (by omega), if_neg (by omega), if_neg (by omega), if_pos hk]
    rw [hk] at X0
    obtain ⟨y, kk, hky⟩ : ∃ y kk, k = Fo.cons y kk .nil := len_one k (by have := hmay.out; unfold mayN at this; omega)
    have HSp1 : Hid (k.sp W = [spN W y (kk.sp W)]) := by rw [hky]; rfl
    obtain ⟨pc, hpc, hcl⟩ := HCall.out 0 y kk (by rw [hky]; rfl) (by rw [hky]; exact Nat.one_pos)
    have HCl := Lib.hid hcl
    have hBy : BdR n (spN W y (kk.sp W)) := HBd.out _ (by rw [HSp1.out]; exact List.mem_cons_self ..)
    have HBy := Lib.hid hBy
    have hkl1 : k.len = 1 := by rw [hky]; rfl
    obtain ⟨g, gc, e0, hg1, hg2', hg3, hcs⟩ := own_src HK1.out (by rw [starts_len]; omega)
    rw [starts_len] at e0
    simp only [Value.slice.injEq] at e0
    obtain ⟨rfl, -, rfl⟩ := e0
    have c0 := hcs _ _ hpc
    rw [Addr.add_lit, Nat.zero_add] at c0
    have hkp : 0 < k.len := by omega
    clear hcs hpc hcl hBy hky hkl1
    generalize k.len = kl at *
    have HOne := Lib.hid (fun w => rOne_any n w hn0 hnl)
    go_wp2_with (at_make; refine wpList_make_full _ rfl _ _ 85 rfl w1.heap.size 4 i0 (.bool false) 1 Try.underlying85 hi hz hz1 .i64 .i64 _ _ N2 rfl rfl rfl rfl (by rw [hz2]; omega) (by unfold maxLen; omega) (Nat.le_refl _) ?_; intro w2 hown2 hg2; rw [madeB] at hown2; have HB2 := Lib.hid (below_grown hg2); have X0' := (HB2.out.cell (p := ⟨b, off + p * 3, none⟩) (by have := HB1.out.size; show b < _; omega)).trans X0; have C0 := (HB2.out.cell (p := ⟨g, 0, none⟩) hg2').trans c0)
    have HO2 : Hid (OwnB w2 w1.heap.size (.slice (some ⟨w1.heap.size, 0, none⟩) N2 N2) (List.replicate N2 false)) := by unfold Hid OwnB; rw [List.length_replicate]; exact hown2
    have HBw : Hid (Below w.heap.size w w2) := HB1.out.trans (HB2.out.mono HB1.out.size)
    clear hown2 hg2
    have hgw : g < w2.heap.size := by have := HB2.out.size; omega
    have hspn : 0 < n * n := by rw [← HN2.out]; exact hsp
    have hsqn : n * n ≤ 1099511627776 := by rw [← HN2.out]; omega
    have HSpn := Lib.hid hspn
    have HSqn := Lib.hid hsqn
    clear hspn hsqn
    go_region_held3 (fun w' => w'.cell? ⟨g, 0, none⟩ = some (.int .i64 pc)) (first | go_keep | exact k0 | exact k1 | exact k2 | exact k3)
      (first
        | (go_at_call 92; refine (HOne.out _).mono ?_; rintro e wo ⟨vo, Lo, rfl, hoo, hLo, hMo, hbo⟩; have k0 : wo.cell? ⟨g, 0, none⟩ = some (.int .i64 pc) := (hbo.cell (p := ⟨g, 0, none⟩) hgw).trans C0; have hBo : Below w.heap.size w wo := (HBw.out.drew).trans (hbo.mono HBw.out.size); have hgo : g < wo.heap.size := Nat.lt_of_lt_of_le hgw hbo.size)
        | (go_at_call 64; refine (HCl.out _ hBo).mono ?_; rintro e ws ⟨vs, Ls, rfl, hos, hMs, hbs⟩; have k1 : ws.cell? ⟨g, 0, none⟩ = some (.int .i64 pc) := (hbs.cell (p := ⟨g, 0, none⟩) hgo).trans k0; have hBs : Below w.heap.size w ws := hBo.trans (hbs.mono hBo.size); have hgs : g < ws.heap.size := Nat.lt_of_lt_of_le hgo hbs.size)
        | (go_at_call 94; refine (rPlus_any _ Ls n _ (RdB.of_own hos) hn0 hnl hMs.len).mono ?_; rintro e wp ⟨vp, Lp, rfl, hop, hLp, hMp, hbp⟩; have k2 : wp.cell? ⟨g, 0, none⟩ = some (.int .i64 pc) := (hbp.cell (p := ⟨g, 0, none⟩) hgs).trans k1; have hBp : Below w.heap.size w wp := hBs.trans (hbp.mono hBs.size); have hgp : g < wp.heap.size := Nat.lt_of_lt_of_le hgs hbp.size)
        | (go_at_call 91; refine (rOr_any _ _ Lo Lp _ (((RdB.of_own hoo).below hbs).below hbp) (RdB.of_own hop) (n * n) hLo hLp HSpn.out HSqn.out).mono ?_; rintro e wr ⟨vr, rfl, hor, hbr⟩; have k3 : wr.cell? ⟨g, 0, none⟩ = some (.int .i64 pc) := (hbr.cell (p := ⟨g, 0, none⟩) hgp).trans k2; have hBr : Below w.heap.size w wr := hBp.trans (hbr.mono hBp.size)))
    all_goals
      have HMx : Hid (MxS n (orL Lo Lp) (spN W x (k.sp W))) := by
        refine (MxS.or ⟨hLo, hMo⟩ (MxS.plus hLp hMp hMs HBy.out)).iff fun p q _ _ => ?_
        have e : anyR [spN W y (kk.sp W)] = spN W y (kk.sp W) := by funext i j; exact propext (anyR_one _ i j)
        rw [HSp.out, HSp1.out, e]
      have hOr := own_lower hor hBp.size
      clear hoo hMo hos hMs hor hop hMp
      go_wp2_with fail
      go_ret
      exact ⟨_, _, rfl, hOr, HMx.out, hBr⟩
  · have HSp : Hid (∀ i j, spN W x (k.sp W) i j ↔ Relation.TransGen (anyR (k.sp W)) i j) := fun i j => by unfold spN; rw [if_neg (by omega), if_neg (by omega), if_neg (by omega), if_neg (by omega), if_neg (by omega), if_pos hk]
    rw [hk] at X0
    obtain ⟨y, kk, hky⟩ : ∃ y kk, k = Fo.cons y kk .nil := len_one k (by have := hmay.out; unfold mayN at this; omega)
    have HSp1 : Hid (k.sp W = [spN W y (kk.sp W)]) := by rw [hky]; rfl
    obtain ⟨pc, hpc, hcl⟩ := HCall.out 0 y kk (by rw [hky]; rfl) (by rw [hky]; exact Nat.one_pos)
    have HCl := Lib.hid hcl
    have hBy : BdR n (spN W y (kk.sp W)) := HBd.out _ (by rw [HSp1.out]; exact List.mem_cons_self ..)
    have HBy := Lib.hid hBy
    have hkl1 : k.len = 1 := by rw [hky]; rfl
    obtain ⟨g, gc, e0, hg1, hg2', hg3, hcs⟩ := own_src HK1.out (by rw [starts_len]; omega)
    rw [starts_len] at e0
    simp only [Value.slice.injEq] at e0
    obtain ⟨rfl, -, rfl⟩ := e0
    have c0 := hcs _ _ hpc
    rw [Addr.add_lit, Nat.zero_add] at c0
    have hkp : 0 < k.len := by omega
    clear hcs hpc hcl hBy hky hkl1
    generalize k.len = kl at *
    go_wp2_with (at_make; refine wpList_make_full _ rfl _ _ 85 rfl w1.heap.size 4 i0 (.bool false) 1 Try.underlying85 hi hz hz1 .i64 .i64 _ _ N2 rfl rfl rfl rfl (by rw [hz2]; omega) (by unfold maxLen; omega) (Nat.le_refl _) ?_; intro w2 hown2 hg2; rw [madeB] at hown2; have HB2 := Lib.hid (below_grown hg2); have X0' := (HB2.out.cell (p := ⟨b, off + p * 3, none⟩) (by have := HB1.out.size; show b < _; omega)).trans X0; have C0 := (HB2.out.cell (p := ⟨g, 0, none⟩) hg2').trans c0)
    have HO2 : Hid (OwnB w2 w1.heap.size (.slice (some ⟨w1.heap.size, 0, none⟩) N2 N2) (List.replicate N2 false)) := by unfold Hid OwnB; rw [List.length_replicate]; exact hown2
    have HBw : Hid (Below w.heap.size w w2) := HB1.out.trans (HB2.out.mono HB1.out.size)
    clear hown2 hg2
    refine (HCl.out _ HBw.out).mono ?_
    rintro e w5 ⟨v5, L5, rfl, ho5, hM5, hb5⟩
    have HO5 := Lib.hid ho5
    have HM5 : Hid (MxS n L5 (spN W y (kk.sp W))) := hM5
    have HB5 : Hid (Below w.heap.size w w5) := HBw.out.trans (hb5.mono HBw.out.size)
    clear ho5 hM5 hb5
    go_wp2_with fail
    refine (rPlus_any _ L5 n _ (RdB.of_own HO5.out) hn0 hnl HM5.out.len).mono ?_
    rintro e w6 ⟨v6, L6, rfl, ho6, hL6, hM6, hb6⟩
    have HM6 : Hid (MxS n L6 (spN W x (k.sp W))) := by
      refine (MxS.plus hL6 hM6 HM5.out HBy.out).iff fun p q _ _ => ?_
      rw [HSp.out, HSp1.out]
      have e : anyR [spN W y (kk.sp W)] = spN W y (kk.sp W) := by funext i j; exact propext (anyR_one _ i j)
      rw [e]
    go_wp2_with fail
    go_ret
    exact ⟨_, L6, rfl, own_lower ho6 HB5.out.size, HM6.out, HB5.out.trans (hb6.mono HB5.out.size)⟩
  · have HSp : Hid (∀ i j, spN W x (k.sp W) i j ↔ (i = j ∨ anyR (k.sp W) i j)) := fun i j => by unfold spN; rw [if_neg (by omega), if_neg (by omega), if_neg (by omega), if_neg (by omega), if_neg (by omega), if_neg (by omega)]
    rw [hk] at X0
    obtain ⟨y, kk, hky⟩ : ∃ y kk, k = Fo.cons y kk .nil := len_one k (by have := hmay.out; unfold mayN at this; omega)
    have HSp1 : Hid (k.sp W = [spN W y (kk.sp W)]) := by rw [hky]; rfl
    obtain ⟨pc, hpc, hcl⟩ := HCall.out 0 y kk (by rw [hky]; rfl) (by rw [hky]; exact Nat.one_pos)
    have HCl := Lib.hid hcl
    have hBy : BdR n (spN W y (kk.sp W)) := HBd.out _ (by rw [HSp1.out]; exact List.mem_cons_self ..)
    have HBy := Lib.hid hBy
    have hkl1 : k.len = 1 := by rw [hky]; rfl
    obtain ⟨g, gc, e0, hg1, hg2', hg3, hcs⟩ := own_src HK1.out (by rw [starts_len]; omega)
    rw [starts_len] at e0
    simp only [Value.slice.injEq] at e0
    obtain ⟨rfl, -, rfl⟩ := e0
    have c0 := hcs _ _ hpc
    rw [Addr.add_lit, Nat.zero_add] at c0
    have hkp : 0 < k.len := by omega
    clear hcs hpc hcl hBy hky hkl1
    generalize k.len = kl at *
    have HOne := Lib.hid (fun w => rOne_any n w hn0 hnl)
    go_wp2_with (at_make; refine wpList_make_full _ rfl _ _ 85 rfl w1.heap.size 4 i0 (.bool false) 1 Try.underlying85 hi hz hz1 .i64 .i64 _ _ N2 rfl rfl rfl rfl (by rw [hz2]; omega) (by unfold maxLen; omega) (Nat.le_refl _) ?_; intro w2 hown2 hg2; rw [madeB] at hown2; have HB2 := Lib.hid (below_grown hg2); have X0' := (HB2.out.cell (p := ⟨b, off + p * 3, none⟩) (by have := HB1.out.size; show b < _; omega)).trans X0; have C0 := (HB2.out.cell (p := ⟨g, 0, none⟩) hg2').trans c0)
    have HO2 : Hid (OwnB w2 w1.heap.size (.slice (some ⟨w1.heap.size, 0, none⟩) N2 N2) (List.replicate N2 false)) := by unfold Hid OwnB; rw [List.length_replicate]; exact hown2
    have HBw : Hid (Below w.heap.size w w2) := HB1.out.trans (HB2.out.mono HB1.out.size)
    clear hown2 hg2
    have hgw : g < w2.heap.size := by have := HB2.out.size; omega
    have hspn : 0 < n * n := by rw [← HN2.out]; exact hsp
    have hsqn : n * n ≤ 1099511627776 := by rw [← HN2.out]; omega
    have HSpn := Lib.hid hspn
    have HSqn := Lib.hid hsqn
    clear hspn hsqn
    go_region_held3 (fun w' => w'.cell? ⟨g, 0, none⟩ = some (.int .i64 pc)) (first | go_keep | exact k0 | exact k1 | exact k2)
      (first
        | (go_at_call 92; refine (HOne.out _).mono ?_; rintro e wo ⟨vo, Lo, rfl, hoo, hLo, hMo, hbo⟩; have k0 : wo.cell? ⟨g, 0, none⟩ = some (.int .i64 pc) := (hbo.cell (p := ⟨g, 0, none⟩) hgw).trans C0; have hBo : Below w.heap.size w wo := (HBw.out.drew).trans (hbo.mono HBw.out.size); have hgo : g < wo.heap.size := Nat.lt_of_lt_of_le hgw hbo.size)
        | (go_at_call 64; refine (HCl.out _ hBo).mono ?_; rintro e ws ⟨vs, Ls, rfl, hos, hMs, hbs⟩; have k1 : ws.cell? ⟨g, 0, none⟩ = some (.int .i64 pc) := (hbs.cell (p := ⟨g, 0, none⟩) hgo).trans k0; have hBs : Below w.heap.size w ws := hBo.trans (hbs.mono hBo.size); have hgs : g < ws.heap.size := Nat.lt_of_lt_of_le hgo hbs.size)
        | (go_at_call 91; refine (rOr_any _ _ Lo Ls _ ((RdB.of_own hoo).below hbs) (RdB.of_own hos) (n * n) hLo hMs.len HSpn.out HSqn.out).mono ?_; rintro e wr ⟨vr, rfl, hor, hbr⟩; have k2 : wr.cell? ⟨g, 0, none⟩ = some (.int .i64 pc) := (hbr.cell (p := ⟨g, 0, none⟩) hgs).trans k1; have hBr : Below w.heap.size w wr := hBs.trans (hbr.mono hBs.size)))
    all_goals
      have HMx : Hid (MxS n (orL Lo Ls) (spN W x (k.sp W))) := by
        refine (MxS.or ⟨hLo, hMo⟩ hMs).iff fun p q _ _ => ?_
        rw [HSp.out, HSp1.out, anyR_one]
      have hOr := own_lower hor hBs.size
      clear hoo hMo hos hMs hor
      go_wp2_with fail
      go_ret
      exact ⟨_, _, rfl, hOr, HMx.out, hBr⟩
theorem rSpans_all : ∀ m, SpOk m
  | 0 => fun v N p x k R vw W w hk => by omega
  | m + 1 => rSpans_step m (rSpans_all m)
end Go.Proofs.Ytbpipnjdfmpbdaa
