/- The walks and facts that the laws lean on, part 5. No condition of its own: each theorem tells its own. -/
import Derived.Test.YtkmjmfcanlknjaaGreatPk4
import Derived.Shelf.SlicesE.Reverse
import Derived.BigQuiet
import Derived.Deep.QuietTactic
import Derived.Deep.RegionHeld3
import Derived.Deep.AppendLies
import Derived.Deep.RegionLaw
import Derived.StillTailTactics
import Derived.Shelf.Strings.BuilderF
import Derived.Laws.EntriesVeiled
namespace Go.Proofs.YtkmjmfcanlknjaaGreat
open Go.RowKit Go.Maps

set_option maxRecDepth 100000 in
set_option maxHeartbeats 3200000 in
theorem rUsed_any (v : Value) (G : List Ru) (k : Int) (w : World) (h : RdRu w v G) (hl : LimG G) :
    Calls Tryz.prog 51 #[v, .int .i64 k] w fun e w' => ∃ v', e = .returned v' ∧ OwnStr w' w.heap.size v' (used k G) ∧ Below w.heap.size w w' := by
  obtain ⟨P, rfl, hR⟩ := h
  have HR := Lib.hid hR
  have HL := Lib.hid hl
  obtain ⟨⟨_, ao, cap, rfl, -⟩, -⟩ := hR
  have hpl : P.length ≤ 4398046511104 := by have := hl.len; rwa [List.length_map] at this
  have HI := Lib.hid rInsert_any
  clear hl
  generalize hG : P.map (·.1) = G at *
  have HG := Lib.hid hG
  have HGL : Hid (G.length = P.length) := by unfold Hid; rw [← hG, List.length_map]
  clear hG
  go_enter Tryz.func51, Tryz.ntmps51
  go_wp2_with fail
  go_loopw [5, 6] (fun o i wr => ∃ j : Nat, i = .int .i64 j ∧ j ≤ P.length ∧ Hid (OwnStr wr w.heap.size o (usedL (namesK k (G.take j)))) ∧ Hid (Below w.heap.size w wr)) (fun _ i _ => P.length - (intOf i).toNat)
  case atStart => exact ⟨0, rfl, by omega, World.ownsRow_nil _ _ _ _, Below.refl _ _⟩
  case round =>
    obtain ⟨j, rfl, hj, HO, HBel⟩ := hrel
    have hws := HBel.out.size
    by_cases hlt : j < P.length
    · obtain ⟨p, hp⟩ : ∃ p, P[j]? = some p := ⟨_, List.getElem?_eq_getElem hlt⟩
      obtain ⟨b, off, cp, e1, hb, hc, x0, x1, hrd⟩ := RdP.at HR.out hp
      simp only [Value.slice.injEq] at e1
      obtain ⟨rfl, -, rfl⟩ := e1
      have HGP : Hid (G[j]? = some p.1) := by unfold Hid; rw [← HG.out, List.getElem?_map, hp]; rfl
      have HV := Lib.hid hrd
      obtain ⟨_, ao3, cp3, hv2, -⟩ := id hrd
      obtain ⟨⟨ph, pb⟩, pv⟩ := p
      simp only at hv2 x0 x1 HGP HV
      subst hv2
      have HX1 : Hid (∀ wx, Below w.heap.size w wx → wx.cell? ⟨b, off + j * 2 + 1, none⟩ = some (.slice ao3 pb.length cp3)) := fun wx hbx => (hbx.cell (p := ⟨b, _, none⟩) hb).trans x1
      have hbl : pb.length ≤ 4398046511104 := Nat.le_trans (body_le (List.mem_of_getElem? HGP.out)) HL.out.nodes
      have hnn : Hid (∀ q, (namesK k (G.take j) ++ namesF k (pb.take q)).length ≤ 4398046511104) := fun q => by
        have h1 := nodesG_le G (j + 1)
        rw [(nodesG_take G HGP.out).2] at h1
        have h2 := HL.out.nodes
        have h3 := namesK_len k (G.take j)
        have h4 := namesF_len k (pb.take q)
        have h5 : (pb.take q).length ≤ pb.length := List.length_take_le' _ _
        simp only [List.length_append] at *
        omega
      clear x0 x1 hp hrd
      have X1 := HX1.out wr HBel.out
      go_wp2_with fail
      go_loopw [5, 7] (fun o i wr => ∃ q : Nat, i = .int .i64 q ∧ q ≤ pb.length ∧ Hid (OwnStr wr w.heap.size o (usedL (namesK k (G.take j) ++ namesF k (pb.take q)))) ∧ Hid (Below w.heap.size w wr)) (fun _ i _ => pb.length - (intOf i).toNat)
      case atStart => exact ⟨0, rfl, by omega, by simpa [namesF] using HO, HBel⟩
      case round =>
        clear X1 HO HBel
        obtain ⟨q, rfl, hq, HO, HBel⟩ := hrel
        have hws := HBel.out.size
        have X1 := HX1.out _ HBel.out
        by_cases hlq : q < pb.length
        · obtain ⟨x, hx⟩ : ∃ x, pb[q]? = some x := ⟨_, List.getElem?_eq_getElem hlq⟩
          obtain ⟨b4, off4, cp4, e1, hb4, hc4, y0, y1, y2⟩ := RdNd.at HV.out hx
          simp only [Value.slice.injEq] at e1
          obtain ⟨rfl, -, rfl⟩ := e1
          have Y0 := (HBel.out.cell (p := ⟨b4, _, none⟩) hb4).trans y0
          have Y1 := (HBel.out.cell (p := ⟨b4, _, none⟩) hb4).trans y1
          have HX := Lib.hid hx
          clear y0 y1 y2 hx
          by_cases hk : x.k = k
          · have HK : Hid (namesK k (G.take j) ++ namesF k (pb.take (q + 1)) = (namesK k (G.take j) ++ namesF k (pb.take q)) ++ [x.n]) := by unfold Hid; rw [namesF_take k pb HX.out, if_pos hk, List.append_assoc]
            subst hk
            have hin := HI.out _ _ x.n _ (RdS.of_own HO.out) (Nat.le_trans (usedL_len _) (hnn.out q))
            have HIn := Lib.hid hin
            clear hin
            go_wp2_with (go_at_call 99; refine (HIn.out).mono ?_; rintro e w2 ⟨v2, rfl, ho2, hb2⟩)
            have HO2 : Hid (OwnStr w2 w.heap.size v2 (usedL (namesK x.k (G.take j) ++ namesF x.k (pb.take (q + 1))))) := by unfold Hid; rw [HK.out, usedL_snoc]; exact own_lower ho2 hws
            have HB2 : Hid (Below w.heap.size w w2) := HBel.out.trans (hb2.mono hws)
            clear ho2 hb2
            go_roundw
            case rel => exact ⟨q + 1, by go_num, by omega, HO2, HB2⟩
            case measure => simp [intOf]; omega
          · have HK : Hid (namesK k (G.take j) ++ namesF k (pb.take (q + 1)) = namesK k (G.take j) ++ namesF k (pb.take q)) := by unfold Hid; rw [namesF_take k pb HX.out, if_neg hk, List.append_nil]
            have hk2 : (x.k == k) = false := by simpa using hk
            clear hk
            go_wp2_with fail
            go_roundw
            case rel => exact ⟨q + 1, by go_num, by omega, by rw [HK.out]; exact HO, HBel⟩
            case measure => simp [intOf]; omega
        · obtain rfl : q = pb.length := by omega
          have HO2 := HO.out
          rw [List.take_of_length_le (Nat.le_refl _), ← namesK_take k G HGP.out] at HO2
          have HO3 := Lib.hid HO2
          clear HO2
          go_wp2_with fail
          go_roundw
          case rel => exact ⟨j + 1, by go_num, by omega, HO3, HBel⟩
          case measure => simp [intOf]; omega
    · obtain rfl : j = P.length := by omega
      go_wp2_with fail
      go_ret
      have h1 := HO.out
      have h2 := HBel.out
      rw [List.take_of_length_le (by have := HGL.out; omega)] at h1
      exact ⟨_, rfl, h1, h2⟩
theorem rLabels_any (v : Value) (G : List Ru) (w : World) (h : RdRu w v G) (hl : LimG G) :
    Calls Tryz.prog 25 #[v] w fun e w' => ∃ v', e = .returned v' ∧ OwnStr w' w.heap.size v' (used 3 G) ∧ Below w.heap.size w w' := by
  have HU := Lib.hid (rUsed_any v G 3 w h hl)
  obtain ⟨P, rfl, hR⟩ := h
  obtain ⟨⟨_, ao, cap, rfl, -⟩, -⟩ := hR
  clear hl
  generalize P.map (·.1) = G at *
  go_enter Tryz.func25, Tryz.ntmps25
  go_wp2_with (go_at_call 51; refine (HU.out).mono ?_; rintro e w2 ⟨v2, rfl, ho2, hb2⟩)
  go_ret
  exact ⟨_, rfl, ho2, hb2⟩
/-! ### the occurrences -/
set_option maxRecDepth 100000 in
set_option maxHeartbeats 3200000 in
theorem rOccG_any (v : Value) (G : List Ru) (w : World) (h : RdRu w v G) (hl : LimG G) :
    Calls Tryz.prog 26 #[v] w fun e w' => e = .returned (.int .i64 (occG G)) ∧ Below w.heap.size w w' := by
  obtain ⟨P, rfl, hR⟩ := h
  have HR := Lib.hid hR
  have HL := Lib.hid hl
  obtain ⟨⟨_, ao, cap, rfl, -⟩, -⟩ := hR
  have hpl : P.length ≤ 4398046511104 := by have := hl.len; rwa [List.length_map] at this
  clear hl
  generalize hG : P.map (·.1) = G at *
  have HG := Lib.hid hG
  have HGL : Hid (G.length = P.length) := by unfold Hid; rw [← hG, List.length_map]
  clear hG
  have hle : Hid (∀ j, occG (G.take j) ≤ 4398046511104) := fun j => Nat.le_trans (occG_len _) (Nat.le_trans (nodesG_le G j) HL.out.nodes)
  go_enter Tryz.func26, Tryz.ntmps26
  go_wp2_with fail
  go_loopw [3, 4] (fun o i wr => ∃ j : Nat, i = .int .i64 j ∧ o = .int .i64 (occG (G.take j)) ∧ j ≤ P.length ∧ Hid (Below w.heap.size w wr)) (fun _ i _ => P.length - (intOf i).toNat)
  case atStart => exact ⟨0, rfl, rfl, by omega, Below.refl _ _⟩
  case round =>
    obtain ⟨j, rfl, rfl, hj, HBel⟩ := hrel
    have hws := HBel.out.size
    by_cases hlt : j < P.length
    · obtain ⟨p, hp⟩ : ∃ p, P[j]? = some p := ⟨_, List.getElem?_eq_getElem hlt⟩
      obtain ⟨b, off, cp, e1, hb, hc, x0, x1, hrd⟩ := RdP.at HR.out hp
      simp only [Value.slice.injEq] at e1
      obtain ⟨rfl, -, rfl⟩ := e1
      have X1 := (HBel.out.cell (p := ⟨b, _, none⟩) hb).trans x1
      have HGP : Hid (G[j]? = some p.1) := by unfold Hid; rw [← HG.out, List.getElem?_map, hp]; rfl
      have hbl : p.1.b.length ≤ 4398046511104 := Nat.le_trans (body_le (List.mem_of_getElem? HGP.out)) HL.out.nodes
      have HC := Lib.hid (fun wx h => rOcc_any p.2 p.1.b wx h hbl)
      have HT := Lib.hid (occG_take G HGP.out)
      have h1 := hle.out j
      have h2 := hle.out (j + 1)
      rw [HT.out] at h2
      have HV := Lib.hid (hrd.below HBel.out)
      obtain ⟨_, ao3, cp3, hv2, -⟩ := id hrd
      obtain ⟨⟨ph, pb⟩, pv⟩ := p
      simp only at hv2 X1 HGP HC HT HV h2
      subst hv2
      clear x0 x1 hp hrd hbl
      generalize (nmF pb 0).length = oc at *
      generalize occG (G.take j) = oj at *
      go_wp2_with (go_at_call 52; refine (HC.out _ HV.out).mono ?_; rintro e w2 ⟨rfl, hb2⟩; have HB2 := Lib.hid (HBel.out.trans (hb2.mono hws)); clear hb2)
      go_roundw
      case rel => exact ⟨j + 1, by go_num, by rw [HT.out]; simp, by omega, HB2.out⟩
      case measure => simp [intOf]; omega
    · obtain rfl : j = P.length := by omega
      have HE : Hid (occG (G.take P.length) = occG G) := by unfold Hid; rw [List.take_of_length_le (by have := HGL.out; omega)]
      go_wp2_with fail
      go_ret
      rw [HE.out]
      exact ⟨rfl, HBel.out⟩
/-! ### what is missing -/
theorem miss_take (l hs : List ByteArray) {j : Nat} {x : ByteArray} (h : l[j]? = some x) : (notIn (l.take (j + 1)) hs).length = (notIn (l.take j) hs).length + (if x ∈ hs then 0 else 1) := by
  obtain ⟨h1, h2⟩ := List.getElem?_eq_some_iff.1 h
  rw [List.take_succ_eq_append_getElem h1, h2]
  unfold notIn
  rw [List.filter_append, List.length_append]
  by_cases hx : x ∈ hs <;> simp [hx]
theorem missing_eq (G : List Ru) : missing G = (notIn (used 2 G) (heads G)).length := rfl
set_option maxRecDepth 100000 in
set_option maxHeartbeats 3200000 in
theorem rMissing_any (v : Value) (G : List Ru) (w : World) (h : RdRu w v G) (hl : LimG G) :
    Calls Tryz.prog 33 #[v] w fun e w' => e = .returned (.int .i64 (missing G)) ∧ Below w.heap.size w w' := by
  have HH := Lib.hid (rHeads_any v G w h hl)
  have HU := Lib.hid (fun w h => rUsed_any v G 2 w h hl)
  have HV := Lib.hid h
  have hul : (used 2 G).length ≤ 4398046511104 := Nat.le_trans (used_len 2 G) hl.nodes
  have hhl : (heads G).length ≤ 4398046511104 := Nat.le_trans (heads_len G) hl.len
  have HM := Lib.hid (missing_eq G)
  have HI := Lib.hid rIn_any
  obtain ⟨P, rfl, hR⟩ := h
  obtain ⟨⟨_, ao, cap, rfl, -⟩, -⟩ := hR
  clear hl
  generalize P.map (·.1) = G at *
  rw [HM.out]
  clear HM
  go_enter Tryz.func33, Tryz.ntmps33
  go_wp2_with fail
  refine (HH.out).mono ?_
  rintro e w1 ⟨v1, rfl, ho1, hb1⟩
  have HO1 := Lib.hid (RdS.of_own ho1)
  have HB1 := Lib.hid hb1
  obtain ⟨ao1, cp1, rfl⟩ := own_str_shape ho1
  clear ho1 hb1
  go_wp2_with fail
  refine (HU.out _ (HV.out.below HB1.out)).mono ?_
  rintro e w2 ⟨v2, rfl, ho2, hb2⟩
  have HO2 := Lib.hid (RdS.of_own ho2)
  have HO1' := Lib.hid (HO1.out.below hb2)
  have HB2 := Lib.hid (HB1.out.trans (hb2.mono HB1.out.size))
  obtain ⟨ao2, cp2, rfl⟩ := own_str_shape ho2
  clear ho2 hb2 HO1 HB1 HH HU HV
  generalize hul2 : used 2 G = ul at *
  generalize hhs2 : heads G = hs at *
  have HUl := Lib.hid hul2
  have HHs := Lib.hid hhs2
  clear hul2 hhs2
  go_wp2_with fail
  go_loop [5, 6] (fun n i => ∃ j : Nat, i = .int .i64 j ∧ j ≤ ul.length ∧ n = .int .i64 (notIn (ul.take j) hs).length) (fun _ i => ul.length - (intOf i).toNat)
  case atStart => exact ⟨0, rfl, by omega, by simp [notIn]⟩
  case round =>
    obtain ⟨j, rfl, hj, rfl⟩ := hrel
    have hnl : (notIn (ul.take j) hs).length ≤ j := Nat.le_trans (List.length_filter_le _ _) (List.length_take_le _ _)
    by_cases hlt : j < ul.length
    · obtain ⟨x, hx⟩ : ∃ x, ul[j]? = some x := ⟨_, List.getElem?_eq_getElem hlt⟩
      obtain ⟨b, off, cp, e1, hb, hc, x0⟩ := RdS.at HO2.out hx
      simp only [Value.slice.injEq] at e1
      obtain ⟨rfl, -, rfl⟩ := e1
      have HT := Lib.hid (miss_take ul hs hx)
      clear hx
      generalize (notIn (ul.take j) hs).length = nj at *
      by_cases hm : x ∈ hs
      · have hd : decide (x ∈ hs) = true := by simpa using hm
        rw [if_pos hm] at HT
        clear hm
        go_wp2_with (go_at_call 50; refine (HI.out _ hs x _ HO1'.out (by omega)).mono ?_; rintro e w' ⟨rfl, rfl⟩)
        go_round
        case rel => exact ⟨j + 1, by go_num, by omega, by rw [HT.out]; rfl⟩
        case measure => simp [intOf]; omega
      · have hd : decide (x ∈ hs) = false := by simpa using hm
        rw [if_neg hm] at HT
        clear hm
        go_wp2_with (go_at_call 50; refine (HI.out _ hs x _ HO1'.out (by omega)).mono ?_; rintro e w' ⟨rfl, rfl⟩)
        go_round
        case rel => exact ⟨j + 1, by go_num, by omega, by rw [HT.out]; simp⟩
        case measure => simp [intOf]; omega
    · obtain rfl : j = ul.length := by omega
      go_wp2_with fail
      go_ret
      exact ⟨by rw [HUl.out, HHs.out]; rfl, HB2.out⟩
end Go.Proofs.YtkmjmfcanlknjaaGreat
namespace Go.Proofs.YtkmjmfcanlknjaaGreat
open Go.RowKit

/-! ### plain: a tree for the words the other way round -/
def Fo.rev : Fo → Fo
  | .nil => .nil
  | .cons x k r => r.rev.app (.cons x k .nil)
def ordF (x : Nd) (k : Fo) : Fo := if x.k = 4 then k.rev else k
def Fo.tn : Fo → Fo
  | .nil => .nil
  | .cons x k r => .cons x (ordF x k.tn) r.tn
def Fo.flats : Fo → List (List Nd)
  | .nil => []
  | .cons x k r => (x :: k.flat) :: r.flats
def tnN (x : Nd) (k : Fo) : List Nd := x :: (ordF x k.tn).flat
theorem flat_flats (f : Fo) : f.flat = f.flats.flatten := by
  induction f with
  | nil => rfl
  | cons x k r _ ih => simp [Fo.flat, Fo.flats, ih]
theorem flats_app (f g : Fo) : (f.app g).flats = f.flats ++ g.flats := by
  induction f with
  | nil => rfl
  | cons x k r _ ih => simp [Fo.app, Fo.flats, ih]
theorem flats_rev (f : Fo) : f.rev.flats = f.flats.reverse := by
  induction f with
  | nil => rfl
  | cons x k r _ ih => simp [Fo.rev, flats_app, Fo.flats, ih]
theorem flats_len (f : Fo) : f.flats.length = f.len := by
  induction f with
  | nil => rfl
  | cons x k r _ ih => simp [Fo.flats, Fo.len, ih]
theorem rev_len (f : Fo) : f.rev.len = f.len := by rw [← flats_len, flats_rev, List.length_reverse, flats_len]
theorem ord_len (x : Nd) (f : Fo) : (ordF x f).len = f.len := by unfold ordF; split; exact rev_len f; rfl
theorem tn_len (f : Fo) : f.tn.len = f.len := by
  induction f with
  | nil => rfl
  | cons x k r _ ih => simp [Fo.tn, Fo.len, ih]
theorem rev_size (f : Fo) : f.rev.size = f.size := by
  induction f with
  | nil => rfl
  | cons x k r _ ih => simp [Fo.rev, Fo.size_app, Fo.size, ih]; omega
theorem ord_size (x : Nd) (f : Fo) : (ordF x f).size = f.size := by unfold ordF; split; exact rev_size f; rfl
theorem tn_size (f : Fo) : f.tn.size = f.size := by
  induction f with
  | nil => rfl
  | cons x k r ih1 ih => simp [Fo.tn, Fo.size, ih, ord_size, ih1]
theorem app_height (f g : Fo) : (f.app g).height = max f.height g.height := by
  induction f with
  | nil => simp [Fo.app, Fo.height]
  | cons x k r _ ih => simp only [Fo.app, Fo.height, ih]; omega
theorem rev_height (f : Fo) : f.rev.height = f.height := by
  induction f with
  | nil => rfl
  | cons x k r _ ih => simp only [Fo.rev, app_height, Fo.height, ih]; omega
theorem ord_height (x : Nd) (f : Fo) : (ordF x f).height = f.height := by unfold ordF; split; exact rev_height f; rfl
theorem tn_height (f : Fo) : f.tn.height = f.height := by
  induction f with
  | nil => rfl
  | cons x k r ih1 ih => simp only [Fo.tn, Fo.height, ih, ord_height, ih1]
theorem app_assoc' (f g h : Fo) : (f.app g).app h = f.app (g.app h) := by
  induction f with
  | nil => rfl
  | cons x k r _ ih => simp [Fo.app, ih]
theorem rev_app (f g : Fo) : (f.app g).rev = g.rev.app f.rev := by
  induction f with
  | nil => simp [Fo.app, Fo.rev, foApp_nil]
  | cons x k r _ ih => simp [Fo.app, Fo.rev, ih, app_assoc']
theorem rev_rev (f : Fo) : f.rev.rev = f := by
  induction f with
  | nil => rfl
  | cons x k r _ ih => simp [Fo.rev, rev_app, ih, Fo.app]
theorem tn_app (f g : Fo) : (f.app g).tn = f.tn.app g.tn := by
  induction f with
  | nil => rfl
  | cons x k r _ ih => simp [Fo.app, Fo.tn, ih]
theorem tn_rev (f : Fo) : f.rev.tn = f.tn.rev := by
  induction f with
  | nil => rfl
  | cons x k r _ ih => simp [Fo.rev, tn_app, Fo.tn, ih]
theorem tn_tn (f : Fo) : f.tn.tn = f := by
  induction f with
  | nil => rfl
  | cons x k r ih1 ih =>
    simp only [Fo.tn, ih]
    congr 1
    unfold ordF
    split
    · rw [tn_rev, rev_rev, ih1]
    · exact ih1
theorem wf_app' (f g : Fo) : (f.app g).wf ↔ f.wf ∧ g.wf := ⟨Fo.wf_app_inv f g, fun h => Fo.wf_app f g h.1 h.2⟩
theorem rev_wf (f : Fo) (h : f.wf) : f.rev.wf := by
  induction f with
  | nil => trivial
  | cons x k r _ ih => exact Fo.wf_app _ _ (ih h.2.2) ⟨h.1, h.2.1, trivial⟩
theorem ord_wf (x : Nd) (f : Fo) (h : f.wf) : (ordF x f).wf := by unfold ordF; split; exact rev_wf f h; exact h
theorem tn_wf (f : Fo) (h : f.wf) : f.tn.wf := by
  induction f with
  | nil => trivial
  | cons x k r ih1 ih => exact ⟨by rw [ord_len, tn_len]; exact h.1, ord_wf _ _ (ih1 h.2.1), ih h.2.2⟩
theorem rev_all {P : Nd → Prop} (f : Fo) (h : f.all P) : f.rev.all P := by
  induction f with
  | nil => trivial
  | cons x k r _ ih => exact Fo.all_app _ _ (ih h.2.2) ⟨h.1, h.2.1, trivial⟩
theorem ord_all {P : Nd → Prop} (x : Nd) (f : Fo) (h : f.all P) : (ordF x f).all P := by unfold ordF; split; exact rev_all f h; exact h
theorem tn_all {P : Nd → Prop} (f : Fo) (h : f.all P) : f.tn.all P := by
  induction f with
  | nil => trivial
  | cons x k r ih1 ih => exact ⟨h.1, ord_all _ _ (ih1 h.2.1), ih h.2.2⟩
theorem tn_get (f : Fo) : ∀ (i : Nat) (y : Nd) (kk : Fo), f.get i = .cons y kk .nil → f.tn.flats[i]? = some (tnN y kk) := by
  induction f with
  | nil => intro i y kk h; cases h
  | cons x k r _ ih =>
    intro i y kk h
    cases i with
    | zero =>
      simp only [Fo.get, Fo.cons.injEq, and_true] at h
      obtain ⟨rfl, rfl⟩ := h
      rfl
    | succ i => simpa [Fo.tn, Fo.flats] using ih i y kk h
/-! ### plain: sizes of texts -/
theorem joinS_len (sep : ByteArray) (l : List ByteArray) : (joinS sep l).size = (l.map (·.size)).sum + (l.length - 1) * sep.size := by
  have e : (joinS sep l).size = (Lib.join (l.map (·.data.toList)) sep.data.toList).length := by unfold joinS; simp [ByteArray.size]
  rw [e]
  cases l with
  | nil => simp [Lib.join_nil]
  | cons a r =>
    have key : ∀ r : List ByteArray, (Lib.joinTail sep.data.toList (r.map (·.data.toList))).length = (r.map (·.size)).sum + r.length * sep.size := by
      intro r
      induction r with
      | nil => simp [Lib.joinTail]
      | cons y r ih =>
        have h1 : y.data.toList.length = y.size := by rw [Array.length_toList]; rfl
        have h2 : sep.data.toList.length = sep.size := by rw [Array.length_toList]; rfl
        simp only [Lib.joinTail, List.map_cons, List.flatten_cons, List.length_append, List.sum_cons, List.length_cons] at ih ⊢
        rw [ih, h1, h2, Nat.succ_mul]
        omega
    have e9 : Lib.join ((a :: r).map (·.data.toList)) sep.data.toList = a.data.toList ++ Lib.joinTail sep.data.toList (r.map (·.data.toList)) := by rw [List.map_cons, Lib.join_cons]
    rw [e9, List.length_append, key]
    have h1 : a.data.toList.length = a.size := by rw [Array.length_toList]; rfl
    simp only [List.map_cons, List.sum_cons, List.length_cons]
    rw [h1]
    have : r.length + 1 - 1 = r.length := by omega
    rw [this]
    omega
def kz (f : Fo) : List (Int × Nat) := f.tx.map fun p => (p.1, p.2.size)
def bz (pk : Int) (p : Int × Nat) : Nat := if brkB pk p.1 = true then p.2 + 2 else p.2
theorem brk_bz (pk k : Int) (t : ByteArray) : (brk pk k t).size = bz pk (k, t.size) := by
  unfold brk bz
  split
  · rw [ByteArray.size_append, ByteArray.size_append]
    have e1 : (⟨#[40]⟩ : ByteArray).size = 1 := rfl
    have e2 : (⟨#[41]⟩ : ByteArray).size = 1 := rfl
    omega
  · rfl
theorem tx_app (f g : Fo) : (f.app g).tx = f.tx ++ g.tx := by
  induction f with
  | nil => rfl
  | cons x k r _ ih => simp [Fo.app, Fo.tx, ih]
theorem tx_rev (f : Fo) : f.rev.tx = f.tx.reverse := by
  induction f with
  | nil => rfl
  | cons x k r _ ih => simp [Fo.rev, tx_app, Fo.tx, ih]
theorem txN_size (x : Nd) (k : Fo) : (txN x k.tx).size = if x.k = 1 then 1 else if x.k = 2 ∨ x.k = 3 then x.n.size else ((kz k).map (bz x.k)).sum + ((kz k).length - 1) * (sepK x.k).size + (signK x.k).size := by
  unfold txN
  split
  · rfl
  · split
    · rfl
    · rw [ByteArray.size_append, joinS_len]
      congr 2
      · congr 1
        unfold kz
        rw [List.map_map, List.map_map]
        apply List.map_congr_left
        intro p _
        exact brk_bz _ _ _
      · rw [List.length_map]; unfold kz; rw [List.length_map]
theorem kz_ord (x : Nd) (f : Fo) : ((kz (ordF x f)).map (bz x.k)).sum = ((kz f).map (bz x.k)).sum ∧ (kz (ordF x f)).length = (kz f).length := by
  unfold ordF
  split
  · unfold kz
    rw [tx_rev]
    simp [List.map_reverse, List.sum_reverse]
  · exact ⟨rfl, rfl⟩
theorem kz_tn (f : Fo) : kz f.tn = kz f := by
  induction f with
  | nil => rfl
  | cons x k r ih1 ih =>
    have e1 : kz (Fo.cons x k r) = (x.k, (txN x k.tx).size) :: kz r := rfl
    have e2 : kz (Fo.cons x k r).tn = (x.k, (txN x (ordF x k.tn).tx).size) :: kz r.tn := rfl
    rw [e1, e2, ih, txN_size, txN_size, (kz_ord x k.tn).1, (kz_ord x k.tn).2, ih1]
theorem bounds_tn (x : Nd) (k : Fo) : boundsF x (ordF x k.tn) = boundsF x k := by
  have h : kz (Fo.cons x k .nil).tn = kz (Fo.cons x k .nil) := kz_tn _
  have hs : (txN x (ordF x k.tn).tx).size = (txN x k.tx).size := by
    have e1 : kz (Fo.cons x k .nil) = [(x.k, (txN x k.tx).size)] := rfl
    have e2 : kz (Fo.cons x k .nil).tn = [(x.k, (txN x (ordF x k.tn).tx).size)] := rfl
    rw [e1, e2] at h
    simpa using h
  unfold boundsF
  rw [ord_height, tn_height, hs]
theorem good_tn {N : List Nd} {x : Nd} {k : Fo} (h : GoodT N x k) : GoodT (tnN x k) x (ordF x k.tn) := by
  have hw := tn_wf _ h.wf
  have ha := tn_all _ h.all
  exact ⟨by simp [tnN, Fo.flat], hw, ha⟩
theorem tnN_tn (x : Nd) (k : Fo) : tnN x (ordF x k.tn) = (Fo.cons x k .nil).flat := by
  have h := tn_tn (Fo.cons x k .nil)
  have e : tnN x (ordF x k.tn) = (Fo.cons x k .nil).tn.tn.flat := by simp [tnN, Fo.tn, Fo.flat]
  rw [e, h]
theorem tnN_len (x : Nd) (k : Fo) : (tnN x k).length = k.size + 1 := by
  unfold tnN; rw [List.length_cons, Fo.flat_len, ord_size, tn_size]
/-- the kids in the order in which they are turned -/
def ordL (x : Nd) (k : Fo) : List (List Nd) := (ordF x k.tn).flats
theorem ordL_len (x : Nd) (k : Fo) : (ordL x k).length = k.len := by unfold ordL; rw [flats_len, ord_len, tn_len]
theorem ordL_flat (x : Nd) (k : Fo) : tnN x k = x :: (ordL x k).flatten := by unfold tnN ordL; rw [flat_flats]
def ordI (x : Nd) (n j : Nat) : Nat := if x.k = 4 then n - 1 - j else j
theorem ordL_at (x : Nd) (k : Fo) (j : Nat) (h : j < k.len) (y : Nd) (kk : Fo) (hg : k.get (ordI x k.len j) = .cons y kk .nil) : (ordL x k)[j]? = some (tnN y kk) := by
  unfold ordL ordF
  unfold ordI at hg
  split
  · rename_i h4
    rw [if_pos h4] at hg
    rw [flats_rev, List.getElem?_reverse (by rw [flats_len, tn_len]; exact h), flats_len, tn_len]
    exact tn_get k _ y kk hg
  · rename_i h4
    rw [if_neg h4] at hg
    exact tn_get k _ y kk hg
theorem ordL_take (x : Nd) (k : Fo) (j : Nat) (y : Nd) (kk : Fo) (h : (ordL x k)[j]? = some (tnN y kk)) : (x :: ((ordL x k).take j).flatten).length + (kk.size + 1) ≤ k.size + 1 := by
  have e1 : (ordL x k).take (j + 1) = (ordL x k).take j ++ [tnN y kk] := by rw [List.take_add_one, h]; rfl
  have e2 : ((ordL x k).take (j + 1)).flatten.length ≤ (ordL x k).flatten.length := by
    conv => rhs; rw [← List.take_append_drop (j + 1) (ordL x k), List.flatten_append, List.length_append]
    omega
  have e3 : (ordL x k).flatten.length = k.size := by
    have := congrArg List.length (ordL_flat x k)
    rw [tnN_len] at this
    simp at this ⊢
    omega
  rw [e1, List.flatten_append, List.length_append] at e2
  have e4 := tnN_len y kk
  simp only [List.flatten_cons, List.flatten_nil, List.append_nil] at e2
  rw [List.length_cons]
  omega
/-- what Turn answers -/
def TuS (N l : List Nd) (e : Int) : Prop :=
  (e ≠ 0 ∧ ChkS N e ∧ l = []) ∨ (e = 0 ∧ N.length ≤ 2048 ∧ ∃ x k, GoodT N x k ∧ boundsF x k = 0 ∧ l = tnN x k)
theorem tuS_ex (N : List Nd) : ∃ l e, TuS N l e := by
  obtain ⟨e, h⟩ := chkS_ex N
  by_cases he : e = 0
  · rcases h with ⟨_, h⟩ | ⟨_, _, h⟩ | ⟨h1, x, k, h2, h3⟩
    · omega
    · omega
    · exact ⟨_, 0, .inr ⟨rfl, h1, x, k, h2, by omega, rfl⟩⟩
  · exact ⟨_, e, .inl ⟨he, h, rfl⟩⟩
theorem TuS.chk {N l : List Nd} {e : Int} (h : TuS N l e) : ChkS N e := by
  rcases h with ⟨_, h, _⟩ | ⟨rfl, h1, x, k, h2, h3, _⟩
  · exact h
  · exact .inr (.inr ⟨h1, x, k, h2, h3.symm⟩)
theorem TuS.again {N l : List Nd} {e : Int} (h : TuS N l e) (he : e = 0) : TuS l N 0 := by
  rcases h with ⟨h, _⟩ | ⟨_, h1, x, k, h2, h3, rfl⟩
  · exact absurd he h
  · refine .inr ⟨rfl, by rw [tnN_len]; have := h2.len; omega, x, ordF x k.tn, good_tn h2, by rw [bounds_tn]; exact h3, ?_⟩
    rw [tnN_tn]; exact h2.flat
theorem TuS.len {N l : List Nd} {e : Int} (h : TuS N l e) : l.length ≤ 2048 := by
  rcases h with ⟨_, _, rfl⟩ | ⟨_, h1, x, k, h2, h3, rfl⟩
  · simp
  · rw [tnN_len]; have := h2.len; omega
end Go.Proofs.YtkmjmfcanlknjaaGreat
namespace Go.Proofs.YtkmjmfcanlknjaaGreat
open Go.RowKit Go.Shelf

/-! ### slices.Reverse of the kids -/
end Go.Proofs.YtkmjmfcanlknjaaGreat
namespace Go.Proofs.YtkmjmfcanlknjaaGreat
open Go.RowKit Go.Shelf

/-! ### turn -/
def ordP (x : Nd) (l : List (Nat × Nat)) : List (Nat × Nat) := if x.k = 4 then l.reverse else l
theorem ordP_len (x : Nd) (l : List (Nat × Nat)) : (ordP x l).length = l.length := by unfold ordP; split <;> simp
theorem ordP_at (x : Nd) (l : List (Nat × Nat)) (j : Nat) (h : j < l.length) : (ordP x l)[j]? = l[ordI x l.length j]? := by
  unfold ordP ordI
  split
  · rw [List.getElem?_reverse h]
  · rfl

end Go.Proofs.YtkmjmfcanlknjaaGreat
namespace Go.Proofs.YtkmjmfcanlknjaaGreat
open Go.RowKit Go.Shelf

theorem own_types {w : World} {B B' : Nat} {e e' s s' : Nat} {v v' : Value} {n n' : Nat} {xs xs' : List Value} (h : w.ownsRow B e s v n xs) (h' : w.ownsRow B' e' s' v' n' xs') (he : e ≠ e') (j : Nat) (hj : v.ownBlock = some j) : v'.ownBlock ≠ some j := by
  intro hj'
  rcases h.2 with ⟨rfl, _⟩ | ⟨g, cap, cur, rfl, _, hg, _⟩
  · simp [Value.ownBlock] at hj
  · rcases h'.2 with ⟨rfl, _⟩ | ⟨g', cap', cur', rfl, _, hg', _⟩
    · simp [Value.ownBlock] at hj'
    · simp only [Value.ownBlock, Option.some.injEq] at hj hj'
      subst hj; subst hj'
      rw [hg] at hg'
      simp at hg'
      exact he hg'.2
/-! ### TurnAt -/
theorem treeAt_kid {N : List Nd} {p : Nat} {x : Nd} {k : Fo} {R : List Nd} (hT : TreeAt N p x k R) (i : Nat) (pc : Nat × Nat) (hpc : (k.pieces (p + 1))[i]? = some pc) (y : Nd) (kk : Fo) (hy : k.get i = .cons y kk .nil) (hw : y.c = kk.len ∧ kk.wf) :
    ∃ R2, TreeAt N pc.1 y kk R2 := by
  obtain ⟨q1, qa, qb, q2, q3, q4, q5, q6⟩ := Fo.flat_get k i (p + 1) pc hpc
  rw [hy] at q2
  have hd := hT.head.2.1
  refine ⟨qb ++ R, ?_, ⟨hw.1, hw.2, trivial⟩, by have := Fo.all_get k hT.all.2.1 i; rw [hy] at this; exact this⟩
  rw [show pc.1 = (p + 1) + (pc.1 - (p + 1)) from by omega, ← List.drop_drop, hd, q2, ← q3]
  simp

end Go.Proofs.YtkmjmfcanlknjaaGreat
namespace Go.Proofs.YtkmjmfcanlknjaaGreat
open Go.RowKit Go.Shelf
end Go.Proofs.YtkmjmfcanlknjaaGreat
namespace Go.Proofs.YtkmjmfcanlknjaaGreat
open Go.RowKit Go.Shelf

/-! ### plain: has a tree the empty word -/
def empN (x : Nd) (es : List Bool) : Bool := if x.k = 1 ∨ x.k = 6 ∨ x.k = 8 then true else if x.k = 4 ∨ x.k = 7 then es.all id else if x.k = 5 then es.any id else false
def Fo.emp : Fo → List Bool
  | .nil => []
  | .cons x k r => empN x k.emp :: r.emp
theorem Fo.emp_len (f : Fo) : f.emp.length = f.len := by
  induction f with
  | nil => rfl
  | cons x k r _ ih => simp [Fo.emp, Fo.len, ih]
theorem emp_get (f : Fo) : ∀ (i : Nat) (y : Nd) (kk : Fo), f.get i = .cons y kk .nil → f.emp[i]? = some (empN y kk.emp) := by
  induction f with
  | nil => intro i y kk h; cases h
  | cons x k r _ ih =>
    intro i y kk h
    cases i with
    | zero =>
      simp only [Fo.get, Fo.cons.injEq, and_true] at h
      obtain ⟨rfl, rfl⟩ := h
      rfl
    | succ i => simpa [Fo.emp] using ih i y kk h
theorem any_not (l : List Bool) : (l.map not).any id = !l.all id := by
  induction l with
  | nil => rfl
  | cons b l ih => cases b <;> simp_all
def AnyIx (bs : List Bool) (r : Int) : Prop := (r = -1 ∧ bs.any id = false) ∨ (0 ≤ r ∧ bs.any id = true)

/-! ### empty -/
/-! ### EmptyAt -/
theorem any_snoc (l : List Bool) (j : Nat) (q : Bool) (h : l[j]? = some q) : (l.take (j + 1)).any id = ((l.take j).any id || q) ∧ (l.take (j + 1)).all id = ((l.take j).all id && q) := by
  rw [List.take_add_one, h]; simp

end Go.Proofs.YtkmjmfcanlknjaaGreat
namespace Go.Proofs.YtkmjmfcanlknjaaGreat
open Go.RowKit Go.Shelf

def TreeS (N : List Nd) (hh : Int) (em : Bool) : Prop := (treeB N = false ∧ hh = 0 ∧ em = false) ∨ ∃ x k, GoodT N x k ∧ hh = ((k.height + 1 : Nat) : Int) ∧ em = empN x k.emp
theorem treeS_ex (N : List Nd) : ∃ hh em, TreeS N hh em := by
  cases ht : treeB N with
  | false => exact ⟨0, false, .inl ⟨ht, rfl, rfl⟩⟩
  | true =>
    obtain ⟨x, k, h1, h2, h3⟩ := tree_sound ht
    exact ⟨_, _, .inr ⟨x, k, ⟨h1, h2, h3⟩, rfl, rfl⟩⟩

set_option maxRecDepth 100000 in
set_option maxHeartbeats 1600000 in
theorem xHeightT_any (v : Value) (N : List Nd) (hh : Int) (em : Bool) (w : World) (h : RdNd w v N) (hS : TreeS N hh em) (hl : N.length ≤ 16777216) :
    Calls Tryz.prog 63 #[v] w fun e w' => e = .returned (.int .i64 hh) ∧ Below w.heap.size w w' := by
  have HW := Lib.hid (xWhole_any v N w h hl)
  rcases hS with ⟨h1, rfl, -⟩ | ⟨x, k, hG, rfl, -⟩
  · obtain ⟨_, ao, cap, rfl, -⟩ := h
    rw [h1] at HW
    generalize N.length = n at *
    clear h1
    go_enter Tryz.func63, Tryz.ntmps63
    go_wp2_with (go_at_call 103; refine (HW.out).mono ?_; rintro en w2 ⟨rfl, hb2⟩)
    go_ret
    exact ⟨rfl, hb2⟩
  · rw [hG.tree] at HW
    have HT : Hid (∀ wx, Below w.heap.size w wx → Calls Tryz.prog 104 #[v] wx fun e w' => e = .returned (.int .i64 ((k.height + 1 : Nat) : Int)) ∧ Below wx.heap.size wx w') := by
      intro wx hb
      have h2 := h.below hb
      have hln := hG.len
      obtain ⟨b, off, cap, rfl, hc, hat⟩ := NdAt.of_rd h2 (by omega)
      rw [hG.flat] at hat hc hl ⊢
      have hht : (Fo.cons x k .nil).height = k.height + 1 := by simp [Fo.height]
      have := xHeight_any b off cap (Fo.cons x k .nil) wx hat hG.wf hc (by omega)
      rw [hht] at this
      exact this
    clear hG
    obtain ⟨_, ao, cap, rfl, -⟩ := h
    generalize N.length = n at *
    generalize (k.height + 1) = q at *
    go_enter Tryz.func63, Tryz.ntmps63
    go_wp2_with (first | (go_at_call 103; refine (HW.out).mono ?_; rintro en w2 ⟨rfl, hb2⟩; have HB2 := Lib.hid hb2; clear hb2) | (go_at_call 104; refine (HT.out _ HB2.out).mono ?_; rintro en w3 ⟨rfl, hb3⟩))
    go_ret
    exact ⟨rfl, HB2.out.trans (hb3.mono HB2.out.size)⟩

set_option maxRecDepth 100000 in
set_option maxHeartbeats 1600000 in
theorem rHeightT_any (v : Value) (N : List Nd) (hh : Int) (em : Bool) (w : World) (h : RdNd w v N) (hS : TreeS N hh em) (hl : N.length ≤ 16777216) :
    Calls Tryz.prog 73 #[v] w fun e w' => e = .returned (.int .i64 hh) ∧ Below w.heap.size w w' := by
  have HW := Lib.hid (rIsTree_any v N w h hl)
  rcases hS with ⟨h1, rfl, -⟩ | ⟨x, k, hG, rfl, -⟩
  · obtain ⟨_, ao, cap, rfl, -⟩ := h
    rw [h1] at HW
    generalize N.length = n at *
    clear h1
    go_enter Tryz.func73, Tryz.ntmps73
    go_wp2_with (go_at_call 72; refine (HW.out).mono ?_; rintro en w2 ⟨rfl, hb2⟩)
    go_ret
    exact ⟨rfl, hb2⟩
  · rw [hG.tree] at HW
    have HT : Hid (∀ wx, Below w.heap.size w wx → Calls Tryz.prog 106 #[v, .int .i64 0] wx fun e w' => e = .returned (.int .i64 ((k.height + 1 : Nat) : Int)) ∧ Below wx.heap.size wx w') := by
      intro wx hb
      have h2 := h.below hb
      have hln := hG.len
      exact rHeight_all (k.size + 1) v N 0 x k [] wx (Nat.le_refl _) h2 hl ⟨by rw [List.drop_zero, List.append_nil]; exact hG.flat, hG.wf, hG.all⟩
    clear hG
    obtain ⟨_, ao, cap, rfl, -⟩ := h
    generalize N.length = n at *
    generalize (k.height + 1) = q at *
    go_enter Tryz.func73, Tryz.ntmps73
    go_wp2_with (first | (go_at_call 72; refine (HW.out).mono ?_; rintro en w2 ⟨rfl, hb2⟩; have HB2 := Lib.hid hb2; clear hb2) | (go_at_call 106; refine (HT.out _ HB2.out).mono ?_; rintro en w3 ⟨rfl, hb3⟩))
    go_ret
    exact ⟨rfl, HB2.out.trans (hb3.mono HB2.out.size)⟩

end Go.Proofs.YtkmjmfcanlknjaaGreat
namespace Go.Proofs.YtkmjmfcanlknjaaGreat
open Go.RowKit

theorem trees_take {G : List Ru} {j : Nat} {r : Ru} (h : G[j]? = some r) (h1 : treesB (G.take j) = true) (h2 : (nameB r.h 1 && treeB r.b) = true) : treesB (G.take (j + 1)) = true := by
  rw [(nodesG_take G h).1]
  unfold treesB at h1 ⊢
  rw [List.all_append, h1]; simp only [List.all_cons, List.all_nil, Bool.true_and, Bool.and_true]; exact h2
theorem trees_false {G : List Ru} {r : Ru} (h : r ∈ G) (h2 : (nameB r.h 1 && treeB r.b) = false) : treesB G = false := by
  unfold treesB
  rw [List.all_eq_false]
  exact ⟨r, h, by rw [h2]; simp⟩
set_option maxRecDepth 100000 in
set_option maxHeartbeats 3200000 in
theorem rTrees_any (v : Value) (G : List Ru) (w : World) (h : RdRu w v G) (hl : LimG G) (hn : nodesG G ≤ 16777216) :
    Calls Tryz.prog 32 #[v] w fun e w' => e = .returned (.bool (treesB G)) ∧ Below w.heap.size w w' := by
  obtain ⟨P, rfl, hR⟩ := h
  have HR := Lib.hid hR
  have HN := Lib.hid hn
  obtain ⟨⟨_, ao, cap, rfl, -⟩, -⟩ := hR
  have hpl : P.length ≤ 4398046511104 := by have := hl.len; rwa [List.length_map] at this
  have HC := Lib.hid (fun s w => rName_any s 85 1 w (.inl ⟨rfl, rfl⟩))
  clear hl
  generalize hG : P.map (·.1) = G at *
  have HG := Lib.hid hG
  have HGL : Hid (G.length = P.length) := by unfold Hid; rw [← hG, List.length_map]
  clear hG
  go_enter Tryz.func32, Tryz.ntmps32
  go_wp2_with fail
  go_loopw [3] (fun i wr => ∃ j : Nat, i = .int .i64 j ∧ j ≤ P.length ∧ Hid (treesB (G.take j) = true) ∧ Hid (Below w.heap.size w wr)) (fun i _ => P.length - (intOf i).toNat)
  case atStart => exact ⟨0, rfl, by omega, rfl, Below.refl _ _⟩
  case round =>
    obtain ⟨j, rfl, hj, HT, HBel⟩ := hrel
    have hws := HBel.out.size
    by_cases hlt : j < P.length
    · obtain ⟨p, hp⟩ : ∃ p, P[j]? = some p := ⟨_, List.getElem?_eq_getElem hlt⟩
      obtain ⟨b, off, cp, e1, hb, hc, x0, x1, hrd⟩ := RdP.at HR.out hp
      simp only [Value.slice.injEq] at e1
      obtain ⟨rfl, -, rfl⟩ := e1
      have X0 := (HBel.out.cell (p := ⟨b, _, none⟩) hb).trans x0
      have X1 := (HBel.out.cell (p := ⟨b, _, none⟩) hb).trans x1
      have HGP : Hid (G[j]? = some p.1) := by unfold Hid; rw [← HG.out, List.getElem?_map, hp]; rfl
      have hmem := List.mem_of_getElem? HGP.out
      have hbn : p.1.b.length ≤ 16777216 := Nat.le_trans (body_le hmem) HN.out
      have HTr := Lib.hid (rIsTree_any p.2 p.1.b wr (hrd.below HBel.out) hbn)
      have HNx := Lib.hid (trees_take HGP.out HT.out)
      have HFx := Lib.hid (trees_false hmem)
      obtain ⟨_, ao3, cp3, hv2, -⟩ := id hrd
      obtain ⟨⟨ph, pb⟩, pv⟩ := p
      simp only at hv2 X0 X1 HGP HTr HNx HFx
      subst hv2
      clear x0 x1 hp hrd hbn hmem
      have HC2 := Lib.hid (HC.out ph)
      cases hb1 : nameB ph 1 with
      | false =>
        rw [hb1] at HC2 HFx
        have HF := Lib.hid (HFx.out rfl)
        clear hb1 HNx HFx
        go_wp2_with (go_at_call 71; refine (HC2.out _).mono ?_; rintro e w2 ⟨rfl, rfl⟩)
        go_ret
        rw [HF.out]
        exact ⟨rfl, HBel.out⟩
      | true =>
        cases hb2 : treeB pb with
        | false =>
          rw [hb1] at HC2 HFx
          rw [hb2] at HFx HTr
          have HF := Lib.hid (HFx.out rfl)
          clear hb1 hb2 HNx HFx
          go_wp2_with (first
            | (go_at_call 71; refine (HC2.out _).mono ?_; rintro e w2 ⟨rfl, rfl⟩)
            | (go_at_call 72; refine (HTr.out).mono ?_; rintro e w3 ⟨rfl, hb3⟩))
          go_ret
          rw [HF.out]
          exact ⟨rfl, HBel.out.trans (hb3.mono hws)⟩
        | true =>
          rw [hb1] at HC2 HNx
          rw [hb2] at HNx HTr
          have HF := Lib.hid (HNx.out rfl)
          clear hb1 hb2 HNx HFx
          go_wp2_with (first
            | (go_at_call 71; refine (HC2.out _).mono ?_; rintro e w2 ⟨rfl, rfl⟩)
            | (go_at_call 72; refine (HTr.out).mono ?_; rintro e w3 ⟨rfl, hb3⟩; have HB3 := Lib.hid (HBel.out.trans (hb3.mono hws)); clear hb3))
          go_roundw
          case rel => exact ⟨j + 1, by go_num, by omega, HF, HB3⟩
          case measure => simp [intOf]; omega
    · obtain rfl : j = P.length := by omega
      have HE : Hid (treesB G = true) := by have := HT.out; rw [List.take_of_length_le (by have := HGL.out; omega)] at this; exact this
      go_wp2_with fail
      go_ret
      rw [HE.out]
      exact ⟨rfl, HBel.out⟩
/-! ### Deep -/
set_option maxRecDepth 100000 in
set_option maxHeartbeats 3200000 in
theorem rDeep_any (v : Value) (G : List Ru) (w : World) (h : RdRu w v G) (hl : LimG G) (hn : nodesG G ≤ 16777216) (ht : treesB G = true) :
    Calls Tryz.prog 34 #[v] w fun e w' => e = .returned (.bool (deepB G)) ∧ Below w.heap.size w w' := by
  obtain ⟨P, rfl, hR⟩ := h
  have HR := Lib.hid hR
  have HN := Lib.hid hn
  have HTr := Lib.hid ht
  obtain ⟨⟨_, ao, cap, rfl, -⟩, -⟩ := hR
  have hpl : P.length ≤ 4398046511104 := by have := hl.len; rwa [List.length_map] at this
  clear hl ht
  generalize hG : P.map (·.1) = G at *
  have HG := Lib.hid hG
  have HGL : Hid (G.length = P.length) := by unfold Hid; rw [← hG, List.length_map]
  clear hG
  go_enter Tryz.func34, Tryz.ntmps34
  go_wp2_with fail
  go_loopw [3] (fun i wr => ∃ j : Nat, i = .int .i64 j ∧ j ≤ P.length ∧ Hid (deepB (G.take j) = false) ∧ Hid (Below w.heap.size w wr)) (fun i _ => P.length - (intOf i).toNat)
  case atStart => exact ⟨0, rfl, by omega, rfl, Below.refl _ _⟩
  case round =>
    obtain ⟨j, rfl, hj, HD, HBel⟩ := hrel
    have hws := HBel.out.size
    by_cases hlt : j < P.length
    · obtain ⟨p, hp⟩ : ∃ p, P[j]? = some p := ⟨_, List.getElem?_eq_getElem hlt⟩
      obtain ⟨b, off, cp, e1, hb, hc, x0, x1, hrd⟩ := RdP.at HR.out hp
      simp only [Value.slice.injEq] at e1
      obtain ⟨rfl, -, rfl⟩ := e1
      have X1 := (HBel.out.cell (p := ⟨b, _, none⟩) hb).trans x1
      have HGP : Hid (G[j]? = some p.1) := by unfold Hid; rw [← HG.out, List.getElem?_map, hp]; rfl
      have hmem := List.mem_of_getElem? HGP.out
      have hbn : p.1.b.length ≤ 16777216 := Nat.le_trans (body_le hmem) HN.out
      have htr := (trees_mem HTr.out hmem).2
      have HH := Lib.hid (rHeightT_any p.2 p.1.b (heightN p.1.b) (empN (pickT p.1.b).1 (pickT p.1.b).2.emp) wr (hrd.below HBel.out) (.inr ⟨_, _, pickT_good htr, by rw [heightN_eq (pickT_good htr)], rfl⟩) hbn)
      have HDn : Hid (deepB (G.take (j + 1)) = decide (16 < heightN p.1.b)) := by
        unfold Hid
        rw [(nodesG_take G HGP.out).1]
        have := HD.out
        unfold deepB at this ⊢
        rw [List.any_append, this]; simp
      have HDt : Hid (16 < heightN p.1.b → deepB G = true) := fun h => List.any_eq_true.2 ⟨_, hmem, by simpa using h⟩
      obtain ⟨_, ao3, cp3, hv2, -⟩ := id hrd
      obtain ⟨⟨ph, pb⟩, pv⟩ := p
      simp only at hv2 X1 HGP HH HDn HDt
      subst hv2
      clear x0 x1 hp hrd hbn hmem htr
      generalize heightN pb = hn at *
      by_cases hd : 16 < hn
      · have HF := Lib.hid (HDt.out hd)
        go_wp2_with (go_at_call 73; refine (HH.out).mono ?_; rintro e w2 ⟨rfl, hb2⟩)
        go_ret
        rw [HF.out]
        exact ⟨rfl, HBel.out.trans (hb2.mono hws)⟩
      · have HF : Hid (deepB (G.take (j + 1)) = false) := by unfold Hid; rw [HDn.out]; simpa using hd
        go_wp2_with (go_at_call 73; refine (HH.out).mono ?_; rintro e w2 ⟨rfl, hb2⟩; have HB2 := Lib.hid (HBel.out.trans (hb2.mono hws)); clear hb2)
        go_roundw
        case rel => exact ⟨j + 1, by go_num, by omega, HF, HB2⟩
        case measure => simp [intOf]; omega
    · obtain rfl : j = P.length := by omega
      have HE : Hid (deepB G = false) := by have := HD.out; rw [List.take_of_length_le (by have := HGL.out; omega)] at this; exact this
      go_wp2_with fail
      go_ret
      rw [HE.out]
      exact ⟨rfl, HBel.out⟩
/-! ### SameTexts -/
set_option maxRecDepth 100000 in
set_option maxHeartbeats 3200000 in
theorem rSameTexts_any (va vb : Value) (la lb : List ByteArray) (w : World) (ha : RdS w va la) (hb : RdS w vb lb) (hla : la.length ≤ 140737488355328) (_ : lb.length ≤ 140737488355328) :
    Calls Tryz.prog 23 #[va, vb] w fun e w' => e = .returned (.bool (decide (la = lb))) ∧ Below w.heap.size w w' := by
  obtain ⟨_, ao, ac, rfl, -⟩ := id ha
  obtain ⟨_, bo, bc, rfl, -⟩ := id hb
  have HA := Lib.hid ha
  have HB := Lib.hid hb
  clear ha hb
  by_cases hlen : la.length = lb.length
  · have hlen' : ((la.length : Int) != lb.length) = false := by rw [hlen]; simp
    have HL := Lib.hid hlen
    clear hlen
    go_enter Tryz.func23, Tryz.ntmps23
    go_wp2
    go_loopw [5] (fun i wr => ∃ j : Nat, j ≤ la.length ∧ i = .int .i64 j ∧ Hid (∀ q, q < j → la[q]? = lb[q]?) ∧ Below w.heap.size w wr) (fun i _ => la.length - (intOf i).toNat)
    case atStart => exact ⟨0, by omega, rfl, fun q h => by omega, Below.refl _ _⟩
    case round =>
      obtain ⟨j, hj, rfl, HQ, hbel⟩ := hrel
      by_cases hlt : j < la.length
      · obtain ⟨ma, hma⟩ : ∃ m, la[j]? = some m := ⟨_, List.getElem?_eq_getElem hlt⟩
        obtain ⟨mb, hmb⟩ : ∃ m, lb[j]? = some m := ⟨_, List.getElem?_eq_getElem (by rw [← HL.out]; exact hlt)⟩
        obtain ⟨b1, o1, c1, e1, l1, k1, x0⟩ := (HA.out).at hma
        obtain ⟨b2, o2, c2, e2, l2, k2, y0⟩ := (HB.out).at hmb
        simp only [Value.slice.injEq] at e1 e2
        obtain ⟨rfl, -, rfl⟩ := e1
        obtain ⟨rfl, -, rfl⟩ := e2
        have X0 := (hbel.cell (p := ⟨b1, _, none⟩) l1).trans x0
        have Y0 := (hbel.cell (p := ⟨b2, _, none⟩) l2).trans y0
        clear x0 y0
        have hltb : j < lb.length := by rw [← HL.out]; exact hlt
        have H1 := Lib.hid hma
        have H2 := Lib.hid hmb
        clear hma hmb
        by_cases hm : ma = mb
        · subst hm
          have hq : (ma.toList == ma.toList) = true := by simp
          go_wp2
          go_quiet (fail)
          go_wp2
          go_roundw
          case rel =>
            refine ⟨j + 1, by omega, by go_num, ?_, below_drewN hbel _⟩
            intro q hq2
            by_cases h : q = j
            · subst h; rw [H1.out, H2.out]
            · exact HQ.out q (by omega)
          case measure => simp [intOf]; omega
        · have hq : (ma.toList == mb.toList) = false := by rw [beq_toList]; simpa using hm
          go_wp2
          go_quiet (fail)
          go_wp2
          go_ret
          have : decide (la = lb) = false := by
            rw [decide_eq_false_iff_not]; intro e; rw [e] at H1; rw [H1.out] at H2; exact hm (Option.some.inj H2.out)
          rw [this]
          exact ⟨rfl, below_drewN hbel _⟩
      · obtain rfl : j = la.length := by omega
        go_wp2
        go_ret
        have : decide (la = lb) = true := by
          rw [decide_eq_true_iff]
          apply List.ext_getElem?
          intro q
          by_cases h : q < la.length
          · exact HQ.out q h
          · rw [List.getElem?_eq_none (by omega), List.getElem?_eq_none (by rw [← HL.out]; omega)]
        rw [this]
        exact ⟨rfl, hbel⟩
  · have hlen' : ((la.length : Int) != lb.length) = true := by simpa using by omega
    have HL := Lib.hid hlen
    clear hlen
    go_enter Tryz.func23, Tryz.ntmps23
    go_wp2
    go_ret
    have : decide (la = lb) = false := by
      rw [decide_eq_false_iff_not]; intro e; exact HL.out (by rw [e])
    rw [this]
    exact ⟨rfl, Below.refl _ _⟩
end Go.Proofs.YtkmjmfcanlknjaaGreat
namespace Go.Proofs.YtkmjmfcanlknjaaGreat
open Go.RowKit

set_option maxRecDepth 100000 in
set_option maxHeartbeats 6400000 in
theorem rText_any (v : Value) (G : List Ru) (w : World) (h : RdRu w v G) (hl : G.length ≤ 64) (hn : nodesG G ≤ 16777216) (ht : treesB G = true) :
    Calls Tryz.prog 35 #[v] w fun e w' => e = .returned (.string (textG G)) ∧ Below w.heap.size w w' := by
  obtain ⟨P, rfl, hR⟩ := h
  have HR := Lib.hid hR
  have HTr := Lib.hid ht
  have HN := Lib.hid hn
  obtain ⟨⟨_, ao, cap, rfl, -⟩, -⟩ := hR
  have hpl : P.length ≤ 64 := by rwa [List.length_map] at hl
  have hts := text_size _ ht
  rw [List.length_map] at hts
  have hts2 : (textG (P.map (·.1))).size ≤ 1099511627776 := by omega
  clear hl ht hn hts
  generalize hG : P.map (·.1) = G at *
  have HG := Lib.hid hG
  have HGL : Hid (G.length = P.length) := by unfold Hid; rw [← hG, List.length_map]
  clear hG
  have HTS := Lib.hid hts2
  clear hts2
  go_enter Tryz.func35, Tryz.ntmps35
  go_wp2_with fail
  go_loopw [3, 4] (fun o i wr => ∃ j : Nat, i = .int .i64 j ∧ j ≤ P.length ∧ o = .string (textG (G.take j)) ∧ Hid (Below w.heap.size w wr)) (fun _ i _ => P.length - (intOf i).toNat)
  case atStart => exact ⟨0, rfl, by omega, rfl, Below.refl _ _⟩
  case round =>
    obtain ⟨j, rfl, hj, rfl, HBel⟩ := hrel
    have hws := HBel.out.size
    by_cases hlt : j < P.length
    · obtain ⟨p, hp⟩ : ∃ p, P[j]? = some p := ⟨_, List.getElem?_eq_getElem hlt⟩
      obtain ⟨b, off, cp, e1, hb, hc, x0, x1, hrd⟩ := RdP.at HR.out hp
      simp only [Value.slice.injEq] at e1
      obtain ⟨rfl, -, rfl⟩ := e1
      have X0 := (HBel.out.cell (p := ⟨b, _, none⟩) hb).trans x0
      have X1 := (HBel.out.cell (p := ⟨b, _, none⟩) hb).trans x1
      have hbw : b < wr.heap.size := by omega
      have HGP : Hid (G[j]? = some p.1) := by unfold Hid; rw [← HG.out, List.getElem?_map, hp]; rfl
      have hmem := List.mem_of_getElem? HGP.out
      have hbl : p.1.b.length ≤ 16777216 := Nat.le_trans (body_le hmem) HN.out
      obtain ⟨hnm, htr⟩ := trees_mem HTr.out hmem
      have HTx : Hid (∀ wx, Below w.heap.size w wx → Calls Tryz.prog 74 #[p.2, .int .i64 0] wx fun e w' => e = .returned (.string (textN p.1.b)) ∧ Below wx.heap.size wx w') := fun wx hbx => by
        have hGd := pickT_good htr
        exact rText_all ((pickT p.1.b).2.size + 1) p.2 p.1.b 0 _ _ [] wx (Nat.le_refl _) (hrd.below hbx) hbl ⟨by rw [List.drop_zero, List.append_nil]; exact hGd.flat, hGd.wf, hGd.all⟩
      have HT := Lib.hid (textG_take G HGP.out)
      have hle := textG_le G (j + 1)
      rw [HT.out, ByteArray.size_append] at hle
      have hsum : (textR p.1).size = p.1.h.size + 3 + (textN p.1.b).size + 3 := by
        unfold textR; rw [ByteArray.size_append, ByteArray.size_append, ByteArray.size_append]; rfl
      have htx := HTS.out
      have HTR : Hid (textR p.1 = p.1.h ++ (⟨#[32, 61, 32]⟩ : ByteArray) ++ textN p.1.b ++ (⟨#[32, 59, 10]⟩ : ByteArray)) := rfl
      obtain ⟨_, ao3, cp3, hv2, -⟩ := id hrd
      obtain ⟨⟨ph, pb⟩, pv⟩ := p
      simp only at hv2 X0 X1 HGP HTx HT hle hsum HTR
      subst hv2
      clear x0 x1 hp hrd hbl hmem hnm htr
      have HB0 : Hid (Below w.heap.size w wr) := HBel
      generalize textN pb = tn at *
      generalize textG (G.take j) = tj at *
      have hs1 : ¬ 9223372036854775807 < tj.size + ph.size := by omega
      have hs2 : ¬ 9223372036854775807 < tj.size + ph.size + 3 := by omega
      have hs3 : ¬ 9223372036854775807 < tj.size + ph.size + 3 + tn.size := by omega
      have hs4 : ¬ 9223372036854775807 < tj.size + ph.size + 3 + tn.size + 3 := by omega
      go_wp2_with fail
      go_region_held3 (fun w' => w'.cell? ⟨b, off + j * 2, none⟩ = some (.string ph) ∧ w'.cell? ⟨b, off + j * 2 + 1, none⟩ = some (.slice ao3 pb.length cp3)) (first | go_keep | exact ⟨k0, k1⟩ | (refine ⟨?_, ?_⟩ <;> assumption))
        ((go_at_call 74; refine (HTx.out _ (HBel.out.drew)).mono ?_; rintro e w2 ⟨rfl, hb2⟩; have k0 : w2.cell? ⟨b, off + j * 2, none⟩ = some (.string ph) := (hb2.cell (p := ⟨b, off + j * 2, none⟩) hbw).trans X0; have k1 : w2.cell? ⟨b, off + j * 2 + 1, none⟩ = some (.slice ao3 pb.length cp3) := (hb2.cell (p := ⟨b, off + j * 2 + 1, none⟩) hbw).trans X1))
      all_goals
        have HB9 : Hid (Below w.heap.size w w2) := HBel.out.drew.trans (hb2.mono hws)
        have HE9 : Hid (tj ++ ph ++ (⟨#[32, 61, 32]⟩ : ByteArray) ++ tn ++ (⟨#[32, 59, 10]⟩ : ByteArray) = textG (G.take (j + 1))) := by unfold Hid; rw [HT.out, HTR.out]; simp only [ByteArray.append_assoc]
        go_wp2_with fail
        go_roundw
        case rel => exact ⟨j + 1, by go_num, by omega, by rw [HE9.out], HB9.out⟩
        case measure => simp [intOf]; omega
    · obtain rfl : j = P.length := by omega
      have HE : Hid (G.take P.length = G) := by unfold Hid; rw [List.take_of_length_le (by have := HGL.out; omega)]
      go_wp2_with fail
      go_ret
      rw [HE.out]
      exact ⟨rfl, HBel.out⟩
/-! ### the reference's Check -/
set_option maxRecDepth 100000 in
set_option maxHeartbeats 6400000 in
theorem rCheckG_any (v : Value) (G : List Ru) (w : World) (h : RdRu w v G) (hl : LimG G) (hn : nodesG G ≤ 16777216) :
    Calls Tryz.prog 14 #[v] w fun e w' => e = .returned (.int .i64 (checkG G)) ∧ Below w.heap.size w w' := by
  have HV := Lib.hid h
  have H1 := Lib.hid (fun w h => rTrees_any v G w h hl hn)
  have H2 := Lib.hid (fun w h => rHeads_any v G w h hl)
  have H3 := Lib.hid (fun w h => rMissing_any v G w h hl)
  have H4 := Lib.hid (fun w h => rLabels_any v G w h hl)
  have H5 := Lib.hid (fun w h => rOccG_any v G w h hl)
  have H6 := Lib.hid (fun w h ht => rDeep_any v G w h hl hn ht)
  have H7 := Lib.hid (fun w h h0 ht => rText_any v G w h h0 hn ht)
  have hm : missing G ≤ 4398046511104 := by
    unfold missing
    exact Nat.le_trans (List.length_filter_le _ _) (Nat.le_trans (used_len 2 G) hl.nodes)
  have hh : (heads G).length ≤ 4398046511104 := Nat.le_trans (heads_len G) hl.len
  have hu : (used 3 G).length ≤ 4398046511104 := Nat.le_trans (used_len 3 G) hl.nodes
  obtain ⟨P, hG, hR⟩ := h
  obtain ⟨⟨_, ao, cap, rfl, -⟩, -⟩ := hR
  have hgl : G.length = P.length := by rw [← hG, List.length_map]
  clear hl hn hG
  by_cases h0 : G.length < 1 ∨ 64 < G.length
  · have HE : Hid (checkG G = 180) := by unfold Hid checkG; rw [if_pos h0]
    rw [hgl] at h0
    by_cases h1 : P.length < 1
    · go_enter Tryz.func14, Tryz.ntmps14
      go_wp2_with fail
      go_ret
      exact ⟨by rw [HE.out]; rfl, Below.refl _ _⟩
    · have h2 : 64 < P.length := by omega
      go_enter Tryz.func14, Tryz.ntmps14
      go_wp2_with fail
      go_ret
      exact ⟨by rw [HE.out]; rfl, Below.refl _ _⟩
  have HB0 : Hid (Below w.heap.size w w) := Below.refl _ _
  have hp1 : ¬ P.length < 1 := by omega
  have hp2 : ¬ 64 < P.length := by omega
  have HG0 := Lib.hid h0
  have hpp : G.length ≤ 64 := by omega
  have HG64 := Lib.hid hpp
  clear h0 hgl hpp
  cases ht : treesB G with
  | false =>
    have HE : Hid (checkG G = 170) := by unfold Hid checkG; rw [if_neg HG0.out, if_pos ht]
    rw [ht] at H1
    clear ht
    go_enter Tryz.func14, Tryz.ntmps14
    go_wp2_with fail
    refine (H1.out _ (HV.out.below HB0.out)).mono ?_
    rintro e w1 ⟨rfl, hb1⟩
    have HB1 : Hid (Below w.heap.size w w1) := HB0.out.trans (hb1.mono HB0.out.size)
    clear hb1
    go_wp2_with fail
    go_ret
    exact ⟨by rw [HE.out]; rfl, HB1.out⟩
  | true =>
    have HT := Lib.hid ht
    have HG1 : Hid (¬ treesB G = false) := by unfold Hid; rw [ht]; simp
    rw [ht] at H1
    clear ht
    generalize hhn : (heads G).length = hl at *
    generalize hmn : missing G = mn at *
    generalize hun : (used 3 G).length = un at *
    generalize hoc : occG G = oc at *
    generalize htn : (textG G).size = tn at *
    generalize hdd : deepB G = dd at *
    by_cases h2 : 16 < hl + mn
    · have HE : Hid (checkG G = 181) := by unfold Hid checkG; rw [if_neg HG0.out, if_neg HG1.out, if_pos (by rw [hhn, hmn]; exact h2)]
      go_enter Tryz.func14, Tryz.ntmps14
      go_wp2_with fail
      refine (H1.out _ (HV.out.below HB0.out)).mono ?_
      rintro e w1 ⟨rfl, hb1⟩
      have HB1 : Hid (Below w.heap.size w w1) := HB0.out.trans (hb1.mono HB0.out.size)
      clear hb1
      go_wp2_with fail
      refine (H2.out _ (HV.out.below HB1.out)).mono ?_
      rintro e w2 ⟨v2, rfl, ho2, hb2⟩
      obtain ⟨ao2, cp2, rfl⟩ := own_str_shape ho2
      have HB2 : Hid (Below w.heap.size w w2) := HB1.out.trans (hb2.mono HB1.out.size)
      clear hb2 ho2
      go_wp2_with fail
      refine (H3.out _ (HV.out.below HB2.out)).mono ?_
      rintro e w3 ⟨rfl, hb3⟩
      have HB3 : Hid (Below w.heap.size w w3) := HB2.out.trans (hb3.mono HB2.out.size)
      clear hb3
      go_wp2_with fail
      go_ret
      exact ⟨by rw [HE.out]; rfl, HB3.out⟩
    by_cases h3 : 16 < un
    · have HE : Hid (checkG G = 182) := by unfold Hid checkG; rw [if_neg HG0.out, if_neg HG1.out, if_neg (by rw [hhn, hmn]; exact h2), if_pos (by rw [hun]; exact h3)]
      go_enter Tryz.func14, Tryz.ntmps14
      go_wp2_with fail
      refine (H1.out _ (HV.out.below HB0.out)).mono ?_
      rintro e w1 ⟨rfl, hb1⟩
      have HB1 : Hid (Below w.heap.size w w1) := HB0.out.trans (hb1.mono HB0.out.size)
      clear hb1
      go_wp2_with fail
      refine (H2.out _ (HV.out.below HB1.out)).mono ?_
      rintro e w2 ⟨v2, rfl, ho2, hb2⟩
      obtain ⟨ao2, cp2, rfl⟩ := own_str_shape ho2
      have HB2 : Hid (Below w.heap.size w w2) := HB1.out.trans (hb2.mono HB1.out.size)
      clear hb2 ho2
      go_wp2_with fail
      refine (H3.out _ (HV.out.below HB2.out)).mono ?_
      rintro e w3 ⟨rfl, hb3⟩
      have HB3 : Hid (Below w.heap.size w w3) := HB2.out.trans (hb3.mono HB2.out.size)
      clear hb3
      go_wp2_with fail
      refine (H4.out _ (HV.out.below HB3.out)).mono ?_
      rintro e w4 ⟨v4, rfl, ho4, hb4⟩
      obtain ⟨ao4, cp4, rfl⟩ := own_str_shape ho4
      have HB4 : Hid (Below w.heap.size w w4) := HB3.out.trans (hb4.mono HB3.out.size)
      clear hb4 ho4
      go_wp2_with fail
      go_ret
      exact ⟨by rw [HE.out]; rfl, HB4.out⟩
    by_cases h4 : 64 < oc
    · have HE : Hid (checkG G = 183) := by unfold Hid checkG; rw [if_neg HG0.out, if_neg HG1.out, if_neg (by rw [hhn, hmn]; exact h2), if_neg (by rw [hun]; exact h3), if_pos (by rw [hoc]; exact h4)]
      go_enter Tryz.func14, Tryz.ntmps14
      go_wp2_with fail
      refine (H1.out _ (HV.out.below HB0.out)).mono ?_
      rintro e w1 ⟨rfl, hb1⟩
      have HB1 : Hid (Below w.heap.size w w1) := HB0.out.trans (hb1.mono HB0.out.size)
      clear hb1
      go_wp2_with fail
      refine (H2.out _ (HV.out.below HB1.out)).mono ?_
      rintro e w2 ⟨v2, rfl, ho2, hb2⟩
      obtain ⟨ao2, cp2, rfl⟩ := own_str_shape ho2
      have HB2 : Hid (Below w.heap.size w w2) := HB1.out.trans (hb2.mono HB1.out.size)
      clear hb2 ho2
      go_wp2_with fail
      refine (H3.out _ (HV.out.below HB2.out)).mono ?_
      rintro e w3 ⟨rfl, hb3⟩
      have HB3 : Hid (Below w.heap.size w w3) := HB2.out.trans (hb3.mono HB2.out.size)
      clear hb3
      go_wp2_with fail
      refine (H4.out _ (HV.out.below HB3.out)).mono ?_
      rintro e w4 ⟨v4, rfl, ho4, hb4⟩
      obtain ⟨ao4, cp4, rfl⟩ := own_str_shape ho4
      have HB4 : Hid (Below w.heap.size w w4) := HB3.out.trans (hb4.mono HB3.out.size)
      clear hb4 ho4
      go_wp2_with fail
      refine (H5.out _ (HV.out.below HB4.out)).mono ?_
      rintro e w5 ⟨rfl, hb5⟩
      have HB5 : Hid (Below w.heap.size w w5) := HB4.out.trans (hb5.mono HB4.out.size)
      clear hb5
      go_wp2_with fail
      go_ret
      exact ⟨by rw [HE.out]; rfl, HB5.out⟩
    by_cases h5 : dd = true
    · have HE : Hid (checkG G = 171) := by unfold Hid checkG; rw [if_neg HG0.out, if_neg HG1.out, if_neg (by rw [hhn, hmn]; exact h2), if_neg (by rw [hun]; exact h3), if_neg (by rw [hoc]; exact h4), if_pos (by rw [hdd]; exact h5)]
      subst h5
      go_enter Tryz.func14, Tryz.ntmps14
      go_wp2_with fail
      refine (H1.out _ (HV.out.below HB0.out)).mono ?_
      rintro e w1 ⟨rfl, hb1⟩
      have HB1 : Hid (Below w.heap.size w w1) := HB0.out.trans (hb1.mono HB0.out.size)
      clear hb1
      go_wp2_with fail
      refine (H2.out _ (HV.out.below HB1.out)).mono ?_
      rintro e w2 ⟨v2, rfl, ho2, hb2⟩
      obtain ⟨ao2, cp2, rfl⟩ := own_str_shape ho2
      have HB2 : Hid (Below w.heap.size w w2) := HB1.out.trans (hb2.mono HB1.out.size)
      clear hb2 ho2
      go_wp2_with fail
      refine (H3.out _ (HV.out.below HB2.out)).mono ?_
      rintro e w3 ⟨rfl, hb3⟩
      have HB3 : Hid (Below w.heap.size w w3) := HB2.out.trans (hb3.mono HB2.out.size)
      clear hb3
      go_wp2_with fail
      refine (H4.out _ (HV.out.below HB3.out)).mono ?_
      rintro e w4 ⟨v4, rfl, ho4, hb4⟩
      obtain ⟨ao4, cp4, rfl⟩ := own_str_shape ho4
      have HB4 : Hid (Below w.heap.size w w4) := HB3.out.trans (hb4.mono HB3.out.size)
      clear hb4 ho4
      go_wp2_with fail
      refine (H5.out _ (HV.out.below HB4.out)).mono ?_
      rintro e w5 ⟨rfl, hb5⟩
      have HB5 : Hid (Below w.heap.size w w5) := HB4.out.trans (hb5.mono HB4.out.size)
      clear hb5
      go_wp2_with fail
      refine (H6.out _ (HV.out.below HB5.out) HT.out).mono ?_
      rintro e w6 ⟨rfl, hb6⟩
      have HB6 : Hid (Below w.heap.size w w6) := HB5.out.trans (hb6.mono HB5.out.size)
      clear hb6
      go_wp2_with fail
      go_ret
      exact ⟨by rw [HE.out]; rfl, HB6.out⟩
    obtain rfl : dd = false := by simpa using h5
    by_cases h6 : 0 < mn
    · have HE : Hid (checkG G = 184) := by unfold Hid checkG; rw [if_neg HG0.out, if_neg HG1.out, if_neg (by rw [hhn, hmn]; exact h2), if_neg (by rw [hun]; exact h3), if_neg (by rw [hoc]; exact h4), if_neg (by rw [hdd]; simp), if_pos (by rw [hmn]; exact h6)]
      go_enter Tryz.func14, Tryz.ntmps14
      go_wp2_with fail
      refine (H1.out _ (HV.out.below HB0.out)).mono ?_
      rintro e w1 ⟨rfl, hb1⟩
      have HB1 : Hid (Below w.heap.size w w1) := HB0.out.trans (hb1.mono HB0.out.size)
      clear hb1
      go_wp2_with fail
      refine (H2.out _ (HV.out.below HB1.out)).mono ?_
      rintro e w2 ⟨v2, rfl, ho2, hb2⟩
      obtain ⟨ao2, cp2, rfl⟩ := own_str_shape ho2
      have HB2 : Hid (Below w.heap.size w w2) := HB1.out.trans (hb2.mono HB1.out.size)
      clear hb2 ho2
      go_wp2_with fail
      refine (H3.out _ (HV.out.below HB2.out)).mono ?_
      rintro e w3 ⟨rfl, hb3⟩
      have HB3 : Hid (Below w.heap.size w w3) := HB2.out.trans (hb3.mono HB2.out.size)
      clear hb3
      go_wp2_with fail
      refine (H4.out _ (HV.out.below HB3.out)).mono ?_
      rintro e w4 ⟨v4, rfl, ho4, hb4⟩
      obtain ⟨ao4, cp4, rfl⟩ := own_str_shape ho4
      have HB4 : Hid (Below w.heap.size w w4) := HB3.out.trans (hb4.mono HB3.out.size)
      clear hb4 ho4
      go_wp2_with fail
      refine (H5.out _ (HV.out.below HB4.out)).mono ?_
      rintro e w5 ⟨rfl, hb5⟩
      have HB5 : Hid (Below w.heap.size w w5) := HB4.out.trans (hb5.mono HB4.out.size)
      clear hb5
      go_wp2_with fail
      refine (H6.out _ (HV.out.below HB5.out) HT.out).mono ?_
      rintro e w6 ⟨rfl, hb6⟩
      have HB6 : Hid (Below w.heap.size w w6) := HB5.out.trans (hb6.mono HB5.out.size)
      clear hb6
      go_wp2_with fail
      refine (H3.out _ (HV.out.below HB6.out)).mono ?_
      rintro e w7 ⟨rfl, hb7⟩
      have HB7 : Hid (Below w.heap.size w w7) := HB6.out.trans (hb7.mono HB6.out.size)
      clear hb7
      go_wp2_with fail
      go_ret
      exact ⟨by rw [HE.out]; rfl, HB7.out⟩
    by_cases h7 : 2048 < tn
    · have HE : Hid (checkG G = 174) := by unfold Hid checkG; rw [if_neg HG0.out, if_neg HG1.out, if_neg (by rw [hhn, hmn]; exact h2), if_neg (by rw [hun]; exact h3), if_neg (by rw [hoc]; exact h4), if_neg (by rw [hdd]; simp), if_neg (by rw [hmn]; exact h6), if_pos (by rw [htn]; exact h7)]
      go_enter Tryz.func14, Tryz.ntmps14
      go_wp2_with fail
      refine (H1.out _ (HV.out.below HB0.out)).mono ?_
      rintro e w1 ⟨rfl, hb1⟩
      have HB1 : Hid (Below w.heap.size w w1) := HB0.out.trans (hb1.mono HB0.out.size)
      clear hb1
      go_wp2_with fail
      refine (H2.out _ (HV.out.below HB1.out)).mono ?_
      rintro e w2 ⟨v2, rfl, ho2, hb2⟩
      obtain ⟨ao2, cp2, rfl⟩ := own_str_shape ho2
      have HB2 : Hid (Below w.heap.size w w2) := HB1.out.trans (hb2.mono HB1.out.size)
      clear hb2 ho2
      go_wp2_with fail
      refine (H3.out _ (HV.out.below HB2.out)).mono ?_
      rintro e w3 ⟨rfl, hb3⟩
      have HB3 : Hid (Below w.heap.size w w3) := HB2.out.trans (hb3.mono HB2.out.size)
      clear hb3
      go_wp2_with fail
      refine (H4.out _ (HV.out.below HB3.out)).mono ?_
      rintro e w4 ⟨v4, rfl, ho4, hb4⟩
      obtain ⟨ao4, cp4, rfl⟩ := own_str_shape ho4
      have HB4 : Hid (Below w.heap.size w w4) := HB3.out.trans (hb4.mono HB3.out.size)
      clear hb4 ho4
      go_wp2_with fail
      refine (H5.out _ (HV.out.below HB4.out)).mono ?_
      rintro e w5 ⟨rfl, hb5⟩
      have HB5 : Hid (Below w.heap.size w w5) := HB4.out.trans (hb5.mono HB4.out.size)
      clear hb5
      go_wp2_with fail
      refine (H6.out _ (HV.out.below HB5.out) HT.out).mono ?_
      rintro e w6 ⟨rfl, hb6⟩
      have HB6 : Hid (Below w.heap.size w w6) := HB5.out.trans (hb6.mono HB5.out.size)
      clear hb6
      go_wp2_with fail
      refine (H3.out _ (HV.out.below HB6.out)).mono ?_
      rintro e w7 ⟨rfl, hb7⟩
      have HB7 : Hid (Below w.heap.size w w7) := HB6.out.trans (hb7.mono HB6.out.size)
      clear hb7
      go_wp2_with fail
      refine (H7.out _ (HV.out.below HB7.out) HG64.out HT.out).mono ?_
      rintro e w8 ⟨rfl, hb8⟩
      have HB8 : Hid (Below w.heap.size w w8) := HB7.out.trans (hb8.mono HB7.out.size)
      clear hb8
      go_wp2_with fail
      go_ret
      exact ⟨by rw [HE.out]; rfl, HB8.out⟩
    have HE : Hid (checkG G = 0) := by unfold Hid checkG; rw [if_neg HG0.out, if_neg HG1.out, if_neg (by rw [hhn, hmn]; exact h2), if_neg (by rw [hun]; exact h3), if_neg (by rw [hoc]; exact h4), if_neg (by rw [hdd]; simp), if_neg (by rw [hmn]; exact h6), if_neg (by rw [htn]; exact h7)]
    go_enter Tryz.func14, Tryz.ntmps14
    go_wp2_with fail
    refine (H1.out _ (HV.out.below HB0.out)).mono ?_
    rintro e w1 ⟨rfl, hb1⟩
    have HB1 : Hid (Below w.heap.size w w1) := HB0.out.trans (hb1.mono HB0.out.size)
    clear hb1
    go_wp2_with fail
    refine (H2.out _ (HV.out.below HB1.out)).mono ?_
    rintro e w2 ⟨v2, rfl, ho2, hb2⟩
    obtain ⟨ao2, cp2, rfl⟩ := own_str_shape ho2
    have HB2 : Hid (Below w.heap.size w w2) := HB1.out.trans (hb2.mono HB1.out.size)
    clear hb2 ho2
    go_wp2_with fail
    refine (H3.out _ (HV.out.below HB2.out)).mono ?_
    rintro e w3 ⟨rfl, hb3⟩
    have HB3 : Hid (Below w.heap.size w w3) := HB2.out.trans (hb3.mono HB2.out.size)
    clear hb3
    go_wp2_with fail
    refine (H4.out _ (HV.out.below HB3.out)).mono ?_
    rintro e w4 ⟨v4, rfl, ho4, hb4⟩
    obtain ⟨ao4, cp4, rfl⟩ := own_str_shape ho4
    have HB4 : Hid (Below w.heap.size w w4) := HB3.out.trans (hb4.mono HB3.out.size)
    clear hb4 ho4
    go_wp2_with fail
    refine (H5.out _ (HV.out.below HB4.out)).mono ?_
    rintro e w5 ⟨rfl, hb5⟩
    have HB5 : Hid (Below w.heap.size w w5) := HB4.out.trans (hb5.mono HB4.out.size)
    clear hb5
    go_wp2_with fail
    refine (H6.out _ (HV.out.below HB5.out) HT.out).mono ?_
    rintro e w6 ⟨rfl, hb6⟩
    have HB6 : Hid (Below w.heap.size w w6) := HB5.out.trans (hb6.mono HB5.out.size)
    clear hb6
    go_wp2_with fail
    refine (H3.out _ (HV.out.below HB6.out)).mono ?_
    rintro e w7 ⟨rfl, hb7⟩
    have HB7 : Hid (Below w.heap.size w w7) := HB6.out.trans (hb7.mono HB6.out.size)
    clear hb7
    go_wp2_with fail
    refine (H7.out _ (HV.out.below HB7.out) HG64.out HT.out).mono ?_
    rintro e w8 ⟨rfl, hb8⟩
    have HB8 : Hid (Below w.heap.size w w8) := HB7.out.trans (hb8.mono HB7.out.size)
    clear hb8
    go_wp2_with fail
    go_ret
    exact ⟨by rw [HE.out]; rfl, HB8.out⟩
end Go.Proofs.YtkmjmfcanlknjaaGreat
namespace Go.Proofs.YtkmjmfcanlknjaaGreat
open Go.RowKit

/-- append of one new element, at a step of a region that draws -/
theorem step_appG1 {P : Program} {t e : TypeId} {size bytes : Nat} (hE : ElemOK P t e size bytes) {B : Nat} {wr : World} {ops : Array Oper} {o : Oper} {a : Act} {K : Act → World → Prop} {Q : Exit → Act → World → Prop} {E : Prop} (hgd : o.guard = none) (s x : Operand)
    (ho : o.op = .call { callee := .builtin .append, args := #[s, x], argTypes := #[t, t] })
    {v : Value} {n : Nat} {xs : List Value} (hown : wr.ownsRow B e size v n xs) (hs : a.eval s = v)
    {news : List Value} (hx : a.eval x = .slice (some ⟨wr.heap.size, 0, none⟩) 1 1) (hl : news.length = size) (h1 : ∀ u ∈ news, u.oneCell' = true)
    (hm : n + 1 ≤ maxLen) (hn : (n + 1) * bytes ≤ 140737488355328) (hB : B ≤ wr.heap.size)
    (h : ∀ v' w', w'.ownsRow B e size v' (n + 1) (xs ++ news) → wr.grownBy w' v.ownBlock → K (a.put o.dst v') w') :
    if Region.wanted o (yielded ops a.tmps) = true then Oper.wp P o a (wr.alloc (.cells news.toArray e)) K Q else E := by
  obtain ⟨i, z, h2, h3, h4, h5, h6, h7, h8⟩ := hE.ex
  refine step_append_lies _ hgd s x t ho B e i z size bytes h2 h3 h4 h5 h6 h7 h8 v n xs hs (hown.alloc _) ⟨wr.heap.size, 0, none⟩ 1 1 news hx (by omega) (cells_new wr news e) h1 (by omega) hm hn (by simp; omega) _ rfl fun g cap w' h2 h3 _ _ => h _ w' h2 ?_
  exact ⟨h3.os, h3.tape, h3.output, Nat.le_trans (by simp) h3.size, fun k hk hne => (h3.block k (by simp; omega) hne).trans (Below.heap_alloc wr _ k hk)⟩
theorem elemRu : ElemOK Tryz.prog 22 47 2 40 :=
  ElemOK.mk' (z := .agg #[.string ⟨#[]⟩, .slice none 0 0]) Tryz.underlying22 (by kernel_rfl) rfl (by decide)
/-- rows of two types lie in two blocks -/
theorem own_apart {w : World} {B B' : Nat} {e e' : TypeId} {s s' : Nat} {v v' : Value} {n n' : Nat} {xs xs' : List Value} (h : w.ownsRow B e s v n xs) (h' : w.ownsRow B' e' s' v' n' xs') (he : e ≠ e') (g : Nat) (hg : v'.ownBlock = some g) : v.ownBlock ≠ some g := by
  rcases h.2 with ⟨rfl, _⟩ | ⟨b, cap, cur, rfl, _, hb, _⟩
  · simp [Value.ownBlock]
  · rcases h'.2 with ⟨rfl, _⟩ | ⟨b', cap', cur', rfl, _, hb', _⟩
    · simp [Value.ownBlock] at hg
    · intro h3
      simp only [Value.ownBlock, Option.some.injEq] at hg h3
      subst hg; subst h3
      rw [hb] at hb'
      simp only [Option.some.injEq, Obj.cells.injEq] at hb'
      exact he hb'.2.1
/-- the rules own their row and their bodies -/
structure OwnP (w : World) (B : Nat) (v : Value) (P : List (Ru × Value)) : Prop where
  row : w.ownsRow B 47 2 v P.length (flatP P)
  bods : ∀ p ∈ P, OwnNd w B p.2 p.1.b
theorem OwnP.nil (w : World) (B : Nat) : OwnP w B (.slice none 0 0) [] := ⟨World.ownsRow_nil _ _ _ _, fun p hp => by cases hp⟩
theorem OwnP.rd {w : World} {B : Nat} {v : Value} {P : List (Ru × Value)} (h : OwnP w B v P) : RdP w v P := ⟨Rd.of_owns h.row, fun p hp => RdNd.of_own (h.bods p hp)⟩
theorem OwnP.below {w w' : World} {B : Nat} {v : Value} {P : List (Ru × Value)} (h : OwnP w B v P) (hb : Below w.heap.size w w') : OwnP w' B v P :=
  ⟨own_grown h.row (grown_below hb) (fun j hj => by cases hj), fun p hp => own_grown (h.bods p hp) (grown_below hb) (fun j hj => by cases hj)⟩
theorem OwnP.lower {w : World} {B C : Nat} {v : Value} {P : List (Ru × Value)} (h : OwnP w B v P) (hC : C ≤ B) : OwnP w C v P := ⟨own_lower h.row hC, fun p hp => own_lower (h.bods p hp) hC⟩
/-- a rule appended -/
theorem OwnP.snoc {w w' : World} {B : Nat} {v v' : Value} {P : List (Ru × Value)} {p : Ru × Value} (h : OwnP w B v P) (hb : OwnNd w B p.2 p.1.b) (hown : w'.ownsRow B 47 2 v' (P.length + 1) (flatP P ++ [.string p.1.h, p.2])) (hg : w.grownBy w' v.ownBlock) : OwnP w' B v' (P ++ [p]) := by
  refine ⟨?_, fun q hq => ?_⟩
  · rw [flatP_snoc, List.length_append]; exact hown
  · have hq2 : OwnNd w B q.2 q.1.b := by
      rcases List.mem_append.1 hq with hq | hq
      · exact h.bods q hq
      · rw [List.mem_singleton.1 hq]; exact hb
    exact own_grown hq2 hg (fun j hj => .inr (own_apart hq2 h.row (by decide) j hj))

set_option maxRecDepth 100000 in
set_option maxHeartbeats 6400000 in
theorem rCopyG_any (v : Value) (G : List Ru) (w : World) (h : RdRu w v G) (hl : LimG G) (hl2 : G.length ≤ 1099511627776) :
    Calls Tryz.prog 12 #[v] w fun e w' => ∃ v' P, e = .returned v' ∧ P.map (·.1) = G ∧ OwnP w' w.heap.size v' P ∧ Below w.heap.size w w' := by
  obtain ⟨P, rfl, hR⟩ := h
  have HR := Lib.hid hR
  have HL := Lib.hid hl
  obtain ⟨⟨_, ao, cap, rfl, -⟩, -⟩ := hR
  have hpl : P.length ≤ 1099511627776 := by rwa [List.length_map] at hl2
  clear hl hl2
  generalize hG : P.map (·.1) = G at *
  have HG := Lib.hid hG
  have HGL : Hid (G.length = P.length) := by unfold Hid; rw [← hG, List.length_map]
  clear hG
  have hgl := HGL.out
  go_enter Tryz.func12, Tryz.ntmps12
  go_wp2_with fail
  go_loopw [3, 4] (fun o i wr => ∃ (j : Nat) (P' : List (Ru × Value)), i = .int .i64 j ∧ j ≤ P.length ∧ Hid (P'.map (·.1) = G.take j) ∧ Hid (OwnP wr w.heap.size o P') ∧ Hid (Below w.heap.size w wr)) (fun _ i _ => P.length - (intOf i).toNat)
  case atStart => exact ⟨0, [], rfl, by omega, rfl, OwnP.nil _ _, Below.refl _ _⟩
  case round =>
    obtain ⟨j, P', rfl, hj, HP', HO, HBel⟩ := hrel
    rename_i u3
    have hws := HBel.out.size
    have hpl' : P'.length = j := by have := congrArg List.length HP'.out; rw [List.length_map, List.length_take] at this; omega
    by_cases hlt : j < P.length
    · obtain ⟨p, hp⟩ : ∃ p, P[j]? = some p := ⟨_, List.getElem?_eq_getElem hlt⟩
      obtain ⟨b, off, cp, e1, hb, hc, x0, x1, hrd⟩ := RdP.at HR.out hp
      simp only [Value.slice.injEq] at e1
      obtain ⟨rfl, -, rfl⟩ := e1
      have X0 := (HBel.out.cell (p := ⟨b, _, none⟩) hb).trans x0
      have X1 := (HBel.out.cell (p := ⟨b, _, none⟩) hb).trans x1
      have hbw : b < wr.heap.size := by omega
      have HGP : Hid (G[j]? = some p.1) := by unfold Hid; rw [← HG.out, List.getElem?_map, hp]; rfl
      have hbl : p.1.b.length ≤ 4398046511104 := Nat.le_trans (body_le (List.mem_of_getElem? HGP.out)) HL.out.nodes
      have HC := Lib.hid (rCopy_any p.2 p.1.b wr.drew (hrd.below HBel.out.drew) hbl)
      have HT : Hid (G.take (j + 1) = G.take j ++ [p.1]) := (nodesG_take G HGP.out).1
      obtain ⟨_, ao3, cp3, hv2, -⟩ := id hrd
      obtain ⟨⟨ph, pb⟩, pv⟩ := p
      simp only at hv2 X0 X1 HGP HC HT
      subst hv2
      clear x0 x1 hp hrd hbl
      go_wp2_with fail
      go_region_law (first
        | (refine step_appG1 elemRu rfl _ _ rfl HO2.row rfl (news := [.string ph, .slice ao2 pb.length cp2]) rfl rfl (by intro u hu; simp at hu; rcases hu with rfl | rfl <;> rfl) (by unfold maxLen; omega) (by omega) hw2 ?_; intro v3 w3 hown3 hg3)
        | (go_simp; go_at_call 31; refine (HC.out).mono ?_; rintro e w2 ⟨v2, rfl, ho2, hb2⟩
           obtain ⟨ao2, cp2, rfl⟩ : ∃ ao c, v2 = .slice ao pb.length c := by obtain ⟨_, ao, c, e, -⟩ := RdNd.of_own ho2; exact ⟨ao, c, e⟩
           have HO2 : OwnP w2 w.heap.size u3 P' := (HO.out.below (show Below wr.heap.size wr wr.drew from Below.drew (Below.refl _ _))).below hb2
           have hown2 : OwnNd w2 w.heap.size (.slice ao2 pb.length cp2) pb := own_lower ho2 hws
           have hw2 : w.heap.size ≤ w2.heap.size := Nat.le_trans hws hb2.size
           have hB2 : Below w.heap.size w w2 := HBel.out.drew.trans (hb2.mono hws)
           have k0 : w2.cell? ⟨b, off + j * 2, none⟩ = some (.string ph) := (hb2.cell (p := ⟨b, off + j * 2, none⟩) hbw).trans X0
           have k1 : w2.cell? ⟨b, off + j * 2 + 1, none⟩ = some (.slice ao3 pb.length cp3) := (hb2.cell (p := ⟨b, off + j * 2 + 1, none⟩) hbw).trans X1))
      all_goals
        have HO3 : Hid (OwnP w3 w.heap.size v3 (P' ++ [(⟨ph, pb⟩, .slice ao2 pb.length cp2)])) := OwnP.snoc (p := (⟨ph, pb⟩, .slice ao2 pb.length cp2)) HO2 hown2 hown3 hg3
        have HB3 : Hid (Below w.heap.size w w3) := hB2.grown hg3 hw2 (fun j hj => own_block HO2.row j hj)
        have HP3 : Hid ((P' ++ [((⟨ph, pb⟩, .slice ao2 pb.length cp2) : Ru × Value)]).map (·.1) = G.take (j + 1)) := by unfold Hid; rw [List.map_append, HP'.out, HT.out]; rfl
        clear hown3 hg3 ho2 hb2 hown2 HO2
        go_wp2_with fail
        go_roundw
        case rel => exact ⟨j + 1, _, by go_num, by omega, HP3.out, HO3.out, HB3.out⟩
        case measure => simp [intOf]; omega
    · obtain rfl : j = P.length := by omega
      have HE : Hid (P'.map (·.1) = G) := by have := HP'.out; rw [List.take_of_length_le (by have := HGL.out; omega)] at this; exact this
      go_wp2_with fail
      go_ret
      exact ⟨_, _, rfl, HE.out, HO.out, HBel.out⟩
/-- the bounds that the condition gives -/
structure Bulk (G : List Ru) (n : Nat) : Prop where
  len : G.length ≤ n
  nodes : nodesG G ≤ n
  head : ∀ r ∈ G, r.h.size ≤ n
  name : ∀ r ∈ G, ∀ x ∈ r.b, x.n.size ≤ n
theorem Bulk.lim {G : List Ru} {n : Nat} (h : Bulk G n) (hn : n ≤ 1048576) : LimG G := ⟨by have := h.len; omega, by have := h.nodes; omega, fun r hr => by have := h.head r hr; omega, fun r hr x hx => by have := h.name r hr x hx; omega⟩
theorem Bulk.mono {G : List Ru} {n m : Nat} (h : Bulk G n) (hn : n ≤ m) : Bulk G m := ⟨Nat.le_trans h.len hn, Nat.le_trans h.nodes hn, fun r hr => Nat.le_trans (h.head r hr) hn, fun r hr x hx => Nat.le_trans (h.name r hr x hx) hn⟩
end Go.Proofs.YtkmjmfcanlknjaaGreat
namespace Go.Proofs.YtkmjmfcanlknjaaGreat
open Go.RowKit

/-! ### the reader of grammars -/
structure Rdg (w : World) (Br : Nat) (s : ByteArray) (vl : Value) (L : List Mk) (p : Nat) (en : Int) : Prop where
  box : w.heap[Br]? = some (.cells #[.string s, vl, .int .i64 p, .int .i64 en] 67 (0, 0))
  rd : RdMk w vl L
  apart : ∀ a n c, vl = .slice (some a) n c → a.block ≠ Br
variable {w w' : World} {Br : Nat} {s : ByteArray} {vl : Value} {L : List Mk} {p : Nat} {en : Int}
theorem Rdg.kept (h : Rdg w Br s vl L p en) (hg : w.grownBy w' none) : Rdg w' Br s vl L p en :=
  ⟨(hg.block Br (Array.getElem?_eq_some_iff.1 h.box).1 (by simp)).trans h.box,
   Rd.mono h.rd (fun b o hb => World.cell?_of_block (a := ⟨b, o, none⟩) (hg.block b hb (by simp))) hg.size, h.apart⟩
theorem Rdg.cells (h : Rdg w Br s vl L p en) :
    w.cell? ⟨Br, 0, none⟩ = some (.string s) ∧ w.cell? ⟨Br, 1, none⟩ = some vl ∧ w.cell? ⟨Br, 2, none⟩ = some (.int .i64 p) ∧ w.cell? ⟨Br, 3, none⟩ = some (.int .i64 en) ∧ w.frozen? ⟨Br, 2, none⟩ = false := by
  have := h.box
  refine ⟨by simp [World.cell?, this], by simp [World.cell?, this], by simp [World.cell?, this], by simp [World.cell?, this], by simp [World.frozen?, this]⟩
theorem Rdg.lt (h : Rdg w Br s vl L p en) : Br < w.heap.size := (Array.getElem?_eq_some_iff.1 h.box).1
/-- the next mark -/
theorem Rdg.step (h : Rdg w Br s vl L p en) (q : Nat) : Rdg (w.setCell ⟨Br, 2, none⟩ (.int .i64 q)) Br s vl L q en := by
  refine ⟨?_, ?_, h.apart⟩
  · have hb := h.box
    simp only [World.setCell]
    rw [Array.getElem?_modify, if_pos rfl, hb]
    rfl
  · obtain ⟨h1, ao, cap, h2, h3, h4, h5⟩ := h.rd
    refine ⟨h1, ao, cap, h2, h3, h4, h5.imp id ?_⟩
    rintro ⟨b, off, h6, h7, h8⟩
    have hne : b ≠ Br := h.apart ⟨b, off, none⟩ _ _ (by rw [h2, h6])
    refine ⟨b, off, h6, by simpa [World.setCell] using h7, fun j u hj => ?_⟩
    rw [World.cell?_of_block (a := ⟨b, off + j, none⟩) (w := w) (Below.heap_setCell _ _ _ _ hne)]
    exact h8 j u hj
theorem Rdg.moved {q : Nat} (h : Rdg w Br s vl L p en) (hg : w.grownBy w' (some Br)) (hb : w'.heap[Br]? = some (.cells #[.string s, vl, .int .i64 q, .int .i64 en] 67 (0, 0))) : Rdg w' Br s vl L q en := by
  refine ⟨hb, ?_, h.apart⟩
  obtain ⟨h1, ao, cap, h2, h3, h4, h5⟩ := h.rd
  refine ⟨h1, ao, cap, h2, h3, h4, h5.imp id ?_⟩
  rintro ⟨b, off, h6, h7, h8⟩
  have hne : b ≠ Br := h.apart ⟨b, off, none⟩ _ _ (by rw [h2, h6])
  refine ⟨b, off, h6, by have := hg.size; omega, fun j u hj => ?_⟩
  exact hg.cell (h8 j u hj) (by simpa using hne)
/-- the reader's place -/
def posG (w : World) (Br : Nat) : Nat := match w.cell? ⟨Br, 2, none⟩ with | some (.int _ n) => n.toNat | _ => 0
theorem Rdg.pos (h : Rdg w Br s vl L p en) : posG w Br = p := by
  unfold posG; rw [h.cells.2.2.1]; simp
def wrongG (x : Int) : List PanicEntry := [{ v := .iface 60 (.agg #[.int .i64 x]), recovered := false }]

set_option maxRecDepth 100000 in
set_option maxHeartbeats 1600000 in
theorem xPlaceG_any (h : Rdg w Br s vl L p en) (hp : p ≤ L.length) :
    Calls Tryz.prog 112 #[.pointer (some ⟨Br, 0, none⟩)] w fun e w' => e = .returned (.int .i64 (plc L en p)) ∧ ∃ m, w' = w.drewN m := by
  have HR := Lib.hid h
  obtain ⟨c0, c1, c2, c3, -⟩ := h.cells
  obtain ⟨_, ao, cap, rfl, -⟩ := h.rd
  clear h
  by_cases hlt : p < L.length
  · obtain ⟨m, hm⟩ : ∃ m, L[p]? = some m := ⟨_, List.getElem?_eq_getElem hlt⟩
    obtain ⟨b, off, cp, e1, l1, k1, x0, x1, x2⟩ := RdMk.at HR.out.rd hm
    simp only [Value.slice.injEq] at e1
    obtain ⟨rfl, -, rfl⟩ := e1
    have HK : Hid (plc L en p = m.p) := by unfold Hid plc; rw [hm]
    have hne : decide ((L.length : Int) ≤ p) = false := by simp; omega
    have hne2 : decide (L.length ≤ p) = false := by simp; omega
    clear hm x0 x2
    go_enter Tryz.func112, Tryz.ntmps112
    go_wp2
    go_quiet (fail)
    go_wp2
    go_quiet (fail)
    go_wp2
    go_ret
    exact ⟨lit_i64 HK.out.symm, _, World.drewN_drewN _ _ _⟩
  · obtain rfl : p = L.length := by omega
    have HK : Hid (plc L en L.length = en) := by unfold Hid plc; rw [List.getElem?_eq_none (Nat.le_refl _)]
    go_enter Tryz.func112, Tryz.ntmps112
    go_wp2
    go_quiet (fail)
    go_wp2
    go_ret
    exact ⟨lit_i64 HK.out.symm, _, rfl⟩
/-- what take leaves -/
def TakeR (Br : Nat) (s : ByteArray) (vl : Value) (L : List Mk) (p : Nat) (en k : Int) (w : World) (e : Ending) (w' : World) : Prop :=
  w.grownBy w' (some Br) ∧ ((kd L p = k ∧ e = .returned (.string (tx L p)) ∧ Rdg w' Br s vl L (p + 1) en) ∨ (kd L p ≠ k ∧ e = .panicked (wrongG (plc L en p))))
theorem ret_str {a b : ByteArray} (h : a = b) : Ending.returned (.string a) = .returned (.string b) := by rw [h]
set_option maxRecDepth 100000 in
set_option maxHeartbeats 3200000 in
theorem xTake_any (h : Rdg w Br s vl L p en) (hp : p ≤ L.length) (hL : L.length ≤ 4294967296) (k : Int) (hk : 1 ≤ k) :
    Calls Tryz.prog 77 #[.pointer (some ⟨Br, 0, none⟩), .int .i64 k] w (TakeR Br s vl L p en k w) := by
  have HR := Lib.hid h
  obtain ⟨c0, c1, c2, c3, f2⟩ := h.cells
  obtain ⟨_, ao, cap, rfl, -⟩ := h.rd
  clear h
  by_cases hlt : p < L.length
  · obtain ⟨m, hm⟩ : ∃ m, L[p]? = some m := ⟨_, List.getElem?_eq_getElem hlt⟩
    obtain ⟨b, off, cp, e1, l1, k1, x0, x1, x2⟩ := RdMk.at HR.out.rd hm
    simp only [Value.slice.injEq] at e1
    obtain ⟨rfl, -, rfl⟩ := e1
    have HK : Hid (kd L p = m.k) := kd_some hm
    have HT : Hid (tx L p = m.t) := tx_some hm
    have hne : decide ((L.length : Int) ≤ p) = false := by simp; omega
    have hne2 : decide (L.length ≤ p) = false := by simp; omega
    have hbr : b ≠ Br := HR.out.apart _ _ _ rfl
    clear hm x1
    by_cases hmk : m.k = k
    · have hkk : (m.k != k) = false := by simpa using hmk
      have HM := Lib.hid hmk
      clear hmk
      go_enter Tryz.func77, Tryz.ntmps77
      go_wp2
      go_quiet (fail)
      go_wp2
      have HR2 := Lib.hid (HR.out.kept (grown_drewN w nq none))
      have HR3 : Hid (Rdg ((w.drewN nq).setCell ⟨Br, 2, none⟩ (.int .i64 ((p + 1 : Nat) : Int))) Br s (.slice (some ⟨b, off, none⟩) L.length cap) L (p + 1) en) := HR2.out.step (p + 1)
      have HG3 : Hid (w.grownBy ((w.drewN nq).setCell ⟨Br, 2, none⟩ (.int .i64 ((p + 1 : Nat) : Int))) (some Br)) := grown_then (grown_drewN _ _ _) (grown_set _ _ _ _) (fun j hj => by cases hj; exact .inr rfl)
      have e9 : (((p + 1 : Nat)) : Int) = (p : Int) + 1 := by omega
      rw [e9] at HR3 HG3
      obtain ⟨-, d1, d2, -, -⟩ := HR3.out.cells
      have y2 : ((w.drewN nq).setCell ⟨Br, 2, none⟩ (.int .i64 ((p : Int) + 1))).cell? ⟨b, off + p * 3 + 2, none⟩ = some (.string m.t) := by
        rw [World.cell?_of_block (a := ⟨b, off + p * 3 + 2, none⟩) (w := w.drewN nq) (Below.heap_setCell _ _ _ _ hbr)]
        exact x2
      rw [e9] at d2
      have hw1 : IntKind.i64.wrap ((p : Int) + 1 - 1) = (p : Int) := by rw [show ((p : Int) + 1 - 1) = p from by omega]; exact IntWalk.i64_in _ (by omega)
      have hp1 : (p : Int) < L.length := by omega
      have hp0 : (0 : Int) ≤ p := by omega
      clear c0 c1 c2 c3 f2 x0 x2 hne hne2 hkk
      generalize (w.drewN nq).setCell ⟨Br, 2, none⟩ (.int .i64 ((p : Int) + 1)) = w3 at *
      go_quiet (fail)
      go_wp2
      go_ret
      exact ⟨grown_then HG3.out (grown_drewN _ _ none) (by simp), .inl ⟨HK.out.trans HM.out, ret_str HT.out.symm, HR3.out.kept (grown_drewN _ _ _)⟩⟩
    · have hkk : (m.k != k) = true := by simpa using hmk
      have HM := Lib.hid hmk
      have HP := Lib.hid (xPlaceG_any (w := w) HR.out hp)
      clear hmk
      go_enter Tryz.func77, Tryz.ntmps77
      go_wp2
      go_quiet (fail)
      have HR2 := Lib.hid (HR.out.kept (grown_drewN w nq none))
      have HG2 := Lib.hid (grown_drewN w nq none)
      clear c0 c1 c2 c3 f2 x0 x2
      generalize w.drewN nq = w2 at *
      go_wp2_with fail
      refine (xPlaceG_any HR2.out hp).mono ?_
      rintro e w3 ⟨rfl, nq3, rfl⟩
      have HG3 := Lib.hid (grown_then HG2.out (grown_drewN w2 nq3 none) (by simp))
      go_wp2_with fail
      exact ⟨rfl, grown_none HG3.out, .inr ⟨by rw [HK.out]; exact HM.out, rfl⟩⟩
  · obtain rfl : p = L.length := by omega
    have HK : Hid (kd L L.length = 0) := kd_none (Nat.le_refl _)
    go_enter Tryz.func77, Tryz.ntmps77
    go_wp2
    go_quiet (fail)
    have HR2 := Lib.hid (HR.out.kept (grown_drewN w nq none))
    have HG2 := Lib.hid (grown_drewN w nq none)
    clear c0 c1 c2 c3 f2
    generalize w.drewN nq = w2 at *
    go_wp2_with fail
    refine (xPlaceG_any HR2.out hp).mono ?_
    rintro e w3 ⟨rfl, nq3, rfl⟩
    have HG3 := Lib.hid (grown_then HG2.out (grown_drewN w2 nq3 none) (by simp))
    go_wp2_with fail
    exact ⟨rfl, grown_none HG3.out, .inr ⟨by rw [HK.out]; omega, rfl⟩⟩
/-- what body leaves -/
def BodyQ (Br : Nat) (s : ByteArray) (vl : Value) (L : List Mk) (en : Int) (p sg : Nat) (ok : Bool) (rp : Nat) (fl : List Nd) (w : World) (e : Ending) (w' : World) : Prop :=
  w.grownBy w' (some Br) ∧
  (((ok = true ∧ rp = sg) ∧ (∃ v, e = .returned v ∧ OwnNd w' w.heap.size v fl) ∧ Rdg w' Br s vl L (p + sg) en) ∨
   (¬ (ok = true ∧ rp = sg) ∧ e = .panicked (wrongG (plc L en (p + rp)))))
theorem wrongG_eq {x y : Int} (h : x = y) : Ending.panicked (wrongG x) = .panicked (wrongG y) := by rw [h]
theorem plN_le (s : ByteArray) (p : Nat) (hp : p ≤ (cut s 0).1.length) : plN (cut s 0).1 (cut s 0).2 p ≤ s.size := by
  have := (cut_piece s p 0 (by omega)).2.1
  rwa [Nat.add_zero] at this
set_option maxRecDepth 100000 in
set_option maxHeartbeats 6400000 in
theorem xBody_any (h : Rdg w Br s vl (cut s 0).1 p ((cut s 0).2 : Nat)) (hp : p ≤ (cut s 0).1.length) (hs : s.size ≤ 2048) :
    Calls Tryz.prog 78 #[.pointer (some ⟨Br, 0, none⟩)] w (BodyQ Br s vl (cut s 0).1 ((cut s 0).2 : Nat) p (seg (cut s 0).1 p).length (bodyP (cut s 0).1 p).ok (bodyP (cut s 0).1 p).p (bodyP (cut s 0).1 p).f.flat w) := by
  have HR := Lib.hid h
  have HP := Lib.hid (read_piece s p hp hs)
  obtain ⟨hA1, hA2, -, -⟩ := cut_piece s p (seg (cut s 0).1 p).length (seg_le _ _ hp)
  have hrb := (bodyP_b (cut s 0).1 p).le
  have hsl := seg_le (cut s 0).1 p hp
  have hM := plN_le s (p + (bodyP (cut s 0).1 p).p) (by omega)
  have hlen := (cut_len s s.size 0 (by omega) (by omega)).1
  have HSI := Lib.hid (seg_in (cut s 0).1 p)
  have HSE := Lib.hid (seg_end (cut s 0).1 p)
  have HPl := Lib.hid (plN_plc (cut s 0).1 (cut s 0).2)
  obtain ⟨_, ao, cap, rfl, -⟩ := h.rd
  clear h
  generalize (cut s 0).1 = L at *
  generalize (cut s 0).2 = q at *
  generalize hsg : (seg L p).length = sg at *
  clear hsg
  generalize bodyP L p = r at *
  obtain ⟨ok, f, rp⟩ := r
  simp only at hrb hM HP ⊢
  generalize hA : plN L q p = A at *
  generalize hZ : plN L q (p + sg) = Z at *
  generalize hMM : plN L q (p + rp) = M at *
  have HA := Lib.hid hA
  have HZ := Lib.hid hZ
  have HMM := Lib.hid hMM
  clear hA hZ hMM
  have HA2 : Hid (plc L (q : Int) p = (A : Int)) := by unfold Hid; rw [HPl.out, HA.out]
  have HZ2 : Hid (plc L (q : Int) (p + sg) = (Z : Int)) := by unfold Hid; rw [HPl.out, HZ.out]
  have HPz : Hid (∀ (vl : Value) (x : World), Rdg x Br s vl L (p + sg) (q : Int) → Calls Tryz.prog 112 #[.pointer (some ⟨Br, 0, none⟩)] x fun e w' => e = .returned (.int .i64 (Z : Int)) ∧ ∃ m, w' = x.drewN m) := fun vl x hx => by
    have h2 := xPlaceG_any hx (by omega)
    rw [HZ2.out] at h2; exact h2
  have HM2 : Hid (plc L (q : Int) (p + rp) = (M : Int)) := by unfold Hid; rw [HPl.out, HMM.out]
  go_enter Tryz.func78, Tryz.ntmps78
  go_wp2_with fail
  refine (xPlaceG_any HR.out hp).mono ?_
  rintro e w1 ⟨rfl, n1, rfl⟩
  rw [HA2.out]
  have HR1 := Lib.hid (HR.out.kept (grown_drewN w n1 none))
  have HG1 := Lib.hid (grown_drewN w n1 (some Br))
  clear HR
  generalize w.drewN n1 = w1 at *
  go_wp2_with fail
  go_loopw [] (fun wr => ∃ j : Nat, j ≤ sg ∧ Hid (Rdg wr Br s (.slice ao L.length cap) L (p + j) (q : Int)) ∧ Hid (w.grownBy wr (some Br))) (fun wr => p + sg - posG wr Br)
  case atStart => exact ⟨0, by omega, HR1.out, HG1.out⟩
  case round =>
    clear HR1 HG1
    obtain ⟨j, hj, HR, HG⟩ := hrel
    obtain ⟨c0, c1, c2, c3, f2⟩ := HR.out.cells
    by_cases hlt : p + j < L.length
    · obtain ⟨m, hm⟩ : ∃ m, L[p + j]? = some m := ⟨_, List.getElem?_eq_getElem hlt⟩
      obtain ⟨b, off, cp, e1, l1, k1, x0, x1, x2⟩ := RdMk.at HR.out.rd hm
      simp only [Value.slice.injEq] at e1
      obtain ⟨rfl, -, rfl⟩ := e1
      have hkd := kd_some hm
      have hlt1 : decide ((p : Int) + (j : Int) < L.length) = true := by simp; omega
      have hlt2 : decide (p + j < L.length) = true := by simp; omega
      clear hm x1 x2
      by_cases hjs : j < sg
      · obtain ⟨n4, n5⟩ := HSI.out j hjs
        rw [hkd] at n4 n5
        have m4 : (m.k != 4) = true := by simpa using n4
        have m5 : (m.k != 5) = true := by simpa using n5
        clear hkd n4 n5
        go_wp2
        go_quiet (fail)
        go_wp2
        have HR3 : Hid (Rdg ((wr.drewN nq).setCell ⟨Br, 2, none⟩ (.int .i64 ((p : Int) + (j : Int) + 1))) Br s (.slice (some ⟨b, off, none⟩) L.length cap) L (p + (j + 1)) (q : Int)) := by
          have h2 := (HR.out.kept (grown_drewN wr nq none)).step (p + (j + 1))
          rw [show ((p + (j + 1) : Nat) : Int) = (p : Int) + (j : Int) + 1 from by omega] at h2
          exact h2
        exact ⟨⟨j + 1, by omega, HR3.out, HG.out.trans (grown_then (grown_drewN _ _ _) (grown_set _ _ _ _) (fun j hj => by cases hj; exact .inr rfl))⟩, by rw [HR3.out.pos, HR.out.pos]; omega⟩
      · obtain rfl : j = sg := by omega
        have h45 := HSE.out hlt
        rw [hkd] at h45
        clear hkd
        have hout : (m.k != 5) = false ∨ ((m.k != 5) = true ∧ (m.k != 4) = false) := by
          rcases h45 with h | h
          · exact .inr ⟨by simp [h], by simp [h]⟩
          · exact .inl (by simp [h])
        clear h45
        rcases hout with m5 | ⟨m5, m4⟩
        all_goals
          go_wp2
          go_quiet (fail)
          have HR4 := Lib.hid (HR.out.kept (grown_drewN wr nq none))
          have HG4 := Lib.hid (HG.out.trans (grown_drewN wr nq (some Br)))
          clear c0 c1 c2 c3 f2 x0 HR HG hlt1 hlt2
          generalize wr.drewN nq = w2 at *
          obtain ⟨c0, c1, c2, c3, f2⟩ := HR4.out.cells
          have hAZ : (A : Int) ≤ Z := by omega
          have hA0 : (0 : Int) ≤ A := by omega
          have hZs : (Z : Int) ≤ s.size := by omega
          go_wp2_with fail
          go_quiet ((go_at_call 112; exact Calls.quiet_of (HPz.out _ _ (HR4.out.kept (grown_drewN _ _ none)))))
          go_wp2_with fail
          have HR5 := Lib.hid (HR4.out.kept (grown_drewN w2 nq none))
          have HG5 := Lib.hid (HG4.out.trans (grown_drewN w2 nq (some Br)))
          clear c0 c1 c2 c3 f2 HR4 HG4
          generalize w2.drewN nq = w3 at *
          have hszp : (s.extract A Z).size = Z - A := by rw [ByteArray.size_extract]; omega
          have HRd := Lib.hid (xRead_any (s.extract A Z) w3)
          rw [HP.out] at HRd
          generalize s.extract A Z = pc at *
          by_cases hgood : ok = true ∧ rp = j
          · rw [if_pos hgood] at HRd
            refine (HRd.out).mono ?_
            rintro e w5 ⟨v5, rfl, ho5, hb5⟩
            have HO6 : Hid (OwnNd w5 w.heap.size v5 f.flat) := own_lower ho5 HG5.out.size
            have HR6 := Lib.hid (HR5.out.kept (grown_below hb5))
            have HG6 := Lib.hid (HG5.out.trans (grown_none (row := some Br) (grown_below hb5)))
            obtain ⟨_, a5, c5, rfl, -⟩ := Rd.of_owns ho5
            have HGd := Lib.hid hgood
            clear hb5 ho5 hgood
            go_wp2_with fail
            go_ret
            exact ⟨HG6.out, .inl ⟨HGd.out, ⟨_, rfl, HO6.out⟩, HR6.out⟩⟩
          · rw [if_neg hgood] at HRd
            refine (HRd.out).mono ?_
            rintro e w5 ⟨v5, rfl, ho5, hb5⟩
            have HR6 := Lib.hid (HR5.out.kept (grown_below hb5))
            have HG6 := Lib.hid (HG5.out.trans (grown_none (row := some Br) (grown_below hb5)))
            obtain ⟨_, a5, c5, rfl, -⟩ := Rd.of_owns ho5
            have HGd := Lib.hid hgood
            clear hb5 ho5 hgood
            by_cases hMZ : M = Z
            · have hq9 : (((M : Int) - (A : Int)) == ((pc.size : Nat) : Int)) = true := by rw [hszp]; simp; omega
              have HMZ := Lib.hid hMZ
              clear hMZ hszp
              go_wp2_with fail
              refine (HPz.out _ _ HR6.out).mono ?_
              rintro e w6 ⟨rfl, nq6, rfl⟩
              have HG7 := Lib.hid (HG6.out.trans (grown_drewN w5 nq6 (some Br)))
              go_wp2_with fail
              exact ⟨rfl, HG7.out, .inr ⟨HGd.out, wrongG_eq (by rw [HM2.out, HMZ.out])⟩⟩
            · have hq9 : (((M : Int) - (A : Int)) == ((pc.size : Nat) : Int)) = false := by rw [hszp]; simp; omega
              clear hMZ hszp
              have hs1 : (0 : Int) ≤ A := by omega
              have hs2 : (A : Int) + ((M : Int) - A) ≤ 4096 := by omega
              have hs3 : (0 : Int) ≤ (A : Int) + ((M : Int) - A) := by omega
              go_wp2_with fail
              exact ⟨rfl, HG6.out, .inr ⟨HGd.out, wrongG_eq (by rw [HM2.out]; omega)⟩⟩
    · obtain rfl : j = sg := by omega
      have hlt1 : decide ((p : Int) + (j : Int) < L.length) = false := by simp; omega
      have hlt2 : decide (p + j < L.length) = false := by simp; omega
      go_wp2
      go_quiet (fail)
      have HR4 := Lib.hid (HR.out.kept (grown_drewN wr nq none))
      have HG4 := Lib.hid (HG.out.trans (grown_drewN wr nq (some Br)))
      clear c0 c1 c2 c3 f2 HR HG hlt1 hlt2
      generalize wr.drewN nq = w2 at *
      obtain ⟨c0, c1, c2, c3, f2⟩ := HR4.out.cells
      have hAZ : (A : Int) ≤ Z := by omega
      have hA0 : (0 : Int) ≤ A := by omega
      have hZs : (Z : Int) ≤ s.size := by omega
      go_wp2_with fail
      go_quiet ((go_at_call 112; exact Calls.quiet_of (HPz.out _ _ (HR4.out.kept (grown_drewN _ _ none)))))
      go_wp2_with fail
      have HR5 := Lib.hid (HR4.out.kept (grown_drewN w2 nq none))
      have HG5 := Lib.hid (HG4.out.trans (grown_drewN w2 nq (some Br)))
      clear c0 c1 c2 c3 f2 HR4 HG4
      generalize w2.drewN nq = w3 at *
      have hszp : (s.extract A Z).size = Z - A := by rw [ByteArray.size_extract]; omega
      have HRd := Lib.hid (xRead_any (s.extract A Z) w3)
      rw [HP.out] at HRd
      generalize s.extract A Z = pc at *
      by_cases hgood : ok = true ∧ rp = j
      · rw [if_pos hgood] at HRd
        refine (HRd.out).mono ?_
        rintro e w5 ⟨v5, rfl, ho5, hb5⟩
        have HO6 : Hid (OwnNd w5 w.heap.size v5 f.flat) := own_lower ho5 HG5.out.size
        have HR6 := Lib.hid (HR5.out.kept (grown_below hb5))
        have HG6 := Lib.hid (HG5.out.trans (grown_none (row := some Br) (grown_below hb5)))
        obtain ⟨_, a5, c5, rfl, -⟩ := Rd.of_owns ho5
        have HGd := Lib.hid hgood
        clear hb5 ho5 hgood
        go_wp2_with fail
        go_ret
        exact ⟨HG6.out, .inl ⟨HGd.out, ⟨_, rfl, HO6.out⟩, HR6.out⟩⟩
      · rw [if_neg hgood] at HRd
        refine (HRd.out).mono ?_
        rintro e w5 ⟨v5, rfl, ho5, hb5⟩
        have HR6 := Lib.hid (HR5.out.kept (grown_below hb5))
        have HG6 := Lib.hid (HG5.out.trans (grown_none (row := some Br) (grown_below hb5)))
        obtain ⟨_, a5, c5, rfl, -⟩ := Rd.of_owns ho5
        have HGd := Lib.hid hgood
        clear hb5 ho5 hgood
        by_cases hMZ : M = Z
        · have hq9 : (((M : Int) - (A : Int)) == ((pc.size : Nat) : Int)) = true := by rw [hszp]; simp; omega
          have HMZ := Lib.hid hMZ
          clear hMZ hszp
          go_wp2_with fail
          refine (HPz.out _ _ HR6.out).mono ?_
          rintro e w6 ⟨rfl, nq6, rfl⟩
          have HG7 := Lib.hid (HG6.out.trans (grown_drewN w5 nq6 (some Br)))
          go_wp2_with fail
          exact ⟨rfl, HG7.out, .inr ⟨HGd.out, wrongG_eq (by rw [HM2.out, HMZ.out])⟩⟩
        · have hq9 : (((M : Int) - (A : Int)) == ((pc.size : Nat) : Int)) = false := by rw [hszp]; simp; omega
          clear hMZ hszp
          have hs1 : (0 : Int) ≤ A := by omega
          have hs2 : (A : Int) + ((M : Int) - A) ≤ 4096 := by omega
          have hs3 : (0 : Int) ≤ (A : Int) + ((M : Int) - A) := by omega
          go_wp2_with fail
          exact ⟨rfl, HG6.out, .inr ⟨HGd.out, wrongG_eq (by rw [HM2.out]; omega)⟩⟩
end Go.Proofs.YtkmjmfcanlknjaaGreat
namespace Go.Proofs.YtkmjmfcanlknjaaGreat
open Go.RowKit

theorem OwnP.grown {w w' : World} {B : Nat} {v : Value} {P : List (Ru × Value)} {row : Option Nat} (h : OwnP w B v P) (hg : w.grownBy w' row) (hr : ∀ j, row = some j → j < B) : OwnP w' B v P :=
  ⟨own_grown h.row hg (fun j hj => .inl (hr j hj)), fun p hp => own_grown (h.bods p hp) hg (fun j hj => .inl (hr j hj))⟩
/-- what rules leaves -/
def RulesQ (Br : Nat) (L : List Mk) (en : Int) (R : GR) (w : World) (e : Ending) (w' : World) : Prop :=
  w.grownBy w' (some Br) ∧ ((R.ok = true ∧ ∃ v P, e = .returned v ∧ P.map (·.1) = R.g ∧ OwnP w' w.heap.size v P) ∨ (R.ok = false ∧ e = .panicked (wrongG (plc L en R.p))))
/-- where the reading of the rules stands -/
def AtR (L : List Mk) (R : GR) (g : List Ru) (q : Nat) : Prop :=
  (∃ n, L.length - q < n ∧ (g = [] ∨ q < L.length) ∧ R = rulesP L n q g) ∨ (g ≠ [] ∧ L.length ≤ q ∧ R = ⟨true, g, q⟩)
theorem AtR.bad {L : List Mk} {g : List Ru} {q n x : Nat} {R : GR} (hn : L.length - q < n) (hR : R = rulesP L n q g) (h : ruleP L q = (none, x)) : R.ok = false ∧ R.p = x := by
  obtain ⟨n', rfl⟩ : ∃ n', n = n' + 1 := ⟨n - 1, by omega⟩
  subst hR
  unfold rulesP
  rw [h]; exact ⟨rfl, rfl⟩
theorem AtR.good {L : List Mk} {g : List Ru} {q n x : Nat} {r : Ru} {R : GR} (hn : L.length - q < n) (hR : R = rulesP L n q g) (h : ruleP L q = (some r, x)) : AtR L R (g ++ [r]) x := by
  obtain ⟨n', rfl⟩ : ∃ n', n = n' + 1 := ⟨n - 1, by omega⟩
  have hl := ruleP_lt h
  have e : rulesP L (n' + 1) q g = if x < L.length then rulesP L n' x (g ++ [r]) else ⟨true, g ++ [r], x⟩ := by
    conv => lhs; unfold rulesP
    rw [h]
  rw [e] at hR
  by_cases hx : x < L.length
  · rw [if_pos hx] at hR
    exact .inl ⟨n', by omega, .inr hx, hR⟩
  · rw [if_neg hx] at hR
    exact .inr ⟨by simp, by omega, hR⟩
theorem ruleP_eq1 {L : List Mk} {p : Nat} (h : kd L p ≠ 1) : ruleP L p = (none, p) := by unfold ruleP; rw [if_pos h]
theorem ruleP_eq2 {L : List Mk} {p : Nat} (h : kd L p = 1) (h2 : kd L (p + 1) ≠ 4) : ruleP L p = (none, p + 1) := by unfold ruleP; rw [if_neg (by omega), if_pos h2]
theorem ruleP_eq3 {L : List Mk} {p : Nat} (h : kd L p = 1) (h2 : kd L (p + 1) = 4) (h3 : ¬ ((bodyP L (p + 1 + 1)).ok = true ∧ (bodyP L (p + 1 + 1)).p = (seg L (p + 1 + 1)).length)) : ruleP L p = (none, p + 1 + 1 + (bodyP L (p + 1 + 1)).p) := by
  unfold ruleP; rw [if_neg (by omega), if_neg (by omega), if_neg (fun h => h3 ⟨h.1, h.2.1⟩)]
theorem ruleP_eq4 {L : List Mk} {p : Nat} (h : kd L p = 1) (h2 : kd L (p + 1) = 4) (h3 : (bodyP L (p + 1 + 1)).ok = true ∧ (bodyP L (p + 1 + 1)).p = (seg L (p + 1 + 1)).length) (h5 : kd L (p + 1 + 1 + (seg L (p + 1 + 1)).length) ≠ 5) : ruleP L p = (none, p + 1 + 1 + (seg L (p + 1 + 1)).length) := by
  unfold ruleP; rw [if_neg (by omega), if_neg (by omega), if_neg (fun h => h5 h.2.2), ← h3.2]
theorem ruleP_eq5 {L : List Mk} {p : Nat} (h : kd L p = 1) (h2 : kd L (p + 1) = 4) (h3 : (bodyP L (p + 1 + 1)).ok = true ∧ (bodyP L (p + 1 + 1)).p = (seg L (p + 1 + 1)).length) (h5 : kd L (p + 1 + 1 + (seg L (p + 1 + 1)).length) = 5) : ruleP L p = (some ⟨tx L p, (bodyP L (p + 1 + 1)).f.flat⟩, p + 1 + 1 + (seg L (p + 1 + 1)).length + 1) := by
  unfold ruleP; rw [if_neg (by omega), if_neg (by omega), if_pos ⟨h3.1, h3.2, h5⟩]
set_option maxRecDepth 100000 in
set_option maxHeartbeats 12800000 in
theorem xRules_any {w : World} {Br : Nat} {s : ByteArray} {vl : Value} (h : Rdg w Br s vl (cut s 0).1 0 ((cut s 0).2 : Nat)) (hs : s.size ≤ 2048) :
    Calls Tryz.prog 38 #[.pointer (some ⟨Br, 0, none⟩)] w (RulesQ Br (cut s 0).1 ((cut s 0).2 : Nat) (gParsed s) w) := by
  have HR0 := Lib.hid h
  have HR := Lib.hid h
  have hBw := h.lt
  have hlen := (cut_len s s.size 0 (by omega) (by omega)).1
  have HAt : Hid (AtR (cut s 0).1 (gParsed s) [] 0) := .inl ⟨(cut s 0).1.length + 1, by omega, .inl rfl, rfl⟩
  have HBd := Lib.hid (fun (w : World) (p : Nat) (h : Rdg w Br s vl (cut s 0).1 p ((cut s 0).2 : Nat)) (hp : p ≤ (cut s 0).1.length) => xBody_any h hp hs)
  obtain ⟨_, ao, cap, rfl, -⟩ := h.rd
  clear h
  generalize (cut s 0).1 = L at *
  generalize (cut s 0).2 = qe at *
  generalize gParsed s = R at *
  go_enter Tryz.func38, Tryz.ntmps38
  go_wp2_with fail
  go_loopw [3] (fun o wr => ∃ (P' : List (Ru × Value)) (q : Nat), q ≤ L.length ∧ P'.length ≤ q ∧ Hid (OwnP wr w.heap.size o P') ∧ Hid (Rdg wr Br s (.slice ao L.length cap) L q (qe : Int)) ∧ Hid (w.grownBy wr (some Br)) ∧ Hid (AtR L R (P'.map (·.1)) q)) (fun _ wr => L.length - posG wr Br)
  case atStart => exact ⟨[], 0, by omega, by simp, OwnP.nil _ _, HR.out, ⟨rfl, rfl, rfl, Nat.le_refl _, fun _ _ _ => rfl⟩, HAt.out⟩
  case round =>
    clear HR HAt
    obtain ⟨P', q, hq, hPq, HO, HR, HG, HAt⟩ := hrel
    obtain ⟨c0, c1, c2, c3, f2⟩ := HR.out.cells
    obtain ⟨_, ou, cu, e3, -⟩ := Rd.of_owns HO.out.row
    subst e3
    have hlc : Hid (decide ((q : Int) < L.length) = decide (q < L.length)) := by unfold Hid; simp
    rcases HAt.out with ⟨n, hn, hgq, hRe⟩ | ⟨hne, hge, hRe⟩
    · have hcond : (((P'.length : Nat) : Int) == 0) = true ∨ ((((P'.length : Nat) : Int) == 0) = false ∧ decide ((q : Int) < L.length) = true ∧ decide (q < L.length) = true) := by
        by_cases h0 : P'.length = 0
        · exact .inl (by rw [h0]; rfl)
        · refine .inr ⟨by simp only [beq_eq_false_iff_ne, ne_eq]; omega, ?_, ?_⟩
          · rcases hgq with h | h
            · rw [List.map_eq_nil_iff] at h; subst h; simp at h0
            · simp; omega
          · rcases hgq with h | h
            · rw [List.map_eq_nil_iff] at h; subst h; simp at h0
            · simp; omega
      have HRe := Lib.hid hRe
      clear hRe hgq
      rcases hcond with h0 | ⟨h0, h0a, h0b⟩
      all_goals
        go_wp2
        go_quiet (fail)
        have HR2 := Lib.hid (HR.out.kept (grown_drewN wr nq none))
        have HG2 := Lib.hid (HG.out.trans (grown_drewN wr nq (some Br)))
        have HO2 := Lib.hid (HO.out.grown (grown_drewN wr nq none) (fun j hj => by cases hj))
        clear c0 c1 c2 c3 f2 h0
        generalize wr.drewN nq = w2 at *
        go_wp2_with fail
        refine (xTake_any HR2.out hq (by omega) 1 (by omega)).mono ?_
        rintro e w3 ⟨hg3, (⟨hk1, rfl, hr3⟩ | ⟨hk1, rfl⟩)⟩
        rotate_left
        · have HB := Lib.hid (AtR.bad hn HRe.out (ruleP_eq1 hk1))
          have HG3 := Lib.hid (HG2.out.trans hg3)
          clear hg3 hk1
          go_wp2_with fail
          exact ⟨rfl, HG3.out, .inr ⟨HB.out.1, wrongG_eq (by rw [HB.out.2])⟩⟩
        · have HG3 := Lib.hid (HG2.out.trans hg3)
          have HO3 := Lib.hid (HO2.out.grown hg3 (fun j hj => by cases hj; exact hBw))
          have HR3 := Lib.hid hr3
          have hq1 : q < L.length := kd_lt (by omega)
          have HK1 := Lib.hid hk1
          clear hg3 hk1 hr3
          go_wp2_with fail
          refine (xTake_any HR3.out (by omega) (by omega) 4 (by omega)).mono ?_
          rintro e w4 ⟨hg4, (⟨hk2, rfl, hr4⟩ | ⟨hk2, rfl⟩)⟩
          rotate_left
          · have HB := Lib.hid (AtR.bad hn HRe.out (ruleP_eq2 HK1.out hk2))
            have HG4 := Lib.hid (HG3.out.trans hg4)
            clear hg4 hk2
            go_wp2_with fail
            exact ⟨rfl, HG4.out, .inr ⟨HB.out.1, wrongG_eq (by rw [HB.out.2])⟩⟩
          · have HG4 := Lib.hid (HG3.out.trans hg4)
            have HO4 := Lib.hid (HO3.out.grown hg4 (fun j hj => by cases hj; exact hBw))
            have HR4 := Lib.hid hr4
            have hq2 : q + 1 < L.length := kd_lt (by omega)
            have HK2 := Lib.hid hk2
            clear hg4 hk2 hr4
            go_wp2_with fail
            refine (HBd.out _ (q + 1 + 1) HR4.out (by omega)).mono ?_
            rintro e w5 ⟨hg5, (⟨hb1, ⟨v5, rfl, ho5⟩, hr5⟩ | ⟨hb1, rfl⟩)⟩
            rotate_left
            · have HB := Lib.hid (AtR.bad hn HRe.out (ruleP_eq3 HK1.out HK2.out hb1))
              have HG5 := Lib.hid (HG4.out.trans hg5)
              clear hg5 hb1
              go_wp2_with fail
              exact ⟨rfl, HG5.out, .inr ⟨HB.out.1, wrongG_eq (by rw [HB.out.2])⟩⟩
            · have HG5 := Lib.hid (HG4.out.trans hg5)
              have HO5 := Lib.hid (HO4.out.grown hg5 (fun j hj => by cases hj; exact hBw))
              have HV5 : Hid (OwnNd w5 w.heap.size v5 (bodyP L (q + 1 + 1)).f.flat) := own_lower ho5 HG4.out.size
              have HR5 := Lib.hid hr5
              have HB1 := Lib.hid hb1
              have hsl := seg_le L (q + 1 + 1) (by omega)
              obtain ⟨_, a5, c5, rfl, -⟩ := Rd.of_owns ho5
              clear hg5 hb1 hr5 ho5
              generalize hsg : (seg L (q + 1 + 1)).length = sg at *
              have HSg := Lib.hid hsg
              clear hsg
              go_wp2_with fail
              refine (xTake_any HR5.out (by omega) (by omega) 5 (by omega)).mono ?_
              rintro e w6 ⟨hg6, (⟨hk3, rfl, hr6⟩ | ⟨hk3, rfl⟩)⟩
              rotate_left
              · have HB := Lib.hid (AtR.bad hn HRe.out (ruleP_eq4 HK1.out HK2.out (by rw [HSg.out]; exact HB1.out) (by rw [HSg.out]; exact hk3)))
                have HG6 := Lib.hid (HG5.out.trans hg6)
                clear hg6 hk3
                go_wp2_with fail
                exact ⟨rfl, HG6.out, .inr ⟨HB.out.1, wrongG_eq (by rw [HB.out.2, HSg.out])⟩⟩
              · have HG6 := Lib.hid (HG5.out.trans hg6)
                have HO6 := Lib.hid (HO5.out.grown hg6 (fun j hj => by cases hj; exact hBw))
                have HV6 : Hid (OwnNd w6 w.heap.size (.slice a5 (bodyP L (q + 1 + 1)).f.flat.length c5) (bodyP L (q + 1 + 1)).f.flat) := own_grown HV5.out hg6 (fun j hj => by cases hj; exact .inl hBw)
                have HR6 := Lib.hid hr6
                have hq3 : q + 1 + 1 + sg < L.length := kd_lt (by omega)
                have HGo := Lib.hid (AtR.good hn HRe.out (ruleP_eq5 HK1.out HK2.out (by rw [HSg.out]; exact HB1.out) (by rw [HSg.out]; exact hk3)))
                have hw6 := HG6.out.size
                have hro := HO6.out.row
                clear hg6 hk3 hr6
                generalize hfl : (bodyP L (q + 1 + 1)).f.flat = fl at *
                have HFl := Lib.hid hfl
                clear hfl
                generalize htx : tx L q = th at *
                have HTx := Lib.hid htx
                clear htx
                go_wp2_with (at_builtin; go_must (refine wpList_appG1 elemRu rfl _ _ rfl hro rfl (news := [.string th, .slice a5 fl.length c5]) rfl rfl (by intro u hu; simp at hu; rcases hu with rfl | rfl <;> rfl) (by unfold maxLen; omega) (by omega) hw6 ?_); intro v7 w7 hown7 hg7)
                have HO7 : Hid (OwnP w7 w.heap.size v7 (P' ++ [(⟨th, fl⟩, .slice a5 fl.length c5)])) := OwnP.snoc (p := (⟨th, fl⟩, .slice a5 fl.length c5)) HO6.out HV6.out hown7 hg7
                have hob : ∀ g, (Value.slice ou P'.length cu).ownBlock = some g → w.heap.size ≤ g := fun g hg => own_block hro g hg
                have HG7 : Hid (w.grownBy w7 (some Br)) := grown_then HG6.out hg7 (fun j hj => .inl (hob j hj))
                have HR7 : Hid (Rdg w7 Br s (.slice ao L.length cap) L (q + 1 + 1 + sg + 1) (qe : Int)) := by
                  refine HR0.out.moved HG7.out ?_
                  exact (hg7.block Br HR6.out.lt (fun e => by have := hob Br e.symm; omega)).trans HR6.out.box
                have HAt7 : Hid (AtR L R ((P' ++ [((⟨th, fl⟩, .slice a5 fl.length c5) : Ru × Value)]).map (·.1)) (q + 1 + 1 + sg + 1)) := by
                  have := HGo.out
                  rw [HSg.out] at this
                  unfold Hid
                  rw [List.map_append]; exact this
                clear hown7 hg7 hro
                go_wp2_with fail
                go_roundw
                case rel => exact ⟨_, q + 1 + 1 + sg + 1, by omega, by simp; omega, HO7.out, HR7.out, HG7.out, HAt7.out⟩
                case measure => rw [HR7.out.pos, HR.out.pos]; omega
    · have hne2 : P'.length ≠ 0 := fun h => hne (by rw [List.length_eq_zero_iff.1 h]; rfl)
      have h0 : (((P'.length : Nat) : Int) == 0) = false := by simp only [beq_eq_false_iff_ne, ne_eq]; omega
      have h0a : decide ((q : Int) < L.length) = false := by simp; omega
      have h0b : decide (q < L.length) = false := by simp; omega
      have HRe := Lib.hid hRe
      clear hRe hne hne2
      go_wp2
      go_quiet (fail)
      have HG2 := Lib.hid (HG.out.trans (grown_drewN wr nq (some Br)))
      have HO2 := Lib.hid (HO.out.grown (grown_drewN wr nq none) (fun j hj => by cases hj))
      clear c0 c1 c2 c3 f2 h0
      generalize wr.drewN nq = w2 at *
      go_wp2_with fail
      go_ret
      exact ⟨HG2.out, .inl ⟨by rw [HRe.out], _, _, rfl, by rw [HRe.out], HO2.out⟩⟩
end Go.Proofs.YtkmjmfcanlknjaaGreat
namespace Go.Proofs.YtkmjmfcanlknjaaGreat
open Go.RowKit

/-! ### a head -/
theorem one_rd (w : World) (t : TypeId) (q : Nat × Nat) (x : Nd) : RdNd (w.alloc (.cells #[.int .i64 x.k, .string x.n, .int .i64 x.c] t q)) (.slice (some ⟨w.heap.size, 0, none⟩) 1 1) [x] := by
  have hb := World.alloc_heap_new w (.cells #[.int .i64 x.k, .string x.n, .int .i64 x.c] t q)
  refine ⟨rfl, some ⟨w.heap.size, 0, none⟩, 1, rfl, Nat.le_refl 1, by decide, .inr ⟨w.heap.size, 0, rfl, (Array.getElem?_eq_some_iff.1 hb).1, fun j u hj => ?_⟩⟩
  have hlt : j < 3 := (List.getElem?_eq_some_iff.1 hj).1
  unfold World.cell?
  simp only [hb]
  rw [← hj]
  have : j = 0 ∨ j = 1 ∨ j = 2 := by omega
  rcases this with rfl | rfl | rfl <;> rfl
theorem tree_one (s : ByteArray) : treeB [⟨2, s, 0⟩] = nameB s 1 := by
  show (decide (0 < 1) && trB 1 [⟨2, s, 0⟩] 1) = _
  have hm : mayB ⟨2, s, 0⟩ = nameB s 1 := by simp [mayB]
  rw [trB_cons, if_neg (by omega), hm]
  cases h : nameB s 1 with
  | true => rw [if_pos ⟨rfl, by simp⟩, trB_nil]; rfl
  | false => rw [if_neg (by simp)]; rfl
theorem chk_one (s : ByteArray) : ChkS [⟨2, s, 0⟩] (if nameB s 1 = true then 0 else 170) := by
  cases h : nameB s 1 with
  | false => exact .inr (.inl ⟨by simp, by rw [tree_one, h], by simp⟩)
  | true =>
    have hm : mayN ⟨2, s, 0⟩ := (mayB_iff _).1 (by simp [mayB, h])
    refine .inr (.inr ⟨by simp, ⟨2, s, 0⟩, .nil, ⟨rfl, ⟨rfl, trivial, trivial⟩, ⟨hm, trivial, trivial⟩⟩, ?_⟩)
    have hs := hm.size
    rw [if_pos rfl]
    unfold boundsF
    have e : txN ⟨2, s, 0⟩ Fo.nil.tx = s := rfl
    simp only at hs
    rw [e, if_neg (by simp [Fo.height]), if_neg (by omega)]
set_option maxRecDepth 100000 in
set_option maxHeartbeats 1600000 in
theorem xHeaded_any (s : ByteArray) (w : World) : Calls Tryz.prog 62 #[.string s] w fun e w' => e = .returned (.bool (nameB s 1)) ∧ Below w.heap.size w w' := by
  have HC := Lib.hid (fun v w h => xCheck_any v [⟨2, s, 0⟩] _ w h (chk_one s) (by simp))
  have HR := Lib.hid (fun w t q => one_rd w t q ⟨2, s, 0⟩)
  cases hb : nameB s 1 with
  | true =>
    rw [hb, if_pos rfl] at HC
    clear hb
    go_enter Tryz.func62, Tryz.ntmps62
    go_wp2_with fail
    refine (HC.out _ _ (HR.out _ _ _)).mono ?_
    rintro e w2 ⟨rfl, hb2⟩
    have HB2 := Lib.hid ((below1 w _).trans (hb2.mono (by simp)))
    clear hb2
    go_wp2_with fail
    go_ret
    exact ⟨rfl, HB2.out⟩
  | false =>
    rw [hb, if_neg (by simp)] at HC
    clear hb
    go_enter Tryz.func62, Tryz.ntmps62
    go_wp2_with fail
    refine (HC.out _ _ (HR.out _ _ _)).mono ?_
    rintro e w2 ⟨rfl, hb2⟩
    have HB2 := Lib.hid ((below1 w _).trans (hb2.mono (by simp)))
    clear hb2
    go_wp2_with fail
    go_ret
    exact ⟨rfl, HB2.out⟩
/-! ### is a rule wrong? -/
def badR (r : Ru) : Bool := !(nameB r.h 1 && treeB r.b)
set_option maxRecDepth 100000 in
set_option maxHeartbeats 1600000 in
theorem xBad_any (r : Ru) (v : Value) (w : World) (h : RdNd w v r.b) (hl : r.b.length ≤ 16777216) :
    Calls Tryz.prog 61 #[.agg #[.string r.h, v]] w fun e w' => e = .returned (.bool (badR r)) ∧ Below w.heap.size w w' := by
  obtain ⟨rh, rb⟩ := r
  simp only at h hl
  obtain ⟨hh, em, hT⟩ := treeS_ex rb
  have HH := Lib.hid (fun w h => xHeightT_any v rb hh em w h hT hl)
  have HX := Lib.hid xHeaded_any
  have HV := Lib.hid h
  have hz : (hh == 0) = !treeB rb := by
    rcases hT with ⟨h1, rfl, -⟩ | ⟨x, k, hG, rfl, -⟩
    · rw [h1]; rfl
    · rw [hG.tree]; simp; omega
  obtain ⟨_, ao, cap, rfl, -⟩ := h
  have HB : Hid (badR ⟨rh, rb⟩ = (!nameB rh 1 || (hh == 0))) := by unfold Hid badR; rw [hz]; cases nameB rh 1 <;> cases treeB rb <;> rfl
  clear hz hT
  generalize badR ⟨rh, rb⟩ = bd at *
  generalize rb.length = n at *
  cases hb : nameB rh 1 with
  | false =>
    rw [hb] at HB
    have HX2 := Lib.hid (HX.out rh)
    rw [hb] at HX2
    clear hb HX
    go_enter Tryz.func61, Tryz.ntmps61
    go_wp2_with (go_at_call 62; refine (HX2.out _).mono ?_; rintro e w2 ⟨rfl, hb2⟩; have HB2 := Lib.hid ((below1 w _).trans (hb2.mono (by simp))); clear hb2)
    go_ret
    exact ⟨by rw [HB.out]; rfl, HB2.out⟩
  | true =>
    rw [hb] at HB
    have HX2 := Lib.hid (HX.out rh)
    rw [hb] at HX2
    clear hb HX
    have hB1 : Hid (Below w.heap.size w (w.alloc (.cells #[.string rh, .slice ao n cap] 47))) := below1 w _
    go_enter Tryz.func61, Tryz.ntmps61
    go_wp2_with fail
    have c1 : (w.alloc (.cells #[.string rh, .slice ao n cap] 47)).cell? ⟨w.heap.size, 1, none⟩ = some (.slice ao n cap) := by simp
    have hlt : w.heap.size < (w.alloc (.cells #[.string rh, .slice ao n cap] 47)).heap.size := by simp
    generalize w.alloc (.cells #[.string rh, .slice ao n cap] 47) = w1 at *
    refine (HX2.out _).mono ?_
    rintro e w2 ⟨rfl, hb2⟩
    have C1 := (hb2.cell (p := ⟨w.heap.size, 1, none⟩) hlt).trans c1
    have HB2 := Lib.hid (hB1.out.trans (hb2.mono hB1.out.size))
    clear hb2 c1
    go_wp2_with (go_at_call 63; refine (HH.out _ (HV.out.below HB2.out)).mono ?_; rintro e w3 ⟨rfl, hb3⟩; have HB3 := Lib.hid (HB2.out.trans (hb3.mono HB2.out.size)); clear hb3)
    go_ret
    exact ⟨by rw [HB.out]; rfl, HB3.out⟩
noncomputable def deepR (r : Ru) : Bool := decide (16 < heightN r.b)
set_option maxRecDepth 100000 in
set_option maxHeartbeats 1600000 in
theorem xDeepR_any (r : Ru) (v : Value) (w : World) (h : RdNd w v r.b) (hl : r.b.length ≤ 16777216) (ht : treeB r.b = true) :
    Calls Tryz.prog 68 #[.agg #[.string r.h, v]] w fun e w' => e = .returned (.bool (deepR r)) ∧ Below w.heap.size w w' := by
  obtain ⟨rh, rb⟩ := r
  simp only at h hl ht
  obtain ⟨hh, em, hT⟩ := treeS_ex rb
  have HH := Lib.hid (fun w h => xHeightT_any v rb hh em w h hT hl)
  have HV := Lib.hid h
  have hz : hh = heightN rb := by
    rcases hT with ⟨h1, -, -⟩ | ⟨x, k, hG, rfl, -⟩
    · rw [ht] at h1; cases h1
    · rw [heightN_eq hG]
  subst hz
  obtain ⟨_, ao, cap, rfl, -⟩ := h
  have HB : Hid (deepR ⟨rh, rb⟩ = decide (16 < heightN rb)) := rfl
  clear hT ht
  generalize deepR ⟨rh, rb⟩ = bd at *
  generalize heightN rb = hn at *
  generalize rb.length = n at *
  go_enter Tryz.func68, Tryz.ntmps68
  go_wp2_with (go_at_call 63; refine (HH.out _ (HV.out.below (below1 w _))).mono ?_; rintro e w3 ⟨rfl, hb3⟩; have HB3 := Lib.hid ((below1 w _).trans (hb3.mono (by simp))); clear hb3)
  go_ret
  exact ⟨by rw [HB.out]; congr 1; simp; omega, HB3.out⟩
def SomeIx (a : Bool) (r : Int) : Prop := (r = -1 ∧ a = false) ∨ (0 ≤ r ∧ a = true)

set_option maxRecDepth 100000 in
set_option maxHeartbeats 1600000 in
theorem xBadIx_any (v : Value) (G : List Ru) (w : World) (h : RdRu w v G) (hl : G.length ≤ 140737488355328) (hn : nodesG G ≤ 16777216) :
    Calls Tryz.prog 101 #[v, .func (.func 61) #[] #[]] w fun e w' => ∃ r, e = .returned (.int .i64 r) ∧ Hid (SomeIx (G.any badR) r) ∧ Below w.heap.size w w' := by
  obtain ⟨P, rfl, hR⟩ := h
  have HR := Lib.hid hR
  have HN := Lib.hid hn
  obtain ⟨⟨_, ao, cap, rfl, -⟩, -⟩ := hR
  have hpl : P.length ≤ 140737488355328 := by rwa [List.length_map] at hl
  clear hn hl
  generalize hG : P.map (·.1) = G at *
  have HG := Lib.hid hG
  have HGL : Hid (G.length = P.length) := by unfold Hid; rw [← hG, List.length_map]
  clear hG
  go_enter Tryz.func101, Tryz.ntmps101
  go_wp2_with fail
  go_loopw [8] (fun i wr => ∃ j : Nat, j ≤ P.length ∧ i = .int .i64 j ∧ Hid (∀ q x, q < j → G[q]? = some x → badR x = false) ∧ Hid (Below w.heap.size w wr)) (fun i _ => P.length - (intOf i).toNat)
  case atStart => exact ⟨0, by omega, rfl, fun q x h => by omega, Below.refl _ _⟩
  case round =>
    obtain ⟨j, hj, rfl, HQ, HBel⟩ := hrel
    have hws := HBel.out.size
    by_cases hlt : j < P.length
    · obtain ⟨p, hp⟩ : ∃ p, P[j]? = some p := ⟨_, List.getElem?_eq_getElem hlt⟩
      obtain ⟨b, off, cp, e1, hb, hc, x0, x1, hrd⟩ := RdP.at HR.out hp
      simp only [Value.slice.injEq] at e1
      obtain ⟨rfl, -, rfl⟩ := e1
      have X0 := (HBel.out.cell (p := ⟨b, _, none⟩) hb).trans x0
      have X1 := (HBel.out.cell (p := ⟨b, _, none⟩) hb).trans x1
      have hbw : b < wr.heap.size := by omega
      have HGP : Hid (G[j]? = some p.1) := by unfold Hid; rw [← HG.out, List.getElem?_map, hp]; rfl
      have hmem := List.mem_of_getElem? HGP.out
      have hbn : p.1.b.length ≤ 16777216 := Nat.le_trans (body_le hmem) HN.out
      have HC := Lib.hid (xBad_any p.1 p.2 wr (hrd.below HBel.out) hbn)
      obtain ⟨_, ao3, cp3, hv2, -⟩ := id hrd
      obtain ⟨⟨ph, pb⟩, pv⟩ := p
      simp only at hv2 X0 X1 HGP HC
      subst hv2
      clear x0 x1 hp hrd hbn hmem
      cases hd : badR ⟨ph, pb⟩ with
      | true =>
        rw [hd] at HC
        have HLg : Hid (SomeIx (G.any badR) j) := .inr ⟨by omega, List.any_eq_true.2 ⟨_, List.mem_of_getElem? HGP.out, hd⟩⟩
        clear hd
        go_wp2_with (go_at_call 61; refine (HC.out).mono ?_; rintro e w2 ⟨rfl, hb2⟩)
        go_ret
        exact ⟨_, rfl, HLg.out, HBel.out.trans (hb2.mono hws)⟩
      | false =>
        rw [hd] at HC
        have HQ2 : Hid (∀ q y, q < j + 1 → G[q]? = some y → badR y = false) := fun q y hq hy => by
          by_cases h : q = j
          · subst h; rw [HGP.out] at hy; injection hy with hy; subst hy; exact hd
          · exact HQ.out q y (by omega) hy
        clear hd
        go_wp2_with (go_at_call 61; refine (HC.out).mono ?_; rintro e w2 ⟨rfl, hb2⟩; have HB2 := Lib.hid hb2; clear hb2)
        go_roundw
        case rel => exact ⟨j + 1, by omega, by go_num, HQ2.out, HBel.out.trans (HB2.out.mono hws)⟩
        case measure => simp [intOf]; omega
    · have HLg : Hid (SomeIx (G.any badR) (-1)) := by
        refine .inl ⟨rfl, ?_⟩
        rw [List.any_eq_false]
        intro x hx
        obtain ⟨q, hq⟩ := List.getElem?_of_mem hx
        have := HQ.out q x (by have := (List.getElem?_eq_some_iff.1 hq).1; have := HGL.out; omega) hq
        simpa using this
      go_wp2_with fail
      go_ret
      exact ⟨_, rfl, HLg.out, HBel.out⟩
set_option maxRecDepth 100000 in
set_option maxHeartbeats 1600000 in
theorem xBadCo_any (v : Value) (G : List Ru) (w : World) (h : RdRu w v G) (hl : G.length ≤ 140737488355328) (hn : nodesG G ≤ 16777216) :
    Calls Tryz.prog 59 #[v, .func (.func 61) #[] #[]] w fun e w' => e = .returned (.bool (G.any badR)) ∧ Below w.heap.size w w' := by
  have HI := Lib.hid (xBadIx_any v G w h hl hn)
  obtain ⟨P, rfl, hR⟩ := h
  obtain ⟨⟨_, ao, cap, rfl, -⟩, -⟩ := hR
  generalize P.map (·.1) = G at *
  go_enter Tryz.func59, Tryz.ntmps59
  go_wp2_with fail
  refine (HI.out).mono ?_
  rintro e w1 ⟨r, rfl, HL, hb1⟩
  rcases HL.out with ⟨rfl, h2⟩ | ⟨h1, h2⟩
  · have H2 := Lib.hid h2
    clear h2 HL HI
    go_wp2_with fail
    go_ret
    exact ⟨by rw [H2.out]; rfl, hb1⟩
  · have H2 := Lib.hid h2
    clear h2 HL HI
    go_wp2_with fail
    go_ret
    exact ⟨by rw [H2.out]; simp, hb1⟩

set_option maxRecDepth 100000 in
set_option maxHeartbeats 1600000 in
theorem xDpIx_any (v : Value) (G : List Ru) (w : World) (h : RdRu w v G) (hl : G.length ≤ 140737488355328) (hn : nodesG G ≤ 16777216) (ht : treesB G = true) :
    Calls Tryz.prog 101 #[v, .func (.func 68) #[] #[]] w fun e w' => ∃ r, e = .returned (.int .i64 r) ∧ Hid (SomeIx (G.any deepR) r) ∧ Below w.heap.size w w' := by
  obtain ⟨P, rfl, hR⟩ := h
  have HR := Lib.hid hR
  have HN := Lib.hid hn
  obtain ⟨⟨_, ao, cap, rfl, -⟩, -⟩ := hR
  have hpl : P.length ≤ 140737488355328 := by rwa [List.length_map] at hl
  clear hn hl
  generalize hG : P.map (·.1) = G at *
  have HG := Lib.hid hG
  have HGL : Hid (G.length = P.length) := by unfold Hid; rw [← hG, List.length_map]
  clear hG
  have HTr := Lib.hid ht
  clear ht
  go_enter Tryz.func101, Tryz.ntmps101
  go_wp2_with fail
  go_loopw [8] (fun i wr => ∃ j : Nat, j ≤ P.length ∧ i = .int .i64 j ∧ Hid (∀ q x, q < j → G[q]? = some x → deepR x = false) ∧ Hid (Below w.heap.size w wr)) (fun i _ => P.length - (intOf i).toNat)
  case atStart => exact ⟨0, by omega, rfl, fun q x h => by omega, Below.refl _ _⟩
  case round =>
    obtain ⟨j, hj, rfl, HQ, HBel⟩ := hrel
    have hws := HBel.out.size
    by_cases hlt : j < P.length
    · obtain ⟨p, hp⟩ : ∃ p, P[j]? = some p := ⟨_, List.getElem?_eq_getElem hlt⟩
      obtain ⟨b, off, cp, e1, hb, hc, x0, x1, hrd⟩ := RdP.at HR.out hp
      simp only [Value.slice.injEq] at e1
      obtain ⟨rfl, -, rfl⟩ := e1
      have X0 := (HBel.out.cell (p := ⟨b, _, none⟩) hb).trans x0
      have X1 := (HBel.out.cell (p := ⟨b, _, none⟩) hb).trans x1
      have hbw : b < wr.heap.size := by omega
      have HGP : Hid (G[j]? = some p.1) := by unfold Hid; rw [← HG.out, List.getElem?_map, hp]; rfl
      have hmem := List.mem_of_getElem? HGP.out
      have hbn : p.1.b.length ≤ 16777216 := Nat.le_trans (body_le hmem) HN.out
      have HC := Lib.hid (xDeepR_any p.1 p.2 wr (hrd.below HBel.out) hbn (trees_mem HTr.out hmem).2)
      obtain ⟨_, ao3, cp3, hv2, -⟩ := id hrd
      obtain ⟨⟨ph, pb⟩, pv⟩ := p
      simp only at hv2 X0 X1 HGP HC
      subst hv2
      clear x0 x1 hp hrd hbn hmem
      cases hd : deepR ⟨ph, pb⟩ with
      | true =>
        rw [hd] at HC
        have HLg : Hid (SomeIx (G.any deepR) j) := .inr ⟨by omega, List.any_eq_true.2 ⟨_, List.mem_of_getElem? HGP.out, hd⟩⟩
        clear hd
        go_wp2_with (go_at_call 68; refine (HC.out).mono ?_; rintro e w2 ⟨rfl, hb2⟩)
        go_ret
        exact ⟨_, rfl, HLg.out, HBel.out.trans (hb2.mono hws)⟩
      | false =>
        rw [hd] at HC
        have HQ2 : Hid (∀ q y, q < j + 1 → G[q]? = some y → deepR y = false) := fun q y hq hy => by
          by_cases h : q = j
          · subst h; rw [HGP.out] at hy; injection hy with hy; subst hy; exact hd
          · exact HQ.out q y (by omega) hy
        clear hd
        go_wp2_with (go_at_call 68; refine (HC.out).mono ?_; rintro e w2 ⟨rfl, hb2⟩; have HB2 := Lib.hid hb2; clear hb2)
        go_roundw
        case rel => exact ⟨j + 1, by omega, by go_num, HQ2.out, HBel.out.trans (HB2.out.mono hws)⟩
        case measure => simp [intOf]; omega
    · have HLg : Hid (SomeIx (G.any deepR) (-1)) := by
        refine .inl ⟨rfl, ?_⟩
        rw [List.any_eq_false]
        intro x hx
        obtain ⟨q, hq⟩ := List.getElem?_of_mem hx
        have := HQ.out q x (by have := (List.getElem?_eq_some_iff.1 hq).1; have := HGL.out; omega) hq
        simpa using this
      go_wp2_with fail
      go_ret
      exact ⟨_, rfl, HLg.out, HBel.out⟩
set_option maxRecDepth 100000 in
set_option maxHeartbeats 1600000 in
theorem xDpCo_any (v : Value) (G : List Ru) (w : World) (h : RdRu w v G) (hl : G.length ≤ 140737488355328) (hn : nodesG G ≤ 16777216) (ht : treesB G = true) :
    Calls Tryz.prog 59 #[v, .func (.func 68) #[] #[]] w fun e w' => e = .returned (.bool (G.any deepR)) ∧ Below w.heap.size w w' := by
  have HI := Lib.hid (xDpIx_any v G w h hl hn ht)
  obtain ⟨P, rfl, hR⟩ := h
  obtain ⟨⟨_, ao, cap, rfl, -⟩, -⟩ := hR
  generalize P.map (·.1) = G at *
  go_enter Tryz.func59, Tryz.ntmps59
  go_wp2_with fail
  refine (HI.out).mono ?_
  rintro e w1 ⟨r, rfl, HL, hb1⟩
  rcases HL.out with ⟨rfl, h2⟩ | ⟨h1, h2⟩
  · have H2 := Lib.hid h2
    clear h2 HL HI
    go_wp2_with fail
    go_ret
    exact ⟨by rw [H2.out]; rfl, hb1⟩
  · have H2 := Lib.hid h2
    clear h2 HL HI
    go_wp2_with fail
    go_ret
    exact ⟨by rw [H2.out]; simp, hb1⟩
end Go.Proofs.YtkmjmfcanlknjaaGreat
namespace Go.Proofs.YtkmjmfcanlknjaaGreat
open Go.RowKit

/-! ### bnf.long -/
theorem xLongN_any (x : Nd) (w : World) :
    Calls Tryz.prog 81 #[.agg #[.int .i64 x.k, .string x.n, .int .i64 x.c]] w fun e w' => e = .returned (.bool (decide (16 < x.n.size))) ∧ Below w.heap.size w w' := by
  by_cases h : 16 < x.n.size
  · have HD : Hid (decide (16 < x.n.size) = true) := by unfold Hid; simpa using h
    go_enter Tryz.func81, Tryz.ntmps81
    go_wp2_with fail
    go_ret
    exact ⟨by first | (rw [HD.out]; rfl) | (simp; omega) | (simp [h]; omega), below1 _ _⟩
  · have HD : Hid (decide (16 < x.n.size) = false) := by unfold Hid; simpa using h
    go_enter Tryz.func81, Tryz.ntmps81
    go_wp2_with fail
    go_ret
    exact ⟨by first | (rw [HD.out]; rfl) | (simp; omega) | (simp [h]; omega), below1 _ _⟩
set_option maxRecDepth 100000 in
set_option maxHeartbeats 1600000 in
theorem xLongNIx_any (v : Value) (l : List Nd) (w : World) (h : RdNd w v l) (hl : l.length ≤ 140737488355328) :
    Calls Tryz.prog 114 #[v, .func (.func 81) #[] #[]] w fun e w' => ∃ r, e = .returned (.int .i64 r) ∧ Hid (LongIx l r) ∧ Below w.heap.size w w' := by
  have HR := Lib.hid h
  obtain ⟨_, ao, cap, rfl, -⟩ := h
  go_enter Tryz.func114, Tryz.ntmps114
  go_wp2_with fail
  go_loopw [8] (fun i wr => ∃ j : Nat, j ≤ l.length ∧ i = .int .i64 j ∧ Hid (∀ q x, q < j → l[q]? = some x → ¬ 16 < x.n.size) ∧ Hid (Below w.heap.size w wr)) (fun i _ => l.length - (intOf i).toNat)
  case atStart => exact ⟨0, by omega, rfl, fun q x h => by omega, Below.refl _ _⟩
  case round =>
    obtain ⟨j, hj, rfl, HQ, HBel⟩ := hrel
    by_cases hlt : j < l.length
    · obtain ⟨x, hx⟩ : ∃ x, l[j]? = some x := ⟨_, List.getElem?_eq_getElem hlt⟩
      obtain ⟨b, off, cp, e1, hb, hc, x0, x1, x2⟩ := RdNd.at HR.out hx
      simp only [Value.slice.injEq] at e1
      obtain ⟨rfl, -, rfl⟩ := e1
      have X0 := (HBel.out.cell (p := ⟨b, _, none⟩) hb).trans x0
      have X1 := (HBel.out.cell (p := ⟨b, _, none⟩) hb).trans x1
      have X2 := (HBel.out.cell (p := ⟨b, _, none⟩) hb).trans x2
      have HL := Lib.hid (fun w => xLongN_any x w)
      have HX := Lib.hid hx
      have hws := HBel.out.size
      clear x0 x1 x2 hx
      cases hd : decide (16 < x.n.size) with
      | true =>
        rw [hd] at HL
        have HLg : Hid (LongIx l j) := .inr ⟨by omega, by unfold longN; rw [List.any_eq_true]; exact ⟨x, List.mem_of_getElem? HX.out, hd⟩⟩
        clear hd
        go_wp2_with (go_at_call 81; refine (HL.out _).mono ?_; rintro e w2 ⟨rfl, hb2⟩)
        go_ret
        exact ⟨_, rfl, HLg.out, HBel.out.trans (hb2.mono hws)⟩
      | false =>
        rw [hd] at HL
        have HQ2 : Hid (∀ q y, q < j + 1 → l[q]? = some y → ¬ 16 < y.n.size) := fun q y hq hy => by
          by_cases h : q = j
          · subst h; rw [HX.out] at hy; injection hy with hy; subst hy; simpa using hd
          · exact HQ.out q y (by omega) hy
        clear hd
        go_wp2_with (go_at_call 81; refine (HL.out _).mono ?_; rintro e w2 ⟨rfl, hb2⟩; have HB2 := Lib.hid hb2; clear hb2)
        go_roundw
        case rel => exact ⟨j + 1, by omega, by go_num, HQ2.out, HBel.out.trans (HB2.out.mono hws)⟩
        case measure => simp [intOf]; omega
    · have HLg : Hid (LongIx l (-1)) := by
        refine .inl ⟨rfl, ?_⟩
        unfold longN
        rw [List.any_eq_false]
        intro x hx
        obtain ⟨q, hq⟩ := List.getElem?_of_mem hx
        have := HQ.out q x (by have := (List.getElem?_eq_some_iff.1 hq).1; omega) hq
        simpa using this
      go_wp2_with fail
      go_ret
      exact ⟨_, rfl, HLg.out, HBel.out⟩
set_option maxHeartbeats 1600000 in
theorem xLongNCo_any (v : Value) (l : List Nd) (w : World) (h : RdNd w v l) (hl : l.length ≤ 140737488355328) :
    Calls Tryz.prog 80 #[v, .func (.func 81) #[] #[]] w fun e w' => e = .returned (.bool (longN l)) ∧ Below w.heap.size w w' := by
  have HI := Lib.hid (xLongNIx_any v l w h hl)
  obtain ⟨_, ao, cap, rfl, -⟩ := h
  go_enter Tryz.func80, Tryz.ntmps80
  go_wp2_with fail
  refine (HI.out).mono ?_
  rintro e w1 ⟨r, rfl, HL, hb1⟩
  rcases HL.out with ⟨rfl, h2⟩ | ⟨h1, h2⟩
  · have H2 := Lib.hid h2
    clear h2 HL HI
    go_wp2_with fail
    go_ret
    exact ⟨by rw [H2.out]; rfl, hb1⟩
  · have H2 := Lib.hid h2
    clear h2 HL HI
    go_wp2_with fail
    go_ret
    exact ⟨by rw [H2.out]; rfl, hb1⟩

def longR (r : Ru) : Bool := decide (16 < r.h.size) || longN r.b
theorem longG_any (G : List Ru) : longG G = G.any longR := rfl
set_option maxRecDepth 100000 in
set_option maxHeartbeats 1600000 in
theorem xLongR_any (r : Ru) (v : Value) (w : World) (h : RdNd w v r.b) (hl : r.b.length ≤ 16777216) :
    Calls Tryz.prog 79 #[.agg #[.string r.h, v]] w fun e w' => e = .returned (.bool (longR r)) ∧ Below w.heap.size w w' := by
  obtain ⟨rh, rb⟩ := r
  simp only at h hl
  have HC := Lib.hid (fun w h => xLongNCo_any v rb w h (by omega))
  have HV := Lib.hid h
  obtain ⟨_, ao, cap, rfl, -⟩ := h
  by_cases hh : 16 < rh.size
  · have hh2 : decide (16 < rh.size) = true := by simpa using hh
    have HB : Hid (longR ⟨rh, rb⟩ = true) := by unfold Hid longR; simp only; rw [hh2]; rfl
    go_enter Tryz.func79, Tryz.ntmps79
    go_wp2_with fail
    go_ret
    exact ⟨by rw [HB.out]; rfl, below1 _ _⟩
  · have hh2 : decide (16 < rh.size) = false := by simpa using hh
    have hh3 : decide ((16 : Int) < (rh.size : Int)) = false := by simp; omega
    have HB : Hid (longR ⟨rh, rb⟩ = longN rb) := by unfold Hid longR; simp only; rw [hh2]; rfl
    have HB1 : Hid (Below w.heap.size w (w.alloc (.cells #[.string rh, .slice ao rb.length cap] 47))) := below1 w _
    generalize rb.length = n at *
    go_enter Tryz.func79, Tryz.ntmps79
    go_wp2_with fail
    refine (HC.out _ (HV.out.below HB1.out)).mono ?_
    rintro e w2 ⟨rfl, hb2⟩
    have HB2 := Lib.hid (HB1.out.trans (hb2.mono HB1.out.size))
    clear hb2
    go_wp2_with fail
    go_ret
    exact ⟨by rw [HB.out]; rfl, HB2.out⟩
set_option maxRecDepth 100000 in
set_option maxHeartbeats 1600000 in
theorem xLongIx_any (v : Value) (G : List Ru) (w : World) (h : RdRu w v G) (hl : G.length ≤ 140737488355328) (hn : nodesG G ≤ 16777216) :
    Calls Tryz.prog 101 #[v, .func (.func 79) #[] #[]] w fun e w' => ∃ r, e = .returned (.int .i64 r) ∧ Hid (SomeIx (G.any longR) r) ∧ Below w.heap.size w w' := by
  obtain ⟨P, rfl, hR⟩ := h
  have HR := Lib.hid hR
  have HN := Lib.hid hn
  obtain ⟨⟨_, ao, cap, rfl, -⟩, -⟩ := hR
  have hpl : P.length ≤ 140737488355328 := by rwa [List.length_map] at hl
  clear hn hl
  generalize hG : P.map (·.1) = G at *
  have HG := Lib.hid hG
  have HGL : Hid (G.length = P.length) := by unfold Hid; rw [← hG, List.length_map]
  clear hG
  go_enter Tryz.func101, Tryz.ntmps101
  go_wp2_with fail
  go_loopw [8] (fun i wr => ∃ j : Nat, j ≤ P.length ∧ i = .int .i64 j ∧ Hid (∀ q x, q < j → G[q]? = some x → longR x = false) ∧ Hid (Below w.heap.size w wr)) (fun i _ => P.length - (intOf i).toNat)
  case atStart => exact ⟨0, by omega, rfl, fun q x h => by omega, Below.refl _ _⟩
  case round =>
    obtain ⟨j, hj, rfl, HQ, HBel⟩ := hrel
    have hws := HBel.out.size
    by_cases hlt : j < P.length
    · obtain ⟨p, hp⟩ : ∃ p, P[j]? = some p := ⟨_, List.getElem?_eq_getElem hlt⟩
      obtain ⟨b, off, cp, e1, hb, hc, x0, x1, hrd⟩ := RdP.at HR.out hp
      simp only [Value.slice.injEq] at e1
      obtain ⟨rfl, -, rfl⟩ := e1
      have X0 := (HBel.out.cell (p := ⟨b, _, none⟩) hb).trans x0
      have X1 := (HBel.out.cell (p := ⟨b, _, none⟩) hb).trans x1
      have hbw : b < wr.heap.size := by omega
      have HGP : Hid (G[j]? = some p.1) := by unfold Hid; rw [← HG.out, List.getElem?_map, hp]; rfl
      have hmem := List.mem_of_getElem? HGP.out
      have hbn : p.1.b.length ≤ 16777216 := Nat.le_trans (body_le hmem) HN.out
      have HC := Lib.hid (xLongR_any p.1 p.2 wr (hrd.below HBel.out) hbn)
      obtain ⟨_, ao3, cp3, hv2, -⟩ := id hrd
      obtain ⟨⟨ph, pb⟩, pv⟩ := p
      simp only at hv2 X0 X1 HGP HC
      subst hv2
      clear x0 x1 hp hrd hbn hmem
      cases hd : longR ⟨ph, pb⟩ with
      | true =>
        rw [hd] at HC
        have HLg : Hid (SomeIx (G.any longR) j) := .inr ⟨by omega, List.any_eq_true.2 ⟨_, List.mem_of_getElem? HGP.out, hd⟩⟩
        clear hd
        go_wp2_with (go_at_call 79; refine (HC.out).mono ?_; rintro e w2 ⟨rfl, hb2⟩)
        go_ret
        exact ⟨_, rfl, HLg.out, HBel.out.trans (hb2.mono hws)⟩
      | false =>
        rw [hd] at HC
        have HQ2 : Hid (∀ q y, q < j + 1 → G[q]? = some y → longR y = false) := fun q y hq hy => by
          by_cases h : q = j
          · subst h; rw [HGP.out] at hy; injection hy with hy; subst hy; exact hd
          · exact HQ.out q y (by omega) hy
        clear hd
        go_wp2_with (go_at_call 79; refine (HC.out).mono ?_; rintro e w2 ⟨rfl, hb2⟩; have HB2 := Lib.hid hb2; clear hb2)
        go_roundw
        case rel => exact ⟨j + 1, by omega, by go_num, HQ2.out, HBel.out.trans (HB2.out.mono hws)⟩
        case measure => simp [intOf]; omega
    · have HLg : Hid (SomeIx (G.any longR) (-1)) := by
        refine .inl ⟨rfl, ?_⟩
        rw [List.any_eq_false]
        intro x hx
        obtain ⟨q, hq⟩ := List.getElem?_of_mem hx
        have := HQ.out q x (by have := (List.getElem?_eq_some_iff.1 hq).1; have := HGL.out; omega) hq
        simpa using this
      go_wp2_with fail
      go_ret
      exact ⟨_, rfl, HLg.out, HBel.out⟩
set_option maxRecDepth 100000 in
set_option maxHeartbeats 1600000 in
theorem xLongCo_any (v : Value) (G : List Ru) (w : World) (h : RdRu w v G) (hl : G.length ≤ 140737488355328) (hn : nodesG G ≤ 16777216) :
    Calls Tryz.prog 59 #[v, .func (.func 79) #[] #[]] w fun e w' => e = .returned (.bool (G.any longR)) ∧ Below w.heap.size w w' := by
  have HI := Lib.hid (xLongIx_any v G w h hl hn)
  obtain ⟨P, rfl, hR⟩ := h
  obtain ⟨⟨_, ao, cap, rfl, -⟩, -⟩ := hR
  generalize P.map (·.1) = G at *
  go_enter Tryz.func59, Tryz.ntmps59
  go_wp2_with fail
  refine (HI.out).mono ?_
  rintro e w1 ⟨r, rfl, HL, hb1⟩
  rcases HL.out with ⟨rfl, h2⟩ | ⟨h1, h2⟩
  · have H2 := Lib.hid h2
    clear h2 HL HI
    go_wp2_with fail
    go_ret
    exact ⟨by rw [H2.out]; rfl, hb1⟩
  · have H2 := Lib.hid h2
    clear h2 HL HI
    go_wp2_with fail
    go_ret
    exact ⟨by rw [H2.out]; simp, hb1⟩

set_option maxRecDepth 100000 in
set_option maxHeartbeats 1600000 in
theorem xLongG_any (v : Value) (G : List Ru) (w : World) (h : RdRu w v G) (hl : G.length ≤ 140737488355328) (hn : nodesG G ≤ 16777216) :
    Calls Tryz.prog 39 #[v] w fun e w' => e = .returned (.bool (longG G)) ∧ Below w.heap.size w w' := by
  have HI := Lib.hid (xLongCo_any v G w h hl hn)
  obtain ⟨P, rfl, hR⟩ := h
  obtain ⟨⟨_, ao, cap, rfl, -⟩, -⟩ := hR
  rw [longG_any]
  generalize P.map (·.1) = G at *
  go_enter Tryz.func39, Tryz.ntmps39
  go_wp2_with fail
  refine (HI.out).mono ?_
  rintro e w1 ⟨rfl, hb1⟩
  go_wp2_with fail
  go_ret
  exact ⟨rfl, hb1⟩
end Go.Proofs.YtkmjmfcanlknjaaGreat
namespace Go.Proofs.YtkmjmfcanlknjaaGreat
open Go.Shelf Go.RowKit
def bldRen : Go.Shelf.Ren := ⟨fun | 170 => 93 | 156 => 133 | 165 => 154 | 166 => 91 | 169 => 92 | 240 => 119 | 241 => 164 | 276 => 135 | 277 => 167 | n => n, fun | 31 => 40 | 9 => 9 | 3 => 3 | 4 => 4 | 0 => 0 | 20 => 20 | 72 => 119 | 76 => 123 | 70 => 116 | 37 => 117 | 75 => 122 | 127 => 148 | 164 => 164 | 5 => 5 | 80 => 125 | n => n, fun | n => n⟩
theorem bldW : Go.Proofs.Lays.n166 Tryz.prog Tryz.lays156_ren := {
  mixed := by kernel_rfl
  f166 := Tryz.func91.trans (congrArg some (by kernel_rfl))
  f240 := Tryz.func119.trans (congrArg some (by kernel_rfl))
  f276 := Tryz.func135.trans (congrArg some (by kernel_rfl))
  t0 := Tryz.underlying0
  a0 := Tryz.isAgg0
  z0 := Tryz.sizeOf0
  v0 := Tryz.zeroValue0
  t3 := Tryz.underlying3
  a3 := Tryz.isAgg3
  z3 := Tryz.sizeOf3
  v3 := Tryz.zeroValue3
  t4 := Tryz.underlying4
  a4 := Tryz.isAgg4
  z4 := Tryz.sizeOf4
  v4 := Tryz.zeroValue4
  t9 := Tryz.underlying9
  a9 := Tryz.isAgg9
  z9 := Tryz.sizeOf9
  v9 := Tryz.zeroValue9
  t20 := Tryz.underlying20
  a20 := Tryz.isAgg20
  z20 := Tryz.sizeOf20
  v20 := Tryz.zeroValue20
  t37 := Tryz.underlying117
  a37 := Tryz.isAgg117
  z37 := Tryz.sizeOf117
  v37 := Tryz.zeroValue117
  t70 := Tryz.underlying116
  a70 := Tryz.isAgg116
  z70 := Tryz.sizeOf116
  v70 := Tryz.zeroValue116
  t72 := Tryz.underlying119
  a72 := Tryz.isAgg119
  z72 := Tryz.sizeOf119
  v72 := Tryz.zeroValue119
  t75 := Tryz.underlying122
  a75 := Tryz.isAgg122
  z75 := Tryz.sizeOf122
  v75 := Tryz.zeroValue122
  t164 := Tryz.underlying164
  a164 := Tryz.isAgg164
  z164 := Tryz.sizeOf164
  v164 := Tryz.zeroValue164 }
theorem bldS : Go.Proofs.Lays.n169 Tryz.prog Tryz.lays156_ren := {
  mixed := by kernel_rfl
  f169 := Tryz.func92.trans (congrArg some (by kernel_rfl))
  t0 := Tryz.underlying0
  a0 := Tryz.isAgg0
  z0 := Tryz.sizeOf0
  v0 := Tryz.zeroValue0
  t3 := Tryz.underlying3
  a3 := Tryz.isAgg3
  z3 := Tryz.sizeOf3
  v3 := Tryz.zeroValue3
  t9 := Tryz.underlying9
  a9 := Tryz.isAgg9
  z9 := Tryz.sizeOf9
  v9 := Tryz.zeroValue9
  t37 := Tryz.underlying117
  a37 := Tryz.isAgg117
  z37 := Tryz.sizeOf117
  v37 := Tryz.zeroValue117
  t70 := Tryz.underlying116
  a70 := Tryz.isAgg116
  z70 := Tryz.sizeOf116
  v70 := Tryz.zeroValue116
  t72 := Tryz.underlying119
  a72 := Tryz.isAgg119
  z72 := Tryz.sizeOf119
  v72 := Tryz.zeroValue119
  t127 := Tryz.underlying148
  a127 := Tryz.isAgg148
  z127 := Tryz.sizeOf148
  v127 := Tryz.zeroValue148 }
theorem bldL : Go.Proofs.Lays.n170 Tryz.prog bldRen := {
  mixed := by kernel_rfl
  f170 := Tryz.func93.trans (congrArg some (by kernel_rfl))
  t0 := Tryz.underlying0
  a0 := Tryz.isAgg0
  z0 := Tryz.sizeOf0
  v0 := Tryz.zeroValue0
  t3 := Tryz.underlying3
  a3 := Tryz.isAgg3
  z3 := Tryz.sizeOf3
  v3 := Tryz.zeroValue3
  t37 := Tryz.underlying117
  a37 := Tryz.isAgg117
  z37 := Tryz.sizeOf117
  v37 := Tryz.zeroValue117
  t70 := Tryz.underlying116
  a70 := Tryz.isAgg116
  z70 := Tryz.sizeOf116
  v70 := Tryz.zeroValue116
  t72 := Tryz.underlying119
  a72 := Tryz.isAgg119
  z72 := Tryz.sizeOf119
  v72 := Tryz.zeroValue119 }
theorem bld_write (s : ByteArray) (w : World) (B b : Nat) (bs : List Value) (h : Lib.IsBuilder 119 5 B b bs w) (hlen : bs.length + s.size ≤ 140737488355328) (hBw : B ≤ w.heap.size) :
    Calls Tryz.prog 91 #[.pointer (some ⟨b, 0, none⟩), .string s] w fun e w' => e = .returned (.tuple #[.int .i64 s.size, .nilIface]) ∧ (Lib.BuilderAt 119 5 B b (.pointer (some ⟨b, 0, none⟩)) (bs ++ Lib.strCells s) w' ∧ Below B w w') :=
  Any.Builder_WriteString bldW Tryz.Builder_Extra_156 B b bs s w h hlen hBw
theorem bld_string (w : World) (B b : Nat) (s : ByteArray) (h : Lib.IsBuilder 119 5 B b (Lib.strCells s) w) (hBw : B ≤ w.heap.size) :
    Calls Tryz.prog 92 #[.pointer (some ⟨b, 0, none⟩)] w fun e w' => e = .returned (.string s) ∧ Lib.IsBuilderF 119 5 B b (Lib.strCells s) w' ∧ Below B w w' :=
  Any.Builder_String_any_f bldS Tryz.Builder_Extra_156 B b s.data.toList w (Lib.IsBuilderF.of h) hBw
theorem bld_len (w : World) (B b : Nat) (bs : List Value) (h : Lib.IsBuilderF 119 5 B b bs w) :
    Calls Tryz.prog 93 #[.pointer (some ⟨b, 0, none⟩)] w fun e w' => e = .returned (.int .i64 bs.length) ∧ w' = w :=
  Any.Builder_Len_f bldL B b bs w h
end Go.Proofs.YtkmjmfcanlknjaaGreat
namespace Go.Proofs.YtkmjmfcanlknjaaGreat
open Go.RowKit

/-! ### the occurrences -/
set_option maxRecDepth 100000 in
set_option maxHeartbeats 3200000 in
theorem xOccG_any (v : Value) (G : List Ru) (w : World) (h : RdRu w v G) (hl : LimG G) :
    Calls Tryz.prog 22 #[v] w fun e w' => e = .returned (.int .i64 (occG G)) ∧ Below w.heap.size w w' := by
  obtain ⟨P, rfl, hR⟩ := h
  have HR := Lib.hid hR
  have HL := Lib.hid hl
  obtain ⟨⟨_, ao, cap, rfl, -⟩, -⟩ := hR
  have hpl : P.length ≤ 4398046511104 := by have := hl.len; rwa [List.length_map] at this
  clear hl
  generalize hG : P.map (·.1) = G at *
  have HG := Lib.hid hG
  have HGL : Hid (G.length = P.length) := by unfold Hid; rw [← hG, List.length_map]
  clear hG
  have hle : Hid (∀ j, occG (G.take j) ≤ 4398046511104) := fun j => Nat.le_trans (occG_len _) (Nat.le_trans (nodesG_le G j) HL.out.nodes)
  go_enter Tryz.func22, Tryz.ntmps22
  go_wp2_with fail
  go_loopw [3, 8] (fun o i wr => ∃ j : Nat, i = .int .i64 j ∧ o = .int .i64 (occG (G.take j)) ∧ j ≤ P.length ∧ Hid (Below w.heap.size w wr)) (fun _ i _ => P.length - (intOf i).toNat)
  case atStart => exact ⟨0, rfl, rfl, by omega, Below.refl _ _⟩
  case round =>
    obtain ⟨j, rfl, rfl, hj, HBel⟩ := hrel
    have hws := HBel.out.size
    by_cases hlt : j < P.length
    · obtain ⟨p, hp⟩ : ∃ p, P[j]? = some p := ⟨_, List.getElem?_eq_getElem hlt⟩
      obtain ⟨b, off, cp, e1, hb, hc, x0, x1, hrd⟩ := RdP.at HR.out hp
      simp only [Value.slice.injEq] at e1
      obtain ⟨rfl, -, rfl⟩ := e1
      have X0 := (HBel.out.cell (p := ⟨b, _, none⟩) hb).trans x0
      have X1 := (HBel.out.cell (p := ⟨b, _, none⟩) hb).trans x1
      have hbw : b < wr.heap.size := by omega
      have HGP : Hid (G[j]? = some p.1) := by unfold Hid; rw [← HG.out, List.getElem?_map, hp]; rfl
      have hbl : p.1.b.length ≤ 4398046511104 := Nat.le_trans (body_le (List.mem_of_getElem? HGP.out)) HL.out.nodes
      have HC := Lib.hid (fun wx h => xOcc_any p.2 p.1.b wx h hbl)
      have HT := Lib.hid (occG_take G HGP.out)
      have h1 := hle.out j
      have h2 := hle.out (j + 1)
      rw [HT.out] at h2
      have HV := Lib.hid (hrd.below HBel.out)
      obtain ⟨_, ao3, cp3, hv2, -⟩ := id hrd
      obtain ⟨⟨ph, pb⟩, pv⟩ := p
      simp only at hv2 X0 X1 HGP HC HT HV h2
      subst hv2
      clear x0 x1 hp hrd hbl
      generalize (nmF pb 0).length = oc at *
      generalize occG (G.take j) = oj at *
      go_wp2_with (go_at_call 49; refine (HC.out _ (HV.out.below (below1 wr _))).mono ?_; rintro e w2 ⟨rfl, hb2⟩; have HB2 := Lib.hid (HBel.out.trans (((below1 wr _).trans (hb2.mono (by simp))).mono hws)); clear hb2)
      go_roundw
      case rel => exact ⟨j + 1, by go_num, by rw [HT.out]; simp, by omega, HB2.out⟩
      case measure => simp [intOf]; omega
    · obtain rfl : j = P.length := by omega
      have HE : Hid (occG (G.take P.length) = occG G) := by unfold Hid; rw [List.take_of_length_le (by have := HGL.out; omega)]
      go_wp2_with fail
      go_ret
      rw [HE.out]
      exact ⟨rfl, HBel.out⟩
/-! ### the text -/
theorem isB_below {T e : TypeId} {B b : Nat} {bs : List Value} {w w' : World} (h : Lib.IsBuilder T e B b bs w) (hb : Below w.heap.size w w') : Lib.IsBuilder T e B b bs w' := by
  have key : ∀ p, Lib.BuilderAt T e B b p bs w → Lib.BuilderAt T e B b p bs w' := by
    rintro p ⟨h1, v, h2, h3, h4⟩
    exact ⟨h1, v, (hb.block b (Lib.BuilderAt.lt ⟨h1, v, h2, h3, h4⟩)).trans h2, own_grown h3 (grown_below hb) (fun j hj => by cases hj), h4⟩
  exact h.elim (fun h => .inl (key _ h)) (fun h => .inr (key _ h))
theorem isB_lt {T e : TypeId} {B b : Nat} {bs : List Value} {w : World} (h : Lib.IsBuilder T e B b bs w) : b < w.heap.size := h.elim (·.lt) (·.lt)
theorem strCells_app (a b : ByteArray) : Lib.strCells (a ++ b) = Lib.strCells a ++ Lib.strCells b := by
  simp [Lib.strCells, ByteArray.data_append]
theorem strCells_len (a : ByteArray) : (Lib.strCells a).length = a.size := Lib.strCells_length a
/-- a body's printing: its text, or it is too wide -/
theorem prS_deep {N : List Nd} (ht : treeB N = true) (hd : ¬ 16 < heightN N) : (PrS N (textN N) 0 ∧ (textN N).size ≤ 2048) ∨ (∃ e, e ≠ 0 ∧ PrS N ⟨#[]⟩ e ∧ 2048 < (textN N).size) := by
  have hG := pickT_good ht
  have hh := heightN_eq hG
  have htx := textN_eq hG
  have hmin := good_min hG
  generalize (pickT N).1 = x at *
  generalize (pickT N).2 = k at *
  rw [htx]
  by_cases h1 : 2048 < (txN x k.tx).size
  · right
    by_cases h2 : 2048 < N.length
    · exact ⟨3, by omega, .inl ⟨by omega, .inl ⟨h2, rfl⟩, rfl⟩, h1⟩
    · exact ⟨174, by omega, .inl ⟨by omega, .inr (.inr ⟨by omega, x, k, hG, by unfold boundsF; rw [if_neg (by omega), if_pos h1]⟩), rfl⟩, h1⟩
  · left
    exact ⟨.inr ⟨rfl, by omega, x, k, hG, by unfold boundsF; rw [if_neg (by omega), if_neg h1], rfl⟩, by omega⟩
set_option maxRecDepth 100000 in
set_option maxHeartbeats 3200000 in
theorem xText_any (v : Value) (G : List Ru) (w : World) (h : RdRu w v G) (hl : G.length ≤ 64) (hn : nodesG G ≤ 16777216) (ht : treesB G = true) (hd : deepB G = false) :
    Calls Tryz.prog 44 #[v] w fun e w' => ∃ t, e = .returned (.tuple #[.string t, .bool (decide ((textG G).size ≤ 2048))]) ∧ ((textG G).size ≤ 2048 → t = textG G) ∧ Below w.heap.size w w' := by
  obtain ⟨P, rfl, hR⟩ := h
  have HR := Lib.hid hR
  have HTr := Lib.hid ht
  have HDp := Lib.hid hd
  have HN := Lib.hid hn
  obtain ⟨⟨_, ao, cap, rfl, -⟩, -⟩ := hR
  have hpl : P.length ≤ 64 := by rwa [List.length_map] at hl
  have hts := text_size _ ht
  rw [List.length_map] at hts
  have hts2 : (textG (P.map (·.1))).size ≤ 1099511627776 := by omega
  clear hl ht hd hn hts
  generalize hG : P.map (·.1) = G at *
  have HG := Lib.hid hG
  have HGL : Hid (G.length = P.length) := by unfold Hid; rw [← hG, List.length_map]
  clear hG
  have HTS := Lib.hid hts2
  clear hts2
  go_enter Tryz.func44, Tryz.ntmps44
  go_wp2_with fail
  go_loopw [11] (fun i wr => ∃ j : Nat, i = .int .i64 j ∧ j ≤ P.length ∧ Hid (Lib.IsBuilder 119 5 w.heap.size w.heap.size (Lib.strCells (textG (G.take j))) wr) ∧ Hid (Below w.heap.size w wr)) (fun i _ => P.length - (intOf i).toNat)
  case atStart => exact ⟨0, rfl, by omega, Lib.fresh_isBuilder _ _ w, below1 _ _⟩
  case round =>
    obtain ⟨j, rfl, hj, HBd, HBel⟩ := hrel
    have hws := HBel.out.size
    have hbw0 := isB_lt HBd.out
    by_cases hlt : j < P.length
    · obtain ⟨p, hp⟩ : ∃ p, P[j]? = some p := ⟨_, List.getElem?_eq_getElem hlt⟩
      obtain ⟨b, off, cp, e1, hb, hc, x0, x1, hrd⟩ := RdP.at HR.out hp
      simp only [Value.slice.injEq] at e1
      obtain ⟨rfl, -, rfl⟩ := e1
      have X0 := (HBel.out.cell (p := ⟨b, _, none⟩) hb).trans x0
      have X1 := (HBel.out.cell (p := ⟨b, _, none⟩) hb).trans x1
      have hbw : b < wr.heap.size := by omega
      have HGP : Hid (G[j]? = some p.1) := by unfold Hid; rw [← HG.out, List.getElem?_map, hp]; rfl
      have hmem := List.mem_of_getElem? HGP.out
      have hbl : p.1.b.length ≤ 4398046511104 := Nat.le_trans (body_le hmem) (by have := HN.out; omega)
      obtain ⟨hnm, htr⟩ := trees_mem HTr.out hmem
      have hdr : ¬ 16 < heightN p.1.b := by
        have h2 : (G.any fun r => decide (16 < heightN r.b)) = false := HDp.out
        rw [List.any_eq_false] at h2
        simpa using h2 _ hmem
      have HV := Lib.hid (hrd.below HBel.out)
      have HP := Lib.hid (fun t e wx h hS => xPrint_any p.2 p.1.b t e wx h hS hbl)
      have HT := Lib.hid (textG_take G HGP.out)
      have hle := textG_le G (j + 1)
      rw [HT.out, ByteArray.size_append] at hle
      have hru := rule_le G hmem
      have hsum : (textR p.1).size = p.1.h.size + 3 + (textN p.1.b).size + 3 := by
        unfold textR; rw [ByteArray.size_append, ByteArray.size_append, ByteArray.size_append]; rfl
      have htx := HTS.out
      have HTR : Hid (textR p.1 = p.1.h ++ (⟨#[32, 61, 32]⟩ : ByteArray) ++ textN p.1.b ++ (⟨#[32, 59, 10]⟩ : ByteArray)) := rfl
      obtain ⟨_, ao3, cp3, hv2, -⟩ := id hrd
      have hcase := prS_deep htr hdr
      obtain ⟨⟨ph, pb⟩, pv⟩ := p
      simp only at hv2 X0 X1 HGP HP HT HV hle hru hsum hcase HTR
      subst hv2
      clear x0 x1 hp hrd hbl hmem hnm htr hdr
      have HB1 : Hid (Below w.heap.size w (wr.alloc (.cells #[.string ph, .slice ao3 pb.length cp3] 47))) := HBel.out.alloc hws _
      have HBd1 : Hid (Lib.IsBuilder 119 5 w.heap.size w.heap.size (Lib.strCells (textG (G.take j))) (wr.alloc (.cells #[.string ph, .slice ao3 pb.length cp3] 47))) := isB_below HBd.out (below1 _ _)
      have HV1 : Hid (RdNd (wr.alloc (.cells #[.string ph, .slice ao3 pb.length cp3] 47)) (.slice ao3 pb.length cp3) pb) := HV.out.below (below1 _ _)
      have c0 : (wr.alloc (.cells #[.string ph, .slice ao3 pb.length cp3] 47)).cell? ⟨wr.heap.size, 0, none⟩ = some (.string ph) := by simp
      have hsz : wr.heap.size + 1 ≤ (wr.alloc (.cells #[.string ph, .slice ao3 pb.length cp3] 47)).heap.size := by simp
      go_wp2_with fail
      generalize wr.alloc (.cells #[.string ph, .slice ao3 pb.length cp3] 47) = w1 at *
      clear X0 X1 HBel HBd HV
      rcases hcase with ⟨hS, hw⟩ | ⟨e, he, hS, hw⟩
      · refine (HP.out _ _ _ HV1.out hS).mono ?_
        rintro en w2 ⟨rfl, hb2⟩
        have C0 := (hb2.cell (p := ⟨wr.heap.size, 0, none⟩) (by show wr.heap.size < w1.heap.size; omega)).trans c0
        have HB2 := Lib.hid (HB1.out.trans (hb2.mono HB1.out.size))
        have HBd2 := Lib.hid (isB_below HBd1.out hb2)
        have hw2 := hb2.size
        clear hb2 c0 hS HP
        have hcl : (Lib.strCells (textG (G.take j))).length = (textG (G.take j)).size := strCells_len _
        have HWS := Lib.hid (fun s hs => Go.Proofs.YtkmjmfcanlknjaaGreat.bld_write s w2 _ _ _ HBd2.out hs (by have := HB2.out.size; omega))
        generalize textN pb = tn at *
        have he1 : (⟨#[32, 61, 32]⟩ : ByteArray).size = 3 := rfl
        have he2 : (⟨#[32, 59, 10]⟩ : ByteArray).size = 3 := rfl
        go_wp2_with (go_at_call 91; refine (HWS.out _ (by rw [hcl, ByteArray.size_append, ByteArray.size_append, ByteArray.size_append, he1, he2]; omega)).mono ?_; rintro en w3 ⟨rfl, hbd3, hb3⟩; have HBd3 := Lib.hid hbd3; have HB3 := Lib.hid hb3; clear hbd3 hb3)
        go_roundw
        case rel =>
          refine ⟨j + 1, by go_num, by omega, ?_, HB2.out.trans HB3.out⟩
          have := HBd3.out
          unfold Hid
          rw [HT.out, HTR.out, strCells_app]
          exact .inr this
        case measure => simp [intOf]; omega
      · refine (HP.out _ _ _ HV1.out hS).mono ?_
        rintro en w2 ⟨rfl, hb2⟩
        have HB2 := Lib.hid (HB1.out.trans (hb2.mono HB1.out.size))
        have hbig : ¬ (textG G).size ≤ 2048 := by omega
        have hbd : decide ((textG G).size ≤ 2048) = false := by simpa using hbig
        have HD := Lib.hid hbd
        have HBg := Lib.hid hbig
        clear hb2 hS HP hbd hbig
        go_wp2_with fail
        go_ret2
        exact ⟨⟨#[]⟩, by rw [HD.out]; rfl, fun h => absurd h HBg.out, HB2.out⟩
    · obtain rfl : j = P.length := by omega
      have HE : Hid (G.take P.length = G) := by unfold Hid; rw [List.take_of_length_le (by have := HGL.out; omega)]
      rw [HE.out] at HBd
      have HS := Lib.hid (Go.Proofs.YtkmjmfcanlknjaaGreat.bld_string wr _ _ (textG G) HBd.out (by omega))
      have HLn := Lib.hid (fun wx h => Go.Proofs.YtkmjmfcanlknjaaGreat.bld_len wx w.heap.size w.heap.size (Lib.strCells (textG G)) h)
      have hcl : (Lib.strCells (textG G)).length = (textG G).size := strCells_len _
      have htx := HTS.out
      generalize (Lib.strCells (textG G)).length = ln at *
      have hd : decide (((textG G).size : Int) ≤ 2048) = decide ((textG G).size ≤ 2048) := by congr 1; simp; omega
      have HD := Lib.hid hd
      clear hd
      go_wp2_with fail
      refine (HS.out).mono ?_
      rintro en w2 ⟨rfl, hF, hb2⟩
      have HB2 := Lib.hid (HBel.out.trans hb2)
      have HF := Lib.hid hF
      clear hF hb2
      go_wp2_with fail
      refine (HLn.out _ HF.out).mono ?_
      rintro en w3 ⟨rfl, rfl⟩
      go_wp2_with fail
      go_ret2
      refine ⟨_, by rw [← HD.out]; rfl, fun _ => rfl, HB2.out⟩
end Go.Proofs.YtkmjmfcanlknjaaGreat
namespace Go.Proofs.YtkmjmfcanlknjaaGreat
open Go.RowKit

theorem any_bad (G : List Ru) : G.any badR = !treesB G := by
  unfold treesB
  induction G with
  | nil => rfl
  | cons r G ih => rw [List.any_cons, List.all_cons, ih, Bool.not_and]; rfl
theorem any_deep (G : List Ru) : G.any deepR = deepB G := rfl
def fnV (n : Nat) : Value := .func (.func n) #[] #[]
/-! ### the questions -/
set_option maxRecDepth 100000 in
set_option maxHeartbeats 1600000 in
theorem xQ0_any (v : Value) (G : List Ru) (w : World) (h : RdRu w v G) :
    Calls Tryz.prog 60 #[v] w fun e w' => e = .returned (.bool (ansQ G 0)) ∧ Below w.heap.size w w' := by
  obtain ⟨P, rfl, hR⟩ := h
  obtain ⟨⟨_, ao, cap, rfl, -⟩, -⟩ := hR
  have HA : Hid (ansQ (P.map (·.1)) 0 = decide (P.length < 1 ∨ 64 < P.length)) := by
    show decide ((P.map (·.1)).length < 1 ∨ 64 < (P.map (·.1)).length) = _
    rw [List.length_map]
  generalize ansQ (P.map (·.1)) 0 = q at *
  generalize P.length = n at *
  by_cases h1 : n < 1
  · go_enter Tryz.func60, Tryz.ntmps60
    go_wp2_with fail
    go_ret
    exact ⟨by rw [HA.out, decide_eq_true (.inl h1)]; rfl, Below.refl _ _⟩
  · have hd : decide (n < 1 ∨ 64 < n) = (decide ((n : Int) < 1) || decide ((64 : Int) < n)) := by rw [← Bool.decide_or, decide_eq_decide]; omega
    rw [hd] at HA
    clear hd
    go_enter Tryz.func60, Tryz.ntmps60
    go_wp2_with fail
    go_ret
    exact ⟨by rw [HA.out]; rfl, Below.refl _ _⟩
set_option maxRecDepth 100000 in
set_option maxHeartbeats 1600000 in
theorem xQ1_any (v : Value) (G : List Ru) (bx : Nat) (w : World) (h : RdRu w v G) (hl : G.length ≤ 140737488355328) (hn : nodesG G ≤ 16777216) (hx : w.cell? ⟨bx, 0, none⟩ = some (.func (.func 61) #[] #[])) :
    Calls Tryz.prog 58 #[v, .pointer (some ⟨bx, 0, none⟩)] w fun e w' => e = .returned (.bool (ansQ G 1)) ∧ Below w.heap.size w w' := by
  have HC := Lib.hid (xBadCo_any v G w h hl hn)
  have HA : Hid (ansQ G 1 = G.any badR) := (any_bad G).symm
  obtain ⟨P, rfl, hR⟩ := h
  obtain ⟨⟨_, ao, cap, rfl, -⟩, -⟩ := hR
  clear hn hl
  generalize P.map (·.1) = G at *
  go_enter Tryz.func58, Tryz.ntmps58
  go_wp2_with fail
  refine (HC.out).mono ?_
  rintro e w2 ⟨rfl, hb2⟩
  go_wp2_with fail
  go_ret
  exact ⟨by rw [HA.out]; rfl, hb2⟩
set_option maxRecDepth 100000 in
set_option maxHeartbeats 1600000 in
theorem xQ5_any (v : Value) (G : List Ru) (bx : Nat) (w : World) (h : RdRu w v G) (hl : G.length ≤ 140737488355328) (hn : nodesG G ≤ 16777216) (ht : treesB G = true) (hx : w.cell? ⟨bx, 0, none⟩ = some (.func (.func 68) #[] #[])) :
    Calls Tryz.prog 58 #[v, .pointer (some ⟨bx, 0, none⟩)] w fun e w' => e = .returned (.bool (ansQ G 5)) ∧ Below w.heap.size w w' := by
  have HC := Lib.hid (xDpCo_any v G w h hl hn ht)
  have HA : Hid (ansQ G 5 = G.any deepR) := rfl
  obtain ⟨P, rfl, hR⟩ := h
  obtain ⟨⟨_, ao, cap, rfl, -⟩, -⟩ := hR
  clear hn hl ht
  generalize P.map (·.1) = G at *
  go_enter Tryz.func58, Tryz.ntmps58
  go_wp2_with fail
  refine (HC.out).mono ?_
  rintro e w2 ⟨rfl, hb2⟩
  go_wp2_with fail
  go_ret
  exact ⟨by rw [HA.out]; rfl, hb2⟩
set_option maxRecDepth 100000 in
set_option maxHeartbeats 1600000 in
theorem xQ2_any (v : Value) (G : List Ru) (w : World) (h : RdRu w v G) (hl : LimG G) :
    Calls Tryz.prog 64 #[v] w fun e w' => e = .returned (.bool (ansQ G 2)) ∧ Below w.heap.size w w' := by
  have H1 := Lib.hid (xHeads_any v G w h hl)
  have H2 := Lib.hid (fun w h => xMissing_any v G w h hl)
  have HV := Lib.hid h
  have hm : missing G ≤ 4398046511104 := by
    unfold missing
    exact Nat.le_trans (List.length_filter_le _ _) (Nat.le_trans (used_len 2 G) hl.nodes)
  have hh : (heads G).length ≤ 4398046511104 := Nat.le_trans (heads_len G) hl.len
  have HA : Hid (ansQ G 2 = decide (16 < (heads G).length + missing G)) := rfl
  obtain ⟨P, rfl, hR⟩ := h
  obtain ⟨⟨_, ao, cap, rfl, -⟩, -⟩ := hR
  clear hl
  generalize P.map (·.1) = G at *
  generalize ansQ G 2 = q at *
  go_enter Tryz.func64, Tryz.ntmps64
  go_wp2_with fail
  refine (H1.out).mono ?_
  rintro e w1 ⟨v1, rfl, ho1, hb1⟩
  obtain ⟨ao1, cp1, rfl⟩ := own_str_shape ho1
  have HB1 := Lib.hid hb1
  clear ho1 hb1
  generalize (heads G).length = nh at *
  go_wp2_with fail
  refine (H2.out _ (HV.out.below HB1.out)).mono ?_
  rintro e w2 ⟨rfl, hb2⟩
  have HB2 := Lib.hid (HB1.out.trans (hb2.mono HB1.out.size))
  clear hb2
  generalize missing G = nm at *
  go_wp2_with fail
  go_ret
  exact ⟨by rw [HA.out]; congr 1; simp; omega, HB2.out⟩
set_option maxRecDepth 100000 in
set_option maxHeartbeats 1600000 in
theorem xQ3_any (v : Value) (G : List Ru) (w : World) (h : RdRu w v G) (hl : LimG G) :
    Calls Tryz.prog 66 #[v] w fun e w' => e = .returned (.bool (ansQ G 3)) ∧ Below w.heap.size w w' := by
  have H1 := Lib.hid (xLabels_any v G w h hl)
  have hh : (used 3 G).length ≤ 4398046511104 := Nat.le_trans (used_len 3 G) hl.nodes
  have HA : Hid (ansQ G 3 = decide (16 < (used 3 G).length)) := rfl
  obtain ⟨P, rfl, hR⟩ := h
  obtain ⟨⟨_, ao, cap, rfl, -⟩, -⟩ := hR
  clear hl
  generalize P.map (·.1) = G at *
  generalize ansQ G 3 = q at *
  go_enter Tryz.func66, Tryz.ntmps66
  go_wp2_with fail
  refine (H1.out).mono ?_
  rintro e w1 ⟨v1, rfl, ho1, hb1⟩
  obtain ⟨ao1, cp1, rfl⟩ := own_str_shape ho1
  have HB1 := Lib.hid hb1
  clear ho1 hb1
  generalize (used 3 G).length = nh at *
  go_wp2_with fail
  go_ret
  exact ⟨by rw [HA.out]; congr 1; simp; omega, HB1.out⟩
set_option maxRecDepth 100000 in
set_option maxHeartbeats 1600000 in
theorem xQ4_any (v : Value) (G : List Ru) (w : World) (h : RdRu w v G) (hl : LimG G) :
    Calls Tryz.prog 67 #[v] w fun e w' => e = .returned (.bool (ansQ G 4)) ∧ Below w.heap.size w w' := by
  have H1 := Lib.hid (xOccG_any v G w h hl)
  have HA : Hid (ansQ G 4 = decide (64 < occG G)) := rfl
  obtain ⟨P, rfl, hR⟩ := h
  obtain ⟨⟨_, ao, cap, rfl, -⟩, -⟩ := hR
  clear hl
  generalize P.map (·.1) = G at *
  generalize ansQ G 4 = q at *
  generalize occG G = oc at *
  go_enter Tryz.func67, Tryz.ntmps67
  go_wp2_with fail
  refine (H1.out).mono ?_
  rintro e w1 ⟨rfl, hb1⟩
  go_wp2_with fail
  go_ret
  exact ⟨by rw [HA.out]; congr 1; simp; omega, hb1⟩
set_option maxRecDepth 100000 in
set_option maxHeartbeats 1600000 in
theorem xQ6_any (v : Value) (G : List Ru) (w : World) (h : RdRu w v G) (hl : LimG G) :
    Calls Tryz.prog 69 #[v] w fun e w' => e = .returned (.bool (ansQ G 6)) ∧ Below w.heap.size w w' := by
  have H1 := Lib.hid (xMissing_any v G w h hl)
  have HA : Hid (ansQ G 6 = decide (0 < missing G)) := rfl
  obtain ⟨P, rfl, hR⟩ := h
  obtain ⟨⟨_, ao, cap, rfl, -⟩, -⟩ := hR
  clear hl
  generalize P.map (·.1) = G at *
  generalize ansQ G 6 = q at *
  generalize missing G = oc at *
  go_enter Tryz.func69, Tryz.ntmps69
  go_wp2_with fail
  refine (H1.out).mono ?_
  rintro e w1 ⟨rfl, hb1⟩
  go_wp2_with fail
  go_ret
  exact ⟨by rw [HA.out]; first | rfl | (congr 1; simp), hb1⟩
set_option maxRecDepth 100000 in
set_option maxHeartbeats 1600000 in
theorem xQ7_any (v : Value) (G : List Ru) (w : World) (h : RdRu w v G) (hl : G.length ≤ 64) (hn : nodesG G ≤ 16777216) (ht : treesB G = true) (hd : deepB G = false) :
    Calls Tryz.prog 70 #[v] w fun e w' => e = .returned (.bool (ansQ G 7)) ∧ Below w.heap.size w w' := by
  have H1 := Lib.hid (xText_any v G w h hl hn ht hd)
  have HA : Hid (ansQ G 7 = !decide ((textG G).size ≤ 2048)) := by
    show decide (2048 < (textG G).size) = _
    rw [← decide_not, decide_eq_decide]; omega
  obtain ⟨P, rfl, hR⟩ := h
  obtain ⟨⟨_, ao, cap, rfl, -⟩, -⟩ := hR
  clear hl hn ht hd
  generalize P.map (·.1) = G at *
  generalize ansQ G 7 = q at *
  generalize textG G = tx at *
  go_enter Tryz.func70, Tryz.ntmps70
  go_wp2_with fail
  refine (H1.out).mono ?_
  rintro e w1 ⟨t, rfl, -, hb1⟩
  go_wp2_with fail
  go_ret
  exact ⟨by rw [HA.out]; rfl, hb1⟩
/-! ### the list of the questions -/
set_option maxRecDepth 100000 in
set_option maxHeartbeats 1600000 in
theorem xOrder1_any (g : Nat) (w : World) :
    Calls Tryz.prog 57 #[.func (.func g) #[] #[]] w fun e w' => e = .returned (.func (.func 58) #[] #[.pointer (some ⟨w.heap.size, 0, none⟩)]) ∧ w' = w.alloc (.cells #[.func (.func g) #[] #[]] 88) := by
  go_enter Tryz.func57, Tryz.ntmps57
  go_wp2_with fail
  go_ret
  exact ⟨rfl, rfl⟩
def orderV (B : Nat) : List Value :=
  [.func (.func 60) #[] #[], .int .i64 180, .func (.func 58) #[] #[.pointer (some ⟨B, 0, none⟩)], .int .i64 170,
   .func (.func 64) #[] #[], .int .i64 181, .func (.func 66) #[] #[], .int .i64 182,
   .func (.func 67) #[] #[], .int .i64 183, .func (.func 58) #[] #[.pointer (some ⟨B + 1, 0, none⟩)], .int .i64 171,
   .func (.func 69) #[] #[], .int .i64 184, .func (.func 70) #[] #[], .int .i64 174]
theorem new_cells0 (w : World) (xs : List Value) (t : TypeId) (B C : Obj) (j : Nat) (u : Value) (h : xs[j]? = some u) : (((w.alloc (.cells xs.toArray t)).alloc B).alloc C).cell? ⟨w.heap.size, j, none⟩ = some u := by
  have h1 : (w.alloc (.cells xs.toArray t)).cell? ⟨w.heap.size, j, none⟩ = some u := by have := cells_new w xs t j u h; rwa [Addr.add_lit, Nat.zero_add] at this
  exact ((below2 _ B C).cell (p := ⟨w.heap.size, j, none⟩) (by simp)).trans h1
theorem new_cells1 (w : World) (A : Obj) (xs : List Value) (t : TypeId) (C : Obj) (j : Nat) (u : Value) (h : xs[j]? = some u) : (((w.alloc A).alloc (.cells xs.toArray t)).alloc C).cell? ⟨w.heap.size + 1, j, none⟩ = some u := by
  have h1 : ((w.alloc A).alloc (.cells xs.toArray t)).cell? ⟨w.heap.size + 1, j, none⟩ = some u := by have := cells_new (w.alloc A) xs t j u h; rw [Addr.add_lit, Nat.zero_add] at this; simpa using this
  exact ((below1 _ C).cell (p := ⟨w.heap.size + 1, j, none⟩) (by simp)).trans h1
theorem new_cells2 (w : World) (A B : Obj) (xs : List Value) (t : TypeId) (j : Nat) (u : Value) (h : xs[j]? = some u) : (((w.alloc A).alloc B).alloc (.cells xs.toArray t)).cell? ⟨w.heap.size + 2, j, none⟩ = some u := by
  have := cells_new ((w.alloc A).alloc B) xs t j u h
  rw [Addr.add_lit, Nat.zero_add] at this
  simpa using this
structure Asks (w w' : World) : Prop where
  below : Below w.heap.size w w'
  size : w.heap.size + 2 < w'.heap.size
  b0 : w'.cell? ⟨w.heap.size, 0, none⟩ = some (.func (.func 61) #[] #[])
  b1 : w'.cell? ⟨w.heap.size + 1, 0, none⟩ = some (.func (.func 68) #[] #[])
  at_ : ∀ j u, (orderV w.heap.size)[j]? = some u → w'.cell? ⟨w.heap.size + 2, j, none⟩ = some u
set_option maxRecDepth 100000 in
set_option maxHeartbeats 1600000 in
theorem xOrder_any (w : World) :
    Calls Tryz.prog 30 #[] w fun e w' => e = .returned (.slice (some ⟨w.heap.size + 2, 0, none⟩) 8 8) ∧ Asks w w' := by
  go_enter Tryz.func30, Tryz.ntmps30
  go_wp2_with (go_at_call 57; refine (xOrder1_any _ _).mono ?_; rintro e w1 ⟨rfl, rfl⟩)
  go_ret
  refine ⟨by simp, ?_⟩
  exact ⟨below3 _ _ _ _, by simp, new_cells0 w [.func (.func 61) #[] #[]] _ _ _ 0 _ rfl, new_cells1 w _ [.func (.func 68) #[] #[]] _ _ 0 _ rfl, fun j u hj => new_cells2 w _ _ (orderV w.heap.size) _ j u hj⟩
end Go.Proofs.YtkmjmfcanlknjaaGreat
namespace Go.Proofs.YtkmjmfcanlknjaaGreat
open Go.RowKit

theorem order_len (B : Nat) : (orderV B).length = 16 := rfl
theorem none_lim {G : List Ru} {j : Nat} (h : NoneQ G j) (hj : 1 ≤ j) : ¬ (G.length < 1 ∨ 64 < G.length) := by simpa [ansQ] using h 0 hj
theorem none_trees {G : List Ru} {j : Nat} (h : NoneQ G j) (hj : 2 ≤ j) : treesB G = true := by simpa [ansQ] using h 1 hj
theorem none_deep {G : List Ru} {j : Nat} (h : NoneQ G j) (hj : 6 ≤ j) : deepB G = false := h 5 hj

set_option maxRecDepth 100000 in
set_option maxHeartbeats 6400000 in
theorem xCheckG_any (v : Value) (G : List Ru) (w : World) (h : RdRu w v G) (hl : LimG G) (hn : nodesG G ≤ 16777216) :
    Calls Tryz.prog 11 #[v] w fun e w' => e = .returned (.int .i64 (checkG G)) ∧ Below w.heap.size w w' := by
  have HV := Lib.hid h
  have HO := Lib.hid (xOrder_any w)
  have H0 := Lib.hid (fun w h => xQ0_any v G w h)
  have H1 := Lib.hid (fun bx w h hx => xQ1_any v G bx w h (by have := hl.len; omega) hn hx)
  have H2 := Lib.hid (fun w h => xQ2_any v G w h hl)
  have H3 := Lib.hid (fun w h => xQ3_any v G w h hl)
  have H4 := Lib.hid (fun w h => xQ4_any v G w h hl)
  have H5 := Lib.hid (fun bx w h ht hx => xQ5_any v G bx w h (by have := hl.len; omega) hn ht hx)
  have H6 := Lib.hid (fun w h => xQ6_any v G w h hl)
  have H7 := Lib.hid (fun w h hl ht hd => xQ7_any v G w h hl hn ht hd)
  obtain ⟨P, rfl, hR⟩ := h
  obtain ⟨⟨_, ao, cap, rfl, -⟩, -⟩ := hR
  clear hl hn
  generalize P.map (·.1) = G at *
  go_enter Tryz.func11, Tryz.ntmps11
  go_wp2_with fail
  refine (HO.out).mono ?_
  rintro e w1 ⟨rfl, hA⟩
  have HB1 := Lib.hid hA.below
  have hs1 := hA.size
  have HB0 := Lib.hid hA.b0
  have HBx := Lib.hid hA.b1
  have HAt := Lib.hid hA.at_
  clear hA
  generalize hB : w.heap.size = B at *
  go_wp2_with fail
  go_loopw [7] (fun i wr => ∃ j : Nat, i = .int .i64 j ∧ j ≤ 8 ∧ Hid (NoneQ G j) ∧ Hid (Below w1.heap.size w1 wr)) (fun i _ => 8 - (intOf i).toNat)
  case atStart => exact ⟨0, rfl, by omega, fun i hi => by omega, Below.refl _ _⟩
  case round =>
    obtain ⟨j, rfl, hj, HN, HBel⟩ := hrel
    have hws := HBel.out.size
    by_cases hlt : j < 8
    · have HVr : Hid (RdRu wr (.slice ao P.length cap) G) := HV.out.below (by rw [hB]; exact HB1.out.trans (HBel.out.mono (by omega)))
      have cell : ∀ (q : Nat) (u : Value), (orderV B)[q]? = some u → wr.cell? ⟨B + 2, q, none⟩ = some u := fun q u hq => (HBel.out.cell (p := ⟨B + 2, q, none⟩) (by show B + 2 < w1.heap.size; omega)).trans (HAt.out q u hq)
      have b0 := (HBel.out.cell (p := ⟨B, 0, none⟩) (by show B < w1.heap.size; omega)).trans HB0.out
      have b1 := (HBel.out.cell (p := ⟨B + 1, 0, none⟩) (by show B + 1 < w1.heap.size; omega)).trans HBx.out
      have hj8 : j = 0 ∨ j = 1 ∨ j = 2 ∨ j = 3 ∨ j = 4 ∨ j = 5 ∨ j = 6 ∨ j = 7 := by omega
      rcases hj8 with rfl | rfl | rfl | rfl | rfl | rfl | rfl | rfl
      · have x0 := cell 0 _ rfl
        have x1 := cell 1 _ rfl
        have HQ : Hid (∀ wx, Below wr.heap.size wr wx → Calls Tryz.prog 60 #[.slice ao P.length cap] wx fun e w' => e = .returned (.bool (ansQ G 0)) ∧ Below wx.heap.size wx w') := fun wx hb => by
          have h := HVr.out.below hb
          exact H0.out wx h
        have c1 : (wr.alloc (.cells #[.func (.func 60) #[] #[], .int .i64 180] 53)).cell? ⟨wr.heap.size, 1, none⟩ = some (.int .i64 180) := by simp
        have hb1 : Below wr.heap.size wr (wr.alloc (.cells #[.func (.func 60) #[] #[], .int .i64 180] 53)) := below1 _ _
        have hsz : wr.heap.size + 1 ≤ (wr.alloc (.cells #[.func (.func 60) #[] #[], .int .i64 180] 53)).heap.size := by simp
        clear b0 b1 cell HVr
        cases ha : ansQ G 0 with
        | true =>
          rw [ha] at HQ
          have HE : Hid (checkG G = 180) := check_first G 0 (by omega) HN.out ha
          clear ha
          go_wp2_with fail
          generalize (wr.alloc (.cells #[.func (.func 60) #[] #[], .int .i64 180] 53)) = w2 at *
          clear x0 x1
          refine (HQ.out _ hb1).mono ?_
          rintro e w3 ⟨rfl, hb3⟩
          have C1 := (hb3.cell (p := ⟨wr.heap.size, 1, none⟩) (by show wr.heap.size < w2.heap.size; omega)).trans c1
          have HB3 := Lib.hid (HBel.out.trans ((hb1.trans (hb3.mono hb1.size)).mono hws))
          clear hb3 c1
          go_wp2_with fail
          go_ret
          exact ⟨by rw [HE.out]; rfl, by rw [hB]; exact HB1.out.trans (HB3.out.mono (by omega))⟩
        | false =>
          rw [ha] at HQ
          have HN2 := Lib.hid (HN.out.snoc ha)
          clear ha
          go_wp2_with fail
          generalize (wr.alloc (.cells #[.func (.func 60) #[] #[], .int .i64 180] 53)) = w2 at *
          clear x0 x1
          refine (HQ.out _ hb1).mono ?_
          rintro e w3 ⟨rfl, hb3⟩
          have HB3 := Lib.hid (HBel.out.trans ((hb1.trans (hb3.mono hb1.size)).mono hws))
          clear hb3 c1
          go_wp2_with fail
          go_roundw
          case rel => exact ⟨1, by go_num, by omega, HN2.out, HB3.out⟩
          case measure => simp [intOf]
      · have x0 := cell 2 _ rfl
        have x1 := cell 3 _ rfl
        have HQ : Hid (∀ wx, Below wr.heap.size wr wx → Calls Tryz.prog 58 #[.slice ao P.length cap, .pointer (some ⟨B, 0, none⟩)] wx fun e w' => e = .returned (.bool (ansQ G 1)) ∧ Below wx.heap.size wx w') := fun wx hb => by
          have h := HVr.out.below hb
          exact H1.out B wx h ((hb.cell (p := ⟨B, 0, none⟩) (by show B < wr.heap.size; omega)).trans b0)
        have c1 : (wr.alloc (.cells #[.func (.func 58) #[] #[.pointer (some ⟨B, 0, none⟩)], .int .i64 170] 53)).cell? ⟨wr.heap.size, 1, none⟩ = some (.int .i64 170) := by simp
        have hb1 : Below wr.heap.size wr (wr.alloc (.cells #[.func (.func 58) #[] #[.pointer (some ⟨B, 0, none⟩)], .int .i64 170] 53)) := below1 _ _
        have hsz : wr.heap.size + 1 ≤ (wr.alloc (.cells #[.func (.func 58) #[] #[.pointer (some ⟨B, 0, none⟩)], .int .i64 170] 53)).heap.size := by simp
        clear b0 b1 cell HVr
        cases ha : ansQ G 1 with
        | true =>
          rw [ha] at HQ
          have HE : Hid (checkG G = 170) := check_first G 1 (by omega) HN.out ha
          clear ha
          go_wp2_with fail
          generalize (wr.alloc (.cells #[.func (.func 58) #[] #[.pointer (some ⟨B, 0, none⟩)], .int .i64 170] 53)) = w2 at *
          clear x0 x1
          refine (HQ.out _ hb1).mono ?_
          rintro e w3 ⟨rfl, hb3⟩
          have C1 := (hb3.cell (p := ⟨wr.heap.size, 1, none⟩) (by show wr.heap.size < w2.heap.size; omega)).trans c1
          have HB3 := Lib.hid (HBel.out.trans ((hb1.trans (hb3.mono hb1.size)).mono hws))
          clear hb3 c1
          go_wp2_with fail
          go_ret
          exact ⟨by rw [HE.out]; rfl, by rw [hB]; exact HB1.out.trans (HB3.out.mono (by omega))⟩
        | false =>
          rw [ha] at HQ
          have HN2 := Lib.hid (HN.out.snoc ha)
          clear ha
          go_wp2_with fail
          generalize (wr.alloc (.cells #[.func (.func 58) #[] #[.pointer (some ⟨B, 0, none⟩)], .int .i64 170] 53)) = w2 at *
          clear x0 x1
          refine (HQ.out _ hb1).mono ?_
          rintro e w3 ⟨rfl, hb3⟩
          have HB3 := Lib.hid (HBel.out.trans ((hb1.trans (hb3.mono hb1.size)).mono hws))
          clear hb3 c1
          go_wp2_with fail
          go_roundw
          case rel => exact ⟨2, by go_num, by omega, HN2.out, HB3.out⟩
          case measure => simp [intOf]
      · have x0 := cell 4 _ rfl
        have x1 := cell 5 _ rfl
        have HQ : Hid (∀ wx, Below wr.heap.size wr wx → Calls Tryz.prog 64 #[.slice ao P.length cap] wx fun e w' => e = .returned (.bool (ansQ G 2)) ∧ Below wx.heap.size wx w') := fun wx hb => by
          have h := HVr.out.below hb
          exact H2.out wx h
        have c1 : (wr.alloc (.cells #[.func (.func 64) #[] #[], .int .i64 181] 53)).cell? ⟨wr.heap.size, 1, none⟩ = some (.int .i64 181) := by simp
        have hb1 : Below wr.heap.size wr (wr.alloc (.cells #[.func (.func 64) #[] #[], .int .i64 181] 53)) := below1 _ _
        have hsz : wr.heap.size + 1 ≤ (wr.alloc (.cells #[.func (.func 64) #[] #[], .int .i64 181] 53)).heap.size := by simp
        clear b0 b1 cell HVr
        cases ha : ansQ G 2 with
        | true =>
          rw [ha] at HQ
          have HE : Hid (checkG G = 181) := check_first G 2 (by omega) HN.out ha
          clear ha
          go_wp2_with fail
          generalize (wr.alloc (.cells #[.func (.func 64) #[] #[], .int .i64 181] 53)) = w2 at *
          clear x0 x1
          refine (HQ.out _ hb1).mono ?_
          rintro e w3 ⟨rfl, hb3⟩
          have C1 := (hb3.cell (p := ⟨wr.heap.size, 1, none⟩) (by show wr.heap.size < w2.heap.size; omega)).trans c1
          have HB3 := Lib.hid (HBel.out.trans ((hb1.trans (hb3.mono hb1.size)).mono hws))
          clear hb3 c1
          go_wp2_with fail
          go_ret
          exact ⟨by rw [HE.out]; rfl, by rw [hB]; exact HB1.out.trans (HB3.out.mono (by omega))⟩
        | false =>
          rw [ha] at HQ
          have HN2 := Lib.hid (HN.out.snoc ha)
          clear ha
          go_wp2_with fail
          generalize (wr.alloc (.cells #[.func (.func 64) #[] #[], .int .i64 181] 53)) = w2 at *
          clear x0 x1
          refine (HQ.out _ hb1).mono ?_
          rintro e w3 ⟨rfl, hb3⟩
          have HB3 := Lib.hid (HBel.out.trans ((hb1.trans (hb3.mono hb1.size)).mono hws))
          clear hb3 c1
          go_wp2_with fail
          go_roundw
          case rel => exact ⟨3, by go_num, by omega, HN2.out, HB3.out⟩
          case measure => simp [intOf]
      · have x0 := cell 6 _ rfl
        have x1 := cell 7 _ rfl
        have HQ : Hid (∀ wx, Below wr.heap.size wr wx → Calls Tryz.prog 66 #[.slice ao P.length cap] wx fun e w' => e = .returned (.bool (ansQ G 3)) ∧ Below wx.heap.size wx w') := fun wx hb => by
          have h := HVr.out.below hb
          exact H3.out wx h
        have c1 : (wr.alloc (.cells #[.func (.func 66) #[] #[], .int .i64 182] 53)).cell? ⟨wr.heap.size, 1, none⟩ = some (.int .i64 182) := by simp
        have hb1 : Below wr.heap.size wr (wr.alloc (.cells #[.func (.func 66) #[] #[], .int .i64 182] 53)) := below1 _ _
        have hsz : wr.heap.size + 1 ≤ (wr.alloc (.cells #[.func (.func 66) #[] #[], .int .i64 182] 53)).heap.size := by simp
        clear b0 b1 cell HVr
        cases ha : ansQ G 3 with
        | true =>
          rw [ha] at HQ
          have HE : Hid (checkG G = 182) := check_first G 3 (by omega) HN.out ha
          clear ha
          go_wp2_with fail
          generalize (wr.alloc (.cells #[.func (.func 66) #[] #[], .int .i64 182] 53)) = w2 at *
          clear x0 x1
          refine (HQ.out _ hb1).mono ?_
          rintro e w3 ⟨rfl, hb3⟩
          have C1 := (hb3.cell (p := ⟨wr.heap.size, 1, none⟩) (by show wr.heap.size < w2.heap.size; omega)).trans c1
          have HB3 := Lib.hid (HBel.out.trans ((hb1.trans (hb3.mono hb1.size)).mono hws))
          clear hb3 c1
          go_wp2_with fail
          go_ret
          exact ⟨by rw [HE.out]; rfl, by rw [hB]; exact HB1.out.trans (HB3.out.mono (by omega))⟩
        | false =>
          rw [ha] at HQ
          have HN2 := Lib.hid (HN.out.snoc ha)
          clear ha
          go_wp2_with fail
          generalize (wr.alloc (.cells #[.func (.func 66) #[] #[], .int .i64 182] 53)) = w2 at *
          clear x0 x1
          refine (HQ.out _ hb1).mono ?_
          rintro e w3 ⟨rfl, hb3⟩
          have HB3 := Lib.hid (HBel.out.trans ((hb1.trans (hb3.mono hb1.size)).mono hws))
          clear hb3 c1
          go_wp2_with fail
          go_roundw
          case rel => exact ⟨4, by go_num, by omega, HN2.out, HB3.out⟩
          case measure => simp [intOf]
      · have x0 := cell 8 _ rfl
        have x1 := cell 9 _ rfl
        have HQ : Hid (∀ wx, Below wr.heap.size wr wx → Calls Tryz.prog 67 #[.slice ao P.length cap] wx fun e w' => e = .returned (.bool (ansQ G 4)) ∧ Below wx.heap.size wx w') := fun wx hb => by
          have h := HVr.out.below hb
          exact H4.out wx h
        have c1 : (wr.alloc (.cells #[.func (.func 67) #[] #[], .int .i64 183] 53)).cell? ⟨wr.heap.size, 1, none⟩ = some (.int .i64 183) := by simp
        have hb1 : Below wr.heap.size wr (wr.alloc (.cells #[.func (.func 67) #[] #[], .int .i64 183] 53)) := below1 _ _
        have hsz : wr.heap.size + 1 ≤ (wr.alloc (.cells #[.func (.func 67) #[] #[], .int .i64 183] 53)).heap.size := by simp
        clear b0 b1 cell HVr
        cases ha : ansQ G 4 with
        | true =>
          rw [ha] at HQ
          have HE : Hid (checkG G = 183) := check_first G 4 (by omega) HN.out ha
          clear ha
          go_wp2_with fail
          generalize (wr.alloc (.cells #[.func (.func 67) #[] #[], .int .i64 183] 53)) = w2 at *
          clear x0 x1
          refine (HQ.out _ hb1).mono ?_
          rintro e w3 ⟨rfl, hb3⟩
          have C1 := (hb3.cell (p := ⟨wr.heap.size, 1, none⟩) (by show wr.heap.size < w2.heap.size; omega)).trans c1
          have HB3 := Lib.hid (HBel.out.trans ((hb1.trans (hb3.mono hb1.size)).mono hws))
          clear hb3 c1
          go_wp2_with fail
          go_ret
          exact ⟨by rw [HE.out]; rfl, by rw [hB]; exact HB1.out.trans (HB3.out.mono (by omega))⟩
        | false =>
          rw [ha] at HQ
          have HN2 := Lib.hid (HN.out.snoc ha)
          clear ha
          go_wp2_with fail
          generalize (wr.alloc (.cells #[.func (.func 67) #[] #[], .int .i64 183] 53)) = w2 at *
          clear x0 x1
          refine (HQ.out _ hb1).mono ?_
          rintro e w3 ⟨rfl, hb3⟩
          have HB3 := Lib.hid (HBel.out.trans ((hb1.trans (hb3.mono hb1.size)).mono hws))
          clear hb3 c1
          go_wp2_with fail
          go_roundw
          case rel => exact ⟨5, by go_num, by omega, HN2.out, HB3.out⟩
          case measure => simp [intOf]
      · have x0 := cell 10 _ rfl
        have x1 := cell 11 _ rfl
        have HQ : Hid (∀ wx, Below wr.heap.size wr wx → Calls Tryz.prog 58 #[.slice ao P.length cap, .pointer (some ⟨B + 1, 0, none⟩)] wx fun e w' => e = .returned (.bool (ansQ G 5)) ∧ Below wx.heap.size wx w') := fun wx hb => by
          have h := HVr.out.below hb
          exact H5.out (B + 1) wx h (none_trees HN.out (by omega)) ((hb.cell (p := ⟨B + 1, 0, none⟩) (by show B + 1 < wr.heap.size; omega)).trans b1)
        have c1 : (wr.alloc (.cells #[.func (.func 58) #[] #[.pointer (some ⟨B + 1, 0, none⟩)], .int .i64 171] 53)).cell? ⟨wr.heap.size, 1, none⟩ = some (.int .i64 171) := by simp
        have hb1 : Below wr.heap.size wr (wr.alloc (.cells #[.func (.func 58) #[] #[.pointer (some ⟨B + 1, 0, none⟩)], .int .i64 171] 53)) := below1 _ _
        have hsz : wr.heap.size + 1 ≤ (wr.alloc (.cells #[.func (.func 58) #[] #[.pointer (some ⟨B + 1, 0, none⟩)], .int .i64 171] 53)).heap.size := by simp
        clear b0 b1 cell HVr
        cases ha : ansQ G 5 with
        | true =>
          rw [ha] at HQ
          have HE : Hid (checkG G = 171) := check_first G 5 (by omega) HN.out ha
          clear ha
          go_wp2_with fail
          generalize (wr.alloc (.cells #[.func (.func 58) #[] #[.pointer (some ⟨B + 1, 0, none⟩)], .int .i64 171] 53)) = w2 at *
          clear x0 x1
          refine (HQ.out _ hb1).mono ?_
          rintro e w3 ⟨rfl, hb3⟩
          have C1 := (hb3.cell (p := ⟨wr.heap.size, 1, none⟩) (by show wr.heap.size < w2.heap.size; omega)).trans c1
          have HB3 := Lib.hid (HBel.out.trans ((hb1.trans (hb3.mono hb1.size)).mono hws))
          clear hb3 c1
          go_wp2_with fail
          go_ret
          exact ⟨by rw [HE.out]; rfl, by rw [hB]; exact HB1.out.trans (HB3.out.mono (by omega))⟩
        | false =>
          rw [ha] at HQ
          have HN2 := Lib.hid (HN.out.snoc ha)
          clear ha
          go_wp2_with fail
          generalize (wr.alloc (.cells #[.func (.func 58) #[] #[.pointer (some ⟨B + 1, 0, none⟩)], .int .i64 171] 53)) = w2 at *
          clear x0 x1
          refine (HQ.out _ hb1).mono ?_
          rintro e w3 ⟨rfl, hb3⟩
          have HB3 := Lib.hid (HBel.out.trans ((hb1.trans (hb3.mono hb1.size)).mono hws))
          clear hb3 c1
          go_wp2_with fail
          go_roundw
          case rel => exact ⟨6, by go_num, by omega, HN2.out, HB3.out⟩
          case measure => simp [intOf]
      · have x0 := cell 12 _ rfl
        have x1 := cell 13 _ rfl
        have HQ : Hid (∀ wx, Below wr.heap.size wr wx → Calls Tryz.prog 69 #[.slice ao P.length cap] wx fun e w' => e = .returned (.bool (ansQ G 6)) ∧ Below wx.heap.size wx w') := fun wx hb => by
          have h := HVr.out.below hb
          exact H6.out wx h
        have c1 : (wr.alloc (.cells #[.func (.func 69) #[] #[], .int .i64 184] 53)).cell? ⟨wr.heap.size, 1, none⟩ = some (.int .i64 184) := by simp
        have hb1 : Below wr.heap.size wr (wr.alloc (.cells #[.func (.func 69) #[] #[], .int .i64 184] 53)) := below1 _ _
        have hsz : wr.heap.size + 1 ≤ (wr.alloc (.cells #[.func (.func 69) #[] #[], .int .i64 184] 53)).heap.size := by simp
        clear b0 b1 cell HVr
        cases ha : ansQ G 6 with
        | true =>
          rw [ha] at HQ
          have HE : Hid (checkG G = 184) := check_first G 6 (by omega) HN.out ha
          clear ha
          go_wp2_with fail
          generalize (wr.alloc (.cells #[.func (.func 69) #[] #[], .int .i64 184] 53)) = w2 at *
          clear x0 x1
          refine (HQ.out _ hb1).mono ?_
          rintro e w3 ⟨rfl, hb3⟩
          have C1 := (hb3.cell (p := ⟨wr.heap.size, 1, none⟩) (by show wr.heap.size < w2.heap.size; omega)).trans c1
          have HB3 := Lib.hid (HBel.out.trans ((hb1.trans (hb3.mono hb1.size)).mono hws))
          clear hb3 c1
          go_wp2_with fail
          go_ret
          exact ⟨by rw [HE.out]; rfl, by rw [hB]; exact HB1.out.trans (HB3.out.mono (by omega))⟩
        | false =>
          rw [ha] at HQ
          have HN2 := Lib.hid (HN.out.snoc ha)
          clear ha
          go_wp2_with fail
          generalize (wr.alloc (.cells #[.func (.func 69) #[] #[], .int .i64 184] 53)) = w2 at *
          clear x0 x1
          refine (HQ.out _ hb1).mono ?_
          rintro e w3 ⟨rfl, hb3⟩
          have HB3 := Lib.hid (HBel.out.trans ((hb1.trans (hb3.mono hb1.size)).mono hws))
          clear hb3 c1
          go_wp2_with fail
          go_roundw
          case rel => exact ⟨7, by go_num, by omega, HN2.out, HB3.out⟩
          case measure => simp [intOf]
      · have x0 := cell 14 _ rfl
        have x1 := cell 15 _ rfl
        have HQ : Hid (∀ wx, Below wr.heap.size wr wx → Calls Tryz.prog 70 #[.slice ao P.length cap] wx fun e w' => e = .returned (.bool (ansQ G 7)) ∧ Below wx.heap.size wx w') := fun wx hb => by
          have h := HVr.out.below hb
          exact H7.out wx h (by have := none_lim HN.out (by omega); omega) (none_trees HN.out (by omega)) (none_deep HN.out (by omega))
        have c1 : (wr.alloc (.cells #[.func (.func 70) #[] #[], .int .i64 174] 53)).cell? ⟨wr.heap.size, 1, none⟩ = some (.int .i64 174) := by simp
        have hb1 : Below wr.heap.size wr (wr.alloc (.cells #[.func (.func 70) #[] #[], .int .i64 174] 53)) := below1 _ _
        have hsz : wr.heap.size + 1 ≤ (wr.alloc (.cells #[.func (.func 70) #[] #[], .int .i64 174] 53)).heap.size := by simp
        clear b0 b1 cell HVr
        cases ha : ansQ G 7 with
        | true =>
          rw [ha] at HQ
          have HE : Hid (checkG G = 174) := check_first G 7 (by omega) HN.out ha
          clear ha
          go_wp2_with fail
          generalize (wr.alloc (.cells #[.func (.func 70) #[] #[], .int .i64 174] 53)) = w2 at *
          clear x0 x1
          refine (HQ.out _ hb1).mono ?_
          rintro e w3 ⟨rfl, hb3⟩
          have C1 := (hb3.cell (p := ⟨wr.heap.size, 1, none⟩) (by show wr.heap.size < w2.heap.size; omega)).trans c1
          have HB3 := Lib.hid (HBel.out.trans ((hb1.trans (hb3.mono hb1.size)).mono hws))
          clear hb3 c1
          go_wp2_with fail
          go_ret
          exact ⟨by rw [HE.out]; rfl, by rw [hB]; exact HB1.out.trans (HB3.out.mono (by omega))⟩
        | false =>
          rw [ha] at HQ
          have HN2 := Lib.hid (HN.out.snoc ha)
          clear ha
          go_wp2_with fail
          generalize (wr.alloc (.cells #[.func (.func 70) #[] #[], .int .i64 174] 53)) = w2 at *
          clear x0 x1
          refine (HQ.out _ hb1).mono ?_
          rintro e w3 ⟨rfl, hb3⟩
          have HB3 := Lib.hid (HBel.out.trans ((hb1.trans (hb3.mono hb1.size)).mono hws))
          clear hb3 c1
          go_wp2_with fail
          go_roundw
          case rel => exact ⟨8, by go_num, by omega, HN2.out, HB3.out⟩
          case measure => simp [intOf]
    · obtain rfl : j = 8 := by omega
      have HE : Hid (checkG G = 0) := check_none G HN.out
      go_wp2_with fail
      go_ret
      exact ⟨by rw [HE.out]; rfl, by rw [hB]; exact HB1.out.trans (HBel.out.mono (by omega))⟩
end Go.Proofs.YtkmjmfcanlknjaaGreat
