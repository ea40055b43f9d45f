/- The walks and facts that the laws lean on, part 2. No condition of its own: each theorem tells its own. -/
import Derived.Test.YtkmjmfcanlknjaaGreatPk1
import Derived.RangeFuncBox
import Derived.RangeFuncNested
import Derived.Defers
import Derived.Recover
import Derived.Lib.Join
import Derived.Laws.OwnMore
namespace Go.Proofs.YtkmjmfcanlknjaaGreat
open Go.RowKit

/-- the reader's place -/
def posOf (w : World) (Br : Nat) : Nat := match w.cell? ⟨Br, 1, none⟩ with | some (.int _ n) => n.toNat | _ => 0
theorem Rdr.pos {w : World} {Br : Nat} {vl : Value} {L : List Mk} {p : Nat} {en : Int} (h : Rdr w Br vl L p en) : posOf w Br = p := by
  unfold posOf; rw [h.cells.2.1]; simp
theorem sufK_cases (k : Int) : (k = 7 ∧ sufK k = 6) ∨ (k = 8 ∧ sufK k = 7) ∨ (k = 9 ∧ sufK k = 8) ∨ (¬ k = 7 ∧ ¬ k = 8 ∧ ¬ k = 9 ∧ sufK k = 0) := by
  unfold sufK
  by_cases h1 : k = 7
  · simp [h1]
  · by_cases h2 : k = 8
    · simp [h2]
    · by_cases h3 : k = 9
      · simp [h3]
      · simp [h1, h2, h3]
theorem pSuf_step {L : List Mk} {m p : Nat} {f : Fo} {c : Int} (hp : p < L.length) (hm : L.length - p = m) (hc : sufK (kd L p) = c) (h0 : c ≠ 0) : pSuf L m p f = pSuf L (L.length - (p + 1)) (p + 1) (.cons ⟨c, ⟨#[]⟩, 1⟩ f .nil) := by
  obtain ⟨m', rfl⟩ : ∃ m', m = m' + 1 := ⟨m - 1, by omega⟩
  rw [show L.length - (p + 1) = m' from by omega]
  conv => lhs; unfold pSuf
  rw [hc, if_neg h0]
theorem pSuf_stop {L : List Mk} {m p : Nat} {f : Fo} (hc : sufK (kd L p) = 0) : pSuf L m p f = ⟨true, f, p⟩ := by
  cases m with
  | zero => rfl
  | succ m => unfold pSuf; rw [if_pos hc]
theorem PRet.pos {Br : Nat} {vl : Value} {L : List Mk} {en : Int} {w : World} {r : PR} {e : Ending} {w' : World} (h : PRet Br vl L en w r e w') : w.grownBy w' (some Br) := h.1

theorem flat_pos {f : Fo} (h : f.len = 1) : 0 < f.flat.length := by
  cases f with
  | nil => simp [Fo.len] at h
  | cons x k r => simp [Fo.flat]
/-- a node laid ahead of a list -/
theorem cons_flat (x : Nd) (f : Fo) : [x] ++ f.flat = (Fo.cons x f .nil).flat := by simp [Fo.flat]

theorem Rdr.moved {w w' : World} {Br : Nat} {vl : Value} {L : List Mk} {p q : Nat} {en : Int} (h : Rdr w Br vl L p en) (hg : w.grownBy w' (some Br)) (hb : w'.heap[Br]? = some (.cells #[vl, .int .i64 q, .int .i64 en] 159 (0, 0))) : Rdr w' Br vl L q en := by
  refine ⟨hb, ?_, h.apart⟩
  obtain ⟨h1, ao, cap, h2, h3, h4, h5⟩ := h.rd
  refine ⟨h1, ao, cap, h2, h3, h4, h5.imp id ?_⟩
  rintro ⟨b, off, h6, h7, h8⟩
  have hne : b ≠ Br := h.apart ⟨b, off, none⟩ _ _ (by rw [h2, h6])
  refine ⟨b, off, h6, by have := hg.size; omega, fun j u hj => ?_⟩
  exact hg.cell (h8 j u hj) (by simpa using hne)
/-- behind an append of what was read to a new node -/
theorem unit_round {Br : Nat} {vl : Value} {L : List Mk} {p q : Nat} {en : Int} {w w5 w6 w7 : World} {k : Int} {g : Fo} {v' : Value} {c : Nat} (hg5 : w.grownBy w5 (some Br)) (hr5 : Rdr w5 Br vl L q en) (a3 : w5.grownBy w6 (some Br)) (a4 : Rdr w6 Br vl L (q + 1) en) (a5 : w5.heap.size < w6.heap.size)
    (hown7 : w7.ownsRow w.heap.size 57 3 v' (1 + g.flat.length) (flatNd [⟨k, ⟨#[]⟩, 1⟩] ++ flatNd g.flat)) (hg7 : w6.grownBy w7 (Value.slice (some ⟨w5.heap.size, 0, none⟩) 1 c).ownBlock) (hq : q < L.length) (hB : PB L p ⟨true, g, q⟩) :
    OwnNd w7 w.heap.size v' (Fo.cons ⟨k, ⟨#[]⟩, 1⟩ g .nil).flat ∧ Rdr w7 Br vl L (q + 1) en ∧ w.grownBy w7 (some Br) ∧ PB L p ⟨true, .cons ⟨k, ⟨#[]⟩, 1⟩ g .nil, q + 1⟩ := by
  have g57 : w5.grownBy w7 (some Br) := grown_then a3 hg7 (fun j hj => by simp [Value.ownBlock] at hj; subst hj; exact .inl (Nat.le_refl _))
  have hlt := hr5.lt
  refine ⟨?_, hr5.moved g57 ((hg7.block Br (by omega) (by simp [Value.ownBlock]; omega)).trans a4.box), hg5.trans g57, ?_⟩
  · rw [← cons_flat]
    show World.ownsRow _ _ _ _ _ _ _
    rw [flatNd_app, List.length_append]; exact hown7
  · have h3 := hB.lt rfl
    have h4 := hB.size rfl
    have h5 := hB.one rfl
    simp only at h3 h4
    refine ⟨hq, by simp only; omega, fun _ => by simp only; omega, fun _ => ?_, fun _ => rfl, fun _ => ⟨by simp [h5], hB.wf rfl, trivial⟩⟩
    simp only [Fo.size]; omega
/-- a new node, behind a step of the reader -/
theorem node_new {Br : Nat} {vl : Value} {L : List Mk} {p : Nat} {en : Int} {w w2 : World} (hg : w.grownBy w2 (some Br)) (hr : Rdr w2 Br vl L p en) (x : Nd) :
    ((w2.setCell ⟨Br, 1, none⟩ (.int .i64 ((p : Int) + 1))).alloc (.cells #[.int .i64 x.k, .string x.n, .int .i64 x.c] 57)).ownsRow w.heap.size 57 3 (.slice (some ⟨w2.heap.size, 0, none⟩) 1 1) 1 (flatNd [x]) ∧
    w.grownBy ((w2.setCell ⟨Br, 1, none⟩ (.int .i64 ((p : Int) + 1))).alloc (.cells #[.int .i64 x.k, .string x.n, .int .i64 x.c] 57)) (some Br) ∧
    w2.grownBy ((w2.setCell ⟨Br, 1, none⟩ (.int .i64 ((p : Int) + 1))).alloc (.cells #[.int .i64 x.k, .string x.n, .int .i64 x.c] 57)) (some Br) ∧
    Rdr ((w2.setCell ⟨Br, 1, none⟩ (.int .i64 ((p : Int) + 1))).alloc (.cells #[.int .i64 x.k, .string x.n, .int .i64 x.c] 57)) Br vl L (p + 1) en ∧
    w2.heap.size < ((w2.setCell ⟨Br, 1, none⟩ (.int .i64 ((p : Int) + 1))).alloc (.cells #[.int .i64 x.k, .string x.n, .int .i64 x.c] 57)).heap.size := by
  have e : (w2.setCell ⟨Br, 1, none⟩ (.int .i64 ((p : Int) + 1))).heap.size = w2.heap.size := by simp [World.setCell]
  have g2 : w2.grownBy ((w2.setCell ⟨Br, 1, none⟩ (.int .i64 ((p : Int) + 1))).alloc (.cells #[.int .i64 x.k, .string x.n, .int .i64 x.c] 57)) (some Br) :=
    grown_then (grown_set w2 Br 1 _) (World.grownBy_alloc _ _ none) (by simp)
  refine ⟨?_, hg.trans g2, g2, (hr.step (p + 1)).kept (World.grownBy_alloc _ _ none), by simp [e]⟩
  have := OwnNd.one (w2.setCell ⟨Br, 1, none⟩ (.int .i64 ((p : Int) + 1))) w.heap.size (by rw [e]; exact hg.size) x
  rw [e] at this
  exact this
theorem cells_kept {w w' : World} {row : Option Nat} {g : Nat} {xs : List Value} (h : ∀ j u, xs[j]? = some u → w.cell? ((⟨g, 0, none⟩ : Addr).add j) = some u) (hg : w.grownBy w' row) (hne : some g ≠ row) :
    ∀ j u, xs[j]? = some u → w'.cell? ((⟨g, 0, none⟩ : Addr).add j) = some u := by
  intro j u hj
  refine hg.cell (h j u hj) ?_
  rw [Addr.add_lit]; exact hne

set_option maxRecDepth 100000 in
set_option maxHeartbeats 3200000 in
theorem xUnit_any (Br : Nat) (vl : Value) (L : List Mk) (p : Nat) (en : Int) (E : Nat → PR) (w : World) (h : Rdr w Br vl L p en) (hp : p ≤ L.length) (hl : L.length < 4294967296)
    (HA : Calls Tryz.prog 166 #[.pointer (some ⟨Br, 0, none⟩)] w (PRet Br vl L en w (pAtom E L p))) (hB : PB L p (pAtom E L p)) :
    Calls Tryz.prog 161 #[.pointer (some ⟨Br, 0, none⟩)] w (PRet Br vl L en w (pUnit E L p)) := by
  have HAh := Lib.hid HA
  have hbr := h.lt
  clear HA h
  have HU : Hid (pUnit E L p = if (pAtom E L p).ok then pSuf L (L.length - (pAtom E L p).p) (pAtom E L p).p (pAtom E L p).f else pAtom E L p) := rfl
  generalize pAtom E L p = r at *
  obtain ⟨ok, f, q⟩ := r
  cases ok with
  | false =>
    go_enter Tryz.func161, Tryz.ntmps161
    go_wp2_with fail
    refine (HAh.out).mono ?_
    rintro e w1 ⟨hg1, ⟨hok, v, rfl, ho, hr1⟩ | ⟨hok, rfl⟩⟩
    · cases hok
    · go_wp2_with fail
      refine ⟨rfl, ?_⟩
      rw [HU.out]
      exact PRet.bad hg1
  | true =>
    have HB := Lib.hid hB
    go_enter Tryz.func161, Tryz.ntmps161
    go_wp2_with fail
    refine (HAh.out).mono ?_
    rintro e w1 ⟨hg1, ⟨hok, v, rfl, ho, hr1⟩ | ⟨hok, rfl⟩⟩
    · have HO1 := Lib.hid ho
      have HR1 := Lib.hid hr1
      have HG1 := Lib.hid hg1
      clear hok ho hr1 hg1 hB HAh
      go_wp2_with fail
      go_loopw [3] (fun v wr => ∃ (q' : Nat) (g : Fo), Hid (OwnNd wr w.heap.size v g.flat) ∧ Hid (Rdr wr Br vl L q' en) ∧ Hid (w.grownBy wr (some Br)) ∧ Hid (pUnit E L p = pSuf L (L.length - q') q' g) ∧ Hid (PB L p ⟨true, g, q'⟩)) (fun _ wr => L.length - posOf wr Br)
      case atStart => exact ⟨q, f, HO1.out, HR1.out, HG1.out, HU.out, HB.out⟩
      case round =>
        obtain ⟨q', g, HO, HR, HG, HU2, HB2⟩ := hrel
        have HPos := Lib.hid HR.out.pos
        have hq := HB2.out.le
        simp only at hq
        have HK := Lib.hid (xKind_any Br vl L q' en wr HR.out hq)
        have hpos := flat_pos (HB2.out.one rfl)
        have hsz := HB2.out.size rfl
        simp only at hsz
        have hfl := Fo.flat_len g
        have hsl : g.flat.length ≤ 8589934592 := by omega
        obtain ⟨gb, cap, rfl, hgB, hgl, hcap, hcs⟩ := own_src HO.out hpos
        have HCS := Lib.hid hcs
        clear hcs hsz hfl
        rcases sufK_cases (kd L q') with ⟨hk, hs⟩ | ⟨hk, hs⟩ | ⟨hk, hs⟩ | ⟨hk1, hk2, hk3, hs⟩
        · have hql := sufK_lt (L := L) (p := q') (by rw [hs]; decide)
          have HN : Hid _ := (pSuf_step (f := g) hql rfl hs (by decide)).symm.trans HU2.out.symm
          rw [hk] at HK
          clear hk hs HU2
          go_wp2_with fail
          refine (HK.out).mono ?_
          rintro e w5 ⟨rfl, hr5, hg5⟩
          have HR5 := Lib.hid hr5
          have HG5 : Hid (w.grownBy w5 (some Br)) := grown_then HG.out hg5 (by simp)
          obtain ⟨c0, c1, c2, c3⟩ := HR5.out.cells
          obtain ⟨a1, a2, a3, a4, a5⟩ := node_new HG5.out HR5.out ⟨6, ⟨#[]⟩, 1⟩
          have HC5 := Lib.hid (cells_kept (cells_kept HCS.out hg5 (by simp)) a3 (by simp; omega))
          have HA1 := Lib.hid a1
          have HA3 := Lib.hid a3
          have HA4 := Lib.hid a4
          have hws : w.heap.size ≤ w5.heap.size := HG5.out.size
          clear hr5 hg5 a1 a2 a3 a4
          go_wp2_with (at_builtin; go_must (refine wpList_appG elemNd rfl _ _ rfl HA1.out rfl (news := flatNd g.flat) rfl (flatNd_len _) HC5.out (flatNd_one _) (by unfold maxLen; omega) (by omega) (by omega) ?_); intro v' w7 hown7 hg7)
          obtain ⟨b1, b2, b3, b4⟩ := unit_round HG5.out HR5.out HA3.out HA4.out a5 hown7 hg7 hql HB2.out
          have HPos7 := b2.pos
          clear hown7 hg7
          go_roundw
          case rel => exact ⟨q' + 1, _, b1, b2, b3, HN.out.symm, b4⟩
          case measure => rw [HPos7, HPos.out]; omega
        · have hql := sufK_lt (L := L) (p := q') (by rw [hs]; decide)
          have HN : Hid _ := (pSuf_step (f := g) hql rfl hs (by decide)).symm.trans HU2.out.symm
          rw [hk] at HK
          clear hk hs HU2
          go_wp2_with fail
          refine (HK.out).mono ?_
          rintro e w5 ⟨rfl, hr5, hg5⟩
          have HR5 := Lib.hid hr5
          have HG5 : Hid (w.grownBy w5 (some Br)) := grown_then HG.out hg5 (by simp)
          obtain ⟨c0, c1, c2, c3⟩ := HR5.out.cells
          obtain ⟨a1, a2, a3, a4, a5⟩ := node_new HG5.out HR5.out ⟨7, ⟨#[]⟩, 1⟩
          have HC5 := Lib.hid (cells_kept (cells_kept HCS.out hg5 (by simp)) a3 (by simp; omega))
          have HA1 := Lib.hid a1
          have HA3 := Lib.hid a3
          have HA4 := Lib.hid a4
          have hws : w.heap.size ≤ w5.heap.size := HG5.out.size
          clear hr5 hg5 a1 a2 a3 a4
          go_wp2_with (at_builtin; go_must (refine wpList_appG elemNd rfl _ _ rfl HA1.out rfl (news := flatNd g.flat) rfl (flatNd_len _) HC5.out (flatNd_one _) (by unfold maxLen; omega) (by omega) (by omega) ?_); intro v' w7 hown7 hg7)
          obtain ⟨b1, b2, b3, b4⟩ := unit_round HG5.out HR5.out HA3.out HA4.out a5 hown7 hg7 hql HB2.out
          have HPos7 := b2.pos
          clear hown7 hg7
          go_roundw
          case rel => exact ⟨q' + 1, _, b1, b2, b3, HN.out.symm, b4⟩
          case measure => rw [HPos7, HPos.out]; omega
        · have hql := sufK_lt (L := L) (p := q') (by rw [hs]; decide)
          have HN : Hid _ := (pSuf_step (f := g) hql rfl hs (by decide)).symm.trans HU2.out.symm
          rw [hk] at HK
          clear hk hs HU2
          go_wp2_with fail
          refine (HK.out).mono ?_
          rintro e w5 ⟨rfl, hr5, hg5⟩
          have HR5 := Lib.hid hr5
          have HG5 : Hid (w.grownBy w5 (some Br)) := grown_then HG.out hg5 (by simp)
          obtain ⟨c0, c1, c2, c3⟩ := HR5.out.cells
          obtain ⟨a1, a2, a3, a4, a5⟩ := node_new HG5.out HR5.out ⟨8, ⟨#[]⟩, 1⟩
          have HC5 := Lib.hid (cells_kept (cells_kept HCS.out hg5 (by simp)) a3 (by simp; omega))
          have HA1 := Lib.hid a1
          have HA3 := Lib.hid a3
          have HA4 := Lib.hid a4
          have hws : w.heap.size ≤ w5.heap.size := HG5.out.size
          clear hr5 hg5 a1 a2 a3 a4
          go_wp2_with (at_builtin; go_must (refine wpList_appG elemNd rfl _ _ rfl HA1.out rfl (news := flatNd g.flat) rfl (flatNd_len _) HC5.out (flatNd_one _) (by unfold maxLen; omega) (by omega) (by omega) ?_); intro v' w7 hown7 hg7)
          obtain ⟨b1, b2, b3, b4⟩ := unit_round HG5.out HR5.out HA3.out HA4.out a5 hown7 hg7 hql HB2.out
          have HPos7 := b2.pos
          clear hown7 hg7
          go_roundw
          case rel => exact ⟨q' + 1, _, b1, b2, b3, HN.out.symm, b4⟩
          case measure => rw [HPos7, HPos.out]; omega
        · have HN : Hid (pUnit E L p = ⟨true, g, q'⟩) := HU2.out.trans (pSuf_stop hs)
          have d1 : (kd L q' == 7) = false := by simpa using hk1
          have d2 : (kd L q' == 8) = false := by simpa using hk2
          have d3 : (kd L q' == 9) = false := by simpa using hk3
          clear hs hk1 hk2 hk3 HU2
          generalize kd L q' = k at *
          go_wp2_with (go_at_call 153; refine (HK.out).mono ?_; rintro e w5 ⟨rfl, hr5, hg5⟩; have HR5 := Lib.hid hr5; have HG5 := Lib.hid hg5; clear hr5 hg5)
          go_ret
          rw [HN.out]
          exact PRet.good (grown_then HG.out HG5.out (by simp)) (HO.out.grown HG5.out (by simp)) HR5.out
    · cases hok
end Go.Proofs.YtkmjmfcanlknjaaGreat
namespace Go.Proofs.YtkmjmfcanlknjaaGreat
open Go.RowKit Go.Shelf

theorem sPart_step {E : Nat → PR} {L : List Mk} (hB : ∀ q, q ≤ L.length → PB L q (E q)) : ∀ p r, p ≤ L.length → sPart E L p = some r → p < L.length ∧ (r.ok = true → p < r.p ∧ r.p ≤ L.length) := by
  intro p r hp hs
  obtain ⟨hb, rfl⟩ := sPart_some hs
  have G := pUnit_b (E := E) hp (fun h => hB _ h)
  exact ⟨begins_lt hb, fun h => ⟨G.lt h, G.le⟩⟩
theorem sExpr_step {E : Nat → PR} {L : List Mk} (hB : ∀ q, q ≤ L.length → PB L q (E q)) : ∀ p r, p ≤ L.length → sExpr E L p = some r → p < L.length ∧ (r.ok = true → p < r.p ∧ r.p ≤ L.length) := by
  intro p r hp hs
  obtain ⟨hb, rfl⟩ := sExpr_some hs
  have hlt := kd_lt (L := L) (p := p) (by omega)
  have G := pPart_b (E := E) (p := p + 1) hlt (fun q _ h => hB q h)
  exact ⟨hlt, fun h => ⟨by have := G.lt h; omega, G.le⟩⟩
/-- where the loop over units stands -/
def PSt (E : Nat → PR) (L : List Mk) (q : Nat) (f : Fo) (i : Nat) (g : Fo) (n : Nat) : Prop :=
  (i = q ∧ 1 ≤ n ∧ f = wrapF 4 n g) ∨ (i < q ∧ MS (sPart E L) 4 L q f i g n (pUnit E L i))
theorem part_start {E : Nat → PR} {L : List Mk} {p q : Nat} {f : Fo} (hp : p ≤ L.length) (hB : ∀ q, q ≤ L.length → PB L q (E q)) (h : pPart E L p = ⟨true, f, q⟩) : PSt E L q f p .nil 0 := by
  right
  unfold pPart at h
  have G := pUnit_b (E := E) hp (fun h => hB _ h)
  generalize pUnit E L p = r at *
  obtain ⟨ok, f0, q0⟩ := r
  cases ok with
  | false => simp at h
  | true =>
    simp only [if_true] at h
    have h1 := G.lt rfl
    have h2 := G.le
    simp only at h1 h2
    have h3 := pMany_ge (k := 4) (fun p r hp hs hok => ⟨Nat.le_of_lt ((sPart_step hB p r hp hs).2 hok).1, ((sPart_step hB p r hp hs).2 hok).2⟩) (L.length - q0) q0 f0 1 h2 (by rw [h])
    rw [h] at h3
    simp only at h3
    exact ⟨by omega, rfl, by simp only; omega, h3.1, L.length - q0, Nat.le_refl _, h⟩
theorem part_next {E : Nat → PR} {L : List Mk} {q i n : Nat} {f g fu : Fo} {qu : Nat} (hq : q ≤ L.length) (hB : ∀ q, q ≤ L.length → PB L q (E q)) (h : MS (sPart E L) 4 L q f i g n ⟨true, fu, qu⟩) : PSt E L q f qu (g.app fu) (n + 1) ∧ (qu = q ∨ (qu < q ∧ beginsI (kd L qu) = true)) := by
  rcases h.next hq (sPart_step hB) with ⟨_, h2, h3⟩ | ⟨r2, h1, h2, h3⟩
  · exact ⟨.inl ⟨h2, by omega, h3⟩, .inl h2⟩
  · obtain ⟨hb, rfl⟩ := sPart_some h1
    exact ⟨.inr ⟨h2, h3⟩, .inr ⟨h2, hb⟩⟩
theorem wrap_one (k : Int) (g : Fo) : wrapF k 1 g = g := rfl
theorem wrap_flat {k : Int} {n : Nat} {g : Fo} (h : n ≠ 1) : (wrapF k n g).flat = [⟨k, ⟨#[]⟩, n⟩] ++ g.flat := by unfold wrapF; rw [if_neg h]; simp [Fo.flat]

set_option maxRecDepth 100000 in
set_option maxHeartbeats 16000000 in
theorem rPart_any (E : Nat → PR) (v : Value) (L : List Mk) (p q : Nat) (f : Fo) (w : World) (h : TkS w v L p q) (hP : pPart E L p = ⟨true, f, q⟩) (hB : ∀ q, q ≤ L.length → PB L q (E q)) (hE : ∀ q, NS L q (E q)) (hK : ∀ m ∈ L, 1 ≤ m.k ∧ m.k ≤ 12) (hl : L.length < 4194304)
    (HT : ∀ i fi qi, E i = ⟨true, fi, qi⟩ → ∀ v w, TkS w v L i qi → Calls Tryz.prog 89 #[v] w (ERet w fi.flat)) :
    Calls Tryz.prog 117 #[v] w (ERet w f.flat) := by
  have HS := Lib.hid h
  obtain ⟨b, off, cap, rfl, hcap, hb, hcs⟩ := h.ex
  have hlt := h.lt
  have hle := h.le
  have HP0 := Lib.hid (part_start (by omega) hB hP)
  have HCS := Lib.hid hcs
  have HTr := Lib.hid HT
  have HB := Lib.hid hB
  have HE := Lib.hid hE
  have HK := Lib.hid hK
  obtain ⟨n, hn⟩ : ∃ n, n = q - p := ⟨_, rfl⟩
  rw [← hn] at HS hcap ⊢
  have hpn : p + n = q := by omega
  have hnl : n ≤ 4194304 := by omega
  clear hcs HT h hP hB hE hK hn
  go_enter Tryz.func117, Tryz.ntmps117
  go_wp2
  go_loopw [3, 4, 5] (fun kv cv i wr => ∃ (x c : Nat) (g : Fo), i = .int .i64 x ∧ cv = .int .i64 c ∧ x ≤ n ∧ c ≤ x ∧ OwnNd wr w.heap.size kv g.flat ∧ Hid (g.flat.length ≤ 2 * x) ∧ Hid (1 ≤ c → 0 < g.flat.length) ∧ Hid (Below w.heap.size w wr) ∧ Hid (PSt E L q f (p + x) g c)) (fun _ _ i _ => n - (intOf i).toNat)
  case atStart => exact ⟨0, 0, .nil, rfl, rfl, by omega, by omega, World.ownsRow_nil _ _ _ _, by simp [Hid, Fo.flat], fun h => by omega, Below.refl _ _, HP0.out⟩
  case round =>
    obtain ⟨x, c, g, rfl, rfl, hx, hcx, hown, HLn, HGp, HBel, HP⟩ := hrel
    have hgl : g.flat.length ≤ 2 * x := HLn.out
    have hws := HBel.out.size
    by_cases hxn : x < n
    · have HM : Hid (MS (sPart E L) 4 L q f (p + x) g c (pUnit E L (p + x))) := by
        rcases HP.out with ⟨h, _⟩ | ⟨_, h⟩
        · omega
        · exact h
      have hUb := pUnit_b (E := E) (p := p + x) (by omega) (fun h => HB.out _ h)
      obtain ⟨fu, qu, hU⟩ : ∃ fu qu, pUnit E L (p + x) = ⟨true, fu, qu⟩ := by
        have := HM.out.ok
        generalize pUnit E L (p + x) = r at *
        obtain ⟨o, fu, qu⟩ := r
        simp only at this; subst this; exact ⟨fu, qu, rfl⟩
      rw [hU] at HM hUb
      obtain ⟨fa, pa, U⟩ := unit_uf (by omega) HB.out hU
      have hu1 := U.lt
      have hu2 := U.le
      have hu3 := HM.out.le
      have hus := hUb.size rfl
      have hul := hUb.one rfl
      simp only at hu3 hus
      have hfl := Fo.flat_len fu
      have hfp := flat_pos hul
      obtain ⟨y, hy⟩ : ∃ y, y = qu - p := ⟨_, rfl⟩
      obtain ⟨e, he⟩ : ∃ e, e = pa - p := ⟨_, rfl⟩
      have hpe : p + e = pa := by omega
      have hpy : p + y = qu := by omega
      have hxe : x < e := by omega
      have hey : e ≤ y := by omega
      have hyn : y ≤ n := by omega
      have hfl2 : fu.flat.length + 1 ≤ 2 * (y - x) := by omega
      have hnext := part_next hle HB.out HM.out
      have HNx := Lib.hid hnext.1
      have HBg := Lib.hid hnext.2
      have HU := Lib.hid U
      obtain ⟨m, hm⟩ : ∃ m, L[p + x]? = some m := ⟨_, List.getElem?_eq_getElem (by omega)⟩
      obtain ⟨x0, -⟩ := HCS.out x m (by omega) hm
      have X0 := (HBel.out.cell (p := ⟨b, _, none⟩) hb).trans x0
      have hkd : kd L (p + x) = m.k := kd_some hm
      have hmk := HK.out m (List.mem_of_getElem? hm)
      have HUn : Hid (∀ wx, Below w.heap.size w wx → Calls Tryz.prog 131 #[.slice (some ⟨b, off + x * 3, none⟩) (y - x) (cap - x), .int .i64 ((e : Int) - x)] wx (ERet wx fu.flat)) := by
        intro wx hbx
        have hs := (HS.out.below hbx).sub x y (by omega) (by omega)
        rw [hpy] at hs
        have := rUnit_any E _ L (p + x) qu pa fu fa wx hs HU.out (by omega) (by
          have := HU.out.flat
          have h1 := congrArg List.length this
          rw [List.length_append] at h1
          omega) (by
          by_cases h10 : kd L (p + x) = 10
          · obtain ⟨v1, -⟩ := HU.out.brk h10
            have := HB.out (p + x + 1) (by omega)
            rw [v1] at this
            exact flat_pos (this.one rfl)
          · rcases begins_cases HU.out.beg with h | h | h | h
            · rw [HU.out.lf1 h]; simp
            · rw [HU.out.lf2 h]; simp
            · rw [HU.out.lf3 h]; simp
            · exact absurd h h10) (fun h10 v w hv => HTr.out _ _ _ (HU.out.brk h10).1 v w hv)
        rw [show (((pa - (p + x) : Nat) : Int)) = (e : Int) - x from by omega] at this
        exact this
      have HSk : Hid (∀ z mz, e ≤ z → z < y → L[p + z]? = some mz → beginsI mz.k = false) := by
        intro z mz h1 h2 h3
        have := HU.out.suf (p + z) (by omega) (by omega)
        rw [kd_some h3] at this
        exact (suf_k this).2.2.2
      have HBe : Hid (y = n ∨ (y < n ∧ ∀ mz, L[p + y]? = some mz → beginsI mz.k = true)) := by
        rcases HBg.out with h | ⟨h, h2⟩
        · exact .inl (by omega)
        · exact .inr ⟨by omega, fun mz h3 => by rw [hpy] at h3; rw [← kd_some h3]; exact h2⟩
      have hcase : Hid ((m.k = 10 ∧ 1 ≤ e ∧ Cl L (p + x + 1) 1 (p + (e - 1)) ∧ p + (e - 1) < q) ∨ (m.k ≠ 10 ∧ e = x + 1)) := by
        by_cases h10 : m.k = 10
        · have hc := HU.out.cl (HE.out _) (by rw [hkd]; exact h10)
          exact .inl ⟨h10, by omega, by rw [show p + (e - 1) = pa - 1 from by omega]; exact hc, by omega⟩
        · have := HU.out.leaf (by rw [hkd]; exact h10)
          exact .inr ⟨h10, by omega⟩
      have HKd := Lib.hid hkd
      clear x0 hm hnext U hU hUb hus hul hfl hkd HM HP hu1 hu2 hu3 hy he
      rcases hcase.out with ⟨h10, he1, hcl, hce⟩ | ⟨h10, he1⟩
      · have HCl : Hid (∀ wx, Below w.heap.size w wx → Calls Tryz.prog 116 #[.slice (some ⟨b, off, none⟩) n cap, .int .i64 x] wx fun e' w' => e' = .returned (.int .i64 ((e - 1 : Nat) : Int)) ∧ wx = w') :=
          fun wx hbx => rClose_any _ L p q x (e - 1) wx (HS.out.below hbx) HK.out (by omega) (by rw [HKd.out]; exact h10) hcl hce
        have HEe : Hid (((e - 1 : Nat) : Int) + 1 = e) := by unfold Hid; omega
        rw [h10, show tkB 10 = 40 from rfl] at X0
        clear hcase h10 hcl hce
        go_wp2_with (go_at_call 116; refine (HCl.out _ HBel.out).mono ?_; rintro e' w' ⟨rfl, rfl⟩)
        rw [HEe.out]
        go_loop [7] (fun l => ∃ z : Nat, l = .int .i64 z ∧ e ≤ z ∧ z ≤ y) (fun l => n - (intOf l).toNat)
        case atStart => exact ⟨e, rfl, Nat.le_refl _, hey⟩
        case round =>
          obtain ⟨z, rfl, hz1, hz2⟩ := hrel
          by_cases hzy : z < y
          · obtain ⟨mz, hmz⟩ : ∃ m, L[p + z]? = some m := ⟨_, List.getElem?_eq_getElem (by omega)⟩
            obtain ⟨z0, -⟩ := HCS.out z mz (by omega) hmz
            have Z0 := (HBel.out.cell (p := ⟨b, _, none⟩) hb).trans z0
            have hzk := HK.out mz (List.mem_of_getElem? hmz)
            have HZ : Hid (∀ w, Calls Tryz.prog 130 #[.int .u8 (tkB mz.k)] w fun e w' => e = .returned (.bool false) ∧ w = w') := by
              intro w; rw [← HSk.out z mz hz1 hzy hmz]; exact rBegins_any _ _ hzk.1 hzk.2
            have hzn : z < n := by omega
            clear z0 hmz hzk X0
            generalize tkB mz.k = kz at *
            go_wp2_with (go_at_call 130; refine (HZ.out _).mono ?_; rintro e' w' ⟨rfl, rfl⟩)
            go_round
            case rel => exact ⟨z + 1, by go_num, by omega, by omega⟩
            case measure => simp [intOf]; omega
          · obtain rfl : z = y := by omega
            have HUb := Lib.hid (HUn.out wr HBel.out)
            have hxz : x < z := by omega
            rcases HBe.out with hzn | ⟨hzn, hbz⟩
            · subst hzn
              clear X0
              go_wp2_with fail
              refine (HUb.out).mono ?_
              rintro e' w3 ⟨v3, rfl, ho3, hb3⟩
              obtain ⟨gb, gc, rfl, hgB, hgl2, hgc, hcs3⟩ := own_src ho3 hfp
              have HCS3 := Lib.hid hcs3
              have hown3 := own_below hown hb3
              have HB3 : Hid (Below w.heap.size w w3) := HBel.out.trans (hb3.mono hws)
              have hws3 : w.heap.size ≤ w3.heap.size := HB3.out.size
              clear hcs3 ho3 hb3
              go_wp2_with (at_builtin; go_must (refine wpList_appG elemNd rfl _ _ rfl hown3 rfl (news := flatNd fu.flat) rfl (flatNd_len _) HCS3.out (flatNd_one _) (by unfold maxLen; omega) (by omega) hws3 ?_); intro v' w4 hown4 hg4)
              have HO4 : Hid (OwnNd w4 w.heap.size v' (g.app fu).flat) := by
                rw [Fo.flat_app]
                show World.ownsRow _ _ _ _ _ _ _
                rw [flatNd_app, List.length_append]; exact hown4
              have HB4 : Hid (Below w.heap.size w w4) := HB3.out.grown hg4 hws3 (fun j hj => own_blk hown3 hj)
              clear hown4 hg4
              go_roundw
              case rel => exact ⟨z, c + 1, g.app fu, rfl, by go_num, by omega, by omega, HO4.out, by unfold Hid; rw [Fo.flat_app, List.length_append]; omega, fun _ => by rw [Fo.flat_app, List.length_append]; omega, HB4.out, by rw [hpy]; exact HNx.out⟩
              case measure => simp [intOf]; omega
            · obtain ⟨mz, hmz⟩ : ∃ m, L[p + z]? = some m := ⟨_, List.getElem?_eq_getElem (by omega)⟩
              obtain ⟨z0, -⟩ := HCS.out z mz (by omega) hmz
              have Z0 := (HBel.out.cell (p := ⟨b, _, none⟩) hb).trans z0
              have hzk := HK.out mz (List.mem_of_getElem? hmz)
              have HZ : Hid (∀ w, Calls Tryz.prog 130 #[.int .u8 (tkB mz.k)] w fun e w' => e = .returned (.bool true) ∧ w = w') := by
                intro w; rw [← hbz mz hmz]; exact rBegins_any _ _ hzk.1 hzk.2
              clear z0 hmz hzk X0 hbz
              generalize tkB mz.k = kz at *
              go_wp2_with (go_at_call 130; refine (HZ.out _).mono ?_; rintro e' w' ⟨rfl, rfl⟩)
              refine (HUb.out).mono ?_
              rintro e' w3 ⟨v3, rfl, ho3, hb3⟩
              obtain ⟨gb, gc, rfl, hgB, hgl2, hgc, hcs3⟩ := own_src ho3 hfp
              have HCS3 := Lib.hid hcs3
              have hown3 := own_below hown hb3
              have HB3 : Hid (Below w.heap.size w w3) := HBel.out.trans (hb3.mono hws)
              have hws3 : w.heap.size ≤ w3.heap.size := HB3.out.size
              clear hcs3 ho3 hb3
              go_wp2_with (at_builtin; go_must (refine wpList_appG elemNd rfl _ _ rfl hown3 rfl (news := flatNd fu.flat) rfl (flatNd_len _) HCS3.out (flatNd_one _) (by unfold maxLen; omega) (by omega) hws3 ?_); intro v' w4 hown4 hg4)
              have HO4 : Hid (OwnNd w4 w.heap.size v' (g.app fu).flat) := by
                rw [Fo.flat_app]
                show World.ownsRow _ _ _ _ _ _ _
                rw [flatNd_app, List.length_append]; exact hown4
              have HB4 : Hid (Below w.heap.size w w4) := HB3.out.grown hg4 hws3 (fun j hj => own_blk hown3 hj)
              clear hown4 hg4
              go_roundw
              case rel => exact ⟨z, c + 1, g.app fu, rfl, by go_num, by omega, by omega, HO4.out, by unfold Hid; rw [Fo.flat_app, List.length_append]; omega, fun _ => by rw [Fo.flat_app, List.length_append]; omega, HB4.out, by rw [hpy]; exact HNx.out⟩
              case measure => simp [intOf]; omega
      · have t1 := tk_ne m.k 40 10 hmk.1 hmk.2 rfl (by decide) (by decide) h10
        have HEe : Hid ((x : Int) + 1 = e) := by unfold Hid; omega
        clear hcase h10 he1
        generalize tkB m.k = km at *
        go_wp2_with fail
        rw [HEe.out]
        clear t1
        go_loop [7] (fun l => ∃ z : Nat, l = .int .i64 z ∧ e ≤ z ∧ z ≤ y) (fun l => n - (intOf l).toNat)
        case atStart => exact ⟨e, rfl, Nat.le_refl _, hey⟩
        case round =>
          obtain ⟨z, rfl, hz1, hz2⟩ := hrel
          by_cases hzy : z < y
          · obtain ⟨mz, hmz⟩ : ∃ m, L[p + z]? = some m := ⟨_, List.getElem?_eq_getElem (by omega)⟩
            obtain ⟨z0, -⟩ := HCS.out z mz (by omega) hmz
            have Z0 := (HBel.out.cell (p := ⟨b, _, none⟩) hb).trans z0
            have hzk := HK.out mz (List.mem_of_getElem? hmz)
            have HZ : Hid (∀ w, Calls Tryz.prog 130 #[.int .u8 (tkB mz.k)] w fun e w' => e = .returned (.bool false) ∧ w = w') := by
              intro w; rw [← HSk.out z mz hz1 hzy hmz]; exact rBegins_any _ _ hzk.1 hzk.2
            have hzn : z < n := by omega
            clear z0 hmz hzk X0
            generalize tkB mz.k = kz at *
            go_wp2_with (go_at_call 130; refine (HZ.out _).mono ?_; rintro e' w' ⟨rfl, rfl⟩)
            go_round
            case rel => exact ⟨z + 1, by go_num, by omega, by omega⟩
            case measure => simp [intOf]; omega
          · obtain rfl : z = y := by omega
            have HUb := Lib.hid (HUn.out wr HBel.out)
            have hxz : x < z := by omega
            rcases HBe.out with hzn | ⟨hzn, hbz⟩
            · subst hzn
              clear X0
              go_wp2_with fail
              refine (HUb.out).mono ?_
              rintro e' w3 ⟨v3, rfl, ho3, hb3⟩
              obtain ⟨gb, gc, rfl, hgB, hgl2, hgc, hcs3⟩ := own_src ho3 hfp
              have HCS3 := Lib.hid hcs3
              have hown3 := own_below hown hb3
              have HB3 : Hid (Below w.heap.size w w3) := HBel.out.trans (hb3.mono hws)
              have hws3 : w.heap.size ≤ w3.heap.size := HB3.out.size
              clear hcs3 ho3 hb3
              go_wp2_with (at_builtin; go_must (refine wpList_appG elemNd rfl _ _ rfl hown3 rfl (news := flatNd fu.flat) rfl (flatNd_len _) HCS3.out (flatNd_one _) (by unfold maxLen; omega) (by omega) hws3 ?_); intro v' w4 hown4 hg4)
              have HO4 : Hid (OwnNd w4 w.heap.size v' (g.app fu).flat) := by
                rw [Fo.flat_app]
                show World.ownsRow _ _ _ _ _ _ _
                rw [flatNd_app, List.length_append]; exact hown4
              have HB4 : Hid (Below w.heap.size w w4) := HB3.out.grown hg4 hws3 (fun j hj => own_blk hown3 hj)
              clear hown4 hg4
              go_roundw
              case rel => exact ⟨z, c + 1, g.app fu, rfl, by go_num, by omega, by omega, HO4.out, by unfold Hid; rw [Fo.flat_app, List.length_append]; omega, fun _ => by rw [Fo.flat_app, List.length_append]; omega, HB4.out, by rw [hpy]; exact HNx.out⟩
              case measure => simp [intOf]; omega
            · obtain ⟨mz, hmz⟩ : ∃ m, L[p + z]? = some m := ⟨_, List.getElem?_eq_getElem (by omega)⟩
              obtain ⟨z0, -⟩ := HCS.out z mz (by omega) hmz
              have Z0 := (HBel.out.cell (p := ⟨b, _, none⟩) hb).trans z0
              have hzk := HK.out mz (List.mem_of_getElem? hmz)
              have HZ : Hid (∀ w, Calls Tryz.prog 130 #[.int .u8 (tkB mz.k)] w fun e w' => e = .returned (.bool true) ∧ w = w') := by
                intro w; rw [← hbz mz hmz]; exact rBegins_any _ _ hzk.1 hzk.2
              clear z0 hmz hzk X0 hbz
              generalize tkB mz.k = kz at *
              go_wp2_with (go_at_call 130; refine (HZ.out _).mono ?_; rintro e' w' ⟨rfl, rfl⟩)
              refine (HUb.out).mono ?_
              rintro e' w3 ⟨v3, rfl, ho3, hb3⟩
              obtain ⟨gb, gc, rfl, hgB, hgl2, hgc, hcs3⟩ := own_src ho3 hfp
              have HCS3 := Lib.hid hcs3
              have hown3 := own_below hown hb3
              have HB3 : Hid (Below w.heap.size w w3) := HBel.out.trans (hb3.mono hws)
              have hws3 : w.heap.size ≤ w3.heap.size := HB3.out.size
              clear hcs3 ho3 hb3
              go_wp2_with (at_builtin; go_must (refine wpList_appG elemNd rfl _ _ rfl hown3 rfl (news := flatNd fu.flat) rfl (flatNd_len _) HCS3.out (flatNd_one _) (by unfold maxLen; omega) (by omega) hws3 ?_); intro v' w4 hown4 hg4)
              have HO4 : Hid (OwnNd w4 w.heap.size v' (g.app fu).flat) := by
                rw [Fo.flat_app]
                show World.ownsRow _ _ _ _ _ _ _
                rw [flatNd_app, List.length_append]; exact hown4
              have HB4 : Hid (Below w.heap.size w w4) := HB3.out.grown hg4 hws3 (fun j hj => own_blk hown3 hj)
              clear hown4 hg4
              go_roundw
              case rel => exact ⟨z, c + 1, g.app fu, rfl, by go_num, by omega, by omega, HO4.out, by unfold Hid; rw [Fo.flat_app, List.length_append]; omega, fun _ => by rw [Fo.flat_app, List.length_append]; omega, HB4.out, by rw [hpy]; exact HNx.out⟩
              case measure => simp [intOf]; omega
    · obtain rfl : x = n := by omega
      have HD : Hid (1 ≤ c ∧ f = wrapF 4 c g) := by
        rcases HP.out with ⟨_, h1, h2⟩ | ⟨h, _⟩
        · exact ⟨h1, h2⟩
        · omega
      by_cases hc1 : c = 1
      · subst hc1
        have HF : Hid (f = g) := HD.out.2
        obtain ⟨_, ao, cp, rfl, -⟩ := Rd.of_owns hown
        go_wp2_with fail
        go_ret
        rw [HF.out]
        exact ⟨_, rfl, hown, HBel.out⟩
      · have HF : Hid (f.flat = [⟨4, ⟨#[]⟩, c⟩] ++ g.flat) := by unfold Hid; rw [HD.out.2, wrap_flat hc1]
        have hcI : ((c : Int) == 1) = false := by simp; omega
        have hpos : 0 < g.flat.length := HGp.out HD.out.1
        obtain ⟨gb, gc, rfl, hgB, hgl2, hgc, hcs3⟩ := own_src hown hpos
        have HA1 := Lib.hid (OwnNd.one wr w.heap.size hws ⟨4, ⟨#[]⟩, c⟩)
        have HC2 := Lib.hid (cells_kept hcs3 (World.grownBy_alloc wr (.cells #[.int .i64 4, .string ⟨#[]⟩, .int .i64 c] 57) none) (by simp))
        clear hcs3
        go_wp2_with (at_builtin; go_must (refine wpList_appG elemNd rfl _ _ rfl HA1.out rfl (news := flatNd g.flat) rfl (flatNd_len _) HC2.out (flatNd_one _) (by unfold maxLen; simp only [List.length_cons, List.length_nil]; omega) (by simp only [List.length_cons, List.length_nil]; omega) (by simp; omega) ?_); intro v' w4 hown4 hg4)
        go_ret
        rw [HF.out]
        refine ⟨v', rfl, ?_, (HBel.out.alloc hws _).grown hg4 (by simp; omega) (fun j hj => by simp [Value.ownBlock] at hj; omega)⟩
        show World.ownsRow _ _ _ _ _ _ _
        rw [flatNd_app, List.length_append]; exact hown4
end Go.Proofs.YtkmjmfcanlknjaaGreat
namespace Go.Proofs.YtkmjmfcanlknjaaGreat
open Go.RowKit Go.Shelf

/-- where the loop over the tokens of an expression stands: within a part that begins at fr -/
structure TSt (E : Nat → PR) (L : List Mk) (q : Nat) (f : Fo) (fr i : Nat) (g : Fo) (n : Nat) (fp : Fo) (qp : Nat) : Prop where
  part : pPart E L fr = ⟨true, fp, qp⟩
  more : MS (sExpr E L) 5 L q f fr g n ⟨true, fp, qp⟩
  ge : fr ≤ i
  lt : fr < qp
  scn : Scn L i qp
  size : fp.size + 1 ≤ 2 * (qp - fr)
  one : fp.len = 1
theorem TSt.begin {E : Nat → PR} {L : List Mk} {q : Nat} {f : Fo} {fr : Nat} {g : Fo} {n : Nat} (hf : fr ≤ L.length) (hB : ∀ q, q ≤ L.length → PB L q (E q)) (hE : ∀ q, NS L q (E q)) (h : MS (sExpr E L) 5 L q f fr g n (pPart E L fr)) : ∃ fp qp, TSt E L q f fr fr g n fp qp := by
  have G := pPart_b (E := E) hf (fun q _ h => hB q h)
  have hok := h.ok
  generalize hr : pPart E L fr = r at *
  obtain ⟨ok, fp, qp⟩ := r
  simp only at hok
  subst hok
  exact ⟨fp, qp, hr, h, Nat.le_refl _, G.lt rfl, (part_ns hf hB hE hr).2, G.size rfl, G.one rfl⟩
theorem tree_start {E : Nat → PR} {L : List Mk} {p q : Nat} {f : Fo} (hp : p ≤ L.length) (hB : ∀ q, q ≤ L.length → PB L q (E q)) (hE : ∀ q, NS L q (E q)) (h : pExprS E L p = ⟨true, f, q⟩) : ∃ fp qp, TSt E L q f p p .nil 0 fp qp := by
  refine TSt.begin hp hB hE ?_
  unfold pExprS at h
  have G := pPart_b (E := E) hp (fun q _ h => hB q h)
  generalize pPart E L p = r at *
  obtain ⟨ok, f0, q0⟩ := r
  cases ok with
  | false => simp at h
  | true =>
    simp only [if_true] at h
    have h1 := G.lt rfl
    have h2 := G.le
    simp only at h1 h2
    have h3 := pMany_ge (k := 5) (fun p r hp hs hok => ⟨Nat.le_of_lt ((sExpr_step hB p r hp hs).2 hok).1, ((sExpr_step hB p r hp hs).2 hok).2⟩) (L.length - q0) q0 f0 1 h2 (by rw [h])
    rw [h] at h3
    simp only at h3
    exact ⟨rfl, by simp only; omega, h3.1, L.length - q0, Nat.le_refl _, h⟩
theorem TSt.next {E : Nat → PR} {L : List Mk} {q : Nat} {f : Fo} {fr i : Nat} {g : Fo} {n : Nat} {fp : Fo} {qp : Nat} (h : TSt E L q f fr i g n fp qp) (hq : q ≤ L.length) (hB : ∀ q, q ≤ L.length → PB L q (E q)) (hE : ∀ q, NS L q (E q)) :
    (qp = q ∧ f = wrapF 5 (n + 1) (g.app fp)) ∨ (qp < q ∧ kd L qp = 6 ∧ ∃ fp' qp', TSt E L q f (qp + 1) (qp + 1) (g.app fp) (n + 1) fp' qp') := by
  rcases h.more.next hq (sExpr_step hB) with ⟨_, h2, h3⟩ | ⟨r2, h1, h2, h3⟩
  · exact .inl ⟨h2, h3⟩
  · obtain ⟨hb, rfl⟩ := sExpr_some h1
    simp only at hb h2
    have hlt := kd_lt (L := L) (p := qp) (by omega)
    have G := pPart_b (E := E) (p := qp + 1) hlt (fun q _ h => hB q h)
    exact .inr ⟨h2, hb, TSt.begin hlt hB hE ⟨h3.ok, G.ge, h3.le, h3.more⟩⟩

set_option maxRecDepth 100000 in
set_option maxHeartbeats 16000000 in
theorem rTree_any (E : Nat → PR) (v : Value) (L : List Mk) (p q : Nat) (f : Fo) (w : World) (h : TkS w v L p q) (hP : pExprS E L p = ⟨true, f, q⟩) (hB : ∀ q, q ≤ L.length → PB L q (E q)) (hE : ∀ q, NS L q (E q)) (hK : ∀ m ∈ L, 1 ≤ m.k ∧ m.k ≤ 12) (hl : L.length < 4194304)
    (HT : ∀ i fi qi, E i = ⟨true, fi, qi⟩ → ∀ v w, TkS w v L i qi → Calls Tryz.prog 89 #[v] w (ERet w fi.flat)) :
    Calls Tryz.prog 89 #[v] w (ERet w f.flat) := by
  have HS := Lib.hid h
  obtain ⟨b, off, cap, rfl, hcap, hb, hcs⟩ := h.ex
  have hlt := h.lt
  have hle := h.le
  have HP0 := Lib.hid (tree_start (by omega) hB hE hP)
  have HCS := Lib.hid hcs
  have HTr := Lib.hid HT
  have HB := Lib.hid hB
  have HE := Lib.hid hE
  have HK := Lib.hid hK
  obtain ⟨n, hn⟩ : ∃ n, n = q - p := ⟨_, rfl⟩
  rw [← hn] at HS hcap ⊢
  have hpn : p + n = q := by omega
  have hnl : n ≤ 4194304 := by omega
  clear hcs HT h hP hB hE hK hn
  go_enter Tryz.func89, Tryz.ntmps89
  go_wp2
  go_loopw [3, 4, 5, 6] (fun kv cv fv i wr => ∃ (x c fr : Nat) (g : Fo), i = .int .i64 x ∧ cv = .int .i64 c ∧ fv = .int .i64 fr ∧ x ≤ n + 1 ∧ c ≤ fr ∧ fr ≤ x ∧ OwnNd wr w.heap.size kv g.flat ∧ Hid (g.flat.length ≤ 2 * fr) ∧ Hid (1 ≤ c → 0 < g.flat.length) ∧ Hid (Below w.heap.size w wr) ∧
    Hid ((x = n + 1 ∧ 1 ≤ c ∧ f = wrapF 5 c g) ∨ (x ≤ n ∧ ∃ fp qp, TSt E L q f (p + fr) (p + x) g c fp qp))) (fun _ _ _ i _ => n + 1 - (intOf i).toNat)
  case atStart => exact ⟨0, 0, 0, .nil, rfl, rfl, rfl, by omega, by omega, by omega, World.ownsRow_nil _ _ _ _, by simp [Hid, Fo.flat], fun h => by omega, Below.refl _ _, .inr ⟨by omega, HP0.out⟩⟩
  case round =>
    obtain ⟨x, c, fr, g, rfl, rfl, rfl, hx, hcf, hfx, hown, HLn, HGp, HBel, HP⟩ := hrel
    have hgl : g.flat.length ≤ 2 * fr := HLn.out
    have hws := HBel.out.size
    by_cases hxn : x ≤ n
    · obtain ⟨fp, qp, T⟩ : ∃ fp qp, TSt E L q f (p + fr) (p + x) g c fp qp := by
        rcases HP.out with ⟨h, _⟩ | ⟨_, h⟩
        · omega
        · exact h
      have ht1 := T.lt
      have ht2 := T.more.le
      have ht3 := T.scn.le
      have ht4 := T.size
      have hfl := Fo.flat_len fp
      have hfp := flat_pos T.one
      have hnext := T.next hle HB.out HE.out
      simp only at ht2
      obtain ⟨y, hy⟩ : ∃ y, y = qp - p := ⟨_, rfl⟩
      have hpy : p + y = qp := by omega
      have hxy : x ≤ y := by omega
      have hyn : y ≤ n := by omega
      have hfy : fr < y := by omega
      have hfl2 : fp.flat.length + 1 ≤ 2 * (y - fr) := by omega
      have HNx := Lib.hid hnext
      have HTT := Lib.hid T
      clear hnext T ht1 ht2 ht3 ht4 hfl hy HP
      by_cases hxy2 : x < y
      · obtain ⟨m, hm⟩ : ∃ m, L[p + x]? = some m := ⟨_, List.getElem?_eq_getElem (by omega)⟩
        obtain ⟨x0, -⟩ := HCS.out x m (by omega) hm
        have X0 := (HBel.out.cell (p := ⟨b, _, none⟩) hb).trans x0
        have hkd : kd L (p + x) = m.k := kd_some hm
        have hmk := HK.out m (List.mem_of_getElem? hm)
        have hcase : Hid ((m.k ≠ 6 ∧ m.k ≠ 10 ∧ Scn L (p + x + 1) qp) ∨ (∃ j, m.k = 10 ∧ Cl L (p + x + 1) 1 (p + j) ∧ Scn L (p + j + 1) qp ∧ x < j)) := by
          have hs := HTT.out.scn
          have hd : p + x ≠ qp := by omega
          rw [← hkd]
          generalize hi : p + x = i at *
          cases hs with
          | refl => exact absurd rfl hd
          | step h1 h2 _ h4 => exact .inl ⟨h1, h2, h4⟩
          | jump h1 h2 h3 =>
            rename_i j
            have := h2.le
            exact .inr ⟨j - p, h1, by rw [show p + (j - p) = j from by omega]; exact h2, by rw [show p + (j - p) = j from by omega]; exact h3, by omega⟩
        have HKd := Lib.hid hkd
        clear x0 hm hkd
        have hxn2 : x < n := by omega
        rcases hcase.out with ⟨h6, h10, hs⟩ | ⟨j, h10, hcl, hs, hxj⟩
        · have t1 := tk_ne m.k 40 10 hmk.1 hmk.2 rfl (by decide) (by decide) h10
          have t2 := tk_ne m.k 124 6 hmk.1 hmk.2 rfl (by decide) (by decide) h6
          have t3 : ((x : Int) == n) = false := by simp; omega
          have HT2 : Hid (TSt E L q f (p + fr) (p + (x + 1)) g c fp qp) := ⟨HTT.out.part, HTT.out.more, by have := HTT.out.ge; omega, HTT.out.lt, hs, HTT.out.size, HTT.out.one⟩
          clear hcase h6 h10 hs
          generalize tkB m.k = km at *
          go_wp2_with fail
          clear t1 t2 t3
          go_roundw
          case rel => exact ⟨x + 1, c, fr, g, by go_num, rfl, rfl, by omega, by omega, by omega, hown, HLn.out, HGp.out, HBel.out, .inr ⟨by omega, fp, qp, HT2.out⟩⟩
          case measure => first | (simp [intOf]; done) | (simp [intOf]; omega)
        · have hjl := hcl.le
          have hsl := hs.le
          have HCl : Hid (∀ wx, Below w.heap.size w wx → Calls Tryz.prog 116 #[.slice (some ⟨b, off, none⟩) n cap, .int .i64 x] wx fun e' w' => e' = .returned (.int .i64 j) ∧ wx = w') :=
            fun wx hbx => rClose_any _ L p q x j wx (HS.out.below hbx) HK.out (by omega) (by rw [HKd.out]; exact h10) hcl (by omega)
          have HT2 : Hid (TSt E L q f (p + fr) (p + (j + 1)) g c fp qp) := ⟨HTT.out.part, HTT.out.more, by have := HTT.out.ge; omega, HTT.out.lt, hs, HTT.out.size, HTT.out.one⟩
          rw [h10, show tkB 10 = 40 from rfl] at X0
          clear hcase h10 hcl hs
          go_wp2_with (go_at_call 116; refine (HCl.out _ HBel.out).mono ?_; rintro e' w' ⟨rfl, rfl⟩)
          go_roundw
          case rel => exact ⟨j + 1, c, fr, g, by go_num, rfl, rfl, by omega, by omega, by omega, hown, HLn.out, HGp.out, HBel.out, .inr ⟨by omega, fp, qp, HT2.out⟩⟩
          case measure => first | (simp [intOf]; done) | (simp [intOf]; omega)
      · obtain rfl : x = y := by omega
        have HPb : Hid (Calls Tryz.prog 117 #[.slice (some ⟨b, off + fr * 3, none⟩) (x - fr) (cap - fr)] wr (ERet wr fp.flat)) := by
          have hs := (HS.out.below HBel.out).sub fr x (by omega) (by omega)
          rw [hpy] at hs
          exact rPart_any E _ L (p + fr) qp fp wr hs HTT.out.part HB.out HE.out HK.out hl HTr.out
        by_cases hxn3 : x = n
        · subst hxn3
          have HD : Hid (f = wrapF 5 (c + 1) (g.app fp)) := by
            rcases HNx.out with ⟨_, h⟩ | ⟨h, _⟩
            · exact h
            · omega
          go_wp2_with fail
          refine (HPb.out).mono ?_
          rintro e' w3 ⟨v3, rfl, ho3, hb3⟩
          obtain ⟨gb, gc, rfl, hgB, hgl2, hgc, hcs3⟩ := own_src ho3 hfp
          have HCS3 := Lib.hid hcs3
          have hown3 := own_below hown hb3
          have HB3 : Hid (Below w.heap.size w w3) := HBel.out.trans (hb3.mono hws)
          have hws3 : w.heap.size ≤ w3.heap.size := HB3.out.size
          clear hcs3 ho3 hb3
          go_wp2_with (at_builtin; go_must (refine wpList_appG elemNd rfl _ _ rfl hown3 rfl (news := flatNd fp.flat) rfl (flatNd_len _) HCS3.out (flatNd_one _) (by unfold maxLen; omega) (by omega) hws3 ?_); intro v' w4 hown4 hg4)
          have HO4 : Hid (OwnNd w4 w.heap.size v' (g.app fp).flat) := by
            rw [Fo.flat_app]
            show World.ownsRow _ _ _ _ _ _ _
            rw [flatNd_app, List.length_append]; exact hown4
          have HB4 : Hid (Below w.heap.size w w4) := HB3.out.grown hg4 hws3 (fun j hj => own_blk hown3 hj)
          clear hown4 hg4
          go_roundw
          case rel => exact ⟨x + 1, c + 1, x + 1, g.app fp, by go_num, by go_num, by go_num, by omega, by omega, by omega, HO4.out, by unfold Hid; rw [Fo.flat_app, List.length_append]; omega, fun _ => by rw [Fo.flat_app, List.length_append]; omega, HB4.out, .inl ⟨rfl, by omega, HD.out⟩⟩
          case measure => first | (simp [intOf]; done) | (simp [intOf]; omega)
        · have hxn2 : x < n := by omega
          have HD : Hid (kd L (p + x) = 6 ∧ ∃ fp' qp', TSt E L q f (p + (x + 1)) (p + (x + 1)) (g.app fp) (c + 1) fp' qp') := by
            rcases HNx.out with ⟨h, _⟩ | ⟨_, h6, h⟩
            · omega
            · rw [show p + (x + 1) = qp + 1 from by omega, hpy]; exact ⟨h6, h⟩
          obtain ⟨m, hm⟩ : ∃ m, L[p + x]? = some m := ⟨_, List.getElem?_eq_getElem (by omega)⟩
          obtain ⟨x0, -⟩ := HCS.out x m (by omega) hm
          have X0 := (HBel.out.cell (p := ⟨b, _, none⟩) hb).trans x0
          have hk6 : m.k = 6 := by rw [← kd_some hm]; exact HD.out.1
          rw [hk6, show tkB 6 = 124 from rfl] at X0
          have t3 : ((x : Int) == n) = false := by simp; omega
          clear x0 hm hk6 hxn3
          go_wp2_with fail
          clear t3
          refine (HPb.out).mono ?_
          rintro e' w3 ⟨v3, rfl, ho3, hb3⟩
          obtain ⟨gb, gc, rfl, hgB, hgl2, hgc, hcs3⟩ := own_src ho3 hfp
          have HCS3 := Lib.hid hcs3
          have hown3 := own_below hown hb3
          have HB3 : Hid (Below w.heap.size w w3) := HBel.out.trans (hb3.mono hws)
          have hws3 : w.heap.size ≤ w3.heap.size := HB3.out.size
          clear hcs3 ho3 hb3
          go_wp2_with (at_builtin; go_must (refine wpList_appG elemNd rfl _ _ rfl hown3 rfl (news := flatNd fp.flat) rfl (flatNd_len _) HCS3.out (flatNd_one _) (by unfold maxLen; omega) (by omega) hws3 ?_); intro v' w4 hown4 hg4)
          have HO4 : Hid (OwnNd w4 w.heap.size v' (g.app fp).flat) := by
            rw [Fo.flat_app]
            show World.ownsRow _ _ _ _ _ _ _
            rw [flatNd_app, List.length_append]; exact hown4
          have HB4 : Hid (Below w.heap.size w w4) := HB3.out.grown hg4 hws3 (fun j hj => own_blk hown3 hj)
          clear hown4 hg4
          go_roundw
          case rel => exact ⟨x + 1, c + 1, x + 1, g.app fp, by go_num, by go_num, by go_num, by omega, by omega, by omega, HO4.out, by unfold Hid; rw [Fo.flat_app, List.length_append]; omega, fun _ => by rw [Fo.flat_app, List.length_append]; omega, HB4.out, .inr ⟨by omega, HD.out.2⟩⟩
          case measure => first | (simp [intOf]; done) | (simp [intOf]; omega)
    · obtain rfl : x = n + 1 := by omega
      have HD : Hid (1 ≤ c ∧ f = wrapF 5 c g) := by
        rcases HP.out with ⟨_, h1, h2⟩ | ⟨h, _⟩
        · exact ⟨h1, h2⟩
        · omega
      by_cases hc1 : c = 1
      · subst hc1
        have HF : Hid (f = g) := HD.out.2
        obtain ⟨_, ao, cp, rfl, -⟩ := Rd.of_owns hown
        go_wp2_with fail
        go_ret
        rw [HF.out]
        exact ⟨_, rfl, hown, HBel.out⟩
      · have HF : Hid (f.flat = [⟨5, ⟨#[]⟩, c⟩] ++ g.flat) := by unfold Hid; rw [HD.out.2, wrap_flat hc1]
        have hcI : ((c : Int) == 1) = false := by simp; omega
        have hpos : 0 < g.flat.length := HGp.out HD.out.1
        obtain ⟨gb, gc, rfl, hgB, hgl2, hgc, hcs3⟩ := own_src hown hpos
        have HA1 := Lib.hid (OwnNd.one wr w.heap.size hws ⟨5, ⟨#[]⟩, c⟩)
        have HC2 := Lib.hid (cells_kept hcs3 (World.grownBy_alloc wr (.cells #[.int .i64 5, .string ⟨#[]⟩, .int .i64 c] 57) none) (by simp))
        clear hcs3
        go_wp2_with (at_builtin; go_must (refine wpList_appG elemNd rfl _ _ rfl HA1.out rfl (news := flatNd g.flat) rfl (flatNd_len _) HC2.out (flatNd_one _) (by unfold maxLen; simp only [List.length_cons, List.length_nil]; omega) (by simp only [List.length_cons, List.length_nil]; omega) (by simp; omega) ?_); intro v' w4 hown4 hg4)
        go_ret
        rw [HF.out]
        refine ⟨v', rfl, ?_, (HBel.out.alloc hws _).grown hg4 (by simp; omega) (fun j hj => by simp [Value.ownBlock] at hj; omega)⟩
        show World.ownsRow _ _ _ _ _ _ _
        rw [flatNd_app, List.length_append]; exact hown4
theorem rTree_all (L : List Mk) (hK : ∀ m ∈ L, 1 ≤ m.k ∧ m.k ≤ 12) (hl : L.length < 4194304) : ∀ (n i : Nat) (fi : Fo) (qi : Nat), pExpr L n i = ⟨true, fi, qi⟩ → ∀ v w, TkS w v L i qi → Calls Tryz.prog 89 #[v] w (ERet w fi.flat)
  | 0, i, fi, qi, h => by simp [pExpr] at h
  | n + 1, i, fi, qi, h => fun v w hv =>
    rTree_any (pExpr L n) v L i qi fi w hv h (fun q hq => pExpr_b L n q hq) (fun q => pExpr_ns L n q) hK hl (fun j fj qj hj v w hv => rTree_all L hK hl n j fj qj hj v w hv)
end Go.Proofs.YtkmjmfcanlknjaaGreat
namespace Go.Proofs.YtkmjmfcanlknjaaGreat
open Go.RowKit Go.Shelf

/-- what a function that may read one more leaves -/
def MRet (Br : Nat) (vl : Value) (L : List Mk) (en : Int) (w : World) (q : Nat) (s : Option PR) (e : Ending) (w' : World) : Prop :=
  w.grownBy w' (some Br) ∧ ((s = none ∧ e = .returned (.tuple #[.slice none 0 0, .bool false]) ∧ Rdr w' Br vl L q en) ∨
    ∃ r, s = some r ∧ ((r.ok = true ∧ ∃ v, e = .returned (.tuple #[v, .bool true]) ∧ OwnNd w' w.heap.size v r.f.flat ∧ Rdr w' Br vl L r.p en) ∨ (r.ok = false ∧ e = .panicked (wrongV (plc L en r.p)))))
/-- the reader's pointer in its box -/
def BoxR (w : World) (Bx Br : Nat) : Prop := Boxed w Bx 157 (.pointer (some ⟨Br, 0, none⟩)) ∧ Bx ≠ Br
theorem BoxR.kept {w w' : World} {Bx Br : Nat} (h : BoxR w Bx Br) (hg : w.grownBy w' (some Br)) : BoxR w' Bx Br := ⟨h.1.kept hg (by simpa using h.2), h.2⟩
/-- what one more that is read must be -/
structure SB (L : List Mk) (q : Nat) (r : PR) : Prop where
  le : r.p ≤ L.length
  lt : r.ok = true → q < r.p
  size : r.ok = true → r.f.size ≤ 2 * (r.p - q)
  one : r.ok = true → r.f.len = 1
theorem pMany_none {S : Nat → Option PR} {k : Int} {m p : Nat} {f : Fo} {n : Nat} (h : S p = none) : pMany S k m p f n = ⟨true, wrapF k n f, p⟩ := by
  cases m with
  | zero => rfl
  | succ m => unfold pMany; rw [h]
theorem pMany_good {S : Nat → Option PR} {k : Int} {m p : Nat} {f : Fo} {n : Nat} {r : PR} (h : S p = some r) (hok : r.ok = true) : pMany S k (m + 1) p f n = pMany S k m r.p (f.app r.f) (n + 1) := by
  conv => lhs; unfold pMany
  rw [h]
  simp only [hok, if_true]
theorem pMany_bad {S : Nat → Option PR} {k : Int} {m p : Nat} {f : Fo} {n : Nat} {r : PR} (h : S p = some r) (hok : r.ok = false) : pMany S k (m + 1) p f n = r := by
  conv => lhs; unfold pMany
  rw [h]; simp [hok]

set_option maxRecDepth 100000 in
set_option maxHeartbeats 3200000 in
theorem xMany_any (Br Bx : Nat) (vl : Value) (L : List Mk) (p : Nat) (en : Int) (k : Int) (S : Nat → Option PR) (g : Nat) (f : Fo) (v0 : Value) (w0 w : World) (p0 : Nat) (hr0 : Rdr w0 Br vl L p0 en) (hg0 : w0.grownBy w (some Br)) (hx : BoxR w Bx Br) (hr : Rdr w Br vl L p en) (ho : OwnNd w w0.heap.size v0 f.flat) (hp : p ≤ L.length) (hl : L.length < 4294967296)
    (hf1 : f.len = 1) (hfs : f.size ≤ 2 * p)
    (heg : ∀ args w, (callFunc g args).run Tryz.prog w = .ok (.enter g args) w)
    (hmore : ∀ q wq, p ≤ q → BoxR wq Bx Br → Rdr wq Br vl L q en → q ≤ L.length → Calls Tryz.prog g #[.pointer (some ⟨Bx, 0, none⟩)] wq (MRet Br vl L en wq q (S q)))
    (hS : ∀ q r, p ≤ q → q ≤ L.length → S q = some r → SB L q r ∧ (r.ok = false → q < L.length)) :
    Calls Tryz.prog 150 #[v0, .int .i64 k, .func (.func g) #[] #[.pointer (some ⟨Bx, 0, none⟩)]] w (PRet Br vl L en w0 (pMany S k (L.length - p) p f 1)) := by
  have hB0 := hr0.lt
  have HR0 := Lib.hid hr0
  clear hr0
  have HM := Lib.hid hmore
  have HS := Lib.hid hS
  have HR := Lib.hid hr
  have HO := Lib.hid ho
  have HX := Lib.hid hx
  have HG := Lib.hid hg0
  clear hmore hS hr ho hx hg0
  obtain ⟨b0, c0, rfl, -, -, -⟩ := own_src HO.out (flat_pos hf1)
  go_enter Tryz.func150, Tryz.ntmps150
  go_wp2_with fail
  go_loopw [7, 8] (fun v c wr => ∃ (q n : Nat) (h : Fo) (b7 c7 : Nat), c = .int .i64 n ∧ v = .slice (some ⟨b7, 0, none⟩) h.flat.length c7 ∧ Hid (OwnNd wr w0.heap.size v h.flat) ∧ Hid (Rdr wr Br vl L q en) ∧ Hid (w0.grownBy wr (some Br)) ∧ Hid (BoxR wr Bx Br) ∧ q ≤ L.length ∧ p ≤ q ∧ Hid (h.len = n ∧ h.size ≤ 2 * q ∧ 1 ≤ n ∧ n ≤ q + 1 ∧ (n = 1 → b7 = b0 ∧ c7 = c0 ∧ h = f)) ∧
    Hid (∃ m, L.length - q ≤ m ∧ pMany S k (L.length - p) p f 1 = pMany S k m q h n)) (fun _ _ wr => L.length - posOf wr Br)
  case atStart => exact ⟨p, 1, f, b0, c0, rfl, rfl, HO.out, HR.out, HG.out, HX.out, hp, Nat.le_refl _, ⟨hf1, hfs, by omega, by omega, fun _ => ⟨rfl, rfl, rfl⟩⟩, _, Nat.le_refl _, rfl⟩
  case round =>
    obtain ⟨q, n, h, b7, c7, rfl, rfl, HO7, HR7, HG7, HX7, hq, hpq, HF7, HE7⟩ := hrel
    have HC := Lib.hid (HM.out q wr hpq HX7.out HR7.out hq)
    obtain ⟨m, hm, HE7'⟩ := HE7.out
    have HE7 := Lib.hid HE7'
    clear HE7'
    have HPos := Lib.hid HR7.out.pos
    have hns : n ≤ L.length + 1 := by have := HF7.out; omega
    have hfl := Fo.flat_len h
    have hsl : h.flat.length ≤ 8589934592 := by have := HF7.out; omega
    clear hfl
    obtain ⟨s, hs⟩ : ∃ s, S q = s := ⟨_, rfl⟩
    rw [hs] at HC
    cases s with
    | none =>
      have HE8 : Hid (pMany S k (L.length - p) p f 1 = ⟨true, wrapF k n h, q⟩) := HE7.out.trans (pMany_none hs)
      clear hs HE7 hm
      go_wp2_with fail
      refine (HC.out).mono ?_
      rintro e w2 ⟨hg2, ⟨-, rfl, hr2⟩ | ⟨r, hr, -⟩⟩
      · have HG2 := Lib.hid (HG7.out.trans hg2)
        have HR2 := Lib.hid hr2
        have HO2 := Lib.hid (HO7.out.grown hg2 (fun j hj => by simp at hj; subst hj; exact hB0))
        clear hg2 hr2
        by_cases hn1 : n = 1
        · obtain ⟨rfl, rfl, rfl⟩ := HF7.out.2.2.2.2 hn1
          subst hn1
          go_wp2_with fail
          go_ret
          rw [HE8.out]
          exact PRet.good HG2.out HO2.out HR2.out
        · have hn1' : ((n : Int) == 1) = false := by simp; omega
          have hpos : 0 < h.flat.length := by
            refine Nat.lt_of_lt_of_le ?_ (by rw [Fo.flat_len]; exact Fo.len_le h)
            have := HF7.out; omega
          obtain ⟨gb, cap, e1, hgB, hgl, hcap, hcs⟩ := own_src HO2.out hpos
          simp only [Value.slice.injEq, Option.some.injEq, Addr.mk.injEq] at e1
          obtain ⟨⟨rfl, -, -⟩, -, rfl⟩ := e1
          have HA1 := Lib.hid (OwnNd.one w2 w0.heap.size HG2.out.size ⟨k, ⟨#[]⟩, n⟩)
          have HC2 := Lib.hid (cells_kept hcs (World.grownBy_alloc w2 (.cells #[.int .i64 k, .string ⟨#[]⟩, .int .i64 n] 57) none) (by simp))
          have hws : w0.heap.size ≤ w2.heap.size := HG2.out.size
          clear hcs
          go_wp2_with (at_builtin; go_must (refine wpList_appG elemNd rfl _ _ rfl HA1.out rfl (news := flatNd h.flat) rfl (flatNd_len _) HC2.out (flatNd_one _) (by unfold maxLen; simp only [List.length_cons, List.length_nil]; omega) (by simp only [List.length_cons, List.length_nil]; omega) (by simp; omega) ?_); intro v' w7 hown7 hg7)
          go_ret
          rw [HE8.out]
          have g27 : w2.grownBy w7 none := by
            refine grown_then (World.grownBy_alloc w2 (.cells #[.int .i64 k, .string ⟨#[]⟩, .int .i64 n] 57) none) hg7 ?_
            intro j hj; simp [Value.ownBlock] at hj; subst hj; exact .inl (Nat.le_refl _)
          refine PRet.good (grown_then HG2.out g27 (by simp)) ?_ (HR2.out.kept g27)
          have e : (wrapF k n h).flat = [⟨k, ⟨#[]⟩, n⟩] ++ h.flat := by unfold wrapF; rw [if_neg hn1]; simp [Fo.flat]
          rw [e]
          show World.ownsRow _ _ _ _ _ _ _
          rw [flatNd_app, List.length_append]; exact hown7
      · cases hr
    | some r =>
      obtain ⟨hsb, hbad⟩ := HS.out q r hpq hq hs
      obtain ⟨ok, f2, q2⟩ := r
      cases ok with
      | false =>
        have hql := hbad rfl
        have HE8 : Hid (pMany S k (L.length - p) p f 1 = ⟨false, f2, q2⟩) := by
          unfold Hid
          rw [HE7.out, show m = (m - 1) + 1 from by omega]
          exact pMany_bad hs rfl
        clear hs HE7 hbad hsb hm
        go_wp2_with fail
        refine (HC.out).mono ?_
        rintro e w2 ⟨hg2, ⟨hr, -, -⟩ | ⟨r, hr, ⟨hok, -⟩ | ⟨hok, rfl⟩⟩⟩
        · cases hr
        · cases hr; cases hok
        · cases hr
          go_wp2_with fail
          refine ⟨rfl, ?_⟩
          rw [HE8.out]
          exact PRet.bad (HG7.out.trans hg2)
      | true =>
        have h1 := hsb.le
        have h2 := hsb.lt rfl
        have h3 := hsb.size rfl
        have h4 := hsb.one rfl
        simp only at h1 h2 h3 h4
        have hql : q < L.length := by omega
        have HE8 : Hid (∃ m, L.length - q2 ≤ m ∧ pMany S k (L.length - p) p f 1 = pMany S k m q2 (h.app f2) (n + 1)) := by
          refine ⟨m - 1, by omega, ?_⟩
          rw [HE7.out, show m = (m - 1) + 1 from by omega]
          exact pMany_good hs rfl
        have hpos := flat_pos h4
        have hfl2 := Fo.flat_len f2
        have hsl2 : f2.flat.length ≤ 8589934592 := by omega
        clear hs HE7 hbad hsb hfl2 hm
        go_wp2_with fail
        refine (HC.out).mono ?_
        rintro e w2 ⟨hg2, ⟨hr, -, -⟩ | ⟨r, hr, ⟨-, v, rfl, ho2, hr2⟩ | ⟨hok, -⟩⟩⟩
        · cases hr
        · cases hr
          have HG2 := Lib.hid (HG7.out.trans hg2)
          have HR2 := Lib.hid hr2
          have HX2 := Lib.hid (HX7.out.kept hg2)
          have HO2 := Lib.hid (HO7.out.grown hg2 (fun j hj => by simp at hj; subst hj; exact hB0))
          obtain ⟨gb, cap, rfl, hgB, hgl, hcap, hcs⟩ := own_src ho2 hpos
          have HCS := Lib.hid hcs
          have hws : w0.heap.size ≤ w2.heap.size := HG2.out.size
          have hb7 : w0.heap.size ≤ b7 := own_block HO2.out b7 rfl
          clear hg2 ho2 hr2 hcs
          go_wp2_with (at_builtin; go_must (refine wpList_appG elemNd rfl _ _ rfl HO2.out rfl (news := flatNd f2.flat) rfl (flatNd_len _) HCS.out (flatNd_one _) (by unfold maxLen; omega) (by omega) (by omega) ?_); intro v' w3 hown3 hg3)
          have HB3 : Hid (Rdr w3 Br vl L q2 en) := by
            refine HR0.out.moved (grown_then HG2.out hg3 (fun j hj => by simp [Value.ownBlock] at hj; subst hj; exact .inl hb7)) ((hg3.block Br (by have := HR2.out.lt; omega) ?_).trans HR2.out.box)
            simp [Value.ownBlock]; omega
          have HG3 : Hid (w0.grownBy w3 (some Br)) := grown_then HG2.out hg3 (fun j hj => by simp [Value.ownBlock] at hj; subst hj; exact .inl hb7)
          have HX3 : Hid (BoxR w3 Bx Br) := ⟨HX2.out.1.kept hg3 (HX2.out.1.not_row (by decide) HO2.out), HX2.out.2⟩
          have HO3 : Hid (OwnNd w3 w0.heap.size v' (h.app f2).flat) := by
            rw [Fo.flat_app]
            show World.ownsRow _ _ _ _ _ _ _
            rw [flatNd_app, List.length_append]; exact hown3
          clear hown3 hg3
          have hpos3 : 0 < (h.app f2).flat.length := by rw [Fo.flat_app, List.length_append]; omega
          obtain ⟨b9, c9, rfl, -, -, -⟩ := own_src HO3.out hpos3
          have HPos3 := HB3.out.pos
          go_roundw
          case rel =>
            refine ⟨q2, n + 1, h.app f2, b9, c9, by go_num, rfl, HO3.out, HB3.out, HG3.out, HX3.out, h1, by omega, ?_, HE8.out⟩
            have := HF7.out
            exact ⟨by rw [Fo.len_app]; omega, by rw [Fo.size_app]; omega, by omega, by omega, by omega⟩
          case measure => rw [HPos3, HPos.out]; omega
        · cases hr; cases hok
end Go.Proofs.YtkmjmfcanlknjaaGreat
namespace Go.Proofs.YtkmjmfcanlknjaaGreat
open Go.RowKit Go.Shelf

/-- a reading function reads as said, wherever the reader stands -/
def Reads (fn : Nat) (Br : Nat) (vl : Value) (L : List Mk) (en : Int) (q : Nat) (r : PR) : Prop :=
  ∀ w, Rdr w Br vl L q en → q ≤ L.length → Calls Tryz.prog fn #[.pointer (some ⟨Br, 0, none⟩)] w (PRet Br vl L en w r)

set_option maxRecDepth 100000 in
set_option maxHeartbeats 1600000 in
theorem xPartMore_any (Br Bx : Nat) (vl : Value) (L : List Mk) (q : Nat) (en : Int) (E : Nat → PR) (w : World) (hx : BoxR w Bx Br) (h : Rdr w Br vl L q en) (hq : q ≤ L.length)
    (HU : Reads 161 Br vl L en q (pUnit E L q)) :
    Calls Tryz.prog 162 #[.pointer (some ⟨Bx, 0, none⟩)] w (MRet Br vl L en w q (sPart E L q)) := by
  have HUh := Lib.hid HU
  have HK := Lib.hid (xKind_any Br vl L q en w h hq)
  have hxc := hx.1.cell
  have HX := Lib.hid hx
  have HR := Lib.hid h
  clear hx h HU
  cases hb : beginsI (kd L q) with
  | false =>
    have HB : Hid (∀ w, Calls Tryz.prog 163 #[.int .i64 (kd L q)] w fun e w' => e = .returned (.bool false) ∧ w = w') := by
      intro w; rw [← hb]; exact xBegins_any _ _
    have HS : Hid (sPart E L q = none) := by unfold Hid sPart; rw [hb]; rfl
    clear hb
    generalize kd L q = k at *
    go_enter Tryz.func162, Tryz.ntmps162
    go_wp2_with (first | (go_at_call 153; refine (HK.out).mono ?_; rintro e w1 ⟨rfl, hr1, hg1⟩; have HR1 := Lib.hid hr1; have HG1 := Lib.hid hg1; clear hr1 hg1) | (go_at_call 163; refine (HB.out _).mono ?_; rintro e w' ⟨rfl, rfl⟩))
    go_ret2
    exact ⟨grown_none HG1.out, .inl ⟨HS.out, rfl, HR1.out⟩⟩
  | true =>
    have HB : Hid (∀ w, Calls Tryz.prog 163 #[.int .i64 (kd L q)] w fun e w' => e = .returned (.bool true) ∧ w = w') := by
      intro w; rw [← hb]; exact xBegins_any _ _
    have HS : Hid (sPart E L q = some (pUnit E L q)) := by unfold Hid sPart; rw [hb]; rfl
    clear hb
    generalize kd L q = k at *
    generalize pUnit E L q = r at *
    obtain ⟨ok, f, q2⟩ := r
    go_enter Tryz.func162, Tryz.ntmps162
    go_wp2_with (first | (go_at_call 153; refine (HK.out).mono ?_; rintro e w1 ⟨rfl, hr1, hg1⟩; have HR1 := Lib.hid hr1; have HG1 := Lib.hid hg1; have hx1 := (HX.out.kept (grown_none hg1)).1.cell; clear hr1 hg1) | (go_at_call 163; refine (HB.out _).mono ?_; rintro e w' ⟨rfl, rfl⟩))
    refine (HUh.out _ HR1.out hq).mono ?_
    rintro e w2 ⟨hg2, ⟨hok, v, rfl, ho, hr2⟩ | ⟨hok, rfl⟩⟩
    · simp only at hok; subst hok
      have HO := Lib.hid ho
      have HR2 := Lib.hid hr2
      have HG2 := Lib.hid hg2
      clear ho hr2 hg2
      go_wp2_with fail
      go_ret2
      exact ⟨(grown_none HG1.out).trans HG2.out, .inr ⟨_, HS.out, .inl ⟨rfl, v, rfl, own_lower HO.out HG1.out.size, HR2.out⟩⟩⟩
    · simp only at hok; subst hok
      go_wp2_with fail
      refine ⟨rfl, ?_⟩
      exact ⟨(grown_none HG1.out).trans hg2, .inr ⟨_, HS.out, .inr ⟨rfl, rfl⟩⟩⟩

set_option maxRecDepth 100000 in
set_option maxHeartbeats 1600000 in
theorem xExprMore_any (Br Bx : Nat) (vl : Value) (L : List Mk) (q : Nat) (en : Int) (E : Nat → PR) (w : World) (hx : BoxR w Bx Br) (h : Rdr w Br vl L q en) (hq : q ≤ L.length) (hl : L.length < 4294967296)
    (HU : Reads 151 Br vl L en (q + 1) (pPart E L (q + 1))) :
    Calls Tryz.prog 152 #[.pointer (some ⟨Bx, 0, none⟩)] w (MRet Br vl L en w q (sExpr E L q)) := by
  have HUh := Lib.hid HU
  have HK := Lib.hid (xKind_any Br vl L q en w h hq)
  have hxc := hx.1.cell
  have HX := Lib.hid hx
  have HR := Lib.hid h
  clear hx h HU
  by_cases hb : kd L q = 6
  · have hql := kd_lt (L := L) (p := q) (by omega)
    have HS : Hid (sExpr E L q = some (pPart E L (q + 1))) := by unfold Hid sExpr; rw [if_pos hb]
    rw [hb] at HK
    clear hb
    generalize pPart E L (q + 1) = r at *
    obtain ⟨ok, f, q2⟩ := r
    go_enter Tryz.func152, Tryz.ntmps152
    go_wp2_with (go_at_call 153; refine (HK.out).mono ?_; rintro e w1 ⟨rfl, hr1, hg1⟩; have HR1 := Lib.hid hr1; have HG1 := Lib.hid hg1; have hx1 := (HX.out.kept (grown_none hg1)).1.cell; obtain ⟨c0, c1, c2, c3⟩ := hr1.cells; have hne := HX.out.2; clear hr1 hg1)
    have hr3 := HR1.out.step (q + 1)
    have hg3 := grown_then (grown_none (row := some Br) HG1.out) (grown_set w1 Br 1 (.int .i64 ((q + 1 : Nat) : Int))) (by simp)
    rw [show ((q : Int) + 1) = ((q + 1 : Nat) : Int) from by omega]
    have HR3 := Lib.hid hr3
    have HG3 := Lib.hid hg3
    clear hr3 hg3 c0 c1 c2 c3 HG1 HR1 hx1
    generalize w1.setCell ⟨Br, 1, none⟩ (.int .i64 ((q + 1 : Nat) : Int)) = w3 at *
    refine (HUh.out _ HR3.out (by omega)).mono ?_
    rintro e w2 ⟨hg2, ⟨hok, v, rfl, ho, hr2⟩ | ⟨hok, rfl⟩⟩
    · simp only at hok; subst hok
      have HO := Lib.hid ho
      have HR2 := Lib.hid hr2
      have HG2 := Lib.hid hg2
      clear ho hr2 hg2
      go_wp2_with fail
      go_ret2
      exact ⟨HG3.out.trans HG2.out, .inr ⟨_, HS.out, .inl ⟨rfl, v, rfl, own_lower HO.out HG3.out.size, HR2.out⟩⟩⟩
    · simp only at hok; subst hok
      go_wp2_with fail
      refine ⟨rfl, ?_⟩
      exact ⟨HG3.out.trans hg2, .inr ⟨_, HS.out, .inr ⟨rfl, rfl⟩⟩⟩
  · have HS : Hid (sExpr E L q = none) := by unfold Hid sExpr; rw [if_neg hb]
    have hb' : (kd L q != 6) = true := by simpa using hb
    clear hb
    generalize kd L q = k at *
    go_enter Tryz.func152, Tryz.ntmps152
    go_wp2_with (go_at_call 153; refine (HK.out).mono ?_; rintro e w1 ⟨rfl, hr1, hg1⟩; have HR1 := Lib.hid hr1; have HG1 := Lib.hid hg1; clear hr1 hg1)
    go_ret2
    exact ⟨grown_none HG1.out, .inl ⟨HS.out, rfl, HR1.out⟩⟩

set_option maxRecDepth 100000 in
set_option maxHeartbeats 1600000 in
theorem xPart_any (Br : Nat) (vl : Value) (L : List Mk) (p : Nat) (en : Int) (E : Nat → PR) (w : World) (h : Rdr w Br vl L p en) (hp : p ≤ L.length) (hl : L.length < 4294967296)
    (HU : ∀ q, p ≤ q → Reads 161 Br vl L en q (pUnit E L q)) (hU : PB L p (pUnit E L p)) (hS : ∀ q r, p ≤ q → q ≤ L.length → sPart E L q = some r → SB L q r ∧ (r.ok = false → q < L.length)) :
    Calls Tryz.prog 151 #[.pointer (some ⟨Br, 0, none⟩)] w (PRet Br vl L en w (pPart E L p)) := by
  have HUh := Lib.hid HU
  have HS := Lib.hid hS
  have HB := Lib.hid hU
  have HR := Lib.hid h
  have hb0 := h.lt
  clear HU hS hU h
  have HT : Hid (pPart E L p = if (pUnit E L p).ok then pMany (sPart E L) 4 (L.length - (pUnit E L p).p) (pUnit E L p).p (pUnit E L p).f 1 else pUnit E L p) := rfl
  have hg1 : w.grownBy (w.alloc (.cells #[.pointer (some ⟨Br, 0, none⟩)] 157)) none := World.grownBy_alloc _ _ _
  have HR1 : Hid (Rdr (w.alloc (.cells #[.pointer (some ⟨Br, 0, none⟩)] 157)) Br vl L p en) := HR.out.kept hg1
  have HX1 : Hid (BoxR (w.alloc (.cells #[.pointer (some ⟨Br, 0, none⟩)] 157)) w.heap.size Br) := ⟨Boxed.new w _ _, by omega⟩
  have HG1 := Lib.hid hg1
  clear hg1
  have heg : ∀ args w, (callFunc 162 args).run Tryz.prog w = .ok (.enter 162 args) w := fun _ _ => rfl
  have HEG := Lib.hid heg
  clear heg
  go_enter Tryz.func151, Tryz.ntmps151
  go_wp2_with fail
  refine (HUh.out p (Nat.le_refl _) _ HR1.out hp).mono ?_
  have HU2 : Hid (∀ q, p ≤ q → Reads 161 Br vl L en q (pUnit E L q)) := HUh.out
  generalize hr : pUnit E L p = r at *
  have HRR := Lib.hid hr
  clear hr
  obtain ⟨ok, f, q⟩ := r
  rintro e w2 ⟨hg2, ⟨hok, v, rfl, ho, hr2⟩ | ⟨hok, rfl⟩⟩
  · simp only at hok; subst hok
    have h1 := HB.out.le
    have h2 := HB.out.lt rfl
    have h3 := HB.out.size rfl
    have h4 := HB.out.one rfl
    simp only at h1 h2 h3 h4
    have HX2 := Lib.hid (HX1.out.kept hg2)
    have HR2 := Lib.hid hr2
    have HG2 : Hid (w.grownBy w2 (some Br)) := grown_then (grown_none HG1.out) hg2 (by simp)
    have HO2 : Hid (OwnNd w2 w.heap.size v f.flat) := own_lower ho HG1.out.size
    have HM := Lib.hid (xMany_any Br w.heap.size vl L q en 4 (sPart E L) 162 f v w w2 p HR.out HG2.out HX2.out HR2.out HO2.out h1 hl h4 (by omega) HEG.out (by intro q2 wq hpq hx hr hq; exact xPartMore_any Br _ vl L q2 en E wq hx hr hq (fun w2 h2 h3 => HU2.out q2 (by omega) w2 h2 h3)) (fun q2 r2 hq2 => HS.out q2 r2 (by omega)))
    clear hg2 hr2 ho h1 h2 h3 h4
    go_wp2_with fail
    refine (HM.out).mono ?_
    rintro e w3 ⟨hg3, ⟨hok, v3, rfl, ho3, hr3⟩ | ⟨hok, rfl⟩⟩
    · have HP : Hid (PRet Br vl L en w (pPart E L p) (.returned v3) w3) := by
        unfold Hid; rw [HT.out]; first | rw [if_pos rfl] | rw [if_pos trivial]
        exact ⟨hg3, .inl ⟨hok, v3, rfl, ho3, hr3⟩⟩
      clear hg3 ho3 hr3 hok
      go_wp2_with fail
      go_ret
      exact HP.out
    · have HP : Hid (PRet Br vl L en w (pPart E L p) (.panicked (wrongV (plc L en (pMany (sPart E L) 4 (L.length - q) q f 1).p))) w3) := by
        unfold Hid; rw [HT.out]; first | rw [if_pos rfl] | rw [if_pos trivial]
        exact ⟨hg3, .inr ⟨hok, rfl⟩⟩
      go_wp2_with fail
      exact ⟨rfl, HP.out⟩
  · simp only at hok; subst hok
    go_wp2_with fail
    refine ⟨rfl, ?_⟩
    rw [HT.out]
    exact PRet.bad (grown_then (grown_none HG1.out) hg2 (by simp))

set_option maxRecDepth 100000 in
set_option maxHeartbeats 1600000 in
theorem xExpr_any (Br : Nat) (vl : Value) (L : List Mk) (p : Nat) (en : Int) (E : Nat → PR) (w : World) (h : Rdr w Br vl L p en) (hp : p ≤ L.length) (hl : L.length < 4294967296)
    (HU : ∀ q, p ≤ q → Reads 151 Br vl L en q (pPart E L q)) (hU : PB L p (pPart E L p)) (hS : ∀ q r, p ≤ q → q ≤ L.length → sExpr E L q = some r → SB L q r ∧ (r.ok = false → q < L.length)) :
    Calls Tryz.prog 128 #[.pointer (some ⟨Br, 0, none⟩)] w (PRet Br vl L en w (pExprS E L p)) := by
  have HUh := Lib.hid HU
  have HS := Lib.hid hS
  have HB := Lib.hid hU
  have HR := Lib.hid h
  have hb0 := h.lt
  clear HU hS hU h
  have HT : Hid (pExprS E L p = if (pPart E L p).ok then pMany (sExpr E L) 5 (L.length - (pPart E L p).p) (pPart E L p).p (pPart E L p).f 1 else pPart E L p) := rfl
  have hg1 : w.grownBy (w.alloc (.cells #[.pointer (some ⟨Br, 0, none⟩)] 157)) none := World.grownBy_alloc _ _ _
  have HR1 : Hid (Rdr (w.alloc (.cells #[.pointer (some ⟨Br, 0, none⟩)] 157)) Br vl L p en) := HR.out.kept hg1
  have HX1 : Hid (BoxR (w.alloc (.cells #[.pointer (some ⟨Br, 0, none⟩)] 157)) w.heap.size Br) := ⟨Boxed.new w _ _, by omega⟩
  have HG1 := Lib.hid hg1
  clear hg1
  have heg : ∀ args w, (callFunc 152 args).run Tryz.prog w = .ok (.enter 152 args) w := fun _ _ => rfl
  have HEG := Lib.hid heg
  clear heg
  go_enter Tryz.func128, Tryz.ntmps128
  go_wp2_with fail
  refine (HUh.out p (Nat.le_refl _) _ HR1.out hp).mono ?_
  have HU2 : Hid (∀ q, p ≤ q → Reads 151 Br vl L en q (pPart E L q)) := HUh.out
  generalize hr : pPart E L p = r at *
  have HRR := Lib.hid hr
  clear hr
  obtain ⟨ok, f, q⟩ := r
  rintro e w2 ⟨hg2, ⟨hok, v, rfl, ho, hr2⟩ | ⟨hok, rfl⟩⟩
  · simp only at hok; subst hok
    have h1 := HB.out.le
    have h2 := HB.out.lt rfl
    have h3 := HB.out.size rfl
    have h4 := HB.out.one rfl
    simp only at h1 h2 h3 h4
    have HX2 := Lib.hid (HX1.out.kept hg2)
    have HR2 := Lib.hid hr2
    have HG2 : Hid (w.grownBy w2 (some Br)) := grown_then (grown_none HG1.out) hg2 (by simp)
    have HO2 : Hid (OwnNd w2 w.heap.size v f.flat) := own_lower ho HG1.out.size
    have HM := Lib.hid (xMany_any Br w.heap.size vl L q en 5 (sExpr E L) 152 f v w w2 p HR.out HG2.out HX2.out HR2.out HO2.out h1 hl h4 (by omega) HEG.out (by intro q2 wq hpq hx hr hq; exact xExprMore_any Br _ vl L q2 en E wq hx hr hq hl (fun w2 h2 h3 => HU2.out (q2 + 1) (by omega) w2 h2 h3)) (fun q2 r2 hq2 => HS.out q2 r2 (by omega)))
    clear hg2 hr2 ho h1 h2 h3 h4
    go_wp2_with fail
    refine (HM.out).mono ?_
    rintro e w3 ⟨hg3, ⟨hok, v3, rfl, ho3, hr3⟩ | ⟨hok, rfl⟩⟩
    · have HP : Hid (PRet Br vl L en w (pExprS E L p) (.returned v3) w3) := by
        unfold Hid; rw [HT.out]; first | rw [if_pos rfl] | rw [if_pos trivial]
        exact ⟨hg3, .inl ⟨hok, v3, rfl, ho3, hr3⟩⟩
      clear hg3 ho3 hr3 hok
      go_wp2_with fail
      go_ret
      exact HP.out
    · have HP : Hid (PRet Br vl L en w (pExprS E L p) (.panicked (wrongV (plc L en (pMany (sExpr E L) 5 (L.length - q) q f 1).p))) w3) := by
        unfold Hid; rw [HT.out]; first | rw [if_pos rfl] | rw [if_pos trivial]
        exact ⟨hg3, .inr ⟨hok, rfl⟩⟩
      go_wp2_with fail
      exact ⟨rfl, HP.out⟩
  · simp only at hok; subst hok
    go_wp2_with fail
    refine ⟨rfl, ?_⟩
    rw [HT.out]
    exact PRet.bad (grown_then (grown_none HG1.out) hg2 (by simp))
end Go.Proofs.YtkmjmfcanlknjaaGreat
namespace Go.Proofs.YtkmjmfcanlknjaaGreat
open Go.RowKit Go.Shelf

theorem sPart_b {E : Nat → PR} {L : List Mk} {q : Nat} {r : PR} (hq : q ≤ L.length) (hE : ∀ x, q < x → x ≤ L.length → PB L x (E x)) (h : sPart E L q = some r) : SB L q r ∧ (r.ok = false → q < L.length) := by
  unfold sPart at h
  split at h
  · rename_i hb
    simp only [Option.some.injEq] at h
    subst h
    have G := pUnit_b (E := E) hq (fun h => hE _ (by omega) h)
    exact ⟨⟨G.le, G.lt, fun h => by have := G.size h; omega, G.one⟩, fun _ => begins_lt hb⟩
  · cases h
theorem sExpr_b {E : Nat → PR} {L : List Mk} {q : Nat} {r : PR} (hE : ∀ x, q < x → x ≤ L.length → PB L x (E x)) (h : sExpr E L q = some r) : SB L q r ∧ (r.ok = false → q < L.length) := by
  unfold sExpr at h
  split at h
  · rename_i hb
    simp only [Option.some.injEq] at h
    subst h
    have hlt := kd_lt (L := L) (p := q) (by omega)
    have G := pPart_b (E := E) (p := q + 1) hlt (fun x hx h => hE x (by omega) h)
    exact ⟨⟨G.le, fun h => by have := G.lt h; omega, fun h => by have := G.size h; have := G.lt h; omega, G.one⟩, fun _ => hlt⟩
  · cases h
theorem reads_expr (Br : Nat) (vl : Value) (L : List Mk) (en : Int) (hl : L.length < 4294967296) : ∀ (n p : Nat), L.length - p < n → Reads 128 Br vl L en p (pExpr L n p)
  | 0, p, h => by omega
  | n + 1, p, h => by
    have ih : ∀ q, p < q → q ≤ L.length → Reads 128 Br vl L en q (pExpr L n q) := fun q hq hql => reads_expr Br vl L en hl n q (by omega)
    have hE : ∀ q, q ≤ L.length → PB L q (pExpr L n q) := fun q hq => pExpr_b L n q hq
    have hA : ∀ q, p ≤ q → Reads 166 Br vl L en q (pAtom (pExpr L n) L q) := fun q hq w hr hql =>
      xAtom_any Br vl L q en (pExpr L n) w hr hql hl (fun w2 h2 h3 => ih (q + 1) (by omega) h3 w2 h2 h3) (fun h => (hE _ h).le)
    have hU : ∀ q, p ≤ q → Reads 161 Br vl L en q (pUnit (pExpr L n) L q) := fun q hq w hr hql =>
      xUnit_any Br vl L q en (pExpr L n) w hr hql hl (hA q hq w hr hql) (pAtom_b hql (fun h => hE _ h))
    have hP : ∀ q, p ≤ q → Reads 151 Br vl L en q (pPart (pExpr L n) L q) := fun q hq w hr hql =>
      xPart_any Br vl L q en (pExpr L n) w hr hql hl (fun x hx => hU x (by omega)) (pUnit_b hql (fun h => hE _ h)) (fun x r _ hx2 hs => sPart_b hx2 (fun y _ hy => hE y hy) hs)
    intro w hr hql
    exact xExpr_any Br vl L p en (pExpr L n) w hr hql hl (fun x hx => hP x hx) (pPart_b hql (fun y _ hy => hE y hy)) (fun x r _ hx2 hs => sExpr_b (fun y _ hy => hE y hy) hs)
end Go.Proofs.YtkmjmfcanlknjaaGreat
namespace Go.Proofs.YtkmjmfcanlknjaaGreat
open Go.RowKit Go.Shelf

set_option maxRecDepth 100000 in
set_option maxHeartbeats 800000 in
theorem xCatch_idle (a b c : Addr) (w : World) :
    CallsD Tryz.prog 127 #[.pointer (some a), .pointer (some b), .pointer (some c)] .returning w fun e u' w' => e = .returned (.tuple #[]) ∧ u' = .returning ∧ w' = w := by
  refine callsD_of_wpS Tryz.func127 rfl fun c₀ cs hu => ?_
  apply wpS_seq
  apply wpS_region
  simp [wpOpsS, go_sem, recoverD, hu, Tryz.ntmps127, Exit.thenS]
  refine wpS_of_wp ?_
  simp only [Array.replicate_succ, Array.replicate_zero, List.push_toArray, List.append_toArray, List.nil_append, List.cons_append, List.setIfInBounds_toArray, List.set_cons_succ, List.set_cons_zero]
  go_wp2
  cases c₀
  simp_all [bodyPostS, results, Tryz.results127]

set_option maxRecDepth 100000 in
set_option maxHeartbeats 800000 in
theorem xCatch_panic (b2 b3 b4 : Nat) (x : Int) (older : List PanicEntry) (w : World) (v2 v3 v4 : Value) (h2 : Boxed w b2 45 v2) (h3 : Boxed w b3 3 v3) (h4 : Boxed w b4 23 v4) (n23 : b2 ≠ b3) (n24 : b2 ≠ b4) (n34 : b3 ≠ b4) :
    CallsD Tryz.prog 127 #[.pointer (some ⟨b2, 0, none⟩), .pointer (some ⟨b3, 0, none⟩), .pointer (some ⟨b4, 0, none⟩)] (.panicking ({ v := .iface 155 (.agg #[.int .i64 x]), recovered := false } :: older)) w fun e u' w' =>
      e = .returned (.tuple #[]) ∧ u' = .panicking ({ v := .iface 155 (.agg #[.int .i64 x]), recovered := true } :: older) ∧
        (Boxed w' b2 45 (.slice none 0 0) ∧ Boxed w' b3 3 (.int .i64 x) ∧ Boxed w' b4 23 (.int .i64 172) ∧ ∀ B w0, Below B w0 w → B ≤ b2 → B ≤ b3 → B ≤ b4 → B ≤ w.heap.size → Below B w0 w') := by
  have hta : ∀ w, (Instr.typeAssert (.iface 155 (.agg #[.int .i64 x])) 20 155 true).run Tryz.prog w = .ok (.tuple #[.agg #[.int .i64 x], .bool true]) w := fun _ => by kernel_rfl
  have c2 := h2.cell
  have c3 := h3.cell
  have c4 := h4.cell
  have f2 := h2.frozen
  have f3 := h3.frozen
  have f4 := h4.frozen
  have l2 := h2.lt
  have l3 := h3.lt
  have l4 := h4.lt
  refine callsD_of_wpS Tryz.func127 rfl fun c₀ cs hu => ?_
  apply wpS_seq
  apply wpS_region
  simp [wpOpsS, go_sem, recoverD, hu, Tryz.ntmps127, Exit.thenS]
  refine wpS_of_wp ?_
  simp only [Array.replicate_succ, Array.replicate_zero, List.push_toArray, List.append_toArray, List.nil_append, List.cons_append, List.setIfInBounds_toArray, List.set_cons_succ, List.set_cons_zero]
  go_wp2
  go_region
  refine ⟨rfl, _, rfl, _, by simp [results, Tryz.results127], rfl, rfl, ?_⟩
  have k2 : Boxed (((w.setCell ⟨b2, 0, none⟩ (.slice none 0 0)).setCell ⟨b3, 0, none⟩ (.int .i64 x)).setCell ⟨b4, 0, none⟩ (.int .i64 172)) b2 45 (.slice none 0 0) := ((h2.set _).other n23 _).other n24 _
  have k3 : Boxed (((w.setCell ⟨b2, 0, none⟩ (.slice none 0 0)).setCell ⟨b3, 0, none⟩ (.int .i64 x)).setCell ⟨b4, 0, none⟩ (.int .i64 172)) b3 3 (.int .i64 x) := ((h3.other (Ne.symm n23) _).set _).other n34 _
  have k4 : Boxed (((w.setCell ⟨b2, 0, none⟩ (.slice none 0 0)).setCell ⟨b3, 0, none⟩ (.int .i64 x)).setCell ⟨b4, 0, none⟩ (.int .i64 172)) b4 23 (.int .i64 172) := ((h4.other (Ne.symm n24) _).other (Ne.symm n34) _).set _
  refine ⟨(k2.alloc _).kept (grown_drewN _ 1 none) (by simp), (k3.alloc _).kept (grown_drewN _ 1 none) (by simp), (k4.alloc _).kept (grown_drewN _ 1 none) (by simp), ?_⟩
  intro B w0 hb e2 e3 e4 e5
  exact ((((hb.setCell (p := ⟨b2, 0, none⟩) e2 _).setCell (p := ⟨b3, 0, none⟩) e3 _).setCell (p := ⟨b4, 0, none⟩) e4 _).alloc (by simpa [World.setCell] using e5) _).drew
end Go.Proofs.YtkmjmfcanlknjaaGreat
namespace Go.Proofs.YtkmjmfcanlknjaaGreat
open Go.RowKit

/-! ### plain: a text cut off where its marks end -/
theorem skipTo_run (s : ByteArray) (a : Nat) : ∀ n, a + n ≤ s.size → (∀ j, j < n → blankI (bt s (a + j)) = true) → skipTo s a = skipTo s (a + n) := by
  intro n
  induction n with
  | zero => intro _ _; rfl
  | succ n ih =>
    intro h hb
    rw [ih (by omega) (fun j hj => hb j (by omega)), skipTo_yes s (a + n) (by omega) (hb n (by omega))]
    rfl
theorem wordTo_run' (s : ByteArray) (a : Nat) : ∀ n, a + n ≤ s.size → (∀ j, j < n → innerI (bt s (a + j)) = true) → wordTo s a = wordTo s (a + n) := by
  intro n
  induction n with
  | zero => intro _ _; rfl
  | succ n ih =>
    intro h hb
    rw [ih (by omega) (fun j hj => hb j (by omega)), wordTo_yes s (a + n) (by omega) (hb n (by omega))]
    rfl
theorem extract_pre (s : ByteArray) (q a b : Nat) (hb : b ≤ q) : (s.extract 0 q).extract a b = s.extract a b := by
  apply ByteArray.ext
  simp only [ByteArray.data_extract, Array.extract_extract, Nat.zero_add]
  congr 1
  omega
theorem cut_pre (s : ByteArray) : ∀ (n k q : Nat), k ≤ s.size → s.size - k ≤ n → (cut s k).2 = q → cut (s.extract 0 q) k = ((cut s k).1, q)
  | n, k, q, hk, hn, hq => by
    have hql : q ≤ s.size := by rw [← hq]; exact (cut_len s s.size k hk (by omega)).2.2
    have hkq : k ≤ q := by rw [← hq]; exact (cut_len s s.size k hk (by omega)).2.1
    have hts : (s.extract 0 q).size = q := by rw [ByteArray.size_extract]; omega
    have hbt : ∀ i, i < q → bt (s.extract 0 q) i = bt s i := fun i hi => by
      have := bt_extract s 0 q i hql (by omega)
      rwa [Nat.zero_add] at this
    by_cases hz : (nextM s k).k = 0
    · rw [cut_none s k hk hz] at hq ⊢
      rw [nextM_p] at hq
      simp only at hq
      have h1 : skipTo (s.extract 0 q) k = q := by
        rw [skipTo_run (s.extract 0 q) k (q - k) (by omega) (fun j hj => by
          rw [hbt _ (by omega)]
          exact (skip_blank s _ k (k + j) rfl (by omega) (by omega)).1), show k + (q - k) = q from by omega]
        exact skipTo_end _ _ (by omega)
      have h2 : (nextM (s.extract 0 q) k).k = 0 := by
        unfold nextM markAt; rw [h1, if_neg (by omega)]
      rw [cut_none _ k (by omega) h2, nextM_p, h1]
    · have M := mfacts s k hz
      have h1 := M.one
      have h2 := M.le
      have h3 := M.ge
      rw [cut_some s k hk hz] at hq ⊢
      simp only at hq
      have hE : (nextM s k).p + (nextM s k).t.size ≤ q := by rw [← hq]; exact (cut_len s s.size _ h2 (by omega)).2.1
      have hp : (nextM s k).p = skipTo s k := nextM_p s k
      have hsk : skipTo (s.extract 0 q) k = (nextM s k).p := by
        have e1 : skipTo (s.extract 0 q) k = skipTo (s.extract 0 q) (nextM s k).p := by
          rw [skipTo_run (s.extract 0 q) k ((nextM s k).p - k) (by omega) (fun j hj => by
            rw [hbt _ (by omega)]
            exact (skip_blank s _ k (k + j) rfl (by omega) (by omega)).1), show k + ((nextM s k).p - k) = (nextM s k).p from by omega]
        rw [e1]
        refine skipTo_no _ _ (by omega) ?_
        rw [hbt _ (by omega)]
        refine kindI_blank _ ?_
        rw [M.first]; exact hz
      have hnm : nextM (s.extract 0 q) k = nextM s k := by
        have e2 : nextM s k = ⟨kindI (bt s (nextM s k).p), (nextM s k).p, s.extract (nextM s k).p (endM s (nextM s k).p)⟩ := by
          conv => lhs; unfold nextM markAt
          rw [← hp, if_pos ⟨by omega, by rw [M.first]; exact hz⟩]; rfl
        have e3 : (nextM s k).p + (nextM s k).t.size = endM s (nextM s k).p := by
          have hb := endM_b s (nextM s k).p (by omega)
          have := congrArg (fun m : Mk => m.t.size) e2
          simp only [ByteArray.size_extract] at this
          omega
        have e4 : endM (s.extract 0 q) (nextM s k).p = endM s (nextM s k).p := by
          unfold endM
          rw [hbt _ (by omega)]
          by_cases h4 : kindI (bt s (nextM s k).p) ≤ 3
          · rw [if_pos h4, if_pos h4]
            have e5 : endM s (nextM s k).p = wordTo s ((nextM s k).p + 1) := by unfold endM; rw [if_pos h4]
            have hr := wordTo_run' (s.extract 0 q) ((nextM s k).p + 1) ((nextM s k).t.size - 1) (by omega) (fun j hj => by
              rw [hbt _ (by omega)]
              exact (word_inner s _ ((nextM s k).p + 1) _ rfl (by omega) (by rw [← e5, ← e3]; omega)).1)
            rw [hr, show (nextM s k).p + 1 + ((nextM s k).t.size - 1) = (nextM s k).p + (nextM s k).t.size from by omega, ← e5, e3]
            by_cases hq2 : endM s (nextM s k).p < q
            · refine wordTo_no _ _ (by omega) ?_
              rw [hbt _ hq2, e5]
              exact word_max s _ _ rfl (by rw [← e5]; omega)
            · exact wordTo_end _ _ (by omega)
          · rw [if_neg h4, if_neg h4]
        have e6 : nextM (s.extract 0 q) k = ⟨kindI (bt (s.extract 0 q) (nextM s k).p), (nextM s k).p, (s.extract 0 q).extract (nextM s k).p (endM (s.extract 0 q) (nextM s k).p)⟩ := by
          conv => lhs; unfold nextM markAt
          rw [hsk, if_pos ⟨by omega, by rw [hbt _ (by omega), M.first]; exact hz⟩]; rfl
        rw [e6, e4, hbt _ (by omega), extract_pre s q _ _ (by omega)]
        exact e2.symm
      have hnz : (nextM (s.extract 0 q) k).k ≠ 0 := by rw [hnm]; exact hz
      cases n with
      | zero => omega
      | succ n =>
        have ih := cut_pre s n ((nextM s k).p + (nextM s k).t.size) q h2 (by omega) hq
        rw [cut_some _ k (by omega) hnz, hnm, ih]
end Go.Proofs.YtkmjmfcanlknjaaGreat
namespace Go.Proofs.YtkmjmfcanlknjaaGreat
open Go.RowKit Go.Shelf

def parsed (s : ByteArray) : PR := pExpr (cut s 0).1 ((cut s 0).1.length + 1) 0
def readS (s : ByteArray) : List Nd × Int × Int :=
  if 2048 < s.size then ([], 0, 3)
  else if (parsed s).ok = true ∧ (parsed s).p = (cut s 0).1.length ∧ (cut s 0).2 = s.size then ((parsed s).f.flat, 0, 0)
  else ([], plc (cut s 0).1 (cut s 0).2 (parsed s).p, 172)
/-- what Read leaves -/
def RRet (w : World) (x : List Nd × Int × Int) (e : Ending) (w' : World) : Prop :=
  ∃ v, e = .returned (.tuple #[v, .int .i64 x.2.1, .int .i64 x.2.2]) ∧ OwnNd w' w.heap.size v x.1 ∧ Below w.heap.size w w'

theorem read_results (tmps : Array Value) (b2 b3 b4 : Nat) (v2 : Value) (x e : Int) (w : World) (h2 : tmps[2]? = some (.pointer (some ⟨b2, 0, none⟩))) (h3 : tmps[3]? = some (.pointer (some ⟨b3, 0, none⟩))) (h4 : tmps[4]? = some (.pointer (some ⟨b4, 0, none⟩)))
    (k2 : Boxed w b2 45 v2) (k3 : Boxed w b3 3 (.int .i64 x)) (k4 : Boxed w b4 23 (.int .i64 e)) : (results Tryz.f113 tmps).run Tryz.prog w = .ok (.tuple #[v2, .int .i64 x, .int .i64 e]) w := by
  have c2 := k2.cell
  have c3 := k3.cell
  have c4 := k4.cell
  simp [results, Tryz.results113, go_sem, h2, h3, h4, c2, c3, c4]
set_option maxRecDepth 100000 in
set_option maxHeartbeats 1600000 in
theorem xRead_long (s : ByteArray) (w : World) (hs : 2048 < s.size) :
    Calls Tryz.prog 113 #[.string s] w (RRet w ([], 0, 3)) := by
  have hmf : ∀ (fn : Fn) (first cap : Array Value) (w : World), (Instr.makeFunc fn first cap).run Tryz.prog w = .ok (.func fn first cap) w := fun _ _ _ _ => rfl
  go_enter_defers Tryz.func113, Tryz.ntmps113
  go_wp2
  have k2 := ((Boxed.new w 45 (.slice none 0 0)).alloc (.cells #[.int .i64 0] 3)).alloc (.cells #[.int .i64 3] 23)
  have k3 := (Boxed.new (w.alloc (.cells #[.slice none 0 0] 45)) 3 (.int .i64 0)).alloc (.cells #[.int .i64 3] 23)
  have k4 := Boxed.new ((w.alloc (.cells #[.slice none 0 0] 45)).alloc (.cells #[.int .i64 0] 3)) 23 (.int .i64 3)
  exact ⟨_, read_results _ _ _ _ _ _ _ _ (by simp) (by simp) (by simp) k2 k3 k4, .slice none 0 0, rfl, World.ownsRow_nil _ _ _ _, below3 _ _ _ _⟩

/-- the deferred call that Read lays -/
def rcv (b2 b3 b4 : Nat) : List Deferred := [{ target := .fn (.func 127) #[.pointer (some ⟨b2, 0, none⟩), .pointer (some ⟨b3, 0, none⟩), .pointer (some ⟨b4, 0, none⟩)], args := #[] }]
theorem door_panic {w w7 : World} {tmps : Array Value} {b2 b3 b4 : Nat} {x : Int} {v2 v3 v4 : Value} (h2 : tmps[2]? = some (.pointer (some ⟨b2, 0, none⟩))) (h3 : tmps[3]? = some (.pointer (some ⟨b3, 0, none⟩))) (h4 : tmps[4]? = some (.pointer (some ⟨b4, 0, none⟩)))
    (k2 : Boxed w7 b2 45 v2) (k3 : Boxed w7 b3 3 v3) (k4 : Boxed w7 b4 23 v4) (n23 : b2 ≠ b3) (n24 : b2 ≠ b4) (n34 : b3 ≠ b4) (hb : Below w.heap.size w w7) (e2 : w.heap.size ≤ b2) (e3 : w.heap.size ≤ b3) (e4 : w.heap.size ≤ b4) :
    bodyPostD Tryz.prog Tryz.f113 (RRet w ([], x, 172)) (.panic (wrongV x)) { tmps := tmps, defers := rcv b2 b3 b4 } w7 := by
  refine leaves_cons (f := 127) (args := #[.pointer (some ⟨b2, 0, none⟩), .pointer (some ⟨b3, 0, none⟩), .pointer (some ⟨b4, 0, none⟩)]) (by simp [wrongV]) (by simp [go_sem]) ?_
  refine (xCatch_panic b2 b3 b4 x [] w7 v2 v3 v4 k2 k3 k4 n23 n24 n34).mono ?_
  rintro e u' w8 ⟨rfl, rfl, c2, c3, c4, hw⟩
  exact ⟨_, read_results _ _ _ _ _ _ _ _ h2 h3 h4 c2 c3 c4, _, rfl, World.ownsRow_nil _ _ _ _, hw _ _ hb e2 e3 e4 hb.size⟩
theorem door_ret {w w7 : World} {tmps : Array Value} {b2 b3 b4 : Nat} {v2 : Value} {l : List Nd} (h2 : tmps[2]? = some (.pointer (some ⟨b2, 0, none⟩))) (h3 : tmps[3]? = some (.pointer (some ⟨b3, 0, none⟩))) (h4 : tmps[4]? = some (.pointer (some ⟨b4, 0, none⟩)))
    (k2 : Boxed w7 b2 45 v2) (k3 : Boxed w7 b3 3 (.int .i64 0)) (k4 : Boxed w7 b4 23 (.int .i64 0)) (hb : Below w.heap.size w w7) (ho : OwnNd w7 w.heap.size v2 l) :
    bodyPostD Tryz.prog Tryz.f113 (RRet w (l, 0, 0)) .ret { tmps := tmps, defers := rcv b2 b3 b4 } w7 := by
  refine leaves_cons (f := 127) (args := #[.pointer (some ⟨b2, 0, none⟩), .pointer (some ⟨b3, 0, none⟩), .pointer (some ⟨b4, 0, none⟩)]) (by simp) (by simp [go_sem]) ?_
  refine (xCatch_idle _ _ _ w7).mono ?_
  rintro e u' w8 ⟨rfl, rfl, rfl⟩
  exact ⟨_, read_results _ _ _ _ _ _ _ _ h2 h3 h4 k2 k3 k4, _, rfl, ho, hb⟩
theorem rdr_laid {w : World} {Br B : Nat} {v0 v1 : Value} {L : List Mk} {p : Nat} {en : Int} (h : w.heap[Br]? = some (.cells #[v0, .int .i64 p, .int .i64 en] 159 (0, 0))) (ho : OwnMk w B v1 L) (hB : Br < B) : Rdr (w.setCell ⟨Br, 0, none⟩ v1) Br v1 L p en := by
  have ho2 : OwnMk (w.setCell ⟨Br, 0, none⟩ v1) B v1 L := own_grown ho (grown_set w Br 0 v1) (fun j hj => by simp at hj; subst hj; exact .inl hB)
  refine ⟨?_, RdMk.of_own ho2, ?_⟩
  · simp only [World.setCell]
    rw [Array.getElem?_modify, if_pos rfl, h]
    rfl
  · rintro a n c rfl
    have := own_block ho a.block
    rcases ho.2 with ⟨e, _⟩ | ⟨g, cap, cur, e, h3, _⟩
    · cases e
    · simp at e; obtain ⟨rfl, -, -⟩ := e; simp only; omega
/-- the world in which Read begins to read -/
structure RdBase (w w4 : World) (b1 b2 b3 : Nat) : Prop where
  below : Below w.heap.size w w4
  k2 : Boxed w4 w.heap.size 45 (.slice none 0 0)
  k3 : Boxed w4 b1 3 (.int .i64 0)
  k4 : Boxed w4 b2 23 (.int .i64 0)
  lt : b3 < w4.heap.size
  e1 : b1 = w.heap.size + 1
  e2 : b2 = w.heap.size + 1 + 1
  e3 : b3 = w.heap.size + 1 + 1 + 1
theorem read_base (w : World) (n : Int) : RdBase w ((((w.alloc (.cells #[.slice none 0 0] 45)).alloc (.cells #[.int .i64 0] 3)).alloc (.cells #[.int .i64 0] 23)).alloc (.cells #[.slice none 0 0, .int .i64 0, .int .i64 n] 159)) (w.heap.size + 1) (w.heap.size + 1 + 1) (w.heap.size + 1 + 1 + 1) ∧
    ((((w.alloc (.cells #[.slice none 0 0] 45)).alloc (.cells #[.int .i64 0] 3)).alloc (.cells #[.int .i64 0] 23)).alloc (.cells #[.slice none 0 0, .int .i64 0, .int .i64 n] 159)).heap[w.heap.size + 1 + 1 + 1]? = some (.cells #[.slice none 0 0, .int .i64 0, .int .i64 n] 159 (0, 0)) := by
  refine ⟨⟨below4 _ _ _ _ _, ?_, ?_, ?_, by simp, rfl, rfl, rfl⟩, ?_⟩
  · exact (((Boxed.new w _ _).alloc _).alloc _).alloc _
  · have h := ((Boxed.new (w.alloc (.cells #[.slice none 0 0] 45)) 3 (.int .i64 0)).alloc (.cells #[.int .i64 0] 23)).alloc (.cells #[.slice none 0 0, .int .i64 0, .int .i64 n] 159)
    simpa using h
  · have h := (Boxed.new ((w.alloc (.cells #[.slice none 0 0] 45)).alloc (.cells #[.int .i64 0] 3)) 23 (.int .i64 0)).alloc (.cells #[.slice none 0 0, .int .i64 0, .int .i64 n] 159)
    simpa using h
  · have h := World.alloc_heap_new (((w.alloc (.cells #[.slice none 0 0] 45)).alloc (.cells #[.int .i64 0] 3)).alloc (.cells #[.int .i64 0] 23)) (.cells #[.slice none 0 0, .int .i64 0, .int .i64 n] 159)
    simpa using h

set_option maxRecDepth 100000 in
set_option maxHeartbeats 3200000 in
theorem xRead_good (s : ByteArray) (w : World) (hs : ¬ 2048 < s.size) (hq : (cut s 0).2 = s.size) :
    Calls Tryz.prog 113 #[.string s] w (RRet w (readS s)) := by
  have hmf : ∀ (fn : Fn) (first cap : Array Value) (w : World), (Instr.makeFunc fn first cap).run Tryz.prog w = .ok (.func fn first cap) w := fun _ _ _ _ => rfl
  have HS := Lib.hid (scan_any s (by omega))
  have HE : scanM s = ((cut s 0).1, 0, 0) := by unfold scanM; rw [if_neg (by omega)]
  rw [HE] at HS
  clear HE
  have hlen := (cut_len s s.size 0 (by omega) (by omega)).1
  have HR : Hid (readS s = if (parsed s).ok = true ∧ (parsed s).p = (cut s 0).1.length then ((parsed s).f.flat, 0, 0) else ([], plc (cut s 0).1 s.size (parsed s).p, 172)) := by
    unfold Hid readS; rw [if_neg hs, hq]; simp
  have HP : Hid (∀ Br vl w, Rdr w Br vl (cut s 0).1 0 s.size → Calls Tryz.prog 128 #[.pointer (some ⟨Br, 0, none⟩)] w (PRet Br vl (cut s 0).1 s.size w (parsed s))) :=
    fun Br vl w h => reads_expr Br vl _ _ (by omega) _ 0 (by omega) w h (by omega)
  have hpb := (pExpr_b (cut s 0).1 ((cut s 0).1.length + 1) 0 (by omega)).le
  change (parsed s).p ≤ _ at hpb
  generalize parsed s = r at *
  obtain ⟨ok, f, p⟩ := r
  generalize (cut s 0).1 = L at *
  clear hq
  go_enter_defers Tryz.func113, Tryz.ntmps113
  go_wp2_with fail
  obtain ⟨hB, hbox⟩ := read_base w s.size
  generalize hb1 : w.heap.size + 1 = b1 at *
  generalize hb2 : b1 + 1 = b2 at *
  generalize hb3 : b2 + 1 = b3 at *
  clear hb1 hb2 hb3
  generalize (((w.alloc (.cells #[.slice none 0 0] 45)).alloc (.cells #[.int .i64 0] 3)).alloc (.cells #[.int .i64 0] 23)).alloc (.cells #[.slice none 0 0, .int .i64 0, .int .i64 s.size] 159) = w4 at *
  have HB := Lib.hid hB
  have HBox := Lib.hid hbox
  have hb3 := hB.lt
  clear hB hbox
  refine (HS.out _).mono ?_
  rintro e w5 ⟨v1, rfl, ho1, hbl1⟩
  have HO1 := Lib.hid ho1
  have HG5 := Lib.hid (grown_below hbl1)
  have HBox5 : Hid (w5.heap[b3]? = some (.cells #[.slice none 0 0, .int .i64 0, .int .i64 s.size] 159 (0, 0))) := (hbl1.block b3 hb3).trans HBox.out
  have c0 : w5.cell? ⟨b3, 0, none⟩ = some (.slice none 0 0) := by have := HBox5.out; simp [World.cell?, this]
  have c1 : w5.frozen? ⟨b3, 0, none⟩ = false := by have := HBox5.out; simp [World.frozen?, this]
  obtain ⟨_, ao, cap, rfl, -⟩ := Rd.of_owns ho1
  clear ho1 hbl1
  go_wp2_with fail
  have HR6 := Lib.hid (rdr_laid HBox5.out HO1.out hb3)
  have HM6 := Lib.hid (own_grown HO1.out (grown_set w5 b3 0 (.slice ao L.length cap)) (fun j hj => by simp at hj; subst hj; exact .inl hb3))
  have HG6 := Lib.hid (grown_then (grown_none (row := some b3) HG5.out) (grown_set w5 b3 0 (.slice ao L.length cap)) (by simp))
  clear c0 c1 HBox5 HO1 HG5 HBox
  generalize w5.setCell ⟨b3, 0, none⟩ (.slice ao L.length cap) = w6 at *
  refine (HP.out _ _ _ HR6.out).mono ?_
  have e1 := HB.out.e1
  have e2 := HB.out.e2
  have e3 := HB.out.e3
  have hw4 := HB.out.below.size
  have HE := Lib.hid (show w.heap.size < b1 ∧ b1 < b2 ∧ b2 < b3 from by omega)
  rintro e w7 ⟨hg7, hcase⟩
  have HG7 := Lib.hid (HG6.out.trans hg7)
  have HB7 : Hid (Below w.heap.size w w7) := HB.out.below.trans ⟨HG7.out.os, HG7.out.tape, HG7.out.output, HG7.out.size, fun k hk => HG7.out.block k (by omega) (by simp; omega)⟩
  have K2 : Hid (Boxed w7 w.heap.size 45 (.slice none 0 0)) := HB.out.k2.kept HG7.out (by simp; omega)
  have K3 : Hid (Boxed w7 b1 3 (.int .i64 0)) := HB.out.k3.kept HG7.out (by simp; omega)
  have K4 : Hid (Boxed w7 b2 23 (.int .i64 0)) := HB.out.k4.kept HG7.out (by simp; omega)
  have HM7 : Hid (OwnMk w7 w4.heap.size (.slice ao L.length cap) L) := own_grown HM6.out hg7 (fun j hj => by simp at hj; subst hj; exact .inl hb3)
  have HSz : Hid (w.heap.size ≤ w6.heap.size) := by have := HG6.out.size; unfold Hid; omega
  clear hg7 e1 e2 e3 hw4
  rcases hcase with ⟨hok, v, rfl, ho7, hr7⟩ | ⟨hok, rfl⟩
  · simp only at hok
    subst hok
    have HO7 : Hid (OwnNd w7 w.heap.size v f.flat) := own_lower ho7 HSz.out
    have HR7 := Lib.hid hr7
    have c2 := K2.out.cell
    have f2 := K2.out.frozen
    clear ho7 hr7
    obtain ⟨_, ao2, cp2, rfl, -⟩ := Rd.of_owns HO7.out
    have HG8 := Lib.hid (grown_set w7 w.heap.size 0 (.slice ao2 f.flat.length cp2))
    have K2' : Hid (Boxed (w7.setCell ⟨w.heap.size, 0, none⟩ (.slice ao2 f.flat.length cp2)) w.heap.size 45 (.slice ao2 f.flat.length cp2)) := K2.out.set _
    have hE := HE.out
    have hw4 := HB.out.below.size
    have HR8 : Hid (Rdr (w7.setCell ⟨w.heap.size, 0, none⟩ (.slice ao2 f.flat.length cp2)) b3 (.slice ao L.length cap) L p s.size) := by
      refine ⟨(HG8.out.block b3 HR7.out.lt (by simp; omega)).trans HR7.out.box, ?_, HR7.out.apart⟩
      exact RdMk.of_own (own_grown (B := w4.heap.size) HM7.out HG8.out (fun j hj => by simp at hj; subst hj; left; have := HB.out.lt; omega))
    have HO8 : Hid (OwnNd (w7.setCell ⟨w.heap.size, 0, none⟩ (.slice ao2 f.flat.length cp2)) w.heap.size (.slice ao2 f.flat.length cp2) f.flat) := own_grown HO7.out HG8.out (fun j hj => by
      simp at hj; subst hj
      exact .inr (fun e => K2.out.not_row (by decide) HO7.out e.symm))
    clear hE hw4
    by_cases hlt : p < L.length
    · have hcv : decide ((p : Int) < L.length) = true := by simp; omega
      go_wp2_with fail
      generalize w7.setCell ⟨w.heap.size, 0, none⟩ (.slice ao2 f.flat.length cp2) = w8 at *
      obtain ⟨d0, d1, d2, d3⟩ := HR8.out.cells
      clear c2 f2
      go_quiet (fail)
      clear d0 d1 d2 d3
      have HG9 := Lib.hid (grown_drewN w8 nq none)
      generalize w8.drewN nq = w9 at *
      have HR9 := Lib.hid (HR8.out.kept HG9.out)
      go_wp2_with (go_at_call 129; refine (xFail_any b3 _ L p _ _ HR9.out hpb).mono ?_; rintro e w10 ⟨rfl, hg10⟩; have HG10 := Lib.hid hg10; clear hg10)
      rw [HR.out, if_neg (by simp; omega)]
      have hE := HE.out
      have hg : w7.grownBy w10 (some w.heap.size) := grown_then HG8.out (grown_then HG9.out HG10.out (by simp)) (by simp)
      have hg8 : w8.grownBy w10 none := grown_then HG9.out HG10.out (by simp)
      exact door_panic (by simp) (by simp) (by simp) (K2'.out.kept hg8 (by simp)) (K3.out.kept hg (by simp; omega)) (K4.out.kept hg (by simp; omega)) (by omega) (by omega) (by omega) (HB7.out.grown hg HB7.out.size (by simp)) (Nat.le_refl _) (by omega) (by omega)
    · have hcv : decide ((p : Int) < L.length) = false := by simp; omega
      obtain rfl : p = L.length := by omega
      go_wp2_with fail
      have c8 := K2'.out.cell
      have f8 := K2'.out.frozen
      have hE := HE.out
      have K3' : Hid (Boxed (w7.setCell ⟨w.heap.size, 0, none⟩ (.slice ao2 f.flat.length cp2)) b1 3 (.int .i64 0)) := K3.out.kept HG8.out (by simp; omega)
      have K4' : Hid (Boxed (w7.setCell ⟨w.heap.size, 0, none⟩ (.slice ao2 f.flat.length cp2)) b2 23 (.int .i64 0)) := K4.out.kept HG8.out (by simp; omega)
      generalize w7.setCell ⟨w.heap.size, 0, none⟩ (.slice ao2 f.flat.length cp2) = w8 at *
      obtain ⟨d0, d1, d2, d3⟩ := HR8.out.cells
      clear c2 f2 hE
      go_quiet (fail)
      clear d0 d1 d2 d3 c8 f8
      have HG9 := Lib.hid (grown_drewN w8 nq none)
      generalize w8.drewN nq = w9 at *
      have K2'' := Lib.hid (K2'.out.kept HG9.out (by simp))
      have K3'' := Lib.hid (K3'.out.kept HG9.out (by simp))
      have K4'' := Lib.hid (K4'.out.kept HG9.out (by simp))
      have c2 := K2''.out.cell
      have f2 := K2''.out.frozen
      have c3 := K3''.out.cell
      have f3 := K3''.out.frozen
      have c4 := K4''.out.cell
      have f4 := K4''.out.frozen
      obtain ⟨q1, q2, q3⟩ := HE.out
      have q4 : w.heap.size < b2 := by omega
      go_wp2_with fail
      clear c2 f2 c3 f3 c4 f4
      rw [HR.out, if_pos ⟨trivial, trivial⟩]
      have k2 := ((K2''.out.set (.slice ao2 f.flat.length cp2)).other (B' := b1) (by omega) (.int .i64 0)).other (B' := b2) (by omega) (.int .i64 0)
      have k3 := ((K3''.out.other (B' := w.heap.size) (by omega) (.slice ao2 f.flat.length cp2)).set (.int .i64 0)).other (B' := b2) (by omega) (.int .i64 0)
      have k4 := ((K4''.out.other (B' := w.heap.size) (by omega) (.slice ao2 f.flat.length cp2)).other (B' := b1) (by omega) (.int .i64 0)).set (.int .i64 0)
      have g9 : w7.grownBy w9 (some w.heap.size) := grown_then HG8.out HG9.out (by simp)
      have hb9 : Below w.heap.size w w9 := HB7.out.grown g9 HB7.out.size (by simp)
      have ho9 := HO8.out.grown HG9.out (by simp)
      refine door_ret (by simp) (by simp) (by simp) k2 k3 k4 (((hb9.setCell (p := ⟨w.heap.size, 0, none⟩) (Nat.le_refl _) _).setCell (p := ⟨b1, 0, none⟩) (by simp; omega) _).setCell (p := ⟨b2, 0, none⟩) (by simp; omega) _) ?_
      have o1 := own_grown ho9 (grown_set w9 w.heap.size 0 (.slice ao2 f.flat.length cp2)) (fun j hj => by simp at hj; subst hj; exact .inr (fun e => K2''.out.not_row (by decide) ho9 e.symm))
      have o2 := own_grown o1 (grown_set _ b1 0 (.int .i64 0)) (fun j hj => by simp at hj; subst hj; exact .inr (fun e => (K3''.out.other (B' := w.heap.size) (by omega) (.slice ao2 f.flat.length cp2)).not_row (by decide) o1 e.symm))
      exact own_grown o2 (grown_set _ b2 0 (.int .i64 0)) (fun j hj => by simp at hj; subst hj; exact .inr (fun e => ((K4''.out.other (B' := w.heap.size) (by omega) (.slice ao2 f.flat.length cp2)).other (B' := b1) (by omega) (.int .i64 0)).not_row (by decide) o2 e.symm))
  · simp only at hok
    subst hok
    go_wp2_with fail
    rw [HR.out, if_neg (by simp)]
    have hE := HE.out
    exact door_panic (by simp) (by simp) (by simp) K2.out K3.out K4.out (by omega) (by omega) (by omega) HB7.out (Nat.le_refl _) (by omega) (by omega)
end Go.Proofs.YtkmjmfcanlknjaaGreat
namespace Go.Proofs.YtkmjmfcanlknjaaGreat
open Go.RowKit Go.Shelf

set_option maxRecDepth 100000 in
set_option maxHeartbeats 3200000 in
theorem xRead_bad (s : ByteArray) (w : World) (hs : ¬ 2048 < s.size) (hq : (cut s 0).2 < s.size) :
    Calls Tryz.prog 113 #[.string s] w (RRet w (readS s)) := by
  have hmf : ∀ (fn : Fn) (first cap : Array Value) (w : World), (Instr.makeFunc fn first cap).run Tryz.prog w = .ok (.func fn first cap) w := fun _ _ _ _ => rfl
  have HS := Lib.hid (scan_any s (by omega))
  have HE : scanM s = ([], (((cut s 0).2 : Nat) : Int), 160) := by unfold scanM; rw [if_pos hq]
  rw [HE] at HS
  have hpre := cut_pre s s.size 0 _ (by omega) (by omega) rfl
  have hpz : (s.extract 0 (cut s 0).2).size = (cut s 0).2 := by rw [ByteArray.size_extract]; omega
  have HS2 := Lib.hid (scan_any (s.extract 0 (cut s 0).2) (by omega))
  have HE2 : scanM (s.extract 0 (cut s 0).2) = ((cut s 0).1, 0, 0) := by unfold scanM; rw [hpre, if_neg (by simp only; omega)]
  rw [HE2] at HS2
  clear HE HE2 hpre hpz
  have hlen := (cut_len s s.size 0 (by omega) (by omega)).1
  have HR : Hid (readS s = ([], plc (cut s 0).1 ((cut s 0).2 : Nat) (parsed s).p, 172)) := by
    unfold Hid readS; rw [if_neg hs, if_neg (by omega)]
  have HP : Hid (∀ Br vl w, Rdr w Br vl (cut s 0).1 0 ((cut s 0).2 : Nat) → Calls Tryz.prog 128 #[.pointer (some ⟨Br, 0, none⟩)] w (PRet Br vl (cut s 0).1 ((cut s 0).2 : Nat) w (parsed s))) :=
    fun Br vl w h => reads_expr Br vl _ _ (by omega) _ 0 (by omega) w h (by omega)
  have hpb := (pExpr_b (cut s 0).1 ((cut s 0).1.length + 1) 0 (by omega)).le
  change (parsed s).p ≤ _ at hpb
  generalize parsed s = r at *
  obtain ⟨ok, f, p⟩ := r
  generalize (cut s 0).1 = L at *
  generalize (cut s 0).2 = bad at *
  go_enter_defers Tryz.func113, Tryz.ntmps113
  go_wp2_with fail
  obtain ⟨hB, hbox⟩ := read_base w s.size
  generalize hb1 : w.heap.size + 1 = b1 at *
  generalize hb2 : b1 + 1 = b2 at *
  generalize hb3 : b2 + 1 = b3 at *
  clear hb1 hb2 hb3
  generalize (((w.alloc (.cells #[.slice none 0 0] 45)).alloc (.cells #[.int .i64 0] 3)).alloc (.cells #[.int .i64 0] 23)).alloc (.cells #[.slice none 0 0, .int .i64 0, .int .i64 s.size] 159) = w4 at *
  have HB := Lib.hid hB
  have HBox := Lib.hid hbox
  have hb3 := hB.lt
  clear hB hbox
  refine (HS.out _).mono ?_
  rintro e w5 ⟨v1, rfl, ho1, hbl1⟩
  obtain ⟨_, ao1, cap1, rfl, -⟩ := Rd.of_owns ho1
  have HG5a := Lib.hid (grown_below hbl1)
  have HBox5a : Hid (w5.heap[b3]? = some (.cells #[.slice none 0 0, .int .i64 0, .int .i64 s.size] 159 (0, 0))) := (hbl1.block b3 hb3).trans HBox.out
  have c0 : w5.cell? ⟨b3, 2, none⟩ = some (.int .i64 s.size) := by have := HBox5a.out; simp [World.cell?, this]
  have c1 : w5.frozen? ⟨b3, 2, none⟩ = false := by have := HBox5a.out; simp [World.frozen?, this]
  clear ho1 hbl1
  go_wp2_with fail
  clear c0 c1
  have hb3a : b3 < w5.heap.size := by have := HG5a.out.size; omega
  have HBox5b : Hid ((w5.setCell ⟨b3, 2, none⟩ (.int .i64 bad)).heap[b3]? = some (.cells #[.slice none 0 0, .int .i64 0, .int .i64 bad] 159 (0, 0))) := by
    unfold Hid
    simp only [World.setCell]
    rw [Array.getElem?_modify, if_pos rfl, HBox5a.out]
    rfl
  have HG5b := Lib.hid (grown_then (grown_none (row := some b3) HG5a.out) (grown_set w5 b3 2 (.int .i64 bad)) (by simp))
  have hb3b : b3 < (w5.setCell ⟨b3, 2, none⟩ (.int .i64 bad)).heap.size := by simpa [World.setCell] using hb3a
  clear HBox5a HBox HG5a
  generalize w5.setCell ⟨b3, 2, none⟩ (.int .i64 bad) = w5b at *
  refine (HS2.out _).mono ?_
  rintro e w6 ⟨v1, rfl, ho1, hbl1⟩
  have HO1 : Hid (OwnMk w6 w4.heap.size v1 L) := own_lower ho1 HG5b.out.size
  have HG5 := Lib.hid (HG5b.out.trans (grown_none (grown_below hbl1)))
  have HBox5 : Hid (w6.heap[b3]? = some (.cells #[.slice none 0 0, .int .i64 0, .int .i64 bad] 159 (0, 0))) := (hbl1.block b3 hb3b).trans HBox5b.out
  have c0 : w6.cell? ⟨b3, 0, none⟩ = some (.slice none 0 0) := by have := HBox5.out; simp [World.cell?, this]
  have c1 : w6.frozen? ⟨b3, 0, none⟩ = false := by have := HBox5.out; simp [World.frozen?, this]
  obtain ⟨_, ao, cap, rfl, -⟩ := Rd.of_owns ho1
  clear ho1 hbl1 HBox5b HG5b hb3a hb3b
  generalize w6 = w5 at *
  go_wp2_with fail
  have HR6 := Lib.hid (rdr_laid HBox5.out HO1.out hb3)
  have HM6 := Lib.hid (own_grown HO1.out (grown_set w5 b3 0 (.slice ao L.length cap)) (fun j hj => by simp at hj; subst hj; exact .inl hb3))
  have HG6 := Lib.hid (grown_then HG5.out (grown_set w5 b3 0 (.slice ao L.length cap)) (by simp))
  clear c0 c1 HBox5 HO1 HG5
  generalize w5.setCell ⟨b3, 0, none⟩ (.slice ao L.length cap) = w6 at *
  refine (HP.out _ _ _ HR6.out).mono ?_
  have e1 := HB.out.e1
  have e2 := HB.out.e2
  have e3 := HB.out.e3
  have hw4 := HB.out.below.size
  have HE := Lib.hid (show w.heap.size < b1 ∧ b1 < b2 ∧ b2 < b3 from by omega)
  rintro e w7 ⟨hg7, hcase⟩
  have HG7 := Lib.hid (HG6.out.trans hg7)
  have HB7 : Hid (Below w.heap.size w w7) := HB.out.below.trans ⟨HG7.out.os, HG7.out.tape, HG7.out.output, HG7.out.size, fun k hk => HG7.out.block k (by omega) (by simp; omega)⟩
  have K2 : Hid (Boxed w7 w.heap.size 45 (.slice none 0 0)) := HB.out.k2.kept HG7.out (by simp; omega)
  have K3 : Hid (Boxed w7 b1 3 (.int .i64 0)) := HB.out.k3.kept HG7.out (by simp; omega)
  have K4 : Hid (Boxed w7 b2 23 (.int .i64 0)) := HB.out.k4.kept HG7.out (by simp; omega)
  have HM7 : Hid (OwnMk w7 w4.heap.size (.slice ao L.length cap) L) := own_grown HM6.out hg7 (fun j hj => by simp at hj; subst hj; exact .inl hb3)
  have HSz : Hid (w.heap.size ≤ w6.heap.size) := by have := HG6.out.size; unfold Hid; omega
  clear hg7 e1 e2 e3 hw4
  rcases hcase with ⟨hok, v, rfl, ho7, hr7⟩ | ⟨hok, rfl⟩
  · simp only at hok
    subst hok
    have HO7 : Hid (OwnNd w7 w.heap.size v f.flat) := own_lower ho7 HSz.out
    have HR7 := Lib.hid hr7
    have c2 := K2.out.cell
    have f2 := K2.out.frozen
    clear ho7 hr7
    obtain ⟨_, ao2, cp2, rfl, -⟩ := Rd.of_owns HO7.out
    have HG8 := Lib.hid (grown_set w7 w.heap.size 0 (.slice ao2 f.flat.length cp2))
    have K2' : Hid (Boxed (w7.setCell ⟨w.heap.size, 0, none⟩ (.slice ao2 f.flat.length cp2)) w.heap.size 45 (.slice ao2 f.flat.length cp2)) := K2.out.set _
    have hE := HE.out
    have hw4 := HB.out.below.size
    have HR8 : Hid (Rdr (w7.setCell ⟨w.heap.size, 0, none⟩ (.slice ao2 f.flat.length cp2)) b3 (.slice ao L.length cap) L p (bad : Nat)) := by
      refine ⟨(HG8.out.block b3 HR7.out.lt (by simp; omega)).trans HR7.out.box, ?_, HR7.out.apart⟩
      exact RdMk.of_own (own_grown (B := w4.heap.size) HM7.out HG8.out (fun j hj => by simp at hj; subst hj; left; have := HB.out.lt; omega))
    have HO8 : Hid (OwnNd (w7.setCell ⟨w.heap.size, 0, none⟩ (.slice ao2 f.flat.length cp2)) w.heap.size (.slice ao2 f.flat.length cp2) f.flat) := own_grown HO7.out HG8.out (fun j hj => by
      simp at hj; subst hj
      exact .inr (fun e => K2.out.not_row (by decide) HO7.out e.symm))
    clear hE hw4
    by_cases hlt : p < L.length
    · have hcv : decide ((p : Int) < L.length) = true := by simp; omega
      go_wp2_with fail
      generalize w7.setCell ⟨w.heap.size, 0, none⟩ (.slice ao2 f.flat.length cp2) = w8 at *
      obtain ⟨d0, d1, d2, d3⟩ := HR8.out.cells
      clear c2 f2
      go_quiet (fail)
      clear d0 d1 d2 d3
      have HG9 := Lib.hid (grown_drewN w8 nq none)
      generalize w8.drewN nq = w9 at *
      have HR9 := Lib.hid (HR8.out.kept HG9.out)
      go_wp2_with (go_at_call 129; refine (xFail_any b3 _ L p _ _ HR9.out hpb).mono ?_; rintro e w10 ⟨rfl, hg10⟩; have HG10 := Lib.hid hg10; clear hg10)
      rw [HR.out]
      have hE := HE.out
      have hg : w7.grownBy w10 (some w.heap.size) := grown_then HG8.out (grown_then HG9.out HG10.out (by simp)) (by simp)
      have hg8 : w8.grownBy w10 none := grown_then HG9.out HG10.out (by simp)
      exact door_panic (by simp) (by simp) (by simp) (K2'.out.kept hg8 (by simp)) (K3.out.kept hg (by simp; omega)) (K4.out.kept hg (by simp; omega)) (by omega) (by omega) (by omega) (HB7.out.grown hg HB7.out.size (by simp)) (Nat.le_refl _) (by omega) (by omega)
    · have hcv : decide ((p : Int) < L.length) = false := by simp; omega
      go_wp2_with fail
      generalize w7.setCell ⟨w.heap.size, 0, none⟩ (.slice ao2 f.flat.length cp2) = w8 at *
      obtain ⟨d0, d1, d2, d3⟩ := HR8.out.cells
      clear c2 f2
      go_quiet (fail)
      clear d0 d1 d2 d3
      have HG9 := Lib.hid (grown_drewN w8 nq none)
      generalize w8.drewN nq = w9 at *
      have HR9 := Lib.hid (HR8.out.kept HG9.out)
      go_wp2_with (go_at_call 129; refine (xFail_any b3 _ L p _ _ HR9.out hpb).mono ?_; rintro e w10 ⟨rfl, hg10⟩; have HG10 := Lib.hid hg10; clear hg10)
      rw [HR.out]
      have hE := HE.out
      have hg : w7.grownBy w10 (some w.heap.size) := grown_then HG8.out (grown_then HG9.out HG10.out (by simp)) (by simp)
      have hg8 : w8.grownBy w10 none := grown_then HG9.out HG10.out (by simp)
      exact door_panic (by simp) (by simp) (by simp) (K2'.out.kept hg8 (by simp)) (K3.out.kept hg (by simp; omega)) (K4.out.kept hg (by simp; omega)) (by omega) (by omega) (by omega) (HB7.out.grown hg HB7.out.size (by simp)) (Nat.le_refl _) (by omega) (by omega)
  · simp only at hok
    subst hok
    go_wp2_with fail
    rw [HR.out]
    have hE := HE.out
    exact door_panic (by simp) (by simp) (by simp) K2.out K3.out K4.out (by omega) (by omega) (by omega) HB7.out (Nat.le_refl _) (by omega) (by omega)
end Go.Proofs.YtkmjmfcanlknjaaGreat
namespace Go.Proofs.YtkmjmfcanlknjaaGreat
open Go.RowKit Go.Shelf

/-! ### lists of nodes, read -/
def RdNd (w : World) (v : Value) (l : List Nd) : Prop := Rd w v l.length 3 (flatNd l)
theorem RdNd.of_own {w : World} {B : Nat} {v : Value} {l : List Nd} (h : OwnNd w B v l) : RdNd w v l := Rd.of_owns h
theorem RdNd.below {w w' : World} {v : Value} {l : List Nd} (h : RdNd w v l) (hb : Below w.heap.size w w') : RdNd w' v l := Rd.below h hb
theorem flatNd_at (l : List Nd) (i : Nat) (x : Nd) (h : l[i]? = some x) : (flatNd l)[3 * i]? = some (.int .i64 x.k) ∧ (flatNd l)[3 * i + 1]? = some (.string x.n) ∧ (flatNd l)[3 * i + 2]? = some (.int .i64 x.c) := by
  induction l generalizing i with
  | nil => simp at h
  | cons y r ih =>
    have e : flatNd (y :: r) = .int .i64 y.k :: .string y.n :: .int .i64 y.c :: flatNd r := rfl
    cases i with
    | zero => simp at h; subst h; rw [e]; simp
    | succ i =>
      have h2 := ih i (by simpa using h)
      rw [e, show 3 * (i + 1) = 3 * i + 1 + 1 + 1 from by omega]
      simpa using h2
theorem RdNd.at {w : World} {v : Value} {l : List Nd} (h : RdNd w v l) {i : Nat} {x : Nd} (hx : l[i]? = some x) :
    ∃ b off cap, v = .slice (some ⟨b, off, none⟩) l.length cap ∧ b < w.heap.size ∧ l.length ≤ cap ∧
      w.cell? ⟨b, off + i * 3, none⟩ = some (.int .i64 x.k) ∧ w.cell? ⟨b, off + i * 3 + 1, none⟩ = some (.string x.n) ∧ w.cell? ⟨b, off + i * 3 + 2, none⟩ = some (.int .i64 x.c) := by
  have hi : i < l.length := (List.getElem?_eq_some_iff.1 hx).1
  obtain ⟨b, off, cap, h1, h2, h3, h4⟩ := Rd.at h hi
  obtain ⟨q0, q1, q2⟩ := flatNd_at l i x hx
  rw [show 3 * i = i * 3 from by omega] at q0 q1 q2
  exact ⟨b, off, cap, h1, h2, h3, h4 _ _ q0, h4 _ _ q1, h4 _ _ q2⟩
theorem stoodNd : Tryz.prog.stoodInHeld 57 = false := by kernel_rfl
theorem guardNd : Tryz.prog.eqGuardType Tryz.prog.depth 57 = false := by kernel_rfl
theorem toList_inj (a b : ByteArray) : a.toList = b.toList ↔ a = b := by
  rw [ByteArray.toList_eq, ByteArray.toList_eq]
  constructor
  · intro h; exact ByteArray.ext (Array.toList_inj.1 h)
  · intro h; rw [h]
theorem neqNd (a b : Nd) (w : World) : (binOp .neq 57 (.agg #[.int .i64 a.k, .string a.n, .int .i64 a.c]) (.agg #[.int .i64 b.k, .string b.n, .int .i64 b.c])).run Tryz.prog w = .ok (.bool (!decide (a = b))) w := by
  have hp := stoodNd
  rw [run_neq_struct, run_equalIn_struct _ _ _ _ _ (by kernel_rfl) hp]
  go_simp
  obtain ⟨ak, an, ac⟩ := a
  obtain ⟨bk, bn, bc⟩ := b
  by_cases h1 : ak = bk <;> by_cases h2 : an = bn <;> by_cases h3 : ac = bc <;> simp [h1, h2, h3, toList_inj] <;> omega

set_option maxRecDepth 100000 in
set_option maxHeartbeats 1600000 in
theorem rSame_any (va vb : Value) (la lb : List Nd) (w : World) (ha : RdNd w va la) (hb : RdNd w vb lb) (hla : la.length ≤ 140737488355328) (hlb : lb.length ≤ 140737488355328) :
    Calls Tryz.prog 28 #[va, vb] w fun e w' => e = .returned (.bool (decide (la = lb))) ∧ Below w.heap.size w w' := by
  obtain ⟨hal, ao, ac, rfl, ha2⟩ := id ha
  obtain ⟨hbl, bo, bc, rfl, hb2⟩ := id hb
  have HA := Lib.hid ha
  have HB := Lib.hid hb
  clear ha hb ha2 hb2 hal hbl
  by_cases hlen : la.length = lb.length
  · have hlen' : ((la.length : Int) != lb.length) = false := by rw [hlen]; simp
    have HL := Lib.hid hlen
    clear hlen
    go_enter Tryz.func28, Tryz.ntmps28
    go_wp2
    go_loopw [5] (fun i wr => ∃ j : Nat, j ≤ la.length ∧ i = .int .i64 j ∧ Hid (∀ q, q < j → la[q]? = lb[q]?) ∧ Below w.heap.size w wr) (fun i _ => la.length - (intOf i).toNat)
    case atStart => exact ⟨0, by omega, rfl, fun q h => by omega, Below.refl _ _⟩
    case round =>
      obtain ⟨j, hj, rfl, HQ, hbel⟩ := hrel
      by_cases hlt : j < la.length
      · obtain ⟨ma, hma⟩ : ∃ m, la[j]? = some m := ⟨_, List.getElem?_eq_getElem hlt⟩
        obtain ⟨mb, hmb⟩ : ∃ m, lb[j]? = some m := ⟨_, List.getElem?_eq_getElem (by rw [← HL.out]; exact hlt)⟩
        obtain ⟨b1, o1, c1, e1, l1, k1, x0, x1, x2⟩ := (HA.out).at hma
        obtain ⟨b2, o2, c2, e2, l2, k2, y0, y1, y2⟩ := (HB.out).at hmb
        simp only [Value.slice.injEq] at e1 e2
        obtain ⟨rfl, -, rfl⟩ := e1
        obtain ⟨rfl, -, rfl⟩ := e2
        have X0 := (hbel.cell (p := ⟨b1, _, none⟩) l1).trans x0
        have X1 := (hbel.cell (p := ⟨b1, _, none⟩) l1).trans x1
        have X2 := (hbel.cell (p := ⟨b1, _, none⟩) l1).trans x2
        have Y0 := (hbel.cell (p := ⟨b2, _, none⟩) l2).trans y0
        have Y1 := (hbel.cell (p := ⟨b2, _, none⟩) l2).trans y1
        have Y2 := (hbel.cell (p := ⟨b2, _, none⟩) l2).trans y2
        clear x0 x1 x2 y0 y1 y2
        have hltb : j < lb.length := by rw [← HL.out]; exact hlt
        have H1 := Lib.hid hma
        have H2 := Lib.hid hmb
        clear hma hmb
        have hm := guardNd
        have hne := neqNd ma mb
        go_wp2
        go_quiet (fail)
        go_wp2
        · have hd : (!decide (ma = mb)) = true := by assumption
          go_ret
          refine ⟨?_, below_drewN hbel _⟩
          have : la ≠ lb := by rintro rfl; have e := H1.out.symm.trans H2.out; simp at e; simp [e] at hd
          rw [decide_eq_false this]; rfl
        · have hd : (!decide (ma = mb)) = false := by assumption
          go_roundw
          case rel =>
            refine ⟨j + 1, by omega, by go_num, ?_, below_drewN hbel _⟩
            intro q hq
            by_cases h : q = j
            · subst h; rw [H1.out, H2.out]; simpa using hd
            · exact HQ.out q (by omega)
          case measure => simp [intOf]; omega
      · go_wp2
        go_ret
        refine ⟨?_, hbel⟩
        have : la = lb := by
          apply List.ext_getElem?
          intro q
          by_cases h : q < j
          · exact HQ.out q h
          · rw [List.getElem?_eq_none (by omega), List.getElem?_eq_none (by have := HL.out; omega)]
        rw [decide_eq_true this]; rfl
  · have hlen' : ((la.length : Int) != lb.length) = true := by rw [bne_iff_ne]; omega
    go_enter Tryz.func28, Tryz.ntmps28
    go_wp2
    go_ret
    exact ⟨by rw [decide_eq_false (fun h => hlen (by rw [h]))]; rfl, Below.refl _ _⟩

/-! ### Read -/
theorem xRead_any (s : ByteArray) (w : World) : Calls Tryz.prog 113 #[.string s] w (RRet w (readS s)) := by
  by_cases hs : 2048 < s.size
  · have : readS s = ([], 0, 3) := by unfold readS; rw [if_pos hs]
    rw [this]; exact xRead_long s w hs
  · by_cases hq : (cut s 0).2 = s.size
    · exact xRead_good s w hs hq
    · exact xRead_bad s w hs (by have := (cut_len s s.size 0 (by omega) (by omega)).2.2; omega)
theorem plc_plcR (L : List Mk) (en : Int) (p : Nat) : plc L en p = plcR L en p := by unfold plc plcR; rfl
theorem plcR_lo (L : List Mk) (en : Int) (p : Nat) (h : 0 ≤ en) : 0 ≤ plcR L en p := by
  unfold plcR; split
  · omega
  · exact h
theorem TkS.all {w : World} {B : Nat} {v : Value} {L : List Mk} (h : OwnTk w B v L) (h0 : 0 < L.length) : TkS w v L 0 L.length := by
  obtain ⟨m, hm⟩ : ∃ m, L[0]? = some m := ⟨_, List.getElem?_eq_getElem h0⟩
  obtain ⟨b, off, cap, e, h1, h2, _⟩ := RdTk.at (show RdTk w v L from Rd.of_owns h) hm
  refine ⟨h0, Nat.le_refl _, b, off, cap, e, h2, h1, fun i m _ hm => ?_⟩
  rw [Nat.zero_add] at hm
  obtain ⟨b', off', cap', e', _, _, c0, _, c2⟩ := RdTk.at (show RdTk w v L from Rd.of_owns h) hm
  rw [e] at e'
  simp only [Value.slice.injEq, Option.some.injEq, Addr.mk.injEq] at e'
  obtain ⟨⟨rfl, rfl, -⟩, -, rfl⟩ := e'
  exact ⟨c0, c2⟩

end Go.Proofs.YtkmjmfcanlknjaaGreat
namespace Go.Proofs.YtkmjmfcanlknjaaGreat
open Go.RowKit

/-! ### plain: heights, texts, pieces of a forest -/
def Fo.height : Fo → Nat
  | .nil => 0
  | .cons _ k r => max (k.height + 1) r.height
def joinS (sep : ByteArray) (l : List ByteArray) : ByteArray := ⟨(Lib.join (l.map (·.data.toList)) sep.data.toList).toArray⟩
def sepK (k : Int) : ByteArray := if k = 5 then ⟨#[32, 124, 32]⟩ else if k = 4 then ⟨#[32]⟩ else ⟨#[]⟩
def signK (k : Int) : ByteArray := if k = 6 then ⟨#[42]⟩ else if k = 7 then ⟨#[43]⟩ else if k = 8 then ⟨#[63]⟩ else ⟨#[]⟩
def brkB (pk k : Int) : Bool := k == 5 || (k == 4 && pk != 5)
def brk (pk k : Int) (t : ByteArray) : ByteArray := if brkB pk k = true then (⟨#[40]⟩ : ByteArray) ++ t ++ (⟨#[41]⟩ : ByteArray) else t
def txN (x : Nd) (ks : List (Int × ByteArray)) : ByteArray :=
  if x.k = 1 then ⟨#[37]⟩ else if x.k = 2 ∨ x.k = 3 then x.n else joinS (sepK x.k) (ks.map fun p => brk x.k p.1 p.2) ++ signK x.k
/-- of each tree its kind and its text -/
def Fo.tx : Fo → List (Int × ByteArray)
  | .nil => []
  | .cons x k r => (x.k, txN x k.tx) :: r.tx
theorem Fo.tx_len (f : Fo) : f.tx.length = f.len := by
  induction f with
  | nil => rfl
  | cons x k r _ ih => simp [Fo.tx, Fo.len, ih]
/-- where the trees begin, and how many nodes each has -/
def Fo.pieces : Fo → Nat → List (Nat × Nat)
  | .nil, _ => []
  | .cons _ k r, s => (s, k.size + 1) :: r.pieces (s + k.size + 1)
theorem Fo.pieces_len (f : Fo) : ∀ s, (f.pieces s).length = f.len := by
  induction f with
  | nil => intro s; rfl
  | cons x k r _ ih => intro s; simp [Fo.pieces, Fo.len, ih]
/-- the i-th tree -/
def Fo.get : Fo → Nat → Fo
  | .nil, _ => .nil
  | .cons x k _, 0 => .cons x k .nil
  | .cons _ _ r, i + 1 => r.get i
theorem Fo.flat_get (f : Fo) : ∀ (i s : Nat) (p : Nat × Nat), (f.pieces s)[i]? = some p → s ≤ p.1 ∧ ∃ a b, f.flat = a ++ ((f.get i).flat ++ b) ∧ a.length = p.1 - s ∧ (f.get i).flat.length = p.2 ∧ 0 < p.2 ∧ p.1 - s + p.2 ≤ f.size := by
  induction f with
  | nil => intro i s p h; simp [Fo.pieces] at h
  | cons x k r _ ih =>
    intro i s p h
    cases i with
    | zero =>
      simp only [Fo.pieces, List.getElem?_cons_zero, Option.some.injEq] at h
      subst h
      refine ⟨Nat.le_refl _, [], r.flat, by simp [Fo.get, Fo.flat], by simp, by simp [Fo.get, Fo.flat, Fo.flat_len], by simp, by simp only [Fo.size]; omega⟩
    | succ i =>
      simp only [Fo.pieces, List.getElem?_cons_succ] at h
      obtain ⟨h1, a, b, h2, h3, h4, h5, h6⟩ := ih i _ p h
      refine ⟨by omega, x :: (k.flat ++ a), b, ?_, ?_, h4, h5, ?_⟩
      · simp only [Fo.get, Fo.flat]
        rw [h2]; simp
      · simp [Fo.flat_len, h3]; omega
      · simp only [Fo.size]; omega
theorem Fo.get_cons (f : Fo) : ∀ i, i < f.len → ∃ x k, f.get i = .cons x k .nil ∧ f.tx[i]? = some (x.k, txN x k.tx) ∧ k.size + 1 ≤ f.size ∧ (f.wf → x.c = k.len ∧ k.wf) ∧ k.height + 1 ≤ f.height := by
  induction f with
  | nil => intro i h; simp [Fo.len] at h
  | cons x k r _ ih =>
    intro i h
    cases i with
    | zero => exact ⟨x, k, rfl, rfl, by simp only [Fo.size]; omega, fun h => ⟨h.1, h.2.1⟩, by simp only [Fo.height]; omega⟩
    | succ i =>
      obtain ⟨y, j, h1, h2, h3, h4, h5⟩ := ih i (by simp [Fo.len] at h; omega)
      exact ⟨y, j, h1, by simpa [Fo.tx] using h2, by simp only [Fo.size]; omega, fun h => h4 h.2.2, by simp only [Fo.height]; omega⟩
/-- every node is as f says -/
def Fo.all (P : Nd → Prop) : Fo → Prop
  | .nil => True
  | .cons x k r => P x ∧ k.all P ∧ r.all P
theorem Fo.all_get {P : Nd → Prop} (f : Fo) (h : f.all P) : ∀ i, (f.get i).all P := by
  induction f with
  | nil => intro i; trivial
  | cons x k r _ ih =>
    intro i
    cases i with
    | zero => exact ⟨h.1, h.2.1, trivial⟩
    | succ i => exact ih h.2.2 i
theorem Fo.all_app {P : Nd → Prop} (f g : Fo) (hf : f.all P) (hg : g.all P) : (f.app g).all P := by
  induction f with
  | nil => exact hg
  | cons x k r _ ih => exact ⟨hf.1, hf.2.1, ih hf.2.2⟩
theorem Fo.all_flat {P : Nd → Prop} (f : Fo) : f.all P ↔ ∀ x ∈ f.flat, P x := by
  induction f with
  | nil => simp [Fo.all, Fo.flat]
  | cons x k r ih1 ih2 =>
    simp only [Fo.all, Fo.flat, ih1, ih2, List.mem_cons, List.mem_append]
    constructor
    · rintro ⟨h1, h2, h3⟩ y (rfl | h | h)
      · exact h1
      · exact h2 y h
      · exact h3 y h
    · intro h
      exact ⟨h x (.inl rfl), fun y hy => h y (.inr (.inl hy)), fun y hy => h y (.inr (.inr hy))⟩
/-! ### plain: which node may be -/
def nameOk (t : ByteArray) (k : Int) : Prop := 1 ≤ t.size ∧ t.size ≤ 16 ∧ kindI (bt t 0) = k ∧ ∀ q, q < t.size → innerI (bt t q) = true
def mayN (x : Nd) : Prop :=
  (x.k = 1 ∧ x.n = ⟨#[]⟩ ∧ x.c = 0) ∨ (x.k = 2 ∧ x.c = 0 ∧ nameOk x.n 1) ∨ (x.k = 3 ∧ x.c = 0 ∧ nameOk x.n 2) ∨
  ((x.k = 4 ∨ x.k = 5) ∧ x.n = ⟨#[]⟩ ∧ 2 ≤ x.c) ∨ ((x.k = 6 ∨ x.k = 7 ∨ x.k = 8) ∧ x.n = ⟨#[]⟩ ∧ x.c = 1)
theorem mayN.c {x : Nd} (h : mayN x) : 0 ≤ x.c := by rcases h with h | h | h | h | h <;> omega
theorem mayN.k {x : Nd} (h : mayN x) : 1 ≤ x.k ∧ x.k ≤ 8 := by rcases h with h | h | h | h | h <;> omega
theorem mayN.size {x : Nd} (h : mayN x) : x.n.size ≤ 16 := by
  rcases h with h | h | h | h | h
  · rw [h.2.1]; exact Nat.zero_le _
  · exact h.2.2.2.1
  · exact h.2.2.2.1
  · rw [h.2.1]; exact Nat.zero_le _
  · rw [h.2.1]; exact Nat.zero_le _
/-! ### plain: the size of a text -/
theorem join_len (sep : List UInt8) : ∀ l : List (List UInt8), (Lib.join l sep).length ≤ (l.map fun x => x.length + sep.length).sum
  | [] => by simp [Lib.join_nil]
  | x :: r => by
    have key : ∀ r : List (List UInt8), (Lib.joinTail sep r).length = (r.map fun x => x.length + sep.length).sum := by
      intro r
      induction r with
      | nil => simp [Lib.joinTail]
      | cons y r ih => simp [Lib.joinTail] at ih ⊢; omega
    rw [Lib.join_cons, List.length_append, key]
    simp
theorem joinS_size (sep : ByteArray) (l : List ByteArray) : (joinS sep l).size ≤ (l.map fun x => x.size + sep.size).sum := by
  have h := join_len sep.data.toList (l.map (·.data.toList))
  have e : (joinS sep l).size = (Lib.join (l.map (·.data.toList)) sep.data.toList).length := by unfold joinS; simp [ByteArray.size]
  have e2 : ((l.map (·.data.toList)).map fun x => x.length + sep.data.toList.length) = l.map fun x => x.size + sep.size := by
    rw [List.map_map]; rfl
  rw [e]; rw [e2] at h; exact h
theorem sepK_size (k : Int) : (sepK k).size ≤ 3 := by 
  unfold sepK
  split
  · decide
  · split <;> decide
theorem signK_size (k : Int) : (signK k).size ≤ 1 := by
  unfold signK
  split
  · decide
  · split
    · decide
    · split <;> decide
theorem brk_size (pk k : Int) (t : ByteArray) : (brk pk k t).size ≤ t.size + 2 := by
  unfold brk; split
  · rw [ByteArray.size_append, ByteArray.size_append]
    have e1 : (⟨#[40]⟩ : ByteArray).size = 1 := rfl
    have e2 : (⟨#[41]⟩ : ByteArray).size = 1 := rfl
    omega
  · omega
theorem Fo.tx_size (f : Fo) (h : f.all fun x => x.n.size ≤ 16) : (f.tx.map fun p => p.2.size + 5).sum ≤ 32 * f.size := by
  induction f with
  | nil => simp [Fo.tx, Fo.size]
  | cons x k r ih1 ih2 =>
    have i1 := ih1 h.2.1
    have i2 := ih2 h.2.2
    have hx : (txN x k.tx).size + 5 ≤ 32 * k.size + 32 := by
      unfold txN
      split
      · have : (⟨#[37]⟩ : ByteArray).size = 1 := rfl
        omega
      · split
        · have := h.1; simp only at this; omega
        · rw [ByteArray.size_append]
          have h1 := joinS_size (sepK x.k) (k.tx.map fun p => brk x.k p.1 p.2)
          have h2 := signK_size x.k
          have h3 := sepK_size x.k
          rw [List.map_map] at h1
          have h4 : (k.tx.map ((fun x_1 => x_1.size + (sepK x.k).size) ∘ fun p => brk x.k p.1 p.2)).sum ≤ (k.tx.map fun p => p.2.size + 5).sum := by
            generalize k.tx = l
            induction l with
            | nil => simp
            | cons p l ih =>
              have := brk_size x.k p.1 p.2
              simp only [List.map_cons, List.sum_cons, Function.comp] at ih ⊢
              omega
          omega
    simp only [Fo.tx, Fo.size, List.map_cons, List.sum_cons]
    omega
end Go.Proofs.YtkmjmfcanlknjaaGreat
namespace Go.Proofs.YtkmjmfcanlknjaaGreat
open Go.RowKit Go.Shelf

/-- a list of nodes lies at a place -/
structure NdAt (w : World) (b off : Nat) (N : List Nd) : Prop where
  lt : b < w.heap.size
  cell : ∀ i x, N[i]? = some x → w.cell? ⟨b, off + i * 3, none⟩ = some (.int .i64 x.k) ∧ w.cell? ⟨b, off + i * 3 + 1, none⟩ = some (.string x.n) ∧ w.cell? ⟨b, off + i * 3 + 2, none⟩ = some (.int .i64 x.c)
theorem NdAt.below {w w' : World} {b off : Nat} {N : List Nd} (h : NdAt w b off N) (hb : Below w.heap.size w w') : NdAt w' b off N := by
  refine ⟨by have := hb.size; have := h.lt; omega, fun i x hx => ?_⟩
  obtain ⟨h1, h2, h3⟩ := h.cell i x hx
  exact ⟨(hb.cell (p := ⟨b, _, none⟩) h.lt).trans h1, (hb.cell (p := ⟨b, _, none⟩) h.lt).trans h2, (hb.cell (p := ⟨b, _, none⟩) h.lt).trans h3⟩
theorem NdAt.below' {w w0 w' : World} {b off : Nat} {N : List Nd} (h : NdAt w b off N) (hb : Below w0.heap.size w w') (hlt : b < w0.heap.size) (_ : w0.heap.size ≤ w.heap.size) : NdAt w' b off N := by
  refine ⟨by have := hb.size; have := h.lt; omega, fun i x hx => ?_⟩
  obtain ⟨h1, h2, h3⟩ := h.cell i x hx
  exact ⟨(hb.cell (p := ⟨b, _, none⟩) hlt).trans h1, (hb.cell (p := ⟨b, _, none⟩) hlt).trans h2, (hb.cell (p := ⟨b, _, none⟩) hlt).trans h3⟩
theorem NdAt.of_rd {w : World} {v : Value} {N : List Nd} (h : RdNd w v N) (h0 : 0 < N.length) : ∃ b off cap, v = .slice (some ⟨b, off, none⟩) N.length cap ∧ N.length ≤ cap ∧ NdAt w b off N := by
  obtain ⟨x, hx⟩ : ∃ x, N[0]? = some x := ⟨_, List.getElem?_eq_getElem h0⟩
  obtain ⟨b, off, cap, e, h1, h2, _⟩ := RdNd.at h hx
  refine ⟨b, off, cap, e, h2, h1, fun i x hx => ?_⟩
  obtain ⟨b', off', cap', e', _, _, c⟩ := RdNd.at h hx
  rw [e] at e'
  simp only [Value.slice.injEq, Option.some.injEq, Addr.mk.injEq] at e'
  obtain ⟨⟨rfl, rfl, -⟩, -, rfl⟩ := e'
  exact c
/-- a piece of the list -/
theorem NdAt.piece {w : World} {b off : Nat} {N : List Nd} (h : NdAt w b off N) (a m c : List Nd) (e : N = a ++ (m ++ c)) : NdAt w b (off + a.length * 3) m := by
  refine ⟨h.lt, fun i x hx => ?_⟩
  have hN : N[a.length + i]? = some x := by
    rw [e, List.getElem?_append_right (by omega), show a.length + i - a.length = i from by omega, List.getElem?_append_left (List.getElem?_eq_some_iff.1 hx).1]
    exact hx
  have := h.cell _ _ hN
  rw [show off + (a.length + i) * 3 = off + a.length * 3 + i * 3 from by omega] at this
  exact this
theorem elemNds : ElemOK Tryz.prog 43 45 1 24 :=
  ElemOK.mk' (z := .slice none 0 0) Tryz.underlying43 (by kernel_rfl) rfl (by decide)
def pieceV (b off : Nat) (p : Nat × Nat) : Value := .slice (some ⟨b, off + p.1 * 3, none⟩) p.2 p.2
/-- what kids leaves -/
def KRet (b off : Nat) (k : Fo) (w : World) (e : Ending) (w' : World) : Prop := ∃ v, e = .returned v ∧ w'.ownsRow w.heap.size 45 1 v k.len ((k.pieces 1).map (pieceV b off)) ∧ Below w.heap.size w w'
theorem drop_head {N : List Nd} {t : Nat} {x : Nd} {l : List Nd} (h : N.drop t = x :: l) : N[t]? = some x ∧ N.drop (t + 1) = l ∧ t < N.length := by
  have hlt : t < N.length := by
    rcases Nat.lt_or_ge t N.length with h1 | h1
    · exact h1
    · rw [List.drop_eq_nil_of_le h1] at h; cases h
  rw [List.drop_eq_getElem_cons hlt] at h
  simp only [List.cons.injEq] at h
  exact ⟨by rw [List.getElem?_eq_getElem hlt, h.1], h.2, hlt⟩

set_option maxRecDepth 100000 in
set_option maxHeartbeats 3200000 in
theorem xKids_any (b off cap : Nat) (x : Nd) (k : Fo) (N : List Nd) (w : World) (h : NdAt w b off N) (hN : N = (Fo.cons x k .nil).flat) (hc : x.c = k.len) (hwf : k.wf) (hcap : N.length ≤ cap) (hl : N.length ≤ 1099511627776) :
    Calls Tryz.prog 132 #[.slice (some ⟨b, off, none⟩) N.length cap] w (KRet b off k w) := by
  have hb := h.lt
  have HC := Lib.hid h.cell
  have h0 : N[0]? = some x := by rw [hN]; rfl
  have hlen : N.length = k.size + 1 := by rw [hN, Fo.flat_len]; simp [Fo.size]
  obtain ⟨-, -, c2⟩ := h.cell 0 x h0
  rw [hc, Nat.zero_mul, Nat.add_zero] at c2
  have hd1 : N.drop 1 = k.flat := by rw [hN]; simp [Fo.flat]
  have HD1 := Lib.hid hd1
  have HLen := Lib.hid hlen
  have HWf := Lib.hid hwf
  have hpos : 0 < N.length := by omega
  have hkl : k.len ≤ N.length := by have := Fo.len_le k; omega
  generalize N.length = n at *
  clear h hN hc hwf h0 hlen hd1
  go_enter Tryz.func132, Tryz.ntmps132
  go_wp2
  go_loopw [3, 4, 11] (fun o a i wr => ∃ (j s : Nat) (r : Fo) (done : List (Nat × Nat)), i = .int .i64 j ∧ a = .int .i64 s ∧ wr.ownsRow w.heap.size 45 1 o done.length (done.map (pieceV b off)) ∧ done.length = j ∧ j + r.len = k.len ∧ s + r.size = n ∧ Hid (Below w.heap.size w wr) ∧
    Hid (k.pieces 1 = done ++ r.pieces s ∧ N.drop s = r.flat ∧ r.wf)) (fun _ _ i _ => k.len - (intOf i).toNat)
  case atStart => exact ⟨0, 1, k, [], rfl, rfl, World.ownsRow_nil _ _ _ _, rfl, by omega, by have := HLen.out; omega, Below.refl _ _, rfl, HD1.out, HWf.out⟩
  case round =>
    obtain ⟨j, s, r, done, rfl, rfl, hown, hdj, hjr, hsr, HBel, HR⟩ := hrel
    have hws := HBel.out.size
    by_cases hlt : j < k.len
    · obtain ⟨y, kk, r', rfl⟩ : ∃ y kk r', r = Fo.cons y kk r' := by
        cases r with
        | nil => simp [Fo.len] at hjr; omega
        | cons y kk r' => exact ⟨y, kk, r', rfl⟩
      simp only [Fo.len, Fo.size] at hjr hsr
      have HDJ := Lib.hid hdj
      have HJR := Lib.hid hjr
      have HSR := Lib.hid hsr
      have hss : s + kk.size + 1 ≤ n := by omega
      clear hdj hjr hsr
      go_wp2
      go_loop [4, 6] (fun a o => ∃ (t : Nat) (F : Fo), a = .int .i64 t ∧ o = .int .i64 F.len ∧ s ≤ t ∧ t + F.size ≤ n ∧ F.size ≤ n ∧ Hid (N.drop t = F.flat ++ r'.flat ∧ F.wf ∧ t + F.size = s + kk.size + 1)) (fun a _ => n - (intOf a).toNat)
      case atStart => exact ⟨s, .cons y kk .nil, rfl, rfl, Nat.le_refl _, by simp only [Fo.size]; omega, by simp only [Fo.size]; omega, by rw [HR.out.2.1]; simp [Fo.flat], ⟨HR.out.2.2.1, HR.out.2.2.2.1, trivial⟩, by simp only [Fo.size]; omega⟩
      case round =>
        obtain ⟨t, F, rfl, rfl, hst, htn, hFn, HF⟩ := hrel
        cases F with
        | nil =>
          have ht : t = s + kk.size + 1 := by have := HF.out.2.2; simp [Fo.size] at this; omega
          have htI : Hid (t = s + (kk.size + 1)) := by unfold Hid; omega
          have hsl : s < t := by omega
          have hlj : done.length + 1 ≤ 1099511627777 := by have := HDJ.out; omega
          clear ht
          go_wp2_with (at_builtin; go_must (refine wpList_appG1 elemNds rfl _ _ rfl hown rfl (news := [.slice (some ⟨b, off + s * 3, none⟩) (t - s) (t - s)]) rfl rfl (by intro u hu; simp at hu; subst hu; rfl) (by unfold maxLen; omega) (by omega) hws ?_); intro v' w3 hown3 hg3)
          have HB3 : Hid (Below w.heap.size w w3) := HBel.out.grown hg3 hws (fun j hj => own_block hown j hj)
          have HO3 : Hid (w3.ownsRow w.heap.size 45 1 v' (done ++ [(s, kk.size + 1)]).length ((done ++ [(s, kk.size + 1)]).map (pieceV b off))) := by
            rw [List.length_append, List.map_append]
            have : t - s = kk.size + 1 := by have := htI.out; omega
            rw [this] at hown3
            exact hown3
          clear hown3 hg3
          go_roundw
          case rel =>
            refine ⟨j + 1, t, r', done ++ [(s, kk.size + 1)], by go_num, rfl, HO3.out, by rw [List.length_append, HDJ.out]; rfl, by have := HJR.out; omega, by have := HSR.out; have := htI.out; omega, HB3.out, ?_, ?_, HR.out.2.2.2.2⟩
            · rw [HR.out.1, htI.out]; simp [Fo.pieces, Nat.add_assoc]
            · rw [HF.out.1]; rfl
          case measure => simp [intOf]; omega
        | cons z a b2 =>
          have hfl := HF.out.1
          obtain ⟨g1, g2, g3⟩ := drop_head (by simpa [Fo.flat] using hfl)
          obtain ⟨-, -, z2⟩ := HC.out t z g1
          have Z2 := (HBel.out.cell (p := ⟨b, _, none⟩) hb).trans z2
          rw [HF.out.2.1.1] at Z2
          have htl : t < n := by simp only [Fo.size] at htn; omega
          have hal := Fo.len_le a
          have hbl := Fo.len_le b2
          simp only [Fo.size] at htn hFn
          have HG2 := Lib.hid g2
          have e1 : (Fo.cons z a b2).len = b2.len + 1 := rfl
          rw [e1]
          clear hfl g1 g2 g3 z2 e1
          go_wp2
          go_round
          case rel => exact ⟨t + 1, a.app b2, by go_num, by rw [Fo.len_app]; go_num, by omega, by rw [Fo.size_app]; omega, by rw [Fo.size_app]; omega, by rw [HG2.out, Fo.flat_app]; simp, Fo.wf_app _ _ HF.out.2.1.2.1 HF.out.2.1.2.2, by rw [Fo.size_app]; have := HF.out.2.2; simp only [Fo.size] at this; omega⟩
          case measure => simp [intOf]; omega
    · have hr0 : r = .nil := by
        cases r with
        | nil => rfl
        | cons y kk r' => simp [Fo.len] at hjr; omega
      have HE : Hid (k.pieces 1 = done ∧ k.len = done.length) := by
        obtain ⟨q1, q2, q3⟩ := HR.out
        rw [hr0] at q1
        refine ⟨by rw [q1]; simp [Fo.pieces], ?_⟩
        rw [hr0] at hjr; simp [Fo.len] at hjr; omega
      clear hr0 hjr hdj
      obtain ⟨_, ao, cp, rfl, -⟩ := Rd.of_owns hown
      go_wp2
      go_ret
      exact ⟨_, rfl, by rw [HE.out.1, HE.out.2]; exact hown, HBel.out⟩
end Go.Proofs.YtkmjmfcanlknjaaGreat
namespace Go.Proofs.YtkmjmfcanlknjaaGreat
open Go.RowKit Go.Shelf

/-! ### plain: a stack of what is still wanted; the last one lies below all -/
def stkF : List Fo → List Nd
  | [] => []
  | F :: r => F.flat ++ stkF r
def stkH : List Fo → Nat
  | [] => 0
  | F :: r => max (if F.height = 0 then 0 else r.length + F.height) (stkH r)
/-- how many are wanted, of each node above the top, from the bottom on -/
def stkL : List Fo → List Nat
  | [] => []
  | [_] => []
  | R :: S :: r => stkL (S :: r) ++ [R.len + 1]
def stkO : List Fo → List Nat
  | [] => []
  | [_] => []
  | R :: S :: r => stkL (S :: r) ++ [R.len]
def stkW : List Fo → Prop
  | [] => True
  | F :: r => F.wf ∧ stkW r
theorem stkL_len : ∀ S : List Fo, (stkL S).length = S.length - 1
  | [] => rfl
  | [_] => rfl
  | R :: S :: r => by simp [stkL, stkL_len (S :: r)]
theorem stkO_len : ∀ S : List Fo, (stkO S).length = S.length - 1
  | [] => rfl
  | [_] => rfl
  | R :: S :: r => by simp [stkO, stkL_len (S :: r)]
theorem nil_height {F : Fo} (h : F.len = 0) : F = .nil := by
  cases F with
  | nil => rfl
  | cons x k r => simp [Fo.len] at h
theorem stk_pop {F R : Fo} {r : List Fo} (h : F.len = 0) : stkH (F :: R :: r) = stkH (R :: r) ∧ stkF (F :: R :: r) = stkF (R :: r) := by
  obtain rfl := nil_height h
  constructor
  · simp [stkH, Fo.height]
  · rfl
theorem stk_push (x : Nd) (k r0 : Fo) (r : List Fo) (most : Nat) : max (max most (r.length + 1)) (stkH (k :: r0 :: r)) = max most (stkH (Fo.cons x k r0 :: r)) := by
  have e : (Fo.cons x k r0).height = max (k.height + 1) r0.height := rfl
  simp only [stkH, e, List.length_cons]
  have : ¬ max (k.height + 1) r0.height = 0 := by omega
  rw [if_neg this]
  by_cases h1 : k.height = 0 <;> by_cases h2 : r0.height = 0
  · rw [if_pos h1, if_pos h2]; omega
  · rw [if_pos h1, if_neg h2]; omega
  · rw [if_neg h1, if_pos h2]; omega
  · rw [if_neg h1, if_neg h2]; omega

def intsV (l : List Nat) : List Value := l.map fun n : Nat => .int .i64 (n : Int)
def OwnI (w : World) (B : Nat) (v : Value) (l : List Nat) : Prop := w.ownsRow B 3 1 v l.length (intsV l)
theorem elemInt : ElemOK Tryz.prog 133 3 1 8 :=
  ElemOK.mk' (z := .int .i64 0) Tryz.underlying133 (by kernel_rfl) rfl (by decide)
theorem OwnI.snoc {w : World} {B : Nat} {v : Value} {l : List Nat} {m : Nat} (h : w.ownsRow B 3 1 v (l.length + 1) (intsV l ++ [.int .i64 m])) : OwnI w B v (l ++ [m]) := by
  unfold OwnI intsV at *; rw [List.map_append, List.length_append]; exact h
theorem OwnI.front {w : World} {B g c : Nat} {l : List Nat} {m : Nat} (h : OwnI w B (.slice (some ⟨g, 0, none⟩) (l.length + 1) c) (l ++ [m])) : OwnI w B (.slice (some ⟨g, 0, none⟩) l.length c) l := by
  refine ⟨by unfold intsV; simp, ?_⟩
  rcases h.2 with ⟨h', _⟩ | ⟨g', cap', cur, h', hb, hg, hnc, hcm, hcs, htake⟩
  · simp at h'
  · simp only [Value.slice.injEq, Option.some.injEq, Addr.mk.injEq, and_true] at h'
    obtain ⟨rfl, -, rfl⟩ := h'
    refine .inr ⟨g, c, cur, rfl, hb, hg, by simp at hnc; omega, hcm, hcs, ?_⟩
    have e : (l ++ [m]).length = l.length + 1 := by simp
    rw [e] at htake
    have : (cur.toList.take ((l.length + 1) * 1)).take l.length = (intsV (l ++ [m])).take l.length := by rw [htake]
    rw [List.take_take, show min l.length ((l.length + 1) * 1) = l.length * 1 from by omega] at this
    rw [this]
    unfold intsV
    rw [List.map_append, List.take_append_of_le_length (by simp)]
    rw [List.take_of_length_le (by simp)]
theorem OwnI.last {w : World} {B g c : Nat} {l : List Nat} {m : Nat} (h : OwnI w B (.slice (some ⟨g, 0, none⟩) (l.length + 1) c) (l ++ [m])) : w.cell? ⟨g, l.length, none⟩ = some (.int .i64 m) ∧ w.frozen? ⟨g, l.length, none⟩ = false := by
  have h' : w.ownsRow B 3 1 (.slice (some ⟨g, 0, none⟩) (l.length + 1) c) (l.length + 1) (intsV (l ++ [m])) := by
    have := h; unfold OwnI at this; simpa using this
  refine ⟨?_, h'.frozenAt _⟩
  rw [h'.cellAt l.length (by omega)]
  unfold intsV
  rw [List.map_append, List.getElem?_append_right (by simp)]
  simp
theorem OwnI.setLast {w : World} {B g c : Nat} {l : List Nat} {m : Nat} (h : OwnI w B (.slice (some ⟨g, 0, none⟩) (l.length + 1) c) (l ++ [m])) (m' : Nat) :
    OwnI (w.setCell ⟨g, l.length, none⟩ (.int .i64 m')) B (.slice (some ⟨g, 0, none⟩) (l.length + 1) c) (l ++ [m']) := by
  have h' : w.ownsRow B 3 1 (.slice (some ⟨g, 0, none⟩) (l.length + 1) c) (l.length + 1) (intsV (l ++ [m])) := by
    have := h; unfold OwnI at this; simpa using this
  have := (h'.stored l.length (.int .i64 m')).1
  unfold OwnI
  rw [List.length_append]
  have e : (intsV (l ++ [m])).set l.length (.int .i64 m') = intsV (l ++ [m']) := by
    unfold intsV
    rw [List.map_append, List.map_append, List.set_append_right _ _ (by simp)]
    simp
  rw [e] at this
  exact this
theorem OwnI.shape {w : World} {B : Nat} {v : Value} {l : List Nat} (h : OwnI w B v l) : ∃ ao c, v = .slice ao l.length c ∧ l.length ≤ c := by
  obtain ⟨_, ao, c, e, h1, _⟩ := Rd.of_owns h
  exact ⟨ao, c, e, h1⟩
theorem OwnI.blk {w : World} {B : Nat} {ao : Option Addr} {c : Nat} {l : List Nat} {m : Nat} (h : OwnI w B (.slice ao (l ++ [m]).length c) (l ++ [m])) : ∃ g, ao = some ⟨g, 0, none⟩ ∧ B ≤ g ∧ g < w.heap.size ∧ l.length + 1 ≤ c := by
  obtain ⟨g, c', e, h1, h2, h3, _⟩ := own_src h (by simp)
  simp only [Value.slice.injEq] at e
  obtain ⟨rfl, -, rfl⟩ := e
  exact ⟨g, rfl, h1, h2, by simpa using h3⟩

def sliceLen (v : Value) : Nat := match v with | .slice _ n _ => n | _ => 0
theorem stk_len1 (R T : Fo) (S : List Fo) : stkL (R :: T :: S) = stkL (T :: S) ++ [R.len + 1] := rfl
set_option maxRecDepth 100000 in
set_option maxHeartbeats 6400000 in
theorem xHeight_any (b off cap : Nat) (T : Fo) (w : World) (h : NdAt w b off T.flat) (hwf : T.wf) (hcap : T.flat.length ≤ cap) (hl : T.flat.length ≤ 1099511627776) :
    Calls Tryz.prog 104 #[.slice (some ⟨b, off, none⟩) T.flat.length cap] w fun e w' => e = .returned (.int .i64 T.height) ∧ Below w.heap.size w w' := by
  have hb := h.lt
  have HC := Lib.hid h.cell
  obtain ⟨N, hN⟩ : ∃ N, N = T.flat := ⟨_, rfl⟩
  have HN := Lib.hid hN
  rw [← hN] at HC hcap hl ⊢
  have HW := Lib.hid hwf
  obtain ⟨n, hn⟩ : ∃ n, n = N.length := ⟨_, rfl⟩
  rw [← hn] at hcap hl ⊢
  have HNl := Lib.hid hn
  clear h hwf hN hn
  go_enter Tryz.func104, Tryz.ntmps104
  go_wp2
  go_loopw [3, 4, 9] (fun mv ov i wr => ∃ (t most : Nat) (F : Fo) (S : List Fo), i = .int .i64 t ∧ mv = .int .i64 most ∧ t ≤ n ∧ most ≤ n ∧ Hid (OwnI wr w.heap.size ov (stkO (F :: S))) ∧ S.length ≤ t ∧ Hid (Below w.heap.size w wr) ∧
    Hid (N.drop t = stkF (F :: S) ∧ stkW (F :: S) ∧ (F.len ≠ 0 ∨ S = []) ∧ max most (stkH (F :: S)) = T.height)) (fun _ _ i _ => n - (intOf i).toNat)
  case atStart => exact ⟨0, 0, T, [], rfl, rfl, by omega, by omega, World.ownsRow_nil _ _ _ _, by simp, Below.refl _ _, by rw [HN.out]; simp [stkF], ⟨HW.out, trivial⟩, .inr rfl, by simp only [stkH, List.length_nil]; split <;> omega⟩
  case round =>
    obtain ⟨t, most, F, S, rfl, rfl, ht, hm, HO, hS, HBel, HF⟩ := hrel
    have hws := HBel.out.size
    by_cases hlt : t < n
    · obtain ⟨x, k, r0, hF⟩ : ∃ x k r0, F = Fo.cons x k r0 := by
        cases hF : F with
        | nil =>
          exfalso
          rcases HF.out.2.2.1 with h | h
          · rw [hF] at h; simp [Fo.len] at h
          · have h2 := HF.out.1
            rw [hF, h] at h2
            have := congrArg List.length h2
            rw [List.length_drop] at this
            have := HNl.out
            simp [stkF, Fo.flat] at *
            omega
        | cons x k r0 => exact ⟨x, k, r0, rfl⟩
      subst hF
      obtain ⟨g1, g2, -⟩ := drop_head (show N.drop t = x :: (k.flat ++ r0.flat ++ stkF S) from by rw [HF.out.1]; simp [stkF, Fo.flat])
      obtain ⟨z0, z1, z2⟩ := HC.out t x g1
      have Z0 := (HBel.out.cell (p := ⟨b, _, none⟩) hb).trans z0
      have Z1 := (HBel.out.cell (p := ⟨b, _, none⟩) hb).trans z1
      have Z2 := (HBel.out.cell (p := ⟨b, _, none⟩) hb).trans z2
      rw [HF.out.2.1.1.1] at Z2
      have hsl := stkO_len (Fo.cons x k r0 :: S)
      rw [List.length_cons, Nat.add_sub_cancel] at hsl
      have HSt : Hid (N.drop (t + 1) = stkF (k :: r0 :: S) ∧ stkW (k :: r0 :: S) ∧ max (max most (S.length + 1)) (stkH (k :: r0 :: S)) = T.height ∧ stkL (r0 :: S) = (if S = [] then [] else stkL (r0 :: S))) := by
        refine ⟨by rw [g2]; simp [stkF], ⟨HF.out.2.1.1.2.1, HF.out.2.1.1.2.2, HF.out.2.1.2⟩, by rw [stk_push x]; exact HF.out.2.2.2, ?_⟩
        split
        · rename_i h; subst h; rfl
        · rfl
      have HOv : Hid (stkO (Fo.cons x k r0 :: S) = stkL (r0 :: S)) := by
        cases S with
        | nil => rfl
        | cons R S => rfl
      rw [HOv.out] at HO hsl
      obtain ⟨ao, oc, rfl, hoc⟩ := HO.out.shape
      rw [hsl] at hoc ⊢
      have HSl := Lib.hid hsl
      clear z0 z1 z2 g1 g2 HF hsl
      obtain ⟨L, hL⟩ : ∃ L, L = stkL (r0 :: S) := ⟨_, rfl⟩
      have hOL : OwnI wr w.heap.size (.slice ao S.length oc) L := by have := HO.out; rw [HSl.out, ← hL] at this; exact this
      have hLl : L.length = S.length := by rw [hL]; exact HSl.out
      have HLd := Lib.hid hL
      have HLl := Lib.hid hLl
      have hown0 : (wr.alloc (.cells #[.int .i64 x.k, .string x.n, .int .i64 k.len] 57)).ownsRow w.heap.size 3 1 (.slice ao S.length oc) S.length (intsV L) := by
        have := World.ownsRow.alloc hOL (.cells #[.int .i64 x.k, .string x.n, .int .i64 k.len] 57)
        rw [hLl] at this; exact this
      have hsz0 : w.heap.size ≤ (wr.alloc (.cells #[.int .i64 x.k, .string x.n, .int .i64 k.len] 57)).heap.size := by simp; omega
      have hbel0 : Below w.heap.size w (wr.alloc (.cells #[.int .i64 x.k, .string x.n, .int .i64 k.len] 57)) := HBel.out.alloc hws _
      have HBl0 := Lib.hid hbel0
      clear hL hLl hOL HO hbel0 HOv
      rcases Nat.lt_or_ge most (S.length + 1) with hmx | hmx
      · have HMx : Hid (max most (S.length + 1) = S.length + 1) := by unfold Hid; omega
        have hmI : (most : Int) < (S.length : Int) + 1 := by omega
        go_wp2_with (at_builtin; go_must (refine wpList_appG1 elemInt rfl _ _ rfl hown0 rfl (news := [.int .i64 k.len]) (by have e : ∀ o, (wr.alloc o).heap.size = wr.heap.size + 1 := (fun o => by simp); rw [e]; rfl) rfl (by intro u hu; simp at hu; subst hu; rfl) (by unfold maxLen; omega) (by omega) hsz0 ?_); intro v' w3 hown3 hg3)
        have HO3 : Hid (OwnI w3 w.heap.size v' (stkO (k :: r0 :: S))) := by
          have := OwnI.snoc (l := L) (by rw [HLl.out]; exact hown3)
          rw [HLd.out] at this
          exact this
        have HB3 : Hid (Below w.heap.size w w3) := HBl0.out.grown hg3 hsz0 (fun j hj => own_block hown0 j hj)
        clear hown3 hg3 hown0
        go_loopw [4] (fun ov wr => ∃ (F : Fo) (Q : List Fo), Hid (OwnI wr w.heap.size ov (stkO (F :: Q))) ∧ Q.length ≤ S.length + 1 ∧ Hid (Below w.heap.size w wr) ∧ Hid (stkF (F :: Q) = stkF (k :: r0 :: S) ∧ stkW (F :: Q) ∧ stkH (F :: Q) = stkH (k :: r0 :: S))) (fun ov _ => sliceLen ov)
        case atStart => exact ⟨k, r0 :: S, HO3.out, by simp, HB3.out, rfl, HSt.out.2.1, rfl⟩
        case round =>
          obtain ⟨F, Q, HO, hQ, HB, HQ⟩ := hrel
          cases Q with
          | nil =>
            obtain ⟨ao4, oc4, rfl, -⟩ := HO.out.shape
            have e0 : (stkO [F]).length = 0 := rfl
            rw [e0] at HO ⊢
            go_wp2_with fail
            go_roundw
            case rel => exact ⟨t + 1, S.length + 1, F, [], by go_num, by go_num, by omega, by omega, by unfold OwnI at HO; exact HO.out, by simp, HB.out, by rw [HSt.out.1]; exact HQ.out.1.symm, HQ.out.2.1, .inr rfl, by rw [HQ.out.2.2, ← HMx.out]; exact HSt.out.2.2.1⟩
            case measure => simp [intOf]; omega
          | cons R Q =>
            obtain ⟨L2, hL2⟩ : ∃ L2, L2 = stkL (R :: Q) := ⟨_, rfl⟩
            have e1 : stkO (F :: R :: Q) = L2 ++ [F.len] := by rw [hL2]; rfl
            have hO := HO.out
            rw [e1] at hO
            obtain ⟨ao4, oc4, rfl, hoc4⟩ := hO.shape
            obtain ⟨g, rfl, hg1, hg2, hg3⟩ := hO.blk
            have hL2l : L2.length = Q.length := by rw [hL2, stkL_len]; rfl
            have hO' : OwnI wr w.heap.size (.slice (some ⟨g, 0, none⟩) (L2.length + 1) oc4) (L2 ++ [F.len]) := by
              have := hO; rw [List.length_append] at this; exact this
            obtain ⟨q0, q1⟩ := hO'.last
            have hfr := hO'.front
            have HO4 := Lib.hid hO
            have HO5 := Lib.hid hO'
            have HFr := Lib.hid hfr
            have HL2 := Lib.hid hL2
            rw [show (L2 ++ [F.len]).length = L2.length + 1 from by simp] at hO ⊢
            rw [hL2l] at q0 q1 hg3 ⊢
            have HL2l := Lib.hid hL2l
            clear e1 hO hO' hfr hL2 hL2l HO
            simp only [List.length_cons] at hQ
            by_cases hF0 : F.len = 0
            · obtain ⟨p1, p2⟩ := stk_pop (R := R) (r := Q) hF0
              have HP := Lib.hid (And.intro p1 p2)
              rw [hF0] at q0
              clear p1 p2 hF0
              cases Q with
              | nil =>
                have HE2 : Hid (L2 = []) := by unfold Hid; rw [HL2.out]; rfl
                simp only [List.length_nil] at q0 q1 hg3 hQ ⊢
                go_wp2_with fail
                go_roundw
                case rel => exact ⟨R, [], by have := HFr.out; rw [HE2.out] at this; exact this, by simp, HB.out, by rw [← HP.out.2]; exact HQ.out.1, HQ.out.2.1.2, by rw [← HP.out.1]; exact HQ.out.2.2⟩
                case measure => simp [sliceLen]
              | cons T2 Q =>
                obtain ⟨L3, hL3⟩ : ∃ L3, L3 = stkL (T2 :: Q) := ⟨_, rfl⟩
                have hL23 : L2 = L3 ++ [R.len + 1] := by rw [HL2.out, hL3]; rfl
                have hL3l : L3.length = Q.length := by rw [hL3, stkL_len]; rfl
                have hfr2 : OwnI wr w.heap.size (.slice (some ⟨g, 0, none⟩) (L3.length + 1) oc4) (L3 ++ [R.len + 1]) := by
                  have := HFr.out; rw [hL23, List.length_append] at this; exact this
                obtain ⟨q2, q3⟩ := hfr2.last
                have hRl : R.len ≤ 1099511627776 := by
                  have h1 := congrArg List.length (HQ.out.1.trans HSt.out.1.symm)
                  simp only [stkF, List.length_append, Fo.flat_len, List.length_drop] at h1
                  have h2 := Fo.len_le R
                  have := HNl.out
                  omega
                have HSet := Lib.hid (hfr2.setLast R.len)
                have HL3 := Lib.hid hL3
                have HL3l := Lib.hid hL3l
                rw [hL3l] at q2 q3
                simp only [List.length_cons] at q0 q1 hg3 hQ ⊢
                clear hL3 hL23 hL3l hfr2
                go_wp2_with fail
                have HB5 : Hid (Below w.heap.size w (wr.setCell ⟨g, Q.length, none⟩ (.int .i64 R.len))) := HB.out.setCell (p := ⟨g, Q.length, none⟩) hg1 _
                go_roundw
                case rel => exact ⟨R, T2 :: Q, by have := HSet.out; rw [HL3l.out] at this; show OwnI _ _ _ (stkL (T2 :: Q) ++ [R.len]); rw [← HL3.out]; exact this, by simp; omega, HB5.out, by rw [← HP.out.2]; exact HQ.out.1, HQ.out.2.1.2, by rw [← HP.out.1]; exact HQ.out.2.2⟩
                case measure => simp [sliceLen]
            · have hF0' : ((F.len : Int) == 0) = false := by simp; omega
              go_wp2_with fail
              go_roundw
              case rel => exact ⟨t + 1, S.length + 1, F, R :: Q, by go_num, by go_num, by omega, by omega, by have := HO5.out; rw [HL2l.out] at this; show OwnI _ _ _ (stkL (R :: Q) ++ [F.len]); rw [← HL2.out]; exact this, by simp; omega, HB.out, by rw [HSt.out.1]; exact HQ.out.1.symm, HQ.out.2.1, .inl hF0, by rw [HQ.out.2.2, ← HMx.out]; exact HSt.out.2.2.1⟩
              case measure => simp [intOf]; omega
      · have HMx : Hid (max most (S.length + 1) = most) := by unfold Hid; omega
        have hmI : (S.length : Int) + 1 ≤ most := by omega
        go_wp2_with (at_builtin; go_must (refine wpList_appG1 elemInt rfl _ _ rfl hown0 rfl (news := [.int .i64 k.len]) (by have e : ∀ o, (wr.alloc o).heap.size = wr.heap.size + 1 := (fun o => by simp); rw [e]; rfl) rfl (by intro u hu; simp at hu; subst hu; rfl) (by unfold maxLen; omega) (by omega) hsz0 ?_); intro v' w3 hown3 hg3)
        have HO3 : Hid (OwnI w3 w.heap.size v' (stkO (k :: r0 :: S))) := by
          have := OwnI.snoc (l := L) (by rw [HLl.out]; exact hown3)
          rw [HLd.out] at this
          exact this
        have HB3 : Hid (Below w.heap.size w w3) := HBl0.out.grown hg3 hsz0 (fun j hj => own_block hown0 j hj)
        clear hown3 hg3 hown0
        go_loopw [4] (fun ov wr => ∃ (F : Fo) (Q : List Fo), Hid (OwnI wr w.heap.size ov (stkO (F :: Q))) ∧ Q.length ≤ S.length + 1 ∧ Hid (Below w.heap.size w wr) ∧ Hid (stkF (F :: Q) = stkF (k :: r0 :: S) ∧ stkW (F :: Q) ∧ stkH (F :: Q) = stkH (k :: r0 :: S))) (fun ov _ => sliceLen ov)
        case atStart => exact ⟨k, r0 :: S, HO3.out, by simp, HB3.out, rfl, HSt.out.2.1, rfl⟩
        case round =>
          obtain ⟨F, Q, HO, hQ, HB, HQ⟩ := hrel
          cases Q with
          | nil =>
            obtain ⟨ao4, oc4, rfl, -⟩ := HO.out.shape
            have e0 : (stkO [F]).length = 0 := rfl
            rw [e0] at HO ⊢
            go_wp2_with fail
            go_roundw
            case rel => exact ⟨t + 1, most, F, [], by go_num, rfl, by omega, by omega, by unfold OwnI at HO; exact HO.out, by simp, HB.out, by rw [HSt.out.1]; exact HQ.out.1.symm, HQ.out.2.1, .inr rfl, by rw [HQ.out.2.2, ← HMx.out]; exact HSt.out.2.2.1⟩
            case measure => simp [intOf]; omega
          | cons R Q =>
            obtain ⟨L2, hL2⟩ : ∃ L2, L2 = stkL (R :: Q) := ⟨_, rfl⟩
            have e1 : stkO (F :: R :: Q) = L2 ++ [F.len] := by rw [hL2]; rfl
            have hO := HO.out
            rw [e1] at hO
            obtain ⟨ao4, oc4, rfl, hoc4⟩ := hO.shape
            obtain ⟨g, rfl, hg1, hg2, hg3⟩ := hO.blk
            have hL2l : L2.length = Q.length := by rw [hL2, stkL_len]; rfl
            have hO' : OwnI wr w.heap.size (.slice (some ⟨g, 0, none⟩) (L2.length + 1) oc4) (L2 ++ [F.len]) := by
              have := hO; rw [List.length_append] at this; exact this
            obtain ⟨q0, q1⟩ := hO'.last
            have hfr := hO'.front
            have HO4 := Lib.hid hO
            have HO5 := Lib.hid hO'
            have HFr := Lib.hid hfr
            have HL2 := Lib.hid hL2
            rw [show (L2 ++ [F.len]).length = L2.length + 1 from by simp] at hO ⊢
            rw [hL2l] at q0 q1 hg3 ⊢
            have HL2l := Lib.hid hL2l
            clear e1 hO hO' hfr hL2 hL2l HO
            simp only [List.length_cons] at hQ
            by_cases hF0 : F.len = 0
            · obtain ⟨p1, p2⟩ := stk_pop (R := R) (r := Q) hF0
              have HP := Lib.hid (And.intro p1 p2)
              rw [hF0] at q0
              clear p1 p2 hF0
              cases Q with
              | nil =>
                have HE2 : Hid (L2 = []) := by unfold Hid; rw [HL2.out]; rfl
                simp only [List.length_nil] at q0 q1 hg3 hQ ⊢
                go_wp2_with fail
                go_roundw
                case rel => exact ⟨R, [], by have := HFr.out; rw [HE2.out] at this; exact this, by simp, HB.out, by rw [← HP.out.2]; exact HQ.out.1, HQ.out.2.1.2, by rw [← HP.out.1]; exact HQ.out.2.2⟩
                case measure => simp [sliceLen]
              | cons T2 Q =>
                obtain ⟨L3, hL3⟩ : ∃ L3, L3 = stkL (T2 :: Q) := ⟨_, rfl⟩
                have hL23 : L2 = L3 ++ [R.len + 1] := by rw [HL2.out, hL3]; rfl
                have hL3l : L3.length = Q.length := by rw [hL3, stkL_len]; rfl
                have hfr2 : OwnI wr w.heap.size (.slice (some ⟨g, 0, none⟩) (L3.length + 1) oc4) (L3 ++ [R.len + 1]) := by
                  have := HFr.out; rw [hL23, List.length_append] at this; exact this
                obtain ⟨q2, q3⟩ := hfr2.last
                have hRl : R.len ≤ 1099511627776 := by
                  have h1 := congrArg List.length (HQ.out.1.trans HSt.out.1.symm)
                  simp only [stkF, List.length_append, Fo.flat_len, List.length_drop] at h1
                  have h2 := Fo.len_le R
                  have := HNl.out
                  omega
                have HSet := Lib.hid (hfr2.setLast R.len)
                have HL3 := Lib.hid hL3
                have HL3l := Lib.hid hL3l
                rw [hL3l] at q2 q3
                simp only [List.length_cons] at q0 q1 hg3 hQ ⊢
                clear hL3 hL23 hL3l hfr2
                go_wp2_with fail
                have HB5 : Hid (Below w.heap.size w (wr.setCell ⟨g, Q.length, none⟩ (.int .i64 R.len))) := HB.out.setCell (p := ⟨g, Q.length, none⟩) hg1 _
                go_roundw
                case rel => exact ⟨R, T2 :: Q, by have := HSet.out; rw [HL3l.out] at this; show OwnI _ _ _ (stkL (T2 :: Q) ++ [R.len]); rw [← HL3.out]; exact this, by simp; omega, HB5.out, by rw [← HP.out.2]; exact HQ.out.1, HQ.out.2.1.2, by rw [← HP.out.1]; exact HQ.out.2.2⟩
                case measure => simp [sliceLen]
            · have hF0' : ((F.len : Int) == 0) = false := by simp; omega
              go_wp2_with fail
              go_roundw
              case rel => exact ⟨t + 1, most, F, R :: Q, by go_num, rfl, by omega, by omega, by have := HO5.out; rw [HL2l.out] at this; show OwnI _ _ _ (stkL (R :: Q) ++ [F.len]); rw [← HL2.out]; exact this, by simp; omega, HB.out, by rw [HSt.out.1]; exact HQ.out.1.symm, HQ.out.2.1, .inl hF0, by rw [HQ.out.2.2, ← HMx.out]; exact HSt.out.2.2.1⟩
              case measure => simp [intOf]; omega
    · obtain rfl : t = n := by omega
      have HE : Hid (most = T.height) := by
        have h1 := HF.out.1
        have h2 := HF.out.2.2.2
        have h3 := HF.out.2.2.1
        rw [List.drop_eq_nil_of_le (by have := HNl.out; omega)] at h1
        have hF : F = .nil := by
          cases F with
          | nil => rfl
          | cons x k r => simp [stkF, Fo.flat] at h1
        have hS0 : S = [] := by
          rcases h3 with h3 | h3
          · rw [hF] at h3; exact absurd rfl h3
          · exact h3
        rw [hF, hS0] at h2
        unfold Hid
        simpa [stkH, Fo.height] using h2
      go_wp2_with fail
      go_ret
      exact ⟨congrArg (fun h : Nat => Ending.returned (.int .i64 (h : Int))) HE.out, HBel.out⟩
end Go.Proofs.YtkmjmfcanlknjaaGreat
namespace Go.Proofs.YtkmjmfcanlknjaaGreat
open Go.RowKit Go.Shelf

def nameB (t : ByteArray) (k : Int) : Bool := decide (1 ≤ t.size) && (decide (t.size ≤ 16) && (t.data.toList.all (fun c => innerI c.toNat) && kindI (bt t 0) == k))
def mayB (x : Nd) : Bool :=
  if x.k = 1 then x.n.toList.isEmpty && x.c == 0 else if x.k = 2 then nameB x.n 1 && x.c == 0 else if x.k = 3 then nameB x.n 2 && x.c == 0
  else if x.k = 4 ∨ x.k = 5 then x.n.toList.isEmpty && decide (2 ≤ x.c) else if x.k = 6 ∨ x.k = 7 ∨ x.k = 8 then x.n.toList.isEmpty && x.c == 1 else false
theorem empty_iff (t : ByteArray) : t.toList.isEmpty = true ↔ t = ⟨#[]⟩ := by
  rw [ByteArray.toList_eq]
  constructor
  · intro h
    apply ByteArray.ext
    apply Array.toList_inj.1
    simpa using h
  · rintro rfl; rfl
theorem all_inner (t : ByteArray) : t.data.toList.all (fun c => innerI c.toNat) = true ↔ ∀ q, q < t.size → innerI (bt t q) = true := by
  rw [List.all_eq_true]
  have hz : t.data.toList.length = t.size := by rw [Array.length_toList]; rfl
  constructor
  · intro h q hq
    have hq2 : q < t.data.toList.length := by omega
    have := h _ (List.getElem_mem hq2)
    unfold bt
    rw [List.getD_eq_getElem?_getD, List.getElem?_eq_getElem hq2]
    exact this
  · intro h c hc
    obtain ⟨q, hq⟩ := List.getElem?_of_mem hc
    have hq2 : q < t.data.toList.length := (List.getElem?_eq_some_iff.1 hq).1
    have := h q (by omega)
    unfold bt at this
    rw [List.getD_eq_getElem?_getD, hq] at this
    exact this
theorem nameB_iff (t : ByteArray) (k : Int) : nameB t k = true ↔ nameOk t k := by
  unfold nameB nameOk
  rw [Bool.and_eq_true, Bool.and_eq_true, Bool.and_eq_true, all_inner, decide_eq_true_eq, decide_eq_true_eq, beq_iff_eq]
  constructor
  · rintro ⟨h1, h2, h3, h4⟩; exact ⟨h1, h2, h4, h3⟩
  · rintro ⟨h1, h2, h4, h3⟩; exact ⟨h1, h2, h3, h4⟩
theorem mayB_iff (x : Nd) : mayB x = true ↔ mayN x := by
  unfold mayB mayN
  by_cases h1 : x.k = 1
  · rw [if_pos h1, Bool.and_eq_true, empty_iff, beq_iff_eq]
    constructor
    · intro h; exact .inl ⟨h1, h⟩
    · rintro (h | h | h | h | h)
      · exact h.2
      all_goals omega
  · rw [if_neg h1]
    by_cases h2 : x.k = 2
    · rw [if_pos h2, Bool.and_eq_true, nameB_iff, beq_iff_eq]
      constructor
      · intro h; exact .inr (.inl ⟨h2, h.2, h.1⟩)
      · rintro (h | h | h | h | h)
        · omega
        · exact ⟨h.2.2, h.2.1⟩
        all_goals omega
    · rw [if_neg h2]
      by_cases h3 : x.k = 3
      · rw [if_pos h3, Bool.and_eq_true, nameB_iff, beq_iff_eq]
        constructor
        · intro h; exact .inr (.inr (.inl ⟨h3, h.2, h.1⟩))
        · rintro (h | h | h | h | h)
          · omega
          · omega
          · exact ⟨h.2.2, h.2.1⟩
          all_goals omega
      · rw [if_neg h3]
        by_cases h4 : x.k = 4 ∨ x.k = 5
        · rw [if_pos h4]
          simp only [Bool.and_eq_true, empty_iff, decide_eq_true_eq]
          constructor
          · rintro ⟨h5, h6⟩; exact .inr (.inr (.inr (.inl ⟨h4, h5, h6⟩)))
          · rintro (h | h | h | h | h)
            · exact absurd h.1 h1
            · exact absurd h.1 h2
            · exact absurd h.1 h3
            · exact h.2
            · omega
        · rw [if_neg h4]
          by_cases h6 : x.k = 6 ∨ x.k = 7 ∨ x.k = 8
          · rw [if_pos h6]
            simp only [Bool.and_eq_true, empty_iff, beq_iff_eq]
            constructor
            · rintro ⟨h5, h7⟩; exact .inr (.inr (.inr (.inr ⟨h6, h5, h7⟩)))
            · rintro (h | h | h | h | h)
              · exact absurd h.1 h1
              · exact absurd h.1 h2
              · exact absurd h.1 h3
              · exact absurd h.1 h4
              · exact h.2
          · rw [if_neg h6]
            constructor
            · intro h; cases h
            · rintro (h | h | h | h | h)
              · exact absurd h.1 h1
              · exact absurd h.1 h2
              · exact absurd h.1 h3
              · exact absurd h.1 h4
              · exact absurd h.1 h6
theorem byte8 : ∀ n : Fin 256, (upperI (n.val : Int) = (kindI (n.val : Int) == 1)) ∧ (lowerI (n.val : Int) = (kindI (n.val : Int) == 2)) := by decide +kernel
theorem upper_kind (s : ByteArray) (k : Nat) : upperI (bt s k) = (kindI (bt s k) == 1) ∧ lowerI (bt s k) = (kindI (bt s k) == 2) := by
  obtain ⟨n, hn⟩ := byte_bt s k
  rw [← hn]; exact byte8 n

set_option maxRecDepth 100000 in
set_option maxHeartbeats 1600000 in
theorem rName_any (s : ByteArray) (c k : Int) (w : World) (hc : (c = 85 ∧ k = 1) ∨ (c = 76 ∧ k = 2)) :
    Calls Tryz.prog 71 #[.string s, .int .u8 c] w fun e w' => e = .returned (.bool (nameB s k)) ∧ w = w' := by
  by_cases h1 : s.size < 1
  · have HN : Hid (nameB s k = false) := by unfold Hid nameB; rw [decide_eq_false (by omega)]; rfl
    go_enter Tryz.func71, Tryz.ntmps71
    go_wp2_with fail
    go_ret
    exact ⟨by rw [HN.out]; rfl, rfl⟩
  · by_cases h2 : 16 < s.size
    · have HN : Hid (nameB s k = false) := by unfold Hid nameB; rw [decide_eq_true (by omega), decide_eq_false (by omega)]; rfl
      go_enter Tryz.func71, Tryz.ntmps71
      go_wp2_with fail
      go_ret
      exact ⟨by rw [HN.out]; rfl, rfl⟩
    · have HN : Hid (nameB s k = (s.data.toList.all (fun c => innerI c.toNat) && kindI (bt s 0) == k)) := by
        unfold Hid nameB; rw [decide_eq_true (by omega), decide_eq_true (by omega)]; rfl
      have h0 : 0 < s.size := by omega
      have HU : Hid (∀ w, Calls Tryz.prog 86 #[.int .u8 (s[0].toNat : Int)] w fun e w' => e = .returned (.bool (kindI (bt s 0) == 1)) ∧ w = w') := by
        intro w; rw [← (upper_kind s 0).1, ← bt_get s 0 h0]; exact rUpper_any _ _
      have HL : Hid (∀ w, Calls Tryz.prog 87 #[.int .u8 (s[0].toNat : Int)] w fun e w' => e = .returned (.bool (kindI (bt s 0) == 2)) ∧ w = w') := by
        intro w; rw [← (upper_kind s 0).2, ← bt_get s 0 h0]; exact rLower_any _ _
      have HAll := Lib.hid (all_inner s)
      go_enter Tryz.func71, Tryz.ntmps71
      go_wp2_with fail
      go_loop [5] (fun i => ∃ j : Nat, j ≤ s.size ∧ i = .int .i64 j ∧ Hid (∀ q, q < j → innerI (bt s q) = true)) (fun i => s.size - (intOf i).toNat)
      case atStart => exact ⟨0, by omega, rfl, fun q h => by omega⟩
      case round =>
        obtain ⟨j, hj, rfl, HQ⟩ := hrel
        by_cases hlt : j < s.size
        · have HI : Hid (∀ w, Calls Tryz.prog 85 #[.int .u8 (s[j].toNat : Int)] w fun e w' => e = .returned (.bool (innerI (bt s j))) ∧ w = w') := by
            intro w; rw [← bt_get s j hlt]; exact rInner_any _ _
          cases hi : innerI (bt s j) with
          | true =>
            rw [hi] at HI
            have HQ2 : Hid (∀ q, q < j + 1 → innerI (bt s q) = true) := fun q hq => by
              by_cases h : q = j
              · subst h; exact hi
              · exact HQ.out q (by omega)
            clear hi
            go_wp2_with (go_at_call 85; refine (HI.out _).mono ?_; rintro e w' ⟨rfl, rfl⟩)
            go_round
            case rel => exact ⟨j + 1, by omega, by go_num, HQ2.out⟩
            case measure => simp [intOf]; omega
          | false =>
            rw [hi] at HI
            have HF : Hid (nameB s k = false) := by
              unfold Hid
              rw [HN.out]
              have : s.data.toList.all (fun c => innerI c.toNat) = false := by
                rw [Bool.eq_false_iff]
                intro h
                have := HAll.out.1 h j hlt
                rw [hi] at this; cases this
              rw [this]; rfl
            clear hi
            go_wp2_with (go_at_call 85; refine (HI.out _).mono ?_; rintro e w' ⟨rfl, rfl⟩)
            go_ret
            exact ⟨by rw [HF.out]; rfl, rfl⟩
        · have HF : Hid (nameB s k = (kindI (bt s 0) == k)) := by
            unfold Hid
            rw [HN.out, HAll.out.2 (fun q hq => HQ.out q (by omega))]; rfl
          rcases hc with ⟨rfl, rfl⟩ | ⟨rfl, rfl⟩
          · generalize (kindI (bt s 0) == 1) = b1 at *
            cases b1
            all_goals
              go_wp2_with (first | (go_at_call 86; refine (HU.out _).mono ?_; rintro e w' ⟨rfl, rfl⟩) | (go_at_call 87; refine (HL.out _).mono ?_; rintro e w' ⟨rfl, rfl⟩))
              go_ret
              exact ⟨by rw [HF.out]; rfl, rfl⟩
          · generalize (kindI (bt s 0) == 2) = b1 at *
            cases b1
            all_goals
              go_wp2_with (first | (go_at_call 86; refine (HU.out _).mono ?_; rintro e w' ⟨rfl, rfl⟩) | (go_at_call 87; refine (HL.out _).mono ?_; rintro e w' ⟨rfl, rfl⟩))
              go_ret
              exact ⟨by rw [HF.out]; rfl, rfl⟩

set_option maxRecDepth 100000 in
set_option maxHeartbeats 3200000 in
theorem rMay_any (x : Nd) (w : World) :
    Calls Tryz.prog 126 #[.agg #[.int .i64 x.k, .string x.n, .int .i64 x.c]] w fun e w' => e = .returned (.bool (mayB x)) ∧ Below w.heap.size w w' := by
  have HU := Lib.hid (fun w => rName_any x.n 85 1 w (.inl ⟨rfl, rfl⟩))
  have HL := Lib.hid (fun w => rName_any x.n 76 2 w (.inr ⟨rfl, rfl⟩))
  have hcase : x.k = 1 ∨ x.k = 2 ∨ x.k = 3 ∨ x.k = 4 ∨ x.k = 5 ∨ x.k = 6 ∨ x.k = 7 ∨ x.k = 8 ∨ (x.k ≠ 1 ∧ x.k ≠ 2 ∧ x.k ≠ 3 ∧ x.k ≠ 4 ∧ x.k ≠ 5 ∧ x.k ≠ 6 ∧ x.k ≠ 7 ∧ x.k ≠ 8) := by omega
  obtain ⟨k, t, c⟩ := x
  simp only at hcase HU HL ⊢
  rcases hcase with rfl | rfl | rfl | rfl | rfl | rfl | rfl | rfl | h
  · have HM : Hid (mayB ⟨1, t, c⟩ = (t.toList.isEmpty && c == 0)) := rfl
    cases h1 : t.toList.isEmpty <;> cases h2 : (c == 0)
    all_goals
      have h1' := h1
      rw [h1, h2] at HM
      go_enter Tryz.func126, Tryz.ntmps126
      go_wp2_with fail
      go_ret
      exact ⟨by rw [HM.out]; rfl, below1 _ _⟩
  · have HM : Hid (mayB ⟨2, t, c⟩ = (nameB t 1 && c == 0)) := rfl
    generalize nameB t 1 = n1 at *
    cases n1 <;> cases h2 : (c == 0)
    all_goals
      rw [h2] at HM
      go_enter Tryz.func126, Tryz.ntmps126
      go_wp2_with (go_at_call 71; refine (HU.out _).mono ?_; rintro e w' ⟨rfl, rfl⟩)
      go_ret
      exact ⟨by rw [HM.out]; rfl, below1 _ _⟩
  · have HM : Hid (mayB ⟨3, t, c⟩ = (nameB t 2 && c == 0)) := rfl
    generalize nameB t 2 = n1 at *
    cases n1 <;> cases h2 : (c == 0)
    all_goals
      rw [h2] at HM
      go_enter Tryz.func126, Tryz.ntmps126
      go_wp2_with (go_at_call 71; refine (HL.out _).mono ?_; rintro e w' ⟨rfl, rfl⟩)
      go_ret
      exact ⟨by rw [HM.out]; rfl, below1 _ _⟩
  · have HM : Hid (mayB ⟨4, t, c⟩ = (t.toList.isEmpty && decide (2 ≤ c))) := rfl
    cases h1 : t.toList.isEmpty <;> cases h2 : decide (2 ≤ c)
    all_goals
      rw [h1, h2] at HM
      go_enter Tryz.func126, Tryz.ntmps126
      go_wp2_with fail
      go_ret
      exact ⟨by rw [HM.out]; rfl, below1 _ _⟩
  · have HM : Hid (mayB ⟨5, t, c⟩ = (t.toList.isEmpty && decide (2 ≤ c))) := rfl
    cases h1 : t.toList.isEmpty <;> cases h2 : decide (2 ≤ c)
    all_goals
      rw [h1, h2] at HM
      go_enter Tryz.func126, Tryz.ntmps126
      go_wp2_with fail
      go_ret
      exact ⟨by rw [HM.out]; rfl, below1 _ _⟩
  · have HM : Hid (mayB ⟨6, t, c⟩ = (t.toList.isEmpty && c == 1)) := rfl
    cases h1 : t.toList.isEmpty <;> cases h2 : (c == 1)
    all_goals
      rw [h1, h2] at HM
      go_enter Tryz.func126, Tryz.ntmps126
      go_wp2_with fail
      go_ret
      exact ⟨by rw [HM.out]; rfl, below1 _ _⟩
  · have HM : Hid (mayB ⟨7, t, c⟩ = (t.toList.isEmpty && c == 1)) := rfl
    cases h1 : t.toList.isEmpty <;> cases h2 : (c == 1)
    all_goals
      rw [h1, h2] at HM
      go_enter Tryz.func126, Tryz.ntmps126
      go_wp2_with fail
      go_ret
      exact ⟨by rw [HM.out]; rfl, below1 _ _⟩
  · have HM : Hid (mayB ⟨8, t, c⟩ = (t.toList.isEmpty && c == 1)) := rfl
    cases h1 : t.toList.isEmpty <;> cases h2 : (c == 1)
    all_goals
      rw [h1, h2] at HM
      go_enter Tryz.func126, Tryz.ntmps126
      go_wp2_with fail
      go_ret
      exact ⟨by rw [HM.out]; rfl, below1 _ _⟩
  · obtain ⟨a1, a2, a3, a4, a5, a6, a7, a8⟩ := h
    have HM : Hid (mayB ⟨k, t, c⟩ = false) := by
      unfold Hid mayB
      simp only
      rw [if_neg a1, if_neg a2, if_neg a3, if_neg (by omega), if_neg (by omega)]
    have b1 : (k == 1) = false := by simpa using a1
    have b2 : (k == 2) = false := by simpa using a2
    have b3 : (k == 3) = false := by simpa using a3
    have b4 : (k == 4) = false := by simpa using a4
    have b5 : (k == 5) = false := by simpa using a5
    have b6 : (k == 6) = false := by simpa using a6
    have b7 : (k == 7) = false := by simpa using a7
    have b8 : (k == 8) = false := by simpa using a8
    clear a1 a2 a3 a4 a5 a6 a7 a8
    go_enter Tryz.func126, Tryz.ntmps126
    go_wp2_with fail
    go_ret
    exact ⟨by rw [HM.out]; rfl, below1 _ _⟩
end Go.Proofs.YtkmjmfcanlknjaaGreat
namespace Go.Proofs.YtkmjmfcanlknjaaGreat
open Go.RowKit Go.Shelf

def endL (lim : Nat) : List Nd → Nat → Option Nat
  | [], w => if w = 0 then some 0 else none
  | x :: l, w => if w = 0 then some 0 else if mayB x = true ∧ x.c ≤ lim then (endL lim l (w - 1 + x.c.toNat)).map (· + 1) else none
def endR (t : Nat) (o : Option Nat) : Int := match o with | some k => ((t + k : Nat) : Int) | none => -1
theorem endL_zero (lim : Nat) (l : List Nd) : endL lim l 0 = some 0 := by cases l <;> simp [endL]
theorem endR_map (t : Nat) (o : Option Nat) : endR t (o.map (· + 1)) = endR (t + 1) o := by
  cases o with
  | none => rfl
  | some k => simp only [endR, Option.map]; omega
theorem end_forest {lim : Nat} (F : Fo) : ∀ (w : Nat) (R : List Nd), F.wf → F.all mayN → F.size ≤ lim → endL lim (F.flat ++ R) (F.len + w) = (endL lim R w).map (· + F.size) := by
  induction F with
  | nil => intro w R _ _ _; simp [Fo.flat, Fo.len, Fo.size]
  | cons x k r ih1 ih2 =>
    intro w R hwf hall hs
    simp only [Fo.size] at hs
    have e : (Fo.cons x k r).flat ++ R = x :: (k.flat ++ (r.flat ++ R)) := by simp [Fo.flat]
    have hk := Fo.len_le k
    have e2 : (Fo.cons x k r).len + w = r.len + 1 + w := rfl
    rw [e, e2]
    conv => lhs; unfold endL
    rw [if_neg (by omega), if_pos ⟨(mayB_iff x).2 hall.1, by rw [hwf.1]; omega⟩, hwf.1]
    rw [show r.len + 1 + w - 1 + (k.len : Int).toNat = k.len + (r.len + w) from by omega]
    rw [ih1 _ _ hwf.2.1 hall.2.1 (by omega), ih2 _ _ hwf.2.2 hall.2.2 (by omega)]
    cases endL lim R w with
    | none => rfl
    | some m => simp [Fo.size]; omega

set_option maxRecDepth 100000 in
set_option maxHeartbeats 3200000 in
theorem rEnd_any (v : Value) (N : List Nd) (p : Nat) (w : World) (h : RdNd w v N) (hl : N.length ≤ 16777216) (hp : p ≤ N.length) :
    Calls Tryz.prog 105 #[v, .int .i64 p] w fun e w' => e = .returned (.int .i64 (endR p (endL N.length (N.drop p) 1))) ∧ Below w.heap.size w w' := by
  have HR := Lib.hid h
  obtain ⟨_, ao, cap, rfl, -⟩ := id h
  obtain ⟨n, hn⟩ : ∃ n, n = N.length := ⟨_, rfl⟩
  have HN := Lib.hid hn
  rw [← hn] at hl hp HR ⊢
  clear h hn
  obtain ⟨tg, htg⟩ : ∃ tg, tg = endR p (endL n (N.drop p) 1) := ⟨_, rfl⟩
  rw [← htg]
  have HT := Lib.hid htg
  clear htg
  go_enter Tryz.func105, Tryz.ntmps105
  go_wp2_with fail
  go_loopw [1, 5] (fun a o wr => ∃ (t want : Nat), a = .int .i64 t ∧ o = .int .i64 want ∧ t ≤ n ∧ want ≤ 1 + t * 16777216 ∧ Hid (Below w.heap.size w wr) ∧ Hid (tg = endR t (endL n (N.drop t) want))) (fun a _ _ => n - (intOf a).toNat)
  case atStart => exact ⟨p, 1, rfl, rfl, hp, by omega, Below.refl _ _, HT.out⟩
  case round =>
    obtain ⟨t, want, rfl, rfl, ht, hw, HBel, HE⟩ := hrel
    have hws := HBel.out.size
    by_cases hw0 : want = 0
    · subst hw0
      have HE2 : Hid (tg = (t : Int)) := by unfold Hid; rw [HE.out, endL_zero]; simp [endR]
      go_wp2_with fail
      go_ret
      exact ⟨congrArg (fun x : Int => Ending.returned (.int .i64 x)) HE2.out.symm, HBel.out⟩
    · have hwp : 0 < want := by omega
      by_cases hlt : t < n
      · obtain ⟨x, hx⟩ : ∃ x, N[t]? = some x := ⟨_, List.getElem?_eq_getElem (by have := HN.out; omega)⟩
        obtain ⟨b, off, cp, e1, hb, hc, x0, x1, x2⟩ := RdNd.at (l := N) (by have := HR.out; rw [HN.out] at this; exact this) hx
        rw [← HN.out] at e1
        simp only [Value.slice.injEq] at e1
        obtain ⟨rfl, -, rfl⟩ := e1
        have X0 := (HBel.out.cell (p := ⟨b, _, none⟩) hb).trans x0
        have X1 := (HBel.out.cell (p := ⟨b, _, none⟩) hb).trans x1
        have X2 := (HBel.out.cell (p := ⟨b, _, none⟩) hb).trans x2
        have hd : N.drop t = x :: N.drop (t + 1) := by
          have hlt2 : t < N.length := by have := HN.out; omega
          rw [List.drop_eq_getElem_cons hlt2]
          have := List.getElem?_eq_getElem hlt2
          rw [hx] at this
          simp only [Option.some.injEq] at this
          rw [← this]
        have HE2 : Hid (tg = if mayB x = true ∧ x.c ≤ n then endR (t + 1) (endL n (N.drop (t + 1)) (want - 1 + x.c.toNat)) else -1) := by
          unfold Hid
          rw [HE.out, hd]
          conv => lhs; unfold endL
          rw [if_neg hw0]
          split
          · rw [endR_map]
          · rfl
        have HM := Lib.hid (fun w => rMay_any x w)
        have hbw : b < wr.heap.size := by omega
        clear x0 x1 x2 hx hd hw0
        cases hmb : mayB x with
        | false =>
          rw [hmb] at HM
          have HE3 : Hid (tg = -1) := by unfold Hid; rw [HE2.out, if_neg (by rw [hmb]; simp)]
          clear hmb
          go_wp2_with (go_at_call 126; refine (HM.out _).mono ?_; rintro e w2 ⟨rfl, hb2⟩)
          go_ret
          exact ⟨congrArg (fun x : Int => Ending.returned (.int .i64 x)) HE3.out.symm, HBel.out.trans (hb2.mono hws)⟩
        | true =>
          rw [hmb] at HM
          have hc0 := ((mayB_iff x).1 hmb).c
          by_cases hcl : x.c ≤ n
          · have HE3 : Hid (tg = endR (t + 1) (endL n (N.drop (t + 1)) (want - 1 + x.c.toNat))) := by unfold Hid; rw [HE2.out, if_pos ⟨hmb, hcl⟩]
            obtain ⟨c, hc⟩ : ∃ c : Nat, x.c = c := ⟨x.c.toNat, by omega⟩
            rw [hc] at X2 HE3 hcl HM
            have hcn : c ≤ n := by omega
            clear hmb HE2
            have HX1 := Lib.hid X1
            go_wp2_with (go_at_call 126; refine (HM.out _).mono ?_; rintro e w2 ⟨rfl, hb2⟩; have HB2 := Lib.hid hb2; have X2' := (hb2.cell (p := ⟨b, _, none⟩) hbw).trans X2; clear hb2)
            have HB3 : Hid (Below w.heap.size w w2) := HBel.out.trans (HB2.out.mono hws)
            clear X2 X2' X0 X1
            go_roundw
            case rel => exact ⟨t + 1, want - 1 + c, by go_num, by go_num, by omega, by omega, HB3.out, by unfold Hid; have := HE3.out; simpa using this⟩
            case measure => simp [intOf]; omega
          · have HE3 : Hid (tg = -1) := by unfold Hid; rw [HE2.out, if_neg (by rintro ⟨_, h⟩; exact hcl h)]
            have hcl' : (n : Int) < x.c := by omega
            clear hmb HE2
            go_wp2_with (go_at_call 126; refine (HM.out _).mono ?_; rintro e w2 ⟨rfl, hb2⟩; have HB2 := Lib.hid hb2; have X2' := (hb2.cell (p := ⟨b, _, none⟩) hbw).trans X2; clear hb2)
            go_ret
            exact ⟨congrArg (fun x : Int => Ending.returned (.int .i64 x)) HE3.out.symm, HBel.out.trans (HB2.out.mono hws)⟩
      · obtain rfl : t = n := by omega
        have HE3 : Hid (tg = -1) := by
          unfold Hid
          rw [HE.out, List.drop_eq_nil_of_le (by have := HN.out; omega)]
          simp only [endL]; rw [if_neg hw0]; rfl
        clear hw0
        go_wp2_with fail
        go_ret
        exact ⟨congrArg (fun x : Int => Ending.returned (.int .i64 x)) HE3.out.symm, HBel.out⟩
end Go.Proofs.YtkmjmfcanlknjaaGreat
namespace Go.Proofs.YtkmjmfcanlknjaaGreat
open Go.RowKit Go.Shelf

/-- a tree stands at a place of a list -/
structure TreeAt (N : List Nd) (p : Nat) (x : Nd) (k : Fo) (R : List Nd) : Prop where
  drop : N.drop p = (Fo.cons x k .nil).flat ++ R
  wf : (Fo.cons x k .nil).wf
  all : (Fo.cons x k .nil).all mayN
theorem TreeAt.head {N : List Nd} {p : Nat} {x : Nd} {k : Fo} {R : List Nd} (h : TreeAt N p x k R) : N[p]? = some x ∧ N.drop (p + 1) = k.flat ++ R ∧ p + k.size + 1 ≤ N.length := by
  have e : (Fo.cons x k .nil).flat ++ R = x :: (k.flat ++ R) := by simp [Fo.flat]
  have hd := h.drop
  rw [e] at hd
  obtain ⟨h1, h2, h3⟩ := drop_head hd
  refine ⟨h1, h2, ?_⟩
  have := congrArg List.length hd
  simp only [List.length_drop, List.length_cons, List.length_append, Fo.flat_len] at this
  omega
/-- where the trees of a forest begin -/
def starts (k : Fo) (s : Nat) : List Nat := (k.pieces s).map (·.1)
theorem starts_cons (y : Nd) (kk r : Fo) (s : Nat) : starts (Fo.cons y kk r) s = s :: starts r (s + kk.size + 1) := rfl
theorem starts_len (k : Fo) (s : Nat) : (starts k s).length = k.len := by unfold starts; rw [List.length_map, Fo.pieces_len]
theorem end_tree {N : List Nd} {p : Nat} {x : Nd} {k : Fo} {R : List Nd} (h : TreeAt N p x k R) : endR p (endL N.length (N.drop p) 1) = ((p + k.size + 1 : Nat) : Int) := by
  have hh := h.head.2.2
  have := end_forest (lim := N.length) (Fo.cons x k .nil) 0 R h.wf h.all (by simp only [Fo.size]; omega)
  rw [endL_zero] at this
  rw [h.drop]
  have e : (Fo.cons x k .nil).len + 0 = 1 := rfl
  rw [e] at this
  rw [this]
  simp only [Option.map, endR, Fo.size]
  congr 1; omega

set_option maxRecDepth 100000 in
set_option maxHeartbeats 3200000 in
theorem rKids_any (v : Value) (N : List Nd) (p : Nat) (x : Nd) (k : Fo) (R : List Nd) (w : World) (h : RdNd w v N) (hl : N.length ≤ 16777216) (hT : TreeAt N p x k R) :
    Calls Tryz.prog 107 #[v, .int .i64 p] w fun e w' => ∃ v', e = .returned v' ∧ OwnI w' w.heap.size v' (starts k (p + 1)) ∧ Below w.heap.size w w' := by
  obtain ⟨h1, h2, h3⟩ := hT.head
  have HR := Lib.hid h
  obtain ⟨b, off, cap, rfl, hb, hcap, x0, x1, x2⟩ := RdNd.at h h1
  rw [hT.wf.1] at x2
  have hkl := Fo.len_le k
  obtain ⟨n, hn⟩ : ∃ n, n = N.length := ⟨_, rfl⟩
  have HN := Lib.hid hn
  rw [← hn] at hl h3 HR hcap ⊢
  have HD := Lib.hid h2
  have HT := Lib.hid hT
  have HEnd : Hid (∀ (wx : World) (s : Nat) y kk R2, Below w.heap.size w wx → TreeAt N s y kk R2 → Calls Tryz.prog 105 #[.slice (some ⟨b, off, none⟩) n cap, .int .i64 s] wx fun e w' => e = .returned (.int .i64 ((s + kk.size + 1 : Nat) : Int)) ∧ Below wx.heap.size wx w') := by
    intro wx s y kk R2 hbx hT2
    have := rEnd_any (.slice (some ⟨b, off, none⟩) n cap) N s wx (by have := HR.out; exact this.below hbx) (by omega) (by have := hT2.head.2.2; omega)
    rw [end_tree hT2] at this
    exact this
  have hpn : p < n := by omega
  clear h h1 h2 hT hn x0 x1
  go_enter Tryz.func107, Tryz.ntmps107
  go_wp2_with fail
  go_loopw [5, 6, 7] (fun o a i wr => ∃ (j s : Nat) (r : Fo) (done : List Nat), i = .int .i64 j ∧ a = .int .i64 s ∧ OwnI wr w.heap.size o done ∧ Hid (done.length = j) ∧ j + r.len = k.len ∧ s + r.size ≤ n ∧ Hid (Below w.heap.size w wr) ∧
    Hid (starts k (p + 1) = done ++ starts r s ∧ N.drop s = r.flat ++ R ∧ r.wf ∧ r.all mayN)) (fun _ _ i _ => k.len - (intOf i).toNat)
  case atStart => exact ⟨0, p + 1, k, [], rfl, by go_num, World.ownsRow_nil _ _ _ _, rfl, by omega, by omega, Below.refl _ _, rfl, HD.out, HT.out.wf.2.1, HT.out.all.2.1⟩
  case round =>
    obtain ⟨j, s, r, done, rfl, rfl, hown, HDj, hjr, hsr, HBel, HRr⟩ := hrel
    have hws := HBel.out.size
    have X2 := (HBel.out.cell (p := ⟨b, _, none⟩) hb).trans x2
    by_cases hlt : j < k.len
    · obtain ⟨y, kk, r', rfl⟩ : ∃ y kk r', r = Fo.cons y kk r' := by
        cases r with
        | nil => simp [Fo.len] at hjr; omega
        | cons y kk r' => exact ⟨y, kk, r', rfl⟩
      simp only [Fo.len, Fo.size] at hjr hsr
      have HTk : Hid (TreeAt N s y kk (r'.flat ++ R)) := ⟨by rw [HRr.out.2.1]; simp [Fo.flat], ⟨HRr.out.2.2.1.1, HRr.out.2.2.1.2.1, trivial⟩, ⟨HRr.out.2.2.2.1, HRr.out.2.2.2.2.1, trivial⟩⟩
      have HJr := Lib.hid hjr
      have hdl : done.length ≤ 16777216 := by have := HDj.out; omega
      have HX2 := Lib.hid X2
      clear hjr
      go_wp2_with (at_builtin; go_must (refine wpList_appG1 elemInt rfl _ _ rfl hown rfl (news := [.int .i64 s]) rfl rfl (by intro u hu; simp at hu; subst hu; rfl) (by unfold maxLen; omega) (by omega) hws ?_); intro v' w3 hown3 hg3)
      have HB3 : Hid (Below w.heap.size w w3) := HBel.out.grown hg3 hws (fun j hj => own_block hown j hj)
      have HO3 : Hid (OwnI w3 w.heap.size v' (done ++ [s])) := OwnI.snoc hown3
      have HE3 := Lib.hid (HEnd.out w3 s y kk _ HB3.out HTk.out)
      clear hown3 hg3
      refine (HE3.out).mono ?_
      rintro e w4 ⟨rfl, hb4⟩
      have HB4 : Hid (Below w.heap.size w w4) := HB3.out.trans (hb4.mono HB3.out.size)
      have HO4 : Hid (OwnI w4 w.heap.size v' (done ++ [s])) := own_grown HO3.out (grown_below hb4) (by simp)
      have HD2 : Hid (N.drop (s + kk.size + 1) = r'.flat ++ R) := by
        unfold Hid
        rw [show s + kk.size + 1 = s + (kk.size + 1) from by omega, ← List.drop_drop, HTk.out.drop]
        rw [List.drop_append_of_le_length (by rw [Fo.flat_len]; simp [Fo.size])]
        rw [List.drop_eq_nil_of_le (by rw [Fo.flat_len]; simp [Fo.size])]
        rfl
      clear hb4 X2
      go_wp2_with fail
      go_roundw
      case rel => exact ⟨j + 1, s + kk.size + 1, r', done ++ [s], by go_num, rfl, HO4.out, by unfold Hid; rw [List.length_append, HDj.out]; rfl, by have := HJr.out; omega, by omega, HB4.out, by rw [HRr.out.1, starts_cons]; simp, HD2.out, HRr.out.2.2.1.2.2, HRr.out.2.2.2.2.2⟩
      case measure => simp [intOf]; omega
    · have HE : Hid (starts k (p + 1) = done) := by
        have hr0 : r = .nil := by
          cases r with
          | nil => rfl
          | cons y kk r' => simp [Fo.len] at hjr; omega
        have := HRr.out.1
        rw [hr0] at this
        unfold Hid
        simpa [starts, Fo.pieces] using this
      obtain ⟨ao, cp, rfl, -⟩ := OwnI.shape hown
      go_wp2_with fail
      go_ret
      exact ⟨_, rfl, by rw [HE.out]; exact hown, HBel.out⟩
def HtOk (n : Nat) : Prop := ∀ (v : Value) (N : List Nd) (p : Nat) (x : Nd) (k : Fo) (R : List Nd) (w : World), k.size + 1 ≤ n → RdNd w v N → N.length ≤ 16777216 → TreeAt N p x k R →
  Calls Tryz.prog 106 #[v, .int .i64 p] w fun e w' => e = .returned (.int .i64 ((k.height + 1 : Nat) : Int)) ∧ Below w.heap.size w w'
theorem height_le (f : Fo) : f.height ≤ f.size := by
  induction f with
  | nil => exact Nat.le_refl _
  | cons x k r h1 h2 => simp only [Fo.height, Fo.size]; omega

set_option maxRecDepth 100000 in
set_option maxHeartbeats 3200000 in
theorem rHeight_step (n : Nat) (ih : HtOk n) : HtOk (n + 1) := by
  intro v N p x k R w hkn h hl hT
  have HKd := Lib.hid (rKids_any v N p x k R w h hl hT)
  obtain ⟨h1, h2, h3⟩ := hT.head
  have HR := Lib.hid h
  have HD := Lib.hid h2
  have HT := Lib.hid hT
  have HIh := Lib.hid ih
  have hkl := Fo.len_le k
  have hkh := height_le k
  obtain ⟨_, ao, cap, rfl, -⟩ := id h
  have HX := Lib.hid hl
  clear h h1 h2 hT ih
  go_enter Tryz.func106, Tryz.ntmps106
  go_wp2_with fail
  refine (HKd.out).mono ?_
  rintro e w1 ⟨v1, rfl, ho1, hb1⟩
  obtain ⟨ao1, cp1, rfl, hcp⟩ := OwnI.shape ho1
  rw [starts_len] at hcp ⊢
  have HO1 := Lib.hid ho1
  have HB1 := Lib.hid hb1
  clear ho1 hb1 HKd
  go_wp2_with fail
  go_loopw [5, 7] (fun m i wr => ∃ (j s most : Nat) (r : Fo) (done : List Nat), i = .int .i64 j ∧ m = .int .i64 most ∧ Hid (done.length = j) ∧ j + r.len = k.len ∧ most ≤ N.length ∧ Hid (Below w1.heap.size w1 wr) ∧
    Hid (starts k (p + 1) = done ++ starts r s ∧ N.drop s = r.flat ++ R ∧ r.wf ∧ r.all mayN ∧ max most r.height = k.height ∧ r.size ≤ k.size)) (fun _ i _ => k.len - (intOf i).toNat)
  case atStart => exact ⟨0, p + 1, 0, k, [], rfl, rfl, rfl, by omega, by omega, Below.refl _ _, rfl, HD.out, HT.out.wf.2.1, HT.out.all.2.1, by omega, Nat.le_refl _⟩
  case round =>
    obtain ⟨j, s, most, r, done, rfl, rfl, HDj, hjr, hm, HBel, HRr⟩ := hrel
    have HB2 : Hid (Below w.heap.size w wr) := HB1.out.trans (HBel.out.mono HB1.out.size)
    by_cases hlt : j < k.len
    · obtain ⟨y, kk, r', rfl⟩ : ∃ y kk r', r = Fo.cons y kk r' := by
        cases r with
        | nil => simp [Fo.len] at hjr; omega
        | cons y kk r' => exact ⟨y, kk, r', rfl⟩
      simp only [Fo.len] at hjr
      have hsz := HRr.out.2.2.2.2.2
      simp only [Fo.size] at hsz
      have HTk : Hid (TreeAt N s y kk (r'.flat ++ R)) := ⟨by rw [HRr.out.2.1]; simp [Fo.flat], ⟨HRr.out.2.2.1.1, HRr.out.2.2.1.2.1, trivial⟩, ⟨HRr.out.2.2.2.1.1, HRr.out.2.2.2.1.2.1, trivial⟩⟩
      obtain ⟨g, gc, e0, hg1, hg2, hg3, hcs⟩ := own_src HO1.out (by rw [starts_len]; omega)
      rw [starts_len] at e0
      simp only [Value.slice.injEq] at e0
      obtain ⟨rfl, -, rfl⟩ := e0
      have hsj : (intsV (starts k (p + 1)))[j]? = some (.int .i64 s) := by
        unfold intsV
        rw [List.getElem?_map, HRr.out.1, starts_cons, List.getElem?_append_right (by rw [HDj.out]; exact Nat.le_refl _), HDj.out, Nat.sub_self]; rfl
      have c0 := hcs j _ hsj
      rw [Addr.add_lit, Nat.zero_add] at c0
      have C0 := (HBel.out.cell (p := ⟨g, j, none⟩) hg2).trans c0
      have HC : Hid (Calls Tryz.prog 106 #[.slice ao N.length cap, .int .i64 s] wr fun e w' => e = .returned (.int .i64 ((kk.height + 1 : Nat) : Int)) ∧ Below wr.heap.size wr w') :=
        HIh.out _ N s y kk _ wr (by omega) (HR.out.below HB2.out) HX.out HTk.out
      have hkh2 := height_le kk
      have HJr := Lib.hid hjr
      have HD2 : Hid (N.drop (s + kk.size + 1) = r'.flat ++ R) := by
        unfold Hid
        rw [show s + kk.size + 1 = s + (kk.size + 1) from by omega, ← List.drop_drop, HTk.out.drop]
        rw [List.drop_append_of_le_length (by rw [Fo.flat_len]; simp [Fo.size])]
        rw [List.drop_eq_nil_of_le (by rw [Fo.flat_len]; simp [Fo.size])]
        rfl
      have hmx := HRr.out.2.2.2.2.1
      have HMx : Hid (max (max most (kk.height + 1)) r'.height = k.height) := by unfold Hid; simp only [Fo.height] at hmx; omega
      have hgw : g < wr.heap.size := by have := HBel.out.size; omega
      clear hcs hsj c0 hjr hmx
      by_cases hlt2 : most < kk.height + 1
      all_goals
        go_wp2_with (go_at_call 106; refine (HC.out).mono ?_; rintro e w3 ⟨rfl, hb3⟩; have HB3 := Lib.hid hb3; clear hb3)
        have HB4 : Hid (Below w1.heap.size w1 w3) := HBel.out.trans (HB3.out.mono HBel.out.size)
        go_roundw
        case rel =>
          first
            | exact ⟨j + 1, s + kk.size + 1, kk.height + 1, r', done ++ [s], by go_num, by go_num, by unfold Hid; rw [List.length_append, HDj.out]; rfl, by have := HJr.out; omega, by omega, HB4.out, by rw [HRr.out.1, starts_cons]; simp, HD2.out, HRr.out.2.2.1.2.2, HRr.out.2.2.2.1.2.2, by have := HMx.out; omega, by omega⟩
            | exact ⟨j + 1, s + kk.size + 1, most, r', done ++ [s], by go_num, by go_num, by unfold Hid; rw [List.length_append, HDj.out]; rfl, by have := HJr.out; omega, by omega, HB4.out, by rw [HRr.out.1, starts_cons]; simp, HD2.out, HRr.out.2.2.1.2.2, HRr.out.2.2.2.1.2.2, by have := HMx.out; omega, by omega⟩
        case measure => simp [intOf]; omega
    · have HE : Hid (most = k.height) := by
        have hr0 : r = .nil := by
          cases r with
          | nil => rfl
          | cons y kk r' => simp [Fo.len] at hjr; omega
        have := HRr.out.2.2.2.2.1
        rw [hr0] at this
        unfold Hid
        simpa [Fo.height] using this
      go_wp2_with fail
      go_ret
      exact ⟨congrArg (fun x : Int => Ending.returned (.int .i64 x)) (by rw [← HE.out]; omega), HB2.out⟩
theorem rHeight_all : ∀ n, HtOk n
  | 0 => fun v N p x k R w hk => by omega
  | n + 1 => rHeight_step n (rHeight_all n)
end Go.Proofs.YtkmjmfcanlknjaaGreat
