import Derived.Test.YtbpipnjdfmpbdaaRxC
namespace Go.Proofs.Ytbpipnjdfmpbdaa
open Go.RowKit

/-- the reader's place -/
def posOf (w : World) (Br : Nat) : Nat := match w.cell? ⟨Br, 1, none⟩ with | some (.int _ n) => n.toNat | _ => 0
theorem Rdr.pos {w : World} {Br : Nat} {vl : Value} {L : List Mk} {p : Nat} {en : Int} (h : Rdr w Br vl L p en) : posOf w Br = p := by
  unfold posOf; rw [h.cells.2.1]; simp
theorem sufK_cases (k : Int) : (k = 7 ∧ sufK k = 6) ∨ (k = 8 ∧ sufK k = 7) ∨ (k = 9 ∧ sufK k = 8) ∨ (¬ k = 7 ∧ ¬ k = 8 ∧ ¬ k = 9 ∧ sufK k = 0) := by
  unfold sufK
  by_cases h1 : k = 7
  · simp [h1]
  · by_cases h2 : k = 8
    · simp [h2]
    · by_cases h3 : k = 9
      · simp [h3]
      · simp [h1, h2, h3]
theorem pSuf_step {L : List Mk} {m p : Nat} {f : Fo} {c : Int} (hp : p < L.length) (hm : L.length - p = m) (hc : sufK (kd L p) = c) (h0 : c ≠ 0) : pSuf L m p f = pSuf L (L.length - (p + 1)) (p + 1) (.cons ⟨c, ⟨#[]⟩, 1⟩ f .nil) := by
  obtain ⟨m', rfl⟩ : ∃ m', m = m' + 1 := ⟨m - 1, by omega⟩
  rw [show L.length - (p + 1) = m' from by omega]
  conv => lhs; unfold pSuf
  rw [hc, if_neg h0]
theorem pSuf_stop {L : List Mk} {m p : Nat} {f : Fo} (hc : sufK (kd L p) = 0) : pSuf L m p f = ⟨true, f, p⟩ := by
  cases m with
  | zero => rfl
  | succ m => unfold pSuf; rw [if_pos hc]
theorem PRet.pos {Br : Nat} {vl : Value} {L : List Mk} {en : Int} {w : World} {r : PR} {e : Ending} {w' : World} (h : PRet Br vl L en w r e w') : w.grownBy w' (some Br) := h.1

theorem flat_pos {f : Fo} (h : f.len = 1) : 0 < f.flat.length := by
  cases f with
  | nil => simp [Fo.len] at h
  | cons x k r => simp [Fo.flat]
/-- a node laid ahead of a list -/
theorem cons_flat (x : Nd) (f : Fo) : [x] ++ f.flat = (Fo.cons x f .nil).flat := by simp [Fo.flat]

theorem Rdr.moved {w w' : World} {Br : Nat} {vl : Value} {L : List Mk} {p q : Nat} {en : Int} (h : Rdr w Br vl L p en) (hg : w.grownBy w' (some Br)) (hb : w'.heap[Br]? = some (.cells #[vl, .int .i64 q, .int .i64 en] 74 (0, 0))) : Rdr w' Br vl L q en := by
  refine ⟨hb, ?_, h.apart⟩
  obtain ⟨h1, ao, cap, h2, h3, h4, h5⟩ := h.rd
  refine ⟨h1, ao, cap, h2, h3, h4, h5.imp id ?_⟩
  rintro ⟨b, off, h6, h7, h8⟩
  have hne : b ≠ Br := h.apart ⟨b, off, none⟩ _ _ (by rw [h2, h6])
  refine ⟨b, off, h6, by have := hg.size; omega, fun j u hj => ?_⟩
  exact hg.cell (h8 j u hj) (by simpa using hne)
/-- behind an append of what was read to a new node -/
theorem unit_round {Br : Nat} {vl : Value} {L : List Mk} {p q : Nat} {en : Int} {w w5 w6 w7 : World} {k : Int} {g : Fo} {v' : Value} {c : Nat} (hg5 : w.grownBy w5 (some Br)) (hr5 : Rdr w5 Br vl L q en) (a3 : w5.grownBy w6 (some Br)) (a4 : Rdr w6 Br vl L (q + 1) en) (a5 : w5.heap.size < w6.heap.size)
    (hown7 : w7.ownsRow w.heap.size 39 3 v' (1 + g.flat.length) (flatNd [⟨k, ⟨#[]⟩, 1⟩] ++ flatNd g.flat)) (hg7 : w6.grownBy w7 (Value.slice (some ⟨w5.heap.size, 0, none⟩) 1 c).ownBlock) (hq : q < L.length) (hB : PB L p ⟨true, g, q⟩) :
    OwnNd w7 w.heap.size v' (Fo.cons ⟨k, ⟨#[]⟩, 1⟩ g .nil).flat ∧ Rdr w7 Br vl L (q + 1) en ∧ w.grownBy w7 (some Br) ∧ PB L p ⟨true, .cons ⟨k, ⟨#[]⟩, 1⟩ g .nil, q + 1⟩ := by
  have g57 : w5.grownBy w7 (some Br) := grown_then a3 hg7 (fun j hj => by simp [Value.ownBlock] at hj; subst hj; exact .inl (Nat.le_refl _))
  have hlt := hr5.lt
  refine ⟨?_, hr5.moved g57 ((hg7.block Br (by omega) (by simp [Value.ownBlock]; omega)).trans a4.box), hg5.trans g57, ?_⟩
  · rw [← cons_flat]
    show World.ownsRow _ _ _ _ _ _ _
    rw [flatNd_app, List.length_append]; exact hown7
  · have h3 := hB.lt rfl
    have h4 := hB.size rfl
    have h5 := hB.one rfl
    simp only at h3 h4
    refine ⟨hq, by simp only; omega, fun _ => by simp only; omega, fun _ => ?_, fun _ => rfl, fun _ => ⟨by simp [h5], hB.wf rfl, trivial⟩⟩
    simp only [Fo.size]; omega
/-- a new node, behind a step of the reader -/
theorem node_new {Br : Nat} {vl : Value} {L : List Mk} {p : Nat} {en : Int} {w w2 : World} (hg : w.grownBy w2 (some Br)) (hr : Rdr w2 Br vl L p en) (x : Nd) :
    ((w2.setCell ⟨Br, 1, none⟩ (.int .i64 ((p : Int) + 1))).alloc (.cells #[.int .i64 x.k, .string x.n, .int .i64 x.c] 39)).ownsRow w.heap.size 39 3 (.slice (some ⟨w2.heap.size, 0, none⟩) 1 1) 1 (flatNd [x]) ∧
    w.grownBy ((w2.setCell ⟨Br, 1, none⟩ (.int .i64 ((p : Int) + 1))).alloc (.cells #[.int .i64 x.k, .string x.n, .int .i64 x.c] 39)) (some Br) ∧
    w2.grownBy ((w2.setCell ⟨Br, 1, none⟩ (.int .i64 ((p : Int) + 1))).alloc (.cells #[.int .i64 x.k, .string x.n, .int .i64 x.c] 39)) (some Br) ∧
    Rdr ((w2.setCell ⟨Br, 1, none⟩ (.int .i64 ((p : Int) + 1))).alloc (.cells #[.int .i64 x.k, .string x.n, .int .i64 x.c] 39)) Br vl L (p + 1) en ∧
    w2.heap.size < ((w2.setCell ⟨Br, 1, none⟩ (.int .i64 ((p : Int) + 1))).alloc (.cells #[.int .i64 x.k, .string x.n, .int .i64 x.c] 39)).heap.size := by
  have e : (w2.setCell ⟨Br, 1, none⟩ (.int .i64 ((p : Int) + 1))).heap.size = w2.heap.size := by simp [World.setCell]
  have g2 : w2.grownBy ((w2.setCell ⟨Br, 1, none⟩ (.int .i64 ((p : Int) + 1))).alloc (.cells #[.int .i64 x.k, .string x.n, .int .i64 x.c] 39)) (some Br) :=
    grown_then (grown_set w2 Br 1 _) (World.grownBy_alloc _ _ none) (by simp)
  refine ⟨?_, hg.trans g2, g2, (hr.step (p + 1)).kept (World.grownBy_alloc _ _ none), by simp [e]⟩
  have := OwnNd.one (w2.setCell ⟨Br, 1, none⟩ (.int .i64 ((p : Int) + 1))) w.heap.size (by rw [e]; exact hg.size) x
  rw [e] at this
  exact this
theorem cells_kept {w w' : World} {row : Option Nat} {g : Nat} {xs : List Value} (h : ∀ j u, xs[j]? = some u → w.cell? ((⟨g, 0, none⟩ : Addr).add j) = some u) (hg : w.grownBy w' row) (hne : some g ≠ row) :
    ∀ j u, xs[j]? = some u → w'.cell? ((⟨g, 0, none⟩ : Addr).add j) = some u := by
  intro j u hj
  refine hg.cell (h j u hj) ?_
  rw [Addr.add_lit]; exact hne

set_option maxRecDepth 100000 in
set_option maxHeartbeats 3200000 in
theorem xUnit_any (Br : Nat) (vl : Value) (L : List Mk) (p : Nat) (en : Int) (E : Nat → PR) (w : World) (h : Rdr w Br vl L p en) (hp : p ≤ L.length) (hl : L.length < 4294967296)
    (HA : Calls Try.prog 112 #[.pointer (some ⟨Br, 0, none⟩)] w (PRet Br vl L en w (pAtom E L p))) (hB : PB L p (pAtom E L p)) :
    Calls Try.prog 99 #[.pointer (some ⟨Br, 0, none⟩)] w (PRet Br vl L en w (pUnit E L p)) := by
  have HAh := Lib.hid HA
  have hbr := h.lt
  clear HA h
  have HU : Hid (pUnit E L p = if (pAtom E L p).ok then pSuf L (L.length - (pAtom E L p).p) (pAtom E L p).p (pAtom E L p).f else pAtom E L p) := rfl
  generalize pAtom E L p = r at *
  obtain ⟨ok, f, q⟩ := r
  cases ok with
  | false =>
    go_enter Try.func99, Try.ntmps99
    go_wp2_with fail
    refine (HAh.out).mono ?_
    rintro e w1 ⟨hg1, ⟨hok, v, rfl, ho, hr1⟩ | ⟨hok, rfl⟩⟩
    · cases hok
    · go_wp2_with fail
      refine ⟨rfl, ?_⟩
      rw [HU.out]
      exact PRet.bad hg1
  | true =>
    have HB := Lib.hid hB
    go_enter Try.func99, Try.ntmps99
    go_wp2_with fail
    refine (HAh.out).mono ?_
    rintro e w1 ⟨hg1, ⟨hok, v, rfl, ho, hr1⟩ | ⟨hok, rfl⟩⟩
    · have HO1 := Lib.hid ho
      have HR1 := Lib.hid hr1
      have HG1 := Lib.hid hg1
      clear hok ho hr1 hg1 hB HAh
      go_wp2_with fail
      go_loopw [3] (fun v wr => ∃ (q' : Nat) (g : Fo), Hid (OwnNd wr w.heap.size v g.flat) ∧ Hid (Rdr wr Br vl L q' en) ∧ Hid (w.grownBy wr (some Br)) ∧ Hid (pUnit E L p = pSuf L (L.length - q') q' g) ∧ Hid (PB L p ⟨true, g, q'⟩)) (fun _ wr => L.length - posOf wr Br)
      case atStart => exact ⟨q, f, HO1.out, HR1.out, HG1.out, HU.out, HB.out⟩
      case round =>
        obtain ⟨q', g, HO, HR, HG, HU2, HB2⟩ := hrel
        have HPos := Lib.hid HR.out.pos
        have hq := HB2.out.le
        simp only at hq
        have HK := Lib.hid (xKind_any Br vl L q' en wr HR.out hq)
        have hpos := flat_pos (HB2.out.one rfl)
        have hsz := HB2.out.size rfl
        simp only at hsz
        have hfl := Fo.flat_len g
        have hsl : g.flat.length ≤ 8589934592 := by omega
        obtain ⟨gb, cap, rfl, hgB, hgl, hcap, hcs⟩ := own_src HO.out hpos
        have HCS := Lib.hid hcs
        clear hcs hsz hfl
        rcases sufK_cases (kd L q') with ⟨hk, hs⟩ | ⟨hk, hs⟩ | ⟨hk, hs⟩ | ⟨hk1, hk2, hk3, hs⟩
        · have hql := sufK_lt (L := L) (p := q') (by rw [hs]; decide)
          have HN : Hid _ := (pSuf_step (f := g) hql rfl hs (by decide)).symm.trans HU2.out.symm
          rw [hk] at HK
          clear hk hs HU2
          go_wp2_with fail
          refine (HK.out).mono ?_
          rintro e w5 ⟨rfl, hr5, hg5⟩
          have HR5 := Lib.hid hr5
          have HG5 : Hid (w.grownBy w5 (some Br)) := grown_then HG.out hg5 (by simp)
          obtain ⟨c0, c1, c2, c3⟩ := HR5.out.cells
          obtain ⟨a1, a2, a3, a4, a5⟩ := node_new HG5.out HR5.out ⟨6, ⟨#[]⟩, 1⟩
          have HC5 := Lib.hid (cells_kept (cells_kept HCS.out hg5 (by simp)) a3 (by simp; omega))
          have HA1 := Lib.hid a1
          have HA3 := Lib.hid a3
          have HA4 := Lib.hid a4
          have hws : w.heap.size ≤ w5.heap.size := HG5.out.size
          clear hr5 hg5 a1 a2 a3 a4
          go_wp2_with (at_builtin; go_must (refine wpList_appG elemNd rfl _ _ rfl HA1.out rfl (news := flatNd g.flat) rfl (flatNd_len _) HC5.out (flatNd_one _) (by unfold maxLen; omega) (by omega) (by omega) ?_); intro v' w7 hown7 hg7)
          obtain ⟨b1, b2, b3, b4⟩ := unit_round HG5.out HR5.out HA3.out HA4.out a5 hown7 hg7 hql HB2.out
          have HPos7 := b2.pos
          clear hown7 hg7
          go_roundw
          case rel => exact ⟨q' + 1, _, b1, b2, b3, HN.out.symm, b4⟩
          case measure => rw [HPos7, HPos.out]; omega
        · have hql := sufK_lt (L := L) (p := q') (by rw [hs]; decide)
          have HN : Hid _ := (pSuf_step (f := g) hql rfl hs (by decide)).symm.trans HU2.out.symm
          rw [hk] at HK
          clear hk hs HU2
          go_wp2_with fail
          refine (HK.out).mono ?_
          rintro e w5 ⟨rfl, hr5, hg5⟩
          have HR5 := Lib.hid hr5
          have HG5 : Hid (w.grownBy w5 (some Br)) := grown_then HG.out hg5 (by simp)
          obtain ⟨c0, c1, c2, c3⟩ := HR5.out.cells
          obtain ⟨a1, a2, a3, a4, a5⟩ := node_new HG5.out HR5.out ⟨7, ⟨#[]⟩, 1⟩
          have HC5 := Lib.hid (cells_kept (cells_kept HCS.out hg5 (by simp)) a3 (by simp; omega))
          have HA1 := Lib.hid a1
          have HA3 := Lib.hid a3
          have HA4 := Lib.hid a4
          have hws : w.heap.size ≤ w5.heap.size := HG5.out.size
          clear hr5 hg5 a1 a2 a3 a4
          go_wp2_with (at_builtin; go_must (refine wpList_appG elemNd rfl _ _ rfl HA1.out rfl (news := flatNd g.flat) rfl (flatNd_len _) HC5.out (flatNd_one _) (by unfold maxLen; omega) (by omega) (by omega) ?_); intro v' w7 hown7 hg7)
          obtain ⟨b1, b2, b3, b4⟩ := unit_round HG5.out HR5.out HA3.out HA4.out a5 hown7 hg7 hql HB2.out
          have HPos7 := b2.pos
          clear hown7 hg7
          go_roundw
          case rel => exact ⟨q' + 1, _, b1, b2, b3, HN.out.symm, b4⟩
          case measure => rw [HPos7, HPos.out]; omega
        · have hql := sufK_lt (L := L) (p := q') (by rw [hs]; decide)
          have HN : Hid _ := (pSuf_step (f := g) hql rfl hs (by decide)).symm.trans HU2.out.symm
          rw [hk] at HK
          clear hk hs HU2
          go_wp2_with fail
          refine (HK.out).mono ?_
          rintro e w5 ⟨rfl, hr5, hg5⟩
          have HR5 := Lib.hid hr5
          have HG5 : Hid (w.grownBy w5 (some Br)) := grown_then HG.out hg5 (by simp)
          obtain ⟨c0, c1, c2, c3⟩ := HR5.out.cells
          obtain ⟨a1, a2, a3, a4, a5⟩ := node_new HG5.out HR5.out ⟨8, ⟨#[]⟩, 1⟩
          have HC5 := Lib.hid (cells_kept (cells_kept HCS.out hg5 (by simp)) a3 (by simp; omega))
          have HA1 := Lib.hid a1
          have HA3 := Lib.hid a3
          have HA4 := Lib.hid a4
          have hws : w.heap.size ≤ w5.heap.size := HG5.out.size
          clear hr5 hg5 a1 a2 a3 a4
          go_wp2_with (at_builtin; go_must (refine wpList_appG elemNd rfl _ _ rfl HA1.out rfl (news := flatNd g.flat) rfl (flatNd_len _) HC5.out (flatNd_one _) (by unfold maxLen; omega) (by omega) (by omega) ?_); intro v' w7 hown7 hg7)
          obtain ⟨b1, b2, b3, b4⟩ := unit_round HG5.out HR5.out HA3.out HA4.out a5 hown7 hg7 hql HB2.out
          have HPos7 := b2.pos
          clear hown7 hg7
          go_roundw
          case rel => exact ⟨q' + 1, _, b1, b2, b3, HN.out.symm, b4⟩
          case measure => rw [HPos7, HPos.out]; omega
        · have HN : Hid (pUnit E L p = ⟨true, g, q'⟩) := HU2.out.trans (pSuf_stop hs)
          have d1 : (kd L q' == 7) = false := by simpa using hk1
          have d2 : (kd L q' == 8) = false := by simpa using hk2
          have d3 : (kd L q' == 9) = false := by simpa using hk3
          clear hs hk1 hk2 hk3 HU2
          generalize kd L q' = k at *
          go_wp2_with (go_at_call 77; refine (HK.out).mono ?_; rintro e w5 ⟨rfl, hr5, hg5⟩; have HR5 := Lib.hid hr5; have HG5 := Lib.hid hg5; clear hr5 hg5)
          go_ret
          rw [HN.out]
          exact PRet.good (grown_then HG.out HG5.out (by simp)) (HO.out.grown HG5.out (by simp)) HR5.out
    · cases hok
end Go.Proofs.Ytbpipnjdfmpbdaa
