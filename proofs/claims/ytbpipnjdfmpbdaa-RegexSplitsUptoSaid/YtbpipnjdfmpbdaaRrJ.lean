import Derived.Test.YtbpipnjdfmpbdaaRrI
import Derived.Test.YtbpipnjdfmpbdaaRxI2
namespace Go.Proofs.Ytbpipnjdfmpbdaa
open Go.RowKit Go.Shelf

/-! ### lists of nodes, read -/
def RdNd (w : World) (v : Value) (l : List Nd) : Prop := Rd w v l.length 3 (flatNd l)
theorem RdNd.of_own {w : World} {B : Nat} {v : Value} {l : List Nd} (h : OwnNd w B v l) : RdNd w v l := Rd.of_owns h
theorem RdNd.below {w w' : World} {v : Value} {l : List Nd} (h : RdNd w v l) (hb : Below w.heap.size w w') : RdNd w' v l := Rd.below h hb
theorem flatNd_at (l : List Nd) (i : Nat) (x : Nd) (h : l[i]? = some x) : (flatNd l)[3 * i]? = some (.int .i64 x.k) ∧ (flatNd l)[3 * i + 1]? = some (.string x.n) ∧ (flatNd l)[3 * i + 2]? = some (.int .i64 x.c) := by
  induction l generalizing i with
  | nil => simp at h
  | cons y r ih =>
    have e : flatNd (y :: r) = .int .i64 y.k :: .string y.n :: .int .i64 y.c :: flatNd r := rfl
    cases i with
    | zero => simp at h; subst h; rw [e]; simp
    | succ i =>
      have h2 := ih i (by simpa using h)
      rw [e, show 3 * (i + 1) = 3 * i + 1 + 1 + 1 from by omega]
      simpa using h2
theorem RdNd.at {w : World} {v : Value} {l : List Nd} (h : RdNd w v l) {i : Nat} {x : Nd} (hx : l[i]? = some x) :
    ∃ b off cap, v = .slice (some ⟨b, off, none⟩) l.length cap ∧ b < w.heap.size ∧ l.length ≤ cap ∧
      w.cell? ⟨b, off + i * 3, none⟩ = some (.int .i64 x.k) ∧ w.cell? ⟨b, off + i * 3 + 1, none⟩ = some (.string x.n) ∧ w.cell? ⟨b, off + i * 3 + 2, none⟩ = some (.int .i64 x.c) := by
  have hi : i < l.length := (List.getElem?_eq_some_iff.1 hx).1
  obtain ⟨b, off, cap, h1, h2, h3, h4⟩ := Rd.at h hi
  obtain ⟨q0, q1, q2⟩ := flatNd_at l i x hx
  rw [show 3 * i = i * 3 from by omega] at q0 q1 q2
  exact ⟨b, off, cap, h1, h2, h3, h4 _ _ q0, h4 _ _ q1, h4 _ _ q2⟩
theorem stoodNd : Try.prog.stoodInHeld 39 = false := by kernel_rfl
theorem guardNd : Try.prog.eqGuardType Try.prog.depth 39 = false := by kernel_rfl
theorem toList_inj (a b : ByteArray) : a.toList = b.toList ↔ a = b := by
  rw [ByteArray.toList_eq, ByteArray.toList_eq]
  constructor
  · intro h; exact ByteArray.ext (Array.toList_inj.1 h)
  · intro h; rw [h]
theorem neqNd (a b : Nd) (w : World) : (binOp .neq 39 (.agg #[.int .i64 a.k, .string a.n, .int .i64 a.c]) (.agg #[.int .i64 b.k, .string b.n, .int .i64 b.c])).run Try.prog w = .ok (.bool (!decide (a = b))) w := by
  have hp := stoodNd
  rw [run_neq_struct, run_equalIn_struct _ _ _ _ _ (by kernel_rfl) hp]
  go_simp
  obtain ⟨ak, an, ac⟩ := a
  obtain ⟨bk, bn, bc⟩ := b
  by_cases h1 : ak = bk <;> by_cases h2 : an = bn <;> by_cases h3 : ac = bc <;> simp [h1, h2, h3, toList_inj] <;> omega

set_option maxRecDepth 100000 in
set_option maxHeartbeats 1600000 in
theorem rSame_any (va vb : Value) (la lb : List Nd) (w : World) (ha : RdNd w va la) (hb : RdNd w vb lb) (hla : la.length ≤ 140737488355328) (hlb : lb.length ≤ 140737488355328) :
    Calls Try.prog 16 #[va, vb] w fun e w' => e = .returned (.bool (decide (la = lb))) ∧ Below w.heap.size w w' := by
  obtain ⟨hal, ao, ac, rfl, ha2⟩ := id ha
  obtain ⟨hbl, bo, bc, rfl, hb2⟩ := id hb
  have HA := Lib.hid ha
  have HB := Lib.hid hb
  clear ha hb ha2 hb2 hal hbl
  by_cases hlen : la.length = lb.length
  · have hlen' : ((la.length : Int) != lb.length) = false := by rw [hlen]; simp
    have HL := Lib.hid hlen
    clear hlen
    go_enter Try.func16, Try.ntmps16
    go_wp2
    go_loopw [5] (fun i wr => ∃ j : Nat, j ≤ la.length ∧ i = .int .i64 j ∧ Hid (∀ q, q < j → la[q]? = lb[q]?) ∧ Below w.heap.size w wr) (fun i _ => la.length - (intOf i).toNat)
    case atStart => exact ⟨0, by omega, rfl, fun q h => by omega, Below.refl _ _⟩
    case round =>
      obtain ⟨j, hj, rfl, HQ, hbel⟩ := hrel
      by_cases hlt : j < la.length
      · obtain ⟨ma, hma⟩ : ∃ m, la[j]? = some m := ⟨_, List.getElem?_eq_getElem hlt⟩
        obtain ⟨mb, hmb⟩ : ∃ m, lb[j]? = some m := ⟨_, List.getElem?_eq_getElem (by rw [← HL.out]; exact hlt)⟩
        obtain ⟨b1, o1, c1, e1, l1, k1, x0, x1, x2⟩ := (HA.out).at hma
        obtain ⟨b2, o2, c2, e2, l2, k2, y0, y1, y2⟩ := (HB.out).at hmb
        simp only [Value.slice.injEq] at e1 e2
        obtain ⟨rfl, -, rfl⟩ := e1
        obtain ⟨rfl, -, rfl⟩ := e2
        have X0 := (hbel.cell (p := ⟨b1, _, none⟩) l1).trans x0
        have X1 := (hbel.cell (p := ⟨b1, _, none⟩) l1).trans x1
        have X2 := (hbel.cell (p := ⟨b1, _, none⟩) l1).trans x2
        have Y0 := (hbel.cell (p := ⟨b2, _, none⟩) l2).trans y0
        have Y1 := (hbel.cell (p := ⟨b2, _, none⟩) l2).trans y1
        have Y2 := (hbel.cell (p := ⟨b2, _, none⟩) l2).trans y2
        clear x0 x1 x2 y0 y1 y2
        have hltb : j < lb.length := by rw [← HL.out]; exact hlt
        have H1 := Lib.hid hma
        have H2 := Lib.hid hmb
        clear hma hmb
        have hm := guardNd
        have hne := neqNd ma mb
        go_wp2
        go_quiet (fail)
        go_wp2
        · have hd : (!decide (ma = mb)) = true := by assumption
          go_ret
          refine ⟨?_, below_drewN hbel _⟩
          have : la ≠ lb := by rintro rfl; have e := H1.out.symm.trans H2.out; simp at e; simp [e] at hd
          rw [decide_eq_false this]; rfl
        · have hd : (!decide (ma = mb)) = false := by assumption
          go_roundw
          case rel =>
            refine ⟨j + 1, by omega, by go_num, ?_, below_drewN hbel _⟩
            intro q hq
            by_cases h : q = j
            · subst h; rw [H1.out, H2.out]; simpa using hd
            · exact HQ.out q (by omega)
          case measure => simp [intOf]; omega
      · go_wp2
        go_ret
        refine ⟨?_, hbel⟩
        have : la = lb := by
          apply List.ext_getElem?
          intro q
          by_cases h : q < j
          · exact HQ.out q h
          · rw [List.getElem?_eq_none (by omega), List.getElem?_eq_none (by have := HL.out; omega)]
        rw [decide_eq_true this]; rfl
  · have hlen' : ((la.length : Int) != lb.length) = true := by rw [bne_iff_ne]; omega
    go_enter Try.func16, Try.ntmps16
    go_wp2
    go_ret
    exact ⟨by rw [decide_eq_false (fun h => hlen (by rw [h]))]; rfl, Below.refl _ _⟩

/-! ### Read -/
theorem xRead_any (s : ByteArray) (w : World) : Calls Try.prog 17 #[.string s] w (RRet w (readS s)) := by
  by_cases hs : 2048 < s.size
  · have : readS s = ([], 0, 3) := by unfold readS; rw [if_pos hs]
    rw [this]; exact xRead_long s w hs
  · by_cases hq : (cut s 0).2 = s.size
    · exact xRead_good s w hs hq
    · exact xRead_bad s w hs (by have := (cut_len s s.size 0 (by omega) (by omega)).2.2; omega)
theorem plc_plcR (L : List Mk) (en : Int) (p : Nat) : plc L en p = plcR L en p := by unfold plc plcR; rfl
theorem plcR_lo (L : List Mk) (en : Int) (p : Nat) (h : 0 ≤ en) : 0 ≤ plcR L en p := by
  unfold plcR; split
  · omega
  · exact h
theorem TkS.all {w : World} {B : Nat} {v : Value} {L : List Mk} (h : OwnTk w B v L) (h0 : 0 < L.length) : TkS w v L 0 L.length := by
  obtain ⟨m, hm⟩ : ∃ m, L[0]? = some m := ⟨_, List.getElem?_eq_getElem h0⟩
  obtain ⟨b, off, cap, e, h1, h2, _⟩ := RdTk.at (show RdTk w v L from Rd.of_owns h) hm
  refine ⟨h0, Nat.le_refl _, b, off, cap, e, h2, h1, fun i m _ hm => ?_⟩
  rw [Nat.zero_add] at hm
  obtain ⟨b', off', cap', e', _, _, c0, _, c2⟩ := RdTk.at (show RdTk w v L from Rd.of_owns h) hm
  rw [e] at e'
  simp only [Value.slice.injEq, Option.some.injEq, Addr.mk.injEq] at e'
  obtain ⟨⟨rfl, rfl, -⟩, -, rfl⟩ := e'
  exact ⟨c0, c2⟩

set_option maxRecDepth 100000 in
set_option maxHeartbeats 1600000 in
theorem rRead_any (s : ByteArray) (w : World) : Calls Try.prog 18 #[.string s] w (RRet w (readS s)) := by
  by_cases hs : 2048 < s.size
  · have HE : Hid (readS s = ([], 0, 3)) := by unfold Hid readS; rw [if_pos hs]
    go_enter Try.func18, Try.ntmps18
    go_wp2
    go_ret3
    rw [HE.out]
    exact ⟨_, rfl, World.ownsRow_nil _ _ _ _, Below.refl _ _⟩
  · have hlen := cut_len s s.size 0 (by omega) (by omega)
    have hpp : placeF (cut s 0).1 ((cut s 0).2 : Nat) (decide ((cut s 0).2 < s.size)) (cut s 0).1.length 0 0 true = if (parsed s).ok = true ∧ (parsed s).p = (cut s 0).1.length ∧ decide ((cut s 0).2 < s.size) = false then -1 else plcR (cut s 0).1 ((cut s 0).2 : Nat) (parsed s).p := place_parsed _ _ _
    have HP := Lib.hid (rPlace_any s w (by omega))
    have HR : Hid (readS s = if (parsed s).ok = true ∧ (parsed s).p = (cut s 0).1.length ∧ (cut s 0).2 = s.size then ((parsed s).f.flat, 0, 0) else ([], plc (cut s 0).1 ((cut s 0).2 : Nat) (parsed s).p, 172)) := by
      unfold Hid readS; rw [if_neg hs]
    have HT := Lib.hid (fun w => rToks_any s w (by omega))
    have hpb : PB (cut s 0).1 0 (parsed s) := pExpr_b (cut s 0).1 ((cut s 0).1.length + 1) 0 (by omega)
    have HTree : Hid (∀ v w, (parsed s).ok = true → (parsed s).p = (cut s 0).1.length → TkS w v (cut s 0).1 0 (parsed s).p → Calls Try.prog 50 #[v] w (ERet w (parsed s).f.flat)) := by
      intro v w hok _ hv
      refine rTree_all (cut s 0).1 (cut_kinds s) (by omega) ((cut s 0).1.length + 1) 0 (parsed s).f (parsed s).p ?_ v w hv
      show parsed s = _
      clear hv hpp HR hpb
      generalize parsed s = r at hok ⊢
      obtain ⟨o, f, p⟩ := r
      simp only at hok; subst hok; rfl
    have HPB := Lib.hid hpb
    clear hpb
    generalize parsed s = r at *
    obtain ⟨ok, f, p⟩ := r
    by_cases hc : ok = true ∧ p = (cut s 0).1.length ∧ (cut s 0).2 = s.size
    · obtain ⟨rfl, h2, h3⟩ := hc
      rw [if_pos ⟨rfl, h2, by simp; omega⟩] at hpp
      rw [hpp] at HP
      have HE : Hid (readS s = (f.flat, 0, 0)) := by unfold Hid; rw [HR.out, if_pos ⟨rfl, h2, h3⟩]
      have h0 : 0 < (cut s 0).1.length := by have := HPB.out.lt rfl; simp only at this; omega
      have HTr2 : Hid (∀ B v w, OwnTk w B v (cut s 0).1 → Calls Try.prog 50 #[v] w (ERet w f.flat)) := by
        intro B v w ho
        refine HTree.out v w rfl h2 ?_
        have := TkS.all ho h0
        simp only; rw [h2]; exact this
      clear hpp HR h2 h3 HTree
      generalize badI s = bd at *
      go_enter Try.func18, Try.ntmps18
      go_wp2_with fail
      refine (HP.out).mono ?_
      rintro e w1 ⟨rfl, hb1⟩
      go_wp2_with fail
      refine (HT.out _).mono ?_
      rintro e w2 ⟨v, rfl, ho2, hb2⟩
      have HTr3 := Lib.hid (HTr2.out _ v w2 ho2)
      obtain ⟨_, ao, cp, rfl, -⟩ := Rd.of_owns ho2
      go_wp2_with fail
      refine (HTr3.out).mono ?_
      rintro e w3 ⟨v3, rfl, ho3, hb3⟩
      have hb13 : Below w.heap.size w w2 := hb1.trans (hb2.mono hb1.size)
      obtain ⟨_, ao3, cp3, rfl, -⟩ := Rd.of_owns ho3
      go_wp2_with fail
      go_ret3
      rw [HE.out]
      exact ⟨_, rfl, own_lower ho3 hb13.size, hb13.trans (hb3.mono hb13.size)⟩
    · rw [if_neg (by rintro ⟨a, b, c⟩; exact hc ⟨a, b, by simp at c; omega⟩)] at hpp
      rw [hpp] at HP
      have HE : Hid (readS s = ([], plcR (cut s 0).1 ((cut s 0).2 : Nat) p, 172)) := by unfold Hid; rw [HR.out, if_neg hc, plc_plcR]
      have hlo := plcR_lo (cut s 0).1 ((cut s 0).2 : Nat) p (by omega)
      clear hpp HR hc HTree HT
      simp only at HP hlo HE
      generalize plcR (cut s 0).1 ((cut s 0).2 : Nat) p = pl at *
      go_enter Try.func18, Try.ntmps18
      go_wp2_with fail
      refine (HP.out).mono ?_
      rintro e w1 ⟨rfl, hb1⟩
      go_wp2_with fail
      go_ret3
      rw [HE.out]
      exact ⟨_, rfl, World.ownsRow_nil _ _ _ _, hb1⟩
end Go.Proofs.Ytbpipnjdfmpbdaa
