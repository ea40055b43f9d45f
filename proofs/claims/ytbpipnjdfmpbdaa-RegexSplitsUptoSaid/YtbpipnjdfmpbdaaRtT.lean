import Derived.Test.YtbpipnjdfmpbdaaRtM
import Derived.Shelf.SlicesE.Reverse
import Derived.Test.YtbpipnjdfmpbdaaRxTn
import Derived.Test.YtbpipnjdfmpbdaaRtJ
namespace Go.Proofs.Ytbpipnjdfmpbdaa
open Go.RowKit Go.Shelf

/-! ### slices.Reverse of the kids -/
def revRen : Go.Shelf.Ren := ⟨fun | 35 => 86 | n => n, fun | 0 => 0 | 3 => 3 | 4 => 4 | 22 => 108 | 23 => 22 | n => n, fun | n => n⟩
theorem revLays : Go.Proofs.SlLaysE.n35 Try.prog revRen := {
  mixed := by kernel_rfl
  f35 := ⟨"slices.Reverse[[][]byway/api.Node,[]byway/api.Node]", by kernel_rfl, Try.func86.trans (congrArg some (by kernel_rfl))⟩
  t0 := Try.underlying0
  a0 := Try.isAgg0
  z0 := Try.sizeOf0
  v0 := Try.zeroValue0
  t3 := Try.underlying3
  a3 := Try.isAgg3
  z3 := Try.sizeOf3
  v3 := Try.zeroValue3
  t4 := Try.underlying4
  a4 := Try.isAgg4
  z4 := Try.sizeOf4
  v4 := Try.zeroValue4
  t22 := Try.underlying108
  a22 := Try.isAgg108
  z22 := Try.sizeOf108
  v22 := Try.zeroValue108
  a23 := Try.isAgg22
  z23 := Try.sizeOf22
}
theorem xReverse_any (b off B : Nat) (v : Value) (l : List (Nat × Nat)) (w : World) (h : w.ownsRow B 22 1 v l.length (l.map (pieceV b off))) (h0 : 0 < l.length) :
    Calls Try.prog 86 #[v] w fun e w' => e = .returned (.tuple #[]) ∧ w'.ownsRow B 22 1 v l.length (l.reverse.map (pieceV b off)) ∧ w.grownBy w' v.ownBlock := by
  have hown := h
  rcases h.2 with ⟨_, hn⟩ | ⟨g, cap, cur, rfl, hBg, hg, hnc, hcm, hcs, htk⟩
  · omega
  · have hcell : ∀ (j : Nat) (u : Value), (l.map (pieceV b off))[j]? = some u → cur[j]? = some u := by
      intro j u hj
      rw [← htk, List.getElem?_take] at hj
      split at hj
      · simpa using hj
      · cases hj
    have hH : Go.Sort.Holds (pieceV b off) w g 0 l.toArray := by
      intro j hj
      have hj2 : j < l.length := by simpa using hj
      have hx : (l.map (pieceV b off))[j]? = some (pieceV b off l[j]) := by rw [List.getElem?_map, List.getElem?_eq_getElem hj2]; rfl
      refine ⟨?_, by simp [World.frozen?, hg]⟩
      rw [Nat.zero_add]
      have e : l.toArray[j]! = l[j] := by rw [getElem!_pos _ j (by simpa using hj2)]; simp
      rw [e]
      simp only [World.cell?, hg]
      exact hcell j _ hx
    have hrev := AnyE.slices_Reverse_arr revLays (pieceV b off) (fun _ => rfl) g 0 cap l.toArray w hH (by unfold maxLen at hcm; simp; omega)
    have es : l.toArray.size = l.length := by simp
    rw [es] at hrev
    refine Calls.mono hrev ?_
    rintro e w' ⟨rfl, q, rfl⟩
    have hlt : g < w.heap.size := (Array.getElem?_eq_some_iff.1 hg).1
    have hblk : (Go.Sort.putRow (pieceV b off) (Go.Sort.ahead w q) g 0 l.toArray.reverse).heap[g]? = some (.cells (Go.Sort.putCells (pieceV b off) 0 l.toArray.reverse cur) 22 (0, 0)) := by
      show (w.heap.modify g _)[g]? = _
      rw [Array.getElem?_eq_getElem (by rw [Array.size_modify]; exact hlt), Array.getElem_modify_self]
      have : w.heap[g] = .cells cur 22 (0, 0) := by
        have := (Array.getElem?_eq_some_iff.1 hg).2
        exact this
      rw [this]; rfl
    refine ⟨rfl, ⟨by simp, .inr ⟨g, cap, _, rfl, hBg, hblk, hnc, hcm, by rw [← hcs]; unfold Go.Sort.putCells; simp, ?_⟩⟩, ⟨rfl, rfl, rfl, by simp [Go.Sort.ahead], fun k hk hne => ?_⟩⟩
    · apply List.ext_getElem?
      intro j
      rw [List.getElem?_take]
      have hl1 : cur.size = cap := by omega
      split
      · rename_i hj
        have hj2 : j < l.length := by omega
        have hjr : j < l.reverse.length := by simpa using hj2
        rw [List.getElem?_map, List.getElem?_eq_getElem hjr]
        unfold Go.Sort.putCells
        rw [Array.getElem?_toList, Array.getElem?_mapIdx]
        have hjc : j < cur.size := by omega
        rw [Array.getElem?_eq_getElem hjc]
        simp only [Option.map, Option.some.injEq]
        rw [if_pos ⟨Nat.zero_le _, by simp; omega⟩, Nat.sub_zero]
        congr 1
        rw [getElem!_pos _ j (by simp; omega)]
        simp
      · rename_i hj
        rw [List.getElem?_eq_none]
        simp; omega
    · show (w.heap.modify g _)[k]? = _
      have hkg : g ≠ k := by
        rintro rfl
        exact hne rfl
      rw [Array.getElem?_modify, if_neg hkg]
end Go.Proofs.Ytbpipnjdfmpbdaa
namespace Go.Proofs.Ytbpipnjdfmpbdaa
open Go.RowKit Go.Shelf

/-! ### turn -/
def TuOk (n : Nat) : Prop := ∀ (x : Nd) (k : Fo) (w : World) (b off cap : Nat), k.size + 1 ≤ n → (Fo.cons x k .nil).wf → (Fo.cons x k .nil).all mayN → NdAt w b off (Fo.cons x k .nil).flat → k.size + 1 ≤ cap →
  Calls Try.prog 56 #[.slice (some ⟨b, off, none⟩) (k.size + 1) cap] w fun e w' => ∃ v, e = .returned v ∧ OwnNd w' w.heap.size v (tnN x k) ∧ Below w.heap.size w w'
def ordP (x : Nd) (l : List (Nat × Nat)) : List (Nat × Nat) := if x.k = 4 then l.reverse else l
theorem ordP_len (x : Nd) (l : List (Nat × Nat)) : (ordP x l).length = l.length := by unfold ordP; split <;> simp
theorem ordP_at (x : Nd) (l : List (Nat × Nat)) (j : Nat) (h : j < l.length) : (ordP x l)[j]? = l[ordI x l.length j]? := by
  unfold ordP ordI
  split
  · rw [List.getElem?_reverse h]
  · rfl

set_option maxRecDepth 100000 in
set_option maxHeartbeats 6400000 in
theorem xTurn_step (n : Nat) (hn : n ≤ 16777216) (ih : TuOk n) : TuOk (n + 1) := by
  intro x k w b off cap hkn hwf hall h hcap
  have hb := h.lt
  have HN := Lib.hid h
  obtain ⟨c0, c1, c2⟩ := h.cell 0 x rfl
  rw [Nat.zero_mul, Nat.add_zero] at c0 c1 c2
  have hfl : (Fo.cons x k .nil).flat.length = k.size + 1 := by rw [Fo.flat_len]; simp [Fo.size]
  have HKd : Hid (Calls Try.prog 81 #[.slice (some ⟨b, off, none⟩) (k.size + 1) cap] w (KRet b off k w)) := by
    have := xKids_any b off cap x k _ w h rfl hwf.1 hwf.2.1 (by rw [hfl]; exact hcap) (by rw [hfl]; omega)
    rw [hfl] at this
    exact this
  have HAl := Lib.hid hall
  have HWf := Lib.hid hwf
  have HIh := Lib.hid ih
  have hkl := Fo.len_le k
  have hl4 : x.k = 4 → 0 < k.len := by
    intro h4
    have := hwf.1
    rcases hall.1 with h | h | h | h | h <;> omega
  have hpos : 0 < k.size + 1 := by omega
  have h32 : k.size ≤ 16777216 := by omega
  have HKn : Hid (k.size ≤ n) := by unfold Hid; omega
  have hx : (x.k == 4) = true ∨ (x.k == 4) = false := by cases (x.k == 4) <;> simp
  clear h ih hall hwf hfl hkn
  go_enter Try.func56, Try.ntmps56
  go_wp2_with fail
  refine (HKd.out).mono ?_
  rintro e w1 ⟨v1, rfl, ho1, hb1⟩
  have HO1 := Lib.hid ho1
  have HB1 := Lib.hid hb1
  obtain ⟨_, ao, cp, rfl, -⟩ := Rd.of_owns ho1
  have hw1 := hb1.size
  clear ho1 hb1 HKd
  rcases hx with h4 | h4
  · have hk4 : x.k = 4 := by simpa using h4
    have HRow0 : Hid (∀ w2 : World, w2.ownsRow w.heap.size 22 1 (.slice ao k.len cp) (k.pieces 1).length ((k.pieces 1).reverse.map (pieceV b off)) → w2.ownsRow w.heap.size 22 1 (.slice ao k.len cp) k.len ((ordP x (k.pieces 1)).map (pieceV b off))) := by
      intro w2 h
      rw [Fo.pieces_len] at h
      unfold ordP
      rw [if_pos hk4]
      exact h
    have HRev := Lib.hid (xReverse_any b off w.heap.size (.slice ao k.len cp) (k.pieces 1) w1 (by have := HO1.out; rw [Fo.pieces_len]; exact this) (by rw [Fo.pieces_len]; exact hl4 hk4))
    have C0 := (HB1.out.cell (p := ⟨b, off, none⟩) hb).trans c0
    clear hk4
    go_wp2_with (go_at_call 86; refine (HRev.out).mono ?_; rintro e w2 ⟨rfl, ho2, hg2⟩; have HRow := Lib.hid (HRow0.out w2 ho2); have HB2 : Hid (Below w.heap.size w w2) := HB1.out.grown hg2 hw1 (fun j hj => own_block HO1.out j hj); have K0 := (HB2.out.cell (p := ⟨b, off, none⟩) hb).trans c0; have K1 := (HB2.out.cell (p := ⟨b, off + 1, none⟩) hb).trans c1; have K2 := (HB2.out.cell (p := ⟨b, off + 2, none⟩) hb).trans c2; clear ho2 hg2)
    go_loopw [4, 22] (fun o i wr => ∃ j : Nat, i = .int .i64 j ∧ j ≤ k.len ∧ Hid (OwnNd wr w2.heap.size o (x :: ((ordL x k).take j).flatten)) ∧ Hid (Below w2.heap.size w2 wr)) (fun _ i _ => k.len - (intOf i).toNat)
    case atStart => exact ⟨0, rfl, Nat.zero_le _, OwnNd.one w2 w2.heap.size (Nat.le_refl _) x, below1 _ _⟩
    case round =>
      obtain ⟨j, rfl, hj, HOwn, HBel⟩ := hrel
      have HB3 : Hid (Below w.heap.size w wr) := HB2.out.trans (HBel.out.mono HB2.out.size)
      have hwr := HBel.out.size
      by_cases hlt : j < k.len
      · obtain ⟨g, gc, e0, hg1, hg2, hg3, hcs⟩ := own_src HRow.out (by omega)
        simp only [Value.slice.injEq] at e0
        obtain ⟨rfl, -, rfl⟩ := e0
        have hoi : ordI x k.len j < k.len := by unfold ordI; split <;> omega
        obtain ⟨y, kk, hy1, hy2, hy3, hy4, -⟩ := Fo.get_cons k (ordI x k.len j) hoi
        obtain ⟨pc, hpc⟩ : ∃ p, (k.pieces 1)[ordI x k.len j]? = some p := ⟨_, List.getElem?_eq_getElem (by rw [Fo.pieces_len]; exact hoi)⟩
        obtain ⟨q1, qa, qb, q2, q3, q4, q5, q6⟩ := Fo.flat_get k _ 1 pc hpc
        rw [hy1] at q2 q4
        have hps : pc.2 = kk.size + 1 := by rw [← q4, Fo.flat_len]; simp [Fo.size]
        have hpo : (ordP x (k.pieces 1))[j]? = some pc := by rw [ordP_at _ _ _ (by rw [Fo.pieces_len]; exact hlt), Fo.pieces_len]; exact hpc
        have hcell := hcs j (pieceV b off pc) (by rw [List.getElem?_map, hpo]; rfl)
        rw [Addr.add_lit, Nat.zero_add] at hcell
        have X0 : wr.cell? ⟨g, j, none⟩ = some (.slice (some ⟨b, off + pc.1 * 3, none⟩) (kk.size + 1) (kk.size + 1)) := by
          rw [HBel.out.cell (p := ⟨g, j, none⟩) hg2, hcell]; unfold pieceV; rw [hps]
        have hNP : NdAt wr b (off + pc.1 * 3) (Fo.cons y kk .nil).flat := by
          have := (HN.out.below HB3.out).piece (x :: qa) (Fo.cons y kk .nil).flat qb (by simp only [Fo.flat, List.append_nil] at q2 ⊢; rw [q2]; simp)
          rw [List.length_cons, q3, show pc.1 - 1 + 1 = pc.1 from by omega] at this
          exact this
        have HTu : Hid (Calls Try.prog 56 #[.slice (some ⟨b, off + pc.1 * 3, none⟩) (kk.size + 1) (kk.size + 1)] wr fun e w' => ∃ v, e = .returned v ∧ OwnNd w' wr.heap.size v (tnN y kk) ∧ Below wr.heap.size wr w') :=
          HIh.out y kk wr b _ _ (by have := HKn.out; omega) ⟨(hy4 HWf.out.2.1).1, (hy4 HWf.out.2.1).2, trivial⟩ (by have := Fo.all_get k HAl.out.2.1 (ordI x k.len j); rw [hy1] at this; exact this) hNP (Nat.le_refl _)
        have hat := ordL_at x k j hlt y kk hy1
        have HTk : Hid ((ordL x k).take (j + 1) = (ordL x k).take j ++ [tnN y kk]) := by unfold Hid; rw [List.take_add_one, hat]; rfl
        have hbd := ordL_take x k j y kk hat
        have HTl := Lib.hid (tnN_len y kk)
        have hgb := hg2
        clear hcs hy1 hy2 hy3 hy4 hpc q1 q2 q3 q4 q5 q6 hps hcell hNP hpo hoi hat
        generalize tnN y kk = ty at *
        generalize hacc : (x :: ((ordL x k).take j).flatten) = acc at *
        have HAcc := Lib.hid hacc
        clear hacc
        go_wp2_with fail
        refine (HTu.out).mono ?_
        rintro e w4 ⟨v4, rfl, ho4, hb4⟩
        have HOwn4 : Hid (OwnNd w4 w2.heap.size u4 acc) := own_grown HOwn.out (grown_below hb4) (by simp)
        have HBel4 : Hid (Below w2.heap.size w2 w4) := HBel.out.trans (hb4.mono hwr)
        have hw4 := HBel4.out.size
        obtain ⟨g4, gc4, rfl, -, -, -, hcs4⟩ := own_src ho4 (by have := HTl.out; omega)
        have HCS4 := Lib.hid hcs4
        clear hb4 ho4 hcs4 X0 HTu
        go_wp2_with (at_builtin; go_must (refine wpList_appG elemNd rfl _ _ rfl HOwn4.out rfl (news := flatNd ty) rfl (flatNd_len _) HCS4.out (flatNd_one _) (by have := HTl.out; unfold maxLen; omega) (by have := HTl.out; omega) hw4 ?_); intro v' w5 hown5 hg5)
        have HO5 : Hid (OwnNd w5 w2.heap.size v' (x :: ((ordL x k).take (j + 1)).flatten)) := by
          have e : x :: ((ordL x k).take (j + 1)).flatten = acc ++ ty := by rw [HTk.out, ← HAcc.out]; simp
          rw [e]
          unfold Hid OwnNd
          rw [List.length_append, flatNd_app]
          exact hown5
        have HB5 : Hid (Below w2.heap.size w2 w5) := HBel4.out.grown hg5 hw4 (fun j hj => own_block HOwn4.out j hj)
        clear hown5 hg5
        go_roundw
        case rel => exact ⟨j + 1, by go_num, by omega, HO5.out, HB5.out⟩
        case measure => simp [intOf]; omega
      · obtain rfl : j = k.len := by omega
        have HE : Hid (x :: ((ordL x k).take k.len).flatten = tnN x k) := by unfold Hid; rw [List.take_of_length_le (by rw [ordL_len]; exact Nat.le_refl _), ← ordL_flat]
        go_wp2_with fail
        go_ret
        refine ⟨_, rfl, ?_, HB3.out⟩
        rw [← HE.out]
        exact own_lower HOwn.out HB2.out.size
  · have hk4 : ¬ x.k = 4 := by simpa using h4
    have HRow : Hid (w1.ownsRow w.heap.size 22 1 (.slice ao k.len cp) k.len ((ordP x (k.pieces 1)).map (pieceV b off))) := by
      unfold Hid ordP
      rw [if_neg hk4]
      exact HO1.out
    have HB2 := HB1
    have K0 := (HB2.out.cell (p := ⟨b, off, none⟩) hb).trans c0
    have K1 := (HB2.out.cell (p := ⟨b, off + 1, none⟩) hb).trans c1
    have K2 := (HB2.out.cell (p := ⟨b, off + 2, none⟩) hb).trans c2
    clear HO1 HB1 hk4
    obtain ⟨w2, rfl⟩ : ∃ w2, w2 = w1 := ⟨_, rfl⟩
    go_wp2_with fail
    go_loopw [4, 22] (fun o i wr => ∃ j : Nat, i = .int .i64 j ∧ j ≤ k.len ∧ Hid (OwnNd wr w2.heap.size o (x :: ((ordL x k).take j).flatten)) ∧ Hid (Below w2.heap.size w2 wr)) (fun _ i _ => k.len - (intOf i).toNat)
    case atStart => exact ⟨0, rfl, Nat.zero_le _, OwnNd.one w2 w2.heap.size (Nat.le_refl _) x, below1 _ _⟩
    case round =>
      obtain ⟨j, rfl, hj, HOwn, HBel⟩ := hrel
      have HB3 : Hid (Below w.heap.size w wr) := HB2.out.trans (HBel.out.mono HB2.out.size)
      have hwr := HBel.out.size
      by_cases hlt : j < k.len
      · obtain ⟨g, gc, e0, hg1, hg2, hg3, hcs⟩ := own_src HRow.out (by omega)
        simp only [Value.slice.injEq] at e0
        obtain ⟨rfl, -, rfl⟩ := e0
        have hoi : ordI x k.len j < k.len := by unfold ordI; split <;> omega
        obtain ⟨y, kk, hy1, hy2, hy3, hy4, -⟩ := Fo.get_cons k (ordI x k.len j) hoi
        obtain ⟨pc, hpc⟩ : ∃ p, (k.pieces 1)[ordI x k.len j]? = some p := ⟨_, List.getElem?_eq_getElem (by rw [Fo.pieces_len]; exact hoi)⟩
        obtain ⟨q1, qa, qb, q2, q3, q4, q5, q6⟩ := Fo.flat_get k _ 1 pc hpc
        rw [hy1] at q2 q4
        have hps : pc.2 = kk.size + 1 := by rw [← q4, Fo.flat_len]; simp [Fo.size]
        have hpo : (ordP x (k.pieces 1))[j]? = some pc := by rw [ordP_at _ _ _ (by rw [Fo.pieces_len]; exact hlt), Fo.pieces_len]; exact hpc
        have hcell := hcs j (pieceV b off pc) (by rw [List.getElem?_map, hpo]; rfl)
        rw [Addr.add_lit, Nat.zero_add] at hcell
        have X0 : wr.cell? ⟨g, j, none⟩ = some (.slice (some ⟨b, off + pc.1 * 3, none⟩) (kk.size + 1) (kk.size + 1)) := by
          rw [HBel.out.cell (p := ⟨g, j, none⟩) hg2, hcell]; unfold pieceV; rw [hps]
        have hNP : NdAt wr b (off + pc.1 * 3) (Fo.cons y kk .nil).flat := by
          have := (HN.out.below HB3.out).piece (x :: qa) (Fo.cons y kk .nil).flat qb (by simp only [Fo.flat, List.append_nil] at q2 ⊢; rw [q2]; simp)
          rw [List.length_cons, q3, show pc.1 - 1 + 1 = pc.1 from by omega] at this
          exact this
        have HTu : Hid (Calls Try.prog 56 #[.slice (some ⟨b, off + pc.1 * 3, none⟩) (kk.size + 1) (kk.size + 1)] wr fun e w' => ∃ v, e = .returned v ∧ OwnNd w' wr.heap.size v (tnN y kk) ∧ Below wr.heap.size wr w') :=
          HIh.out y kk wr b _ _ (by have := HKn.out; omega) ⟨(hy4 HWf.out.2.1).1, (hy4 HWf.out.2.1).2, trivial⟩ (by have := Fo.all_get k HAl.out.2.1 (ordI x k.len j); rw [hy1] at this; exact this) hNP (Nat.le_refl _)
        have hat := ordL_at x k j hlt y kk hy1
        have HTk : Hid ((ordL x k).take (j + 1) = (ordL x k).take j ++ [tnN y kk]) := by unfold Hid; rw [List.take_add_one, hat]; rfl
        have hbd := ordL_take x k j y kk hat
        have HTl := Lib.hid (tnN_len y kk)
        have hgb := hg2
        clear hcs hy1 hy2 hy3 hy4 hpc q1 q2 q3 q4 q5 q6 hps hcell hNP hpo hoi hat
        generalize tnN y kk = ty at *
        generalize hacc : (x :: ((ordL x k).take j).flatten) = acc at *
        have HAcc := Lib.hid hacc
        clear hacc
        go_wp2_with fail
        refine (HTu.out).mono ?_
        rintro e w4 ⟨v4, rfl, ho4, hb4⟩
        have HOwn4 : Hid (OwnNd w4 w2.heap.size u4 acc) := own_grown HOwn.out (grown_below hb4) (by simp)
        have HBel4 : Hid (Below w2.heap.size w2 w4) := HBel.out.trans (hb4.mono hwr)
        have hw4 := HBel4.out.size
        obtain ⟨g4, gc4, rfl, -, -, -, hcs4⟩ := own_src ho4 (by have := HTl.out; omega)
        have HCS4 := Lib.hid hcs4
        clear hb4 ho4 hcs4 X0 HTu
        go_wp2_with (at_builtin; go_must (refine wpList_appG elemNd rfl _ _ rfl HOwn4.out rfl (news := flatNd ty) rfl (flatNd_len _) HCS4.out (flatNd_one _) (by have := HTl.out; unfold maxLen; omega) (by have := HTl.out; omega) hw4 ?_); intro v' w5 hown5 hg5)
        have HO5 : Hid (OwnNd w5 w2.heap.size v' (x :: ((ordL x k).take (j + 1)).flatten)) := by
          have e : x :: ((ordL x k).take (j + 1)).flatten = acc ++ ty := by rw [HTk.out, ← HAcc.out]; simp
          rw [e]
          unfold Hid OwnNd
          rw [List.length_append, flatNd_app]
          exact hown5
        have HB5 : Hid (Below w2.heap.size w2 w5) := HBel4.out.grown hg5 hw4 (fun j hj => own_block HOwn4.out j hj)
        clear hown5 hg5
        go_roundw
        case rel => exact ⟨j + 1, by go_num, by omega, HO5.out, HB5.out⟩
        case measure => simp [intOf]; omega
      · obtain rfl : j = k.len := by omega
        have HE : Hid (x :: ((ordL x k).take k.len).flatten = tnN x k) := by unfold Hid; rw [List.take_of_length_le (by rw [ordL_len]; exact Nat.le_refl _), ← ordL_flat]
        go_wp2_with fail
        go_ret
        refine ⟨_, rfl, ?_, HB3.out⟩
        rw [← HE.out]
        exact own_lower HOwn.out HB2.out.size


theorem xTurn_all : ∀ n, n ≤ 16777217 → TuOk n
  | 0, _ => fun x k w b off cap hk => by omega
  | n + 1, hn => xTurn_step n (by omega) (xTurn_all n (by omega))
end Go.Proofs.Ytbpipnjdfmpbdaa
namespace Go.Proofs.Ytbpipnjdfmpbdaa
open Go.RowKit Go.Shelf

theorem own_types {w : World} {B B' : Nat} {e e' s s' : Nat} {v v' : Value} {n n' : Nat} {xs xs' : List Value} (h : w.ownsRow B e s v n xs) (h' : w.ownsRow B' e' s' v' n' xs') (he : e ≠ e') (j : Nat) (hj : v.ownBlock = some j) : v'.ownBlock ≠ some j := by
  intro hj'
  rcases h.2 with ⟨rfl, _⟩ | ⟨g, cap, cur, rfl, _, hg, _⟩
  · simp [Value.ownBlock] at hj
  · rcases h'.2 with ⟨rfl, _⟩ | ⟨g', cap', cur', rfl, _, hg', _⟩
    · simp [Value.ownBlock] at hj'
    · simp only [Value.ownBlock, Option.some.injEq] at hj hj'
      subst hj; subst hj'
      rw [hg] at hg'
      simp at hg'
      exact he hg'.2
/-! ### TurnAt -/
def RtuOk (n : Nat) : Prop := ∀ (v : Value) (N : List Nd) (p : Nat) (x : Nd) (k : Fo) (R : List Nd) (w : World), k.size + 1 ≤ n → RdNd w v N → N.length ≤ 16777216 → TreeAt N p x k R →
  Calls Try.prog 57 #[v, .int .i64 p] w fun e w' => ∃ v', e = .returned v' ∧ OwnNd w' w.heap.size v' (tnN x k) ∧ Below w.heap.size w w'
theorem treeAt_kid {N : List Nd} {p : Nat} {x : Nd} {k : Fo} {R : List Nd} (hT : TreeAt N p x k R) (i : Nat) (pc : Nat × Nat) (hpc : (k.pieces (p + 1))[i]? = some pc) (y : Nd) (kk : Fo) (hy : k.get i = .cons y kk .nil) (hw : y.c = kk.len ∧ kk.wf) :
    ∃ R2, TreeAt N pc.1 y kk R2 := by
  obtain ⟨q1, qa, qb, q2, q3, q4, q5, q6⟩ := Fo.flat_get k i (p + 1) pc hpc
  rw [hy] at q2
  have hd := hT.head.2.1
  refine ⟨qb ++ R, ?_, ⟨hw.1, hw.2, trivial⟩, by have := Fo.all_get k hT.all.2.1 i; rw [hy] at this; exact this⟩
  rw [show pc.1 = (p + 1) + (pc.1 - (p + 1)) from by omega, ← List.drop_drop, hd, q2, ← q3]
  simp

set_option maxRecDepth 100000 in
set_option maxHeartbeats 6400000 in
theorem rTurn_step (n : Nat) (ih : RtuOk n) : RtuOk (n + 1) := by
  intro v N p x k R w hkn h hl hT
  have HKd : Hid (∀ wx, Below w.heap.size w wx → Calls Try.prog 84 #[v, .int .i64 p] wx fun e w' => ∃ v', e = .returned v' ∧ OwnI w' wx.heap.size v' (starts k (p + 1)) ∧ Below wx.heap.size wx w') :=
    fun wx hb => rKids_any v N p x k R wx (h.below hb) hl hT
  obtain ⟨h1, h2, h3⟩ := hT.head
  have HR := Lib.hid h
  have HT := Lib.hid hT
  have HIh := Lib.hid ih
  have hkl := Fo.len_le k
  obtain ⟨b, off, cap, rfl, hb, hcap, x0, x1, x2⟩ := RdNd.at h h1
  have HX := Lib.hid hl
  have hpn : p < N.length := by omega
  have HKn : Hid (k.size ≤ n) := by unfold Hid; omega
  have hks : k.size ≤ 16777216 := by omega
  clear h h1 h2 hT ih hkn h3
  go_enter Try.func57, Try.ntmps57
  go_wp2_with fail
  have HO0 := Lib.hid (OwnNd.one w w.heap.size (Nat.le_refl _) x)
  have HB0 := Lib.hid (below1 w (.cells #[.int .i64 x.k, .string x.n, .int .i64 x.c] 39))
  refine (HKd.out _ HB0.out).mono ?_
  rintro e w1 ⟨v1, rfl, ho1, hb1⟩
  have HB1 : Hid (Below w.heap.size w w1) := HB0.out.trans (hb1.mono HB0.out.size)
  have HO1 : Hid (OwnNd w1 w.heap.size (.slice (some ⟨w.heap.size, 0, none⟩) 1 1) [x]) := own_grown HO0.out (grown_below hb1) (by simp)
  have HK1 : Hid (OwnI w1 w.heap.size v1 (starts k (p + 1))) := own_lower ho1 (by simp)
  obtain ⟨ao1, cp1, rfl, hcp⟩ := OwnI.shape ho1
  rw [starts_len] at hcp HK1 ⊢
  clear ho1 hb1 HO0 HB0
  go_wp2_with fail
  go_loopw [5, 7] (fun o i wr => ∃ j : Nat, i = .int .i64 j ∧ j ≤ k.len ∧ Hid (OwnNd wr w.heap.size o (x :: ((ordL x k).take j).flatten)) ∧ Hid (OwnI wr w.heap.size (.slice ao1 k.len cp1) (starts k (p + 1))) ∧ Hid (Below w.heap.size w wr)) (fun _ i _ => k.len - (intOf i).toNat)
  case atStart => exact ⟨0, rfl, Nat.zero_le _, HO1.out, HK1.out, HB1.out⟩
  case round =>
    obtain ⟨j, rfl, hj, HOwn, HKr, HBel⟩ := hrel
    have hwr := HBel.out.size
    by_cases hlt : j < k.len
    · obtain ⟨g, gc, e0, hg1, hg2, hg3, hcs⟩ := own_src HKr.out (by rw [starts_len]; omega)
      rw [starts_len] at e0
      simp only [Value.slice.injEq] at e0
      obtain ⟨rfl, -, rfl⟩ := e0
      have hoi : ordI x k.len j < k.len := by unfold ordI; split <;> omega
      obtain ⟨y, kk, hy1, hy2, hy3, hy4, -⟩ := Fo.get_cons k (ordI x k.len j) hoi
      obtain ⟨pc, hpc⟩ : ∃ q, (k.pieces (p + 1))[ordI x k.len j]? = some q := ⟨_, List.getElem?_eq_getElem (by rw [Fo.pieces_len]; exact hoi)⟩
      obtain ⟨R2, hTk⟩ := treeAt_kid HT.out _ pc hpc y kk hy1 (hy4 HT.out.wf.2.1)
      have hsj : (intsV (starts k (p + 1)))[ordI x k.len j]? = some (.int .i64 pc.1) := by
        unfold intsV starts
        rw [List.getElem?_map, List.getElem?_map, hpc]; rfl
      have c0 := hcs _ _ hsj
      rw [Addr.add_lit, Nat.zero_add] at c0
      have X0 := (HBel.out.cell (p := ⟨b, _, none⟩) hb).trans x0
      have HC : Hid (∀ wx, Below wr.heap.size wr wx → Calls Try.prog 57 #[.slice (some ⟨b, off, none⟩) N.length cap, .int .i64 pc.1] wx fun e w' => ∃ v', e = .returned v' ∧ OwnNd w' wx.heap.size v' (tnN y kk) ∧ Below wx.heap.size wx w') :=
        fun wx hbx => HIh.out _ N pc.1 y kk _ wx (by have := HKn.out; omega) (HR.out.below (HBel.out.trans (hbx.mono hwr))) HX.out hTk
      have hat := ordL_at x k j hlt y kk hy1
      have HTk : Hid ((ordL x k).take (j + 1) = (ordL x k).take j ++ [tnN y kk]) := by unfold Hid; rw [List.take_add_one, hat]; rfl
      have hbd := ordL_take x k j y kk hat
      have HTl := Lib.hid (tnN_len y kk)
      have hbw : b < wr.heap.size := by omega
      clear hcs hy1 hy2 hy3 hy4 hpc hTk hat hsj hoi
      generalize tnN y kk = ty at *
      generalize hacc : (x :: ((ordL x k).take j).flatten) = acc at *
      have HAcc := Lib.hid hacc
      clear hacc
      have hx : (x.k = 4 ∧ ordI x k.len j = k.len - 1 - j) ∨ (x.k ≠ 4 ∧ ordI x k.len j = j) := by
        unfold ordI
        by_cases h4 : x.k = 4
        · exact .inl ⟨h4, if_pos h4⟩
        · exact .inr ⟨h4, if_neg h4⟩
      rcases hx with ⟨h4, ho⟩ | ⟨h4, ho⟩
      · have e4 : (x.k == 4) = true := by simpa using h4
        rw [ho] at c0
        have ei : ((k.len : Int) - 1 - j) = ((k.len - 1 - j : Nat) : Int) := by omega
        have hil : k.len - 1 - j < k.len := by omega
        clear ho h4
        go_wp2_with fail
        refine (HC.out _ (Below.refl _ _)).mono ?_
        rintro e w4 ⟨v4, rfl, ho4, hb4⟩
        have HOwn4 : Hid (OwnNd w4 w.heap.size u5 acc) := own_grown HOwn.out (grown_below hb4) (by simp)
        have HK4 : Hid (OwnI w4 w.heap.size (.slice (some ⟨g, 0, none⟩) k.len cp1) (starts k (p + 1))) := own_grown HKr.out (grown_below hb4) (by simp)
        have HBel4 : Hid (Below w.heap.size w w4) := HBel.out.trans (hb4.mono hwr)
        have hw4 := HBel4.out.size
        obtain ⟨g4, gc4, rfl, -, -, -, hcs4⟩ := own_src ho4 (by have := HTl.out; omega)
        have HCS4 := Lib.hid hcs4
        clear hb4 ho4 hcs4 X0 c0 HC
        go_wp2_with (at_builtin; go_must (refine wpList_appG elemNd rfl _ _ rfl HOwn4.out rfl (news := flatNd ty) rfl (flatNd_len _) HCS4.out (flatNd_one _) (by have := HTl.out; unfold maxLen; omega) (by have := HTl.out; omega) hw4 ?_); intro v' w5 hown5 hg5)
        have HO5 : Hid (OwnNd w5 w.heap.size v' (x :: ((ordL x k).take (j + 1)).flatten)) := by
          have e : x :: ((ordL x k).take (j + 1)).flatten = acc ++ ty := by rw [HTk.out, ← HAcc.out]; simp
          rw [e]
          unfold Hid OwnNd
          rw [List.length_append, flatNd_app]
          exact hown5
        have HK5 : Hid (OwnI w5 w.heap.size (.slice (some ⟨g, 0, none⟩) k.len cp1) (starts k (p + 1))) := own_grown HK4.out hg5 (fun q hq => .inr (own_types HOwn4.out HK4.out (by decide) q hq))
        have HB5 : Hid (Below w.heap.size w w5) := HBel4.out.grown hg5 hw4 (fun j hj => own_block HOwn4.out j hj)
        clear hown5 hg5
        go_roundw
        case rel => exact ⟨j + 1, by go_num, by omega, HO5.out, HK5.out, HB5.out⟩
        case measure => simp [intOf]; omega
      · have e4 : (x.k == 4) = false := by simpa using h4
        rw [ho] at c0
        clear ho h4
        go_wp2_with fail
        refine (HC.out _ (Below.refl _ _)).mono ?_
        rintro e w4 ⟨v4, rfl, ho4, hb4⟩
        have HOwn4 : Hid (OwnNd w4 w.heap.size u5 acc) := own_grown HOwn.out (grown_below hb4) (by simp)
        have HK4 : Hid (OwnI w4 w.heap.size (.slice (some ⟨g, 0, none⟩) k.len cp1) (starts k (p + 1))) := own_grown HKr.out (grown_below hb4) (by simp)
        have HBel4 : Hid (Below w.heap.size w w4) := HBel.out.trans (hb4.mono hwr)
        have hw4 := HBel4.out.size
        obtain ⟨g4, gc4, rfl, -, -, -, hcs4⟩ := own_src ho4 (by have := HTl.out; omega)
        have HCS4 := Lib.hid hcs4
        clear hb4 ho4 hcs4 X0 c0 HC
        go_wp2_with (at_builtin; go_must (refine wpList_appG elemNd rfl _ _ rfl HOwn4.out rfl (news := flatNd ty) rfl (flatNd_len _) HCS4.out (flatNd_one _) (by have := HTl.out; unfold maxLen; omega) (by have := HTl.out; omega) hw4 ?_); intro v' w5 hown5 hg5)
        have HO5 : Hid (OwnNd w5 w.heap.size v' (x :: ((ordL x k).take (j + 1)).flatten)) := by
          have e : x :: ((ordL x k).take (j + 1)).flatten = acc ++ ty := by rw [HTk.out, ← HAcc.out]; simp
          rw [e]
          unfold Hid OwnNd
          rw [List.length_append, flatNd_app]
          exact hown5
        have HK5 : Hid (OwnI w5 w.heap.size (.slice (some ⟨g, 0, none⟩) k.len cp1) (starts k (p + 1))) := own_grown HK4.out hg5 (fun q hq => .inr (own_types HOwn4.out HK4.out (by decide) q hq))
        have HB5 : Hid (Below w.heap.size w w5) := HBel4.out.grown hg5 hw4 (fun j hj => own_block HOwn4.out j hj)
        clear hown5 hg5
        go_roundw
        case rel => exact ⟨j + 1, by go_num, by omega, HO5.out, HK5.out, HB5.out⟩
        case measure => simp [intOf]; omega
    · obtain rfl : j = k.len := by omega
      have HE : Hid (x :: ((ordL x k).take k.len).flatten = tnN x k) := by unfold Hid; rw [List.take_of_length_le (by rw [ordL_len]; exact Nat.le_refl _), ← ordL_flat]
      go_wp2_with fail
      go_ret
      refine ⟨_, rfl, ?_, HBel.out⟩
      rw [← HE.out]
      exact HOwn.out
theorem rTurn_all : ∀ n, RtuOk n
  | 0 => fun v N p x k R w hk => by omega
  | n + 1 => rTurn_step n (rTurn_all n)
end Go.Proofs.Ytbpipnjdfmpbdaa
namespace Go.Proofs.Ytbpipnjdfmpbdaa
open Go.RowKit Go.Shelf

set_option maxRecDepth 100000 in
set_option maxHeartbeats 1600000 in
theorem xTurnT_any (v : Value) (N l : List Nd) (e : Int) (w : World) (h : RdNd w v N) (hS : TuS N l e) (hl : N.length ≤ 4398046511104) :
    Calls Try.prog 26 #[v] w fun en w' => ∃ v', en = .returned (.tuple #[v', .int .i64 e]) ∧ OwnNd w' w.heap.size v' l ∧ Below w.heap.size w w' := by
  have HC := Lib.hid (xCheck_any v N e w h hS.chk hl)
  rcases hS with ⟨h1, -, rfl⟩ | ⟨rfl, h1, x, k, hG, -, rfl⟩
  · obtain ⟨_, ao, cap, rfl, -⟩ := h
    generalize N.length = n at *
    have he : (e != 0) = true := by simpa using h1
    clear h1
    go_enter Try.func26, Try.ntmps26
    go_wp2_with (go_at_call 25; refine (HC.out).mono ?_; rintro en w2 ⟨rfl, hb2⟩)
    go_ret2
    exact ⟨_, rfl, World.ownsRow_nil _ _ _ _, hb2⟩
  · have HT : Hid (∀ wx, Below w.heap.size w wx → Calls Try.prog 56 #[v] wx fun en w' => ∃ v', en = .returned v' ∧ OwnNd w' wx.heap.size v' (tnN x k) ∧ Below wx.heap.size wx w') := by
      intro wx hb
      have h2 := h.below hb
      have hln := hG.len
      obtain ⟨b, off, cap, rfl, hc, hat⟩ := NdAt.of_rd h2 (by omega)
      rw [hln] at hc ⊢
      rw [hG.flat] at hat
      exact xTurn_all (k.size + 1) (by omega) x k wx b off cap (Nat.le_refl _) hG.wf hG.all hat hc
    clear hG
    obtain ⟨_, ao, cap, rfl, -⟩ := h
    generalize N.length = n at *
    generalize tnN x k = t at *
    go_enter Try.func26, Try.ntmps26
    go_wp2_with (first | (go_at_call 25; refine (HC.out).mono ?_; rintro en w2 ⟨rfl, hb2⟩; have HB2 := Lib.hid hb2; clear hb2) | (go_at_call 56; refine (HT.out _ HB2.out).mono ?_; rintro en w3 ⟨v3, rfl, ho3, hb3⟩; have HO3 := Lib.hid ho3; have HB3 := Lib.hid hb3; clear ho3 hb3))
    go_ret2
    exact ⟨_, rfl, own_lower HO3.out HB2.out.size, HB2.out.trans (HB3.out.mono HB2.out.size)⟩

set_option maxRecDepth 100000 in
set_option maxHeartbeats 1600000 in
theorem rTurnT_any (v : Value) (N l : List Nd) (e : Int) (w : World) (h : RdNd w v N) (hS : TuS N l e) (hl : N.length ≤ 4398046511104) :
    Calls Try.prog 27 #[v] w fun en w' => ∃ v', en = .returned (.tuple #[v', .int .i64 e]) ∧ OwnNd w' w.heap.size v' l ∧ Below w.heap.size w w' := by
  have HC := Lib.hid (rCheck_any v N e w h hS.chk hl)
  rcases hS with ⟨h1, -, rfl⟩ | ⟨rfl, h1, x, k, hG, -, rfl⟩
  · obtain ⟨_, ao, cap, rfl, -⟩ := h
    generalize N.length = n at *
    have he : (e != 0) = true := by simpa using h1
    clear h1
    go_enter Try.func27, Try.ntmps27
    go_wp2_with (go_at_call 31; refine (HC.out).mono ?_; rintro en w2 ⟨rfl, hb2⟩)
    go_ret2
    exact ⟨_, rfl, World.ownsRow_nil _ _ _ _, hb2⟩
  · have HT : Hid (∀ wx, Below w.heap.size w wx → Calls Try.prog 57 #[v, .int .i64 0] wx fun en w' => ∃ v', en = .returned v' ∧ OwnNd w' wx.heap.size v' (tnN x k) ∧ Below wx.heap.size wx w') := by
      intro wx hb
      have h2 := h.below hb
      have hln := hG.len
      exact rTurn_all (k.size + 1) v N 0 x k [] wx (Nat.le_refl _) h2 (by omega) ⟨by rw [List.drop_zero, List.append_nil]; exact hG.flat, hG.wf, hG.all⟩
    clear hG
    obtain ⟨_, ao, cap, rfl, -⟩ := h
    generalize N.length = n at *
    generalize tnN x k = t at *
    go_enter Try.func27, Try.ntmps27
    go_wp2_with (first | (go_at_call 31; refine (HC.out).mono ?_; rintro en w2 ⟨rfl, hb2⟩; have HB2 := Lib.hid hb2; clear hb2) | (go_at_call 57; refine (HT.out _ HB2.out).mono ?_; rintro en w3 ⟨v3, rfl, ho3, hb3⟩; have HO3 := Lib.hid ho3; have HB3 := Lib.hid hb3; clear ho3 hb3))
    go_ret2
    exact ⟨_, rfl, own_lower HO3.out HB2.out.size, HB2.out.trans (HB3.out.mono HB2.out.size)⟩

set_option maxRecDepth 100000 in
set_option maxHeartbeats 1600000 in
theorem regexTurns_any (v : Value) (N : List Nd) (w : World) (h : RdNd w v N) (hl : N.length ≤ 4398046511104) :
    Calls Try.prog 10 #[v] w fun e w' => e = .returned (.bool true) ∧ Below w.heap.size w w' := by
  obtain ⟨l, e, hP⟩ := tuS_ex N
  have hll := hP.len
  have HC := Lib.hid (fun w h => rCopy_any v N w h hl)
  have HX := Lib.hid (fun v w h => xTurnT_any v N l e w h hP hl)
  have HR := Lib.hid (fun v w h => rTurnT_any v N l e w h hP hl)
  have HA : Hid (e = 0 → ∀ v w, RdNd w v l → Calls Try.prog 26 #[v] w fun en w' => ∃ v', en = .returned (.tuple #[v', .int .i64 0]) ∧ OwnNd w' w.heap.size v' N ∧ Below w.heap.size w w') :=
    fun he v w h => xTurnT_any v l N 0 w h (hP.again he) (by omega)
  have HSame : Hid (∀ va vb w (L : List Nd), L.length ≤ 4398046511104 → RdNd w va L → RdNd w vb L → Calls Try.prog 16 #[va, vb] w fun e w' => e = .returned (.bool true) ∧ Below w.heap.size w w') := by
    intro va vb w L hL ha hb
    have := rSame_any va vb L L w ha hb (by omega) (by omega)
    rwa [decide_eq_true (rfl : L = L)] at this
  have HV := Lib.hid h
  obtain ⟨_, ao, cap, rfl, -⟩ := id h
  have hcase : e = 0 ∨ (e != 0) = true := by
    by_cases he : e = 0
    · exact .inl he
    · exact .inr (by simpa using he)
  clear h hP
  rcases hcase with he | he
  all_goals
    first | subst he | skip
    go_enter Try.func10, Try.ntmps10
    go_wp2_with fail
    refine (HC.out _ HV.out).mono ?_
    rintro en w1 ⟨v1, rfl, ho1, hb1⟩
    have HO1 := Lib.hid ho1
    have HB1 := Lib.hid hb1
    clear ho1 hb1
    go_wp2_with fail
    refine (HX.out _ _ (RdNd.of_own HO1.out)).mono ?_
    rintro en w2 ⟨v2, rfl, ho2, hb2⟩
    have HU2 := Lib.hid (RdNd.of_own ho2)
    have HB2 := Lib.hid (HB1.out.trans (hb2.mono HB1.out.size))
    obtain ⟨_, ao2, cap2, rfl, -⟩ := Rd.of_owns ho2
    clear ho2 hb2
    go_wp2_with fail
    refine (HR.out _ _ (RdNd.below HV.out HB2.out)).mono ?_
    rintro en w3 ⟨v3, rfl, ho3, hb3⟩
    have HU3 := Lib.hid (RdNd.below HU2.out hb3)
    have HT3 := Lib.hid (RdNd.of_own ho3)
    have HB3 := Lib.hid (HB2.out.trans (hb3.mono HB2.out.size))
    obtain ⟨_, ao3, cap3, rfl, -⟩ := Rd.of_owns ho3
    clear ho3 hb3
    go_wp2_with fail
    refine (head_any _).mono ?_
    rintro en w4 ⟨rfl, hb4⟩
    have HU4 := Lib.hid (RdNd.below HU3.out hb4)
    have HT4 := Lib.hid (RdNd.below HT3.out hb4)
    have HB4 := Lib.hid (HB3.out.trans (hb4.mono HB3.out.size))
    clear hb4
    go_wp2_with fail
    refine (HSame.out _ _ _ l (by omega) HU4.out HT4.out).mono ?_
    rintro en w5 ⟨rfl, hb5⟩
    have HU5 := Lib.hid (RdNd.below HU4.out hb5)
    have HB5 := Lib.hid (HB4.out.trans (hb5.mono HB4.out.size))
    clear hb5
    go_wp2_with fail
  · refine (HA.out (by simp) _ _ HU5.out).mono ?_
    rintro en w6 ⟨v6, rfl, ho6, hb6⟩
    have HT6 := Lib.hid (RdNd.of_own ho6)
    have HB6 := Lib.hid (HB5.out.trans (hb6.mono HB5.out.size))
    obtain ⟨_, ao6, cap6, rfl, -⟩ := Rd.of_owns ho6
    clear ho6 hb6
    go_wp2_with fail
    refine (HSame.out _ _ _ N hl HT6.out (RdNd.below HV.out HB6.out)).mono ?_
    rintro en w7 ⟨rfl, hb7⟩
    have HB7 := Lib.hid (HB6.out.trans (hb7.mono HB6.out.size))
    clear hb7
    go_wp2_with fail
    go_ret
    exact ⟨rfl, HB7.out⟩
  · go_ret
    exact ⟨rfl, HB5.out⟩
end Go.Proofs.Ytbpipnjdfmpbdaa
