import Derived.Test.YtbpipnjdfmpbdaaRuA
namespace Go.Proofs.Ytbpipnjdfmpbdaa
open Go.RowKit Go.Shelf
attribute [local go_sem] Oper.semAt_some

/-! ### the law RegexNames -/
structure NmI (w : World) (Bp Bk : Nat) (v vp : Value) (N : List Nd) (leave : Int) (W : World) : Prop where
  l : Boxed W w.heap.size 22 v
  e : Boxed W (w.heap.size + 1) 3 (.int .i64 leave)
  p : Boxed W Bp 32 vp
  row : OwnI W (w.heap.size + 1) vp ((nmF N 0).map (·.1))
  b : Below w.heap.size w W
theorem nmI_own {w : World} {Bp Bk : Nat} {v vp : Value} {N : List Nd} {leave : Int} {B : Nat} (hB : w.heap.size ≤ B) : OwnFrom B (fun (_ : List (Nat × ByteArray)) W => NmI w Bp Bk v vp N leave W) := by
  intro p X Y row h hg hr
  have hr' : ∀ r, row = some r → ∃ o : Obj, X.heap[r]? = some o ∧ o.isCells = false := fun r e => (hr r e).2
  refine ⟨bx_keep h.l hg hr', bx_keep h.e hg hr', bx_keep h.p hg hr', own_grown h.row hg (fun j hj => .inr ?_), h.b.grown hg h.b.size (fun k e => Nat.le_trans hB (hr k e).1)⟩
  intro e
  obtain ⟨o, ho, hc⟩ := hr' j hj
  rcases h.row.2 with ⟨hv, _⟩ | ⟨g, cap, cur, hv, _, hg2, _⟩
  · rw [hv] at e; simp [Value.ownBlock] at e
  · rw [hv] at e
    simp only [Value.ownBlock, Option.some.injEq] at e
    subst e
    rw [hg2] at ho; cases ho; cases hc
theorem NmI.setBox {w : World} {Bp Bk B : Nat} {v vp : Value} {N : List Nd} {leave : Int} {W : World} (h : NmI w Bp Bk v vp N leave W) (h1 : B ≠ w.heap.size) (h2 : B ≠ w.heap.size + 1) (h3 : B ≠ Bp) (h4 : ∀ g, vp.ownBlock = some g → g ≠ B) (h5 : w.heap.size ≤ B) (u : Value) :
    NmI w Bp Bk v vp N leave (W.setCell ⟨B, 0, none⟩ u) :=
  ⟨h.l.other (Ne.symm h1) u, h.e.other (Ne.symm h2) u, h.p.other (Ne.symm h3) u, own_grown h.row (grown_set W B 0 u) (fun j hj => .inr (by cases hj; exact fun e => h4 _ e rfl)), h.b.setCell (p := ⟨B, 0, none⟩) h5 u⟩
theorem NmI.step {w : World} {Bp Bk : Nat} {v vp : Value} {N : List Nd} {leave : Int} {W W' : World} (h : NmI w Bp Bk v vp N leave W) (hb : Below W.heap.size W W') : NmI w Bp Bk v vp N leave W' :=
  ⟨(hb.block _ h.l.lt).trans h.l, (hb.block _ h.e.lt).trans h.e, (hb.block _ h.p.lt).trans h.p, own_grown h.row (grown_below hb) (by simp), h.b.trans (hb.mono h.b.size)⟩

theorem nmF_at (N : List Nd) : ∀ (i j : Nat) (p : Nat × ByteArray), (nmF N i)[j]? = some p → i ≤ p.1 ∧ ∃ x, N[p.1 - i]? = some x ∧ x.n = p.2 := by
  induction N with
  | nil => intro i j p h; simp [nmF] at h
  | cons x l ih =>
    intro i j p h
    unfold nmF at h
    have key : ∀ j : Nat, (nmF l (i + 1))[j]? = some p → i ≤ p.1 ∧ ∃ y, (x :: l)[p.1 - i]? = some y ∧ y.n = p.2 := by
      intro j h
      obtain ⟨h1, y, h2, h3⟩ := ih (i + 1) j p h
      exact ⟨by omega, y, by rw [show p.1 - i = p.1 - (i + 1) + 1 from by omega, List.getElem?_cons_succ]; exact h2, h3⟩
    split at h
    · cases j with
      | zero =>
        simp only [List.getElem?_cons_zero, Option.some.injEq] at h
        subst h
        exact ⟨Nat.le_refl _, x, by simp, rfl⟩
      | succ j => exact key j (by simpa using h)
    · exact key j h
theorem npre_step {l pre : List (Nat × ByteArray)} {x : Nat × ByteArray} (h : pre <+: l) (hx : l[pre.length]? = some x) : (pre ++ [x]) <+: l := by
  obtain ⟨r, rfl⟩ := h
  rw [List.getElem?_append_right (Nat.le_refl _)] at hx
  simp at hx
  cases r with
  | nil => simp at hx
  | cons y r => simp at hx; subst hx; exact ⟨r, by simp⟩
theorem npre_bad {l pre : List (Nat × ByteArray)} {x m : Nat × ByteArray} (hx : l[pre.length]? = some m) (hne : ¬ x = m) : ¬ (pre ++ [x]) <+: l := by
  rintro ⟨r, rfl⟩
  simp at hx
  exact hne hx

set_option maxRecDepth 100000 in
set_option maxHeartbeats 3200000 in
theorem regexNames_in (n : Nat) (hn : 6 ≤ n) (v : Value) (N : List Nd) (leave : Int) (w : World) (h : RdNd w v N) (hl : N.length ≤ 4398046511104) :
    CallsIn Fence.wide n Try.prog 6 #[v, .int .i64 leave] w fun e w' => e = .returned (.bool true) ∧ Below w.heap.size w w' := by
  have h1 : 1 ≤ n := by omega
  have HPl := Lib.hid (fun w h => rPlaces_any v N w h hl)
  have HNm := Lib.hid (fun w h => names_in (n - 1) v N w h hl)
  have hnl := nmF_len N 0
  have HV := Lib.hid h
  obtain ⟨_, ao, cap, rfl, -⟩ := id h
  clear h
  refine callsIn_of_wp_marks Try.func6 rfl trivial ?_ rfl
  simp only [Try.ntmps6, List.size_toArray, List.length_cons, List.length_nil, Nat.reduceAdd, Nat.reduceSub, Array.replicate_succ, Array.replicate_zero, List.push_toArray, List.append_toArray, List.nil_append, List.cons_append]
  gi_wp2_with fail
  refine ⟨trivial, (callsIn_wide.2 (head_any _)).mono ?_⟩
  rintro e w1 ⟨rfl, hb1⟩
  have hs0 : (((w.alloc (.cells #[.slice ao N.length cap] 22)).alloc (.cells #[.int .i64 leave] 3)).alloc (.cells #[.bool false] 4)).heap.size = w.heap.size + 3 := by simp
  have bl1 : Boxed w1 w.heap.size 22 (.slice ao N.length cap) := (hb1.block _ (by omega)).trans (((Boxed.new w _ _).alloc _).alloc _)
  have be1 : Boxed w1 (w.heap.size + 1) 3 (.int .i64 leave) := (hb1.block _ (by omega)).trans (by
    have := Boxed.new (w.alloc (.cells #[.slice ao N.length cap] 22)) 3 (.int .i64 leave)
    simp only [World.size_alloc] at this
    exact this.alloc _)
  have br1 : Boxed w1 (w.heap.size + 1 + 1) 4 (.bool false) := (hb1.block _ (by omega)).trans (by
    have := Boxed.new ((w.alloc (.cells #[.slice ao N.length cap] 22)).alloc (.cells #[.int .i64 leave] 3)) 4 (.bool false)
    simp only [World.size_alloc] at this
    exact this)
  have hw1 : Below w.heap.size w w1 := (below3 w _ _ _).trans (hb1.mono (by omega))
  have hs1 := hb1.size
  rw [hs0] at hs1
  have cl1 := bl1.cell
  clear hb1 hs0
  gi_wp2_with fail
  refine ⟨trivial, (callsIn_wide.2 (HPl.out _ (RdNd.below HV.out hw1))).mono ?_⟩
  rintro e w2 ⟨vp, rfl, hop, hb2⟩
  have hs2 := hb2.size
  have bl2 : Boxed w2 w.heap.size 22 (.slice ao N.length cap) := (hb2.block _ (by omega)).trans bl1
  have be2 : Boxed w2 (w.heap.size + 1) 3 (.int .i64 leave) := (hb2.block _ (by omega)).trans be1
  have br2 : Boxed w2 (w.heap.size + 1 + 1) 4 (.bool false) := (hb2.block _ (by omega)).trans br1
  have hw2 : Below w.heap.size w w2 := hw1.trans (hb2.mono (by omega))
  have hgp : ∀ g, vp.ownBlock = some g → g < w2.heap.size ∧ w1.heap.size ≤ g := fun g hg => by have := hop.lt g hg; omega
  obtain ⟨aop, cpp, rfl, hcpp⟩ := OwnI.shape hop
  rw [List.length_map] at hcpp hgp hop ⊢
  clear bl1 be1 br1 hw1 hb2 cl1
  have cl2 := bl2.cell
  have hlt0 : w.heap.size < w2.heap.size := by omega
  gi_wp2_with fail
  have bl3 := (bl2.alloc (.cells #[.slice aop (nmF N 0).length cpp] 32)).alloc (.cells #[.int .i64 0] 3)
  have be3 := (be2.alloc (.cells #[.slice aop (nmF N 0).length cpp] 32)).alloc (.cells #[.int .i64 0] 3)
  have br3 := (br2.alloc (.cells #[.slice aop (nmF N 0).length cpp] 32)).alloc (.cells #[.int .i64 0] 3)
  have bp3 := (Boxed.new w2 32 (.slice aop (nmF N 0).length cpp)).alloc (.cells #[.int .i64 0] 3)
  have bk3 := Boxed.new (w2.alloc (.cells #[.slice aop (nmF N 0).length cpp] 32)) 3 (.int .i64 0)
  simp only [World.size_alloc] at bk3
  have hop3 := (hop.alloc (.cells #[.slice aop (nmF N 0).length cpp] 32)).alloc (.cells #[.int .i64 0] 3)
  have hw3 := (hw2.alloc (by omega) (.cells #[.slice aop (nmF N 0).length cpp] 32)).alloc (by simp; omega) (.cells #[.int .i64 0] 3)
  have hs3 : ((w2.alloc (.cells #[.slice aop (nmF N 0).length cpp] 32)).alloc (.cells #[.int .i64 0] 3)).heap.size = w2.heap.size + 2 := by simp
  generalize ((w2.alloc (.cells #[.slice aop (nmF N 0).length cpp] 32)).alloc (.cells #[.int .i64 0] 3)) = w3 at *
  clear bl2 be2 br2 cl2 hop
  refine ⟨trivial, (HNm.out _ (RdNd.below HV.out hw3)).mono ?_⟩
  rintro e w4 ⟨rfl, vc, hbx4, ho4, hb4⟩
  have hs4 := hb4.size
  have hT : NmI w w2.heap.size (w2.heap.size + 1) (.slice ao N.length cap) (.slice aop (nmF N 0).length cpp) N leave w4 := by
    refine ⟨(hb4.block _ (by omega)).trans bl3, (hb4.block _ (by omega)).trans be3, (hb4.block _ (by omega)).trans bp3, ?_, hw3.trans (hb4.mono (by omega))⟩
    have h2 := own_grown hop3 (grown_below hb4) (by simp)
    have h3 : OwnI w4 w1.heap.size (.slice aop (nmF N 0).length cpp) ((nmF N 0).map (·.1)) := by
      unfold OwnI at h2 ⊢
      rw [List.length_map] at h2 ⊢
      exact h2
    exact own_lower h3 (by omega)
  have bK : Boxed w4 (w2.heap.size + 1) 3 (.int .i64 0) := (hb4.block _ (by omega)).trans bk3
  have bR : Boxed w4 (w.heap.size + 1 + 1) 4 (.bool false) := (hb4.block _ (by omega)).trans br3
  have hgc : ∀ g, vc.ownBlock = some g → g < w4.heap.size ∧ w2.heap.size + 2 < g := fun g hg => by have := ho4.lt g hg; omega
  clear bl3 be3 br3 bp3 bk3 hop3 hw3 hw2 hb4
  gi_wp2
  generalize hBk : w2.heap.size + 1 = Bk at *
  have hBk2 : w.heap.size + 3 < Bk := by omega
  have hlL : (nmF N 0).length ≤ 4398046511104 := by omega
  refine wpIn_rangeFunc_slots rfl h1 (gf := 52) (lb := #[.pointer (some ⟨w2.heap.size + 2, 0, none⟩)]) rfl trivial (enters_of Try.func52 (by kernel_rfl) rfl)
    (names_stops (n - 1) (by omega) (w2.heap.size + 2) _ vc N hl w4 (by rw [← hs3]; exact hbx4.cell) ho4) KpRow.trans (KpRow.refl vc) (KpRow.putObj (fun g hg => (hgc g hg).1)) (Below.refl _ _) (fun _ => rfl)
    ?T (fun pre W => NmI w w2.heap.size Bk (.slice ao N.length cap) (.slice aop (nmF N 0).length cpp) N leave W ∧ Boxed W Bk 3 (.int .i64 pre.length) ∧ Boxed W (w.heap.size + 1 + 1) 4 (.bool false) ∧ Hid (pre <+: nmF N 0))
    (fun c pre W => c = .ret ∧ ((¬ pre <+: nmF N 0) ∨ (Boxed W (w.heap.size + 1 + 1) 4 (.bool true) ∧ Below w.heap.size w W))) ?hI ?hIx ⟨hT, bK, bR, List.nil_prefix⟩ ?assign ?body ?done ?stop
  case assign =>
    intro l x W K hK
    dsimp only [encN]
    gi_wp2
    exact hK
  case hI =>
    intro p X Y row h hg hr
    have hr' : ∀ r, row = some r → ∃ o : Obj, X.heap[r]? = some o ∧ o.isCells = false := fun r e => (hr r e).2
    exact ⟨nmI_own (by omega) p X Y row h.1 hg hr, bx_keep h.2.1 hg hr', bx_keep h.2.2.1 hg hr', h.2.2.2⟩
  case hIx =>
    intro c p X Y row h hg hr
    refine ⟨h.1, h.2.imp id fun h2 => ⟨bx_keep h2.1 hg (fun r e => (hr r e).2), h2.2.grown hg h2.2.size (fun k e => by have := (hr k e).1; omega)⟩⟩
  case stop =>
    rintro D c pre W hD ⟨hne, hpre⟩ ⟨rfl, h⟩ hKD
    rcases h with hbad | ⟨hR, hB⟩
    · exact absurd hpre hbad
    · have hDl : D ≠ w.heap.size + 1 + 1 := by omega
      have r11 : Boxed (W.putObj D (.deferred none)) (w.heap.size + 1 + 1) 4 (.bool true) := bx_keep hR (grownBy_putObj' _ _ _) (fun r e => by cases e; exact ⟨_, hKD, rfl⟩)
      have b11 := hB.trans (belowK_b (w := w) (Nat.le_refl _) W D _ (.deferred none) (by omega) hKD rfl rfl)
      gi_wp2
      refine ⟨by simp, .inl ⟨_, _, rfl, run_takeDeferred hKD, ?_⟩⟩
      refine ⟨.bool true, ?_, rfl, b11⟩
      have c12 := r11.cell
      simp [results, Try.f6, go_sem, c12]
  case done =>
    rintro D xs W hD rfl ⟨hN, hK, hR, _⟩ hKD
    gi_wp2_with fail
    refine ⟨trivial, (callsIn_wide.2 (head_any _)).mono ?_⟩
    rintro e w6 ⟨rfl, hb6⟩
    have hN6 := hN.step hb6
    have hK6 : Boxed w6 Bk 3 (.int .i64 (nmF N 0).length) := (hb6.block _ hK.lt).trans hK
    have hR6 : Boxed w6 (w.heap.size + 1 + 1) 4 (.bool false) := (hb6.block _ hR.lt).trans hR
    have hKD6 := (hb6.block D (Array.getElem?_eq_some_iff.1 hKD).1).trans hKD
    have cP := hN6.p.cell
    have cK := hK6.cell
    have cR := hR6.cell
    have fR := hR6.frozen
    have HN6 := Lib.hid hN6
    have HR6 := Lib.hid hR6
    clear hN hK hR hb6 hN6 hK6 hR6 hKD
    gi_wp2
    have s1 := (KeepsOthers.setCell w6 ⟨w.heap.size + 1 + 1, 0, none⟩ (.bool true)).same D _ hKD6 rfl
    have r10 := Boxed.set (.bool true) HR6.out
    have hbel10 : Below w.heap.size w (w6.setCell ⟨w.heap.size + 1 + 1, 0, none⟩ (.bool true)) := HN6.out.b.setCell (p := ⟨w.heap.size + 1 + 1, 0, none⟩) (by show w.heap.size ≤ w.heap.size + 1 + 1; omega) _
    have r11 : Boxed ((w6.setCell ⟨w.heap.size + 1 + 1, 0, none⟩ (.bool true)).putObj D (.deferred none)) (w.heap.size + 1 + 1) 4 (.bool true) := bx_keep r10 (grownBy_putObj' _ _ _) (fun r e => by cases e; exact ⟨_, s1, rfl⟩)
    have b11 := hbel10.trans (belowK_b (w := w) (Nat.le_refl _) _ D _ (.deferred none) (by omega) s1 rfl rfl)
    refine ⟨by simp, .inl ⟨_, _, rfl, run_takeDeferred s1, ?_⟩⟩
    refine ⟨.bool true, ?_, rfl, b11⟩
    have c12 := r11.cell
    simp [results, Try.f6, go_sem, c12]
  case body =>
    rintro l pre x W ⟨hN, hK, hR, HP⟩ hlt
    obtain ⟨m, hm⟩ : ∃ m, (nmF N 0)[pre.length]? = some m := ⟨_, List.getElem?_eq_getElem hlt⟩
    obtain ⟨-, y, hy, hyn⟩ := nmF_at N 0 pre.length m hm
    rw [Nat.sub_zero] at hy
    obtain ⟨g, gc, e0, hg1, hg2, hg3, hcs⟩ := own_src hN.row (by rw [List.length_map]; omega)
    rw [List.length_map] at e0
    simp only [Value.slice.injEq] at e0
    obtain ⟨rfl, -, rfl⟩ := e0
    have hpm : (intsV ((nmF N 0).map (·.1)))[pre.length]? = some (.int .i64 m.1) := by
      unfold intsV
      rw [List.getElem?_map, List.getElem?_map, hm]; rfl
    have cP0 := hcs _ _ hpm
    rw [Addr.add_lit, Nat.zero_add] at cP0
    obtain ⟨b, off, cp, e1, hb, hc, x0, x10, x2⟩ := RdNd.at HV.out hy
    simp only [Value.slice.injEq] at e1
    obtain ⟨rfl, -, rfl⟩ := e1
    rw [hyn] at x10
    have x1 := (hN.b.cell (p := ⟨b, _, none⟩) hb).trans x10
    have cL := hN.l.cell
    have cE := hN.e.cell
    have cP := hN.p.cell
    have cK := hK.cell
    have fK := hK.frozen
    have cR := hR.cell
    have fR := hR.frozen
    have hNy : m.1 < N.length := (List.getElem?_eq_some_iff.1 hy).1
    have hgK : g ≠ Bk := by have := (hgp g rfl).1; omega
    have hbK : b ≠ Bk := by omega
    have HNm2 := Lib.hid hN
    have HKb := Lib.hid hK
    have HRb := Lib.hid hR
    have HM := Lib.hid hm
    clear hN hK hR hcs hpm hy hyn hm x0 x10 x2
    have hpl : pre.length < 9223372036854775807 := by omega
    by_cases hx1 : x.1 = m.1
    · by_cases hx2 : x.2 = m.2
      · have hxm : x = m := Prod.ext hx1 hx2
        subst hxm
        clear hx1 hx2
        have hmm : ((x.1 : Int) != x.1) = false := by simp
        have hnn : (x.2.toList != x.2.toList) = false := by simp
        gi_wp2
        · refine ⟨trivial, (by intro h; cases h), ((callsIn_wide.2 (head_any _)).inRound l).mono ?_⟩
          rintro e w6 ⟨rfl, hb6⟩
          have hR6 : Boxed w6 (w.heap.size + 1 + 1) 4 (.bool false) := (hb6.block _ (by have := HRb.out.lt; simpa [World.setCell] using this)).trans (HRb.out.other (by omega) _)
          have hB6 : Below w.heap.size w w6 := (HNm2.out.b.setCell (p := ⟨Bk, 0, none⟩) (by show w.heap.size ≤ Bk; omega) _).trans (hb6.mono (by have := HNm2.out.b.size; simpa [World.setCell] using this))
          have hKO : KeepsOthers W w6 := (KeepsOthers.setCell W ⟨Bk, 0, none⟩ (.int .i64 (pre.length + 1))).trans (KeepsOthers.of_grownBy (grown_below hb6) (fun j o ej _ => by cases ej))
          have cR6 := hR6.cell
          have fR6 := hR6.frozen
          clear hb6
          gi_wp2
          exact ⟨(hKO.trans (KeepsOthers.setCell _ _ _)).from _, rfl, .inr ⟨Boxed.set _ hR6, hB6.setCell (p := ⟨w.heap.size + 1 + 1, 0, none⟩) (by show w.heap.size ≤ w.heap.size + 1 + 1; omega) _⟩⟩
        · refine ⟨(KeepsOthers.setCell _ _ _).from _, KpRow.setBox (fun g hg e => by have := (hgc g hg).2; omega) _, HNm2.out.setBox (by omega) (by omega) (by omega) (fun g hg => by have := (hgp g hg).1; omega) (by omega) _, ?_, HRb.out.other (by omega) _, npre_step HP.out HM.out⟩
          rw [List.length_append]
          exact Boxed.set _ HKb.out
      · have hmm : ((m.1 : Int) != m.1) = false := by simp
        have hnn : (x.2.toList != m.2.toList) = true := by
          simp only [bne_iff_ne, ne_eq]
          exact fun h => hx2 ((toList_inj _ _).1 h)
        have hbad := npre_bad (x := x) HM.out (fun h => hx2 (by rw [h]))
        have hnn2 : (x.2.toList == m.2.toList) = false := by
          simp only [beq_eq_false_iff_ne, ne_eq]
          exact fun h => hx2 ((toList_inj _ _).1 h)
        rw [hx1]
        clear hx2
        gi_wp2
        exact ⟨(KeepsOthers.setCell _ _ _).from _, rfl, .inl hbad⟩
    · have hmm : ((x.1 : Int) != m.1) = true := by simp; omega
      have hbad := npre_bad (x := x) HM.out (fun h => hx1 (by rw [h]))
      gi_wp2
      exact ⟨(KeepsOthers.setCell _ _ _).from _, rfl, .inl hbad⟩
theorem regexNames_any (v : Value) (N : List Nd) (leave : Int) (w : World) (h : RdNd w v N) (hl : N.length ≤ 4398046511104) :
    Calls Try.prog 6 #[v, .int .i64 leave] w fun e w' => e = .returned (.bool true) ∧ Below w.heap.size w w' :=
  callsIn_wide.1 (regexNames_in 8 (by omega) v N leave w h hl)
end Go.Proofs.Ytbpipnjdfmpbdaa
