import Derived.Test.YtjnccfgnakggkaaMkH
import Derived.Sort.QuietIn
namespace Go.Proofs.Ytjnccfgnakggkaa
open Go.RowKit Go.Shelf
attribute [local go_sem] Oper.semAt_some

theorem row_setCell {W : World} {g e : Nat} {cur : Array Value} (h : W.heap[g]? = some (.cells cur e (0, 0))) (b o : Nat) (v : Value) :
    ∃ cur' : Array Value, (W.setCell ⟨b, o, none⟩ v).heap[g]? = some (.cells cur' e (0, 0)) ∧ cur'.size = cur.size := by
  by_cases hb : g = b
  · subst hb
    refine ⟨cur.setIfInBounds o v, ?_, by simp⟩
    obtain ⟨hlt, hk⟩ := Array.getElem?_eq_some_iff.1 h
    show (W.heap.modify g _)[g]? = _
    rw [Array.getElem?_eq_getElem (by rw [Array.size_modify]; exact hlt), Array.getElem_modify_self, hk]
    rfl
  · exact ⟨cur, (Below.heap_setCell _ _ _ _ hb).trans h, rfl⟩

theorem seq_nil (b : Nat) (w : World) : (binOp .eql 33 (.func (.func 27) #[] #[.pointer (some ⟨b, 0, none⟩)]) .nilFunc).run Try.prog w = .ok (.bool false) w := by kernel_rfl

structure TurnI (w : World) (Ba Bt Bu : Nat) (early : Int) (v5 : Value) (s : ByteArray) (turn : Int) (W : World) : Prop where
  e : Boxed W w.heap.size 3 (.int .i64 early)
  r : Boxed W (w.heap.size + 1) 4 (.bool false)
  a : Boxed W Ba 22 v5
  l : RdMk W v5 (cut s 0).1
  t : Boxed W Bt 9 (.string s)
  u : Boxed W Bu 3 (.int .i64 turn)
  b : Below w.heap.size w W

theorem boxed_keep {W W' : World} {row : Option Nat} {B t : Nat} {v : Value} (h : Boxed W B t v) (hg : W.grownBy W' row) (hr : ∀ r, row = some r → ∃ o : Obj, W.heap[r]? = some o ∧ o.isCells = false) : Boxed W' B t v :=
  h.kept hg (fun e => by obtain ⟨o, ho, hc⟩ := hr B e.symm; rw [show W.heap[B]? = _ from h] at ho; cases ho; cases hc)
theorem Rd.keep {W W' : World} {row : Option Nat} {v : Value} {n size : Nat} {xs : List Value} (h : Rd W v n size xs) (hg : W.grownBy W' row) (hr : ∀ r, row = some r → ∃ o : Obj, W.heap[r]? = some o ∧ o.isCells = false) : Rd W' v n size xs := by
  obtain ⟨h1, ao, cap, h2, h3, h4, h5⟩ := h
  refine ⟨h1, ao, cap, h2, h3, h4, h5.imp id ?_⟩
  rintro ⟨b, off, h6, h7, h8⟩
  exact ⟨b, off, h6, Nat.lt_of_lt_of_le h7 hg.size, fun j u hj => cell_kept (h8 j u hj) hg hr⟩
theorem turnI_own {w : World} {Ba Bt Bu : Nat} {early : Int} {v5 : Value} {s : ByteArray} {turn : Int} {B : Nat} (hB : w.heap.size ≤ B) : OwnFrom B (fun (_ : List Mk) W => TurnI w Ba Bt Bu early v5 s turn W) := by
  intro p X Y row h hg hr
  have hr' : ∀ r, row = some r → ∃ o : Obj, X.heap[r]? = some o ∧ o.isCells = false := fun r e => (hr r e).2
  exact ⟨boxed_keep h.e hg hr', boxed_keep h.r hg hr', boxed_keep h.a hg hr', Rd.keep h.l hg hr', boxed_keep h.t hg hr', boxed_keep h.u hg hr', h.b.grown hg h.b.size (fun k e => Nat.le_trans hB (hr k e).1)⟩

theorem Rd.setBox {W : World} {v : Value} {n size : Nat} {xs : List Value} (h : Rd W v n size xs) (hs : 2 ≤ size) {B t : Nat} {u : Value} (hb : Boxed W B t u) (x : Value) : Rd (W.setCell ⟨B, 0, none⟩ x) v n size xs := by
  obtain ⟨h1, ao, cap, h2, h3, h4, h5⟩ := h
  refine ⟨h1, ao, cap, h2, h3, h4, ?_⟩
  rcases h5 with h5 | ⟨b, off, h6, h7, h8⟩
  · exact .inl h5
  · by_cases hn : n = 0
    · exact .inl hn
    · right
      have hne : b ≠ B := by
        rintro rfl
        have hx : 1 < xs.length := by
          rw [h1]; have : 1 * size ≤ n * size := Nat.mul_le_mul_right _ (by omega)
          omega
        have hc := h8 1 _ (List.getElem?_eq_getElem hx)
        simp [World.cell?, show W.heap[b]? = _ from hb] at hc
      refine ⟨b, off, h6, by simpa [World.setCell] using h7, fun j y hj => ?_⟩
      rw [World.cell?_of_block (w := W) (Below.heap_setCell W ⟨B, 0, none⟩ x b hne)]
      exact h8 j y hj
theorem TurnI.step {w : World} {Ba Bt Bu Bn : Nat} {early c : Int} {v5 : Value} {s : ByteArray} {turn : Int} {W : World} (h : TurnI w Ba Bt Bu early v5 s turn W) (hn : Boxed W Bn 3 (.int .i64 c)) (h1 : Bn ≠ w.heap.size) (h2 : Bn ≠ w.heap.size + 1) (h3 : Bn ≠ Ba) (h4 : Bn ≠ Bt) (h5 : Bn ≠ Bu) (h6 : w.heap.size ≤ Bn) (q : Nat) (u : Value) :
    TurnI w Ba Bt Bu early v5 s turn ((W.drewN q).setCell ⟨Bn, 0, none⟩ u) := by
  have e : Boxed (W.drewN q) w.heap.size 3 (.int .i64 early) := h.e
  have r : Boxed (W.drewN q) (w.heap.size + 1) 4 (.bool false) := h.r
  have a : Boxed (W.drewN q) Ba 22 v5 := h.a
  have t : Boxed (W.drewN q) Bt 9 (.string s) := h.t
  have uu : Boxed (W.drewN q) Bu 3 (.int .i64 turn) := h.u
  have n : Boxed (W.drewN q) Bn 3 (.int .i64 c) := hn
  have l : RdMk (W.drewN q) v5 (cut s 0).1 := h.l
  exact ⟨e.other (by omega) u, r.other (by omega) u, a.other (by omega) u, Rd.setBox l (by decide) n u, t.other (by omega) u, uu.other (by omega) u, (below_drewN h.b q).setCell (p := ⟨Bn, 0, none⟩) h6 u⟩
theorem TurnI.next {w : World} {Ba Bt Bu : Nat} {early : Int} {v5 : Value} {s : ByteArray} {turn : Int} {W : World} (h : TurnI w Ba Bt Bu early v5 s turn W) (turn' : Int) : TurnI w Ba Bt W.heap.size early v5 s turn' (W.alloc (.cells #[.int .i64 turn'] 3)) :=
  ⟨h.e.alloc _, h.r.alloc _, h.a.alloc _, Rd.alloc h.l _, h.t.alloc _, Boxed.new W _ _, h.b.alloc h.b.size _⟩
theorem keeps_step (W : World) (q : Nat) (a : Addr) (u : Value) : KeepsOthers W ((W.drewN q).setCell a u) :=
  (show KeepsOthers W (W.drewN q) from ⟨Nat.le_refl _, fun _ _ h _ => h⟩).trans (KeepsOthers.setCell _ _ _)
theorem kp_step {Bt Bn : Nat} {W : World} {c : Int} (hn : Boxed W Bn 3 (.int .i64 c)) (h : Bt ≠ Bn) (q : Nat) (u : Value) : KpBox Bt W ((W.drewN q).setCell ⟨Bn, 0, none⟩ u) :=
  ⟨by simp [World.setCell], Below.heap_setCell (W.drewN q) ⟨Bn, 0, none⟩ u Bt h, KeepsOnes.setCell (W := W.drewN q) (show Boxed (W.drewN q) Bn 3 (.int .i64 c) from hn) (by decide) 0 u⟩
theorem pre_step {l pre : List Mk} {x : Mk} (h : pre <+: l) (hx : l[pre.length]? = some x) : (pre ++ [x]) <+: l := by
  obtain ⟨r, rfl⟩ := h
  rw [List.getElem?_append_right (Nat.le_refl _)] at hx
  simp at hx
  cases r with
  | nil => simp at hx
  | cons y r => simp at hx; subst hx; exact ⟨r, by simp⟩
theorem pre_bad {l pre : List Mk} {x m : Mk} (hx : l[pre.length]? = some m) (hne : ¬ x = m) : ¬ (pre ++ [x]) <+: l := by
  rintro ⟨r, rfl⟩
  simp at hx
  exact hne hx

set_option maxRecDepth 100000 in
set_option maxHeartbeats 3200000 in
theorem marksScan_in (n : Nat) (hn : 8 ≤ n) (s : ByteArray) (early : Int) (hs : s.size ≤ 16777216) (w : World) :
    CallsIn Fence.wide n Try.prog 3 #[.string s, .int .i64 early] w fun e w' => e = .returned (.bool true) ∧ Below w.heap.size w w' := by
  have h1 : 1 ≤ n := by omega
  have HS := Lib.hid (scan_any s hs)
  have HR := Lib.hid (rScan_any s hs)
  have HC := Lib.hid (rCut_any s)
  have hln := (cut_len s s.size 0 (by omega) (by omega)).1
  have hsl : (scanM s).1.length ≤ 16777216 := by unfold scanM; split <;> simp; omega
  refine callsIn_of_wp_marks Try.func3 rfl trivial ?_ rfl
  simp only [Try.ntmps3, List.size_toArray, List.length_cons, List.length_nil, Nat.reduceAdd, Nat.reduceSub, Array.replicate_succ, Array.replicate_zero, List.push_toArray, List.append_toArray, List.nil_append, List.cons_append]
  gi_wp2_with (refine ⟨trivial, ?_⟩; gi_at_call 9; refine (callsIn_wide.2 (HS.out _)).mono ?_; rintro e w1 ⟨v1, rfl, ho1, hb1⟩)
  refine ⟨trivial, ?_⟩
  refine (callsIn_wide.2 (HR.out _)).mono ?_
  rintro e w2 ⟨v2, rfl, ho2, hb2⟩
  obtain ⟨_, ao, cap, rfl, hnc, -⟩ := Rd.of_owns ho1
  have hL : Hid (Calls Try.prog 11 #[.slice ao (scanM s).1.length cap, v2] w2 fun e w' => e = .returned (.bool true) ∧ Below w2.heap.size w2 w') := by
    have := list_any _ _ (scanM s).1 (scanM s).1 w2 ((RdMk.of_own ho1).below hb2) (RdMk.of_own ho2) (by omega) (by omega)
    rw [decide_eq_true rfl] at this
    exact this
  have HO1 := Lib.hid ho1
  have HO2 := Lib.hid ho2
  clear ho1 ho2
  obtain ⟨n1, hn1⟩ : ∃ n1, (scanM s).1.length = n1 := ⟨_, rfl⟩
  rw [hn1] at hnc hL hsl HO1 ⊢
  have HN1 := Lib.hid hn1
  clear hn1
  gi_wp2_with (refine ⟨trivial, ?_⟩; gi_at_call 11; refine (callsIn_wide.2 hL.out).mono ?_; rintro e w3 ⟨rfl, hb3⟩)
  have hs3 : w.heap.size + 2 ≤ w3.heap.size := by have := hb1.size; have := hb2.size; have := hb3.size; simp at *; omega
  have hrow : n1 = 0 ∨ ∃ g cur, ao = some ⟨g, 0, none⟩ ∧ w.heap.size + 2 ≤ g ∧ w3.heap[g]? = some (.cells cur 29 (0, 0)) ∧ cur.size = cap * 3 := by
    rcases (HO1.out).2 with ⟨_, h⟩ | ⟨g, cap', cur, h2, h3, h4, h5, h6, h7, h8⟩
    · exact .inl (HN1.out.symm.trans h)
    · right
      simp only [Value.slice.injEq] at h2
      obtain ⟨rfl, -, rfl⟩ := h2
      have hl : g < w1.heap.size := (Array.getElem?_eq_some_iff.1 h4).1
      have hl2 := hb2.size
      exact ⟨g, cur, rfl, by simpa using h3, (hb3.block g (by omega)).trans ((hb2.block g hl).trans h4), h7⟩
  have hB3 : Below (w.heap.size + 2) ((w.alloc (.cells #[.int .i64 early] 3)).alloc (.cells #[.bool false] 4)) w3 :=
    ((hb1.trans (hb2.mono hb1.size)).trans (hb3.mono (by have := hb1.size; have := hb2.size; omega))).mono (by simp)
  gi_loopw [11] (fun i wr => ∃ j : Nat, j ≤ n1 ∧ i = .int .i64 j ∧ Below (w.heap.size + 2) w3 wr ∧ (n1 = 0 ∨ ∃ g cur, ao = some ⟨g, 0, none⟩ ∧ w.heap.size + 2 ≤ g ∧ wr.heap[g]? = some (.cells cur 29 (0, 0)) ∧ cur.size = cap * 3)) (fun i _ => n1 - (intOf i).toNat)
  case atStart => exact ⟨0, by omega, rfl, Below.refl _ _, hrow⟩
  case round =>
    obtain ⟨j, hj, rfl, hbel, hrw⟩ := hrel
    by_cases hlt : j < n1
    · rcases hrw with h0 | ⟨g, cur, rfl, hg, hgb, hsz⟩
      · omega
      · have hsz2 : j * 3 + 2 < cur.size := by omega
        obtain ⟨x0, c0⟩ : ∃ x, wr.cell? ⟨g, j * 3, none⟩ = some x := ⟨cur[j * 3], by simp [World.cell?, hgb]⟩
        obtain ⟨x1, c1⟩ : ∃ x, wr.cell? ⟨g, j * 3 + 1, none⟩ = some x := ⟨cur[j * 3 + 1], by simp [World.cell?, hgb]⟩
        obtain ⟨x2, c2⟩ : ∃ x, wr.cell? ⟨g, j * 3 + 2, none⟩ = some x := ⟨cur[j * 3 + 2], by simp [World.cell?, hgb]⟩
        have f0 : wr.frozen? ⟨g, j * 3, none⟩ = false := by simp [World.frozen?, hgb]
        have f1 : wr.frozen? ⟨g, j * 3 + 1, none⟩ = false := by simp [World.frozen?, hgb]
        have f2 : wr.frozen? ⟨g, j * 3 + 2, none⟩ = false := by simp [World.frozen?, hgb]
        have HG := Lib.hid hgb
        have HSZ := Lib.hid hsz
        clear hgb hsz hsz2
        gi_wp2
        obtain ⟨u1, k1, z1⟩ := row_setCell HG.out g (j * 3) (.int .i64 77)
        obtain ⟨u2, k2, z2⟩ := row_setCell k1 g (j * 3 + 1) (.int .i64 0)
        obtain ⟨u3, k3, z3⟩ := row_setCell k2 g (j * 3 + 2) (.string ⟨#[]⟩)
        go_roundw
        case rel => exact ⟨j + 1, by omega, by go_num, ((hbel.setCell (p := ⟨g, j * 3, none⟩) hg _).setCell (p := ⟨g, j * 3 + 1, none⟩) hg _).setCell (p := ⟨g, j * 3 + 2, none⟩) hg _, .inr ⟨g, u3, rfl, hg, k3, by rw [z3, z2, z1]; exact HSZ.out⟩⟩
        case measure => simp [intOf]; omega
    · have hBw : Below (w.heap.size + 2) ((w.alloc (.cells #[.int .i64 early] 3)).alloc (.cells #[.bool false] 4)) wr := hB3.trans hbel
      clear hbel hrow hrw hB3 hs3 hb3 hb2 hb1 hL HO1 HO2 HR HS hsl hnc
      gi_wp2_with (refine ⟨trivial, ?_⟩; gi_at_call 12; refine (callsIn_wide.2 (HC.out _ hs)).mono ?_; rintro e w5 ⟨v5, rfl, ho5, hb5⟩; obtain ⟨_, ao5, cap5, rfl, hnc5, -⟩ := Rd.of_owns ho5)
      refine ⟨trivial, ?_⟩
      refine (all_in (n - 1) s _).mono ?_
      rintro e w' ⟨rfl, rfl⟩
      have hnil := seq_nil
      gi_wp2
      clear hnil
      have hbsz := hb5.size
      have hbw := hBw.size
      simp at hbw
      have hT : TurnI w w5.heap.size (w5.heap.size + 1) (w5.heap.size + 1 + 1) early (.slice ao5 (cut s 0).1.length cap5) s 0 (((w5.alloc (.cells #[.slice ao5 (cut s 0).1.length cap5] 22)).alloc (.cells #[.string s] 9)).alloc (.cells #[.int .i64 0] 3)) := by
        have e0 : Boxed w5 w.heap.size 3 (.int .i64 early) :=
          (hb5.block _ (by omega)).trans ((hBw.block _ (by omega)).trans ((Boxed.new w 3 (.int .i64 early)).alloc (.cells #[.bool false] 4)))
        have r0 : Boxed w5 (w.heap.size + 1) 4 (.bool false) := by
          have := Boxed.new (w.alloc (.cells #[.int .i64 early] 3)) 4 (.bool false)
          simp only [World.size_alloc] at this
          exact (hb5.block _ (by omega)).trans ((hBw.block _ (by omega)).trans this)
        have t0 := (Boxed.new (w5.alloc (.cells #[.slice ao5 (cut s 0).1.length cap5] 22)) 9 (.string s)).alloc (.cells #[.int .i64 0] 3)
        have u0 := Boxed.new ((w5.alloc (.cells #[.slice ao5 (cut s 0).1.length cap5] 22)).alloc (.cells #[.string s] 9)) 3 (.int .i64 0)
        simp only [World.size_alloc] at t0 u0
        refine ⟨((e0.alloc _).alloc _).alloc _, ((r0.alloc _).alloc _).alloc _, ((Boxed.new w5 22 (.slice ao5 (cut s 0).1.length cap5)).alloc _).alloc _, (((RdMk.of_own ho5).alloc _).alloc _).alloc _, t0, u0, ?_⟩
        have hw : Below w.heap.size w w5 := ((below2 w _ _).trans (hBw.mono (by omega))).trans (hb5.mono (by omega))
        exact ((hw.alloc (by omega) _).alloc (by simp; omega) _).alloc (by simp; omega) _
      have hsz8 : (((w5.alloc (.cells #[.slice ao5 (cut s 0).1.length cap5] 22)).alloc (.cells #[.string s] 9)).alloc (.cells #[.int .i64 0] 3)).heap.size = w5.heap.size + 3 := by simp
      have hBa : w.heap.size + 2 ≤ w5.heap.size := by omega
      clear ho5
      obtain ⟨W8, hW8⟩ : ∃ W8, ((w5.alloc (.cells #[.slice ao5 (cut s 0).1.length cap5] 22)).alloc (.cells #[.string s] 9)).alloc (.cells #[.int .i64 0] 3) = W8 := ⟨_, rfl⟩
      rw [hW8] at hT hsz8 ⊢
      clear hW8 hb5 hbsz hbw hBw
      have hle8 : w5.heap.size + 3 ≤ W8.heap.size := by omega
      clear hsz8
      generalize w5.heap.size = Ba at *
      refine wpIn_loop_rounds 3 ?_
      rw [roundsIn_succ]
      have cU := hT.u.cell
      gi_wp2
      have hT1 : TurnI w Ba (Ba + 1) (Ba + 1 + 1) early (.slice ao5 (cut s 0).1.length cap5) s 0 (W8.alloc (.cells #[.int .i64 0] 3)) :=
        turnI_own (Nat.le_refl _) [] _ _ none hT (World.grownBy_alloc _ _ _) (by intro r e; cases e)
      have n1 := Boxed.new W8 3 (.int .i64 0)
      have hsz1 : (W8.alloc (.cells #[.int .i64 0] 3)).heap.size = W8.heap.size + 1 := by simp
      obtain ⟨X1, hX1⟩ : ∃ X, W8.alloc (.cells #[.int .i64 0] 3) = X := ⟨_, rfl⟩
      rw [hX1] at hT1 n1 hsz1 ⊢
      obtain ⟨Bn1, hBn1⟩ : ∃ b, W8.heap.size = b := ⟨_, rfl⟩
      have hBnl1 : Ba + 3 ≤ Bn1 := by omega
      have hBul1 : Ba + 1 + 1 < Bn1 := by omega
      rw [hBn1] at n1 hsz1 ⊢
      have HBn1 := Lib.hid hBn1
      clear hX1 hT cU hBn1
      refine wpIn_rangeFunc_boxedB (q := 17) rfl h1 (gf := 27) (lb := #[.pointer (some ⟨Ba + 1, 0, none⟩)]) rfl trivial (enters_of Try.func27 (by kernel_rfl) rfl)
        (all_stops (n - 1) (by omega) (Ba + 1) s hs X1 hT1.t.cell) KpBox.trans (KpBox.putObj hT1.t.lt) (Below.refl _ _)
        (fun x => #[.int .i64 x.k, .int .i64 x.p, .string x.t]) 29
        (fun pre W => (TurnI w Ba (Ba + 1) (Ba + 1 + 1) early (.slice ao5 (cut s 0).1.length cap5) s 0 W ∧ X1.heap.size ≤ W.heap.size) ∧ Boxed W Bn1 3 (.int .i64 pre.length) ∧ Hid (pre <+: (cut s 0).1) ∧ True)
        (fun c pre W => (c = .ret ∧ ¬ pre <+: (cut s 0).1) ∨ (c = .exit 4 ∧ TurnI w Ba (Ba + 1) (Ba + 1 + 1) early (.slice ao5 (cut s 0).1.length cap5) s 0 W ∧ X1.heap.size ≤ W.heap.size ∧ ∃ c, Boxed W Bn1 3 (.int .i64 c)))
        (fun W => TurnI w Ba (Ba + 1) (Ba + 1 + 1) early (.slice ao5 (cut s 0).1.length cap5) s 0 W ∧ X1.heap.size ≤ W.heap.size ∧ ((0 : Int) = 1 → Boxed W Bn1 3 (.int .i64 (cut s 0).1.length)) ∧ (∃ c, Boxed W Bn1 3 (.int .i64 c)) ∧ True)
        ?hI1 ?hIx1 ?h01 (fun pre W h => h.1.2) ?hKa1 ?assign1 ?body1 ?done1 ?stop1 ?fin1
      case hI1 =>
        intro p X Y row h hg hr
        exact ⟨⟨turnI_own (by omega) p X Y row h.1.1 hg hr, Nat.le_trans h.1.2 hg.size⟩, boxed_keep h.2.1 hg (fun r e => (hr r e).2), h.2.2.1, trivial⟩
      case hIx1 =>
        intro c p X Y row h hg hr
        rcases h with h | ⟨h1, h2, h3, c', h4⟩
        · exact .inl h
        · exact .inr ⟨h1, turnI_own (by omega) p X Y row h2 hg hr, Nat.le_trans h3 hg.size, c', boxed_keep h4 hg (fun r e => (hr r e).2)⟩
      case h01 => exact ⟨⟨hT1, Nat.le_refl _⟩, n1, List.nil_prefix, trivial⟩
      case hKa1 => exact fun pre W o h => KpBox.of_below (below1 W o) h.1.1.t.lt
      case assign1 =>
        intro l x W K hK
        simp only [List.setIfInBounds_toArray, List.set_cons_succ, List.set_cons_zero, Mk.val] at hK ⊢
        gi_wp2
        exact hK
      case body1 =>
        intro l pre x Bx W hi hBx hX hlt
        obtain ⟨⟨hTi, hsi⟩, hN, hP, hkd⟩ := hi
        obtain ⟨m, hm⟩ : ∃ m, (cut s 0).1[pre.length]? = some m := ⟨_, List.getElem?_eq_getElem hlt⟩
        obtain ⟨b5, o5, c5, e5, l5, k5, y0, y1, y2⟩ := RdMk.at hTi.l hm
        simp only [Value.slice.injEq] at e5
        obtain ⟨rfl, -, rfl⟩ := e5
        have c0 : W.cell? ⟨Bx, 0, none⟩ = some (.int .i64 x.k) := by simp [World.cell?, hX]
        have c1 : W.cell? ⟨Bx, 1, none⟩ = some (.int .i64 x.p) := by simp [World.cell?, hX]
        have c2 : W.cell? ⟨Bx, 2, none⟩ = some (.string x.t) := by simp [World.cell?, hX]
        have cN := hN.cell
        have fN := hN.frozen
        have cA := hTi.a.cell
        have cU := hTi.u.cell
        have cE := hTi.e.cell
        have cR := hTi.r.cell
        have fR := hTi.r.frozen
        have HX := Lib.hid hX
        have HTi := Lib.hid hTi
        have HNn := Lib.hid hN
        have HM := Lib.hid hm
        have hge : decide ((cut s 0).1.length ≤ pre.length) = false := by simp; omega
        have hge2 : decide (((cut s 0).1.length : Int) ≤ pre.length) = false := by simp; omega
        have hmm := guard29
        have hne := neqMk x m
        clear hX hTi hN hm
        simp only [List.setIfInBounds_toArray, List.set_cons_succ, List.set_cons_zero, Mk.val]
        have hltk : pre.length < (cut s 0).1.length := hlt
        by_cases hxm : x = m
        · subst hxm
          gi_wp2
          refine wpIn_quietR rfl (by kernel_rfl) (by kernel_rfl) (by kernel_rfl) ?_
          repeat (gi_big_quiet_step (fail))
          refine wpQuietIn_nil ?_
          rintro _ ⟨nq, rfl⟩
          gi_wp2
          · refine ⟨(keeps_step W nq _ _).from _, .inr ⟨rfl, HTi.out.step HNn.out (by omega) (by omega) (by omega) (by omega) (by omega) (by omega) nq _, by simp [World.setCell]; exact hsi, _, Boxed.set (W := W.drewN nq) _ HNn.out⟩⟩
          · refine ⟨(keeps_step W nq _ _).from _, kp_step HNn.out (by omega) nq _, ⟨HTi.out.step HNn.out (by omega) (by omega) (by omega) (by omega) (by omega) (by omega) nq _, by simp [World.setCell]; exact hsi⟩, ?_, pre_step hP.out HM.out, trivial⟩
            rw [List.length_append]
            exact Boxed.set (W := W.drewN nq) _ HNn.out
        · gi_wp2
          refine wpIn_quietR rfl (by kernel_rfl) (by kernel_rfl) (by kernel_rfl) ?_
          repeat (gi_big_quiet_step (fail))
          refine wpQuietIn_nil ?_
          rintro _ ⟨nq, rfl⟩
          gi_wp2
          exact ⟨(keeps_step W nq _ _).from _, .inl ⟨rfl, pre_bad HM.out hxm⟩⟩
      case done1 =>
        rintro xs W rfl ⟨⟨a1, a2⟩, a3, _, a4⟩
        exact ⟨a1, a2, fun _ => a3, ⟨_, a3⟩, a4⟩
      case stop1 =>
        rintro c pre W ⟨hne, hpre⟩ h
        rcases h with ⟨rfl, hbad⟩ | ⟨rfl, h2, h3, c', h4⟩
        · exact absurd hpre hbad
        · exact ⟨rfl, h2, h3, fun h => by omega, ⟨c', h4⟩, trivial⟩
      case fin1 =>
      rintro D1 W1 hD1 ⟨hT1b, hsz1b, hNb1, ⟨cN1, hN1⟩, hkd1⟩ hK1
      have cU1 := hT1b.u.cell
      have cN1 := hN1.cell
      gi_wp2
      have hTb := hT1b.next 1
      have hK1y := (Below.heap_alloc W1 (.cells #[.int .i64 1] 3) D1 (Array.getElem?_eq_some_iff.1 hK1).1).trans hK1
      have hleb : Ba + 3 ≤ (W1.alloc (.cells #[.int .i64 1] 3)).heap.size := by simp; omega
      have hleb2 : W1.heap.size < (W1.alloc (.cells #[.int .i64 1] 3)).heap.size := by simp
      have hleb3 : Ba + 3 ≤ W1.heap.size := by omega
      obtain ⟨Wb, hWb⟩ : ∃ X, W1.alloc (.cells #[.int .i64 1] 3) = X := ⟨_, rfl⟩
      rw [hWb] at hTb hK1y hleb hleb2 ⊢
      clear hWb cN1 hK1 hT1b hNb1 hN1 cU1
      have hD1g : X1.heap.size ≤ D1 := hD1
      clear hsz1b
      generalize W1.heap.size = Bu2 at *
      rw [roundsIn_succ]
      have cU := hTb.u.cell
      gi_wp2
      have hT2 : TurnI w Ba (Ba + 1) (Bu2) early (.slice ao5 (cut s 0).1.length cap5) s 1 (Wb.alloc (.cells #[.int .i64 0] 3)) :=
        turnI_own (Nat.le_refl _) [] _ _ none hTb (World.grownBy_alloc _ _ _) (by intro r e; cases e)
      have n2 := Boxed.new Wb 3 (.int .i64 0)
      have hsz2 : (Wb.alloc (.cells #[.int .i64 0] 3)).heap.size = Wb.heap.size + 1 := by simp
      have hK1x : (Wb.alloc (.cells #[.int .i64 0] 3)).heap[D1]? = some (.deferred (some [])) := (Below.heap_alloc _ _ _ (Array.getElem?_eq_some_iff.1 hK1y).1).trans hK1y
      obtain ⟨X2, hX2⟩ : ∃ X, Wb.alloc (.cells #[.int .i64 0] 3) = X := ⟨_, rfl⟩
      rw [hX2] at hT2 n2 hsz2 hK1x ⊢
      obtain ⟨Bn2, hBn2⟩ : ∃ b, Wb.heap.size = b := ⟨_, rfl⟩
      have hBnl2 : Ba + 3 ≤ Bn2 := by omega
      have hBul2 : Bu2 < Bn2 := by omega
      have hD1l : D1 < X2.heap.size := (Array.getElem?_eq_some_iff.1 hK1x).1
      rw [hBn2] at n2 hsz2 ⊢
      have HBn2 := Lib.hid hBn2
      clear hX2 hTb cU hBn2
      refine wpIn_rangeFunc_boxedB (q := 17) rfl h1 (gf := 27) (lb := #[.pointer (some ⟨Ba + 1, 0, none⟩)]) rfl trivial (enters_of Try.func27 (by kernel_rfl) rfl)
        (all_stops (n - 1) (by omega) (Ba + 1) s hs X2 hT2.t.cell) KpBox.trans (KpBox.putObj hT2.t.lt) (Below.refl _ _)
        (fun x => #[.int .i64 x.k, .int .i64 x.p, .string x.t]) 29
        (fun pre W => (TurnI w Ba (Ba + 1) (Bu2) early (.slice ao5 (cut s 0).1.length cap5) s 1 W ∧ X2.heap.size ≤ W.heap.size) ∧ Boxed W Bn2 3 (.int .i64 pre.length) ∧ Hid (pre <+: (cut s 0).1) ∧ W.heap[D1]? = some (.deferred (some [])))
        (fun c pre W => c = .ret ∧ ¬ pre <+: (cut s 0).1)
        (fun W => TurnI w Ba (Ba + 1) (Bu2) early (.slice ao5 (cut s 0).1.length cap5) s 1 W ∧ X2.heap.size ≤ W.heap.size ∧ ((1 : Int) = 1 → Boxed W Bn2 3 (.int .i64 (cut s 0).1.length)) ∧ (∃ c, Boxed W Bn2 3 (.int .i64 c)) ∧ W.heap[D1]? = some (.deferred (some [])))
        ?hI2 ?hIx2 ?h02 (fun pre W h => h.1.2) ?hKa2 ?assign2 ?body2 ?done2 ?stop2 ?fin2
      case hI2 =>
        intro p X Y row h hg hr
        exact ⟨⟨turnI_own (by omega) p X Y row h.1.1 hg hr, Nat.le_trans h.1.2 hg.size⟩, boxed_keep h.2.1 hg (fun r e => (hr r e).2), h.2.2.1, (hg.block D1 (by have := h.1.2; omega) (fun e => by have := (hr D1 e.symm).1; omega)).trans h.2.2.2⟩
      case hIx2 =>
        intro c p X Y row h hg hr
        exact h
      case h02 => exact ⟨⟨hT2, Nat.le_refl _⟩, n2, List.nil_prefix, hK1x⟩
      case hKa2 => exact fun pre W o h => KpBox.of_below (below1 W o) h.1.1.t.lt
      case assign2 =>
        intro l x W K hK
        simp only [List.setIfInBounds_toArray, List.set_cons_succ, List.set_cons_zero, Mk.val] at hK ⊢
        gi_wp2
        exact hK
      case body2 =>
        intro l pre x Bx W hi hBx hX hlt
        obtain ⟨⟨hTi, hsi⟩, hN, hP, hkd⟩ := hi
        obtain ⟨m, hm⟩ : ∃ m, (cut s 0).1[pre.length]? = some m := ⟨_, List.getElem?_eq_getElem hlt⟩
        obtain ⟨b5, o5, c5, e5, l5, k5, y0, y1, y2⟩ := RdMk.at hTi.l hm
        simp only [Value.slice.injEq] at e5
        obtain ⟨rfl, -, rfl⟩ := e5
        have c0 : W.cell? ⟨Bx, 0, none⟩ = some (.int .i64 x.k) := by simp [World.cell?, hX]
        have c1 : W.cell? ⟨Bx, 1, none⟩ = some (.int .i64 x.p) := by simp [World.cell?, hX]
        have c2 : W.cell? ⟨Bx, 2, none⟩ = some (.string x.t) := by simp [World.cell?, hX]
        have cN := hN.cell
        have fN := hN.frozen
        have cA := hTi.a.cell
        have cU := hTi.u.cell
        have cE := hTi.e.cell
        have cR := hTi.r.cell
        have fR := hTi.r.frozen
        have HX := Lib.hid hX
        have HTi := Lib.hid hTi
        have HNn := Lib.hid hN
        have HM := Lib.hid hm
        have hge : decide ((cut s 0).1.length ≤ pre.length) = false := by simp; omega
        have hge2 : decide (((cut s 0).1.length : Int) ≤ pre.length) = false := by simp; omega
        have hmm := guard29
        have hne := neqMk x m
        clear hX hTi hN hm
        simp only [List.setIfInBounds_toArray, List.set_cons_succ, List.set_cons_zero, Mk.val]
        have hltk : pre.length < (cut s 0).1.length := hlt
        by_cases hxm : x = m
        · subst hxm
          gi_wp2
          refine wpIn_quietR rfl (by kernel_rfl) (by kernel_rfl) (by kernel_rfl) ?_
          repeat (gi_big_quiet_step (fail))
          refine wpQuietIn_nil ?_
          rintro _ ⟨nq, rfl⟩
          gi_wp2
          · refine ⟨(keeps_step W nq _ _).from _, kp_step HNn.out (by omega) nq _, ⟨HTi.out.step HNn.out (by omega) (by omega) (by omega) (by omega) (by omega) (by omega) nq _, by simp [World.setCell]; exact hsi⟩, ?_, pre_step hP.out HM.out, (keeps_step W nq _ _).same D1 _ hkd rfl⟩
            rw [List.length_append]
            exact Boxed.set (W := W.drewN nq) _ HNn.out
        · gi_wp2
          refine wpIn_quietR rfl (by kernel_rfl) (by kernel_rfl) (by kernel_rfl) ?_
          repeat (gi_big_quiet_step (fail))
          refine wpQuietIn_nil ?_
          rintro _ ⟨nq, rfl⟩
          gi_wp2
          exact ⟨(keeps_step W nq _ _).from _, ⟨rfl, pre_bad HM.out hxm⟩⟩
      case done2 =>
        rintro xs W rfl ⟨⟨a1, a2⟩, a3, _, a4⟩
        exact ⟨a1, a2, fun _ => a3, ⟨_, a3⟩, a4⟩
      case stop2 =>
        rintro c pre W ⟨hne, hpre⟩ ⟨rfl, hbad⟩
        exact absurd hpre hbad
      case fin2 =>
      rintro D2 W2 hD2 ⟨hT2b, hsz2b, hNb2, ⟨cN2, hN2⟩, hkd2⟩ hK2
      have cU1 := hT2b.u.cell
      have cN1 := (hNb2 rfl).cell
      have cA := hT2b.a.cell
      have hnn : (((cut s 0).1.length : Int) != (cut s 0).1.length) = false := by simp
      gi_wp2
      rw [roundsIn_succ]
      gi_wp2
      refine ⟨trivial, ?_⟩
      refine (callsIn_wide.2 (awake_any _)).mono ?_
      rintro e w9 ⟨rfl, hb9⟩
      have hW2 := hT2b.b.size
      have hT9 := hT2b.next 2
      have r9 : Boxed w9 (w.heap.size + 1) 4 (.bool false) := (hb9.block _ (by simp; omega)).trans hT9.r
      have hbel9 : Below w.heap.size w w9 := hT9.b.trans (hb9.mono hT9.b.size)
      have k1 : w9.heap[D1]? = some (.deferred (some [])) := (hb9.block _ (by simp; omega)).trans ((Below.heap_alloc _ _ _ (by omega)).trans hkd2)
      have k2 : w9.heap[D2]? = some (.deferred (some [])) := (hb9.block _ (by have := (Array.getElem?_eq_some_iff.1 hK2).1; simp; omega)).trans ((Below.heap_alloc _ _ _ (Array.getElem?_eq_some_iff.1 hK2).1).trans hK2)
      have cR9 := r9.cell
      have fR9 := r9.frozen
      clear hT9 hb9 hK2 hkd2 hT2b
      gi_wp2
      have s1 := (KeepsOthers.setCell w9 ⟨w.heap.size + 1, 0, none⟩ (.bool true)).same D1 _ k1 rfl
      have s2 := (KeepsOthers.setCell w9 ⟨w.heap.size + 1, 0, none⟩ (.bool true)).same D2 _ k2 rfl
      have r10 := Boxed.set (.bool true) r9
      have hbel10 : Below w.heap.size w (w9.setCell ⟨w.heap.size + 1, 0, none⟩ (.bool true)) := hbel9.setCell (p := ⟨w.heap.size + 1, 0, none⟩) (by simp) _
      generalize w9.setCell ⟨w.heap.size + 1, 0, none⟩ (.bool true) = w10 at *
      have s3 : (w10.putObj D2 (.deferred none)).heap[D1]? = some (.deferred (some [])) := (World.putObj_heap_other (by omega)).trans s1
      have r11 : Boxed (w10.putObj D2 (.deferred none)) (w.heap.size + 1) 4 (.bool true) := boxed_keep r10 (grownBy_putObj' _ _ _) (fun r e => by cases e; exact ⟨_, s2, rfl⟩)
      have r12 : Boxed ((w10.putObj D2 (.deferred none)).putObj D1 (.deferred none)) (w.heap.size + 1) 4 (.bool true) := boxed_keep r11 (grownBy_putObj' _ _ _) (fun r e => by cases e; exact ⟨_, s3, rfl⟩)
      have b11 := hbel10.trans (belowK_b (w := w) (Nat.le_refl _) w10 D2 _ (.deferred none) (by omega) s2 rfl rfl)
      have b12 := b11.trans (belowK_b (w := w) (Nat.le_refl _) _ D1 _ (.deferred none) (by omega) s3 rfl rfl)
      refine ⟨by simp, .inl ⟨_, _, rfl, run_takeDeferred s2, ?_⟩⟩
      refine ⟨by simp, .inl ⟨_, _, rfl, run_takeDeferred s3, ?_⟩⟩
      refine ⟨.bool true, ?_, rfl, b12⟩
      have c12 := r12.cell
      simp [results, Try.f3, go_sem, c12]

theorem marksScan_any (s : ByteArray) (early : Int) (hs : s.size ≤ 16777216) (w : World) :
    Calls Try.prog 3 #[.string s, .int .i64 early] w fun e w' => e = .returned (.bool true) ∧ Below w.heap.size w w' :=
  callsIn_wide.1 (marksScan_in 10 (by omega) s early hs w)
end Go.Proofs.Ytjnccfgnakggkaa
