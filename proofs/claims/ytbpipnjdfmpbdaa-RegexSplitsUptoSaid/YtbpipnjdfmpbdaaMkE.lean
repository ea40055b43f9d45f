import Derived.Test.YtbpipnjdfmpbdaaMkD
namespace Go.Proofs.Ytbpipnjdfmpbdaa
open Go.RowKit Go.Shelf
attribute [local go_sem] Oper.semAt_some

/-! ### plain: where the last mark ends -/
def lastEnd : Nat → List Mk → Nat
  | k, [] => k
  | _, m :: r => lastEnd (m.p + m.t.size) r
def endI (l : List Mk) : Int := l.foldl (fun _ m => wrap64 ((m.p : Int) + m.t.size)) 0
theorem endI_snoc (l : List Mk) (m : Mk) : endI (l ++ [m]) = wrap64 ((m.p : Int) + m.t.size) := by
  unfold endI; rw [List.foldl_append, List.foldl_cons, List.foldl_nil]
theorem wrap_sum (m : Mk) (hm : m.p + m.t.size ≤ 16777216) : wrap64 ((m.p : Int) + m.t.size) = ((m.p + m.t.size : Nat) : Int) := by
  rw [wrap64_small _ (by omega) (by omega)]; omega
theorem endI_from (l : List Mk) (h : ∀ m ∈ l, m.p + m.t.size ≤ 16777216) : ∀ (k : Nat) (a : Int), a = k → l.foldl (fun _ m => wrap64 ((m.p : Int) + m.t.size)) a = (lastEnd k l : Nat) := by
  induction l with
  | nil => intro k a ha; exact ha
  | cons m r ih =>
    intro k a ha
    have hm := wrap_sum m (h m (List.mem_cons_self ..))
    exact ih (fun x hx => h x (List.mem_cons_of_mem _ hx)) _ _ hm
theorem cut_last (s : ByteArray) : ∀ (n k : Nat), k ≤ s.size → s.size - k ≤ n →
    lastEnd k (cut s k).1 ≤ s.size ∧ (nextM s (lastEnd k (cut s k).1)).k = 0 ∧ (nextM s (lastEnd k (cut s k).1)).p = (cut s k).2 ∧ ∀ m ∈ (cut s k).1, m.p + m.t.size ≤ s.size := by
  intro n
  induction n with
  | zero =>
    intro k h hn
    by_cases hz : (nextM s k).k = 0
    · rw [cut_none s k h hz]; simp [lastEnd, h, hz]
    · have := nextM_size s k hz; omega
  | succ n ih =>
    intro k h hn
    by_cases hz : (nextM s k).k = 0
    · rw [cut_none s k h hz]; simp [lastEnd, h, hz]
    · have h1 := nextM_size s k hz
      have h2 := ih ((nextM s k).p + (nextM s k).t.size) (by omega) (by omega)
      rw [cut_some s k h hz]
      refine ⟨h2.1, h2.2.1, h2.2.2.1, ?_⟩
      intro m hm
      rcases List.mem_cons.1 hm with rfl | hm
      · exact h1.2.1
      · exact h2.2.2.2 m hm
def scanM (s : ByteArray) : List Mk × Int × Int := if (cut s 0).2 < s.size then ([], (cut s 0).2, 160) else ((cut s 0).1, 0, 0)

/-! ### Scan -/
def ScanI (s : ByteArray) (B : Nat) (pre : List Mk) (W : World) : Prop :=
  (∃ v, Boxed W B 72 v ∧ W.ownsRow B 98 3 v pre.length (flatMk pre) ∧ (pre.length = 0 → v = .slice none 0 0)) ∧ Boxed W (B + 1) 3 (.int .i64 (endI pre)) ∧ Boxed W (B + 1 + 1) 9 (.string s)
theorem scanI_own (s : ByteArray) (B : Nat) : Own (ScanI s B) := by
  intro p X Y row h hg hr
  exact ⟨holdsRow_own B B 72 98 3 (fun pre : List Mk => pre.length) flatMk (fun pre v => pre.length = 0 → v = .slice none 0 0) p X Y row h.1 hg hr,
    boxed_own (B + 1) 3 (fun pre : List Mk => .int .i64 (endI pre)) p X Y row h.2.1 hg hr, boxed_own (B + 1 + 1) 9 (fun _ : List Mk => .string s) p X Y row h.2.2 hg hr⟩
theorem scanI_alloc {s : ByteArray} {B : Nat} {pre : List Mk} {W : World} (h : ScanI s B pre W) (o : Obj) : ScanI s B pre (W.alloc o) :=
  scanI_own s B pre W _ none h (World.grownBy_alloc W o none) (by intro r e; cases e)

theorem scan_facts {B Bx : Nat} {s : ByteArray} {x : Mk} {c : Int} {W w1 : World} {v : Value} {n : Nat} {xs : List Value} {tmp : Obj}
    (hv : Boxed W B 72 v) (hrow : W.ownsRow B 98 3 v n xs) (hat : Boxed W (B + 1) 3 (.int .i64 c)) (hT : Boxed W (B + 1 + 1) 9 (.string s))
    (hX : W.heap[Bx]? = some (.cells #[.int .i64 x.k, .int .i64 x.p, .string x.t] 98 (0, 0)))
    (hgrow : (W.alloc tmp).grownBy w1 v.ownBlock) (hones : KeepsOnes 98 3 (W.alloc tmp) w1) :
    Boxed w1 B 72 v ∧ Boxed w1 (B + 1) 3 (.int .i64 c) ∧ Boxed w1 (B + 1 + 1) 9 (.string s) ∧ w1.heap[Bx]? = some (.cells #[.int .i64 x.k, .int .i64 x.p, .string x.t] 98 (0, 0)) := by
  refine ⟨(hv.alloc _).kept hgrow (hv.not_row (by decide) hrow), (hat.alloc _).kept hgrow (hat.not_row (by decide) hrow), (hT.alloc _).kept hgrow (hT.not_row (by decide) hrow), ?_⟩
  have h := (Below.heap_alloc W tmp Bx (Array.getElem?_eq_some_iff.1 hX).1).trans hX
  exact (hones _ _ _ h rfl).trans h

theorem scan_step {B : Nat} {s : ByteArray} {pre : List Mk} {x : Mk} {c d : Int} {w0 W w1 : World} {v v' : Value} {tmp : Obj}
    (hbel : Below B w0 W) (hB : B ≤ W.heap.size) (hrow : W.ownsRow B 98 3 v pre.length (flatMk pre))
    (bL : Boxed w1 B 72 v) (bA : Boxed w1 (B + 1) 3 (.int .i64 c)) (hT : Boxed W (B + 1 + 1) 9 (.string s)) (bT : Boxed w1 (B + 1 + 1) 9 (.string s))
    (hown : w1.ownsRow B 98 3 v' (pre.length + 1) (flatMk pre ++ [.int .i64 x.k, .int .i64 x.p, .string x.t]))
    (hgrow : (W.alloc tmp).grownBy w1 v.ownBlock) (hones : KeepsOnes 98 3 (W.alloc tmp) w1) (hd : d = endI (pre ++ [x])) :
    KeepsOthers W ((w1.setCell ⟨B, 0, none⟩ v').setCell ⟨B + 1, 0, none⟩ (.int .i64 d)) ∧ KpBox (B + 1 + 1) W ((w1.setCell ⟨B, 0, none⟩ v').setCell ⟨B + 1, 0, none⟩ (.int .i64 d)) ∧
    ScanI s B (pre ++ [x]) ((w1.setCell ⟨B, 0, none⟩ v').setCell ⟨B + 1, 0, none⟩ (.int .i64 d)) ∧ Below B w0 ((w1.setCell ⟨B, 0, none⟩ v').setCell ⟨B + 1, 0, none⟩ (.int .i64 d)) := by
  have hrowlt := hrow.lt
  have k1 : KeepsOthers (W.alloc tmp) w1 := KeepsOthers.of_grownBy hgrow fun j o ej hj => by
    rcases (hrow.alloc tmp).2 with ⟨rfl, _⟩ | ⟨g, cap, cur, rfl, _, hgb, _⟩
    · simp [Value.ownBlock] at ej
    · obtain rfl : g = j := by simpa [Value.ownBlock] using ej
      rw [hgb] at hj; cases hj; rfl
  have b1 : Below B w0 w1 := (hbel.alloc hB tmp).grown hgrow (by simp; omega) (fun k hk => (hrowlt k hk).1)
  have bA' : Boxed (w1.setCell ⟨B, 0, none⟩ v') (B + 1) 3 (.int .i64 c) := bA.other (by omega) v'
  have bL' : Boxed (w1.setCell ⟨B, 0, none⟩ v') B 72 v' := bL.set v'
  have bT' : Boxed (w1.setCell ⟨B, 0, none⟩ v') (B + 1 + 1) 9 (.string s) := bT.other (by omega) v'
  have bT2 := bT'.other (B' := B + 1) (by omega) (.int .i64 d)
  refine ⟨(((KeepsOthers.alloc W tmp).trans k1).trans (KeepsOthers.setCell _ _ _)).trans (KeepsOthers.setCell _ _ _), ⟨?_, ?_, ?_⟩, ⟨⟨v', bL'.other (by omega) _, ?_, ?_⟩, ?_, bT2⟩, (b1.setCell (p := ⟨B, 0, none⟩) (Nat.le_refl _) _).setCell (p := ⟨B + 1, 0, none⟩) (by simp) _⟩
  · have := hgrow.size
    simp at this
    simp only [World.setCell, Array.size_modify]; omega
  · rw [show _ = _ from bT2, show _ = _ from hT]
  · exact (((KeepsOnes.alloc _ _ W tmp).trans hones).trans (KeepsOnes.setCell bL (by decide) 0 v')).trans (KeepsOnes.setCell bA' (by decide) 0 _)
  · have h1 := hown.kept (grownBy_setCell' w1 B v') (.inr (bL.not_row (by decide) hown).symm)
    have h2 := h1.kept (grownBy_setCell' _ (B + 1) (.int .i64 d)) (.inr (bA'.not_row (by decide) h1).symm)
    have h3 := OwnMk.snoc (l := pre) (m := x) h2
    exact h3
  · intro h; simp at h
  · rw [← hd]; exact bA'.set _

set_option maxRecDepth 100000 in
set_option maxHeartbeats 1600000 in
theorem mScan_in (n : Nat) (hn : 6 ≤ n) (s : ByteArray) (hs : s.size ≤ 16777216) (w : World) :
    CallsIn Fence.wide n Try.prog 46 #[.string s] w fun e w' => ∃ v, e = .returned (.tuple #[v, .int .i64 (scanM s).2.1, .int .i64 (scanM s).2.2]) ∧ OwnMk w' w.heap.size v (scanM s).1 ∧ Below w.heap.size w w' := by
  have h1 : 1 ≤ n := by omega
  refine callsIn_of_wp_marks Try.func46 rfl trivial ?_ rfl
  simp only [Try.ntmps46, List.size_toArray, List.length_cons, List.length_nil, Nat.reduceAdd, Nat.reduceSub, Array.replicate_succ, Array.replicate_zero, List.push_toArray, List.append_toArray, List.nil_append, List.cons_append]
  gi_wp2_with (refine ⟨trivial, ?_⟩; gi_at_call 72; refine (all_in (n - 1) s _).mono ?_; rintro e w' ⟨rfl, rfl⟩)
  have bL := ((Boxed.new w 72 (.slice none 0 0)).alloc (.cells #[.int .i64 0] 3)).alloc (.cells #[.string s] 9)
  have bA := (Boxed.new (w.alloc (.cells #[.slice none 0 0] 72)) 3 (.int .i64 0)).alloc (.cells #[.string s] 9)
  have bT := Boxed.new ((w.alloc (.cells #[.slice none 0 0] 72)).alloc (.cells #[.int .i64 0] 3)) 9 (.string s)
  simp only [World.size_alloc] at bA bT
  have hB0 : Below w.heap.size w (((w.alloc (.cells #[.slice none 0 0] 72)).alloc (.cells #[.int .i64 0] 3)).alloc (.cells #[.string s] 9)) := below3 _ _ _ _
  have hsz : (((w.alloc (.cells #[.slice none 0 0] 72)).alloc (.cells #[.int .i64 0] 3)).alloc (.cells #[.string s] 9)).heap.size = w.heap.size + 3 := by simp
  obtain ⟨W0, hW0⟩ : ∃ W0, ((w.alloc (.cells #[.slice none 0 0] 72)).alloc (.cells #[.int .i64 0] 3)).alloc (.cells #[.string s] 9) = W0 := ⟨_, rfl⟩
  rw [hW0] at bL bA bT hB0 hsz ⊢
  clear hW0
  refine wpIn_rangeFunc_ownH rfl h1 (gf := 95) (lb := #[.pointer (some ⟨w.heap.size + 1 + 1, 0, none⟩)]) rfl trivial (enters_of Try.func95 (by kernel_rfl) rfl)
    (all_stops (n - 1) (by omega) (w.heap.size + 1 + 1) s hs W0 bT.cell) KpBox.trans (KpBox.putObj bT.lt) (Below.refl _ _) (fun _ => rfl)
    (fun pre W => ScanI s w.heap.size pre W ∧ Below w.heap.size w W)
    (fun _ _ _ => False) ?hI (fun _ _ _ _ _ hs _ _ => hs) ?h0
    (fun x a' W => ∃ Bx, w.heap.size + 3 ≤ Bx ∧ W.heap[Bx]? = some (.cells #[.int .i64 x.k, .int .i64 x.p, .string x.t] 98 (0, 0)) ∧ a' = { tmps := #[.string s, undef, .slice none 0 0, .int .i64 0, .int .i64 0, .pointer (some ⟨w.heap.size, 0, none⟩), .pointer (some ⟨w.heap.size + 1, 0, none⟩), .pointer (some ⟨Bx, 0, none⟩), undef, .string s, .func (.func 95) #[] #[.pointer (some ⟨w.heap.size + 1 + 1, 0, none⟩)], .agg #[.int .i64 x.k, .int .i64 x.p, .string x.t], undef, undef, undef, undef, undef, undef, undef, undef, undef, undef, undef, undef, undef, undef, undef, undef, undef, undef, undef, undef, undef], defers := [] }) ?hAx ?assign ?body ?done ?stop
  case hI => exact OwnFrom.and ((scanI_own _ _).from _) (ownFrom_below (Nat.le_refl _) (by omega))
  case hAx =>
    intro x a' _ X Y row h hg hr
    obtain ⟨Bx, h1, h2, h3⟩ := h
    refine ⟨Bx, h1, (hg.block Bx (Array.getElem?_eq_some_iff.1 h2).1 ?_).trans h2, h3⟩
    intro e
    obtain ⟨_, o, ho, hc⟩ := hr Bx e.symm
    rw [h2] at ho; cases ho; simp [Obj.isCells] at hc
  case h0 => exact ⟨⟨⟨_, bL, World.ownsRow_nil _ _ _ _, fun _ => rfl⟩, bA, bT⟩, hB0⟩
  case assign =>
    intro l pre x W K hi hK
    dsimp only [Mk.val]
    gi_wp2
    have hlt := hi.1.2.2.lt
    exact hK _ _ ((KeepsOthers.alloc W _).from _) (KpBox.of_below (below1 W _) hlt) ⟨scanI_alloc hi.1 _, hi.2.alloc (hi.2.size) _⟩ ⟨W.heap.size, by omega, World.alloc_heap_new W _, rfl⟩
  case body =>
    rintro l pre x a' W hl ⟨r, hr⟩ ⟨⟨⟨v, hv, hrow, hnil⟩, hat, hT⟩, hbel⟩ ⟨Bx, hBx, hX, rfl⟩ hlt
    have cL := hv.cell
    have c0 : W.cell? ⟨Bx, 0, none⟩ = some (.int .i64 x.k) := by simp [World.cell?, hX]
    have c1 : W.cell? ⟨Bx, 1, none⟩ = some (.int .i64 x.p) := by simp [World.cell?, hX]
    have c2 : W.cell? ⟨Bx, 2, none⟩ = some (.string x.t) := by simp [World.cell?, hX]
    have hsz2 := hbel.size
    have hl2 : pre.length < 16777217 := by have := cut_len s s.size 0 (by omega) (by omega); omega
    have HV := Lib.hid hv
    have HAT := Lib.hid hat
    have HTT := Lib.hid hT
    have HX := Lib.hid hX
    clear hv hat hT hX
    gi_wp2_with (gi_at_builtin; go_must (refine wpListIn_app1 elemMk (by decide) rfl _ _ rfl hrow hnil rfl (news := [.int .i64 x.k, .int .i64 x.p, .string x.t]) rfl rfl (by intro u hu; simp at hu; rcases hu with rfl | rfl | rfl <;> rfl) (by omega) (by decide) hbel.size ?_); intro v' w1 hown1 hgrow1 hones1 hshape; obtain ⟨g', cap', rfl⟩ := hshape; obtain ⟨b1, b2, b3, b4⟩ := scan_facts HV.out hrow HAT.out HTT.out HX.out hgrow1 hones1; have d1 := b1.cell; have d2 := b1.frozen; have d3 := b2.cell; have d4 := b2.frozen; have d5 : w1.cell? ⟨Bx, 1, none⟩ = some (.int .i64 x.p) := (by simp [World.cell?, b4]); have d6 : w1.cell? ⟨Bx, 2, none⟩ = some (.string x.t) := (by simp [World.cell?, b4]); have B1 := Lib.hid b1; have B2 := Lib.hid b2; have B3 := Lib.hid b3; clear b1 b2 b3 b4)
    obtain ⟨k1, k2, k3, k4⟩ := scan_step hbel hbel.size hrow B1.out B2.out HTT.out B3.out hown1 hgrow1 hones1 (endI_snoc pre x).symm
    exact ⟨k1.from _, k2, k3, k4⟩
  case stop =>
    rintro D c pre W _ _ h _
    exact h.elim
  case done =>
    rintro D xs W hD rfl ⟨⟨⟨v, hv, hrow, hnil⟩, hat, hT⟩, hbel⟩ hK
    have cL := hv.cell
    have cA := hat.cell
    obtain ⟨q1, q2, q3, q4⟩ := cut_last s s.size 0 (by omega) (by omega)
    have he : endI (cut s 0).1 = (lastEnd 0 (cut s 0).1 : Nat) := endI_from _ (fun m hm => by have := q4 m hm; omega) 0 0 rfl
    rw [he] at cA
    have HN : ∀ w, Calls Try.prog 73 #[.string s, .int .i64 (lastEnd 0 (cut s 0).1 : Nat)] w fun e w' => e = .returned (.agg #[.int .i64 0, .int .i64 (cut s 0).2, .string (nextM s (lastEnd 0 (cut s 0).1)).t]) ∧ Below w.heap.size w w' := by
      intro w
      have := next_any s (lastEnd 0 (cut s 0).1) w (by unfold maxLen; omega) q1
      rw [Mk.val, q2, q3] at this
      exact this
    have HK := Lib.hid hK
    have HV := Lib.hid hv
    have HN' := Lib.hid HN
    clear hv hat hT hK HN q2 q3 he
    generalize lastEnd 0 (cut s 0).1 = le at *
    generalize (nextM s le).t = nt at *
    have hce := cut_len s s.size 0 (by omega) (by omega)
    have hDlt : D < W.heap.size := (Array.getElem?_eq_some_iff.1 HK.out).1
    have hbsz := hbel.size
    have hVlt := HV.out.lt
    by_cases hc : (cut s 0).2 < s.size
    · have HE : Hid (scanM s = ([], (((cut s 0).2 : Nat) : Int), 160)) := by unfold Hid scanM; rw [if_pos hc]
      gi_wp2_with (refine ⟨trivial, ?_⟩; gi_at_call 73; refine (callsIn_wide.2 (HN'.out _)).mono ?_; rintro e w2 ⟨rfl, hb2⟩)
      gi_region
      gi_wp2
      have hK2 : (w2.alloc (.cells #[.int .i64 0, .int .i64 (cut s 0).2, .string nt] 98)).drew.heap[D]? = some (.deferred (some [])) := by
        have hsz2 := hb2.size
        exact (Below.heap_alloc w2 _ D (by omega)).trans ((hb2.block D hDlt).trans HK.out)
      have hbel2 : Below w.heap.size w (w2.alloc (.cells #[.int .i64 0, .int .i64 (cut s 0).2, .string nt] 98)).drew :=
        ((hbel.trans (hb2.mono hbsz)).alloc (by have := hb2.size; omega) _).drew
      refine ⟨by simp, .inl ⟨_, _, rfl, run_takeDeferred hK2, ?_⟩⟩
      refine ⟨_, results_tmp3 rfl _ _ _, .slice none 0 0, by rw [HE.out]; rfl, by rw [HE.out]; exact World.ownsRow_nil _ _ _ _, hbel2.trans (belowK_b (w := w) (Nat.le_refl _) _ D _ _ (by omega) hK2 rfl rfl)⟩
    · have HE : Hid (scanM s = ((cut s 0).1, 0, 0)) := by unfold Hid scanM; rw [if_neg hc]
      gi_wp2_with (refine ⟨trivial, ?_⟩; gi_at_call 73; refine (callsIn_wide.2 (HN'.out _)).mono ?_; rintro e w2 ⟨rfl, hb2⟩; have cL2 := (hb2.cell (p := ⟨w.heap.size, 0, none⟩) hVlt).trans cL; have hsz2 := hb2.size; have hlt2 : w.heap.size < w2.heap.size := (by omega))
      have hK2 : (w2.alloc (.cells #[.int .i64 0, .int .i64 (cut s 0).2, .string nt] 98)).heap[D]? = some (.deferred (some [])) :=
        (Below.heap_alloc w2 _ D (by omega)).trans ((hb2.block D hDlt).trans HK.out)
      have hbel2 : Below w.heap.size w (w2.alloc (.cells #[.int .i64 0, .int .i64 (cut s 0).2, .string nt] 98)) :=
        (hbel.trans (hb2.mono hbsz)).alloc (by omega) _
      have hrow2 : w2.ownsRow w.heap.size 98 3 v (cut s 0).1.length (flatMk (cut s 0).1) := hrow.kept (grown_of_below hb2) (by rcases hrow.2 with ⟨rfl, _⟩ | ⟨g, cap, cur, rfl, _⟩ <;> simp [Value.ownBlock])
      refine ⟨by simp, .inl ⟨_, _, rfl, run_takeDeferred hK2, ?_⟩⟩
      refine ⟨_, results_tmp3 rfl _ _ _, v, by rw [HE.out]; rfl, by rw [HE.out]; exact ownsRow_putObj (hrow2.alloc _) _ hK2 rfl, hbel2.trans (belowK_b (w := w) (Nat.le_refl _) _ D _ _ (by omega) hK2 rfl rfl)⟩

theorem scan_any (s : ByteArray) (hs : s.size ≤ 16777216) (w : World) :
    Calls Try.prog 46 #[.string s] w fun e w' => ∃ v, e = .returned (.tuple #[v, .int .i64 (scanM s).2.1, .int .i64 (scanM s).2.2]) ∧ OwnMk w' w.heap.size v (scanM s).1 ∧ Below w.heap.size w w' :=
  callsIn_wide.1 (mScan_in 10 (by omega) s hs w)
end Go.Proofs.Ytbpipnjdfmpbdaa
