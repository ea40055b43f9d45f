import Derived.Test.YtbpipnjdfmpbdaaRtM
import Derived.Test.YtbpipnjdfmpbdaaLibIn
import Derived.Test.YtbpipnjdfmpbdaaRtF
import Derived.Shelf.SlicesE.Clone
import Derived.Test.YtbpipnjdfmpbdaaRtJ
namespace Go.Proofs.Ytbpipnjdfmpbdaa
open Go.RowKit Go.Shelf
attribute [local go_sem] Oper.semAt_some

/-! ### slices.Clone -/
def cloRen : Go.Shelf.Ren := ⟨fun | 41 => 51 | n => n, fun | 4 => 4 | 22 => 22 | 23 => 39 | n => n, fun | n => n⟩
theorem cloLays : Go.Proofs.SlLaysE0.n41 Try.prog cloRen := {
  mixed := by kernel_rfl
  f41 := ⟨"slices.Clone[[]byway/api.Node,byway/api.Node]", by kernel_rfl, Try.func51.trans (congrArg some (by kernel_rfl))⟩
  t4 := Try.underlying4
  a4 := Try.isAgg4
  z4 := Try.sizeOf4
  v4 := Try.zeroValue4
  t22 := Try.underlying22
  a22 := Try.isAgg22
  z22 := Try.sizeOf22
  v22 := Try.zeroValue22
}
theorem xClone_any (v : Value) (N : List Nd) (w : World) (h : RdNd w v N) (hl : N.length ≤ 4398046511104) :
    Calls Try.prog 51 #[v] w fun e w' => ∃ v', e = .returned v' ∧ OwnNd w' w.heap.size v' N ∧ Below w.heap.size w w' := by
  by_cases h0 : N.length = 0
  · obtain ⟨_, ao, cap, rfl, -⟩ := h
    obtain rfl : N = [] := List.length_eq_zero_iff.1 h0
    have hq : ∀ (w : World) (a : Option Addr) (n c n' c' : Nat), (binOp .eql 22 (.slice a n c) (.slice none n' c')).run Try.prog w = .ok (.bool a.isNone) w := fun w a n c n' c' => Lib.run_eql_slice_nil w _ _ a n c n' c' Try.underlying22
    cases ao with
    | none =>
      go_enter Try.func51, Try.ntmps51
      go_wp2_with fail
      go_ret
      exact ⟨_, rfl, World.ownsRow_nil _ _ _ _, Below.refl _ _⟩
    | some ad =>
      go_enter Try.func51, Try.ntmps51
      go_wp2_with (at_builtin; go_must (refine wpList_app0 elemNd rfl _ _ rfl rfl (Nat.le_refl _) rfl ?_))
      go_ret
      refine ⟨_, rfl, ⟨rfl, .inr ⟨w.heap.size, 0, #[], rfl, Nat.le_refl _, World.alloc_heap_new w _, Nat.le_refl _, by unfold maxLen; omega, rfl, rfl⟩⟩, below1 _ _⟩
  · obtain ⟨b, off, cap, rfl, hc, hat⟩ := NdAt.of_rd h (by omega)
    obtain ⟨i, z, ht, hi, hz, hz1, hz2, hz3, hz4⟩ := elemNd.ex
    have hsrc : ∀ j u, (flatNd N)[j]? = some u → w.cell? ⟨b, off + j, none⟩ = some u := by
      obtain ⟨_, ao2, cap2, e2, _, _, h5⟩ := id h
      simp only [Value.slice.injEq] at e2
      obtain ⟨rfl, -, -⟩ := e2
      rcases h5 with h5 | ⟨b2, off2, h6, h7, h8⟩
      · omega
      · simp only [Option.some.injEq, Addr.mk.injEq] at h6
        obtain ⟨rfl, rfl, -⟩ := h6
        exact h8
    refine (AnyE.slices_Clone cloLays i z 3 32 hi hz hz1 hz2 hz3 hz4 Try.sizeOf39 b off N.length cap (flatNd N) w (flatNd_len _) (by unfold maxLen; omega) (by omega) hsrc (flatNd_one _)).mono ?_
    rintro e w' ⟨v', rfl, ho, _, hb⟩
    exact ⟨v', rfl, ho, hb⟩

/-! ### plain: the occurrences -/
def nmF : List Nd → Nat → List (Nat × ByteArray)
  | [], _ => []
  | x :: l, i => if x.k = 2 ∨ x.k = 3 then (i, x.n) :: nmF l (i + 1) else nmF l (i + 1)
theorem nmF_len (l : List Nd) : ∀ i, (nmF l i).length ≤ l.length := by
  induction l with
  | nil => intro i; exact Nat.le_refl _
  | cons x l ih => intro i; unfold nmF; have := ih (i + 1); split <;> simp <;> omega
/-- the row of the clone lies as it lay -/
structure KpRow (v : Value) (W W' : World) : Prop where
  size : W.heap.size ≤ W'.heap.size
  row : ∀ g, v.ownBlock = some g → W'.heap[g]? = W.heap[g]?
theorem KpRow.trans {v : Value} {A B C : World} (h : KpRow v A B) (k : KpRow v B C) : KpRow v A C := ⟨Nat.le_trans h.size k.size, fun g hg => (k.row g hg).trans (h.row g hg)⟩
theorem KpRow.of_below {v : Value} {A B : World} (h : Below A.heap.size A B) (hv : ∀ g, v.ownBlock = some g → g < A.heap.size) : KpRow v A B := ⟨h.size, fun g hg => h.block g (hv g hg)⟩
theorem KpRow.own {v : Value} {A B : World} (h : KpRow v A B) {C : Nat} {N : List Nd} (ho : OwnNd A C v N) : OwnNd B C v N := by
  refine ⟨ho.1, ?_⟩
  rcases ho.2 with h1 | ⟨g, cap, cur, h2, h3, h4, h5⟩
  · exact .inl h1
  · exact .inr ⟨g, cap, cur, h2, h3, (h.row g (by rw [h2]; rfl)).trans h4, h5⟩

set_option maxRecDepth 100000 in
set_option maxHeartbeats 1600000 in
theorem names1_in (n : Nat) (hn : 3 ≤ n) (l Bn C : Nat) (v : Value) (N : List Nd) (hs : N.length ≤ 4398046511104) (J Jx : List (Nat × ByteArray) → World → Prop) (B0 : Nat)
    (hY : ∀ pre x W, J pre W → pre.length < (nmF N 0).length → YieldAt Fence.wide (n - 1) Try.prog l #[.int .i64 (x.1 : Nat), .string x.2] W fun e W' =>
      (e = .returned (.bool true) ∧ J (pre ++ [x]) W' ∧ KpRow v W W') ∨ (e = .returned (.bool false) ∧ Jx (pre ++ [x]) W'))
    (hJ : AbidesFrom B0 J) (W : World) (_hB0 : B0 ≤ W.heap.size) (hBn : W.cell? ⟨Bn, 0, none⟩ = some v) (hv : OwnNd W C v N) (h0 : J [] W) :
    CallsIn Fence.wide n Try.prog 52 #[.func (.yield l) #[] #[], .pointer (some ⟨Bn, 0, none⟩)] W fun e W' => (∃ v, e = .returned v) ∧
      ((∃ ys, ys = nmF N 0 ∧ J ys W') ∨ (∃ pre, (pre ≠ [] ∧ pre <+: nmF N 0) ∧ Jx pre W')) := by
  have HV := Lib.hid hv
  obtain ⟨_, ao, cap, rfl, -⟩ := Rd.of_owns hv
  clear hv
  refine callsIn_of_wp Try.func52 rfl trivial ?_ rfl
  simp only [Try.ntmps52, List.size_toArray, List.length_cons, List.length_nil, Nat.reduceAdd, Nat.reduceSub, Array.replicate_succ, Array.replicate_zero, List.push_toArray, List.append_toArray, List.nil_append, List.cons_append]
  gi_wp2
  gi_loopw [7] (fun i wr => ∃ (k : Nat) (pre : List (Nat × ByteArray)), i = .int .i64 k ∧ k ≤ N.length ∧ Hid (nmF N 0 = pre ++ nmF (N.drop k) k) ∧ J pre wr ∧ Hid (KpRow (.slice ao N.length cap) W wr))
    (fun i _ => N.length - (intOf i).toNat)
  case atStart => exact ⟨0, [], rfl, by omega, rfl, h0, ⟨Nat.le_refl _, fun _ _ => rfl⟩⟩
  case round =>
    obtain ⟨k, pre, rfl, hk, HC, hJs, HKp⟩ := hrel
    have HVr := Lib.hid (HKp.out.own HV.out)
    have hgl : ∀ g, (Value.slice ao N.length cap).ownBlock = some g → g < wr.heap.size := by
      intro g hg
      have := HVr.out.lt g hg
      omega
    by_cases hlt : k < N.length
    · obtain ⟨x, hx⟩ : ∃ x, N[k]? = some x := ⟨_, List.getElem?_eq_getElem hlt⟩
      obtain ⟨b, off, cp, e1, hb, hc, x0, x1, x2⟩ := RdNd.at (RdNd.of_own HVr.out) hx
      simp only [Value.slice.injEq] at e1
      obtain ⟨rfl, -, rfl⟩ := e1
      have hd : N.drop k = x :: N.drop (k + 1) := by
        rw [List.drop_eq_getElem_cons hlt]
        have := List.getElem?_eq_getElem hlt
        rw [hx] at this
        simp only [Option.some.injEq] at this
        rw [← this]
      have HD : Hid (nmF (N.drop k) k = if x.k = 2 ∨ x.k = 3 then (k, x.n) :: nmF (N.drop (k + 1)) (k + 1) else nmF (N.drop (k + 1)) (k + 1)) := by unfold Hid; rw [hd]; rfl
      have hJ2 := hJ pre _ _ none hJs (World.grownBy_alloc wr (.cells #[.int .i64 x.k, .string x.n, .int .i64 x.c] 39) none) (by intro r e; cases e)
      have HK2 : Hid (KpRow (.slice (some ⟨b, off, none⟩) N.length cap) W (wr.alloc (.cells #[.int .i64 x.k, .string x.n, .int .i64 x.c] 39))) := HKp.out.trans (.of_below (below1 wr _) hgl)
      clear hd hx
      by_cases hk23 : x.k = 2 ∨ x.k = 3
      · have HD2 : Hid (nmF (N.drop k) k = (k, x.n) :: nmF (N.drop (k + 1)) (k + 1)) := by unfold Hid; rw [HD.out, if_pos hk23]
        have hlen : pre.length < (nmF N 0).length := by rw [HC.out, HD2.out]; simp
        obtain ⟨fn, tmps, assign, body, hy, hR⟩ := hY pre (k, x.n) _ hJ2 hlen
        have HR := Lib.hid hR
        clear hY hR hJs hJ2 hlen
        dsimp only at hy
        rcases hk23 with hk2 | hk2
        all_goals
          rw [hk2] at x0
          rw [hk2] at hy HR HK2
          gi_wp2
          refine ⟨fun _ => by omega, HR.out.mono ?_⟩
          rintro e W3 (⟨rfl, hJ3, hk3⟩ | ⟨rfl, hJx3⟩)
          · have HK3 := Lib.hid (HK2.out.trans hk3)
            clear hk3
            gi_wp2
            go_roundw
            case rel => exact ⟨k + 1, pre ++ [(k, x.n)], by go_num, by omega, by unfold Hid; rw [HC.out, HD2.out]; simp, hJ3, HK3.out⟩
            case measure => simp [intOf]; omega
          · gi_wp2
            refine bodyPost_ret (results_none rfl _ _ _) rfl ?_
            exact ⟨⟨_, rfl⟩, .inr ⟨pre ++ [(k, x.n)], ⟨by simp, by rw [HC.out, HD2.out]; exact ⟨_, by rw [List.append_assoc]; rfl⟩⟩, hJx3⟩⟩
      · have HD2 : Hid (nmF (N.drop k) k = nmF (N.drop (k + 1)) (k + 1)) := by unfold Hid; rw [HD.out, if_neg hk23]
        have n2 : (x.k == 2) = false := by simp; omega
        have n3 : (x.k == 3) = false := by simp; omega
        clear hk23 hY hJs
        gi_wp2
        refine ⟨fun _ h => (by cases h), ?_⟩
        gi_wp2
        go_roundw
        case rel => exact ⟨k + 1, pre, by go_num, by omega, by unfold Hid; rw [HC.out, HD2.out], hJ2, HK2.out⟩
        case measure => simp [intOf]; omega
    · obtain rfl : k = N.length := by omega
      have HE : Hid (nmF N 0 = pre) := by unfold Hid; rw [HC.out, List.drop_eq_nil_of_le (Nat.le_refl _)]; simp [nmF]
      gi_wp2
      refine bodyPost_end (results_none rfl _ _ _) rfl ?_
      exact ⟨⟨_, rfl⟩, .inl ⟨pre, HE.out.symm, hJs⟩⟩
end Go.Proofs.Ytbpipnjdfmpbdaa
namespace Go.Proofs.Ytbpipnjdfmpbdaa
open Go.RowKit Go.Shelf
attribute [local go_sem] Oper.semAt_some

/-- a range over a function, the variables in slots of the function's own -/
theorem wpIn_rangeFunc_slots {F : Fence} {n : Nat} {P : Program} {α : Type} {g : Operand} {ps : Array Tmp} {assign body : Code} {Q : Exit → Act → World → Prop} {a : Act} {w : World}
    (hro : F.round = none) (h1 : 1 ≤ n) {gf : Nat} {lb : Array Value} (hg : a.eval g = .func (.func gf) #[] lb) (hFg : F.fn gf) (eg : ∀ args w, (callFunc gf args).run P w = .ok (.enter gf args) w)
    {encs : α → Array Value} {Kp : World → World → Prop} {S Sp : List α → Prop} {N : Nat} {w0 : World} (hseq : SeqStopsK F (n - 1) P gf lb encs Kp S Sp N w0)
    (hKt : ∀ {A B C : World}, Kp A B → Kp B C → Kp A C) (hKr : ∀ W, Kp W W) (hKb : ∀ (W : World) (l : Nat) (o o' : Obj), w.heap.size ≤ l → W.heap[l]? = some o → o.isCells = false → o.isWalk = false → Kp W (W.putObj l o')) (hb0 : Below w0.heap.size w0 w) (hps : ∀ x, (encs x).size = ps.size)
    (T : α → Array Value) (I : List α → World → Prop) (Ix : Code → List α → World → Prop) (hI : OwnFrom w.heap.size I) (hIx : ∀ c, OwnFrom w.heap.size (Ix c)) (h0 : I [] w)
    (hassign : ∀ (l : Nat) (x : α) (W : World) (K : Act → World → Prop), K { tmps := T x, defers := [] } W →
      assign.wpIn (F.inRound l) (n - 1 - 1) P (Exit.then K (fun _ _ _ => False)) { tmps := (ps.zip (encs x)).foldl (fun t (p, v) => t.setIfInBounds p v) a.tmps, defers := [] } W)
    (hbody : ∀ (l : Nat) (pre : List α) (x : α) (W : World), I pre W → pre.length < N → body.wpIn (F.inRound l) (n - 1 - 1) P (ownPostG w.heap.size Kp I Ix (pre ++ [x]) W) { tmps := T x, defers := [] } W)
    (hdone : ∀ (D : Nat) (xs : List α) (W : World), w.heap.size ≤ D → S xs → I xs W → W.heap[D]? = some (.deferred (some [])) → Q .normal { a with defers := { target := .collected D, args := #[] } :: a.defers } W)
    (hstop : ∀ (D : Nat) (c : Code) (pre : List α) (W : World), w.heap.size ≤ D → Sp pre → Ix c pre W → W.heap[D]? = some (.deferred (some [])) → c.wpIn F n P Q { a with defers := { target := .collected D, args := #[] } :: a.defers } W) :
    (Code.rangeFunc g ps assign body).wpIn F n P Q a w := by
  refine wpIn_rangeFunc_ownH hro h1 hg hFg eg hseq hKt hKb hb0 hps I Ix hI hIx h0 (fun x a' _ => a' = { tmps := T x, defers := [] }) (fun x a' _ X Y row h _ _ => h) ?_ ?_ hdone hstop
  · intro l pre x W K hi hK
    exact hassign l x W K (hK _ _ (((show KeepsOthers W W from ⟨Nat.le_refl _, fun _ _ h _ => h⟩)).from _) (hKr W) hi rfl)
  · rintro l pre x a' W _ _ hi rfl hlt
    exact hbody l pre x W hi hlt
theorem KpRow.refl (v : Value) (W : World) : KpRow v W W := ⟨Nat.le_refl _, fun _ _ => rfl⟩
theorem KpRow.putObj {v : Value} {w : World} (hv : ∀ g, v.ownBlock = some g → g < w.heap.size) (W : World) (l : Nat) (o o' : Obj) (hl : w.heap.size ≤ l) (_ : W.heap[l]? = some o) (_ : o.isCells = false) (_ : o.isWalk = false) : KpRow v W (W.putObj l o') :=
  ⟨by simp, fun g hg => World.putObj_heap_other (by have := hv g hg; omega)⟩
def encN (x : Nat × ByteArray) : Array Value := #[.int .i64 (x.1 : Nat), .string x.2]
theorem names_stops (n : Nat) (hn : 3 ≤ n) (Bn C : Nat) (v : Value) (N : List Nd) (hs : N.length ≤ 4398046511104) (w : World) (hc : w.cell? ⟨Bn, 0, none⟩ = some v) (hv : OwnNd w C v N) :
    SeqStopsK Fence.wide n Try.prog 52 #[.pointer (some ⟨Bn, 0, none⟩)] encN (KpRow v) (fun ys => ys = nmF N 0) (fun pre => pre ≠ [] ∧ pre <+: nmF N 0) (nmF N 0).length w :=
  fun l J Jx W hW hJ _ hY h0 => names1_in n hn l Bn C v N hs J Jx W.heap.size hY hJ W (Nat.le_refl _) ((hW.cell (p := ⟨Bn, 0, none⟩) (World.block_lt_of_cell? w ⟨Bn, 0, none⟩ hc)).trans hc) (own_grown hv (grown_below hW) (by simp)) h0

theorem names_in (n : Nat) (v : Value) (N : List Nd) (w : World) (h : RdNd w v N) (hl : N.length ≤ 4398046511104) :
    CallsIn Fence.wide n Try.prog 21 #[v] w fun e w' => e = .returned (.func (.func 52) #[] #[.pointer (some ⟨w.heap.size, 0, none⟩)]) ∧
      ∃ v', Boxed w' w.heap.size 22 v' ∧ OwnNd w' (w.heap.size + 1) v' N ∧ Below w.heap.size w w' := by
  have HC := Lib.hid (xClone_any v N (w.alloc (.cells #[v] 22)) (h.below (below1 _ _)) hl)
  obtain ⟨_, ao, cap, rfl, -⟩ := h
  refine callsIn_of_wp Try.func21 rfl trivial ?_ rfl
  simp only [Try.ntmps21, List.size_toArray, List.length_cons, List.length_nil, Nat.reduceAdd, Nat.reduceSub, Array.replicate_succ, Array.replicate_zero, List.push_toArray, List.append_toArray, List.nil_append, List.cons_append]
  gi_wp2_with fail
  refine ⟨trivial, (by intro h; cases h), (callsIn_wide.2 (HC.out)).mono ?_⟩
  rintro e w2 ⟨v2, rfl, ho2, hb2⟩
  have hbx : Boxed w2 w.heap.size 22 (.slice ao N.length cap) := (hb2.block _ (by simp)).trans (Boxed.new w _ _)
  have cb := hbx.cell
  have fb := hbx.frozen
  obtain ⟨_, ao2, cap2, rfl, -⟩ := Rd.of_owns ho2
  gi_wp2
  have hb3 : Below w.heap.size w w2 := (below1 w _).trans (hb2.mono (by simp))
  refine bodyPost_ret (results_tmp rfl _ _ _) rfl ?_
  refine ⟨rfl, _, hbx.set _, ?_, hb3.setCell (p := ⟨w.heap.size, 0, none⟩) (Nat.le_refl _) _⟩
  have hsz : (w.alloc (.cells #[.slice ao N.length cap] 22)).heap.size = w.heap.size + 1 := by simp
  rw [hsz] at ho2
  exact own_grown ho2 (grown_set w2 w.heap.size 0 _) (fun j hj => .inl (by cases hj; omega))

set_option maxRecDepth 100000 in
set_option maxHeartbeats 1600000 in
theorem rPlaces_any (v : Value) (N : List Nd) (w : World) (h : RdNd w v N) (hl : N.length ≤ 4398046511104) :
    Calls Try.prog 20 #[v] w fun e w' => ∃ v', e = .returned v' ∧ OwnI w' w.heap.size v' ((nmF N 0).map (·.1)) ∧ Below w.heap.size w w' := by
  have HV := Lib.hid h
  obtain ⟨_, ao, cap, rfl, -⟩ := h
  go_enter Try.func20, Try.ntmps20
  go_wp2_with fail
  go_loopw [3, 4] (fun o i wr => ∃ (k : Nat) (pre : List (Nat × ByteArray)), i = .int .i64 k ∧ k ≤ N.length ∧ pre.length ≤ k ∧ Hid (nmF N 0 = pre ++ nmF (N.drop k) k) ∧ OwnI wr w.heap.size o (pre.map (·.1)) ∧ Hid (Below w.heap.size w wr)) (fun _ i _ => N.length - (intOf i).toNat)
  case atStart => exact ⟨0, [], rfl, by omega, by simp, rfl, World.ownsRow_nil _ _ _ _, Below.refl _ _⟩
  case round =>
    obtain ⟨k, pre, rfl, hk, hpl, HC, hown, HBel⟩ := hrel
    have hws := HBel.out.size
    by_cases hlt : k < N.length
    · obtain ⟨x, hx⟩ : ∃ x, N[k]? = some x := ⟨_, List.getElem?_eq_getElem hlt⟩
      obtain ⟨b, off, cp, e1, hb, hc, x0, x1, x2⟩ := RdNd.at HV.out hx
      simp only [Value.slice.injEq] at e1
      obtain ⟨rfl, -, rfl⟩ := e1
      have X0 := (HBel.out.cell (p := ⟨b, _, none⟩) hb).trans x0
      have hd : N.drop k = x :: N.drop (k + 1) := by
        rw [List.drop_eq_getElem_cons hlt]
        have := List.getElem?_eq_getElem hlt
        rw [hx] at this
        simp only [Option.some.injEq] at this
        rw [← this]
      have HD : Hid (nmF (N.drop k) k = if x.k = 2 ∨ x.k = 3 then (k, x.n) :: nmF (N.drop (k + 1)) (k + 1) else nmF (N.drop (k + 1)) (k + 1)) := by unfold Hid; rw [hd]; rfl
      clear hd hx x0 x1 x2
      by_cases hk23 : x.k = 2 ∨ x.k = 3
      · have HD2 : Hid (nmF (N.drop k) k = (k, x.n) :: nmF (N.drop (k + 1)) (k + 1)) := by unfold Hid; rw [HD.out, if_pos hk23]
        have hpm : (pre.map (·.1)).length ≤ 4398046511104 := by rw [List.length_map]; omega
        rcases hk23 with hk2 | hk2
        all_goals
          rw [hk2] at X0
          clear hk2
          go_wp2_with (at_builtin; go_must (refine wpList_appG1 elemInt rfl _ _ rfl hown rfl (news := [.int .i64 k]) rfl rfl (by intro u hu; simp at hu; subst hu; rfl) (by unfold maxLen; omega) (by omega) hws ?_); intro v' w3 hown3 hg3)
          have HB3 : Hid (Below w.heap.size w w3) := HBel.out.grown hg3 hws (fun j hj => own_block hown j hj)
          have HO3 : Hid (OwnI w3 w.heap.size v' ((pre ++ [(k, x.n)]).map (·.1))) := by
            rw [List.map_append]
            exact OwnI.snoc hown3
          clear hown3 hg3
          go_roundw
          case rel => exact ⟨k + 1, pre ++ [(k, x.n)], by go_num, by omega, by simp; omega, by unfold Hid; rw [HC.out, HD2.out]; simp, HO3.out, HB3.out⟩
          case measure => simp [intOf]; omega
      · have HD2 : Hid (nmF (N.drop k) k = nmF (N.drop (k + 1)) (k + 1)) := by unfold Hid; rw [HD.out, if_neg hk23]
        have n2 : (x.k == 2) = false := by simp; omega
        have n3 : (x.k == 3) = false := by simp; omega
        clear hk23
        go_wp2_with fail
        go_roundw
        case rel => exact ⟨k + 1, pre, by go_num, by omega, by omega, by unfold Hid; rw [HC.out, HD2.out], hown, HBel.out⟩
        case measure => simp [intOf]; omega
    · obtain rfl : k = N.length := by omega
      have HE : Hid (nmF N 0 = pre) := by unfold Hid; rw [HC.out, List.drop_eq_nil_of_le (Nat.le_refl _)]; simp [nmF]
      go_wp2_with fail
      go_ret
      exact ⟨_, rfl, by rw [HE.out]; exact hown, HBel.out⟩
end Go.Proofs.Ytbpipnjdfmpbdaa
namespace Go.Proofs.Ytbpipnjdfmpbdaa
open Go.RowKit Go.Shelf
attribute [local go_sem] Oper.semAt_some

theorem bx_keep {W W' : World} {row : Option Nat} {B t : Nat} {v : Value} (h : Boxed W B t v) (hg : W.grownBy W' row) (hr : ∀ r, row = some r → ∃ o : Obj, W.heap[r]? = some o ∧ o.isCells = false) : Boxed W' B t v :=
  h.kept hg (fun e => by obtain ⟨o, ho, hc⟩ := hr B e.symm; rw [show W.heap[B]? = _ from h] at ho; cases ho; cases hc)
theorem KpRow.setBox {v : Value} {W : World} {B o : Nat} (hv : ∀ g, v.ownBlock = some g → g ≠ B) (u : Value) : KpRow v W (W.setCell ⟨B, o, none⟩ u) :=
  ⟨by simp [World.setCell], fun g hg => Below.heap_setCell W ⟨B, o, none⟩ u g (hv g hg)⟩

set_option maxRecDepth 100000 in
set_option maxHeartbeats 1600000 in
theorem occ_in (n : Nat) (hn : 6 ≤ n) (v : Value) (N : List Nd) (w : World) (h : RdNd w v N) (hl : N.length ≤ 4398046511104) :
    CallsIn Fence.wide n Try.prog 28 #[v] w fun e w' => e = .returned (.int .i64 (nmF N 0).length) ∧ Below w.heap.size w w' := by
  have h1 : 1 ≤ n := by omega
  have HN := Lib.hid (names_in (n - 1) v N (w.alloc (.cells #[.int .i64 0] 3)) (h.below (below1 _ _)) hl)
  have hnl := nmF_len N 0
  obtain ⟨_, ao, cap, rfl, -⟩ := h
  refine callsIn_of_wp_marks Try.func28 rfl trivial ?_ rfl
  simp only [Try.ntmps28, List.size_toArray, List.length_cons, List.length_nil, Nat.reduceAdd, Nat.reduceSub, Array.replicate_succ, Array.replicate_zero, List.push_toArray, List.append_toArray, List.nil_append, List.cons_append]
  gi_wp2_with fail
  refine ⟨trivial, (HN.out).mono ?_⟩
  rintro e w2 ⟨rfl, v2, hbx2, ho2, hb2⟩
  have hsz : (w.alloc (.cells #[.int .i64 0] 3)).heap.size = w.heap.size + 1 := by simp
  rw [hsz] at hbx2 ho2 hb2 ⊢
  have bK : Boxed w2 w.heap.size 3 (.int .i64 0) := (hb2.block _ (by omega)).trans (Boxed.new w _ _)
  have hb3 : Below w.heap.size w w2 := (below1 w _).trans (hb2.mono (by omega))
  have hsz2 := hb2.size
  rw [hsz] at hsz2
  have hgl : ∀ g, v2.ownBlock = some g → g < w2.heap.size ∧ w.heap.size < g := fun g hg => by have := ho2.lt g hg; omega
  gi_wp2
  refine wpIn_rangeFunc_slots rfl h1 (gf := 52) (lb := #[.pointer (some ⟨w.heap.size + 1, 0, none⟩)]) rfl trivial (enters_of Try.func52 (by kernel_rfl) rfl)
    (names_stops (n - 1) (by omega) (w.heap.size + 1) _ v2 N hl w2 hbx2.cell ho2) KpRow.trans (KpRow.refl v2) (KpRow.putObj (fun g hg => (hgl g hg).1)) (Below.refl _ _) (fun _ => rfl)
    ?T (fun pre W => Boxed W w.heap.size 3 (.int .i64 pre.length) ∧ Below w.heap.size w W) (fun _ _ _ => False) ?hI (fun _ _ _ _ _ hs _ _ => hs) ⟨bK, hb3⟩ ?assign ?body ?done ?stop
  case assign =>
    intro l x W K hK
    dsimp only [encN]
    gi_wp2
    exact hK
  case hI => exact OwnFrom.and ((boxed_own w.heap.size 3 (fun pre : List (Nat × ByteArray) => .int .i64 pre.length)).from _) (ownFrom_below (Nat.le_refl _) (by omega))
  case body =>
    rintro l pre x W ⟨hK, hB⟩ hlt
    have cK := hK.cell
    have fK := hK.frozen
    have hpl : pre.length < 9223372036854775807 := by omega
    have HKb := Lib.hid hK
    have HBb := Lib.hid hB
    clear hK hB
    gi_wp2
    refine ⟨(KeepsOthers.setCell _ _ _).from _, KpRow.setBox (fun g hg e => by have := (hgl g hg).2; omega) _, ?_, HBb.out.setCell (p := ⟨w.heap.size, 0, none⟩) (Nat.le_refl _) _⟩
    rw [List.length_append]
    exact Boxed.set _ HKb.out
  case stop =>
    rintro D c pre W _ _ h _
    exact h.elim
  case done =>
    rintro D xs W hD rfl ⟨hK, hB⟩ hKD
    have cK := hK.cell
    gi_wp2
    refine ⟨by simp, .inl ⟨_, _, rfl, run_takeDeferred hKD, ?_⟩⟩
    refine ⟨_, results_tmp rfl _ _ _, rfl, hB.trans (belowK_b (w := w) (Nat.le_refl _) W D _ (.deferred none) (by omega) hKD rfl rfl)⟩
theorem xOcc_any (v : Value) (N : List Nd) (w : World) (h : RdNd w v N) (hl : N.length ≤ 4398046511104) :
    Calls Try.prog 28 #[v] w fun e w' => e = .returned (.int .i64 (nmF N 0).length) ∧ Below w.heap.size w w' :=
  callsIn_wide.1 (occ_in 8 (by omega) v N w h hl)
theorem rOcc_any (v : Value) (N : List Nd) (w : World) (h : RdNd w v N) (hl : N.length ≤ 4398046511104) :
    Calls Try.prog 32 #[v] w fun e w' => e = .returned (.int .i64 (nmF N 0).length) ∧ Below w.heap.size w w' := by
  have HP := Lib.hid (rPlaces_any v N w h hl)
  obtain ⟨_, ao, cap, rfl, -⟩ := h
  go_enter Try.func32, Try.ntmps32
  go_wp2_with fail
  refine (HP.out).mono ?_
  rintro e w1 ⟨v1, rfl, ho1, hb1⟩
  obtain ⟨ao1, cp1, rfl, hcp⟩ := OwnI.shape ho1
  rw [List.length_map]
  clear ho1
  go_wp2_with fail
  go_ret
  exact ⟨rfl, hb1⟩
end Go.Proofs.Ytbpipnjdfmpbdaa
