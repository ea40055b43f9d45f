/- PROVED: CommandVerbs returns true whatever its arguments; each argument reads behind the call as it read before. No condition beyond the form's own reach. -/
import Derived.Test.YtikkfbkpgejneaaDoorPk2
import Derived.RangeFuncNested
import Derived.RangeFuncBound
import Derived.RangeFuncCalls
import Derived.RangeFuncLeaves
import Derived.Shelf.Abstract
import Derived.Shelf.RegionOpen
import Derived.OwnWalkIn
import Derived.TacticsInMore
import Derived.LoopNIn
import Derived.LoopIn
import Derived.Laws.OwnMore
import Derived.ArgAppend
import Derived.Sort.QuietIn
import Derived.Test.YtikkfbkpgejneaaDoorCards
import Derived.Test.YtikkfbkpgejneaaDoorTie
import Derived.Carry
import Derived.ProofKit
import Derived.OpenShut
import Derived.ShutString
import Derived.JoinedCond
import Derived.SizedLaws
import Derived.Deep.DeepHandedRow
import Derived.Deep.DeepWitnessRowRef
namespace Go.Proofs.YtikkfbkpgejneaaDoor
open Go.RowKit Go.Shelf

theorem grown_of_below {w w' : World} (h : Below w.heap.size w w') : w.grownBy w' none := ⟨h.os, h.tape, h.output, h.size, fun k hk _ => h.block k hk⟩

/-- each block of one element of type e (a loop variable's box) lies as it lay -/
def KeepsOnes (e size : Nat) (W W' : World) : Prop := ∀ (b : Nat) (c : Array Value) (fr : Nat × Nat), W.heap[b]? = some (Obj.cells c e fr) → c.size = size → W'.heap[b]? = W.heap[b]?
theorem KeepsOnes.refl (e size : Nat) (W : World) : KeepsOnes e size W W := fun _ _ _ _ _ => rfl
theorem KeepsOnes.trans {e size : Nat} {A B C : World} (h : KeepsOnes e size A B) (k : KeepsOnes e size B C) : KeepsOnes e size A C :=
  fun b c fr hb hc => by rw [k b c fr (by rw [h b c fr hb hc]; exact hb) hc, h b c fr hb hc]
theorem KeepsOnes.of_below {e size : Nat} {A B : World} (h : Below A.heap.size A B) : KeepsOnes e size A B :=
  fun b _ _ hb _ => h.block b (Array.getElem?_eq_some_iff.1 hb).1
theorem KeepsOnes.alloc (e size : Nat) (W : World) (o : Obj) : KeepsOnes e size W (W.alloc o) := .of_below (below1 W o)
/-- a store into a box of another type -/
theorem KeepsOnes.setCell {e size t : Nat} {W : World} {B : Nat} {v : Value} (h : Boxed W B t v) (hne : t ≠ e) (o : Nat) (u : Value) : KeepsOnes e size W (W.setCell ⟨B, o, none⟩ u) := by
  intro b c fr hb hc
  by_cases hB : b = B
  · subst hB; have := (show W.heap[b]? = _ from h).symm.trans hb; simp at this; exact absurd this.2.1 hne
  · exact Below.heap_setCell _ _ _ _ hB
theorem KeepsOnes.putObj {e size : Nat} {W : World} {l : Nat} {o : Obj} (h : W.heap[l]? = some o) (ho : o.isCells = false) (o' : Obj) : KeepsOnes e size W (W.putObj l o') := by
  intro b c fr hb hc
  by_cases hB : b = l
  · subst hB; rw [h] at hb; cases hb; simp [Obj.isCells] at ho
  · exact World.putObj_heap_other hB

/-- append of one element to an owned row: what is kept -/
theorem run_app1 {P : Program} {t e : TypeId} {size bytes : Nat} (hE : ElemOK P t e size bytes) (hs2 : 1 ≤ size) {B : Nat} {w : World} (ty : TypeId) {v : Value} {n : Nat} {xs : List Value} (hown : w.ownsRow B e size v n xs) (hnil : n = 0 → v = .slice none 0 0)
    (ad : Addr) {news : List Value} (hl : news.length = size) (hnews : ∀ j u, news[j]? = some u → w.cell? (ad.add j) = some u) (h1 : ∀ u ∈ news, u.oneCell' = true) (c : Nat)
    (hn : n < 4294967296) (hby : bytes ≤ 16384) (hB : B ≤ w.heap.size) :
    ∃ v' w', (Builtin.append_ #[t, t] ty #[v, .slice (some ad) 1 c]).run P w = .ok v' w' ∧ w'.ownsRow B e size v' (n + 1) (xs ++ news) ∧ w.grownBy w' v.ownBlock ∧ KeepsOnes e size w w' ∧ (∃ g cap, v' = .slice (some ⟨g, 0, none⟩) (n + 1) cap) := by
  obtain ⟨i, z, ht, hi, hz, hz1, hz2, hz3, hz4⟩ := hE.ex
  have hb : (n + 1) * bytes ≤ 140737488355328 := by
    have : (n + 1) * bytes ≤ 4294967296 * 16384 := Nat.mul_le_mul (by omega) hby
    omega
  have shape : ∀ {w' : World} {v' : Value}, w'.ownsRow B e size v' (n + 1) (xs ++ news) → ∃ g cap, v' = .slice (some ⟨g, 0, none⟩) (n + 1) cap := by
    intro w' v' h
    rcases h.2 with ⟨h, h'⟩ | ⟨g, cap, _, h, _⟩
    · omega
    · exact ⟨g, cap, h⟩
  rcases hown.2 with ⟨hv, hn0⟩ | ⟨g, cap, cur, hv, hBg, hg, hnc, hcm, hcs, htk⟩
  · obtain ⟨v', w', hr, h2, h3, _⟩ := run_append_own (P := P) w B t ty e i z size bytes ht hi hz hz1 hz2 hz3 hz4 v n xs hown ad 1 c news (by omega) hnews h1 (by unfold maxLen; omega) hb hB
    refine ⟨v', w', hr, h2, h3, ?_, shape h2⟩
    intro b cc fr hbb _
    exact h3.block b (Array.getElem?_eq_some_iff.1 hbb).1 (by rw [hv]; simp [Value.ownBlock])
  · subst hv
    have hn1 : 1 ≤ n := by
      rcases Nat.eq_zero_or_pos n with h | h
      · have := hnil h; simp at this
      · exact h
    by_cases hroom : n + 1 ≤ cap
    · obtain ⟨w', hr, h2, h3⟩ := run_append_fits (P := P) w B t ty e i size ht hi hz1 g n cap xs hown ad 1 c news (by omega) hnews h1 hroom
      refine ⟨_, w', hr, h2, h3, ?_, ⟨g, cap, rfl⟩⟩
      intro b cc fr hbb hcc
      refine h3.block b (Array.getElem?_eq_some_iff.1 hbb).1 ?_
      intro e'
      obtain rfl : b = g := by simpa using e'
      rw [hg] at hbb
      simp at hbb
      rw [← hbb.1, hcs] at hcc
      have : 2 * size ≤ cap * size := Nat.mul_le_mul_right _ (by omega)
      omega
    · obtain ⟨v', w', hr, h2, h3⟩ := run_append_arg_grows (P := P) w t ty e i z size bytes ht hi hz hz1 hz2 hz3 hz4 ⟨g, 0, none⟩ n cap xs hown.1 (fun j u hj => hown.cells rfl j u hj) ad 1 c news (by omega) hnews (by omega) (by unfold maxLen; omega) hb
      have h2' : w'.ownsRow B e size v' (n + 1) (xs ++ news) := by
        refine ⟨h2.1, ?_⟩
        rcases h2.2 with ⟨_, h'⟩ | ⟨g2, cap2, cur2, k1, k2, k3⟩
        · omega
        · exact .inr ⟨g2, cap2, cur2, k1, by omega, k3⟩
      refine ⟨v', w', hr, h2', ⟨h3.os, h3.tape, h3.output, h3.size, fun k hk _ => h3.block k hk (by simp)⟩, ?_, shape h2'⟩
      intro b cc fr hbb _
      exact h3.block b (Array.getElem?_eq_some_iff.1 hbb).1 (by simp)

/-- the fenced law: 'x = append(x, m)', x in a box Bx, one new element -/
theorem wpListIn_app1 {F : Fence} {n' : Nat} {P : Program} {t e : TypeId} {size bytes : Nat} (hE : ElemOK P t e size bytes) (hs2 : 1 ≤ size) {B : Nat} {wr : World} {ops : Array Oper} {rest : List Oper} {o : Oper} {a : Act} {Q : Exit → Act → World → Prop} (hgd : o.guard = none) (s x : Operand)
    (ho : o.op = .call { callee := .builtin .append, args := #[s, x], argTypes := #[t, t] })
    {v : Value} {n : Nat} {xs : List Value} (hown : wr.ownsRow B e size v n xs) (hnil : n = 0 → v = .slice none 0 0) (hs : a.eval s = v)
    {news : List Value} (hx : a.eval x = .slice (some ⟨wr.heap.size, 0, none⟩) 1 1) (hl : news.length = size) (h1 : ∀ u ∈ news, u.oneCell' = true)
    (hn : n < 4294967296) (hby : bytes ≤ 16384) (hB : B ≤ wr.heap.size)
    (h : ∀ v' w', w'.ownsRow B e size v' (n + 1) (xs ++ news) → (wr.alloc (.cells news.toArray e)).grownBy w' v.ownBlock → KeepsOnes e size (wr.alloc (.cells news.toArray e)) w' → (∃ g cap, v' = .slice (some ⟨g, 0, none⟩) (n + 1) cap) → wpListIn F n' P ops Q rest (a.put o.dst v') w') :
    wpListIn F n' P ops Q (o :: rest) a (wr.alloc (.cells news.toArray e)) := by
  refine wpListIn_plain hgd fun K hK' => ?_
  obtain ⟨v', w', hrun, r1, r2, r3, r4⟩ := run_app1 (P := P) hE hs2 o.type (hown.alloc (.cells news.toArray e)) hnil ⟨wr.heap.size, 0, none⟩ hl (cells_new wr news e) h1 1 hn hby (by simp; omega)
  unfold Oper.wpIn
  refine ⟨?_, ?_⟩
  · simp [Oper.about, ho, resolve, Target.leads, Sem.run_pure]
  · rw [Oper.semAt_plain F _ _ (by rw [ho]; intro c hc'; cases hc')]
    simp [execOp, ho, resolve, invoke, builtin, hs, hx, hrun, Result.andThen]
    exact hK' _ _ (h v' w' r1 r2 r3 r4)

/-- a range over a function whose one loop variable lies in a box (slot q), laid anew each round -/
theorem wpIn_rangeFunc_boxed {F : Fence} {n : Nat} {P : Program} {α : Type} {g : Operand} {p q : Tmp} {assign body : Code} {Q : Exit → Act → World → Prop} {a : Act} {w : World}
    (hro : F.round = none) (h1 : 1 ≤ n) {gf : Nat} {lb : Array Value} (hg : a.eval g = .func (.func gf) #[] lb) (hFg : F.fn gf) (eg : ∀ args w, (callFunc gf args).run P w = .ok (.enter gf args) w)
    {enc1 : α → Value} {Kp : World → World → Prop} {S Sp : List α → Prop} {N : Nat} {w0 : World} (hseq : SeqStopsK F (n - 1) P gf lb (fun x => #[enc1 x]) Kp S Sp N w0)
    (hKt : ∀ {A B C : World}, Kp A B → Kp B C → Kp A C) (hKb : ∀ (W : World) (l : Nat) (o o' : Obj), w.heap.size ≤ l → W.heap[l]? = some o → o.isCells = false → o.isWalk = false → Kp W (W.putObj l o')) (hb0 : Below w0.heap.size w0 w)
    (cellsOf : α → Array Value) (e : TypeId) (I : List α → World → Prop) (Ix : Code → List α → World → Prop) (hI : OwnFrom w.heap.size I) (hIx : ∀ c, OwnFrom w.heap.size (Ix c)) (h0 : I [] w)
    (hle : ∀ pre W, I pre W → w.heap.size ≤ W.heap.size) (hKa : ∀ pre W o, I pre W → Kp W (W.alloc o))
    (hassign : ∀ (l : Nat) (x : α) (W : World) (K : Act → World → Prop), K { tmps := (a.tmps.setIfInBounds p (enc1 x)).setIfInBounds q (.pointer (some ⟨W.heap.size, 0, none⟩)), defers := [] } (W.alloc (.cells (cellsOf x) e)) →
      assign.wpIn (F.inRound l) (n - 1 - 1) P (Exit.then K (fun _ _ _ => False)) { tmps := a.tmps.setIfInBounds p (enc1 x), defers := [] } W)
    (hbody : ∀ (l : Nat) (pre : List α) (x : α) (Bx : Nat) (W : World), I pre W → w.heap.size ≤ Bx → W.heap[Bx]? = some (.cells (cellsOf x) e (0, 0)) → pre.length < N →
      body.wpIn (F.inRound l) (n - 1 - 1) P (ownPostG w.heap.size Kp I Ix (pre ++ [x]) W) { tmps := (a.tmps.setIfInBounds p (enc1 x)).setIfInBounds q (.pointer (some ⟨Bx, 0, none⟩)), defers := [] } W)
    (hdone : ∀ (D : Nat) (xs : List α) (W : World), w.heap.size ≤ D → S xs → I xs W → W.heap[D]? = some (.deferred (some [])) → Q .normal { a with defers := { target := .collected D, args := #[] } :: a.defers } W)
    (hstop : ∀ (D : Nat) (c : Code) (pre : List α) (W : World), w.heap.size ≤ D → Sp pre → Ix c pre W → W.heap[D]? = some (.deferred (some [])) → c.wpIn F n P Q { a with defers := { target := .collected D, args := #[] } :: a.defers } W) :
    (Code.rangeFunc g #[p] assign body).wpIn F n P Q a w := by
  refine wpIn_rangeFunc_ownH hro h1 hg hFg eg hseq hKt hKb hb0 (fun _ => rfl) I Ix hI hIx h0
    (fun x a' W => ∃ Bx, w.heap.size ≤ Bx ∧ W.heap[Bx]? = some (.cells (cellsOf x) e (0, 0)) ∧ a' = { tmps := (a.tmps.setIfInBounds p (enc1 x)).setIfInBounds q (.pointer (some ⟨Bx, 0, none⟩)), defers := [] }) ?_ ?_ ?_ hdone hstop
  · intro x a' _ X Y row h hg hr
    obtain ⟨Bx, k1, k2, k3⟩ := h
    refine ⟨Bx, k1, (hg.block Bx (Array.getElem?_eq_some_iff.1 k2).1 ?_).trans k2, k3⟩
    intro ee
    obtain ⟨_, o, ho, hc⟩ := hr Bx ee.symm
    rw [k2] at ho; cases ho; simp [Obj.isCells] at hc
  · intro l pre x W K hi hK
    have e1 : ∀ (f : Array Value → Tmp × Value → Array Value), (#[p].zip #[enc1 x]).foldl f a.tmps = f a.tmps (p, enc1 x) := by intro f; simp
    rw [e1]
    refine hassign l x W K ?_
    exact hK _ _ ((KeepsOthers.alloc W _).from _) (hKa pre W _ hi) (hI.alloc _ hi) ⟨W.heap.size, hle pre W hi, World.alloc_heap_new W _, rfl⟩
  · rintro l pre x a' W _ _ hi ⟨Bx, k1, k2, rfl⟩ hlt
    exact hbody l pre x Bx W hi k1 k2 hlt

/-! ### a region that draws its order and only reads, within a round -/
theorem wpOpIn_inRound {F : Fence} {n : Nat} {P : Program} {ops : Array Oper} {Q : Exit → Act → World → Prop} {l i : Nat} {K K' : Act → World → Prop} {a : Act} {w : World}
    (hnd : ∀ (i : Nat) (o : Oper) c, ops[i]? = some o → o.op ≠ .defer c) (hk : ∀ a w, K a w → K' a w) (h : wpOpIn F n P ops Q i K a w) : wpOpIn (F.inRound l) n P ops Q i K' a w := by
  unfold wpOpIn at h ⊢
  cases ho : ops[i]? with
  | none => rw [ho] at h; exact hk _ _ h
  | some o =>
    rw [ho] at h
    dsimp only at h ⊢
    split
    · rename_i hw
      rw [if_pos hw] at h
      have h2 := Oper.wpIn_mono hk h
      unfold Oper.wpIn at h2 ⊢
      rw [Oper.semAt_eq _ _ _ (hnd i o · ho)] at h2 ⊢
      exact h2
    · rename_i hw
      rw [if_neg hw] at h
      exact ⟨h.1, hk _ _ h.2⟩
theorem wpAnyIn_inRound {F : Fence} {n : Nat} {P : Program} {md : Region.Mode} {ops : Array Oper} {Q : Exit → Act → World → Prop} {l : Nat} (hnd : ∀ (i : Nat) (o : Oper) c, ops[i]? = some o → o.op ≠ .defer c) :
    ∀ (fuel : Nat) (listed : Array Bool) (a : Act) (w : World), wpAnyIn F n P md ops Q fuel listed a w → wpAnyIn (F.inRound l) n P md ops Q fuel listed a w
  | 0, _, _, _, h => h
  | fuel + 1, _, _, _, h => ⟨h.1, fun i hi => wpOpIn_inRound hnd (wpAnyIn_inRound hnd fuel _) (h.2 i hi)⟩
def noDefer (ops : Array Oper) : Bool := ops.all fun o => match o.op with | .defer _ => false | _ => true
theorem noDefer_spec {ops : Array Oper} (h : noDefer ops = true) (i : Nat) (o : Oper) (c : Call) (ho : ops[i]? = some o) : o.op ≠ .defer c := by
  intro e
  have hm : o ∈ ops := Array.mem_of_getElem? ho
  have := Array.all_eq_true'.1 h o hm
  rw [e] at this
  simp at this
/-- a region that draws its order and only reads, within a round: one walk, in the text's order -/
theorem wpIn_quietR {F : Fence} {n l : Nat} {P : Program} {id : Nat} {Q : Exit → Act → World → Prop} {a : Act} {w : World} {ls : List Oper} (hro : F.round = none) (hm : P.follows .mixedOrders = true) (hB : Region.lexB .any ls.toArray = true) (hnd : noDefer ls.toArray = true)
    (h : wpQuietIn F n P ls.toArray (fun w' => ∃ n, w' = w.drewN n) (fun a' => ∀ w', (∃ n, w' = w.drewN n) → Q .normal a' w') ls a) : (Code.region id ls.toArray true).wpIn (F.inRound l) n P Q a w := by
  simp only [Region.lexB, Bool.and_eq_true] at hB
  refine wpIn_region_any hm (wpAnyIn_inRound (noDefer_spec hnd) _ _ _ _ (wpAnyIn_of_quiet (C := fun w' => ∃ n, w' = w.drewN n) (Q := fun a' => ∀ w', (∃ n, w' = w.drewN n) → Q .normal a' w') hro (fun _ w' hw' h => h w' hw') _ _ _ _ ⟨1, rfl⟩ ?_))
  have := wpAnyQIn_lex (F := F) (n := n) (C := fun w' => ∃ n, w' = w.drewN n) (md := .any) hB.1 ls 0 (Array.replicate ls.toArray.size false) a (by simp) (by simpa using hB.2) h
  simpa using this

/-- the same, where the loop is left by 'break' alone (or not at all): what stands behind it is walked once -/
theorem wpIn_rangeFunc_boxedB {F : Fence} {n : Nat} {P : Program} {α : Type} {g : Operand} {p q : Tmp} {assign body : Code} {id : Nat} {Q : Exit → Act → World → Prop} {a : Act} {w : World}
    (hro : F.round = none) (h1 : 1 ≤ n) {gf : Nat} {lb : Array Value} (hg : a.eval g = .func (.func gf) #[] lb) (hFg : F.fn gf) (eg : ∀ args w, (callFunc gf args).run P w = .ok (.enter gf args) w)
    {enc1 : α → Value} {Kp : World → World → Prop} {S Sp : List α → Prop} {N : Nat} {w0 : World} (hseq : SeqStopsK F (n - 1) P gf lb (fun x => #[enc1 x]) Kp S Sp N w0)
    (hKt : ∀ {A B C : World}, Kp A B → Kp B C → Kp A C) (hKb : ∀ (W : World) (l : Nat) (o o' : Obj), w.heap.size ≤ l → W.heap[l]? = some o → o.isCells = false → o.isWalk = false → Kp W (W.putObj l o')) (hb0 : Below w0.heap.size w0 w)
    (cellsOf : α → Array Value) (e : TypeId) (I : List α → World → Prop) (Ix : Code → List α → World → Prop) (J : World → Prop) (hI : OwnFrom w.heap.size I) (hIx : ∀ c, OwnFrom w.heap.size (Ix c)) (h0 : I [] w)
    (hle : ∀ pre W, I pre W → w.heap.size ≤ W.heap.size) (hKa : ∀ pre W o, I pre W → Kp W (W.alloc o))
    (hassign : ∀ (l : Nat) (x : α) (W : World) (K : Act → World → Prop), K { tmps := (a.tmps.setIfInBounds p (enc1 x)).setIfInBounds q (.pointer (some ⟨W.heap.size, 0, none⟩)), defers := [] } (W.alloc (.cells (cellsOf x) e)) →
      assign.wpIn (F.inRound l) (n - 1 - 1) P (Exit.then K (fun _ _ _ => False)) { tmps := a.tmps.setIfInBounds p (enc1 x), defers := [] } W)
    (hbody : ∀ (l : Nat) (pre : List α) (x : α) (Bx : Nat) (W : World), I pre W → w.heap.size ≤ Bx → W.heap[Bx]? = some (.cells (cellsOf x) e (0, 0)) → pre.length < N →
      body.wpIn (F.inRound l) (n - 1 - 1) P (ownPostG w.heap.size Kp I Ix (pre ++ [x]) W) { tmps := (a.tmps.setIfInBounds p (enc1 x)).setIfInBounds q (.pointer (some ⟨Bx, 0, none⟩)), defers := [] } W)
    (hdone : ∀ (xs : List α) (W : World), S xs → I xs W → J W)
    (hstop : ∀ (c : Code) (pre : List α) (W : World), Sp pre → Ix c pre W → c = .exit id ∧ J W)
    (hfin : ∀ (D : Nat) (W : World), w.heap.size ≤ D → J W → W.heap[D]? = some (.deferred (some [])) → Q .normal { a with defers := { target := .collected D, args := #[] } :: a.defers } W) :
    (Code.rangeFunc g #[p] assign body).wpIn F n P (Exit.inBlock id Q) a w := by
  refine wpIn_rangeFunc_boxed hro h1 hg hFg eg hseq hKt hKb hb0 cellsOf e I Ix hI hIx h0 hle hKa hassign hbody ?_ ?_
  · intro D xs W hD hS hi hK
    exact hfin D W hD (hdone xs W hS hi) hK
  · intro D c pre W hD hS hi hK
    obtain ⟨rfl, hj⟩ := hstop c pre W hS hi
    refine wpIn_exit ?_
    simp only [Exit.inBlock, if_true]
    exact hfin D W hD hj hK
end Go.Proofs.YtikkfbkpgejneaaDoor
/- The iterator Verbs$1: what its rounds give. -/
namespace Go.Proofs.YtikkfbkpgejneaaDoor
open Go.RowKit Go.Shelf
attribute [local go_sem] Oper.semAt_some

/-- blocks that hold a text lie as they lay -/
structure KpS (W W' : World) : Prop where
  size : W.heap.size ≤ W'.heap.size
  row : ∀ b o s, W.cell? ⟨b, o, none⟩ = some (.string s) → W'.heap[b]? = W.heap[b]?
theorem KpS.refl (W : World) : KpS W W := ⟨Nat.le_refl _, fun _ _ _ _ => rfl⟩
theorem KpS.cell {W W' : World} (h : KpS W W') {b o p : Nat} {s : ByteArray} (hs : W.cell? ⟨b, o, none⟩ = some (.string s)) : W'.cell? ⟨b, p, none⟩ = W.cell? ⟨b, p, none⟩ := by
  have := h.row b o s hs
  simp [World.cell?, this]
theorem KpS.trans {A B C : World} (h : KpS A B) (k : KpS B C) : KpS A C :=
  ⟨Nat.le_trans h.size k.size, fun b o s hs => (k.row b o s ((h.cell hs).trans hs)).trans (h.row b o s hs)⟩
theorem KpS.of_below {A B : World} (h : Below A.heap.size A B) : KpS A B := ⟨h.size, fun b o s hs => h.block b (by
  unfold World.cell? at hs
  split at hs
  · rename_i hg; exact (Array.getElem?_eq_some_iff.1 hg).1
  all_goals simp at hs)⟩
theorem KpS.putObj {n : Nat} (W : World) (l : Nat) (o o' : Obj) (_ : n ≤ l) (h : W.heap[l]? = some o) (ho : o.isCells = false) (_ : o.isWalk = false) : KpS W (W.putObj l o') :=
  ⟨by simp, fun b p s hs => World.putObj_heap_other (by
    rintro rfl
    unfold World.cell? at hs
    rw [h] at hs
    cases o <;> simp_all [Obj.isCells])⟩
theorem KpS.setBox {W : World} {B t : Nat} {v : Value} (h : Boxed W B t v) (hv : ∀ s, v ≠ .string s) (u : Value) : KpS W (W.setCell ⟨B, 0, none⟩ u) :=
  ⟨by simp [World.setCell], fun b p s hs => Below.heap_setCell W ⟨B, 0, none⟩ u b (by
    intro hbB
    have hb : W.heap[b]? = some (.cells #[v] t (0, 0)) := by rw [hbB]; exact h
    unfold World.cell? at hs
    rw [hb] at hs
    rcases p with _ | p
    · simp at hs; exact hv s hs
    · simp at hs)⟩
/-- the verbs' row, as a walk reads it -/
def VsC (W : World) (b off : Nat) (P : List (Vb × Value)) : Prop := ∀ (j : Nat) (p : Vb × Value), P[j]? = some p → W.cell? ⟨b, off + j * 4, none⟩ = some (.int .i64 p.1.n) ∧ W.cell? ⟨b, off + j * 4 + 1, none⟩ = some (.string p.1.s) ∧ W.cell? ⟨b, off + j * 4 + 2, none⟩ = some (.bool p.1.t) ∧ W.cell? ⟨b, off + j * 4 + 3, none⟩ = some p.2
theorem RdVs.vsc {W : World} {v : Value} {P : List (Vb × Value)} (h : RdVs W v P) : ∃ b off cap, v = .slice (some ⟨b, off, none⟩) 10 cap ∧ 10 ≤ cap ∧ VsC W b off P := by
  have hl := h.len
  obtain ⟨b, off, cap, e, -, hc, -⟩ := h.at (List.getElem?_eq_getElem (l := P) (i := 0) (by omega))
  refine ⟨b, off, cap, by rw [e, hl], by omega, fun j p hp => ?_⟩
  obtain ⟨b', off', cap', e', -, -, h0, h1, h2, h3⟩ := h.at hp
  rw [e] at e'
  simp only [Value.slice.injEq, Option.some.injEq, Addr.mk.injEq] at e'
  obtain ⟨⟨rfl, rfl, -⟩, -, -⟩ := e'
  exact ⟨h0, h1, h2, h3⟩
theorem VsC.kept {W W' : World} {b off : Nat} {P : List (Vb × Value)} (h : VsC W b off P) (k : KpS W W') : VsC W' b off P := fun j p hp => by
  obtain ⟨h0, h1, h2, h3⟩ := h j p hp
  exact ⟨(k.cell h1).trans h0, (k.cell h1).trans h1, (k.cell h1).trans h2, (k.cell h1).trans h3⟩
def encV (x : Nat × ByteArray) : Array Value := #[.int .i64 x.1, .string x.2]
def VP : List (Nat × ByteArray) := VT.map fun v => (v.n, v.s)
theorem VP_len : VP.length = 10 := by decide

set_option maxRecDepth 100000 in
set_option maxHeartbeats 3200000 in
theorem verbs1_in (n : Nat) (hn : 4 ≤ n) (l : Nat) (J Jx : List (Nat × ByteArray) → World → Prop) (B0 : Nat)
    (hY : ∀ pre x W, J pre W → pre.length < VP.length → YieldAt Fence.wide (n - 1) Tryd.prog l (encV x) W fun e W' =>
      (e = .returned (.bool true) ∧ J (pre ++ [x]) W' ∧ KpS W W') ∨ (e = .returned (.bool false) ∧ Jx (pre ++ [x]) W'))
    (hJ : AbidesFrom B0 J) (W : World) (_ : B0 ≤ W.heap.size) (h0 : J [] W) :
    CallsIn Fence.wide n Tryd.prog 29 #[.func (.yield l) #[] #[]] W fun e W' => (∃ v, e = .returned v) ∧
      ((∃ ys, ys = VP ∧ J ys W') ∨ (∃ pre, (pre ≠ [] ∧ pre <+: VP) ∧ Jx pre W')) := by
  have HY := Lib.hid hY
  have HJ := Lib.hid hJ
  clear hY hJ
  refine callsIn_of_wp Tryd.func29 rfl trivial ?_ rfl
  simp only [Tryd.ntmps29, List.size_toArray, List.length_cons, List.length_nil, Nat.reduceAdd, Nat.reduceSub, Array.replicate_succ, Array.replicate_zero, List.push_toArray, List.append_toArray, List.nil_append, List.cons_append]
  gi_wp2_with fail
  refine ⟨trivial, (by intro h; cases h), (callsIn_wide.2 (verbs_any W)).mono ?_⟩
  rintro e w1 ⟨v, P, rfl, hv, hb1⟩
  have h1 := HJ.out _ _ _ none h0 (grown_of_below hb1) (by intro r h; cases h)
  obtain ⟨b, off, cap, rfl, hcap, hvs⟩ := hv.vsc
  have HPl := Lib.hid hv.len
  have HTab := Lib.hid hv.tab
  have HVs := Lib.hid hvs
  have HSh : Hid (∀ p ∈ P, ∃ ao m c, p.2 = .slice ao m c) := fun p hp => by
    obtain ⟨_, ao, c, e, -⟩ := hv.parts p hp
    exact ⟨ao, _, c, e⟩
  have hw1 : W.heap.size ≤ w1.heap.size := hb1.size
  clear h0 hb1 hv hvs
  gi_wp2_with fail
  gi_loopw [6] (fun i wr => ∃ (k : Nat) (pre : List (Nat × ByteArray)), i = .int .i64 k ∧ k ≤ 10 ∧ Hid (VP = pre ++ VP.drop k) ∧ Hid (pre.length = k) ∧ J pre wr ∧ Hid (KpS w1 wr))
    (fun i _ => 10 - (intOf i).toNat)
  case atStart => exact ⟨0, [], rfl, by omega, rfl, rfl, h1, KpS.refl _⟩
  case round =>
    clear h1
    obtain ⟨k, pre, rfl, hk, HC, HL, hJs, HKp⟩ := hrel
    by_cases hlt : k < 10
    · obtain ⟨x, hx⟩ : ∃ x, P[k]? = some x := ⟨_, List.getElem?_eq_getElem (by rw [HPl.out]; exact hlt)⟩
      obtain ⟨ao, am, ac, hsh⟩ := HSh.out x (List.mem_of_getElem? hx)
      obtain ⟨x, xs⟩ := x
      obtain rfl : xs = .slice ao am ac := hsh
      have hxV : VP[k]? = some (x.n, x.s) := by unfold VP; rw [← HTab.out, List.getElem?_map, List.getElem?_map, hx]; rfl
      obtain ⟨c0, c1, c2, c3⟩ := (HVs.out.kept HKp.out) k _ hx
      simp only at c0 c1 c2 c3
      have hlen : pre.length < VP.length := by rw [HL.out]; exact (List.getElem?_eq_some_iff.1 hxV).1
      have HD : Hid (VP.drop k = (x.n, x.s) :: VP.drop (k + 1)) := by
        obtain ⟨h1, h2⟩ := List.getElem?_eq_some_iff.1 hxV
        unfold Hid; rw [List.drop_eq_getElem_cons h1, h2]
      have hJ2 : J pre (wr.alloc (.cells #[.int .i64 x.n, .string x.s, .bool x.t, .slice ao am ac] 51)) := HJ.out _ _ _ none hJs (grown_of_below (below1 _ _)) (by intro r h; cases h)
      obtain ⟨fn, tmps, assign, body, hy, hR⟩ := HY.out pre (x.n, x.s) _ hJ2 hlen
      have HR := Lib.hid hR
      clear hR hJs hlen hx hxV hJ2
      dsimp only [encV] at hy
      gi_wp2
      refine ⟨fun _ => by omega, HR.out.mono ?_⟩
      have HK0 := Lib.hid (HKp.out.trans (KpS.of_below (below1 wr (.cells #[.int .i64 x.n, .string x.s, .bool x.t, .slice ao am ac] 51))))
      rintro e W3 (⟨rfl, hJ3, hk3⟩ | ⟨rfl, hJx3⟩)
      · have HK3 := Lib.hid (HK0.out.trans hk3)
        clear hk3
        gi_wp2
        go_roundw
        case rel => exact ⟨k + 1, pre ++ [(x.n, x.s)], by go_num, by omega, by unfold Hid; rw [List.append_assoc, List.singleton_append, ← HD.out]; exact HC.out, by unfold Hid; rw [List.length_append, HL.out]; rfl, hJ3, HK3.out⟩
        case measure => simp [intOf]; omega
      · gi_wp2
        refine bodyPost_ret (results_none rfl _ _ _) rfl ?_
        exact ⟨⟨_, rfl⟩, .inr ⟨pre ++ [(x.n, x.s)], ⟨by simp, by rw [HC.out, HD.out]; exact ⟨_, by rw [List.append_assoc]; rfl⟩⟩, hJx3⟩⟩
    · obtain rfl : k = 10 := by omega
      have HE2 : Hid (VP = pre) := by have := HC.out; unfold Hid; rw [List.drop_eq_nil_of_le (by decide), List.append_nil] at this; exact this
      gi_wp2
      refine bodyPost_end (results_none rfl _ _ _) rfl ?_
      exact ⟨⟨_, rfl⟩, .inl ⟨pre, HE2.out.symm, hJs⟩⟩
theorem verbs_stops (n : Nat) (hn : 4 ≤ n) (w : World) :
    SeqStopsK Fence.wide n Tryd.prog 29 #[] encV KpS (fun ys => ys = VP) (fun pre => pre ≠ [] ∧ pre <+: VP) VP.length w :=
  fun l J Jx W _ hJ _ hY h0 => verbs1_in n hn l J Jx W.heap.size hY hJ W (Nat.le_refl _) h0
theorem xVerbs_any (w : World) : Calls Tryd.prog 14 #[] w fun e w' => e = .returned (.func (.func 29) #[] #[]) ∧ w' = w := by
  go_enter Tryd.func14, Tryd.ntmps14
  go_wp2_with fail
  go_ret
  exact ⟨rfl, rfl⟩
end Go.Proofs.YtikkfbkpgejneaaDoor
/- The law CommandVerbs. -/
namespace Go.Proofs.YtikkfbkpgejneaaDoor
open Go.RowKit Go.Shelf
attribute [local go_sem] Oper.semAt_some

theorem bx_keepC {W W' : World} {row : Option Nat} {B t : Nat} {v : Value} (h : Boxed W B t v) (hg : W.grownBy W' row) (hr : ∀ r, row = some r → ∃ o : Obj, W.heap[r]? = some o ∧ o.isCells = false) : Boxed W' B t v :=
  h.kept hg (fun e => by obtain ⟨o, ho, hc⟩ := hr B e.symm; rw [show W.heap[B]? = _ from h] at ho; cases ho; cases hc)
theorem KeepsFrom.of_below {B : Nat} {W W' : World} (h : Below W.heap.size W W') : KeepsFrom B W W' :=
  KeepsFrom.of_grownBy (grown_of_below h) (fun j e => by cases e)
theorem vpre_step {l pre : List (Nat × ByteArray)} {x : Nat × ByteArray} (h : pre <+: l) (hx : l[pre.length]? = some x) : (pre ++ [x]) <+: l := by
  obtain ⟨r, rfl⟩ := h
  rw [List.getElem?_append_right (Nat.le_refl _)] at hx
  simp at hx
  cases r with
  | nil => simp at hx
  | cons y r => simp at hx; subst hx; exact ⟨r, by simp⟩
theorem vpre_bad {l pre : List (Nat × ByteArray)} {x m : Nat × ByteArray} (hx : l[pre.length]? = some m) (hne : ¬ x = m) : ¬ (pre ++ [x]) <+: l := by
  rintro ⟨r, rfl⟩
  simp at hx
  exact hne hx
theorem VP_at {i : Nat} (h : i < 10) : VP[i]? = some (i + 1, wordI (i + 1 : Nat)) := by
  obtain ⟨v, h1, h2, h3⟩ := VT_n i h
  unfold VP
  rw [List.getElem?_map, h1, h3]
  simp [h2]

/-- a range over a function, the variables in slots of the function's own -/
theorem wpIn_rangeFunc_slotsC {F : Fence} {n : Nat} {P : Program} {α : Type} {g : Operand} {ps : Array Tmp} {assign body : Code} {Q : Exit → Act → World → Prop} {a : Act} {w : World}
    (hro : F.round = none) (h1 : 1 ≤ n) {gf : Nat} {lb : Array Value} (hg : a.eval g = .func (.func gf) #[] lb) (hFg : F.fn gf) (eg : ∀ args w, (callFunc gf args).run P w = .ok (.enter gf args) w)
    {encs : α → Array Value} {Kp : World → World → Prop} {S Sp : List α → Prop} {N : Nat} {w0 : World} (hseq : SeqStopsK F (n - 1) P gf lb encs Kp S Sp N w0)
    (hKt : ∀ {A B C : World}, Kp A B → Kp B C → Kp A C) (hKr : ∀ W, Kp W W) (hKb : ∀ (W : World) (l : Nat) (o o' : Obj), w.heap.size ≤ l → W.heap[l]? = some o → o.isCells = false → o.isWalk = false → Kp W (W.putObj l o')) (hb0 : Below w0.heap.size w0 w) (hps : ∀ x, (encs x).size = ps.size)
    (T : α → Array Value) (I : List α → World → Prop) (Ix : Code → List α → World → Prop) (hI : OwnFrom w.heap.size I) (hIx : ∀ c, OwnFrom w.heap.size (Ix c)) (h0 : I [] w)
    (hassign : ∀ (l : Nat) (x : α) (W : World) (K : Act → World → Prop), K { tmps := T x, defers := [] } W →
      assign.wpIn (F.inRound l) (n - 1 - 1) P (Exit.then K (fun _ _ _ => False)) { tmps := (ps.zip (encs x)).foldl (fun t (p, v) => t.setIfInBounds p v) a.tmps, defers := [] } W)
    (hbody : ∀ (l : Nat) (pre : List α) (x : α) (W : World), I pre W → pre.length < N → body.wpIn (F.inRound l) (n - 1 - 1) P (ownPostG w.heap.size Kp I Ix (pre ++ [x]) W) { tmps := T x, defers := [] } W)
    (hdone : ∀ (D : Nat) (xs : List α) (W : World), w.heap.size ≤ D → S xs → I xs W → W.heap[D]? = some (.deferred (some [])) → Q .normal { a with defers := { target := .collected D, args := #[] } :: a.defers } W)
    (hstop : ∀ (D : Nat) (c : Code) (pre : List α) (W : World), w.heap.size ≤ D → Sp pre → Ix c pre W → W.heap[D]? = some (.deferred (some [])) → c.wpIn F n P Q { a with defers := { target := .collected D, args := #[] } :: a.defers } W) :
    (Code.rangeFunc g ps assign body).wpIn F n P Q a w := by
  refine wpIn_rangeFunc_ownH hro h1 hg hFg eg hseq hKt hKb hb0 hps I Ix hI hIx h0 (fun x a' _ => a' = { tmps := T x, defers := [] }) (fun x a' _ X Y row h _ _ => h) ?_ ?_ hdone hstop
  · intro l pre x W K hi hK
    exact hassign l x W K (hK _ _ (((show KeepsOthers W W from ⟨Nat.le_refl _, fun _ _ h _ => h⟩)).from _) (hKr W) hi rfl)
  · rintro l pre x a' W _ _ hi rfl hlt
    exact hbody l pre x W hi hlt
theorem toList_injC {a b : ByteArray} (h : a.toList = b.toList) : a = b := by
  have := beq_toList a b
  rw [h, beq_self_eq_true] at this
  exact of_decide_eq_true this.symm
set_option maxRecDepth 100000 in
set_option maxHeartbeats 6400000 in
theorem commandVerbs_in (n : Nat) (hn : 6 ≤ n) (leave : Int) (w : World) (hg : Gb w) :
    CallsIn Fence.wide n Tryd.prog 4 #[.int .i64 leave] w fun e w' => e = .returned (.bool true) ∧ Below w.heap.size w w' := by
  have h1 : 1 ≤ n := by omega
  have h8 := hg.sz
  have HH := Lib.hid (fun w2 (h : Below w.heap.size w w2) => head_any w2 (hg.below (B := w.heap.size) h8 h))
  clear hg
  have HB0 : Hid (Below w.heap.size w ((w.alloc (.cells #[.int .i64 leave] 3)).alloc (.cells #[.bool false] 4))) := below2 _ _ _
  have bl0 : Boxed ((w.alloc (.cells #[.int .i64 leave] 3)).alloc (.cells #[.bool false] 4)) w.heap.size 3 (.int .i64 leave) := (Boxed.new w _ _).alloc _
  have br0 : Boxed ((w.alloc (.cells #[.int .i64 leave] 3)).alloc (.cells #[.bool false] 4)) (w.heap.size + 1) 4 (.bool false) := by
    have := Boxed.new (w.alloc (.cells #[.int .i64 leave] 3)) 4 (.bool false)
    simp only [World.size_alloc] at this
    exact this
  refine callsIn_of_wp_marks Tryd.func4 rfl trivial ?_ rfl
  simp only [Tryd.ntmps4, List.size_toArray, List.length_cons, List.length_nil, Nat.reduceAdd, Nat.reduceSub, Array.replicate_succ, Array.replicate_zero, List.push_toArray, List.append_toArray, List.nil_append, List.cons_append]
  gi_wp2_with fail
  generalize ((w.alloc (.cells #[.int .i64 leave] 3)).alloc (.cells #[.bool false] 4)) = w0 at *
  refine ⟨trivial, (callsIn_wide.2 (HH.out _ HB0.out)).mono ?_⟩
  rintro e w1 ⟨rfl, hb1⟩
  have bl1 : Boxed w1 w.heap.size 3 (.int .i64 leave) := (hb1.block _ bl0.lt).trans bl0
  have br1 : Boxed w1 (w.heap.size + 1) 4 (.bool false) := (hb1.block _ br0.lt).trans br0
  have HB1 := Lib.hid (HB0.out.trans (hb1.mono HB0.out.size))
  clear hb1 HB0 bl0 br0
  gi_wp2_with fail
  refine ⟨trivial, (callsIn_wide.2 (xVerbs_any _)).mono ?_⟩
  rintro e w2 ⟨rfl, rfl⟩
  have HB2 : Hid (Below w.heap.size w (w1.alloc (.cells #[.int .i64 0] 3))) := HB1.out.trans ((below1 w1 _).mono HB1.out.size)
  have bl2 := bl1.alloc (.cells #[.int .i64 0] 3)
  have br2 := br1.alloc (.cells #[.int .i64 0] 3)
  have bk2 := Boxed.new w1 3 (.int .i64 0)
  have hlt2 := br1.lt
  clear HB1 bl1 br1
  gi_wp2
  generalize hBk : w1.heap.size = Bk at *
  generalize w1.alloc (.cells #[.int .i64 0] 3) = w4 at *
  have hBk2 : w.heap.size + 1 < Bk := by omega
  clear hBk
  refine wpIn_rangeFunc_slotsC rfl h1 (gf := 29) (lb := #[]) rfl trivial (enters_of Tryd.func29 (by kernel_rfl) rfl)
    (verbs_stops (n - 1) (by omega) w4) KpS.trans KpS.refl (fun W l o o' hl h ho hw => KpS.putObj W l o o' hl h ho hw) (Below.refl _ _) (fun _ => rfl)
    ?T (fun pre W => Below w.heap.size w W ∧ Boxed W w.heap.size 3 (.int .i64 leave) ∧ Boxed W Bk 3 (.int .i64 pre.length) ∧ Boxed W (w.heap.size + 1) 4 (.bool false) ∧ Hid (pre <+: VP))
    (fun c pre W => c = .ret ∧ ((¬ pre <+: VP) ∨ (Boxed W (w.heap.size + 1) 4 (.bool true) ∧ Below w.heap.size w W))) ?hI ?hIx ⟨HB2.out, bl2, bk2, br2, List.nil_prefix⟩ ?assign ?body ?done ?stop
  case assign =>
    intro l x W K hK
    dsimp only [encV]
    gi_wp2
    exact hK
  case hI =>
    intro p X Y row h hg hr
    have hr' : ∀ r, row = some r → ∃ o : Obj, X.heap[r]? = some o ∧ o.isCells = false := fun r e => (hr r e).2
    have hw4 := HB2.out.size
    exact ⟨h.1.grown hg h.1.size (fun k e => by have := (hr k e).1; omega), bx_keepC h.2.1 hg hr', bx_keepC h.2.2.1 hg hr', bx_keepC h.2.2.2.1 hg hr', h.2.2.2.2⟩
  case hIx =>
    intro c p X Y row h hg hr
    have hw4 := HB2.out.size
    refine ⟨h.1, h.2.imp id fun h2 => ⟨bx_keepC h2.1 hg (fun r e => (hr r e).2), h2.2.grown hg h2.2.size (fun k e => by have := (hr k e).1; omega)⟩⟩
  case stop =>
    rintro D c pre W hD ⟨hne, hpre⟩ ⟨rfl, h⟩ hKD
    have hw4 := HB2.out.size
    rcases h with hbad | ⟨hR, hB⟩
    · exact absurd hpre hbad
    · have r11 : Boxed (W.putObj D (.deferred none)) (w.heap.size + 1) 4 (.bool true) := bx_keepC hR (grownBy_putObj' _ _ _) (fun r e => by cases e; exact ⟨_, hKD, rfl⟩)
      have b11 := hB.trans (belowK_b (w := w) (Nat.le_refl _) W D _ (.deferred none) (by omega) hKD rfl rfl)
      gi_wp2
      refine ⟨by simp, .inl ⟨_, _, rfl, run_takeDeferred hKD, ?_⟩⟩
      refine ⟨.bool true, ?_, rfl, b11⟩
      have c12 := r11.cell
      simp [results, Tryd.f4, go_sem, c12]
  case done =>
    rintro D xs W hD rfl ⟨hB, hL, hK, hR, _⟩ hKD
    have hw4 := HB2.out.size
    rw [VP_len] at hK
    gi_wp2_with fail
    refine ⟨trivial, (callsIn_wide.2 (HH.out _ hB)).mono ?_⟩
    rintro e w6 ⟨rfl, hb6⟩
    have hK6 : Boxed w6 Bk 3 (.int .i64 10) := (hb6.block _ hK.lt).trans hK
    have hR6 : Boxed w6 (w.heap.size + 1) 4 (.bool false) := (hb6.block _ hR.lt).trans hR
    have hKD6 := (hb6.block D (Array.getElem?_eq_some_iff.1 hKD).1).trans hKD
    have HB6 := Lib.hid (hB.trans (hb6.mono hB.size))
    have cK := hK6.cell
    have cR := hR6.cell
    have fR := hR6.frozen
    have HR6 := Lib.hid hR6
    clear hB hL hK hR hb6 hK6 hR6 hKD
    gi_wp2
    have s1 := (KeepsOthers.setCell w6 ⟨w.heap.size + 1, 0, none⟩ (.bool true)).same D _ hKD6 rfl
    have r10 := Boxed.set (.bool true) HR6.out
    have hbel10 : Below w.heap.size w (w6.setCell ⟨w.heap.size + 1, 0, none⟩ (.bool true)) := HB6.out.setCell (p := ⟨w.heap.size + 1, 0, none⟩) (by show w.heap.size ≤ w.heap.size + 1; omega) _
    have r11 : Boxed ((w6.setCell ⟨w.heap.size + 1, 0, none⟩ (.bool true)).putObj D (.deferred none)) (w.heap.size + 1) 4 (.bool true) := bx_keepC r10 (grownBy_putObj' _ _ _) (fun r e => by cases e; exact ⟨_, s1, rfl⟩)
    have b11 := hbel10.trans (belowK_b (w := w) (Nat.le_refl _) _ D _ (.deferred none) (by omega) s1 rfl rfl)
    refine ⟨by simp, .inl ⟨_, _, rfl, run_takeDeferred s1, ?_⟩⟩
    refine ⟨.bool true, ?_, rfl, b11⟩
    have c12 := r11.cell
    simp [results, Tryd.f4, go_sem, c12]
  case body =>
    rintro l pre x W ⟨hB, hL, hK, hR, HP⟩ hlt
    rw [VP_len] at hlt
    have hm := VP_at hlt
    have cL := hL.cell
    have cK := hK.cell
    have fK := hK.frozen
    have cR := hR.cell
    have fR := hR.frozen
    have HB := Lib.hid hB
    have HL := Lib.hid hL
    have HK := Lib.hid hK
    have HR := Lib.hid hR
    have HM := Lib.hid hm
    have hBl := hL.lt
    clear hB hL hK hR hm
    obtain ⟨xn, xs⟩ := x
    have HW := Lib.hid (rWord_any ((pre.length + 1 : Nat) : Int))
    obtain ⟨z, hz⟩ : ∃ z : Int, z = (pre.length : Int) + 1 := ⟨_, rfl⟩
    obtain ⟨m, hmm⟩ : ∃ m, m = wordI ((pre.length + 1 : Nat) : Int) := ⟨_, rfl⟩
    rw [← hmm] at HW HM
    have hnz : ((pre.length + 1 : Nat) : Int) = (pre.length : Int) + 1 := by omega
    rw [hnz] at HW
    clear hmm hz hnz
    by_cases hx1 : xn = pre.length + 1
    · have hjj : ((xn : Int) != (pre.length : Int) + 1) = false := by simp; omega
      by_cases hx2 : xs = m
      · subst hx2
        have hx3 : (xs.toList != xs.toList) = false := by simp
        have hstep : Hid ((pre ++ [(xn, xs)]) <+: VP) := vpre_step HP.out (by rw [hx1]; exact HM.out)
        clear hx1
        gi_wp2_with fail
        refine ⟨trivial, (by intro h; cases h), ((callsIn_wide.2 (HW.out _)).inRound l).mono ?_⟩
        rintro e w5 ⟨rfl, rfl⟩
        by_cases hle : (pre.length : Int) + 1 = leave
        · have hq : ((pre.length : Int) + 1 == leave) = true := by simpa using hle
          clear hle
          gi_wp2_with fail
          have hB5 : Below w.heap.size w (W.setCell ⟨Bk, 0, none⟩ (.int .i64 ((pre.length : Int) + 1))) := HB.out.setCell (p := ⟨Bk, 0, none⟩) (by show w.heap.size ≤ Bk; omega) _
          have hR5 : Boxed (W.setCell ⟨Bk, 0, none⟩ (.int .i64 ((pre.length : Int) + 1))) (w.heap.size + 1) 4 (.bool false) := HR.out.other (by omega) _
          refine ⟨trivial, (by intro h; cases h), ((callsIn_wide.2 (HH.out _ hB5)).inRound l).mono ?_⟩
          rintro e w6 ⟨rfl, hb6⟩
          have hR6 : Boxed w6 (w.heap.size + 1) 4 (.bool false) := (hb6.block _ hR5.lt).trans hR5
          have hB6 := hB5.trans (hb6.mono hB5.size)
          have hKO : KeepsOthers W w6 := (KeepsOthers.setCell W ⟨Bk, 0, none⟩ (.int .i64 (pre.length + 1))).trans (KeepsOthers.of_grownBy (grown_of_below hb6) (fun j o ej _ => by cases ej))
          have cR6 := hR6.cell
          have fR6 := hR6.frozen
          clear hb6 hR5 hB5
          gi_wp2
          exact ⟨(hKO.trans (KeepsOthers.setCell _ _ _)).from _, rfl, .inr ⟨Boxed.set _ hR6, hB6.setCell (p := ⟨w.heap.size + 1, 0, none⟩) (by show w.heap.size ≤ w.heap.size + 1; omega) _⟩⟩
        · have hq : ((pre.length : Int) + 1 == leave) = false := by simpa using hle
          clear hle
          gi_wp2
          refine ⟨(KeepsOthers.setCell _ _ _).from _, KpS.setBox HK.out (fun s => by simp) _, HB.out.setCell (p := ⟨Bk, 0, none⟩) (by show w.heap.size ≤ Bk; omega) _, HL.out.other (by omega) _, ?_, HR.out.other (by omega) _, hstep⟩
          rw [List.length_append]
          exact Boxed.set _ HK.out
      · have hx3 : (xs.toList != m.toList) = true := by
          simp only [bne_iff_ne, ne_eq]
          exact fun h => hx2 (toList_injC h)
        have hx4 : (xs.toList == m.toList) = false := by
          simp only [beq_eq_false_iff_ne, ne_eq]
          exact fun h => hx2 (toList_injC h)
        have hbad := vpre_bad (x := (xn, xs)) HM.out (fun h => hx2 (Prod.mk.inj h).2)
        clear hx2 hx1
        gi_wp2_with fail
        refine ⟨trivial, (by intro h; cases h), ((callsIn_wide.2 (HW.out _)).inRound l).mono ?_⟩
        rintro e w5 ⟨rfl, rfl⟩
        gi_wp2
        exact ⟨((KeepsOthers.setCell _ _ _).trans (KeepsOthers.setCell _ _ _)).from _, rfl, .inl hbad⟩
    · have hjj : ((xn : Int) != (pre.length : Int) + 1) = true := by simp; omega
      have hbad := vpre_bad (x := (xn, xs)) HM.out (fun h => hx1 (Prod.mk.inj h).1)
      clear hx1
      gi_wp2_with fail
      refine ⟨trivial, ?_⟩
      gi_wp2
      exact ⟨((KeepsOthers.setCell _ _ _).trans (KeepsOthers.setCell _ _ _)).from _, rfl, .inl hbad⟩
theorem commandVerbs_any (leave : Int) (w : World) (hg : Gb w) :
    Calls Tryd.prog 4 #[.int .i64 leave] w fun e w' => e = .returned (.bool true) ∧ Below w.heap.size w w' :=
  callsIn_wide.1 (commandVerbs_in 8 (by omega) leave w hg)
end Go.Proofs.YtikkfbkpgejneaaDoor
namespace Go.Proofs.YtikkfbkpgejneaaDoor.commandVerbs
open Go.ChangeShapes Go.WideShapes Go.ChangeAt Go.RowKit
open Go.ChangeMaps (open_string shut_string)

theorem own : ownKnob Tryd.prog.godebug = none := by kernel_rfl

set_option maxRecDepth 100000 in
theorem contract (H : Type) (enc : TypeId × Value → H) (W : World) (base : Nat) (args : Array Value) (ds gs : List (DataW H)) (before : List MemPlace)
    (hval : ∀ (j : Nat) t v, Tryd.f4.params[j]? = some t → args[j]? = some v → Value.okWide Tryd.prog W .any base t v)
    (hW : DataW.Whole enc Tryd.prog Tryd.f4.params.toList Rows.commandVerbsSpec.vars false W args.toList ds gs before)
    (hsz : (DataW.weightsEach Tryd.prog (Tryd.f4.params.toList ++ Rows.commandVerbsSpec.plain.varTypes Tryd.prog) (ds ++ gs)).all (· ≤ reachBytes) = true)
    (hL : laidMetH Tryd.prog Rows.commandVerbsRow.laid W) (hsh : W.ShapedOpen Tryd.prog) :
    Calls Tryd.prog 4 args W fun e W' => ∃ v, e = .returned v ∧ Rows.commandVerbsSpec.post enc Tryd.prog Tryd.f4 false true false false W args v W' := by
  have hW' := hW
  obtain ⟨p, q, hA0, hV, rfl, hfz, hnd⟩ := hW
  have hA : DataW.TrodAll enc Tryd.prog W 0 (fun _ => true) true Tryd.f4.params.toList args.toList ds p := hA0
  rw [Tryd.params4] at hA hval hsz
  obtain ⟨v0, vs0, d0, ds0, p0, q0, hargs, rfl, rfl, h0, r0⟩ := trodAll_cons hA
  obtain ⟨rfl, rfl, rfl⟩ := trodAll_nil r0
  obtain rfl : args = #[v0] := by cases args; simp_all
  obtain ⟨rfl, rfl⟩ := trodVars_none hV
  obtain ⟨a0, rfl, rfl, rfl, w0⟩ := open_int Tryd.underlying3 (hval 0 3 v0 rfl rfl) h0
  clear hA0
  simp only [List.append_nil] at hW'
  refine (commandVerbs_any a0 W (gb_of hL hsh)).mono fun e W' ⟨he, bel⟩ => ?_
  subst he
  exact ⟨_, rfl, _, _, _, [], _, [], hW', trodAll_mk1 (shut_bool Tryd.underlying4 _), (trodAll_cons_mk (shut_int Tryd.underlying3 w0) trodAll_mk0), rfl, bel.frame _, fun h => by cases h⟩

theorem reads (os : Os) {H : Type} (enc : TypeId × Value → H) : ∃ places, DataW.whole enc Tryd.prog ((laidWorld os).forCall (fun _ _ => 0) ⟨#[], #[.int .i64 0], []⟩).memory Tryd.f4.params.toList Rows.commandVerbsSpec.vars false (#[.int .i64 0] : Array Value).toList 8 = some ([.lit (.int .i64 0)], [], places) :=
  ⟨[], by kernel_rfl⟩

set_option maxRecDepth 100000 in
theorem lifted (os : Os) (started : os.Started) (H : Type) (enc : TypeId × Value → H) (F : Stop.Interp) :
    ReturnsInHanded {} Tryd.checked os 4 .any ((OpenSpec.ofChange Rows.commandVerbsSpec).preRow enc Tryd.prog Tryd.f4 Rows.commandVerbsRow.domain false Rows.commandVerbsRow.laid) (((OpenSpec.ofChange Rows.commandVerbsSpec).at F).post enc Tryd.prog Tryd.f4 false true false false) := by
  obtain ⟨places, hx⟩ := reads os enc
  refine returnsInHanded_of_row (C := Tryd.checked) (s := OpenSpec.ofChange Rows.commandVerbsSpec) own started (by kernel_rfl) Tryd.func4
    (witness_row_atRef (enc := enc) (C := Tryd.checked) false (laidWorld os) #[.int .i64 0] rfl (by kernel_rfl) (by kernel_rfl) (by kernel_rfl)
      (OpenSpec.preRow_of_cond 8 hx (by kernel_rfl) (fun k hk => by cases hk) (by kernel_rfl) (laidWorld_met os _))) ?_
  intro W base args ds gs before hval hW _ _ hsz hL hsh _
  exact contract H enc W base args ds gs before hval hW hsz hL hsh

theorem said : Rows.CommandVerbsSaid :=
  OpenClaim.holds_of_cond 4 Tryd.f4 rfl rfl rfl rfl rfl rfl rfl ⟨rfl, rfl, rfl, rfl, rfl⟩ rfl rfl rfl rfl rfl (by kernel_rfl) Tryd.func4 (by kernel_rfl)
    (of_decide_eq_true (by kernel_rfl)) (by unfold Func.isWrapper; first | (rw [if_pos (by decide +kernel)]; kernel_rfl) | (rw [if_neg (by decide +kernel)]; exact ⟨rfl, rfl⟩))
    (fun os started H enc _ F => by rw [OpenClaim.pre_eq_preRow]; exact lifted os started H enc F)

/-- No parameter wants a stand-in; the program's looks are on: what the card asks. -/
theorem plain (f : FuncId) (fn : Func) (hf : Tryd.pinned.checked.prog.funcNamed "byway/bywaylaw30.CommandVerbs" = some f) (hfn : Tryd.pinned.checked.prog.funcs[f]? = some fn) :
    true = Tryd.pinned.checked.prog.looks [] ∧ ∀ (j : Nat) t, fn.params[j]? = some t → Tryd.pinned.checked.prog.wantsStandIn t = false := by
  obtain rfl : f = 4 := Option.some.inj ((show Tryd.prog.funcNamed "byway/bywaylaw30.CommandVerbs" = some 4 by kernel_rfl).symm.trans hf) |>.symm
  obtain rfl : fn = Tryd.f4 := (Option.some.inj (Tryd.func4.symm.trans hfn)).symm
  refine ⟨by kernel_rfl, fun j t ht => ?_⟩
  rw [Tryd.params4] at ht
  obtain rfl : t = 3 := by simpa using Array.mem_of_getElem? ht
  exact (show Tryd.prog.wantsStandIn 3 = false by kernel_rfl)

theorem proved : Rows.CommandVerbsCardSaid :=
  Claim7.holds_tied_plain_at .later [] _ _ _ _ said (fun _ h => by cases h) (by kernel_rfl) (fun _ h => by cases h) commandVerbs_row_tie rfl ⟨rfl, rfl⟩ (by kernel_rfl) rfl plain (by kernel_rfl)
#print axioms proved
end Go.Proofs.YtikkfbkpgejneaaDoor.commandVerbs
