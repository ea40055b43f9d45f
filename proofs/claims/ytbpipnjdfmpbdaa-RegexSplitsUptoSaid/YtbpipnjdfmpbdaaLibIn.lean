import Derived.Test.YtbpipnjdfmpbdaaLib
import Derived.RangeFuncNested
import Derived.RangeFuncBound
import Derived.RangeFuncCalls
import Derived.RangeFuncLeaves
import Derived.Shelf.Abstract
import Derived.Shelf.RegionOpen
import Derived.OwnWalkIn
import Derived.TacticsInMore
import Derived.LoopNIn
import Derived.LoopIn
import Derived.Laws.OwnMore
import Derived.ArgAppend
import Derived.Sort.QuietIn
namespace Go.Proofs.Ytbpipnjdfmpbdaa
open Go.RowKit Go.Shelf

theorem grown_of_below {w w' : World} (h : Below w.heap.size w w') : w.grownBy w' none := ⟨h.os, h.tape, h.output, h.size, fun k hk _ => h.block k hk⟩

/-- each block of one element of type e (a loop variable's box) lies as it lay -/
def KeepsOnes (e size : Nat) (W W' : World) : Prop := ∀ (b : Nat) (c : Array Value) (fr : Nat × Nat), W.heap[b]? = some (Obj.cells c e fr) → c.size = size → W'.heap[b]? = W.heap[b]?
theorem KeepsOnes.refl (e size : Nat) (W : World) : KeepsOnes e size W W := fun _ _ _ _ _ => rfl
theorem KeepsOnes.trans {e size : Nat} {A B C : World} (h : KeepsOnes e size A B) (k : KeepsOnes e size B C) : KeepsOnes e size A C :=
  fun b c fr hb hc => by rw [k b c fr (by rw [h b c fr hb hc]; exact hb) hc, h b c fr hb hc]
theorem KeepsOnes.of_below {e size : Nat} {A B : World} (h : Below A.heap.size A B) : KeepsOnes e size A B :=
  fun b _ _ hb _ => h.block b (Array.getElem?_eq_some_iff.1 hb).1
theorem KeepsOnes.alloc (e size : Nat) (W : World) (o : Obj) : KeepsOnes e size W (W.alloc o) := .of_below (below1 W o)
/-- a store into a box of another type -/
theorem KeepsOnes.setCell {e size t : Nat} {W : World} {B : Nat} {v : Value} (h : Boxed W B t v) (hne : t ≠ e) (o : Nat) (u : Value) : KeepsOnes e size W (W.setCell ⟨B, o, none⟩ u) := by
  intro b c fr hb hc
  by_cases hB : b = B
  · subst hB; have := (show W.heap[b]? = _ from h).symm.trans hb; simp at this; exact absurd this.2.1 hne
  · exact Below.heap_setCell _ _ _ _ hB
theorem KeepsOnes.putObj {e size : Nat} {W : World} {l : Nat} {o : Obj} (h : W.heap[l]? = some o) (ho : o.isCells = false) (o' : Obj) : KeepsOnes e size W (W.putObj l o') := by
  intro b c fr hb hc
  by_cases hB : b = l
  · subst hB; rw [h] at hb; cases hb; simp [Obj.isCells] at ho
  · exact World.putObj_heap_other hB

/-- append of one element to an owned row: what is kept -/
theorem run_app1 {P : Program} {t e : TypeId} {size bytes : Nat} (hE : ElemOK P t e size bytes) (hs2 : 1 ≤ size) {B : Nat} {w : World} (ty : TypeId) {v : Value} {n : Nat} {xs : List Value} (hown : w.ownsRow B e size v n xs) (hnil : n = 0 → v = .slice none 0 0)
    (ad : Addr) {news : List Value} (hl : news.length = size) (hnews : ∀ j u, news[j]? = some u → w.cell? (ad.add j) = some u) (h1 : ∀ u ∈ news, u.oneCell' = true) (c : Nat)
    (hn : n < 4294967296) (hby : bytes ≤ 16384) (hB : B ≤ w.heap.size) :
    ∃ v' w', (Builtin.append_ #[t, t] ty #[v, .slice (some ad) 1 c]).run P w = .ok v' w' ∧ w'.ownsRow B e size v' (n + 1) (xs ++ news) ∧ w.grownBy w' v.ownBlock ∧ KeepsOnes e size w w' ∧ (∃ g cap, v' = .slice (some ⟨g, 0, none⟩) (n + 1) cap) := by
  obtain ⟨i, z, ht, hi, hz, hz1, hz2, hz3, hz4⟩ := hE.ex
  have hb : (n + 1) * bytes ≤ 140737488355328 := by
    have : (n + 1) * bytes ≤ 4294967296 * 16384 := Nat.mul_le_mul (by omega) hby
    omega
  have shape : ∀ {w' : World} {v' : Value}, w'.ownsRow B e size v' (n + 1) (xs ++ news) → ∃ g cap, v' = .slice (some ⟨g, 0, none⟩) (n + 1) cap := by
    intro w' v' h
    rcases h.2 with ⟨h, h'⟩ | ⟨g, cap, _, h, _⟩
    · omega
    · exact ⟨g, cap, h⟩
  rcases hown.2 with ⟨hv, hn0⟩ | ⟨g, cap, cur, hv, hBg, hg, hnc, hcm, hcs, htk⟩
  · obtain ⟨v', w', hr, h2, h3, _⟩ := run_append_own (P := P) w B t ty e i z size bytes ht hi hz hz1 hz2 hz3 hz4 v n xs hown ad 1 c news (by omega) hnews h1 (by unfold maxLen; omega) hb hB
    refine ⟨v', w', hr, h2, h3, ?_, shape h2⟩
    intro b cc fr hbb _
    exact h3.block b (Array.getElem?_eq_some_iff.1 hbb).1 (by rw [hv]; simp [Value.ownBlock])
  · subst hv
    have hn1 : 1 ≤ n := by
      rcases Nat.eq_zero_or_pos n with h | h
      · have := hnil h; simp at this
      · exact h
    by_cases hroom : n + 1 ≤ cap
    · obtain ⟨w', hr, h2, h3⟩ := run_append_fits (P := P) w B t ty e i size ht hi hz1 g n cap xs hown ad 1 c news (by omega) hnews h1 hroom
      refine ⟨_, w', hr, h2, h3, ?_, ⟨g, cap, rfl⟩⟩
      intro b cc fr hbb hcc
      refine h3.block b (Array.getElem?_eq_some_iff.1 hbb).1 ?_
      intro e'
      obtain rfl : b = g := by simpa using e'
      rw [hg] at hbb
      simp at hbb
      rw [← hbb.1, hcs] at hcc
      have : 2 * size ≤ cap * size := Nat.mul_le_mul_right _ (by omega)
      omega
    · obtain ⟨v', w', hr, h2, h3⟩ := run_append_arg_grows (P := P) w t ty e i z size bytes ht hi hz hz1 hz2 hz3 hz4 ⟨g, 0, none⟩ n cap xs hown.1 (fun j u hj => hown.cells rfl j u hj) ad 1 c news (by omega) hnews (by omega) (by unfold maxLen; omega) hb
      have h2' : w'.ownsRow B e size v' (n + 1) (xs ++ news) := by
        refine ⟨h2.1, ?_⟩
        rcases h2.2 with ⟨_, h'⟩ | ⟨g2, cap2, cur2, k1, k2, k3⟩
        · omega
        · exact .inr ⟨g2, cap2, cur2, k1, by omega, k3⟩
      refine ⟨v', w', hr, h2', ⟨h3.os, h3.tape, h3.output, h3.size, fun k hk _ => h3.block k hk (by simp)⟩, ?_, shape h2'⟩
      intro b cc fr hbb _
      exact h3.block b (Array.getElem?_eq_some_iff.1 hbb).1 (by simp)

/-- the fenced law: 'x = append(x, m)', x in a box Bx, one new element -/
theorem wpListIn_app1 {F : Fence} {n' : Nat} {P : Program} {t e : TypeId} {size bytes : Nat} (hE : ElemOK P t e size bytes) (hs2 : 1 ≤ size) {B : Nat} {wr : World} {ops : Array Oper} {rest : List Oper} {o : Oper} {a : Act} {Q : Exit → Act → World → Prop} (hgd : o.guard = none) (s x : Operand)
    (ho : o.op = .call { callee := .builtin .append, args := #[s, x], argTypes := #[t, t] })
    {v : Value} {n : Nat} {xs : List Value} (hown : wr.ownsRow B e size v n xs) (hnil : n = 0 → v = .slice none 0 0) (hs : a.eval s = v)
    {news : List Value} (hx : a.eval x = .slice (some ⟨wr.heap.size, 0, none⟩) 1 1) (hl : news.length = size) (h1 : ∀ u ∈ news, u.oneCell' = true)
    (hn : n < 4294967296) (hby : bytes ≤ 16384) (hB : B ≤ wr.heap.size)
    (h : ∀ v' w', w'.ownsRow B e size v' (n + 1) (xs ++ news) → (wr.alloc (.cells news.toArray e)).grownBy w' v.ownBlock → KeepsOnes e size (wr.alloc (.cells news.toArray e)) w' → (∃ g cap, v' = .slice (some ⟨g, 0, none⟩) (n + 1) cap) → wpListIn F n' P ops Q rest (a.put o.dst v') w') :
    wpListIn F n' P ops Q (o :: rest) a (wr.alloc (.cells news.toArray e)) := by
  refine wpListIn_plain hgd fun K hK' => ?_
  obtain ⟨v', w', hrun, r1, r2, r3, r4⟩ := run_app1 (P := P) hE hs2 o.type (hown.alloc (.cells news.toArray e)) hnil ⟨wr.heap.size, 0, none⟩ hl (cells_new wr news e) h1 1 hn hby (by simp; omega)
  unfold Oper.wpIn
  refine ⟨?_, ?_⟩
  · simp [Oper.about, ho, resolve, Target.leads, Sem.run_pure]
  · rw [Oper.semAt_plain F _ _ (by rw [ho]; intro c hc'; cases hc')]
    simp [execOp, ho, resolve, invoke, builtin, hs, hx, hrun, Result.andThen]
    exact hK' _ _ (h v' w' r1 r2 r3 r4)

/-- a range over a function whose one loop variable lies in a box (slot q), laid anew each round -/
theorem wpIn_rangeFunc_boxed {F : Fence} {n : Nat} {P : Program} {α : Type} {g : Operand} {p q : Tmp} {assign body : Code} {Q : Exit → Act → World → Prop} {a : Act} {w : World}
    (hro : F.round = none) (h1 : 1 ≤ n) {gf : Nat} {lb : Array Value} (hg : a.eval g = .func (.func gf) #[] lb) (hFg : F.fn gf) (eg : ∀ args w, (callFunc gf args).run P w = .ok (.enter gf args) w)
    {enc1 : α → Value} {Kp : World → World → Prop} {S Sp : List α → Prop} {N : Nat} {w0 : World} (hseq : SeqStopsK F (n - 1) P gf lb (fun x => #[enc1 x]) Kp S Sp N w0)
    (hKt : ∀ {A B C : World}, Kp A B → Kp B C → Kp A C) (hKb : ∀ (W : World) (l : Nat) (o o' : Obj), w.heap.size ≤ l → W.heap[l]? = some o → o.isCells = false → o.isWalk = false → Kp W (W.putObj l o')) (hb0 : Below w0.heap.size w0 w)
    (cellsOf : α → Array Value) (e : TypeId) (I : List α → World → Prop) (Ix : Code → List α → World → Prop) (hI : OwnFrom w.heap.size I) (hIx : ∀ c, OwnFrom w.heap.size (Ix c)) (h0 : I [] w)
    (hle : ∀ pre W, I pre W → w.heap.size ≤ W.heap.size) (hKa : ∀ pre W o, I pre W → Kp W (W.alloc o))
    (hassign : ∀ (l : Nat) (x : α) (W : World) (K : Act → World → Prop), K { tmps := (a.tmps.setIfInBounds p (enc1 x)).setIfInBounds q (.pointer (some ⟨W.heap.size, 0, none⟩)), defers := [] } (W.alloc (.cells (cellsOf x) e)) →
      assign.wpIn (F.inRound l) (n - 1 - 1) P (Exit.then K (fun _ _ _ => False)) { tmps := a.tmps.setIfInBounds p (enc1 x), defers := [] } W)
    (hbody : ∀ (l : Nat) (pre : List α) (x : α) (Bx : Nat) (W : World), I pre W → w.heap.size ≤ Bx → W.heap[Bx]? = some (.cells (cellsOf x) e (0, 0)) → pre.length < N →
      body.wpIn (F.inRound l) (n - 1 - 1) P (ownPostG w.heap.size Kp I Ix (pre ++ [x]) W) { tmps := (a.tmps.setIfInBounds p (enc1 x)).setIfInBounds q (.pointer (some ⟨Bx, 0, none⟩)), defers := [] } W)
    (hdone : ∀ (D : Nat) (xs : List α) (W : World), w.heap.size ≤ D → S xs → I xs W → W.heap[D]? = some (.deferred (some [])) → Q .normal { a with defers := { target := .collected D, args := #[] } :: a.defers } W)
    (hstop : ∀ (D : Nat) (c : Code) (pre : List α) (W : World), w.heap.size ≤ D → Sp pre → Ix c pre W → W.heap[D]? = some (.deferred (some [])) → c.wpIn F n P Q { a with defers := { target := .collected D, args := #[] } :: a.defers } W) :
    (Code.rangeFunc g #[p] assign body).wpIn F n P Q a w := by
  refine wpIn_rangeFunc_ownH hro h1 hg hFg eg hseq hKt hKb hb0 (fun _ => rfl) I Ix hI hIx h0
    (fun x a' W => ∃ Bx, w.heap.size ≤ Bx ∧ W.heap[Bx]? = some (.cells (cellsOf x) e (0, 0)) ∧ a' = { tmps := (a.tmps.setIfInBounds p (enc1 x)).setIfInBounds q (.pointer (some ⟨Bx, 0, none⟩)), defers := [] }) ?_ ?_ ?_ hdone hstop
  · intro x a' _ X Y row h hg hr
    obtain ⟨Bx, k1, k2, k3⟩ := h
    refine ⟨Bx, k1, (hg.block Bx (Array.getElem?_eq_some_iff.1 k2).1 ?_).trans k2, k3⟩
    intro ee
    obtain ⟨_, o, ho, hc⟩ := hr Bx ee.symm
    rw [k2] at ho; cases ho; simp [Obj.isCells] at hc
  · intro l pre x W K hi hK
    have e1 : ∀ (f : Array Value → Tmp × Value → Array Value), (#[p].zip #[enc1 x]).foldl f a.tmps = f a.tmps (p, enc1 x) := by intro f; simp
    rw [e1]
    refine hassign l x W K ?_
    exact hK _ _ ((KeepsOthers.alloc W _).from _) (hKa pre W _ hi) (hI.alloc _ hi) ⟨W.heap.size, hle pre W hi, World.alloc_heap_new W _, rfl⟩
  · rintro l pre x a' W _ _ hi ⟨Bx, k1, k2, rfl⟩ hlt
    exact hbody l pre x Bx W hi k1 k2 hlt

/-! ### a region that draws its order and only reads, within a round -/
theorem wpOpIn_inRound {F : Fence} {n : Nat} {P : Program} {ops : Array Oper} {Q : Exit → Act → World → Prop} {l i : Nat} {K K' : Act → World → Prop} {a : Act} {w : World}
    (hnd : ∀ (i : Nat) (o : Oper) c, ops[i]? = some o → o.op ≠ .defer c) (hk : ∀ a w, K a w → K' a w) (h : wpOpIn F n P ops Q i K a w) : wpOpIn (F.inRound l) n P ops Q i K' a w := by
  unfold wpOpIn at h ⊢
  cases ho : ops[i]? with
  | none => rw [ho] at h; exact hk _ _ h
  | some o =>
    rw [ho] at h
    dsimp only at h ⊢
    split
    · rename_i hw
      rw [if_pos hw] at h
      have h2 := Oper.wpIn_mono hk h
      unfold Oper.wpIn at h2 ⊢
      rw [Oper.semAt_eq _ _ _ (hnd i o · ho)] at h2 ⊢
      exact h2
    · rename_i hw
      rw [if_neg hw] at h
      exact ⟨h.1, hk _ _ h.2⟩
theorem wpAnyIn_inRound {F : Fence} {n : Nat} {P : Program} {md : Region.Mode} {ops : Array Oper} {Q : Exit → Act → World → Prop} {l : Nat} (hnd : ∀ (i : Nat) (o : Oper) c, ops[i]? = some o → o.op ≠ .defer c) :
    ∀ (fuel : Nat) (listed : Array Bool) (a : Act) (w : World), wpAnyIn F n P md ops Q fuel listed a w → wpAnyIn (F.inRound l) n P md ops Q fuel listed a w
  | 0, _, _, _, h => h
  | fuel + 1, _, _, _, h => ⟨h.1, fun i hi => wpOpIn_inRound hnd (wpAnyIn_inRound hnd fuel _) (h.2 i hi)⟩
def noDefer (ops : Array Oper) : Bool := ops.all fun o => match o.op with | .defer _ => false | _ => true
theorem noDefer_spec {ops : Array Oper} (h : noDefer ops = true) (i : Nat) (o : Oper) (c : Call) (ho : ops[i]? = some o) : o.op ≠ .defer c := by
  intro e
  have hm : o ∈ ops := Array.mem_of_getElem? ho
  have := Array.all_eq_true'.1 h o hm
  rw [e] at this
  simp at this
/-- a region that draws its order and only reads, within a round: one walk, in the text's order -/
theorem wpIn_quietR {F : Fence} {n l : Nat} {P : Program} {id : Nat} {Q : Exit → Act → World → Prop} {a : Act} {w : World} {ls : List Oper} (hro : F.round = none) (hm : P.follows .mixedOrders = true) (hB : Region.lexB .any ls.toArray = true) (hnd : noDefer ls.toArray = true)
    (h : wpQuietIn F n P ls.toArray (fun w' => ∃ n, w' = w.drewN n) (fun a' => ∀ w', (∃ n, w' = w.drewN n) → Q .normal a' w') ls a) : (Code.region id ls.toArray true).wpIn (F.inRound l) n P Q a w := by
  simp only [Region.lexB, Bool.and_eq_true] at hB
  refine wpIn_region_any hm (wpAnyIn_inRound (noDefer_spec hnd) _ _ _ _ (wpAnyIn_of_quiet (C := fun w' => ∃ n, w' = w.drewN n) (Q := fun a' => ∀ w', (∃ n, w' = w.drewN n) → Q .normal a' w') hro (fun _ w' hw' h => h w' hw') _ _ _ _ ⟨1, rfl⟩ ?_))
  have := wpAnyQIn_lex (F := F) (n := n) (C := fun w' => ∃ n, w' = w.drewN n) (md := .any) hB.1 ls 0 (Array.replicate ls.toArray.size false) a (by simp) (by simpa using hB.2) h
  simpa using this

/-- the same, where the loop is left by 'break' alone (or not at all): what stands behind it is walked once -/
theorem wpIn_rangeFunc_boxedB {F : Fence} {n : Nat} {P : Program} {α : Type} {g : Operand} {p q : Tmp} {assign body : Code} {id : Nat} {Q : Exit → Act → World → Prop} {a : Act} {w : World}
    (hro : F.round = none) (h1 : 1 ≤ n) {gf : Nat} {lb : Array Value} (hg : a.eval g = .func (.func gf) #[] lb) (hFg : F.fn gf) (eg : ∀ args w, (callFunc gf args).run P w = .ok (.enter gf args) w)
    {enc1 : α → Value} {Kp : World → World → Prop} {S Sp : List α → Prop} {N : Nat} {w0 : World} (hseq : SeqStopsK F (n - 1) P gf lb (fun x => #[enc1 x]) Kp S Sp N w0)
    (hKt : ∀ {A B C : World}, Kp A B → Kp B C → Kp A C) (hKb : ∀ (W : World) (l : Nat) (o o' : Obj), w.heap.size ≤ l → W.heap[l]? = some o → o.isCells = false → o.isWalk = false → Kp W (W.putObj l o')) (hb0 : Below w0.heap.size w0 w)
    (cellsOf : α → Array Value) (e : TypeId) (I : List α → World → Prop) (Ix : Code → List α → World → Prop) (J : World → Prop) (hI : OwnFrom w.heap.size I) (hIx : ∀ c, OwnFrom w.heap.size (Ix c)) (h0 : I [] w)
    (hle : ∀ pre W, I pre W → w.heap.size ≤ W.heap.size) (hKa : ∀ pre W o, I pre W → Kp W (W.alloc o))
    (hassign : ∀ (l : Nat) (x : α) (W : World) (K : Act → World → Prop), K { tmps := (a.tmps.setIfInBounds p (enc1 x)).setIfInBounds q (.pointer (some ⟨W.heap.size, 0, none⟩)), defers := [] } (W.alloc (.cells (cellsOf x) e)) →
      assign.wpIn (F.inRound l) (n - 1 - 1) P (Exit.then K (fun _ _ _ => False)) { tmps := a.tmps.setIfInBounds p (enc1 x), defers := [] } W)
    (hbody : ∀ (l : Nat) (pre : List α) (x : α) (Bx : Nat) (W : World), I pre W → w.heap.size ≤ Bx → W.heap[Bx]? = some (.cells (cellsOf x) e (0, 0)) → pre.length < N →
      body.wpIn (F.inRound l) (n - 1 - 1) P (ownPostG w.heap.size Kp I Ix (pre ++ [x]) W) { tmps := (a.tmps.setIfInBounds p (enc1 x)).setIfInBounds q (.pointer (some ⟨Bx, 0, none⟩)), defers := [] } W)
    (hdone : ∀ (xs : List α) (W : World), S xs → I xs W → J W)
    (hstop : ∀ (c : Code) (pre : List α) (W : World), Sp pre → Ix c pre W → c = .exit id ∧ J W)
    (hfin : ∀ (D : Nat) (W : World), w.heap.size ≤ D → J W → W.heap[D]? = some (.deferred (some [])) → Q .normal { a with defers := { target := .collected D, args := #[] } :: a.defers } W) :
    (Code.rangeFunc g #[p] assign body).wpIn F n P (Exit.inBlock id Q) a w := by
  refine wpIn_rangeFunc_boxed hro h1 hg hFg eg hseq hKt hKb hb0 cellsOf e I Ix hI hIx h0 hle hKa hassign hbody ?_ ?_
  · intro D xs W hD hS hi hK
    exact hfin D W hD (hdone xs W hS hi) hK
  · intro D c pre W hD hS hi hK
    obtain ⟨rfl, hj⟩ := hstop c pre W hS hi
    refine wpIn_exit ?_
    simp only [Exit.inBlock, if_true]
    exact hfin D W hD hj hK
end Go.Proofs.Ytbpipnjdfmpbdaa
