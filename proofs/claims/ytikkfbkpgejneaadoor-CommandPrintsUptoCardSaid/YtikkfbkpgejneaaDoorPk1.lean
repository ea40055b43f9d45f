/- The walks and facts that the laws lean on, part 1. No condition of its own: each theorem tells its own. -/
import Derived.Test.YtikkfbkpgejneaaDoorProg
import Derived.WalkKit
import Derived.WalkSpells
import Derived.WalkLawsBesides
import Derived.BigQuiet
import Derived.Deep.QuietTactic
import Derived.Lib.Hide
import Derived.WalkMore
import Derived.Deep.DeepMust
import Derived.Deep.DeepFit
import Derived.Deep.Upon
import Derived.Maps.AppendAt
import Derived.Laws.EntriesVeiled
import Derived.Laws.Rows
import Derived.Shelf.Spec.SlicesGrow
import Derived.Lib.AtoiTie
import Derived.Lib.ItoaNum
import Derived.Lib.SplitLaws
import Derived.Lib.IndexBytes
import Derived.Lib.Join
import Derived.Shelf.Strconv.Itoa3
import Derived.Shelf.Strconv.ErrVarAll
import Derived.Shelf.Strings.Cut
import Derived.Shelf.Strings.Split
import Derived.Shelf.Strings.OnBuilder
import Derived.Shelf.Strings.Search3
import Derived.Shelf.Slices.Turned
import Derived.Shelf.Slices.Equal
import Derived.Shelf.Slices.Empties2
import Derived.Shelf.SlicesE.IndexFunc
import Derived.Shelf.SlicesQ.IndexFunc
import Derived.WalkSmall
import Derived.Lib.LaidTab
import Derived.Lib.AtoiBound
import Derived.Laws.ResultCell
import Derived.StillTailTactics
import Derived.Defers
import Derived.Recover
import Derived.RangeFuncBox
namespace Go.Proofs.YtikkfbkpgejneaaDoor
open Go.RowKit

theorem wrap64_small (x : Int) (h0 : 0 ≤ x) (h : x ≤ 4294967296) : wrap64 x = x := by
  refine IntWalk.wrap64_in x ⟨?_, ?_⟩ <;> omega

/-! ### blocks -/
theorem below1 (w : World) (o : Obj) : Below w.heap.size w (w.alloc o) := (Below.refl _ _).alloc (Nat.le_refl _) o
theorem below2 (w : World) (o o' : Obj) : Below w.heap.size w ((w.alloc o).alloc o') := (below1 w o).alloc (by simp) o'
theorem below3 (w : World) (o o' o'' : Obj) : Below w.heap.size w (((w.alloc o).alloc o').alloc o'') := (below2 w o o').alloc (by simp; omega) o''
theorem below4 (w : World) (o o' o'' p : Obj) : Below w.heap.size w ((((w.alloc o).alloc o').alloc o'').alloc p) := (below3 w o o' o'').alloc (by simp; omega) p

theorem cells_new (w : World) (xs : List Value) (t : TypeId) : ∀ j u, xs[j]? = some u → (w.alloc (.cells xs.toArray t)).cell? ((⟨w.heap.size, 0, none⟩ : Addr).add j) = some u := by
  intro j u h
  rw [Addr.add_lit, Nat.zero_add, World.cell?_alloc_at _ _ _ _ rfl]
  simpa using h

/-- what append asks of the program's tables -/
structure ElemOK (P : Program) (t e : TypeId) (size bytes : Nat) : Prop where
  ex : ∃ i z, P.underlying t = some (.slice e) ∧ P.info? e = some i ∧ i.zero = some z ∧ i.size = size ∧ i.bytes = bytes ∧ z.cells.size = size ∧ 0 < size

theorem ElemOK.mk' {P : Program} {t e : TypeId} {z : Value} {size bytes : Nat} (ht : P.underlying t = some (.slice e)) (h : (P.info? e).map (fun i => (i.zero, i.size, i.bytes)) = some (some z, size, bytes))
    (hz : z.cells.size = size) (hs : 0 < size) : ElemOK P t e size bytes := by
  obtain ⟨i, hi, h1, h2, h3⟩ := info_parts h
  exact ⟨i, z, ht, hi, h1, h2, h3, hz, hs⟩

/-- 'append(out, x)' of one new element to a row of the call's own -/
theorem wpList_app1 {P : Program} {t e : TypeId} {size bytes : Nat} (hE : ElemOK P t e size bytes) {B : Nat} {w0 wr : World} {ops : Array Oper} {rest : List Oper} {o : Oper} {a : Act} {Q : Exit → Act → World → Prop} (hgd : o.guard = none) (s x : Operand)
    (ho : o.op = .call { callee := .builtin .append, args := #[s, x], argTypes := #[t, t] })
    {v : Value} {n : Nat} {xs : List Value} (hown : wr.ownsRow B e size v n xs) (hs : a.eval s = v)
    {news : List Value} (hx : a.eval x = .slice (some ⟨wr.heap.size, 0, none⟩) 1 1) (hl : news.length = size) (h1 : ∀ u ∈ news, u.oneCell' = true)
    (hn : n < 4294967296) (hby : bytes ≤ 16384) (hb : Below B w0 wr) (hB : B ≤ w0.heap.size)
    (h : ∀ v' w', w'.ownsRow B e size v' (n + 1) (xs ++ news) → Below B w0 w' → (∃ g cap, v' = .slice (some ⟨g, 0, none⟩) (n + 1) cap) → wpList P ops Q rest (a.put o.dst v') w') :
    wpList P ops Q (o :: rest) a (wr.alloc (.cells news.toArray e)) := by
  obtain ⟨i, z, ht, hi, hz, hz1, hz2, hz3, hz4⟩ := hE.ex
  have hbs := hb.size
  refine wpList_append_own (P := P) _ hgd s x t ho B e i z size bytes ht hi hz hz1 hz2 hz3 hz4 v n xs hs (hown.alloc _) ⟨wr.heap.size, 0, none⟩ 1 1 news hx (by omega) (cells_new wr news e) h1 (by unfold maxLen; omega) ?_ (by simp; omega) ?_
  · have : (n + 1) * bytes ≤ 4294967296 * 16384 := Nat.mul_le_mul (by omega) hby
    omega
  · intro v' w' hown' hg hnil
    refine h v' w' hown' ((hb.alloc (by omega) _).grown hg (by simp; omega) (fun k hk => (hown.lt k hk).1)) ?_
    rcases hown'.2 with ⟨h, h'⟩ | ⟨g, cap, _, h, _⟩
    · omega
    · exact ⟨g, cap, h⟩

/-! ### a slice's elements, read -/
/-- the slice value v reads as n elements of size cells each, whose cells are xs -/
def Rd (w : World) (v : Value) (n size : Nat) (xs : List Value) : Prop :=
  xs.length = n * size ∧ ∃ ao cap, v = .slice ao n cap ∧ n ≤ cap ∧ cap ≤ maxLen ∧
    (n = 0 ∨ ∃ b off, ao = some ⟨b, off, none⟩ ∧ b < w.heap.size ∧ ∀ j u, xs[j]? = some u → w.cell? ⟨b, off + j, none⟩ = some u)

theorem Rd.nil (w : World) (size : Nat) : Rd w (.slice none 0 0) 0 size [] := ⟨by simp, none, 0, rfl, by omega, by simp, .inl rfl⟩

theorem Rd.mono {w w' : World} {v : Value} {n size : Nat} {xs : List Value} (h : Rd w v n size xs) (hk : ∀ b o, b < w.heap.size → w'.cell? ⟨b, o, none⟩ = w.cell? ⟨b, o, none⟩) (hs : w.heap.size ≤ w'.heap.size) : Rd w' v n size xs := by
  obtain ⟨h1, ao, cap, h2, h3, h4, h5⟩ := h
  refine ⟨h1, ao, cap, h2, h3, h4, h5.imp id ?_⟩
  rintro ⟨b, off, h6, h7, h8⟩
  exact ⟨b, off, h6, by omega, fun j u hj => by rw [hk _ _ h7]; exact h8 j u hj⟩

theorem Rd.below {w w' : World} {v : Value} {n size : Nat} {xs : List Value} (h : Rd w v n size xs) (hb : Below w.heap.size w w') : Rd w' v n size xs :=
  h.mono (fun _ _ hlt => hb.cell (p := ⟨_, _, none⟩) hlt) hb.size

theorem Rd.alloc {w : World} {v : Value} {n size : Nat} {xs : List Value} (h : Rd w v n size xs) (o : Obj) : Rd (w.alloc o) v n size xs := h.below (below1 w o)

theorem Rd.of_owns {w : World} {B : Nat} {e : TypeId} {v : Value} {n size : Nat} {xs : List Value} (h : w.ownsRow B e size v n xs) : Rd w v n size xs := by
  refine ⟨h.1, ?_⟩
  rcases h.2 with ⟨h2, h3⟩ | ⟨g, cap, cur, h2, h3, h4, h5, h6, h7, h8⟩
  · subst h3; exact ⟨none, 0, h2, by omega, by simp, .inl rfl⟩
  · refine ⟨some ⟨g, 0, none⟩, cap, h2, h5, h6, .inr ⟨g, 0, rfl, ?_, ?_⟩⟩
    · exact (Array.getElem?_eq_some_iff.1 h4).1
    · intro j u hj
      have := h.cells (g := g) (by rw [h2]; rfl) j u hj
      simpa [Addr.add_lit] using this

/-- the cells of element i -/
theorem Rd.at {w : World} {v : Value} {n size : Nat} {xs : List Value} (h : Rd w v n size xs) {i : Nat} (hi : i < n) :
    ∃ b off cap, v = .slice (some ⟨b, off, none⟩) n cap ∧ b < w.heap.size ∧ n ≤ cap ∧ ∀ j u, xs[j]? = some u → w.cell? ⟨b, off + j, none⟩ = some u := by
  obtain ⟨_, ao, cap, h2, h3, h4, h5⟩ := h
  rcases h5 with h5 | ⟨b, off, h6, h7, h8⟩
  · omega
  · exact ⟨b, off, cap, by rw [h2, h6], h7, h3, h8⟩

end Go.Proofs.YtikkfbkpgejneaaDoor
namespace Go.Proofs.YtikkfbkpgejneaaDoor
open Go.RowKit

/-- 'append(out, l...)' to a row of the call's own -/
theorem wpList_appAll {P : Program} {t e : TypeId} {size bytes : Nat} (hE : ElemOK P t e size bytes) {B : Nat} {w0 wr : World} {ops : Array Oper} {rest : List Oper} {o : Oper} {a : Act} {Q : Exit → Act → World → Prop} (hgd : o.guard = none) (s x : Operand)
    (ho : o.op = .call { callee := .builtin .append, args := #[s, x], argTypes := #[t, t] })
    {v : Value} {n : Nat} {xs : List Value} (hown : wr.ownsRow B e size v n xs) (hs : a.eval s = v)
    {ad : Addr} {m c : Nat} {news : List Value} (hx : a.eval x = .slice (some ad) m c) (hl : news.length = m * size) (hnews : ∀ j u, news[j]? = some u → wr.cell? (ad.add j) = some u) (h1 : ∀ u ∈ news, u.oneCell' = true)
    (hn : n + m < 4294967296) (hby : bytes ≤ 16384) (hb : Below B w0 wr) (hB : B ≤ w0.heap.size)
    (h : ∀ v' w', w'.ownsRow B e size v' (n + m) (xs ++ news) → Below B w0 w' → wpList P ops Q rest (a.put o.dst v') w') :
    wpList P ops Q (o :: rest) a wr := by
  obtain ⟨i, z, ht, hi, hz, hz1, hz2, hz3, hz4⟩ := hE.ex
  have hbs := hb.size
  refine wpList_append_own (P := P) _ hgd s x t ho B e i z size bytes ht hi hz hz1 hz2 hz3 hz4 v n xs hs hown ad m c news hx hl hnews h1 (by unfold maxLen; omega) ?_ (by omega) ?_
  · have : (n + m) * bytes ≤ 4294967296 * 16384 := Nat.mul_le_mul (by omega) hby
    omega
  · intro v' w' hown' hg _
    exact h v' w' hown' (hb.grown hg (by omega) (fun k hk => (hown.lt k hk).1))
/-- 'append(out, l...)' of nothing -/
theorem wpList_app0 {P : Program} {t e : TypeId} {size bytes : Nat} (hE : ElemOK P t e size bytes) {w : World} {ops : Array Oper} {rest : List Oper} {o : Oper} {a : Act} {Q : Exit → Act → World → Prop} (hgd : o.guard = none) (s x : Operand)
    (ho : o.op = .call { callee := .builtin .append, args := #[s, x], argTypes := #[t, t] })
    {base : Option Addr} {n c : Nat} (hs : a.eval s = .slice base n c) (hle : n ≤ c) {ao : Option Addr} {c2 : Nat} (hx : a.eval x = .slice ao 0 c2)
    (h : wpList P ops Q rest (a.put o.dst (.slice base n c)) w) : wpList P ops Q (o :: rest) a w := by
  obtain ⟨i, z, ht, hi, hz, hz1, hz2, hz3, hz4⟩ := hE.ex
  refine wpList_plain hgd fun K hK' => ?_
  have hsrc : Src P i.size t (.slice ao 0 c2) 0 [] w := by
    cases ao with
    | none => exact Src.ofNil w ht c2
    | some ad => exact Src.ofSlice w ht ad 0 c2 [] (by simp) (by simp) (by simp)
  have hrun := run_append_nothing w t t o.type e i ht hi base n c hle _ hsrc
  unfold Oper.wp
  simp [execOp, ho, resolve, invoke, builtin, hs, hx, hrun, Result.andThen]
  exact hK' _ _ h


theorem grown_drewN (w : World) (n : Nat) (row : Option Nat) : w.grownBy (w.drewN n) row := ⟨rfl, rfl, rfl, Nat.le_refl _, fun _ _ _ => rfl⟩
theorem grown_set (w : World) (b o : Nat) (v : Value) : w.grownBy (w.setCell ⟨b, o, none⟩ v) (some b) :=
  ⟨rfl, rfl, rfl, by simp [World.setCell], fun k _ hne => Below.heap_setCell _ _ _ _ (by simpa using hne)⟩
theorem grown_then {a b c : World} {row row' : Option Nat} (h : a.grownBy b row) (k : b.grownBy c row') (hr : ∀ j, row' = some j → a.heap.size ≤ j ∨ row = some j) : a.grownBy c row := by
  refine ⟨k.os.trans h.os, k.tape.trans h.tape, k.output.trans h.output, Nat.le_trans h.size k.size, fun i hi hne => ?_⟩
  rw [k.block i (Nat.lt_of_lt_of_le hi h.size) ?_, h.block i hi hne]
  intro e
  rcases hr i e.symm with h1 | h1
  · omega
  · exact hne h1.symm
theorem grown_none {a b : World} {row : Option Nat} (h : a.grownBy b none) : a.grownBy b row := ⟨h.os, h.tape, h.output, h.size, fun i hi _ => h.block i hi (by simp)⟩
theorem grown_below {a b : World} (h : Below a.heap.size a b) : a.grownBy b none := ⟨h.os, h.tape, h.output, h.size, fun i hi _ => h.block i hi⟩
theorem below_grown {a b : World} (h : a.grownBy b none) : Below a.heap.size a b := ⟨h.os, h.tape, h.output, h.size, fun i hi => h.block i hi (by simp)⟩
theorem bcell {W w1 : World} (hb : Below W.heap.size W w1) : (∀ b o, b < W.heap.size → w1.cell? ⟨b, o, none⟩ = W.cell? ⟨b, o, none⟩) ∧ (∀ b o, b < W.heap.size → w1.frozen? ⟨b, o, none⟩ = W.frozen? ⟨b, o, none⟩) :=
  ⟨fun b o h => hb.cell (p := ⟨b, o, none⟩) h, fun b o h => hb.frozen (p := ⟨b, o, none⟩) h⟩
/-- a row that the call owns, by its elements' cells -/
theorem own_src {w : World} {B : Nat} {e : TypeId} {size : Nat} {v : Value} {n : Nat} {xs : List Value} (h : w.ownsRow B e size v n xs) (hn : 0 < n) :
    ∃ g cap, v = .slice (some ⟨g, 0, none⟩) n cap ∧ B ≤ g ∧ g < w.heap.size ∧ n ≤ cap ∧ ∀ j u, xs[j]? = some u → w.cell? ((⟨g, 0, none⟩ : Addr).add j) = some u := by
  rcases h.2 with ⟨_, h2⟩ | ⟨g, cap, cur, h2, h3, h4, h5, h6, h7, h8⟩
  · omega
  · exact ⟨g, cap, h2, h3, (Array.getElem?_eq_some_iff.1 h4).1, h5, h.cells (g := g) (by rw [h2]; rfl)⟩
theorem own_block {w : World} {B : Nat} {e : TypeId} {size : Nat} {v : Value} {n : Nat} {xs : List Value} (h : w.ownsRow B e size v n xs) (j : Nat) (hj : v.ownBlock = some j) : B ≤ j := by
  rcases h.2 with ⟨rfl, _⟩ | ⟨g, cap, cur, rfl, h3, _⟩
  · simp [Value.ownBlock] at hj
  · simp [Value.ownBlock] at hj; omega
theorem own_lower {w : World} {B C : Nat} {e : TypeId} {size : Nat} {v : Value} {n : Nat} {xs : List Value} (h : w.ownsRow B e size v n xs) (hC : C ≤ B) : w.ownsRow C e size v n xs := by
  refine ⟨h.1, ?_⟩
  rcases h.2 with h | ⟨g, cap, cur, h2, h3, h4⟩
  · exact .inl h
  · exact .inr ⟨g, cap, cur, h2, by omega, h4⟩
/-- what is owned stays where only older blocks, or another row, are written -/
theorem own_grown {w w' : World} {B : Nat} {e : TypeId} {size : Nat} {v : Value} {n : Nat} {xs : List Value} {row : Option Nat} (h : w.ownsRow B e size v n xs) (hg : w.grownBy w' row) (hr : ∀ j, row = some j → j < B ∨ v.ownBlock ≠ some j) : w'.ownsRow B e size v n xs := by
  refine World.ownsRow.kept h hg ?_
  cases row with
  | none => cases hv : v.ownBlock <;> simp
  | some j =>
    right
    intro e
    rcases hr j rfl with h1 | h1
    · have := own_block h j e; omega
    · exact h1 e
/-- 'append(out, l...)' to a row of the call's own, of a row that reads -/
theorem wpList_appG {P : Program} {t e : TypeId} {size bytes : Nat} (hE : ElemOK P t e size bytes) {B : Nat} {wr : World} {ops : Array Oper} {rest : List Oper} {o : Oper} {a : Act} {Q : Exit → Act → World → Prop} (hgd : o.guard = none) (s x : Operand)
    (ho : o.op = .call { callee := .builtin .append, args := #[s, x], argTypes := #[t, t] })
    {v : Value} {n : Nat} {xs : List Value} (hown : wr.ownsRow B e size v n xs) (hs : a.eval s = v)
    {ad : Addr} {m c : Nat} {news : List Value} (hx : a.eval x = .slice (some ad) m c) (hl : news.length = m * size) (hnews : ∀ j u, news[j]? = some u → wr.cell? (ad.add j) = some u) (h1 : ∀ u ∈ news, u.oneCell' = true)
    (hm : n + m ≤ maxLen) (hn : (n + m) * bytes ≤ 140737488355328) (hB : B ≤ wr.heap.size)
    (h : ∀ v' w', w'.ownsRow B e size v' (n + m) (xs ++ news) → wr.grownBy w' v.ownBlock → wpList P ops Q rest (a.put o.dst v') w') :
    wpList P ops Q (o :: rest) a wr := by
  obtain ⟨i, z, ht, hi, hz, hz1, hz2, hz3, hz4⟩ := hE.ex
  exact wpList_append_own (P := P) _ hgd s x t ho B e i z size bytes ht hi hz hz1 hz2 hz3 hz4 v n xs hs hown ad m c news hx hl hnews h1 hm hn hB (fun v' w' hown' hg _ => h v' w' hown' hg)
/-- 'append(out, x)' of one new element -/
theorem wpList_appG1 {P : Program} {t e : TypeId} {size bytes : Nat} (hE : ElemOK P t e size bytes) {B : Nat} {wr : World} {ops : Array Oper} {rest : List Oper} {o : Oper} {a : Act} {Q : Exit → Act → World → Prop} (hgd : o.guard = none) (s x : Operand)
    (ho : o.op = .call { callee := .builtin .append, args := #[s, x], argTypes := #[t, t] })
    {v : Value} {n : Nat} {xs : List Value} (hown : wr.ownsRow B e size v n xs) (hs : a.eval s = v)
    {news : List Value} (hx : a.eval x = .slice (some ⟨wr.heap.size, 0, none⟩) 1 1) (hl : news.length = size) (h1 : ∀ u ∈ news, u.oneCell' = true)
    (hm : n + 1 ≤ maxLen) (hn : (n + 1) * bytes ≤ 140737488355328) (hB : B ≤ wr.heap.size)
    (h : ∀ v' w', w'.ownsRow B e size v' (n + 1) (xs ++ news) → wr.grownBy w' v.ownBlock → wpList P ops Q rest (a.put o.dst v') w') :
    wpList P ops Q (o :: rest) a (wr.alloc (.cells news.toArray e)) := by
  refine wpList_appG hE hgd s x ho (hown.alloc _) hs (ad := ⟨wr.heap.size, 0, none⟩) (m := 1) (c := 1) (news := news) hx (by omega) (cells_new wr news e) h1 hm hn (by simp; omega) fun v' w' h2 h3 => h v' w' h2 ?_
  exact ⟨h3.os, h3.tape, h3.output, Nat.le_trans (by simp) h3.size, fun k hk hne => (h3.block k (by simp; omega) hne).trans (Below.heap_alloc wr _ k hk)⟩
end Go.Proofs.YtikkfbkpgejneaaDoor
namespace Go.Proofs.YtikkfbkpgejneaaDoor
open Go.RowKit

/-! ### a region that draws its order and makes memory: one walk, by facts on the temporaries that newer blocks do not turn -/
def AllOps (S : Oper → Prop) : List Oper → Prop
  | [] => True
  | o :: r => S o ∧ AllOps S r
theorem AllOps.at {S : Oper → Prop} : ∀ {l : List Oper}, AllOps S l → ∀ {i : Nat} {o : Oper}, l[i]? = some o → S o
  | [], _, i, o, h => by simp at h
  | x :: r, h, 0, o, hi => by simp at hi; subst hi; exact h.1
  | x :: r, h, i + 1, o, hi => AllOps.at h.2 (i := i) (by simpa using hi)
def rgDst (ops : Array Oper) (j : Nat) : Option Nat := (ops[j]?).bind (·.dst)
def rgDep (o : Oper) (j : Nat) : Bool := o.after.any fun e => e.on == j && Region.binds .any e
def rgFree (ops : Array Oper) (t : Nat) : Bool := ops.all fun o => o.dst != some t
def rgPlain (ops : Array Oper) : Bool := (ops.all fun o => o.guard.isNone) && (List.range ops.size).all fun i => (List.range ops.size).all fun j => i == j || ((rgDst ops i).isNone || rgDst ops i != rgDst ops j)
def rgBack (ops : Array Oper) : Bool := (List.range ops.size).all fun i => ((ops[i]?).map fun o => o.after.all fun e => !Region.binds .any e || decide (e.on < i)).getD true
def rgSz (ops : Array Oper) (n : Nat) : Bool := ops.all fun o => match o.dst with | some d => decide (d < n) | none => true
theorem rgSz_spec {ops : Array Oper} {n : Nat} (h : rgSz ops n = true) : ∀ i d, rgDst ops i = some d → d < n := by
  intro i d hd
  unfold rgSz at h
  rw [Array.all_eq_true] at h
  unfold rgDst at hd
  have hi : i < ops.size := by rcases Nat.lt_or_ge i ops.size with h | h; exact h; simp [Array.getElem?_eq_none h] at hd
  have := h i hi
  rw [Array.getElem?_eq_getElem hi] at hd
  have hd2 : ops[i].dst = some d := by simpa using hd
  rw [hd2] at this
  simpa using this
/-- what is known ahead of an operation -/
structure RgAt (ops : Array Oper) (F : Nat → Value → World → Prop) (a0 : Act) (w0 : World) (a : Act) (w : World) : Prop where
  size : a.tmps.size = a0.tmps.size
  defers : a.defers = a0.defers
  below : Below w0.heap.size w0 w
  frame : ∀ t, rgFree ops t = true → a.tmps.getD t undef = a0.tmps.getD t undef
theorem rgFree_put {ops : Array Oper} {i : Nat} {o : Oper} {t : Nat} {a : Act} {v : Value} (hi : ops[i]? = some o) (h : rgFree ops t = true) : (a.put o.dst v).tmps.getD t undef = a.tmps.getD t undef := by
  unfold rgFree at h
  rw [Array.all_eq_true] at h
  obtain ⟨hlt, he⟩ := Array.getElem?_eq_some_iff.1 hi
  have := h i hlt
  rw [he] at this
  unfold Act.put
  split
  · rename_i d hd
    have hne : d ≠ t := by rintro rfl; simp [hd] at this
    simp [Array.getElem?_setIfInBounds_ne hne]
  · rfl
theorem wp_region_facts {P : Program} {ops : Array Oper} {Q : Exit → Act → World → Prop} {id : Nat} {a0 : Act} {w0 : World} (hm : P.follows .mixedOrders = true) (F : Nat → Value → World → Prop)
    (hF : ∀ d v w w', F d v w → Below w.heap.size w w' → F d v w') (hp : rgPlain ops = true) (hbk : rgBack ops = true) (hsz0 : rgSz ops a0.tmps.size = true)
    (step : AllOps (fun o => ∀ a w, RgAt ops F a0 w0.drew a w → (∀ j d, rgDep o j = true → rgDst ops j = some d → F d (a.tmps.getD d undef) w) →
      o.wp P a w (fun a' w' => ∃ v, a' = a.put o.dst v ∧ Below w.heap.size w w' ∧ ∀ d, o.dst = some d → F d v w') Q) ops.toList)
    (fin : ∀ a w, RgAt ops F a0 w0.drew a w → (∀ j d, rgDst ops j = some d → F d (a.tmps.getD d undef) w) → Q .normal a w) : (Code.region id ops true).wp P Q a0 w0 := by
  have hsz := rgSz_spec hsz0
  refine wp_region_any hm ?_
  have hp1 : ∀ (i : Nat) (o : Oper), ops[i]? = some o → o.guard = none := fun i o h => by
    unfold rgPlain at hp
    rw [Bool.and_eq_true, Array.all_eq_true] at hp
    obtain ⟨hlt, he⟩ := Array.getElem?_eq_some_iff.1 h
    have := hp.1 i hlt
    rw [he] at this
    simpa using this
  have hp2 : ∀ i j d, rgDst ops i = some d → rgDst ops j = some d → i = j := fun i j d h1 h2 => by
    unfold rgPlain at hp
    rw [Bool.and_eq_true, List.all_eq_true] at hp
    have hi : i < ops.size := by unfold rgDst at h1; rcases Nat.lt_or_ge i ops.size with h | h; exact h; simp [Array.getElem?_eq_none h] at h1
    have hj : j < ops.size := by unfold rgDst at h2; rcases Nat.lt_or_ge j ops.size with h | h; exact h; simp [Array.getElem?_eq_none h] at h2
    have := hp.2 i (List.mem_range.2 hi)
    rw [List.all_eq_true] at this
    have := this j (List.mem_range.2 hj)
    rw [h1, h2] at this
    simpa using this
  have hall : ∀ (listed : Array Bool), listed.size = ops.size → Region.ready .any ops listed = [] → ∀ j, j < ops.size → listed.getD j false = true := fun listed hs hr j => by
    induction j using Nat.strongRecOn with
    | _ j ih =>
      intro hj
      rcases hv : listed.getD j true with _ | _
      · exfalso
        have hmem : j ∈ Region.ready .any ops listed := by
          rw [mem_ready]
          refine ⟨hv, ops[j], Array.getElem?_eq_getElem hj, fun e he hb => ?_⟩
          unfold rgBack at hbk
          rw [List.all_eq_true] at hbk
          have := hbk j (List.mem_range.2 hj)
          rw [Array.getElem?_eq_getElem hj] at this
          simp only [Option.map_some, Option.getD_some, Array.all_eq_true_iff_forall_mem] at this
          have := this e he
          rw [hb] at this
          have hlt : e.on < j := by simpa using this
          exact ih _ hlt (by omega)
        rw [hr] at hmem
        cases hmem
      · have : j < listed.size := by omega
        simpa [this] using hv
  have main : ∀ (fuel : Nat) (listed : Array Bool) (a : Act) (w : World), listed.toList.count false ≤ fuel → listed.size = ops.size → RgAt ops F a0 w0.drew a w →
      (∀ j d, listed.getD j false = true → rgDst ops j = some d → F d (a.tmps.getD d undef) w) → wpAny P .any ops Q fuel listed a w := by
    have hdone : ∀ (listed : Array Bool) (a : Act) (w : World), listed.size = ops.size → RgAt ops F a0 w0.drew a w → (∀ j d, listed.getD j false = true → rgDst ops j = some d → F d (a.tmps.getD d undef) w) → Region.ready .any ops listed = [] → Q .normal a w := fun listed a w hs hA hd hr => by
      refine fin a w hA fun j d hj => hd j d ?_ hj
      have hlt : j < ops.size := by unfold rgDst at hj; rcases Nat.lt_or_ge j ops.size with h | h; exact h; simp [Array.getElem?_eq_none h] at hj
      exact hall listed hs hr j hlt
    intro fuel
    induction fuel with
    | zero =>
      intro listed a w hc hs hA hd
      have hr : Region.ready .any ops listed = [] := by
        rw [List.eq_nil_iff_forall_not_mem]
        intro j hj
        have h0 := (mem_ready.1 hj).1
        have hj2 : j < listed.size := by rcases Nat.lt_or_ge j listed.size with h | h; exact h; simp [Array.getElem?_eq_none h] at h0
        have hm : false ∈ listed.toList := by
          have : listed[j] = false := by simpa [hj2] using h0
          rw [← this]; simp
        have := List.count_pos_iff.2 hm
        omega
      exact ⟨hr, hdone listed a w hs hA hd hr⟩
    | succ fuel ih =>
      intro listed a w hc hs hA hd
      refine ⟨hdone listed a w hs hA hd, fun i hi => ?_⟩
      obtain ⟨h0, o, ho, haf⟩ := mem_ready.1 hi
      have hj2 : i < listed.size := by rcases Nat.lt_or_ge i listed.size with h | h; exact h; simp [Array.getElem?_eq_none h] at h0
      have h0' : listed[i] = false := by simpa [hj2] using h0
      have hst := AllOps.at step (i := i) (o := o) (by simpa using ho) a w hA (fun j d hdep hjd => hd j d (by
        unfold rgDep at hdep
        obtain ⟨k, hk, h2⟩ := Array.any_eq_true.1 hdep
        have he := Array.getElem_mem hk
        generalize o.after[k] = e at h2 he
        rw [Bool.and_eq_true, beq_iff_eq] at h2
        have := haf e he h2.2
        rwa [h2.1] at this) hjd)
      unfold wpOp
      simp only [ho]
      have hw : Region.wanted o (yielded ops a.tmps) = true := by unfold Region.wanted; rw [hp1 i o ho]
      rw [if_pos hw]
      refine .inl (Oper.wp_mono ?_ hst)
      rintro a' w' ⟨v, rfl, hb, hv⟩
      refine ih _ _ _ ?_ (by simpa using hs) ⟨?_, ?_, hA.below.trans (hb.mono hA.below.size), fun t ht => (rgFree_put ho ht).trans (hA.frame t ht)⟩ ?_
      · rw [Array.toList_setIfInBounds, List.count_set (by simpa using hj2)]
        have e1 : listed.toList[i]'(by simpa using hj2) = false := by simpa using h0'
        have : 0 < listed.toList.count false := List.count_pos_iff.2 (by rw [← e1]; exact List.getElem_mem _)
        rw [e1]
        rw [if_neg (by decide : ¬ (true == false) = true)]
        simp only [beq_self_eq_true, if_true]
        omega
      · unfold Act.put; split <;> simp [hA.size]
      · unfold Act.put; split <;> exact hA.defers
      · intro j d hl hjd
        by_cases hij : j = i
        · subst hij
          have hod : o.dst = some d := by simpa [rgDst, ho] using hjd
          have := hv d hod
          have hds : d < a.tmps.size := by rw [hA.size]; exact hsz j d hjd
          have e2 : (a.put o.dst v).tmps.getD d undef = v := by unfold Act.put; rw [hod]; simp [hds]
          rw [e2]; exact this
        · rw [getD_set_ne false (Ne.symm hij)] at hl
          have e2 : (a.put o.dst v).tmps.getD d undef = a.tmps.getD d undef := by
            unfold Act.put
            split
            · rename_i d2 hd2
              have hne : d2 ≠ d := by
                rintro rfl
                exact hij (hp2 j i d2 hjd (by simpa [rgDst, ho] using hd2))
              simp [Array.getElem?_setIfInBounds_ne hne]
            · rfl
          rw [e2]
          exact hF d _ w w' (hd j d hl hjd) hb
  refine main ops.size _ a0 _ ?_ (by simp) ⟨rfl, rfl, Below.refl _ _, fun _ _ => rfl⟩ ?_
  · simp
  · intro j d hl
    exfalso
    rcases Nat.lt_or_ge j ops.size with h | h
    · simp [h] at hl
    · simp [h] at hl
end Go.Proofs.YtikkfbkpgejneaaDoor
namespace Go.Proofs.YtikkfbkpgejneaaDoor
open Go.RowKit

/-! ### rows of texts, of numbers, of a command's words, of verbs -/
def strV (l : List ByteArray) : List Value := l.map Value.string
def RdS (w : World) (v : Value) (l : List ByteArray) : Prop := Rd w v l.length 1 (strV l)
theorem RdS.below {w w' : World} {v : Value} {l : List ByteArray} (h : RdS w v l) (hb : Below w.heap.size w w') : RdS w' v l := Rd.below h hb
theorem RdS.at {w : World} {v : Value} {l : List ByteArray} (h : RdS w v l) {i : Nat} {x : ByteArray} (hx : l[i]? = some x) :
    ∃ b off cap, v = .slice (some ⟨b, off, none⟩) l.length cap ∧ b < w.heap.size ∧ l.length ≤ cap ∧ w.cell? ⟨b, off + i, none⟩ = some (.string x) := by
  have hi : i < l.length := (List.getElem?_eq_some_iff.1 hx).1
  obtain ⟨b, off, cap, h1, h2, h3, h4⟩ := Rd.at h hi
  refine ⟨b, off, cap, h1, h2, h3, h4 i _ ?_⟩
  unfold strV; rw [List.getElem?_map, hx]; rfl
def intV (l : List Int) : List Value := l.map (Value.int .i64)
def RdZ (w : World) (v : Value) (l : List Int) : Prop := Rd w v l.length 1 (intV l)
theorem RdZ.below {w w' : World} {v : Value} {l : List Int} (h : RdZ w v l) (hb : Below w.heap.size w w') : RdZ w' v l := Rd.below h hb
theorem RdZ.at {w : World} {v : Value} {l : List Int} (h : RdZ w v l) {i : Nat} {x : Int} (hx : l[i]? = some x) :
    ∃ b off cap, v = .slice (some ⟨b, off, none⟩) l.length cap ∧ b < w.heap.size ∧ l.length ≤ cap ∧ w.cell? ⟨b, off + i, none⟩ = some (.int .i64 x) := by
  have hi : i < l.length := (List.getElem?_eq_some_iff.1 hx).1
  obtain ⟨b, off, cap, h1, h2, h3, h4⟩ := Rd.at h hi
  refine ⟨b, off, cap, h1, h2, h3, h4 i _ ?_⟩
  unfold intV; rw [List.getElem?_map, hx]; rfl
/-- the closure that reads a word of a kind: 0 an evaluator, 1 a name, 2 a number -/
def ptFn (k : Nat) : Value := .func (.func (match k with | 0 => 58 | 1 => 57 | _ => 60)) #[] #[]
def ptV (k : Nat) : Value := .agg #[.int .i64 k, ptFn k]
def flatPt (l : List Nat) : List Value := l.flatMap fun (k : Nat) => [.int .i64 k, ptFn k]
def RdPt (w : World) (v : Value) (l : List Nat) : Prop := Rd w v l.length 2 (flatPt l)
theorem RdPt.below {w w' : World} {v : Value} {l : List Nat} (h : RdPt w v l) (hb : Below w.heap.size w w') : RdPt w' v l := Rd.below h hb
theorem flatPt_len (l : List Nat) : (flatPt l).length = l.length * 2 := by
  induction l with
  | nil => rfl
  | cons x l ih => simp only [flatPt, List.flatMap_cons, List.length_append, List.length_cons, List.length_nil] at ih ⊢; omega
theorem RdPt.new (w : World) (l : List Nat) (h : l.length ≤ maxLen) : RdPt (w.alloc (.cells (flatPt l).toArray 75)) (.slice (some ⟨w.heap.size, 0, none⟩) l.length l.length) l :=
  ⟨flatPt_len l, _, _, rfl, Nat.le_refl _, h, .inr ⟨_, _, rfl, by simp, fun j u h => by rw [← Addr.add_lit]; exact cells_new w _ _ j u h⟩⟩
/-- a verb: its number, its word, whether a text stands behind it, the kinds of its words -/
structure Vb where
  n : Nat
  s : ByteArray
  t : Bool
  k : List Nat
deriving DecidableEq
def VT : List Vb := [⟨1, ⟨#[103, 114, 97, 109, 109, 97, 114]⟩, true, []⟩, ⟨2, ⟨#[103, 114, 97, 112, 104]⟩, true, []⟩, ⟨3, ⟨#[110, 111, 100, 101]⟩, false, [1]⟩, ⟨4, ⟨#[101, 100, 103, 101]⟩, false, [1, 1, 1]⟩,
  ⟨5, ⟨#[113, 117, 101, 114, 121]⟩, false, [0, 1]⟩, ⟨6, ⟨#[112, 97, 116, 104]⟩, false, [1, 1, 1]⟩, ⟨7, ⟨#[112, 97, 116, 104, 115]⟩, false, [1, 1, 1, 2, 2]⟩, ⟨8, ⟨#[114, 117, 108, 101, 115]⟩, false, []⟩,
  ⟨9, ⟨#[101, 100, 103, 101, 115]⟩, false, []⟩, ⟨10, ⟨#[115, 105, 122, 101]⟩, false, []⟩]
def vbV (p : Vb × Value) : Value := .agg #[.int .i64 p.1.n, .string p.1.s, .bool p.1.t, p.2]
def flatVb (P : List (Vb × Value)) : List Value := P.flatMap fun p => [.int .i64 p.1.n, .string p.1.s, .bool p.1.t, p.2]
theorem flatVb_len (P : List (Vb × Value)) : (flatVb P).length = P.length * 4 := by
  induction P with
  | nil => rfl
  | cons x l ih => simp only [flatVb, List.flatMap_cons, List.length_append, List.length_cons, List.length_nil] at ih ⊢; omega
structure RdVs (w : World) (v : Value) (P : List (Vb × Value)) : Prop where
  tab : P.map (·.1) = VT
  row : Rd w v P.length 4 (flatVb P)
  parts : ∀ p ∈ P, RdPt w p.2 p.1.k
theorem RdVs.new (w : World) (P : List (Vb × Value)) (tab : P.map (·.1) = VT) (hp : ∀ p ∈ P, RdPt w p.2 p.1.k) : RdVs (w.alloc (.cells (flatVb P).toArray 51)) (.slice (some ⟨w.heap.size, 0, none⟩) P.length P.length) P :=
  ⟨tab, ⟨flatVb_len P, _, _, rfl, Nat.le_refl _, by have : P.length = VT.length := by rw [← tab, List.length_map]
                                                    rw [this]; simp [VT, maxLen], .inr ⟨_, _, rfl, by simp, fun j u h => by rw [← Addr.add_lit]; exact cells_new w _ _ j u h⟩⟩, fun p h => (hp p h).below (below1 w _)⟩
theorem RdPt.first {w : World} {a : Option Addr} {c : Nat} (h : RdPt w (.slice a 3 c) [1, 1, 1]) : RdPt w (.slice a 1 c) [1] := by
  obtain ⟨_, ao, cp, e, h1, h2, h3⟩ := h
  simp only [Value.slice.injEq] at e
  obtain ⟨rfl, -, rfl⟩ := e
  refine ⟨rfl, _, _, rfl, Nat.le_trans (by decide : [1].length ≤ [1, 1, 1].length) h1, h2, .inr ?_⟩
  rcases h3 with h3 | ⟨b, off, e, hb, hc⟩
  · cases h3
  · refine ⟨b, off, e, hb, fun j u hj => hc j u ?_⟩
    match j, hj with
    | 0, hj => simpa [flatPt] using hj
    | 1, hj => simpa [flatPt] using hj
    | k + 2, hj => simp [flatPt] at hj
theorem RdVs.below {w w' : World} {v : Value} {P : List (Vb × Value)} (h : RdVs w v P) (hb : Below w.heap.size w w') : RdVs w' v P := ⟨h.tab, h.row.below hb, fun p hp => (h.parts p hp).below hb⟩

set_option maxRecDepth 100000 in
theorem cmName_any (w : World) : Calls Tryd.prog 42 #[] w fun e w' => e = .returned (ptV 1) ∧ Below w.heap.size w w' := by
  go_enter Tryd.func42, Tryd.ntmps42
  go_wp2
  refine bodyPost_ret (results_cell_row rfl _ _ w.heap.size 75 _ (0, 0) _ rfl (heap_alloc_new w _) Tryd.underlying75 rfl (by kernel_rfl)) rfl ?_
  exact ⟨rfl, below1 w _⟩
set_option maxRecDepth 100000 in
theorem cmNumber_any (w : World) : Calls Tryd.prog 45 #[] w fun e w' => e = .returned (ptV 2) ∧ Below w.heap.size w w' := by
  go_enter Tryd.func45, Tryd.ntmps45
  go_wp2
  refine bodyPost_ret (results_cell_row rfl _ _ w.heap.size 75 _ (0, 0) _ rfl (heap_alloc_new w _) Tryd.underlying75 rfl (by kernel_rfl)) rfl ?_
  exact ⟨rfl, below1 w _⟩
set_option maxRecDepth 100000 in
theorem cmHow_any (w : World) : Calls Tryd.prog 43 #[] w fun e w' => e = .returned (ptV 0) ∧ Below w.heap.size w w' := by
  go_enter Tryd.func43, Tryd.ntmps43
  go_wp2
  refine bodyPost_ret (results_cell_row rfl _ _ w.heap.size 75 _ (0, 0) _ rfl (heap_alloc_new w _) Tryd.underlying75 rfl (by kernel_rfl)) rfl ?_
  exact ⟨rfl, below1 w _⟩
end Go.Proofs.YtikkfbkpgejneaaDoor
namespace Go.Proofs.YtikkfbkpgejneaaDoor
open Go.RowKit Go.Shelf

def growP_ren : Go.Shelf.Ren := ⟨fun | 4 => 59 | n => n, fun | 0 => 0 | 3 => 3 | 4 => 4 | 9 => 9 | 20 => 20 | 22 => 49 | 25 => 75 | n => n, fun | n => n⟩
theorem growP : Go.Proofs.Lays8.n4 Tryd.prog growP_ren := {
  mixed := by kernel_rfl
  f4 := ⟨Tryd.f59.name, by decide, Tryd.func59.trans (congrArg some (by kernel_rfl))⟩
  t0 := Tryd.underlying0
  a0 := Tryd.isAgg0
  z0 := Tryd.sizeOf0
  v0 := Tryd.zeroValue0
  t3 := Tryd.underlying3
  a3 := Tryd.isAgg3
  z3 := Tryd.sizeOf3
  v3 := Tryd.zeroValue3
  t4 := Tryd.underlying4
  a4 := Tryd.isAgg4
  z4 := Tryd.sizeOf4
  v4 := Tryd.zeroValue4
  t9 := Tryd.underlying9
  a9 := Tryd.isAgg9
  z9 := Tryd.sizeOf9
  v9 := Tryd.zeroValue9
  t20 := Tryd.underlying20
  a20 := Tryd.isAgg20
  z20 := Tryd.sizeOf20
  v20 := Tryd.zeroValue20
  t22 := Tryd.underlying49
  a22 := Tryd.isAgg49
  z22 := Tryd.sizeOf49
  v22 := Tryd.zeroValue49 }
theorem elemPt : ElemOK Tryd.prog 49 75 2 16 :=
  ElemOK.mk' (z := .agg #[.int .i64 0, .nilFunc]) Tryd.underlying49 (by kernel_rfl) rfl (by decide)
set_option maxRecDepth 100000 in
theorem grow5_any (w : World) : Calls Tryd.prog 59 #[.slice none 0 0, .int .i64 5] w fun e w' => ∃ v, e = .returned v ∧ w'.ownsRow w.heap.size 75 2 v 0 [] ∧ Below w.heap.size w w' := by
  obtain ⟨i0, hi, h1, h2, h3⟩ := info_parts (show (Tryd.prog.info? 75).map (fun i => (i.zero, i.size, i.bytes)) = some (some (.agg #[.int .i64 0, .nilFunc]), 2, 16) by kernel_rfl)
  refine (Any8.slices_Grow_grow growP i0 _ hi h1 (by omega) none 0 0 5 [] w (by omega) (by omega) (by omega) (by omega) (by simp) (fun _ => rfl) (fun a h => by cases h)).mono ?_
  rintro e w' ⟨rfl, rfl⟩
  have g1 := grownCap_ge w (0 + 5) 0 75
  have g2 := grownCap_le_maxLen w (0 + 5) 0 75 (by unfold maxLen; omega)
  show ∃ v, Ending.returned (.slice (some ⟨w.heap.size, 0, none⟩) 0 (grownCap w (0 + 5) 0 75)) = .returned v ∧ (w.drew.alloc (.cells (([] : List Value).toArray ++ Builtin.zeroCells (Value.agg #[.int .i64 0, .nilFunc]).cells (0 + 5 - 0) ++ Builtin.zeroCells (Value.agg #[.int .i64 0, .nilFunc]).cells (grownCap w (0 + 5) 0 75 - (0 + 5))) 75)).ownsRow w.heap.size 75 2 v 0 [] ∧ Below w.heap.size w _
  generalize grownCap w (0 + 5) 0 75 = c at *
  refine ⟨_, rfl, ⟨rfl, .inr ⟨_, c, _, rfl, Nat.le_refl _, heap_alloc_new w.drew _, by omega, g2, ?_, rfl⟩⟩, (Below.refl _ _).drew.alloc (Nat.le_refl _) _⟩
  rw [Array.size_append, Array.size_append, size_zeroCells, size_zeroCells]
  show 0 + (0 + 5 - 0) * 2 + (c - (0 + 5)) * 2 = c * 2
  omega
/-- slices.Concat of three names' words and two numbers' -/
theorem flatPt_one (l : List Nat) : ∀ u ∈ flatPt l, u.oneCell' = true := fun u hu => by
  unfold flatPt at hu
  rw [List.mem_flatMap] at hu
  obtain ⟨k, -, hk⟩ := hu
  simp only [List.mem_cons, List.not_mem_nil, or_false] at hk
  rcases hk with rfl | rfl <;> rfl
def catSz : Nat → Nat
  | 0 => 0
  | 1 => 3
  | _ => 5
def catK : Nat → List Nat
  | 0 => []
  | 1 => [1, 1, 1]
  | _ => [1, 1, 1, 2, 2]
set_option maxRecDepth 100000 in
set_option maxHeartbeats 1600000 in
theorem concat_any (w : World) (b : Nat) (hb : b < w.heap.size) (b1 o1 c1 b2 o2 c2 : Nat) (k0 : w.cell? ⟨b, 0, none⟩ = some (.slice (some ⟨b1, o1, none⟩) 3 c1)) (k1 : w.cell? ⟨b, 1, none⟩ = some (.slice (some ⟨b2, o2, none⟩) 2 c2))
    (r1 : RdPt w (.slice (some ⟨b1, o1, none⟩) 3 c1) [1, 1, 1]) (r2 : RdPt w (.slice (some ⟨b2, o2, none⟩) 2 c2) [2, 2]) :
    Calls Tryd.prog 44 #[.slice (some ⟨b, 0, none⟩) 2 2] w fun e w' => ∃ v, e = .returned v ∧ RdPt w' v [1, 1, 1, 2, 2] ∧ Below w.heap.size w w' := by
  have R1 := Lib.hid r1
  have R2 := Lib.hid r2
  have HG := Lib.hid (fun w => grow5_any w)
  clear r1 r2
  go_enter Tryd.func44, Tryd.ntmps44
  go_wp2_with fail
  go_loop [3, 5, 11] (fun n _ i => ∃ j : Nat, j ≤ 2 ∧ i = .int .i64 j ∧ n = .int .i64 (catSz j)) (fun _ _ i => 2 - (intOf i).toNat)
  case atStart => exact ⟨0, by omega, rfl, rfl⟩
  case round =>
    obtain ⟨j, hj, rfl, rfl⟩ := hrel
    match j, hj with
    | 0, _ =>
      simp only [catSz]
      go_wp2_with fail
      go_round
      case rel => exact ⟨1, by omega, rfl, rfl⟩
      case measure => simp [intOf]
    | 1, _ =>
      simp only [catSz]
      go_wp2_with fail
      go_round
      case rel => exact ⟨2, by omega, rfl, rfl⟩
      case measure => simp [intOf]
    | 2, _ =>
      simp only [catSz]
      go_wp2_with fail
      refine (HG.out _).mono ?_
      rintro e w2 ⟨v, rfl, ho, hb2⟩
      have HO := Lib.hid ho
      have HB := Lib.hid hb2
      clear ho hb2
      go_wp2_with fail
      go_loopw [6, 8, 27] (fun s _ i wr => ∃ j : Nat, j ≤ 2 ∧ i = .int .i64 j ∧ Hid (wr.ownsRow w.heap.size 75 2 s (catSz j) (flatPt (catK j))) ∧ Hid (Below w.heap.size w wr)) (fun _ _ i _ => 2 - (intOf i).toNat)
      case atStart => exact ⟨0, by omega, rfl, HO.out, HB.out⟩
      case round =>
        obtain ⟨j, hj, rfl, HO2, HB2⟩ := hrel
        have hws := HB2.out.size
        match j, hj with
        | 0, _ =>
          have X0 := (HB2.out.cell (p := ⟨b, 0, none⟩) hb).trans k0
          have hr := R1.out.below HB2.out
          obtain ⟨_, _, _, e1, _, _, hc1⟩ := Rd.at hr (i := 0) (by decide)
          simp only [Value.slice.injEq, Option.some.injEq, Addr.mk.injEq] at e1
          obtain ⟨⟨rfl, rfl, -⟩, -, rfl⟩ := e1
          go_wp2_with (at_builtin; refine wpList_appG elemPt rfl _ _ rfl HO2.out rfl (news := flatPt [1, 1, 1]) rfl rfl (fun j u h => by rw [Addr.add_lit]; exact hc1 j u h) (flatPt_one _) (by simp [maxLen, catSz]) (by simp [catSz]) hws ?_; intro v' w3 hown3 hg3; have HO3 := Lib.hid hown3; have HB3 : Hid (Below w.heap.size w w3) := HB2.out.grown hg3 hws (fun j hj => own_block HO2.out j hj); clear hown3 hg3)
          go_roundw
          case rel => exact ⟨1, by omega, rfl, HO3.out, HB3.out⟩
          case measure => simp [intOf]
        | 1, _ =>
          have X0 := (HB2.out.cell (p := ⟨b, 1, none⟩) hb).trans k1
          have hr := R2.out.below HB2.out
          obtain ⟨_, _, _, e1, _, _, hc1⟩ := Rd.at hr (i := 0) (by decide)
          simp only [Value.slice.injEq, Option.some.injEq, Addr.mk.injEq] at e1
          obtain ⟨⟨rfl, rfl, -⟩, -, rfl⟩ := e1
          go_wp2_with (at_builtin; refine wpList_appG elemPt rfl _ _ rfl HO2.out rfl (news := flatPt [2, 2]) rfl rfl (fun j u h => by rw [Addr.add_lit]; exact hc1 j u h) (flatPt_one _) (by simp [maxLen, catSz]) (by simp [catSz]) hws ?_; intro v' w3 hown3 hg3; have HO3 := Lib.hid hown3; have HB3 : Hid (Below w.heap.size w w3) := HB2.out.grown hg3 hws (fun j hj => own_block HO2.out j hj); clear hown3 hg3)
          go_roundw
          case rel => exact ⟨2, by omega, rfl, HO3.out, HB3.out⟩
          case measure => simp [intOf]
        | 2, _ =>
          go_wp2_with fail
          go_ret
          exact ⟨_, rfl, Rd.of_owns HO2.out, HB2.out⟩
end Go.Proofs.YtikkfbkpgejneaaDoor
namespace Go.Proofs.YtikkfbkpgejneaaDoor
open Go.RowKit Go.Shelf

theorem cmName_v (w : World) : Calls Tryd.prog 42 #[] w fun e w' => e = .returned (.agg #[.int .i64 1, .func (.func 57) #[] #[]]) ∧ Below w.heap.size w w' := cmName_any w
theorem cmNumber_v (w : World) : Calls Tryd.prog 45 #[] w fun e w' => e = .returned (.agg #[.int .i64 2, .func (.func 60) #[] #[]]) ∧ Below w.heap.size w w' := cmNumber_any w
theorem cmHow_v (w : World) : Calls Tryd.prog 43 #[] w fun e w' => e = .returned (.agg #[.int .i64 0, .func (.func 58) #[] #[]]) ∧ Below w.heap.size w w' := cmHow_any w
def vF (b3 : Nat) : Nat → Value → World → Prop
  | 0, v, w => ∃ b P, v = .slice (some ⟨b, 0, none⟩) 10 10 ∧ RdVs w (.slice (some ⟨b, 0, none⟩) 10 10) P
  | 6, v, _ => v = .agg #[.int .i64 1, .string ⟨#[103, 114, 97, 109, 109, 97, 114]⟩, .bool true, .slice none 0 0]
  | 7, v, _ => v = .agg #[.int .i64 2, .string ⟨#[103, 114, 97, 112, 104]⟩, .bool true, .slice none 0 0]
  | 8, v, _ => v = .slice (some ⟨b3, 0, none⟩) 3 3
  | 9, v, _ => v = .slice (some ⟨b3, 0, none⟩) 1 3
  | 10, v, _ => v = .agg #[.int .i64 3, .string ⟨#[110, 111, 100, 101]⟩, .bool false, .slice (some ⟨b3, 0, none⟩) 1 3]
  | 11, v, _ => v = .slice (some ⟨b3, 0, none⟩) 3 3
  | 12, v, _ => v = .agg #[.int .i64 4, .string ⟨#[101, 100, 103, 101]⟩, .bool false, .slice (some ⟨b3, 0, none⟩) 3 3]
  | 13, v, _ => v = .agg #[.int .i64 0, .func (.func 58) #[] #[]]
  | 14, v, _ => v = .agg #[.int .i64 1, .func (.func 57) #[] #[]]
  | 15, v, w => ∃ b, v = .slice (some ⟨b, 0, none⟩) 2 2 ∧ RdPt w (.slice (some ⟨b, 0, none⟩) 2 2) [0, 1]
  | 16, v, w => ∃ b, v = .agg #[.int .i64 5, .string ⟨#[113, 117, 101, 114, 121]⟩, .bool false, .slice (some ⟨b, 0, none⟩) 2 2] ∧ RdPt w (.slice (some ⟨b, 0, none⟩) 2 2) [0, 1]
  | 17, v, _ => v = .slice (some ⟨b3, 0, none⟩) 3 3
  | 18, v, _ => v = .agg #[.int .i64 6, .string ⟨#[112, 97, 116, 104]⟩, .bool false, .slice (some ⟨b3, 0, none⟩) 3 3]
  | 19, v, _ => v = .slice (some ⟨b3, 0, none⟩) 3 3
  | 20, v, _ => v = .agg #[.int .i64 2, .func (.func 60) #[] #[]]
  | 21, v, _ => v = .agg #[.int .i64 2, .func (.func 60) #[] #[]]
  | 22, v, w => ∃ b, v = .slice (some ⟨b, 0, none⟩) 2 2 ∧ RdPt w (.slice (some ⟨b, 0, none⟩) 2 2) [2, 2]
  | 23, v, w => ∃ b b2, v = .slice (some ⟨b, 0, none⟩) 2 2 ∧ b < w.heap.size ∧ w.cell? ⟨b, 0, none⟩ = some (.slice (some ⟨b3, 0, none⟩) 3 3) ∧ w.cell? ⟨b, 1, none⟩ = some (.slice (some ⟨b2, 0, none⟩) 2 2) ∧ RdPt w (.slice (some ⟨b2, 0, none⟩) 2 2) [2, 2]
  | 24, v, w => ∃ ao c, v = .slice ao 5 c ∧ RdPt w (.slice ao 5 c) [1, 1, 1, 2, 2]
  | 25, v, w => ∃ ao c, v = .agg #[.int .i64 7, .string ⟨#[112, 97, 116, 104, 115]⟩, .bool false, .slice ao 5 c] ∧ RdPt w (.slice ao 5 c) [1, 1, 1, 2, 2]
  | 26, v, _ => v = .agg #[.int .i64 8, .string ⟨#[114, 117, 108, 101, 115]⟩, .bool false, .slice none 0 0]
  | 27, v, _ => v = .agg #[.int .i64 9, .string ⟨#[101, 100, 103, 101, 115]⟩, .bool false, .slice none 0 0]
  | 28, v, _ => v = .agg #[.int .i64 10, .string ⟨#[115, 105, 122, 101]⟩, .bool false, .slice none 0 0]
  | 29, v, w => ∃ b P, v = .slice (some ⟨b, 0, none⟩) 10 10 ∧ RdVs w (.slice (some ⟨b, 0, none⟩) 10 10) P
  | _, _, _ => True
theorem vF_below (b3 : Nat) : ∀ d v w w', vF b3 d v w → Below w.heap.size w w' → vF b3 d v w' := by
  intro d v w w' h hb
  unfold vF at h ⊢
  split at h
  all_goals first
    | exact h
    | (obtain ⟨b, e, h⟩ := h; exact ⟨b, e, h.below hb⟩)
    | (obtain ⟨b, P, e, h⟩ := h; exact ⟨b, P, e, h.below hb⟩)
    | (obtain ⟨b, b2, e, h1, h2, h3, h⟩ := h; exact ⟨b, b2, e, Nat.lt_of_lt_of_le h1 hb.size, (hb.cell (p := ⟨b, 0, none⟩) h1).trans h2, (hb.cell (p := ⟨b, 1, none⟩) h1).trans h3, h.below hb⟩)

set_option maxRecDepth 100000 in
set_option maxHeartbeats 3200000 in
theorem verbs_any (w : World) : Calls Tryd.prog 30 #[] w fun e w' => ∃ v P, e = .returned v ∧ RdVs w' v P ∧ Below w.heap.size w w' := by
  go_enter Tryd.func30, Tryd.ntmps30
  go_wp2_with fail
  refine (cmName_v _).mono ?_
  rintro e w1 ⟨rfl, hb1⟩
  go_wp2_with fail
  refine (cmName_v _).mono ?_
  rintro e w2 ⟨rfl, hb2⟩
  go_wp2_with fail
  refine (cmName_v _).mono ?_
  rintro e w3 ⟨rfl, hb3⟩
  have HB3 : Hid (Below w.heap.size w w3) := (hb1.trans (hb2.mono hb1.size)).trans (hb3.mono (Nat.le_trans hb1.size hb2.size))
  clear hb1 hb2 hb3
  go_wp2_with fail
  have HR3 : Hid (RdPt (w3.alloc (.cells (flatPt [1, 1, 1]).toArray 75)) (.slice (some ⟨w3.heap.size, 0, none⟩) 3 3) [1, 1, 1]) := RdPt.new w3 [1, 1, 1] (by simp [maxLen])
  have HB4 : Hid (Below w.heap.size w (w3.alloc (.cells (flatPt [1, 1, 1]).toArray 75))) := HB3.out.alloc HB3.out.size _
  change Code.wp _ _ _ _ (w3.alloc (.cells (flatPt [1, 1, 1]).toArray 75))
  generalize w3.alloc (.cells (flatPt [1, 1, 1]).toArray 75) = w4 at *
  generalize w3.heap.size = b3 at *
  clear HB3
  refine wp_region_facts (by kernel_rfl) (vF b3) (vF_below b3) (by kernel_rfl) (by kernel_rfl) (by kernel_rfl) ?step ?fin
  case fin =>
    intro a wr hA hD
    obtain ⟨b, P, e0, hv⟩ : ∃ b P, a.tmps.getD 0 undef = .slice (some ⟨b, 0, none⟩) 10 10 ∧ RdVs wr (.slice (some ⟨b, 0, none⟩) 10 10) P := hD 24 0 (by kernel_rfl)
    have hB : Below w.heap.size w wr := (HB4.out.drew).trans (hA.below.mono (HB4.out.drew).size)
    have hd : a.defers = [] := hA.defers
    clear hA hD
    go_wp2
    refine bodyPost_ret (results_tmp rfl _ _ _) hd ?_
    rw [e0]
    exact ⟨_, P, rfl, hv, hB⟩
  case step =>
    refine ⟨?_, ?_, ?_, ?_, ?_, ?_, ?_, ?_, ?_, ?_, ?_, ?_, ?_, ?_, ?_, ?_, ?_, ?_, ?_, ?_, ?_, ?_, ?_, ?_, ?_, trivial⟩
    all_goals intro a wr hA hD
    all_goals have e1 : a.tmps[1]?.getD undef = .slice (some ⟨b3, 0, none⟩) 3 3 := by simpa using hA.frame 1 (by kernel_rfl)
    all_goals have hr3 : RdPt wr (.slice (some ⟨b3, 0, none⟩) 3 3) [1, 1, 1] := (RdPt.below HR3.out (Below.refl _ _).drew).below hA.below
    all_goals clear hA
    · clear hD
      go_simp
      exact ⟨_, rfl, Below.refl _ _, rfl⟩
    · clear hD
      go_simp
      exact ⟨_, rfl, Below.refl _ _, rfl⟩
    · clear hD
      go_simp
      exact ⟨_, rfl, Below.refl _ _, rfl⟩
    · have e8 : a.tmps[8]?.getD undef = .slice (some ⟨b3, 0, none⟩) 3 3 := by simpa using (show a.tmps.getD 8 undef = .slice (some ⟨b3, 0, none⟩) 3 3 from hD 2 8 (by kernel_rfl) (by kernel_rfl))
      clear hD
      go_simp
      exact ⟨_, rfl, Below.refl _ _, rfl⟩
    · have e9 : a.tmps[9]?.getD undef = .slice (some ⟨b3, 0, none⟩) 1 3 := by simpa using (show a.tmps.getD 9 undef = .slice (some ⟨b3, 0, none⟩) 1 3 from hD 3 9 (by kernel_rfl) (by kernel_rfl))
      clear hD
      go_simp
      exact ⟨_, rfl, Below.refl _ _, rfl⟩
    · clear hD
      go_simp
      exact ⟨_, rfl, Below.refl _ _, rfl⟩
    · have e11 : a.tmps[11]?.getD undef = .slice (some ⟨b3, 0, none⟩) 3 3 := by simpa using (show a.tmps.getD 11 undef = .slice (some ⟨b3, 0, none⟩) 3 3 from hD 5 11 (by kernel_rfl) (by kernel_rfl))
      clear hD
      go_simp
      exact ⟨_, rfl, Below.refl _ _, rfl⟩
    · clear hD
      go_simp
      refine (cmHow_v _).mono ?_
      rintro e w2 ⟨rfl, hb⟩
      exact ⟨_, rfl, hb, rfl⟩
    · clear hD
      go_simp
      refine (cmName_v _).mono ?_
      rintro e w2 ⟨rfl, hb⟩
      exact ⟨_, rfl, hb, rfl⟩
    · have e13 : a.tmps[13]?.getD undef = .agg #[.int .i64 0, .func (.func 58) #[] #[]] := by simpa using (show a.tmps.getD 13 undef = .agg #[.int .i64 0, .func (.func 58) #[] #[]] from hD 7 13 (by kernel_rfl) (by kernel_rfl))
      have e14 : a.tmps[14]?.getD undef = .agg #[.int .i64 1, .func (.func 57) #[] #[]] := by simpa using (show a.tmps.getD 14 undef = .agg #[.int .i64 1, .func (.func 57) #[] #[]] from hD 8 14 (by kernel_rfl) (by kernel_rfl))
      clear hD
      go_simp
      exact ⟨_, rfl, below1 _ _, wr.heap.size, rfl, RdPt.new wr [0, 1] (by simp [maxLen])⟩
    · obtain ⟨b, e15, h15⟩ : ∃ b, a.tmps.getD 15 undef = .slice (some ⟨b, 0, none⟩) 2 2 ∧ RdPt wr (.slice (some ⟨b, 0, none⟩) 2 2) [0, 1] := hD 9 15 (by kernel_rfl) (by kernel_rfl)
      rw [Array.getD_eq_getD_getElem?] at e15
      clear hD
      go_simp
      exact ⟨_, rfl, Below.refl _ _, b, rfl, h15⟩
    · clear hD
      go_simp
      exact ⟨_, rfl, Below.refl _ _, rfl⟩
    · have e17 : a.tmps[17]?.getD undef = .slice (some ⟨b3, 0, none⟩) 3 3 := by simpa using (show a.tmps.getD 17 undef = .slice (some ⟨b3, 0, none⟩) 3 3 from hD 11 17 (by kernel_rfl) (by kernel_rfl))
      clear hD
      go_simp
      exact ⟨_, rfl, Below.refl _ _, rfl⟩
    · clear hD
      go_simp
      exact ⟨_, rfl, Below.refl _ _, rfl⟩
    · clear hD
      go_simp
      refine (cmNumber_v _).mono ?_
      rintro e w2 ⟨rfl, hb⟩
      exact ⟨_, rfl, hb, rfl⟩
    · clear hD
      go_simp
      refine (cmNumber_v _).mono ?_
      rintro e w2 ⟨rfl, hb⟩
      exact ⟨_, rfl, hb, rfl⟩
    · have e20 : a.tmps[20]?.getD undef = .agg #[.int .i64 2, .func (.func 60) #[] #[]] := by simpa using (show a.tmps.getD 20 undef = .agg #[.int .i64 2, .func (.func 60) #[] #[]] from hD 14 20 (by kernel_rfl) (by kernel_rfl))
      have e21 : a.tmps[21]?.getD undef = .agg #[.int .i64 2, .func (.func 60) #[] #[]] := by simpa using (show a.tmps.getD 21 undef = .agg #[.int .i64 2, .func (.func 60) #[] #[]] from hD 15 21 (by kernel_rfl) (by kernel_rfl))
      clear hD
      go_simp
      exact ⟨_, rfl, below1 _ _, wr.heap.size, rfl, RdPt.new wr [2, 2] (by simp [maxLen])⟩
    · have e19 : a.tmps[19]?.getD undef = .slice (some ⟨b3, 0, none⟩) 3 3 := by simpa using (show a.tmps.getD 19 undef = .slice (some ⟨b3, 0, none⟩) 3 3 from hD 13 19 (by kernel_rfl) (by kernel_rfl))
      obtain ⟨b, e22, h22⟩ : ∃ b, a.tmps.getD 22 undef = .slice (some ⟨b, 0, none⟩) 2 2 ∧ RdPt wr (.slice (some ⟨b, 0, none⟩) 2 2) [2, 2] := hD 16 22 (by kernel_rfl) (by kernel_rfl)
      rw [Array.getD_eq_getD_getElem?] at e22
      clear hD
      go_simp
      exact ⟨_, rfl, below1 _ _, wr.heap.size, b, rfl, by simp, by rw [World.cell?_alloc_at _ _ _ _ rfl]; rfl, by rw [World.cell?_alloc_at _ _ _ _ rfl]; rfl, h22.below (below1 _ _)⟩
    · obtain ⟨b, b2, e23, hlt, k0, k1, h2⟩ : ∃ b b2, a.tmps.getD 23 undef = .slice (some ⟨b, 0, none⟩) 2 2 ∧ b < wr.heap.size ∧ wr.cell? ⟨b, 0, none⟩ = some (.slice (some ⟨b3, 0, none⟩) 3 3) ∧ wr.cell? ⟨b, 1, none⟩ = some (.slice (some ⟨b2, 0, none⟩) 2 2) ∧ RdPt wr (.slice (some ⟨b2, 0, none⟩) 2 2) [2, 2] := hD 17 23 (by kernel_rfl) (by kernel_rfl)
      rw [Array.getD_eq_getD_getElem?] at e23
      clear hD
      go_simp
      refine (concat_any wr b hlt b3 0 3 b2 0 2 k0 k1 hr3 h2).mono ?_
      rintro e w2 ⟨v, rfl, hr, hb⟩
      obtain ⟨_, ao, c, rfl, -⟩ := id hr
      exact ⟨_, rfl, hb, ao, c, rfl, hr⟩
    · obtain ⟨ao, c, e24, h24⟩ : ∃ ao c, a.tmps.getD 24 undef = .slice ao 5 c ∧ RdPt wr (.slice ao 5 c) [1, 1, 1, 2, 2] := hD 18 24 (by kernel_rfl) (by kernel_rfl)
      rw [Array.getD_eq_getD_getElem?] at e24
      clear hD
      go_simp
      exact ⟨_, rfl, Below.refl _ _, ao, c, rfl, h24⟩
    · clear hD
      go_simp
      exact ⟨_, rfl, Below.refl _ _, rfl⟩
    · clear hD
      go_simp
      exact ⟨_, rfl, Below.refl _ _, rfl⟩
    · clear hD
      go_simp
      exact ⟨_, rfl, Below.refl _ _, rfl⟩
    · have e6 : a.tmps[6]?.getD undef = .agg #[.int .i64 1, .string ⟨#[103, 114, 97, 109, 109, 97, 114]⟩, .bool true, .slice none 0 0] := by simpa using (show a.tmps.getD 6 undef = .agg #[.int .i64 1, .string ⟨#[103, 114, 97, 109, 109, 97, 114]⟩, .bool true, .slice none 0 0] from hD 0 6 (by kernel_rfl) (by kernel_rfl))
      have e7 : a.tmps[7]?.getD undef = .agg #[.int .i64 2, .string ⟨#[103, 114, 97, 112, 104]⟩, .bool true, .slice none 0 0] := by simpa using (show a.tmps.getD 7 undef = .agg #[.int .i64 2, .string ⟨#[103, 114, 97, 112, 104]⟩, .bool true, .slice none 0 0] from hD 1 7 (by kernel_rfl) (by kernel_rfl))
      have e10 : a.tmps[10]?.getD undef = .agg #[.int .i64 3, .string ⟨#[110, 111, 100, 101]⟩, .bool false, .slice (some ⟨b3, 0, none⟩) 1 3] := by simpa using (show a.tmps.getD 10 undef = .agg #[.int .i64 3, .string ⟨#[110, 111, 100, 101]⟩, .bool false, .slice (some ⟨b3, 0, none⟩) 1 3] from hD 4 10 (by kernel_rfl) (by kernel_rfl))
      have e12 : a.tmps[12]?.getD undef = .agg #[.int .i64 4, .string ⟨#[101, 100, 103, 101]⟩, .bool false, .slice (some ⟨b3, 0, none⟩) 3 3] := by simpa using (show a.tmps.getD 12 undef = .agg #[.int .i64 4, .string ⟨#[101, 100, 103, 101]⟩, .bool false, .slice (some ⟨b3, 0, none⟩) 3 3] from hD 6 12 (by kernel_rfl) (by kernel_rfl))
      have e18 : a.tmps[18]?.getD undef = .agg #[.int .i64 6, .string ⟨#[112, 97, 116, 104]⟩, .bool false, .slice (some ⟨b3, 0, none⟩) 3 3] := by simpa using (show a.tmps.getD 18 undef = .agg #[.int .i64 6, .string ⟨#[112, 97, 116, 104]⟩, .bool false, .slice (some ⟨b3, 0, none⟩) 3 3] from hD 12 18 (by kernel_rfl) (by kernel_rfl))
      have e26 : a.tmps[26]?.getD undef = .agg #[.int .i64 8, .string ⟨#[114, 117, 108, 101, 115]⟩, .bool false, .slice none 0 0] := by simpa using (show a.tmps.getD 26 undef = .agg #[.int .i64 8, .string ⟨#[114, 117, 108, 101, 115]⟩, .bool false, .slice none 0 0] from hD 20 26 (by kernel_rfl) (by kernel_rfl))
      have e27 : a.tmps[27]?.getD undef = .agg #[.int .i64 9, .string ⟨#[101, 100, 103, 101, 115]⟩, .bool false, .slice none 0 0] := by simpa using (show a.tmps.getD 27 undef = .agg #[.int .i64 9, .string ⟨#[101, 100, 103, 101, 115]⟩, .bool false, .slice none 0 0] from hD 21 27 (by kernel_rfl) (by kernel_rfl))
      have e28 : a.tmps[28]?.getD undef = .agg #[.int .i64 10, .string ⟨#[115, 105, 122, 101]⟩, .bool false, .slice none 0 0] := by simpa using (show a.tmps.getD 28 undef = .agg #[.int .i64 10, .string ⟨#[115, 105, 122, 101]⟩, .bool false, .slice none 0 0] from hD 22 28 (by kernel_rfl) (by kernel_rfl))
      obtain ⟨b, e16, h16⟩ : ∃ b, a.tmps.getD 16 undef = .agg #[.int .i64 5, .string ⟨#[113, 117, 101, 114, 121]⟩, .bool false, .slice (some ⟨b, 0, none⟩) 2 2] ∧ RdPt wr (.slice (some ⟨b, 0, none⟩) 2 2) [0, 1] := hD 10 16 (by kernel_rfl) (by kernel_rfl)
      rw [Array.getD_eq_getD_getElem?] at e16
      obtain ⟨ao, c, e25, h25⟩ : ∃ ao c, a.tmps.getD 25 undef = .agg #[.int .i64 7, .string ⟨#[112, 97, 116, 104, 115]⟩, .bool false, .slice ao 5 c] ∧ RdPt wr (.slice ao 5 c) [1, 1, 1, 2, 2] := hD 19 25 (by kernel_rfl) (by kernel_rfl)
      rw [Array.getD_eq_getD_getElem?] at e25
      clear hD
      go_simp
      exact ⟨_, rfl, below1 _ _, wr.heap.size, (VT.zip [.slice none 0 0, .slice none 0 0, .slice (some ⟨b3, 0, none⟩) 1 3, .slice (some ⟨b3, 0, none⟩) 3 3, .slice (some ⟨b, 0, none⟩) 2 2, .slice (some ⟨b3, 0, none⟩) 3 3, .slice ao 5 c, .slice none 0 0, .slice none 0 0, .slice none 0 0]), rfl, RdVs.new wr (VT.zip [.slice none 0 0, .slice none 0 0, .slice (some ⟨b3, 0, none⟩) 1 3, .slice (some ⟨b3, 0, none⟩) 3 3, .slice (some ⟨b, 0, none⟩) 2 2, .slice (some ⟨b3, 0, none⟩) 3 3, .slice ao 5 c, .slice none 0 0, .slice none 0 0, .slice none 0 0]) rfl (by
        intro p hp
        simp only [VT, List.zip_cons_cons, List.zip_nil_right, List.mem_cons, List.not_mem_nil, or_false] at hp
        rcases hp with rfl | rfl | rfl | rfl | rfl | rfl | rfl | rfl | rfl | rfl
        · exact Rd.nil _ _
        · exact Rd.nil _ _
        · exact hr3.first
        · exact hr3
        · exact h16
        · exact hr3
        · exact h25
        · exact Rd.nil _ _
        · exact Rd.nil _ _
        · exact Rd.nil _ _)⟩
    · obtain ⟨b, P, e29, h29⟩ : ∃ b P, a.tmps.getD 29 undef = .slice (some ⟨b, 0, none⟩) 10 10 ∧ RdVs wr (.slice (some ⟨b, 0, none⟩) 10 10) P := hD 23 29 (by kernel_rfl) (by kernel_rfl)
      rw [Array.getD_eq_getD_getElem?] at e29
      clear hD
      go_simp
      exact ⟨_, rfl, Below.refl _ _, b, P, rfl, h29⟩
end Go.Proofs.YtikkfbkpgejneaaDoor
namespace Go.Proofs.YtikkfbkpgejneaaDoor
open Go.Lib

/-! ### the words of a line, numbers: plain -/
def mkB (l : List UInt8) : ByteArray := ⟨l.toArray⟩
theorem mkB_data (s : ByteArray) : mkB s.data.toList = s := by unfold mkB; rfl
theorem data_mkB (l : List UInt8) : (mkB l).data.toList = l := rfl
theorem mkB_size (l : List UInt8) : (mkB l).size = l.length := by unfold mkB; exact List.size_toArray
/-- the pieces between the bytes 32 -/
def wds : List UInt8 → List (List UInt8)
  | [] => [[]]
  | c :: l => if c = 32 then [] :: wds l else match wds l with | [] => [[c]] | x :: r => (c :: x) :: r
theorem wds_ne (l : List UInt8) : wds l ≠ [] := by
  cases l with
  | nil => simp [wds]
  | cons c l => unfold wds; split; simp; split <;> simp
theorem wds_free {l : List UInt8} (h : (32 : UInt8) ∉ l) : wds l = [l] := by
  induction l with
  | nil => rfl
  | cons c l ih =>
    rw [List.mem_cons, not_or] at h
    unfold wds
    rw [if_neg (Ne.symm h.1), ih h.2]
theorem wds_app {x : List UInt8} (h : (32 : UInt8) ∉ x) (l : List UInt8) : wds (x ++ 32 :: l) = x :: wds l := by
  induction x with
  | nil => simp [wds]
  | cons c x ih =>
    rw [List.mem_cons, not_or] at h
    rw [List.cons_append]
    conv => lhs; unfold wds
    rw [if_neg (Ne.symm h.1), ih h.2]
theorem wds_no {l w : List UInt8} (h : w ∈ wds l) : (32 : UInt8) ∉ w := by
  induction l generalizing w with
  | nil => simp [wds] at h; subst h; simp
  | cons c l ih =>
    unfold wds at h
    split at h
    · rcases List.mem_cons.1 h with rfl | h
      · simp
      · exact ih h
    · rename_i hc
      split at h
      · rename_i he; exact absurd he (wds_ne l)
      · rename_i x r he
        rcases List.mem_cons.1 h with rfl | h
        · rw [List.mem_cons, not_or]; exact ⟨Ne.symm hc, ih (by rw [he]; simp)⟩
        · exact ih (by rw [he]; simp [h])
theorem wds_snoc_sp (l : List UInt8) : wds (l ++ [32]) = wds l ++ [[]] := by
  induction l with
  | nil => rfl
  | cons c l ih =>
    rw [List.cons_append]
    conv => lhs; unfold wds
    conv => rhs; unfold wds
    rw [ih]
    split
    · rfl
    · rcases he : wds l with _ | ⟨x, r⟩
      · exact absurd he (wds_ne l)
      · rfl
theorem wds_snoc {l : List UInt8} {c : UInt8} (hc : c ≠ 32) {a : List (List UInt8)} {x : List UInt8} (h : wds l = a ++ [x]) : wds (l ++ [c]) = a ++ [x ++ [c]] := by
  induction l generalizing a x with
  | nil =>
    have ha : a = [] ∧ x = [] := by
      cases a with
      | nil => simpa [wds] using h.symm
      | cons y a => simp [wds] at h
    obtain ⟨rfl, rfl⟩ := ha
    simp [wds, hc]
  | cons d l ih =>
    rw [List.cons_append]
    unfold wds at h ⊢
    split at h
    · rename_i hd
      rw [if_pos hd]
      cases a with
      | nil => simp at h; exact absurd h.2 (wds_ne l)
      | cons y a =>
        simp only [List.cons_append, List.cons.injEq] at h
        rw [ih h.2, ← h.1]; rfl
    · rename_i hd
      rw [if_neg hd]
      rcases he : wds l with _ | ⟨z, r⟩
      · exact absurd he (wds_ne l)
      · rw [he] at h
        cases a with
        | nil =>
          simp only [List.nil_append, List.cons.injEq] at h
          obtain ⟨rfl, rfl⟩ := h
          rw [ih (a := []) (x := z) he]; rfl
        | cons y a =>
          simp only [List.cons_append, List.cons.injEq] at h
          obtain ⟨rfl, rfl⟩ := h
          rw [ih (a := z :: a) (x := x) he]; rfl
def words (s : ByteArray) : List ByteArray := (wds s.data.toList).map mkB
theorem words_ne (s : ByteArray) : words s ≠ [] := by unfold words; simp [wds_ne]
/-- the first byte 32 -/
theorem sp_split (l : List UInt8) : ((32 : UInt8) ∉ l ∧ index l [32] = -1) ∨ ∃ x r, (32 : UInt8) ∉ x ∧ l = x ++ 32 :: r ∧ index l [32] = (x.length : Int) := by
  rw [index_one]
  induction l with
  | nil => left; simp [indexByte]
  | cons c l ih =>
    unfold indexByte
    by_cases hc : c = 32
    · subst hc; right; exact ⟨[], l, by simp, rfl, by simp⟩
    · have hb : (c == 32) = false := by simpa using hc
      rcases ih with ⟨h1, h2⟩ | ⟨x, r, h1, h2, h3⟩
      · left
        rw [hb, h2]
        exact ⟨by rw [List.mem_cons, not_or]; exact ⟨Ne.symm hc, h1⟩, by simp⟩
      · right
        refine ⟨c :: x, r, by rw [List.mem_cons, not_or]; exact ⟨Ne.symm hc, h1⟩, by rw [h2]; rfl, ?_⟩
        rw [hb, h3, List.length_cons]
        have : ((x.length : Int) == -1) = false := by rw [beq_eq_false_iff_ne]; omega
        simp [this]
/-- strings.Cut at a byte 32 -/
theorem cut_sp (l : List UInt8) : (wds l = [l] ∧ cut l [32] = (l, [], false)) ∨ ∃ x r, l = x ++ 32 :: r ∧ wds l = x :: wds r ∧ cut l [32] = (x, r, true) := by
  unfold cut
  rcases sp_split l with ⟨h1, h2⟩ | ⟨x, r, h1, h2, h3⟩
  · left; refine ⟨wds_free h1, ?_⟩; rw [h2, if_neg (by omega)]
  · right; refine ⟨x, r, h2, by rw [h2]; exact wds_app h1 r, ?_⟩
    rw [h3, if_pos (by omega), h2]
    have e1 : (x ++ 32 :: r).take ((x.length : Int)).toNat = x := by simp
    have e2 : (x ++ 32 :: r).drop (((x.length : Int)).toNat + [(32 : UInt8)].length) = r := by
      have : ((x.length : Int)).toNat + [(32 : UInt8)].length = x.length + 1 := by simp
      rw [this]; simp
    rw [e1, e2]
def sp : ByteArray := ⟨#[32]⟩
/-- strings.Split at a byte 32 -/
theorem split_sp (s : ByteArray) : splitB sp 0 (countB s sp) s = words s := by
  have main : ∀ k (s : ByteArray), countB s sp = k → splitB sp 0 k s = words s := by
    intro k
    induction k with
    | zero =>
      intro s h
      rw [splitB_zero]
      rcases sp_split s.data.toList with ⟨h1, h2⟩ | ⟨x, r, h1, h2, h3⟩
      · unfold words; rw [wds_free h1]; rfl
      · have := countB_hit s sp x.length (by decide) h3
        omega
    | succ k ih =>
      intro s h
      rcases sp_split s.data.toList with ⟨h1, h2⟩ | ⟨x, r, h1, h2, h3⟩
      · have := countB_miss s sp h2
        omega
      · have hc := countB_hit s sp x.length (by decide) h3
        rw [splitB_hit sp 0 k s x.length h3, ih _ (by omega)]
        have hs : s = mkB (x ++ 32 :: r) := by rw [← h2, mkB_data]
        have e1 : s.extract 0 (x.length + 0) = mkB x := by
          rw [hs]; apply ByteArray.ext; apply Array.ext'; simp [mkB, ByteArray.data_extract]
        have e2 : s.extract (x.length + sp.size) s.size = mkB r := by
          have : sp.size = 1 := rfl
          rw [this, hs]; apply ByteArray.ext; apply Array.ext'; simp [mkB, ByteArray.data_extract, ByteArray.size]; exact List.take_of_length_le (by omega)
        rw [e1, e2]
        unfold words
        rw [h2, wds_app h1, data_mkB]; rfl
  exact main _ s rfl
/-! ### numbers -/
def numV (l : List UInt8) : Option Nat := if 1 ≤ l.length ∧ l.length ≤ 9 ∧ (1 < l.length → l.head? ≠ some 48) then decFrom 0 l else none
theorem decFrom_snoc (l : List UInt8) (b : UInt8) (acc : Nat) : decFrom acc (l ++ [b]) = (decFrom acc l).bind fun n => (digitVal b).map fun d => n * 10 + d := by
  induction l generalizing acc with
  | nil => simp only [List.nil_append, decFrom]; cases digitVal b <;> rfl
  | cons c l ih =>
    rw [List.cons_append]
    unfold decFrom
    cases digitVal c with
    | none => rfl
    | some d => exact ih _
theorem decFrom_ge (l : List UInt8) (acc n : Nat) (h : decFrom acc l = some n) : acc ≤ n := by
  induction l generalizing acc with
  | nil => simp [decFrom] at h; omega
  | cons c l ih =>
    unfold decFrom at h
    cases hd : digitVal c with
    | none => rw [hd] at h; cases h
    | some d => rw [hd] at h; have := ih _ h; omega
theorem dig_val (d : Nat) (h : d < 10) : digitVal (UInt8.ofNat (48 + d)) = some d := by
  have : ∀ i : Fin 10, digitVal (UInt8.ofNat (48 + i.val)) = some i.val := by decide
  exact this ⟨d, h⟩
theorem dig_of {b : UInt8} {d : Nat} (h : digitVal b = some d) : d < 10 ∧ UInt8.ofNat (48 + d) = b := by
  obtain ⟨h1, h2, h3⟩ := digitVal_eq h
  refine ⟨by omega, ?_⟩
  have : 48 + d = b.toNat := by omega
  rw [this, UInt8.ofNat_toNat]
theorem dec_digits (m : Nat) : decFrom 0 (decDigits m) = some m := by
  induction m using Nat.strongRecOn with
  | _ m ih =>
    rw [decDigits]
    split
    · rename_i h
      simp only [decFrom, dig_val m h]
      simp
    · rename_i h
      rw [decFrom_snoc, ih (m / 10) (by omega), dig_val _ (Nat.mod_lt _ (by omega))]
      simp only [Option.bind_some, Option.map_some, Option.some.injEq]
      omega
theorem head_digits (m : Nat) (h : 10 ≤ m) : (decDigits m).head? ≠ some 48 ∧ (decDigits m).head?.isSome := by
  induction m using Nat.strongRecOn with
  | _ m ih =>
    rw [decDigits, dif_neg (by omega)]
    by_cases h2 : 10 ≤ m / 10
    · have := ih (m / 10) (by omega) h2
      rw [List.head?_append]
      rcases he : (decDigits (m / 10)).head? with _ | x
      · rw [he] at this; simp at this
      · rw [he] at this; simpa using this
    · rw [decDigits, dif_pos (by omega)]
      have : ∀ i : Fin 10, 1 ≤ i.val → UInt8.ofNat (48 + i.val) ≠ 48 := by decide
      have := this ⟨m / 10, by omega⟩ (by show 1 ≤ m / 10; omega)
      simpa using this
theorem num_digits (m : Nat) (h : m ≤ 999999999) : numV (decDigits m) = some m := by
  unfold numV
  rw [if_pos ?_, dec_digits]
  have h1 := nDigits_pos m
  have h9 : nDigits m ≤ 9 := by
    by_cases h10 : nDigits m ≤ 9
    · exact h10
    · exfalso
      have hge : ∀ k u, nDigits u = k + 1 → 1 ≤ k → 10 ^ k ≤ u := by
        intro k
        induction k with
        | zero => intro u _ h; omega
        | succ k ih =>
          intro u hu _
          by_cases hs : u < 10
          · rw [nDigits_small hs] at hu; omega
          · rw [nDigits_big hs] at hu
            by_cases hk : k = 0
            · subst hk; omega
            · have := ih (u / 10) (by omega) (by omega)
              rw [Nat.pow_succ]; omega
      obtain ⟨k, hk⟩ : ∃ k, nDigits m = k + 1 := ⟨nDigits m - 1, by omega⟩
      have := hge k m hk (by omega)
      have h2 : 10 ^ 9 ≤ 10 ^ k := Nat.pow_le_pow_right (by omega) (by omega)
      omega
  rw [decDigits_length]
  refine ⟨h1, h9, fun hl => ?_⟩
  by_cases hs : m < 10
  · rw [nDigits_small hs] at hl; omega
  · exact (head_digits m (by omega)).1
theorem digits_num {l : List UInt8} {n : Nat} (h : decFrom 0 l = some n) (h1 : l ≠ []) (h2 : 1 < l.length → l.head? ≠ some 48) : decDigits n = l := by
  have main : ∀ (k : Nat) (l : List UInt8) (n : Nat), l.length = k → decFrom 0 l = some n → l ≠ [] → (1 < l.length → l.head? ≠ some 48) → decDigits n = l := by
    intro k
    induction k with
    | zero => intro l n hl _ hne; exact absurd (List.length_eq_zero_iff.1 hl) hne
    | succ k ih =>
      intro l n hl h hne hhd
      obtain ⟨l0, b, rfl⟩ : ∃ l0 b, l = l0 ++ [b] := ⟨l.dropLast, l.getLast hne, (List.dropLast_concat_getLast hne).symm⟩
      rw [decFrom_snoc] at h
      rcases hm : decFrom 0 l0 with _ | m
      · rw [hm] at h; cases h
      · rw [hm] at h
        rcases hd : digitVal b with _ | d
        · rw [hd] at h; cases h
        · rw [hd] at h
          simp only [Option.bind_some, Option.map_some, Option.some.injEq] at h
          obtain ⟨hd10, hb⟩ := dig_of hd
          by_cases h0 : l0 = []
          · subst h0
            simp [decFrom] at hm
            subst hm
            rw [decDigits_one (by omega), ← h, ← hb]; simp
          · obtain ⟨c, r, rfl⟩ := List.exists_cons_of_ne_nil h0
            have hc : c ≠ 48 := by
              have := hhd (by simp)
              simpa using this
            have hm1 : 1 ≤ m := by
              unfold decFrom at hm
              rcases hdc : digitVal c with _ | e
              · rw [hdc] at hm; cases hm
              · rw [hdc] at hm
                have h3 := decFrom_ge _ _ _ hm
                obtain ⟨_, he⟩ := dig_of hdc
                have : e ≠ 0 := by rintro rfl; exact hc he.symm
                omega
            have hih := ih (c :: r) m (by simpa using hl) hm h0 (fun _ => by simpa using hc)
            rw [decDigits, dif_neg (by omega)]
            have e1 : n / 10 = m := by omega
            have e2 : n % 10 = d := by omega
            rw [e1, e2, hih, hb]
  exact main _ l n rfl h h1 h2
theorem num_some {l : List UInt8} {n : Nat} (h : numV l = some n) : atoiAll l = .ok (n : Int) ∧ n ≤ 999999999 ∧ itoa (n : Int) = l := by
  unfold numV at h
  split at h
  · rename_i hc
    obtain ⟨h1, h9, h2⟩ := hc
    have hne : l ≠ [] := by rintro rfl; simp at h1
    have hlt := decFrom_lt l 0 n h
    have hp : 10 ^ l.length ≤ 10 ^ 9 := Nat.pow_le_pow_right (by omega) h9
    have hdig := digits_num h hne h2
    refine ⟨?_, by omega, ?_⟩
    · rw [atoiAll_short l (by omega)]
      obtain ⟨c, r, rfl⟩ := List.exists_cons_of_ne_nil hne
      have hcd := digit_of_decFrom _ _ _ h 0 c rfl
      obtain ⟨d, hcd⟩ := hcd
      obtain ⟨k1, k2, -⟩ := digitVal_eq hcd
      have n1 : (c == 45) = false := by rw [beq_eq_false_iff_ne]; rintro rfl; simp at k1
      have n2 : (c == 43) = false := by rw [beq_eq_false_iff_ne]; rintro rfl; simp at k1
      unfold atoi
      simp only [n1, n2, Bool.false_eq_true, if_false]
      have : decNat (c :: r) = some n := by unfold decNat; simpa using h
      rw [this]; rfl
    · unfold itoa
      rw [if_neg (by omega), Int.toNat_natCast]; exact hdig
  · cases h
theorem num_none {l : List UInt8} (h : numV l = none) (n : Int) (h0 : 0 ≤ n) (h1 : n ≤ 999999999) : itoa n ≠ l := by
  intro he
  unfold itoa at he
  rw [if_neg (by omega)] at he
  rw [← he, num_digits _ (by omega)] at h
  cases h
end Go.Proofs.YtikkfbkpgejneaaDoor
namespace Go.Proofs.YtikkfbkpgejneaaDoor
open Go.Shelf
def Tryd.lays156_ren : Go.Shelf.Ren := ⟨fun | 156 => 48 | 165 => 63 | 166 => 64 | 169 => 65 | 240 => 78 | 241 => 79 | 276 => 94 | 277 => 95 | n => n, fun | 31 => 24 | 9 => 9 | 3 => 3 | 4 => 4 | 0 => 0 | 20 => 20 | 72 => 96 | 76 => 91 | 70 => 93 | 37 => 94 | 75 => 90 | 127 => 107 | 164 => 125 | 5 => 5 | 80 => 98 | n => n, fun | n => n⟩
theorem Tryd.lays156 : Go.Proofs.Lays.n156 Tryd.prog Tryd.lays156_ren := {
  mixed := by kernel_rfl
  f156 := Tryd.func48.trans (congrArg some (by kernel_rfl))
  f165 := Tryd.func63.trans (congrArg some (by kernel_rfl))
  f166 := Tryd.func64.trans (congrArg some (by kernel_rfl))
  f169 := Tryd.func65.trans (congrArg some (by kernel_rfl))
  f240 := Tryd.func78.trans (congrArg some (by kernel_rfl))
  f241 := Tryd.func79.trans (congrArg some (by kernel_rfl))
  f276 := Tryd.func94.trans (congrArg some (by kernel_rfl))
  f277 := Tryd.func95.trans (congrArg some (by kernel_rfl))
  t0 := Tryd.underlying0
  a0 := Tryd.isAgg0
  z0 := Tryd.sizeOf0
  v0 := Tryd.zeroValue0
  t3 := Tryd.underlying3
  a3 := Tryd.isAgg3
  z3 := Tryd.sizeOf3
  v3 := Tryd.zeroValue3
  t4 := Tryd.underlying4
  a4 := Tryd.isAgg4
  z4 := Tryd.sizeOf4
  v4 := Tryd.zeroValue4
  t9 := Tryd.underlying9
  a9 := Tryd.isAgg9
  z9 := Tryd.sizeOf9
  v9 := Tryd.zeroValue9
  t20 := Tryd.underlying20
  a20 := Tryd.isAgg20
  z20 := Tryd.sizeOf20
  v20 := Tryd.zeroValue20
  t31 := Tryd.underlying24
  a31 := Tryd.isAgg24
  z31 := Tryd.sizeOf24
  v31 := Tryd.zeroValue24
  t37 := Tryd.underlying94
  a37 := Tryd.isAgg94
  z37 := Tryd.sizeOf94
  v37 := Tryd.zeroValue94
  t70 := Tryd.underlying93
  a70 := Tryd.isAgg93
  z70 := Tryd.sizeOf93
  v70 := Tryd.zeroValue93
  t72 := Tryd.underlying96
  a72 := Tryd.isAgg96
  z72 := Tryd.sizeOf96
  v72 := Tryd.zeroValue96
  t75 := Tryd.underlying90
  a75 := Tryd.isAgg90
  z75 := Tryd.sizeOf90
  v75 := Tryd.zeroValue90
  t76 := Tryd.underlying91
  a76 := Tryd.isAgg91
  z76 := Tryd.sizeOf91
  v76 := Tryd.zeroValue91
  t127 := Tryd.underlying107
  a127 := Tryd.isAgg107
  z127 := Tryd.sizeOf107
  v127 := Tryd.zeroValue107
  t164 := Tryd.underlying125
  a164 := Tryd.isAgg125
  z164 := Tryd.sizeOf125
  v164 := Tryd.zeroValue125 }
theorem Tryd.Builder_Extra_156 : Builder.Extra Tryd.prog Tryd.lays156_ren := {
  sizeBuilder := by kernel_rfl
  liesBuilder := by kernel_rfl
  t5 := Tryd.underlying5
  a5 := Tryd.isAgg5
  z5 := Tryd.sizeOf5
  v5 := Tryd.zeroValue5
  infoByte := by kernel_rfl
  cellsByte := by kernel_rfl
  sizeByte := by kernel_rfl
  neB5 := by decide }
open Go.RowKit in
theorem Tryd.strings_Join (bk o c : Nat) (xs : List ByteArray) (sep : ByteArray) (w : World) (hcells : ∀ (j : Nat) x, xs[j]? = some x → w.cell? ⟨bk, o + j, none⟩ = some (.string x)) (hbk : bk < w.heap.size) (hN : xs.length ≤ 140737488355328) (hcap : xs.length ≤ c) (hlen : (Lib.join (xs.map (·.data.toList)) sep.data.toList).length ≤ 140737488355328) :
    Calls Tryd.prog 48 #[.slice (some ⟨bk, o, none⟩) xs.length c, .string sep] w fun e w' => e = .returned (.string ⟨(Lib.join (xs.map (·.data.toList)) sep.data.toList).toArray⟩) ∧ Below w.heap.size w w' := Any.strings_Join Tryd.lays156 Tryd.Builder_Extra_156 bk o c xs sep w hcells hbk hN hcap hlen
def Tryd.laysM171_ren : Go.Shelf.Ren := ⟨fun | 171 => 47 | 243 => 62 | 246 => 77 | 283 => 90 | 284 => 91 | 285 => 92 | 286 => 93 | 129 => 101 | 317 => 100 | 318 => 102 | 319 => 103 | 320 => 104 | 337 => 107 | 338 => 108 | n => n, fun | 3 => 3 | 9 => 9 | 2 => 2 | 4 => 4 | 171 => 119 | 0 => 0 | 53 => 120 | 37 => 94 | 5 => 5 | 173 => 123 | 212 => 135 | 51 => 108 | 20 => 20 | 213 => 136 | 46 => 103 | 232 => 147 | 233 => 148 | n => n, fun | 17 => 3 | 18 => 6 | 19 => 7 | n => n⟩
theorem Tryd.laysM171 : Go.Proofs.LaysM.n171 Tryd.prog Tryd.laysM171_ren := {
  mixed := by kernel_rfl
  f129 := Tryd.func101.trans (congrArg some (by kernel_rfl))
  f171 := Tryd.func47.trans (congrArg some (by kernel_rfl))
  f243 := Tryd.func62.trans (congrArg some (by kernel_rfl))
  f246 := Tryd.func77.trans (congrArg some (by kernel_rfl))
  f283 := Tryd.func90.trans (congrArg some (by kernel_rfl))
  f284 := Tryd.func91.trans (congrArg some (by kernel_rfl))
  f285 := Tryd.func92.trans (congrArg some (by kernel_rfl))
  f286 := Tryd.func93.trans (congrArg some (by kernel_rfl))
  f317 := Tryd.func100.trans (congrArg some (by kernel_rfl))
  f318 := Tryd.func102.trans (congrArg some (by kernel_rfl))
  f319 := Tryd.func103.trans (congrArg some (by kernel_rfl))
  f320 := Tryd.func104.trans (congrArg some (by kernel_rfl))
  f337 := Tryd.func107.trans (congrArg some (by kernel_rfl))
  f338 := Tryd.func108.trans (congrArg some (by kernel_rfl))
  t0 := Tryd.underlying0
  a0 := Tryd.isAgg0
  z0 := Tryd.sizeOf0
  v0 := Tryd.zeroValue0
  t2 := Tryd.underlying2
  a2 := Tryd.isAgg2
  z2 := Tryd.sizeOf2
  v2 := Tryd.zeroValue2
  t3 := Tryd.underlying3
  a3 := Tryd.isAgg3
  z3 := Tryd.sizeOf3
  v3 := Tryd.zeroValue3
  t4 := Tryd.underlying4
  a4 := Tryd.isAgg4
  z4 := Tryd.sizeOf4
  v4 := Tryd.zeroValue4
  t5 := Tryd.underlying5
  a5 := Tryd.isAgg5
  z5 := Tryd.sizeOf5
  v5 := Tryd.zeroValue5
  t9 := Tryd.underlying9
  a9 := Tryd.isAgg9
  z9 := Tryd.sizeOf9
  v9 := Tryd.zeroValue9
  t20 := Tryd.underlying20
  a20 := Tryd.isAgg20
  z20 := Tryd.sizeOf20
  v20 := Tryd.zeroValue20
  t37 := Tryd.underlying94
  a37 := Tryd.isAgg94
  z37 := Tryd.sizeOf94
  v37 := Tryd.zeroValue94
  t46 := Tryd.underlying103
  a46 := Tryd.isAgg103
  z46 := Tryd.sizeOf103
  v46 := Tryd.zeroValue103
  t51 := Tryd.underlying108
  a51 := Tryd.isAgg108
  z51 := Tryd.sizeOf108
  v51 := Tryd.zeroValue108
  t53 := Tryd.underlying120
  a53 := Tryd.isAgg120
  z53 := Tryd.sizeOf120
  v53 := Tryd.zeroValue120
  t171 := Tryd.underlying119
  a171 := Tryd.isAgg119
  z171 := Tryd.sizeOf119
  v171 := Tryd.zeroValue119
  t173 := Tryd.underlying123
  a173 := Tryd.isAgg123
  z173 := Tryd.sizeOf123
  v173 := Tryd.zeroValue123
  t212 := Tryd.underlying135
  a212 := Tryd.isAgg135
  z212 := Tryd.sizeOf135
  v212 := Tryd.zeroValue135
  t213 := Tryd.underlying136
  a213 := Tryd.isAgg136
  z213 := Tryd.sizeOf136
  t232 := Tryd.underlying147
  a232 := Tryd.isAgg147
  z232 := Tryd.sizeOf147
  v232 := Tryd.zeroValue147
  t233 := Tryd.underlying148
  a233 := Tryd.isAgg148
  z233 := Tryd.sizeOf148
  v233 := Tryd.zeroValue148
  g17 := by kernel_rfl
  g18 := by kernel_rfl
  g19 := by kernel_rfl
  i0 := by kernel_rfl
  i2 := by kernel_rfl
  i3 := by kernel_rfl
  i4 := by kernel_rfl
  i5 := by kernel_rfl
  i9 := by kernel_rfl
  i20 := by kernel_rfl
  i37 := by kernel_rfl
  i46 := by kernel_rfl
  i51 := by kernel_rfl
  i53 := by kernel_rfl
  i171 := by kernel_rfl
  i173 := by kernel_rfl
  i212 := by kernel_rfl
  i232 := by kernel_rfl
  i233 := by kernel_rfl
  m17 := by kernel_rfl
  m18 := by kernel_rfl
  m19 := by kernel_rfl }
open Go.RowKit Go.Sort Go.Lib in
theorem Tryd.strconv_Itoa (n : Int) (h0 : -9223372036854775808 ≤ n) (h1 : n ≤ 9223372036854775807) (w : World) (htab : Lib.TabIs Tryd.prog w "internal/strconv.uint64pow10" .u64 Lib.pow10Tab) :
    Calls Tryd.prog 47 #[.int .i64 n] w fun e w' => e = .returned (.string ⟨(Lib.itoa n).toArray⟩) ∧ ∃ k os, w' = grow (w.drewN k) os := Any.strconv_Itoa Tryd.laysM171 n h0 h1 w htab
def Tryd.laysC172_ren : Go.Shelf.Ren := ⟨fun | 172 => 61 | 244 => 75 | 245 => 76 | 247 => 85 | 279 => 86 | 280 => 87 | 281 => 88 | 282 => 89 | 287 => 97 | 316 => 98 | 171 => 47 | 205 => 99 | 321 => 105 | 322 => 106 | 243 => 62 | 246 => 77 | 283 => 90 | 284 => 91 | 285 => 92 | 286 => 93 | 129 => 101 | 317 => 100 | 318 => 102 | 319 => 103 | 320 => 104 | 337 => 107 | 338 => 108 | n => n, fun | 9 => 9 | 3 => 3 | 75 => 90 | 76 => 91 | 4 => 4 | 5 => 5 | 167 => 113 | 37 => 94 | 0 => 0 | 85 => 114 | 2 => 2 | 168 => 116 | 53 => 120 | 175 => 128 | 46 => 103 | 210 => 132 | 127 => 107 | 145 => 145 | 143 => 143 | 21 => 21 | 171 => 119 | 173 => 123 | 212 => 135 | 51 => 108 | 20 => 20 | 213 => 136 | 232 => 147 | 233 => 148 | 80 => 98 | n => n, fun | 15 => 1 | 16 => 2 | 17 => 3 | 18 => 6 | 19 => 7 | n => n⟩
theorem Tryd.laysC172 : Go.Proofs.LaysC.n172 Tryd.prog Tryd.laysC172_ren := {
  mixed := by kernel_rfl
  f129 := Tryd.func101.trans (congrArg some (by kernel_rfl))
  f171 := Tryd.func47.trans (congrArg some (by kernel_rfl))
  f172 := Tryd.func61.trans (congrArg some (by kernel_rfl))
  f205 := Tryd.func99.trans (congrArg some (by kernel_rfl))
  f243 := Tryd.func62.trans (congrArg some (by kernel_rfl))
  f244 := Tryd.func75.trans (congrArg some (by kernel_rfl))
  f245 := Tryd.func76.trans (congrArg some (by kernel_rfl))
  f246 := Tryd.func77.trans (congrArg some (by kernel_rfl))
  f247 := Tryd.func85.trans (congrArg some (by kernel_rfl))
  f279 := Tryd.func86.trans (congrArg some (by kernel_rfl))
  f280 := Tryd.func87.trans (congrArg some (by kernel_rfl))
  f281 := Tryd.func88.trans (congrArg some (by kernel_rfl))
  f282 := Tryd.func89.trans (congrArg some (by kernel_rfl))
  f283 := Tryd.func90.trans (congrArg some (by kernel_rfl))
  f284 := Tryd.func91.trans (congrArg some (by kernel_rfl))
  f285 := Tryd.func92.trans (congrArg some (by kernel_rfl))
  f286 := Tryd.func93.trans (congrArg some (by kernel_rfl))
  f287 := Tryd.func97.trans (congrArg some (by kernel_rfl))
  f316 := Tryd.func98.trans (congrArg some (by kernel_rfl))
  f317 := Tryd.func100.trans (congrArg some (by kernel_rfl))
  f318 := Tryd.func102.trans (congrArg some (by kernel_rfl))
  f319 := Tryd.func103.trans (congrArg some (by kernel_rfl))
  f320 := Tryd.func104.trans (congrArg some (by kernel_rfl))
  f321 := Tryd.func105.trans (congrArg some (by kernel_rfl))
  f322 := Tryd.func106.trans (congrArg some (by kernel_rfl))
  f337 := Tryd.func107.trans (congrArg some (by kernel_rfl))
  f338 := Tryd.func108.trans (congrArg some (by kernel_rfl))
  t0 := Tryd.underlying0
  a0 := Tryd.isAgg0
  z0 := Tryd.sizeOf0
  v0 := Tryd.zeroValue0
  t2 := Tryd.underlying2
  a2 := Tryd.isAgg2
  z2 := Tryd.sizeOf2
  v2 := Tryd.zeroValue2
  t3 := Tryd.underlying3
  a3 := Tryd.isAgg3
  z3 := Tryd.sizeOf3
  v3 := Tryd.zeroValue3
  t4 := Tryd.underlying4
  a4 := Tryd.isAgg4
  z4 := Tryd.sizeOf4
  v4 := Tryd.zeroValue4
  t5 := Tryd.underlying5
  a5 := Tryd.isAgg5
  z5 := Tryd.sizeOf5
  v5 := Tryd.zeroValue5
  t9 := Tryd.underlying9
  a9 := Tryd.isAgg9
  z9 := Tryd.sizeOf9
  v9 := Tryd.zeroValue9
  t20 := Tryd.underlying20
  a20 := Tryd.isAgg20
  z20 := Tryd.sizeOf20
  v20 := Tryd.zeroValue20
  t21 := Tryd.underlying21
  a21 := Tryd.isAgg21
  z21 := Tryd.sizeOf21
  v21 := Tryd.zeroValue21
  t37 := Tryd.underlying94
  a37 := Tryd.isAgg94
  z37 := Tryd.sizeOf94
  v37 := Tryd.zeroValue94
  t46 := Tryd.underlying103
  a46 := Tryd.isAgg103
  z46 := Tryd.sizeOf103
  v46 := Tryd.zeroValue103
  t51 := Tryd.underlying108
  a51 := Tryd.isAgg108
  z51 := Tryd.sizeOf108
  v51 := Tryd.zeroValue108
  t53 := Tryd.underlying120
  a53 := Tryd.isAgg120
  z53 := Tryd.sizeOf120
  v53 := Tryd.zeroValue120
  t75 := Tryd.underlying90
  a75 := Tryd.isAgg90
  z75 := Tryd.sizeOf90
  v75 := Tryd.zeroValue90
  t76 := Tryd.underlying91
  a76 := Tryd.isAgg91
  z76 := Tryd.sizeOf91
  v76 := Tryd.zeroValue91
  t85 := Tryd.underlying114
  a85 := Tryd.isAgg114
  z85 := Tryd.sizeOf114
  v85 := Tryd.zeroValue114
  t127 := Tryd.underlying107
  a127 := Tryd.isAgg107
  z127 := Tryd.sizeOf107
  v127 := Tryd.zeroValue107
  t143 := Tryd.underlying143
  a143 := Tryd.isAgg143
  z143 := Tryd.sizeOf143
  v143 := Tryd.zeroValue143
  t145 := Tryd.underlying145
  a145 := Tryd.isAgg145
  z145 := Tryd.sizeOf145
  v145 := Tryd.zeroValue145
  t167 := Tryd.underlying113
  a167 := Tryd.isAgg113
  z167 := Tryd.sizeOf113
  v167 := Tryd.zeroValue113
  t168 := Tryd.underlying116
  a168 := Tryd.isAgg116
  z168 := Tryd.sizeOf116
  v168 := Tryd.zeroValue116
  t171 := Tryd.underlying119
  a171 := Tryd.isAgg119
  z171 := Tryd.sizeOf119
  v171 := Tryd.zeroValue119
  t173 := Tryd.underlying123
  a173 := Tryd.isAgg123
  z173 := Tryd.sizeOf123
  v173 := Tryd.zeroValue123
  t175 := Tryd.underlying128
  a175 := Tryd.isAgg128
  z175 := Tryd.sizeOf128
  v175 := Tryd.zeroValue128
  t210 := Tryd.underlying132
  a210 := Tryd.isAgg132
  z210 := Tryd.sizeOf132
  v210 := Tryd.zeroValue132
  t212 := Tryd.underlying135
  a212 := Tryd.isAgg135
  z212 := Tryd.sizeOf135
  v212 := Tryd.zeroValue135
  t213 := Tryd.underlying136
  a213 := Tryd.isAgg136
  z213 := Tryd.sizeOf136
  t232 := Tryd.underlying147
  a232 := Tryd.isAgg147
  z232 := Tryd.sizeOf147
  v232 := Tryd.zeroValue147
  t233 := Tryd.underlying148
  a233 := Tryd.isAgg148
  z233 := Tryd.sizeOf148
  v233 := Tryd.zeroValue148
  g15 := by kernel_rfl
  g16 := by kernel_rfl
  g17 := by kernel_rfl
  g18 := by kernel_rfl
  g19 := by kernel_rfl
  t80 := Tryd.underlying98
  a80 := Tryd.isAgg98
  z80 := Tryd.sizeOf98
  v80 := Tryd.zeroValue98
  i0 := by kernel_rfl
  i2 := by kernel_rfl
  i3 := by kernel_rfl
  i4 := by kernel_rfl
  i5 := by kernel_rfl
  i9 := by kernel_rfl
  i20 := by kernel_rfl
  i21 := by kernel_rfl
  i37 := by kernel_rfl
  i46 := by kernel_rfl
  i51 := by kernel_rfl
  i53 := by kernel_rfl
  i75 := by kernel_rfl
  i76 := by kernel_rfl
  i80 := by kernel_rfl
  i85 := by kernel_rfl
  i127 := by kernel_rfl
  i143 := by kernel_rfl
  i145 := by kernel_rfl
  i167 := by kernel_rfl
  i168 := by kernel_rfl
  i171 := by kernel_rfl
  i173 := by kernel_rfl
  i175 := by kernel_rfl
  i210 := by kernel_rfl
  i212 := by kernel_rfl
  i232 := by kernel_rfl
  i233 := by kernel_rfl
  m15 := by kernel_rfl
  m16 := by kernel_rfl
  m17 := by kernel_rfl
  m18 := by kernel_rfl
  m19 := by kernel_rfl
  c0 := by kernel_rfl
  c2 := by kernel_rfl
  c3 := by kernel_rfl
  c4 := by kernel_rfl
  c5 := by kernel_rfl
  c9 := by kernel_rfl
  c20 := by kernel_rfl
  c21 := by kernel_rfl
  c37 := by kernel_rfl
  c46 := by kernel_rfl
  c51 := by kernel_rfl
  c53 := by kernel_rfl
  c75 := by kernel_rfl
  c76 := by kernel_rfl
  c80 := by kernel_rfl
  c85 := by kernel_rfl
  c127 := by kernel_rfl
  c143 := by kernel_rfl
  c145 := by kernel_rfl
  c167 := by kernel_rfl
  c168 := by kernel_rfl
  c171 := by kernel_rfl
  c173 := by kernel_rfl
  c175 := by kernel_rfl
  c210 := by kernel_rfl
  c212 := by kernel_rfl
  c213 := by kernel_rfl
  c232 := by kernel_rfl
  c233 := by kernel_rfl }
open Go.RowKit in
theorem Tryd.strconv_Atoi_ok (s : ByteArray) (hmax : s.size ≤ 9223372036854775806) (v : Int) (h : Lib.atoiAll s.data.toList = .ok v) (w : World) :
    Calls Tryd.prog 61 #[.string s] w fun e w' => e = .returned (.tuple #[.int .i64 v, .nilIface]) ∧ (w' = w ∨ ∃ t, w' = Lib.bytesWorld w 5 t) := Any.strconv_Atoi_ok Tryd.laysC172 s hmax v h w
open Go.RowKit in
theorem Tryd.strconv_Atoi_syntax_var (s : ByteArray) (hlim : s.size ≤ 281474976710656) (h : Lib.atoiAll s.data.toList = Lib.NumEnd.syntax) (tp : TypeId) (p : Value) (w : World) (hvar : w.var? Tryd.prog "strconv.ErrSyntax" = some #[.iface tp p]) :
    Calls Tryd.prog 61 #[.string s] w fun e w' => ∃ N, e = .returned (.tuple #[.int .i64 0, .iface 116 (.pointer (some ⟨N, 0, none⟩))]) ∧ w.heap.size ≤ N ∧ w'.heap[N]? = some (.cells #[.string ⟨#[65, 116, 111, 105]⟩, .string s, .iface tp p] 132 (0, 0)) ∧ Below w.heap.size w w' := Any.strconv_Atoi_syntax_var Tryd.laysC172 s hlim h tp p w hvar
open Go.RowKit in
theorem Tryd.strconv_Atoi_range_var (s : ByteArray) (hlim : s.size ≤ 281474976710656) (h : Lib.atoiAll s.data.toList = .range) (tp : TypeId) (p : Value) (w : World) (hvar : w.var? Tryd.prog "strconv.ErrRange" = some #[.iface tp p]) :
    Calls Tryd.prog 61 #[.string s] w fun e w' => ∃ N, e = .returned (.tuple #[.int .i64 (Lib.atoiSat s.data.toList), .iface 116 (.pointer (some ⟨N, 0, none⟩))]) ∧ w.heap.size ≤ N ∧ w'.heap[N]? = some (.cells #[.string ⟨#[65, 116, 111, 105]⟩, .string s, .iface tp p] 132 (0, 0)) ∧ Below w.heap.size w w' := Any.strconv_Atoi_range_var Tryd.laysC172 s hlim h tp p w hvar
def Tryd.lays144_ren : Go.Shelf.Ren := ⟨fun | 144 => 51 | 143 => 67 | 219 => 54 | 217 => 69 | 225 => 70 | 224 => 71 | 267 => 72 | 266 => 80 | 314 => 81 | n => n, fun | 9 => 9 | 4 => 4 | 3 => 3 | 5 => 5 | 46 => 103 | 146 => 109 | 51 => 108 | n => n, fun | 1 => 0 | n => n⟩
theorem Tryd.lays144 : Go.Proofs.Lays.n144 Tryd.prog Tryd.lays144_ren := {
  mixed := by kernel_rfl
  f143 := Tryd.func67.trans (congrArg some (by kernel_rfl))
  f144 := Tryd.func51.trans (congrArg some (by kernel_rfl))
  f217 := Tryd.func69.trans (congrArg some (by kernel_rfl))
  f219 := Tryd.func54.trans (congrArg some (by kernel_rfl))
  f224 := Tryd.func71.trans (congrArg some (by kernel_rfl))
  f225 := Tryd.func70.trans (congrArg some (by kernel_rfl))
  f266 := Tryd.func80.trans (congrArg some (by kernel_rfl))
  f267 := Tryd.func72.trans (congrArg some (by kernel_rfl))
  f314 := Tryd.func81.trans (congrArg some (by kernel_rfl))
  t3 := Tryd.underlying3
  a3 := Tryd.isAgg3
  z3 := Tryd.sizeOf3
  v3 := Tryd.zeroValue3
  t4 := Tryd.underlying4
  a4 := Tryd.isAgg4
  z4 := Tryd.sizeOf4
  v4 := Tryd.zeroValue4
  t5 := Tryd.underlying5
  a5 := Tryd.isAgg5
  z5 := Tryd.sizeOf5
  v5 := Tryd.zeroValue5
  t9 := Tryd.underlying9
  a9 := Tryd.isAgg9
  z9 := Tryd.sizeOf9
  v9 := Tryd.zeroValue9
  t46 := Tryd.underlying103
  a46 := Tryd.isAgg103
  z46 := Tryd.sizeOf103
  v46 := Tryd.zeroValue103
  t51 := Tryd.underlying108
  a51 := Tryd.isAgg108
  z51 := Tryd.sizeOf108
  v51 := Tryd.zeroValue108
  t146 := Tryd.underlying109
  a146 := Tryd.isAgg109
  z146 := Tryd.sizeOf109
  v146 := Tryd.zeroValue109
  g1 := by kernel_rfl }
open Go.RowKit Go.Lib in
theorem Tryd.strings_Contains_one (s : ByteArray) (c : UInt8) (w : World) :
    Calls Tryd.prog 51 #[.string s, .string ⟨#[c]⟩] w fun e w' => e = .returned (.bool (decide (0 ≤ Lib.indexByte s.data.toList c))) ∧ w' = w := Any.strings_Contains_one Tryd.lays144 s c w
def Tryd.lays145_ren : Go.Shelf.Ren := ⟨fun | 145 => 20 | 220 => 37 | 219 => 54 | 217 => 69 | 225 => 70 | 224 => 71 | 267 => 72 | 266 => 80 | 314 => 81 | n => n, fun | 9 => 9 | 4 => 4 | 59 => 47 | 3 => 3 | 5 => 5 | 46 => 103 | 146 => 109 | 51 => 108 | n => n, fun | 1 => 0 | n => n⟩
theorem Tryd.lays145 : Go.Proofs.Lays.n145 Tryd.prog Tryd.lays145_ren := {
  mixed := by kernel_rfl
  f145 := Tryd.func20.trans (congrArg some (by kernel_rfl))
  f217 := Tryd.func69.trans (congrArg some (by kernel_rfl))
  f219 := Tryd.func54.trans (congrArg some (by kernel_rfl))
  f220 := Tryd.func37.trans (congrArg some (by kernel_rfl))
  f224 := Tryd.func71.trans (congrArg some (by kernel_rfl))
  f225 := Tryd.func70.trans (congrArg some (by kernel_rfl))
  f266 := Tryd.func80.trans (congrArg some (by kernel_rfl))
  f267 := Tryd.func72.trans (congrArg some (by kernel_rfl))
  f314 := Tryd.func81.trans (congrArg some (by kernel_rfl))
  t3 := Tryd.underlying3
  a3 := Tryd.isAgg3
  z3 := Tryd.sizeOf3
  v3 := Tryd.zeroValue3
  t4 := Tryd.underlying4
  a4 := Tryd.isAgg4
  z4 := Tryd.sizeOf4
  v4 := Tryd.zeroValue4
  t5 := Tryd.underlying5
  a5 := Tryd.isAgg5
  z5 := Tryd.sizeOf5
  v5 := Tryd.zeroValue5
  t9 := Tryd.underlying9
  a9 := Tryd.isAgg9
  z9 := Tryd.sizeOf9
  v9 := Tryd.zeroValue9
  t46 := Tryd.underlying103
  a46 := Tryd.isAgg103
  z46 := Tryd.sizeOf103
  v46 := Tryd.zeroValue103
  t51 := Tryd.underlying108
  a51 := Tryd.isAgg108
  z51 := Tryd.sizeOf108
  v51 := Tryd.zeroValue108
  t59 := Tryd.underlying47
  a59 := Tryd.isAgg47
  z59 := Tryd.sizeOf47
  v59 := Tryd.zeroValue47
  t146 := Tryd.underlying109
  a146 := Tryd.isAgg109
  z146 := Tryd.sizeOf109
  v146 := Tryd.zeroValue109
  g1 := by kernel_rfl }
open Go.RowKit Go.Lib in
theorem Tryd.strings_Cut (s sep : ByteArray) (m : Int) (w : World) (hs : s.size < 4294967281) (hm : w.cell? ⟨0, 0, none⟩ = some (.int .i64 m)) :
    Calls Tryd.prog 20 #[.string s, .string sep] w fun e w' => e = .returned (.tuple #[.string ⟨(Lib.cut s.data.toList sep.data.toList).1.toArray⟩, .string ⟨(Lib.cut s.data.toList sep.data.toList).2.1.toArray⟩, .bool (Lib.cut s.data.toList sep.data.toList).2.2]) ∧ ∃ n, w' = w.drewN n := Any.strings_Cut Tryd.lays145 s sep m w hs hm
def Tryd.lays146_ren : Go.Shelf.Ren := ⟨fun | 146 => 40 | 221 => 55 | 268 => 73 | 138 => 74 | 143 => 67 | 195 => 82 | 197 => 83 | 218 => 84 | 219 => 54 | 260 => 96 | 217 => 69 | 225 => 70 | 224 => 71 | 267 => 72 | 266 => 80 | 314 => 81 | n => n, fun | 9 => 9 | 31 => 24 | 3 => 3 | 4 => 4 | 0 => 0 | 105 => 111 | 21 => 21 | 5 => 5 | 46 => 103 | 119 => 138 | 139 => 141 | 138 => 140 | 146 => 109 | 51 => 108 | n => n, fun | 1 => 0 | 3 => 4 | 4 => 5 | n => n⟩
theorem Tryd.lays146 : Go.Proofs.Lays.n146 Tryd.prog Tryd.lays146_ren := {
  mixed := by kernel_rfl
  f138 := Tryd.func74.trans (congrArg some (by kernel_rfl))
  f143 := Tryd.func67.trans (congrArg some (by kernel_rfl))
  f146 := Tryd.func40.trans (congrArg some (by kernel_rfl))
  f195 := Tryd.func82.trans (congrArg some (by kernel_rfl))
  f197 := Tryd.func83.trans (congrArg some (by kernel_rfl))
  f217 := Tryd.func69.trans (congrArg some (by kernel_rfl))
  f218 := Tryd.func84.trans (congrArg some (by kernel_rfl))
  f219 := Tryd.func54.trans (congrArg some (by kernel_rfl))
  f221 := Tryd.func55.trans (congrArg some (by kernel_rfl))
  f224 := Tryd.func71.trans (congrArg some (by kernel_rfl))
  f225 := Tryd.func70.trans (congrArg some (by kernel_rfl))
  f260 := Tryd.func96.trans (congrArg some (by kernel_rfl))
  f266 := Tryd.func80.trans (congrArg some (by kernel_rfl))
  f267 := Tryd.func72.trans (congrArg some (by kernel_rfl))
  f268 := Tryd.func73.trans (congrArg some (by kernel_rfl))
  f314 := Tryd.func81.trans (congrArg some (by kernel_rfl))
  t0 := Tryd.underlying0
  a0 := Tryd.isAgg0
  z0 := Tryd.sizeOf0
  v0 := Tryd.zeroValue0
  t3 := Tryd.underlying3
  a3 := Tryd.isAgg3
  z3 := Tryd.sizeOf3
  v3 := Tryd.zeroValue3
  t4 := Tryd.underlying4
  a4 := Tryd.isAgg4
  z4 := Tryd.sizeOf4
  v4 := Tryd.zeroValue4
  t5 := Tryd.underlying5
  a5 := Tryd.isAgg5
  z5 := Tryd.sizeOf5
  v5 := Tryd.zeroValue5
  t9 := Tryd.underlying9
  a9 := Tryd.isAgg9
  z9 := Tryd.sizeOf9
  v9 := Tryd.zeroValue9
  t21 := Tryd.underlying21
  a21 := Tryd.isAgg21
  z21 := Tryd.sizeOf21
  v21 := Tryd.zeroValue21
  t31 := Tryd.underlying24
  a31 := Tryd.isAgg24
  z31 := Tryd.sizeOf24
  v31 := Tryd.zeroValue24
  t46 := Tryd.underlying103
  a46 := Tryd.isAgg103
  z46 := Tryd.sizeOf103
  v46 := Tryd.zeroValue103
  t51 := Tryd.underlying108
  a51 := Tryd.isAgg108
  z51 := Tryd.sizeOf108
  v51 := Tryd.zeroValue108
  t105 := Tryd.underlying111
  a105 := Tryd.isAgg111
  z105 := Tryd.sizeOf111
  v105 := Tryd.zeroValue111
  t119 := Tryd.underlying138
  a119 := Tryd.isAgg138
  z119 := Tryd.sizeOf138
  t138 := Tryd.underlying140
  a138 := Tryd.isAgg140
  z138 := Tryd.sizeOf140
  v138 := Tryd.zeroValue140
  t139 := Tryd.underlying141
  a139 := Tryd.isAgg141
  z139 := Tryd.sizeOf141
  v139 := Tryd.zeroValue141
  t146 := Tryd.underlying109
  a146 := Tryd.isAgg109
  z146 := Tryd.sizeOf109
  v146 := Tryd.zeroValue109
  g1 := by kernel_rfl
  g3 := by kernel_rfl
  g4 := by kernel_rfl }
open Go.RowKit Go.Lib in
theorem Tryd.strings_Split (s sep : ByteArray) (m : Int) (w : World) (hs : s.size < 4294967281) (hm : w.cell? ⟨0, 0, none⟩ = some (.int .i64 m)) (h1 : 1 ≤ sep.size) :
    Calls Tryd.prog 40 #[.string s, .string sep] w fun e w' =>
      e = .returned (.slice (some ⟨w.heap.size, 0, none⟩) (Lib.countB s sep + 1) (Lib.countB s sep + 1)) ∧ w' = w.alloc (.cells ((Lib.splitB sep 0 (Lib.countB s sep) s).map Value.string).toArray 9) := Any.strings_Split Tryd.lays146 (by kernel_rfl) s sep m w hs hm h1
def Tryd.lays109_ren : Go.Shelf.Ren := ⟨fun | 109 => 56 | n => n, fun | 31 => 24 | 9 => 9 | 3 => 3 | 0 => 0 | 4 => 4 | n => n, fun | n => n⟩
theorem Tryd.lays109 : Go.Proofs.Lays.n109 Tryd.prog Tryd.lays109_ren := {
  mixed := by kernel_rfl
  f109 := Tryd.func56.trans (congrArg some (by kernel_rfl))
  t0 := Tryd.underlying0
  a0 := Tryd.isAgg0
  z0 := Tryd.sizeOf0
  v0 := Tryd.zeroValue0
  t3 := Tryd.underlying3
  a3 := Tryd.isAgg3
  z3 := Tryd.sizeOf3
  v3 := Tryd.zeroValue3
  t4 := Tryd.underlying4
  a4 := Tryd.isAgg4
  z4 := Tryd.sizeOf4
  v4 := Tryd.zeroValue4
  t9 := Tryd.underlying9
  a9 := Tryd.isAgg9
  z9 := Tryd.sizeOf9
  v9 := Tryd.zeroValue9
  t31 := Tryd.underlying24
  a31 := Tryd.isAgg24
  z31 := Tryd.sizeOf24
  v31 := Tryd.zeroValue24 }
open Go.Lib in
theorem Tryd.slices_Index_string (b off n c : Nat) (zs : List ByteArray) (x : ByteArray) (w : World) (hz : n ≤ zs.length) (hbig : n ≤ 9223372036854775807) (hc : ∀ j, j < zs.length → w.cell? ⟨b, off + j, none⟩ = some (.string (zs.getD j ByteArray.empty))) :
    Calls Tryd.prog 56 #[.slice (some ⟨b, off, none⟩) n c, .string x] w fun e w' => e = .returned (.int .i64 (Lib.idxOfS (zs.take n) x)) ∧ w' = w := Any.slices_Index_string Tryd.lays109 b off n c zs x w hz hbig hc
def Tryd.lays110_ren : Go.Shelf.Ren := ⟨fun | 110 => 41 | 109 => 56 | n => n, fun | 31 => 24 | 9 => 9 | 4 => 4 | 3 => 3 | 0 => 0 | n => n, fun | n => n⟩
theorem Tryd.lays110 : Go.Proofs.Lays.n110 Tryd.prog Tryd.lays110_ren := {
  mixed := by kernel_rfl
  f109 := Tryd.func56.trans (congrArg some (by kernel_rfl))
  f110 := Tryd.func41.trans (congrArg some (by kernel_rfl))
  t0 := Tryd.underlying0
  a0 := Tryd.isAgg0
  z0 := Tryd.sizeOf0
  v0 := Tryd.zeroValue0
  t3 := Tryd.underlying3
  a3 := Tryd.isAgg3
  z3 := Tryd.sizeOf3
  v3 := Tryd.zeroValue3
  t4 := Tryd.underlying4
  a4 := Tryd.isAgg4
  z4 := Tryd.sizeOf4
  v4 := Tryd.zeroValue4
  t9 := Tryd.underlying9
  a9 := Tryd.isAgg9
  z9 := Tryd.sizeOf9
  v9 := Tryd.zeroValue9
  t31 := Tryd.underlying24
  a31 := Tryd.isAgg24
  z31 := Tryd.sizeOf24
  v31 := Tryd.zeroValue24 }
open Go.Lib in
theorem Tryd.slices_Contains_string (b off n c : Nat) (zs : List ByteArray) (x : ByteArray) (w : World) (hz : n ≤ zs.length) (hbig : n ≤ 9223372036854775807) (hc : ∀ j, j < zs.length → w.cell? ⟨b, off + j, none⟩ = some (.string (zs.getD j ByteArray.empty))) :
    Calls Tryd.prog 41 #[.slice (some ⟨b, off, none⟩) n c, .string x] w fun e w' => e = .returned (.bool (Lib.containsS (zs.take n) x)) ∧ w' = w := Any.slices_Contains_string Tryd.lays110 b off n c zs x w hz hbig hc
open Go.Lib in
theorem Tryd.slices_Contains_string_empty (a : Option Addr) (c : Nat) (x : ByteArray) (w : World) :
    Calls Tryd.prog 41 #[.slice a 0 c, .string x] w fun e w' => e = .returned (.bool false) ∧ w' = w := Any.slices_Contains_string_empty Tryd.lays110 a c x w
def Tryd.lays111_ren : Go.Shelf.Ren := ⟨fun | 111 => 32 | n => n, fun | 28 => 25 | 3 => 3 | 4 => 4 | 0 => 0 | n => n, fun | n => n⟩
theorem Tryd.lays111 : Go.Proofs.Lays.n111 Tryd.prog Tryd.lays111_ren := {
  mixed := by kernel_rfl
  f111 := Tryd.func32.trans (congrArg some (by kernel_rfl))
  t0 := Tryd.underlying0
  a0 := Tryd.isAgg0
  z0 := Tryd.sizeOf0
  v0 := Tryd.zeroValue0
  t3 := Tryd.underlying3
  a3 := Tryd.isAgg3
  z3 := Tryd.sizeOf3
  v3 := Tryd.zeroValue3
  t4 := Tryd.underlying4
  a4 := Tryd.isAgg4
  z4 := Tryd.sizeOf4
  v4 := Tryd.zeroValue4
  t28 := Tryd.underlying25
  a28 := Tryd.isAgg25
  z28 := Tryd.sizeOf25
  v28 := Tryd.zeroValue25 }
open Go.RowKit Go.Lib in
theorem Tryd.slices_Equal_int (b1 o1 n c b2 o2 m d : Nat) (xs ys : List Int) (w : World) (hx : n ≤ xs.length) (hy : m ≤ ys.length) (hbig : n ≤ 9223372036854775807) (hbig2 : m ≤ 9223372036854775807) (hc1 : ∀ j, j < xs.length → w.cell? ⟨b1, o1 + j, none⟩ = some (.int .i64 (xs.getD j 0))) (hc2 : ∀ j, j < ys.length → w.cell? ⟨b2, o2 + j, none⟩ = some (.int .i64 (ys.getD j 0))) :
    Calls Tryd.prog 32 #[.slice (some ⟨b1, o1, none⟩) n c, .slice (some ⟨b2, o2, none⟩) m d] w fun e w' => e = .returned (.bool (xs.take n == ys.take m)) ∧ ∃ q, w' = w.drewN q := Any.slices_Equal_int Tryd.lays111 b1 o1 n c b2 o2 m d xs ys w hx hy hbig hbig2 hc1 hc2
open Go.RowKit Go.Lib in
theorem Tryd.slices_Equal_int_empty (a1 a2 : Option Addr) (c m d : Nat) (w : World) (hbig2 : m ≤ 9223372036854775807) :
    Calls Tryd.prog 32 #[.slice a1 0 c, .slice a2 m d] w fun e w' => e = .returned (.bool (decide (m = 0))) ∧ w' = w := Any.slices_Equal_int_empty Tryd.lays111 a1 a2 c m d w hbig2
def Tryd.lays193_ren : Go.Shelf.Ren := ⟨fun | 193 => 31 | n => n, fun | 31 => 24 | 9 => 9 | 4 => 4 | 3 => 3 | 0 => 0 | n => n, fun | n => n⟩
theorem Tryd.lays193 : Go.Proofs.Lays.n193 Tryd.prog Tryd.lays193_ren := {
  mixed := by kernel_rfl
  f193 := Tryd.func31.trans (congrArg some (by kernel_rfl))
  t0 := Tryd.underlying0
  a0 := Tryd.isAgg0
  z0 := Tryd.sizeOf0
  v0 := Tryd.zeroValue0
  t3 := Tryd.underlying3
  a3 := Tryd.isAgg3
  z3 := Tryd.sizeOf3
  v3 := Tryd.zeroValue3
  t4 := Tryd.underlying4
  a4 := Tryd.isAgg4
  z4 := Tryd.sizeOf4
  v4 := Tryd.zeroValue4
  t9 := Tryd.underlying9
  a9 := Tryd.isAgg9
  z9 := Tryd.sizeOf9
  v9 := Tryd.zeroValue9
  t31 := Tryd.underlying24
  a31 := Tryd.isAgg24
  z31 := Tryd.sizeOf24
  v31 := Tryd.zeroValue24 }
open Go.RowKit Go.Lib in
theorem Tryd.slices_Equal_string (b1 o1 n c b2 o2 m d : Nat) (xs ys : List ByteArray) (w : World) (hx : n ≤ xs.length) (hy : m ≤ ys.length) (hbig : n ≤ 9223372036854775807) (hbig2 : m ≤ 9223372036854775807) (hc1 : ∀ j, j < xs.length → w.cell? ⟨b1, o1 + j, none⟩ = some (.string (xs.getD j ByteArray.empty))) (hc2 : ∀ j, j < ys.length → w.cell? ⟨b2, o2 + j, none⟩ = some (.string (ys.getD j ByteArray.empty))) :
    Calls Tryd.prog 31 #[.slice (some ⟨b1, o1, none⟩) n c, .slice (some ⟨b2, o2, none⟩) m d] w fun e w' => e = .returned (.bool (decide (xs.take n = ys.take m))) ∧ ∃ q, w' = w.drewN q := Any.slices_Equal_string Tryd.lays193 b1 o1 n c b2 o2 m d xs ys w hx hy hbig hbig2 hc1 hc2
open Go.RowKit Go.Lib in
theorem Tryd.slices_Equal_string_empty (a1 a2 : Option Addr) (c m d : Nat) (w : World) (hbig2 : m ≤ 9223372036854775807) :
    Calls Tryd.prog 31 #[.slice a1 0 c, .slice a2 m d] w fun e w' => e = .returned (.bool (decide (m = 0))) ∧ w' = w := Any.slices_Equal_string_empty Tryd.lays193 a1 a2 c m d w hbig2
open Go.RowKit Go.Lib in
theorem Tryd.slices_Equal_int_lens (a1 a2 : Option Addr) (n c m d : Nat) (w : World) (hnm : n ≠ m) :
    Calls Tryd.prog 32 #[.slice a1 n c, .slice a2 m d] w fun e w' => e = .returned (.bool false) ∧ w' = w := Any.slices_Equal_int_lens Tryd.lays111 a1 a2 n c m d w hnm
open Go.RowKit Go.Lib in
theorem Tryd.slices_Equal_string_lens (a1 a2 : Option Addr) (n c m d : Nat) (w : World) (hnm : n ≠ m) :
    Calls Tryd.prog 31 #[.slice a1 n c, .slice a2 m d] w fun e w' => e = .returned (.bool false) ∧ w' = w := Any.slices_Equal_string_lens Tryd.lays193 a1 a2 n c m d w hnm
def Tryd.laysSlH8_f49_ren : Go.Shelf.Ren := ⟨fun | 8 => 49 | 6 => 66 | n => n, fun | 22 => 24 | 23 => 9 | 25 => 35 | 4 => 4 | 3 => 3 | 0 => 0 | n => n, fun | n => n⟩
theorem Tryd.laysSlH8_f49 : Go.Proofs.SlLaysH.n8 Tryd.prog Tryd.laysSlH8_f49_ren := {
  mixed := by kernel_rfl
  f6 := ⟨Tryd.f66.name, by decide, Tryd.func66.trans (congrArg some (by kernel_rfl))⟩
  f8 := ⟨Tryd.f49.name, by decide, Tryd.func49.trans (congrArg some (by kernel_rfl))⟩
  t0 := Tryd.underlying0
  a0 := Tryd.isAgg0
  z0 := Tryd.sizeOf0
  v0 := Tryd.zeroValue0
  t3 := Tryd.underlying3
  a3 := Tryd.isAgg3
  z3 := Tryd.sizeOf3
  v3 := Tryd.zeroValue3
  t4 := Tryd.underlying4
  a4 := Tryd.isAgg4
  z4 := Tryd.sizeOf4
  v4 := Tryd.zeroValue4
  t22 := Tryd.underlying24
  a22 := Tryd.isAgg24
  z22 := Tryd.sizeOf24
  v22 := Tryd.zeroValue24
  a23 := Tryd.isAgg9
  z23 := Tryd.sizeOf9
  t25 := Tryd.underlying35
  a25 := Tryd.isAgg35
  z25 := Tryd.sizeOf35
  v25 := Tryd.zeroValue35 }
open Go.RowKit Go.Lib in
theorem Tryd.slices_ContainsFunc_f49 {α : Type} [Inhabited α] (enc : α → Value) (p : α → Bool) (g : Nat) (lb : Array Value) (eg : ∀ args w, (callFunc g args).run Tryd.prog w = .ok (.enter g args) w) (b off n c : Nat) (zs : List α) (w : World) (hp : PredAt Tryd.prog g lb enc p w) (hz : n ≤ zs.length) (hbig : n ≤ 9223372036854775807) (hc : ∀ j, j < zs.length → w.cell? ⟨b, off + j, none⟩ = some (enc zs[j]!)) :
    Calls Tryd.prog 49 #[.slice (some ⟨b, off, none⟩) n c, .func (.func g) #[] lb] w fun e w' => e = .returned (.bool ((zs.take n).any p)) ∧ ∃ q, w' = w.drewN q := AnyE.slices_ContainsFunc Tryd.laysSlH8_f49 enc p g lb eg b off n c zs w hp hz hbig hc
def Tryd.laysSlH8_f52_ren : Go.Shelf.Ren := ⟨fun | 8 => 52 | 6 => 68 | n => n, fun | 22 => 25 | 23 => 3 | 25 => 40 | 4 => 4 | 3 => 3 | 0 => 0 | n => n, fun | n => n⟩
theorem Tryd.laysSlH8_f52 : Go.Proofs.SlLaysH.n8 Tryd.prog Tryd.laysSlH8_f52_ren := {
  mixed := by kernel_rfl
  f6 := ⟨Tryd.f68.name, by decide, Tryd.func68.trans (congrArg some (by kernel_rfl))⟩
  f8 := ⟨Tryd.f52.name, by decide, Tryd.func52.trans (congrArg some (by kernel_rfl))⟩
  t0 := Tryd.underlying0
  a0 := Tryd.isAgg0
  z0 := Tryd.sizeOf0
  v0 := Tryd.zeroValue0
  t3 := Tryd.underlying3
  a3 := Tryd.isAgg3
  z3 := Tryd.sizeOf3
  v3 := Tryd.zeroValue3
  t4 := Tryd.underlying4
  a4 := Tryd.isAgg4
  z4 := Tryd.sizeOf4
  v4 := Tryd.zeroValue4
  t22 := Tryd.underlying25
  a22 := Tryd.isAgg25
  z22 := Tryd.sizeOf25
  v22 := Tryd.zeroValue25
  a23 := Tryd.isAgg3
  z23 := Tryd.sizeOf3
  t25 := Tryd.underlying40
  a25 := Tryd.isAgg40
  z25 := Tryd.sizeOf40
  v25 := Tryd.zeroValue40 }
open Go.RowKit Go.Lib in
theorem Tryd.slices_ContainsFunc_f52 {α : Type} [Inhabited α] (enc : α → Value) (p : α → Bool) (g : Nat) (lb : Array Value) (eg : ∀ args w, (callFunc g args).run Tryd.prog w = .ok (.enter g args) w) (b off n c : Nat) (zs : List α) (w : World) (hp : PredAt Tryd.prog g lb enc p w) (hz : n ≤ zs.length) (hbig : n ≤ 9223372036854775807) (hc : ∀ j, j < zs.length → w.cell? ⟨b, off + j, none⟩ = some (enc zs[j]!)) :
    Calls Tryd.prog 52 #[.slice (some ⟨b, off, none⟩) n c, .func (.func g) #[] lb] w fun e w' => e = .returned (.bool ((zs.take n).any p)) ∧ ∃ q, w' = w.drewN q := AnyE.slices_ContainsFunc Tryd.laysSlH8_f52 enc p g lb eg b off n c zs w hp hz hbig hc
open Go.RowKit Go.Lib in
theorem Tryd.slices_ContainsFunc_empty_f49 {α : Type} [Inhabited α] (a : Option Addr) (c : Nat) (fv : Value) (w : World) :
    Calls Tryd.prog 49 #[.slice a 0 c, fv] w fun e w' => e = .returned (.bool false) ∧ w' = w := AnyE.slices_ContainsFunc_empty Tryd.laysSlH8_f49 a c fv w
open Go.RowKit Go.Lib in
theorem Tryd.slices_ContainsFunc_empty_f52 {α : Type} [Inhabited α] (a : Option Addr) (c : Nat) (fv : Value) (w : World) :
    Calls Tryd.prog 52 #[.slice a 0 c, fv] w fun e w' => e = .returned (.bool false) ∧ w' = w := AnyE.slices_ContainsFunc_empty Tryd.laysSlH8_f52 a c fv w
def Tryd.idxVerb_ren : Go.Shelf.Ren := ⟨fun | 6 => 38 | n => n, fun | 22 => 61 | 23 => 51 | 25 => 69 | 3 => 3 | 0 => 0 | 4 => 4 | n => n, fun | n => n⟩
theorem Tryd.idxVerb : Go.Proofs.SlLaysH0.n6 Tryd.prog Tryd.idxVerb_ren := {
  mixed := by kernel_rfl
  f6 := ⟨Tryd.f38.name, by decide, Tryd.func38.trans (congrArg some (by kernel_rfl))⟩
  t0 := Tryd.underlying0
  a0 := Tryd.isAgg0
  z0 := Tryd.sizeOf0
  v0 := Tryd.zeroValue0
  t3 := Tryd.underlying3
  a3 := Tryd.isAgg3
  z3 := Tryd.sizeOf3
  v3 := Tryd.zeroValue3
  t4 := Tryd.underlying4
  a4 := Tryd.isAgg4
  z4 := Tryd.sizeOf4
  v4 := Tryd.zeroValue4
  t22 := Tryd.underlying61
  a22 := Tryd.isAgg61
  z22 := Tryd.sizeOf61
  v22 := Tryd.zeroValue61
  t25 := Tryd.underlying69
  a25 := Tryd.isAgg69
  z25 := Tryd.sizeOf69
  v25 := Tryd.zeroValue69 }
end Go.Proofs.YtikkfbkpgejneaaDoor
namespace Go.Proofs.YtikkfbkpgejneaaDoor
open Go.RowKit Go.Shelf

/-! ### commands: plain -/
structure Cmd where
  v : Int
  h : Int
  ns : List ByteArray
  ks : List Int
  t : ByteArray
deriving DecidableEq
def cmd0 : Cmd := ⟨0, 0, [], [], ⟨#[]⟩⟩
def hows : List ByteArray := [⟨#[109, 97, 116, 114, 105, 120]⟩, ⟨#[116, 101, 110, 115, 111, 114]⟩, ⟨#[103, 108, 108]⟩]
def howI (w : ByteArray) : Option Int := if 0 ≤ Lib.idxOfS hows w then some (Lib.idxOfS hows w + 1) else none
def stepW (c : Cmd) (k : Nat) (w : ByteArray) : Option Cmd :=
  match k with
  | 0 => (howI w).map fun h => { c with h := h }
  | 1 => some { c with ns := c.ns ++ [w] }
  | _ => (numV w.data.toList).map fun (n : Nat) => { c with ks := c.ks ++ [(n : Int)] }
def readW : Cmd → List Nat → List ByteArray → Option Cmd
  | c, k :: ks, w :: ws => (stepW c k w).bind fun c => readW c ks ws
  | c, _, _ => some c
def vbOf (w : ByteArray) : Option Vb := VT.find? fun v => decide (v.s = w)
def wordsOf (rest : ByteArray) (more : Bool) : List ByteArray := if more then words rest else []
def emptyB : ByteArray := ⟨#[]⟩
def bodyC (v : Vb) (rest : ByteArray) (more : Bool) : Option Cmd :=
  if v.t = true then (if more = true then some ⟨v.n, 0, [], [], rest⟩ else none)
  else if (wordsOf rest more).length = v.k.length ∧ Lib.containsS (wordsOf rest more) emptyB = false then readW ⟨v.n, 0, [], [], emptyB⟩ v.k (wordsOf rest more) else none
def parseC (s : ByteArray) : Cmd × Int :=
  if 2064 < s.size then (cmd0, 3) else
  match vbOf (mkB (Lib.cut s.data.toList [32]).1) with
  | none => (cmd0, 400)
  | some v => match bodyC v (mkB (Lib.cut s.data.toList [32]).2.1) (Lib.cut s.data.toList [32]).2.2 with
    | none => (cmd0, 401)
    | some c => (c, 0)

/-! ### what the library's variables hold -/
structure Gb (w : World) : Prop where
  sz : 8 ≤ w.heap.size
  mx : ∃ m, w.cell? ⟨0, 0, none⟩ = some (.int .i64 m)
  syn : ∃ tp p, w.var? Tryd.prog "strconv.ErrSyntax" = some #[.iface tp p]
  rng : ∃ tp p, w.var? Tryd.prog "strconv.ErrRange" = some #[.iface tp p]
  tab : Lib.TabIs Tryd.prog w "internal/strconv.uint64pow10" .u64 Lib.pow10Tab
theorem Gb.below {B : Nat} {w w' : World} (h : Gb w) (hB : 8 ≤ B) (hb : Below B w w') : Gb w' := by
  obtain ⟨m, hm⟩ := h.mx
  obtain ⟨t1, p1, h1⟩ := h.syn
  obtain ⟨t2, p2, h2⟩ := h.rng
  refine ⟨Nat.le_trans h.sz hb.size, ⟨m, (hb.cell (p := ⟨0, 0, none⟩) (show 0 < B by omega)).trans hm⟩, ⟨t1, p1, var?_below hb (show Tryd.prog.globalNamed "strconv.ErrSyntax" = some 1 by kernel_rfl) (by omega) h1⟩,
    ⟨t2, p2, var?_below hb (show Tryd.prog.globalNamed "strconv.ErrRange" = some 2 by kernel_rfl) (by omega) h2⟩, ?_⟩
  unfold Lib.TabIs at *
  exact var?_below hb (show Tryd.prog.globalNamed "internal/strconv.uint64pow10" = some 3 by kernel_rfl) (by omega) h.tab

/-! ### a command in memory -/
theorem elemStr : ElemOK Tryd.prog 24 9 1 16 :=
  ElemOK.mk' (z := .string ⟨#[]⟩) Tryd.underlying24 (by kernel_rfl) rfl (by decide)
theorem elemInt : ElemOK Tryd.prog 25 3 1 8 :=
  ElemOK.mk' (z := .int .i64 0) Tryd.underlying25 (by kernel_rfl) rfl (by decide)
/-- what lay below B but for block b is as it was -/
structure KB (B b : Nat) (w w' : World) : Prop where
  os : w'.os = w.os
  tape : w'.tape = w.tape
  output : w'.output = w.output
  size : w.heap.size ≤ w'.heap.size
  block : ∀ i, i < B → i ≠ b → w'.heap[i]? = w.heap[i]?
theorem KB.refl (B b : Nat) (w : World) : KB B b w w := ⟨rfl, rfl, rfl, Nat.le_refl _, fun _ _ _ => rfl⟩
theorem KB.trans {B b : Nat} {x y z : World} (h : KB B b x y) (k : KB B b y z) : KB B b x z :=
  ⟨k.os.trans h.os, k.tape.trans h.tape, k.output.trans h.output, Nat.le_trans h.size k.size, fun i hi hn => (k.block i hi hn).trans (h.block i hi hn)⟩
theorem KB.of_below {B b : Nat} {x y : World} (h : Below B x y) : KB B b x y := ⟨h.os, h.tape, h.output, h.size, fun i hi _ => h.block i hi⟩
theorem KB.set {B b : Nat} (w : World) (i : Nat) (v : Value) : KB B b w (w.setCell ⟨b, i, none⟩ v) := ⟨rfl, rfl, rfl, by simp [World.setCell], fun k _ hn => Below.heap_setCell _ _ _ _ hn⟩
theorem KB.grown {B b e size n : Nat} {v : Value} {xs : List Value} {w w' : World} (h : w.ownsRow B e size v n xs) (hg : w.grownBy w' v.ownBlock) (hB : B ≤ w.heap.size) : KB B b w w' :=
  ⟨hg.os, hg.tape, hg.output, hg.size, fun i hi _ => hg.block i (by omega) (fun e => by have := own_block h i e.symm; omega)⟩
theorem KB.below {B C b : Nat} {x y : World} (h : KB B b x y) (hC : C ≤ B) (hb : C ≤ b) : Below C x y := ⟨h.os, h.tape, h.output, h.size, fun i hi => h.block i (by omega) (by omega)⟩
structure CmIn (w : World) (B b : Nat) (c : Cmd) (vn vk : Value) : Prop where
  heap : w.heap[b]? = some (.cells #[.int .i64 c.v, .int .i64 c.h, vn, vk, .string c.t] 27 (0, 0))
  names : w.ownsRow B 9 1 vn c.ns.length (strV c.ns)
  nums : w.ownsRow B 3 1 vk c.ks.length (intV c.ks)
theorem CmIn.lt {w : World} {B b : Nat} {c : Cmd} {vn vk : Value} (h : CmIn w B b c vn vk) : b < w.heap.size := (Array.getElem?_eq_some_iff.1 h.heap).1
theorem CmIn.cells {w : World} {B b : Nat} {c : Cmd} {vn vk : Value} (h : CmIn w B b c vn vk) :
    w.cell? ⟨b, 0, none⟩ = some (.int .i64 c.v) ∧ w.cell? ⟨b, 1, none⟩ = some (.int .i64 c.h) ∧ w.cell? ⟨b, 2, none⟩ = some vn ∧ w.cell? ⟨b, 3, none⟩ = some vk ∧ w.cell? ⟨b, 4, none⟩ = some (.string c.t) ∧ (∀ i, w.frozen? ⟨b, i, none⟩ = false) := by
  have hh := h.heap
  refine ⟨?_, ?_, ?_, ?_, ?_, fun i => ?_⟩ <;> simp [World.cell?, World.frozen?, hh]
/-- a row's block is no block of another type -/
theorem own_ne {w : World} {B e size n b T : Nat} {v : Value} {xs : List Value} {cs : Array Value} {fr : Nat × Nat} (h : w.ownsRow B e size v n xs) (hb : w.heap[b]? = some (.cells cs T fr)) (hne : T ≠ e) : v.ownBlock ≠ some b := by
  intro e
  rcases h.2 with ⟨rfl, -⟩ | ⟨g, cap, cur, rfl, -, hg, -⟩
  · cases e
  · simp only [Value.ownBlock, Option.some.injEq] at e
    subst e
    rw [hb] at hg
    simp at hg
    exact hne hg.2.1
theorem own_ne2 {w : World} {B C e e2 size size2 n n2 : Nat} {v v2 : Value} {xs xs2 : List Value} (h : w.ownsRow B e size v n xs) (h2 : w.ownsRow C e2 size2 v2 n2 xs2) (hne : e ≠ e2) : ∀ j, v.ownBlock = some j → v2.ownBlock ≠ some j := by
  intro j e
  rcases h.2 with ⟨rfl, -⟩ | ⟨g, cap, cur, rfl, -, hg, -⟩
  · cases e
  · simp only [Value.ownBlock, Option.some.injEq] at e
    subst e
    exact own_ne h2 hg hne
theorem ownsRow_set {w : World} {B e n b i : Nat} {v u : Value} {xs : List Value} (h : w.ownsRow B e 1 v n xs) (hne : v.ownBlock ≠ some b) : (w.setCell ⟨b, i, none⟩ u).ownsRow B e 1 v n xs :=
  own_grown h (grown_set w b i u) (fun j hj => by simp only [Option.some.injEq] at hj; subst hj; exact .inr hne)
theorem CmIn.kept {w w' : World} {B b : Nat} {c : Cmd} {vn vk : Value} (h : CmIn w B b c vn vk) (hb : Below w.heap.size w w') : CmIn w' B b c vn vk :=
  ⟨(hb.block b h.lt).trans h.heap, own_grown h.names (grown_below hb) (fun j hj => by cases hj), own_grown h.nums (grown_below hb) (fun j hj => by cases hj)⟩
theorem CmIn.app_names {w w3 : World} {B b : Nat} {c : Cmd} {vn vk v' : Value} {s : ByteArray} (h : CmIn w B b c vn vk) (hown : w3.ownsRow B 9 1 v' (c.ns.length + 1) (strV c.ns ++ [.string s])) (hg : w.grownBy w3 vn.ownBlock) :
    CmIn (w3.setCell ⟨b, 2, none⟩ v') B b { c with ns := c.ns ++ [s] } v' vk := by
  have hb3 : w3.heap[b]? = _ := (hg.block b h.lt (own_ne h.names h.heap (by decide)).symm).trans h.heap
  refine ⟨?_, ownsRow_set ?_ (own_ne hown hb3 (by decide)), ownsRow_set ?_ (own_ne h.nums h.heap (by decide))⟩
  · rw [heap_setCell_same _ _ _ _ _ _ hb3]; rfl
  · have e1 : strV (c.ns ++ [s]) = strV c.ns ++ [.string s] := by simp [strV]
    rw [e1, List.length_append]; exact hown
  · exact own_grown h.nums hg (fun j hj => .inr (own_ne2 h.names h.nums (by decide) j hj))
theorem CmIn.app_nums {w w3 : World} {B b : Nat} {c : Cmd} {vn vk v' : Value} {s : Int} (h : CmIn w B b c vn vk) (hown : w3.ownsRow B 3 1 v' (c.ks.length + 1) (intV c.ks ++ [.int .i64 s])) (hg : w.grownBy w3 vk.ownBlock) :
    CmIn (w3.setCell ⟨b, 3, none⟩ v') B b { c with ks := c.ks ++ [s] } vn v' := by
  have hb3 : w3.heap[b]? = _ := (hg.block b h.lt (own_ne h.nums h.heap (by decide)).symm).trans h.heap
  refine ⟨?_, ownsRow_set ?_ (own_ne h.names h.heap (by decide)), ownsRow_set ?_ (own_ne hown hb3 (by decide))⟩
  · rw [heap_setCell_same _ _ _ _ _ _ hb3]; rfl
  · exact own_grown h.names hg (fun j hj => .inr (own_ne2 h.nums h.names (by decide) j hj))
  · have e1 : intV (c.ks ++ [s]) = intV c.ks ++ [.int .i64 s] := by simp [intV]
    rw [e1, List.length_append]; exact hown
theorem CmIn.set_how {w : World} {B b : Nat} {c : Cmd} {vn vk : Value} {x : Int} (h : CmIn w B b c vn vk) : CmIn (w.setCell ⟨b, 1, none⟩ (.int .i64 x)) B b { c with h := x } vn vk := by
  refine ⟨?_, ownsRow_set h.names (own_ne h.names h.heap (by decide)), ownsRow_set h.nums (own_ne h.nums h.heap (by decide))⟩
  rw [heap_setCell_same _ _ _ _ _ _ h.heap]; rfl
set_option maxRecDepth 100000 in
theorem cmName1_any (w : World) (B b : Nat) (c : Cmd) (vn vk : Value) (s : ByteArray) (h : CmIn w B b c vn vk) (hl : c.ns.length ≤ 1000) (hB : B ≤ w.heap.size) :
    Calls Tryd.prog 57 #[.pointer (some ⟨b, 0, none⟩), .string s] w fun e w' => e = .returned (.tuple #[]) ∧ (∃ vn' vk', CmIn w' B b { c with ns := c.ns ++ [s] } vn' vk') ∧ KB B b w w' := by
  have H := Lib.hid h
  obtain ⟨-, -, c2, -, -, hf⟩ := h.cells
  have hlt := h.lt
  have f2 := hf 2
  clear h hf
  obtain ⟨ao, cp, rfl⟩ : ∃ ao cp, vn = .slice ao c.ns.length cp := by obtain ⟨_, ao, cp, rfl, -⟩ := Rd.of_owns H.out.names; exact ⟨ao, cp, rfl⟩
  go_enter Tryd.func57, Tryd.ntmps57
  go_wp2_with (at_builtin; go_must (refine wpList_appG1 elemStr rfl _ _ rfl H.out.names rfl (news := [.string s]) rfl rfl (by intro u hu; simp at hu; subst hu; rfl) (by unfold maxLen; omega) (by omega) (by omega) ?_; intro v' w3 hown3 hg3; obtain ⟨_, ao3, cp3, rfl, -⟩ := id (Rd.of_owns hown3); have HO3 := Lib.hid hown3; have HG3 := Lib.hid hg3; have hb3 : w3.heap[b]? = w.heap[b]? := hg3.block b hlt (own_ne H.out.names H.out.heap (by decide)).symm; have d2 : w3.cell? ⟨b, 2, none⟩ = some (.slice ao c.ns.length cp) := (World.cell?_of_block (a := ⟨b, 2, none⟩) hb3).trans c2; have g2 : w3.frozen? ⟨b, 2, none⟩ = false := (World.frozen?_of_block (a := ⟨b, 2, none⟩) hb3).trans f2; clear hown3 hg3))
  go_end0
  exact ⟨rfl, ⟨_, _, H.out.app_names HO3.out HG3.out⟩, (KB.grown H.out.names HG3.out hB).trans (KB.set _ _ _)⟩
set_option maxRecDepth 100000 in
theorem hows_any (w : World) : Calls Tryd.prog 46 #[] w fun e w' => e = .returned (.slice (some ⟨w.heap.size, 0, none⟩) 3 3) ∧ w' = w.alloc (.cells (strV hows).toArray 9) := by
  go_enter Tryd.func46, Tryd.ntmps46
  go_wp2
  go_ret
  exact ⟨rfl, rfl⟩
end Go.Proofs.YtikkfbkpgejneaaDoor
namespace Go.Proofs.YtikkfbkpgejneaaDoor
open Go.RowKit Go.Shelf

theorem toList_inj (a b : ByteArray) : a.toList = b.toList ↔ a = b := by
  rw [ByteArray.toList_eq, ByteArray.toList_eq]
  constructor
  · intro h; exact ByteArray.ext (Array.toList_inj.1 h)
  · intro h; rw [h]
theorem grow_below2 {B : Nat} (w : World) (k : Nat) (os : Array Obj) (h : B ≤ w.heap.size) : Below B w (Sort.grow (w.drewN k) os) := by
  refine ⟨rfl, rfl, rfl, by simp [Sort.grow], fun i hi => ?_⟩
  show ((w.drewN k).heap ++ os)[i]? = w.heap[i]?
  rw [Array.getElem?_append_left (by show i < w.heap.size; omega)]; rfl
def wrongP : List PanicEntry := [{ v := .iface 55 (.agg #[]), recovered := false }]
/-- what the closure that reads a word answers -/
def ClRet (w : World) (B b : Nat) (r : Option Cmd) : Ending → World → Prop := fun e w' => KB B b w w' ∧ ((∃ c', r = some c' ∧ e = .returned (.tuple #[]) ∧ ∃ vn vk, CmIn w' B b c' vn vk) ∨ (r = none ∧ e = .panicked wrongP))
theorem idx_hows (w : ByteArray) : -1 ≤ Lib.idxOfS hows w ∧ Lib.idxOfS hows w < 3 := by
  unfold Lib.idxOfS hows
  simp only [Lib.idxFromS]
  split
  · omega
  · split
    · omega
    · split <;> omega
set_option maxRecDepth 100000 in
theorem cmHow1_any (w : World) (B b : Nat) (c : Cmd) (vn vk : Value) (s : ByteArray) (h : CmIn w B b c vn vk) (hB : B ≤ w.heap.size) :
    Calls Tryd.prog 58 #[.pointer (some ⟨b, 0, none⟩), .string s] w (ClRet w B b (stepW c 0 s)) := by
  have H := Lib.hid h
  have hx := idx_hows s
  have HC := Lib.hid (fun w2 hc => Tryd.slices_Index_string w.heap.size 0 3 3 hows s w2 (by decide) (by omega) hc)
  have HK : Hid (∀ w2, Below (w.alloc (.cells (strV hows).toArray 9)).heap.size (w.alloc (.cells (strV hows).toArray 9)) w2 → ∀ j, j < hows.length → w2.cell? ⟨w.heap.size, 0 + j, none⟩ = some (.string (hows.getD j ByteArray.empty))) := fun w2 hb j hj => by
    rw [hb.cell (p := ⟨w.heap.size, 0 + j, none⟩) (by simp), World.cell?_alloc_at _ _ _ _ rfl]
    have : j < 3 := hj
    match j, this with
    | 0, _ => rfl
    | 1, _ => rfl
    | 2, _ => rfl
  have hhow : howI s = if 0 ≤ Lib.idxOfS hows s then some (Lib.idxOfS hows s + 1) else none := rfl
  have HH := Lib.hid hhow
  have e3 : hows.take 3 = hows := rfl
  rw [e3] at HC
  clear hhow e3
  generalize Lib.idxOfS hows s = k at *
  have H2 := Lib.hid (h.kept (below1 w (.cells (strV hows).toArray 9)))
  have hb1 : Below B w (w.alloc (.cells (strV hows).toArray 9)) := (Below.refl B w).alloc hB _
  have HB1 := Lib.hid hb1
  clear hb1 h
  go_enter Tryd.func58, Tryd.ntmps58
  go_wp2_with fail
  refine (hows_any _).mono ?_
  rintro e w1 ⟨rfl, rfl⟩
  go_wp2_with fail
  refine (HC.out _ (HK.out _ (Below.refl _ _))).mono ?_
  rintro e w2 ⟨rfl, rfl⟩
  clear HK HC
  generalize w.alloc (.cells (strV hows).toArray 9) = w2 at *
  by_cases hk : k < 0
  · rw [if_neg (by omega)] at HH
    go_wp2
    exact ⟨rfl, KB.of_below HB1.out, .inr ⟨by unfold stepW; rw [HH.out]; rfl, rfl⟩⟩
  · rw [if_pos (by omega)] at HH
    obtain ⟨-, c1, -, -, -, hf⟩ := H2.out.cells
    have f1 := hf 1
    clear hf
    go_wp2
    go_end0
    exact ⟨(KB.of_below HB1.out).trans (KB.set _ _ _), .inl ⟨{ c with h := k + 1 }, by unfold stepW; rw [HH.out]; rfl, rfl, _, _, H2.out.set_how⟩⟩
set_option maxRecDepth 100000 in
set_option maxHeartbeats 1600000 in
theorem cmNumber1_any (w : World) (B b : Nat) (c : Cmd) (vn vk : Value) (s : ByteArray) (h : CmIn w B b c vn vk) (hB : B ≤ w.heap.size) (h8 : 8 ≤ B) (hg : Gb w) (hs : s.size ≤ 4096) (hl : c.ks.length ≤ 1000) :
    Calls Tryd.prog 60 #[.pointer (some ⟨b, 0, none⟩), .string s] w (ClRet w B b (stepW c 2 s)) := by
  have H := Lib.hid h
  have hlt := h.lt
  cases ha : Lib.atoiAll s.data.toList with
  | range =>
    have HN : Hid (stepW c 2 s = none) := by
      unfold Hid stepW
      rcases hn : numV s.data.toList with _ | n
      · rfl
      · have := (num_some hn).1; rw [ha] at this; cases this
    obtain ⟨tp, p, hv⟩ := hg.rng
    have HA := Lib.hid (Tryd.strconv_Atoi_range_var s (by omega) ha tp p w hv)
    clear ha hv hg h
    generalize Lib.atoiSat s.data.toList = z at *
    go_enter Tryd.func60, Tryd.ntmps60
    go_wp2_with fail
    refine (HA.out).mono ?_
    rintro e w2 ⟨N, rfl, -, -, hb⟩
    have HB := Lib.hid ((Below.refl B w).trans (hb.mono hB))
    clear hb
    go_wp2
    exact ⟨rfl, KB.of_below HB.out, .inr ⟨HN.out, rfl⟩⟩
  | ok v =>
    have hbd := Lib.atoiAll_bounds ha
    have HA := Lib.hid (Tryd.strconv_Atoi_ok s (by omega) v ha w)
    have HG := Lib.hid hg
    have HI := Lib.hid (fun w2 hg2 => Tryd.strconv_Itoa v (by omega) (by omega) w2 (Gb.tab hg2))
    have HNn : Hid (∀ n, numV s.data.toList = some n → v = n) := fun n hn => by
      have := (num_some hn).1; rw [ha] at this; exact Lib.NumEnd.ok.inj this
    have HNs : Hid (∀ n, numV s.data.toList = some n → Lib.itoa (n : Int) = s.data.toList ∧ n ≤ 999999999) := fun n hn => ⟨(num_some hn).2.2, (num_some hn).2.1⟩
    have HN0 : Hid (numV s.data.toList = none → 0 ≤ v → v ≤ 999999999 → Lib.itoa v ≠ s.data.toList) := fun hn h0 h1 => num_none hn v h0 h1
    clear ha hg h
    have hw2 : ∀ w2, (w2 = w ∨ ∃ t, w2 = Lib.bytesWorld w 5 t) → Below w.heap.size w w2 := by
      rintro w2 (rfl | ⟨t, rfl⟩)
      · exact Below.refl _ _
      · exact Lib.bytesWorld_below _ _ _
    have HW := Lib.hid hw2
    clear hw2
    by_cases hneg : v < 0
    · have HN : Hid (stepW c 2 s = none) := by
        unfold Hid stepW
        rcases hn : numV s.data.toList with _ | n
        · rfl
        · have := HNn.out n hn; omega
      go_enter Tryd.func60, Tryd.ntmps60
      go_wp2_with fail
      refine (HA.out).mono ?_
      rintro e w2 ⟨rfl, hww⟩
      have HB := Lib.hid ((Below.refl B w).trans ((HW.out _ hww).mono hB))
      clear hww
      go_wp2
      exact ⟨rfl, KB.of_below HB.out, .inr ⟨HN.out, rfl⟩⟩
    · by_cases hbig : 999999999 < v
      · have HN : Hid (stepW c 2 s = none) := by
          unfold Hid stepW
          rcases hn : numV s.data.toList with _ | n
          · rfl
          · have := HNn.out n hn; have := (HNs.out n hn).2; omega
        go_enter Tryd.func60, Tryd.ntmps60
        go_wp2_with fail
        refine (HA.out).mono ?_
        rintro e w2 ⟨rfl, hww⟩
        have HB := Lib.hid ((Below.refl B w).trans ((HW.out _ hww).mono hB))
        clear hww
        go_wp2
        exact ⟨rfl, KB.of_below HB.out, .inr ⟨HN.out, rfl⟩⟩
      · obtain ⟨q, hq, hqd⟩ : ∃ q : ByteArray, q = ⟨(Lib.itoa v).toArray⟩ ∧ q.data.toList = Lib.itoa v := ⟨_, rfl, rfl⟩
        rw [← hq] at HI
        have HQ := Lib.hid hqd
        clear hq hqd
        by_cases he : q = s
        · have hd : (q.toList == s.toList) = true := by rw [he]; simp
          have HN : ∃ n : Nat, v = n ∧ stepW c 2 s = some { c with ks := c.ks ++ [v] } := by
            rcases hn : numV s.data.toList with _ | n
            · exact absurd (by rw [← HQ.out, he]) (HN0.out hn (by omega) (by omega))
            · refine ⟨n, HNn.out n hn, ?_⟩
              unfold stepW
              simp only [hn, Option.map_some]
              rw [HNn.out n hn]
          obtain ⟨n, -, hst⟩ := HN
          have HN := Lib.hid hst
          clear hst he
          go_enter Tryd.func60, Tryd.ntmps60
          go_wp2_with fail
          refine (HA.out).mono ?_
          rintro e w2 ⟨rfl, hww⟩
          have hb2 := HW.out _ hww
          have HB := Lib.hid ((Below.refl B w).trans (hb2.mono hB))
          have HG2 := Lib.hid (HG.out.below (B := w.heap.size) (by omega) hb2)
          have H2 := Lib.hid (H.out.kept hb2)
          clear hww hb2
          go_wp2_with fail
          refine (HI.out _ HG2.out).mono ?_
          rintro e w3 ⟨rfl, k, os, rfl⟩
          have hb3 : Below w2.heap.size w2 (Sort.grow (w2.drewN k) os) := grow_below2 w2 k os (Nat.le_refl _)
          have HB3 := Lib.hid (HB.out.trans (hb3.mono (Nat.le_trans hB HB.out.size)))
          have H3 := Lib.hid (H2.out.kept hb3)
          clear hb3
          generalize Sort.grow (w2.drewN k) os = w3 at *
          obtain ⟨-, -, -, c3, -, hf⟩ := H3.out.cells
          have f3 := hf 3
          have hlt3 := H3.out.lt
          have hB3 : B ≤ w3.heap.size := Nat.le_trans hB HB3.out.size
          clear hf
          obtain ⟨ao, cp, rfl⟩ : ∃ ao cp, vk = .slice ao c.ks.length cp := by obtain ⟨_, ao, cp, rfl, -⟩ := Rd.of_owns H3.out.nums; exact ⟨ao, cp, rfl⟩
          go_wp2_with (at_builtin; go_must (refine wpList_appG1 elemInt rfl _ _ rfl H3.out.nums rfl (news := [.int .i64 v]) rfl rfl (by intro u hu; simp at hu; subst hu; rfl) (by unfold maxLen; omega) (by omega) (by omega) ?_; intro v' w4 hown4 hg4; obtain ⟨_, ao4, cp4, rfl, -⟩ := id (Rd.of_owns hown4); have HO4 := Lib.hid hown4; have HG4 := Lib.hid hg4; have hb4 : w4.heap[b]? = w3.heap[b]? := hg4.block b hlt3 (own_ne H3.out.nums H3.out.heap (by decide)).symm; have d3 : w4.cell? ⟨b, 3, none⟩ = some (.slice ao c.ks.length cp) := (World.cell?_of_block (a := ⟨b, 3, none⟩) hb4).trans c3; have g3 : w4.frozen? ⟨b, 3, none⟩ = false := (World.frozen?_of_block (a := ⟨b, 3, none⟩) hb4).trans f3; clear hown4 hg4))
          go_end0
          exact ⟨((KB.of_below HB3.out).trans (KB.grown H3.out.nums HG4.out (Nat.le_trans hB HB3.out.size))).trans (KB.set _ _ _), .inl ⟨_, HN.out, rfl, _, _, H3.out.app_nums HO4.out HG4.out⟩⟩
        · have hd : (q.toList == s.toList) = false := by rw [beq_eq_false_iff_ne]; exact fun h => he ((toList_inj _ _).1 h)
          have HN : Hid (stepW c 2 s = none) := by
            unfold Hid stepW
            rcases hn : numV s.data.toList with _ | n
            · rfl
            · exfalso
              apply he
              have h1 := HNn.out n hn
              have h2 := (HNs.out n hn).1
              rw [← h1, ← HQ.out] at h2
              exact ByteArray.ext (Array.toList_inj.1 h2)
          clear he
          go_enter Tryd.func60, Tryd.ntmps60
          go_wp2_with fail
          refine (HA.out).mono ?_
          rintro e w2 ⟨rfl, hww⟩
          have hb2 := HW.out _ hww
          have HB := Lib.hid ((Below.refl B w).trans (hb2.mono hB))
          have HG2 := Lib.hid (HG.out.below (B := w.heap.size) (by omega) hb2)
          clear hww hb2
          go_wp2_with fail
          refine (HI.out _ HG2.out).mono ?_
          rintro e w3 ⟨rfl, k, os, rfl⟩
          have HB3 := Lib.hid (HB.out.trans ((grow_below2 w2 k os (Nat.le_refl _)).mono (Nat.le_trans hB HB.out.size)))
          generalize Sort.grow (w2.drewN k) os = w3 at *
          go_wp2
          exact ⟨rfl, KB.of_below HB3.out, .inr ⟨HN.out, rfl⟩⟩
  | _ =>
    have HN : Hid (stepW c 2 s = none) := by
      unfold Hid stepW
      rcases hn : numV s.data.toList with _ | n
      · rfl
      · have := (num_some hn).1; rw [ha] at this; cases this
    obtain ⟨tp, p, hv⟩ := hg.syn
    have HA := Lib.hid (Tryd.strconv_Atoi_syntax_var s (by omega) ha tp p w hv)
    clear ha hv hg h
    go_enter Tryd.func60, Tryd.ntmps60
    go_wp2_with fail
    refine (HA.out).mono ?_
    rintro e w2 ⟨N, rfl, -, -, hb⟩
    have HB := Lib.hid ((Below.refl B w).trans (hb.mono hB))
    clear hb
    go_wp2
    exact ⟨rfl, KB.of_below HB.out, .inr ⟨HN.out, rfl⟩⟩
end Go.Proofs.YtikkfbkpgejneaaDoor
namespace Go.Proofs.YtikkfbkpgejneaaDoor
open Go.RowKit Go.Shelf

theorem flatVb_at (P : List (Vb × Value)) : ∀ (j : Nat) (p : Vb × Value), P[j]? = some p → (flatVb P)[j * 4]? = some (.int .i64 p.1.n) ∧ (flatVb P)[j * 4 + 1]? = some (.string p.1.s) ∧ (flatVb P)[j * 4 + 2]? = some (.bool p.1.t) ∧ (flatVb P)[j * 4 + 3]? = some p.2 := by
  induction P with
  | nil => intro j p h; simp at h
  | cons x P ih =>
    intro j p h
    have e : flatVb (x :: P) = .int .i64 x.1.n :: .string x.1.s :: .bool x.1.t :: x.2 :: flatVb P := rfl
    rw [e]
    cases j with
    | zero => simp at h; subst h; exact ⟨rfl, rfl, rfl, rfl⟩
    | succ j =>
      have := ih j p (by simpa using h)
      have e1 : (j + 1) * 4 = j * 4 + 4 := by omega
      rw [e1]
      simpa using this
theorem RdVs.at {w : World} {v : Value} {P : List (Vb × Value)} (h : RdVs w v P) {j : Nat} {p : Vb × Value} (hp : P[j]? = some p) :
    ∃ b off cap, v = .slice (some ⟨b, off, none⟩) P.length cap ∧ b < w.heap.size ∧ P.length ≤ cap ∧ w.cell? ⟨b, off + j * 4, none⟩ = some (.int .i64 p.1.n) ∧ w.cell? ⟨b, off + j * 4 + 1, none⟩ = some (.string p.1.s) ∧ w.cell? ⟨b, off + j * 4 + 2, none⟩ = some (.bool p.1.t) ∧ w.cell? ⟨b, off + j * 4 + 3, none⟩ = some p.2 := by
  have hj : j < P.length := (List.getElem?_eq_some_iff.1 hp).1
  obtain ⟨b, off, cap, h1, h2, h3, h4⟩ := Rd.at h.row hj
  obtain ⟨q0, q1, q2, q3⟩ := flatVb_at P j p hp
  exact ⟨b, off, cap, h1, h2, h3, h4 _ _ q0, h4 _ _ q1, h4 _ _ q2, h4 _ _ q3⟩
theorem RdVs.len {w : World} {v : Value} {P : List (Vb × Value)} (h : RdVs w v P) : P.length = 10 := by
  have := congrArg List.length h.tab
  rw [List.length_map] at this
  exact this
instance : Inhabited (Vb × Value) := ⟨⟨⟨0, ⟨#[]⟩, false, []⟩, .slice none 0 0⟩⟩
theorem idx_find (x : Vb × Value) (w : ByteArray) : ∀ (P : List (Vb × Value)) (i : Nat),
    (Lib.idxByFrom (fun _ y => decide (y.1.s = w)) x P i = -1 ∧ (P.map (·.1)).find? (fun v => decide (v.s = w)) = none) ∨
    ∃ j p, Lib.idxByFrom (fun _ y => decide (y.1.s = w)) x P i = ((i + j : Nat) : Int) ∧ P[j]? = some p ∧ (P.map (·.1)).find? (fun v => decide (v.s = w)) = some p.1
  | [], i => .inl ⟨rfl, rfl⟩
  | y :: P, i => by
    by_cases h : y.1.s = w
    · right
      refine ⟨0, y, ?_, rfl, ?_⟩
      · simp [Lib.idxByFrom, h]
      · simp [h]
    · rcases idx_find x w P (i + 1) with ⟨h1, h2⟩ | ⟨j, p, h1, h2, h3⟩
      · left
        refine ⟨?_, ?_⟩
        · simp only [Lib.idxByFrom, h, decide_false, Bool.false_eq_true, if_false]; exact h1
        · rw [List.map_cons, List.find?_cons]; simp only [h, decide_false]; exact h2
      · right
        refine ⟨j + 1, p, ?_, by simpa using h2, ?_⟩
        · simp only [Lib.idxByFrom, h, decide_false, Bool.false_eq_true, if_false]; rw [h1]; congr 1; omega
        · rw [List.map_cons, List.find?_cons]; simp only [h, decide_false]; exact h3
def encVb (p : Vb × Value) : List Value := [.int .i64 p.1.n, .string p.1.s, .bool p.1.t, p.2]
theorem beq_toList (x y : ByteArray) : (x.toList == y.toList) = decide (x = y) := by
  rw [Bool.eq_iff_iff]; simp [toList_inj]
set_option maxRecDepth 100000 in
theorem find_pred (s : ByteArray) (B : Nat) (w : World) (hB : B < w.heap.size) (hc : w.cell? ⟨B, 0, none⟩ = some (.string s)) :
    PredBelow Tryd.prog 39 #[.pointer (some ⟨B, 0, none⟩)] (fun x => .agg (encVb x).toArray) (fun x : Vb × Value => decide (x.1.s = s)) w := fun W x hb => by
  have hc2 : W.cell? ⟨B, 0, none⟩ = some (.string s) := (hb.cell (p := ⟨B, 0, none⟩) hB).trans hc
  have hBW : B < W.heap.size := Nat.lt_of_lt_of_le hB hb.size
  have hbs := hb.size
  show Calls Tryd.prog 39 #[.agg #[.int .i64 x.1.n, .string x.1.s, .bool x.1.t, x.2], .pointer (some ⟨B, 0, none⟩)] W _
  have HB := Lib.hid hb
  clear hb hc hB
  obtain ⟨⟨n, ss, t, k⟩, pv⟩ := x
  simp only
  go_enter Tryd.func39, Tryd.ntmps39
  go_wp2
  go_ret
  exact ⟨by rw [← beq_toList]; rfl, HB.out.alloc hbs _⟩
theorem find_idx (s : ByteArray) (w : World) (v : Value) (P : List (Vb × Value)) (hv : RdVs w v P) (B : Nat) (hB : B < w.heap.size) (hc : w.cell? ⟨B, 0, none⟩ = some (.string s)) :
    Calls Tryd.prog 38 #[v, .func (.func 39) #[] #[.pointer (some ⟨B, 0, none⟩)]] w fun e w' => Below w.heap.size w w' ∧
      ∃ k : Int, e = .returned (.int .i64 k) ∧ ((k = -1 ∧ vbOf s = none) ∨ ∃ (j : Nat) (p : Vb × Value), k = j ∧ P[j]? = some p ∧ vbOf s = some p.1) := by
  have eg : ∀ args w, (callFunc 39 args).run Tryd.prog w = .ok (.enter 39 args) w := enters_of Tryd.func39 (by kernel_rfl) rfl
  have hlen := hv.len
  obtain ⟨p0, hp0⟩ : ∃ p, P[0]? = some p := ⟨_, List.getElem?_eq_getElem (by omega)⟩
  obtain ⟨b, off, cap, rfl, hbw, hcap, -⟩ := hv.at hp0
  refine (AnyQ.slices_IndexFunc Tryd.idxVerb 4 Tryd.isAgg51 Tryd.sizeOf51 encVb (fun _ => rfl) (fun x => decide (x.1.s = s)) 39 #[.pointer (some ⟨B, 0, none⟩)] eg b off P.length cap P w
    (find_pred s B w hB hc) (Nat.le_refl _) (by omega) hbw (fun j hj i u hi => by
      obtain ⟨p, hp⟩ : ∃ p, P[j]? = some p := ⟨_, List.getElem?_eq_getElem hj⟩
      have hpe : P[j]! = p := by rw [List.getElem!_eq_getElem?_getD, hp]; rfl
      obtain ⟨b', off', cap', e1, -, -, x0, x1, x2, x3⟩ := hv.at hp
      simp only [Value.slice.injEq, Option.some.injEq, Addr.mk.injEq] at e1
      obtain ⟨⟨rfl, rfl, -⟩, -, rfl⟩ := e1
      rw [hpe] at hi
      match i, hi with
      | 0, hi => simp [encVb] at hi; rw [← hi]; exact x0
      | 1, hi => simp [encVb] at hi; rw [← hi]; exact x1
      | 2, hi => simp [encVb] at hi; rw [← hi]; exact x2
      | 3, hi => simp [encVb] at hi; rw [← hi]; exact x3
      | i + 4, hi => simp [encVb] at hi)).mono ?_
  rintro e w' ⟨rfl, hb⟩
  refine ⟨hb, _, rfl, ?_⟩
  have hidx := idx_find default s P 0
  rw [hv.tab] at hidx
  rw [List.take_length]
  rcases hidx with ⟨h1, h2⟩ | ⟨j, p, h1, h2, h3⟩
  · exact .inl ⟨h1, h2⟩
  · exact .inr ⟨j, p, by rw [Nat.zero_add] at h1; exact h1, h2, h3⟩
theorem results_row_tmp {P : Program} {fn : Func} {p u : Tmp} {ty : TypeId} (h : fn.results = #[.cell p ty, .tmp u]) (tmps : Array Value) (w : World) (g : Nat) (t : TypeId) (cs : Array Value) (fr : Nat × Nat) (d : TypeDesc)
    (hp : tmps.getD p undef = .pointer (some ⟨g, 0, none⟩)) (hg : w.heap[g]? = some (.cells cs t fr)) (hu : P.underlying ty = some d) (hd : (match d with | .struct _ | .array _ _ => true | _ => false) = true) (hi : (P.info? ty).map (·.size) = some cs.size) :
    (results fn tmps).run P w = .ok (.tuple #[.agg cs, tmps.getD u undef]) w := by
  rw [results_cell_tmp h, hp]
  simp [asAddr, run_loadVar_row w g t ty cs fr d hg hu hd hi, Result.andThen]
theorem heap_set4 {w : World} {b t : Nat} {a0 a1 a2 a3 : Value} (h : w.heap[b]? = some (.cells #[a0, a1, a2, a3] t (0, 0))) (u0 u1 u2 u3 : Value) :
    ((((w.setCell ⟨b, 0, none⟩ u0).setCell ⟨b, 1, none⟩ u1).setCell ⟨b, 2, none⟩ u2).setCell ⟨b, 3, none⟩ u3).heap[b]? = some (.cells #[u0, u1, u2, u3] t (0, 0)) := by
  have h1 := heap_setCell_same w b 0 _ t u0 h
  have h2 := heap_setCell_same _ b 1 _ t u1 h1
  have h3 := heap_setCell_same _ b 2 _ t u2 h2
  exact heap_setCell_same _ b 3 _ t u3 h3
theorem below_set4 {w0 w : World} {B b : Nat} (h : Below B w0 w) (hb : B ≤ b) (u0 u1 u2 u3 : Value) : Below B w0 ((((w.setCell ⟨b, 0, none⟩ u0).setCell ⟨b, 1, none⟩ u1).setCell ⟨b, 2, none⟩ u2).setCell ⟨b, 3, none⟩ u3) :=
  (((h.setCell (p := ⟨b, 0, none⟩) hb _).setCell (p := ⟨b, 1, none⟩) hb _).setCell (p := ⟨b, 2, none⟩) hb _).setCell (p := ⟨b, 3, none⟩) hb _
theorem RdPt.set4 {w : World} {b t k : Nat} {ao : Option Addr} {c : Nat} {l : List Nat} {x : Int} {y : ByteArray} {z : Bool} {q : Option Addr} {n m : Nat} (h : RdPt w (.slice ao k c) l) (hb : w.heap[b]? = some (.cells #[.int .i64 x, .string y, .bool z, .slice q n m] t (0, 0))) (u0 u1 u2 u3 : Value) :
    RdPt ((((w.setCell ⟨b, 0, none⟩ u0).setCell ⟨b, 1, none⟩ u1).setCell ⟨b, 2, none⟩ u2).setCell ⟨b, 3, none⟩ u3) (.slice ao k c) l := by
  obtain ⟨h1, ao2, c2, e, h2, h3, h4⟩ := h
  refine ⟨h1, ao2, c2, e, h2, h3, ?_⟩
  rcases h4 with h4 | ⟨b2, off, e2, hlt, hc⟩
  · exact .inl h4
  · cases l with
    | nil => exact .inl rfl
    | cons k0 l =>
      right
      have hne : b2 ≠ b := by
        rintro rfl
        have := hc 1 (ptFn k0) rfl
        unfold ptFn at this
        simp only [World.cell?, hb] at this
        have hlt4 : off + 1 < 4 := by
          rcases Nat.lt_or_ge (off + 1) 4 with h | h
          · exact h
          · simp [Array.getElem?_eq_none (show (#[Value.int .i64 x, Value.string y, Value.bool z, Value.slice q n m] : Array Value).size ≤ off + 1 from h)] at this
        match off, hlt4 with
        | 0, _ => simp at this
        | 1, _ => simp at this
        | 2, _ => simp at this
      refine ⟨b2, off, e2, by simpa [World.setCell] using hlt, fun j u hj => ?_⟩
      rw [← hc j u hj]
      apply World.cell?_of_block
      rw [Below.heap_setCell _ _ _ _ hne, Below.heap_setCell _ _ _ _ hne, Below.heap_setCell _ _ _ _ hne, Below.heap_setCell _ _ _ _ hne]
/-- what find answers -/
def FindRet (w : World) (s : ByteArray) : Ending → World → Prop := fun e w' => Below w.heap.size w w' ∧
  ((vbOf s = none ∧ e = .returned (.tuple #[.agg #[.int .i64 0, .string ⟨#[]⟩, .bool false, .slice none 0 0], .bool false])) ∨
   ∃ v ao cp, vbOf s = some v ∧ e = .returned (.tuple #[.agg #[.int .i64 v.n, .string v.s, .bool v.t, .slice ao v.k.length cp], .bool true]) ∧ RdPt w' (.slice ao v.k.length cp) v.k)
set_option maxRecDepth 100000 in
set_option maxHeartbeats 1600000 in
theorem find_any (s : ByteArray) (w : World) : Calls Tryd.prog 21 #[.string s] w (FindRet w s) := by
  have hmf : ∀ (fn : Fn) (first cap : Array Value) (w : World), (Instr.makeFunc fn first cap).run Tryd.prog w = .ok (.func fn first cap) w := fun _ _ _ _ => rfl
  have HVs := Lib.hid (fun w => verbs_any w)
  have hk0 : ((w.alloc (.cells #[.string s] 9)).alloc (.cells #[.int .i64 0, .string ⟨#[]⟩, .bool false, .slice none 0 0] 51)).heap[w.heap.size]? = some (.cells #[.string s] 9 (0, 0)) := by
    exact (Below.heap_alloc (w.alloc (.cells #[.string s] 9)) _ _ (by simp)).trans (heap_alloc_new w _)
  have hk1 : ((w.alloc (.cells #[.string s] 9)).alloc (.cells #[.int .i64 0, .string ⟨#[]⟩, .bool false, .slice none 0 0] 51)).heap[w.heap.size + 1]? = some (.cells #[.int .i64 0, .string ⟨#[]⟩, .bool false, .slice none 0 0] 51 (0, 0)) := by
    have := heap_alloc_new (w.alloc (.cells #[.string s] 9)) (.cells #[.int .i64 0, .string ⟨#[]⟩, .bool false, .slice none 0 0] 51)
    simpa using this
  have hb0 := below2 w (.cells #[.string s] 9) (.cells #[.int .i64 0, .string ⟨#[]⟩, .bool false, .slice none 0 0] 51)
  have HB0 := Lib.hid hb0
  have HK0 := Lib.hid hk0
  have HK1 := Lib.hid hk1
  clear hb0 hk0 hk1
  go_enter Tryd.func21, Tryd.ntmps21
  go_wp2_with fail
  generalize (w.alloc (.cells #[.string s] 9)).alloc (.cells #[.int .i64 0, .string ⟨#[]⟩, .bool false, .slice none 0 0] 51) = w1 at *
  refine (HVs.out _).mono ?_
  rintro e w2 ⟨v, P, rfl, hv, hb⟩
  have hbox : w2.heap[w.heap.size + 1]? = _ := (hb.block _ (Array.getElem?_eq_some_iff.1 HK1.out).1).trans HK1.out
  have hstr : w2.heap[w.heap.size]? = _ := (hb.block _ (Array.getElem?_eq_some_iff.1 HK0.out).1).trans HK0.out
  have HB2 := Lib.hid (HB0.out.trans (hb.mono HB0.out.size))
  have HV := Lib.hid hv
  have HBox := Lib.hid hbox
  have HI := Lib.hid (find_idx s w2 v P hv w.heap.size (Array.getElem?_eq_some_iff.1 hstr).1 (by simp [World.cell?, hstr]))
  obtain ⟨_, vo, vc, rfl, -⟩ := hv.row
  clear hv hb hbox hstr HVs
  go_wp2_with fail
  refine (HI.out).mono ?_
  rintro e w3 ⟨hb3, k, rfl, hidx⟩
  have HB3 := Lib.hid (HB2.out.trans (hb3.mono HB2.out.size))
  have hbox3 : w3.heap[w.heap.size + 1]? = _ := (hb3.block _ (Array.getElem?_eq_some_iff.1 HBox.out).1).trans HBox.out
  have HBox3 := Lib.hid hbox3
  have HV3 := Lib.hid (HV.out.below hb3)
  have hB1 : w.heap.size + 1 < w3.heap.size := (Array.getElem?_eq_some_iff.1 hbox3).1
  have q0 : w3.cell? ⟨w.heap.size + 1, 0, none⟩ = some (.int .i64 0) := by simp [World.cell?, hbox3]
  have q1 : w3.cell? ⟨w.heap.size + 1, 1, none⟩ = some (.string ⟨#[]⟩) := by simp [World.cell?, hbox3]
  have q2 : w3.cell? ⟨w.heap.size + 1, 2, none⟩ = some (.bool false) := by simp [World.cell?, hbox3]
  have q3 : w3.cell? ⟨w.heap.size + 1, 3, none⟩ = some (.slice none 0 0) := by simp [World.cell?, hbox3]
  have fz0 : w3.frozen? ⟨w.heap.size + 1, 0, none⟩ = false := by simp [World.frozen?, hbox3]
  have fz1 : w3.frozen? ⟨w.heap.size + 1, 1, none⟩ = false := by simp [World.frozen?, hbox3]
  have fz2 : w3.frozen? ⟨w.heap.size + 1, 2, none⟩ = false := by simp [World.frozen?, hbox3]
  have fz3 : w3.frozen? ⟨w.heap.size + 1, 3, none⟩ = false := by simp [World.frozen?, hbox3]
  clear hbox3 hb3 HBox HV HI HB2 HB0 HK0 HK1
  rcases hidx with ⟨rfl, hn⟩ | ⟨j, p, rfl, hp, hn⟩
  · have HN := Lib.hid hn
    clear hn
    go_wp2
    refine bodyPost_ret (results_row_tmp rfl _ _ _ _ _ _ _ rfl (heap_set4 HBox3.out _ _ _ _) Tryd.underlying51 rfl (by kernel_rfl)) rfl ?_
    exact ⟨below_set4 HB3.out (by omega) _ _ _ _, .inl ⟨HN.out, rfl⟩⟩
  · have HN := Lib.hid hn
    obtain ⟨b, off, cap, e1, hbw, hcap, x0, x1, x2, x3⟩ := HV3.out.at hp
    simp only [Value.slice.injEq] at e1
    obtain ⟨rfl, -, rfl⟩ := e1
    have hj : j < P.length := (List.getElem?_eq_some_iff.1 hp).1
    have hR := HV3.out.parts p (List.mem_of_getElem? hp)
    have HR := Lib.hid hR
    obtain ⟨_, ao, cp, hpv, -⟩ := hR
    obtain ⟨⟨vn, vs, vt, vk⟩, pv⟩ := p
    simp only at hpv x0 x1 x2 x3 HR HN
    subst hpv
    clear hn hp
    go_wp2
    refine bodyPost_ret (results_row_tmp rfl _ _ _ _ _ _ _ rfl (heap_set4 HBox3.out _ _ _ _) Tryd.underlying51 rfl (by kernel_rfl)) rfl ?_
    exact ⟨below_set4 HB3.out (by omega) _ _ _ _, .inr ⟨_, ao, cp, HN.out, rfl, HR.out.set4 HBox3.out _ _ _ _⟩⟩
end Go.Proofs.YtikkfbkpgejneaaDoor
namespace Go.Proofs.YtikkfbkpgejneaaDoor
open Go.RowKit Go.Shelf

/-- a command that owns its rows -/
def CmV (w : World) (B : Nat) (c : Cmd) (v : Value) : Prop :=
  ∃ vn vk, v = .agg #[.int .i64 c.v, .int .i64 c.h, vn, vk, .string c.t] ∧ w.ownsRow B 9 1 vn c.ns.length (strV c.ns) ∧ w.ownsRow B 3 1 vk c.ks.length (intV c.ks)
def ReadRet (w : World) (r : Option Cmd) : Ending → World → Prop := fun e w' => Below w.heap.size w w' ∧ ((∃ c v, r = some c ∧ e = .returned v ∧ CmV w' w.heap.size c v) ∨ (r = none ∧ e = .panicked wrongP))
set_option maxRecDepth 100000 in
set_option maxHeartbeats 800000 in
theorem read_text (n : Nat) (s : ByteArray) (pv : Value) (rest : ByteArray) (more : Bool) (w : World) :
    Calls Tryd.prog 23 #[.agg #[.int .i64 n, .string s, .bool true, pv], .string rest, .bool more] w (ReadRet w (if more = true then some ⟨n, 0, [], [], rest⟩ else none)) := by
  cases more with
  | false =>
    go_enter Tryd.func23, Tryd.ntmps23
    go_wp2
    exact ⟨rfl, below3 w _ _ _, .inr ⟨rfl, rfl⟩⟩
  | true =>
    go_enter Tryd.func23, Tryd.ntmps23
    go_wp2
    refine bodyPost_ret (results_cell_row rfl _ _ (w.heap.size + 1) 27 _ (0, 0) _ rfl ((Below.heap_alloc _ _ _ (by simp)).trans (by simpa using heap_alloc_new (w.alloc _) _)) Tryd.underlying27 rfl (by kernel_rfl)) rfl ?_
    exact ⟨below3 w _ _ _, .inl ⟨_, _, rfl, rfl, _, _, rfl, World.ownsRow_nil _ _ _ _, World.ownsRow_nil _ _ _ _⟩⟩
/-! ### plain: reading words one by one -/
theorem readW_snoc {c0 c : Cmd} {ks : List Nat} {ws : List ByteArray} {j k : Nat} {w : ByteArray} (h : readW c0 (ks.take j) (ws.take j) = some c) (hk : ks[j]? = some k) (hw : ws[j]? = some w) :
    readW c0 (ks.take (j + 1)) (ws.take (j + 1)) = stepW c k w := by
  induction j generalizing c0 ks ws with
  | zero =>
    obtain ⟨k0, ks, rfl⟩ := List.exists_cons_of_ne_nil (show ks ≠ [] by rintro rfl; simp at hk)
    obtain ⟨w0, ws, rfl⟩ := List.exists_cons_of_ne_nil (show ws ≠ [] by rintro rfl; simp at hw)
    simp at hk hw
    subst hk hw
    simp only [List.take_zero, readW, Option.some.injEq] at h
    subst h
    simp only [List.take_succ_cons, List.take_zero, readW]
    cases stepW c0 k0 w0 <;> rfl
  | succ j ih =>
    obtain ⟨k0, ks, rfl⟩ := List.exists_cons_of_ne_nil (show ks ≠ [] by rintro rfl; simp at hk)
    obtain ⟨w0, ws, rfl⟩ := List.exists_cons_of_ne_nil (show ws ≠ [] by rintro rfl; simp at hw)
    simp only [List.take_succ_cons, readW] at h ⊢
    cases hs : stepW c0 k0 w0 with
    | none => rw [hs] at h; cases h
    | some c1 =>
      rw [hs] at h
      simp only [Option.bind_some] at h ⊢
      exact ih h (by simpa using hk) (by simpa using hw)
theorem readW_fail {c0 : Cmd} {ks : List Nat} {ws : List ByteArray} {j : Nat} (h : readW c0 (ks.take j) (ws.take j) = none) : readW c0 ks ws = none := by
  induction j generalizing c0 ks ws with
  | zero => simp [readW] at h
  | succ j ih =>
    cases ks with
    | nil => simp [readW] at h
    | cons k ks =>
      cases ws with
      | nil => simp [readW] at h
      | cons w ws =>
        simp only [List.take_succ_cons, readW] at h ⊢
        cases hs : stepW c0 k w with
        | none => rfl
        | some c1 =>
          rw [hs] at h
          exact ih h
theorem stepW_len {c c' : Cmd} {k : Nat} {w : ByteArray} (h : stepW c k w = some c') : c'.ns.length ≤ c.ns.length + 1 ∧ c'.ks.length ≤ c.ks.length + 1 := by
  unfold stepW at h
  split at h
  · rcases hh : howI w with _ | x
    · rw [hh] at h; cases h
    · rw [hh] at h; simp only [Option.map_some, Option.some.injEq] at h; subst h; exact ⟨by simp, by simp⟩
  · simp only [Option.some.injEq] at h; subst h; exact ⟨by simp, by simp⟩
  · rcases hh : numV w.data.toList with _ | x
    · rw [hh] at h; cases h
    · rw [hh] at h; simp only [Option.map_some, Option.some.injEq] at h; subst h; exact ⟨by simp, by simp⟩
theorem readW_len {c0 c : Cmd} {ks : List Nat} {ws : List ByteArray} (h : readW c0 ks ws = some c) : c.ns.length ≤ c0.ns.length + ks.length ∧ c.ks.length ≤ c0.ks.length + ks.length := by
  induction ks generalizing c0 ws with
  | nil => simp only [readW, Option.some.injEq] at h; subst h; exact ⟨by simp, by simp⟩
  | cons k ks ih =>
    cases ws with
    | nil => simp only [readW, Option.some.injEq] at h; subst h; exact ⟨by simp, by simp⟩
    | cons w ws =>
      simp only [readW] at h
      cases hs : stepW c0 k w with
      | none => rw [hs] at h; cases h
      | some c1 =>
        rw [hs] at h
        have := ih h
        have h2 := stepW_len hs
        simp only [List.length_cons]
        omega
theorem wds_len {l w : List UInt8} (h : w ∈ wds l) : w.length ≤ l.length := by
  induction l generalizing w with
  | nil => simp [wds] at h; subst h; simp
  | cons c l ih =>
    unfold wds at h
    split at h
    · rcases List.mem_cons.1 h with rfl | h
      · simp
      · have := ih h; simp; omega
    · split at h
      · rename_i he; exact absurd he (wds_ne l)
      · rename_i x r he
        rcases List.mem_cons.1 h with rfl | h
        · have := ih (w := x) (by rw [he]; simp); simp; omega
        · have := ih (w := w) (by rw [he]; simp [h]); simp; omega
theorem words_size {s w : ByteArray} (h : w ∈ words s) : w.size ≤ s.size := by
  unfold words at h
  rw [List.mem_map] at h
  obtain ⟨l, hl, rfl⟩ := h
  have := wds_len hl
  rw [mkB_size]
  have e : s.data.toList.length = s.size := by rw [Array.length_toList]; rfl
  omega
theorem split_len (s : ByteArray) : Lib.countB s sp + 1 = (words s).length := by
  rw [← split_sp, Lib.splitB_all sp (by decide) 0 _ s rfl]
theorem wds_count (l : List UInt8) : (wds l).length ≤ l.length + 1 := by
  induction l with
  | nil => simp [wds]
  | cons c l ih =>
    unfold wds
    split
    · simp; omega
    · split
      · simp
      · rename_i x r he; rw [he] at ih; simp at ih ⊢; omega
theorem words_count (s : ByteArray) : (words s).length ≤ s.size + 1 := by
  unfold words; rw [List.length_map]
  have := wds_count s.data.toList
  have e : s.data.toList.length = s.size := by rw [Array.length_toList]; rfl
  omega
end Go.Proofs.YtikkfbkpgejneaaDoor
namespace Go.Proofs.YtikkfbkpgejneaaDoor
open Go.RowKit Go.Shelf

theorem flatPt_at (l : List Nat) : ∀ (j k : Nat), l[j]? = some k → (flatPt l)[j * 2]? = some (.int .i64 (k : Int)) ∧ (flatPt l)[j * 2 + 1]? = some (ptFn k) := by
  induction l with
  | nil => intro j k h; simp at h
  | cons x l ih =>
    intro j k h
    have e : flatPt (x :: l) = .int .i64 (x : Int) :: ptFn x :: flatPt l := rfl
    rw [e]
    cases j with
    | zero => simp at h; subst h; exact ⟨rfl, rfl⟩
    | succ j =>
      have := ih j k (by simpa using h)
      have e1 : (j + 1) * 2 = j * 2 + 2 := by omega
      rw [e1]
      simpa using this
theorem RdPt.at {w : World} {v : Value} {l : List Nat} (h : RdPt w v l) {j k : Nat} (hp : l[j]? = some k) :
    ∃ b off cap, v = .slice (some ⟨b, off, none⟩) l.length cap ∧ b < w.heap.size ∧ l.length ≤ cap ∧ w.cell? ⟨b, off + j * 2, none⟩ = some (.int .i64 (k : Int)) ∧ w.cell? ⟨b, off + j * 2 + 1, none⟩ = some (ptFn k) := by
  have hj : j < l.length := (List.getElem?_eq_some_iff.1 hp).1
  obtain ⟨b, off, cap, h1, h2, h3, h4⟩ := Rd.at h hj
  obtain ⟨q0, q1⟩ := flatPt_at l j k hp
  exact ⟨b, off, cap, h1, h2, h3, h4 _ _ q0, h4 _ _ q1⟩
theorem heap_set5 {w : World} {b t : Nat} {a0 a1 a2 a3 a4 : Value} (h : w.heap[b]? = some (.cells #[a0, a1, a2, a3, a4] t (0, 0))) (u0 u1 u2 u3 u4 : Value) :
    (((((w.setCell ⟨b, 0, none⟩ u0).setCell ⟨b, 1, none⟩ u1).setCell ⟨b, 2, none⟩ u2).setCell ⟨b, 3, none⟩ u3).setCell ⟨b, 4, none⟩ u4).heap[b]? = some (.cells #[u0, u1, u2, u3, u4] t (0, 0)) := by
  have h1 := heap_setCell_same w b 0 _ t u0 h
  have h2 := heap_setCell_same _ b 1 _ t u1 h1
  have h3 := heap_setCell_same _ b 2 _ t u2 h2
  have h4 := heap_setCell_same _ b 3 _ t u3 h3
  exact heap_setCell_same _ b 4 _ t u4 h4
theorem below_set5 {w0 w : World} {B b : Nat} (h : Below B w0 w) (hb : B ≤ b) (u0 u1 u2 u3 u4 : Value) : Below B w0 (((((w.setCell ⟨b, 0, none⟩ u0).setCell ⟨b, 1, none⟩ u1).setCell ⟨b, 2, none⟩ u2).setCell ⟨b, 3, none⟩ u3).setCell ⟨b, 4, none⟩ u4) :=
  ((((h.setCell (p := ⟨b, 0, none⟩) hb _).setCell (p := ⟨b, 1, none⟩) hb _).setCell (p := ⟨b, 2, none⟩) hb _).setCell (p := ⟨b, 3, none⟩) hb _).setCell (p := ⟨b, 4, none⟩) hb _
theorem ownsRow_set5 {w : World} {B e n b : Nat} {v : Value} {xs : List Value} (h : w.ownsRow B e 1 v n xs) (hne : v.ownBlock ≠ some b) (u0 u1 u2 u3 u4 : Value) :
    (((((w.setCell ⟨b, 0, none⟩ u0).setCell ⟨b, 1, none⟩ u1).setCell ⟨b, 2, none⟩ u2).setCell ⟨b, 3, none⟩ u3).setCell ⟨b, 4, none⟩ u4).ownsRow B e 1 v n xs :=
  ownsRow_set (ownsRow_set (ownsRow_set (ownsRow_set (ownsRow_set h hne) hne) hne) hne) hne
set_option maxRecDepth 100000 in
set_option maxHeartbeats 800000 in
/-- no word stands behind the verb's -/
theorem read_bare (n : Nat) (s : ByteArray) (ks : List Nat) (ao : Option Addr) (cp : Nat) (rest : ByteArray) (w : World) :
    Calls Tryd.prog 23 #[.agg #[.int .i64 n, .string s, .bool false, .slice ao ks.length cp], .string rest, .bool false] w (ReadRet w (if ks.length = 0 then some ⟨n, 0, [], [], emptyB⟩ else none)) := by
  by_cases h0 : ks.length = 0
  · have hn : ((0 : Int) != (ks.length : Int)) = false := by rw [h0]; rfl
    rw [if_pos h0]
    rw [h0]
    have HC := Lib.hid (fun w => Tryd.slices_Contains_string_empty none 0 ⟨#[]⟩ w)
    go_enter Tryd.func23, Tryd.ntmps23
    go_wp2_with fail
    refine (HC.out _).mono ?_
    rintro e w2 ⟨rfl, rfl⟩
    go_wp2_with fail
    go_loop [41] (fun i => i = .int .i64 0) (fun _ => 0)
    case atStart => rfl
    case round =>
      subst hrel
      go_wp2
      refine bodyPost_ret (results_cell_row rfl _ _ (w.heap.size + 1) 27 _ (0, 0) _ rfl ((Below.heap_alloc _ _ _ (by simp)).trans (by simpa using heap_alloc_new (w.alloc _) _)) Tryd.underlying27 rfl (by kernel_rfl)) rfl ?_
      exact ⟨below3 w _ _ _, .inl ⟨_, _, rfl, rfl, _, _, rfl, World.ownsRow_nil _ _ _ _, World.ownsRow_nil _ _ _ _⟩⟩
  · have hn : ((0 : Int) != (ks.length : Int)) = true := by rw [bne_iff_ne]; omega
    rw [if_neg h0]
    go_enter Tryd.func23, Tryd.ntmps23
    go_wp2
    exact ⟨rfl, below3 w _ _ _, .inr ⟨rfl, rfl⟩⟩
set_option maxRecDepth 100000 in
set_option maxHeartbeats 3200000 in
theorem read_words (n : Nat) (s : ByteArray) (ks : List Nat) (ao : Option Addr) (cp : Nat) (rest : ByteArray) (w : World) (hk : ks.length ≤ 10) (hk2 : ∀ k ∈ ks, k ≤ 2) (hr : RdPt w (.slice ao ks.length cp) ks) (hs : rest.size ≤ 4096) (hg : Gb w) :
    Calls Tryd.prog 23 #[.agg #[.int .i64 n, .string s, .bool false, .slice ao ks.length cp], .string rest, .bool true] w
      (ReadRet w (if (words rest).length = ks.length ∧ Lib.containsS (words rest) emptyB = false then readW ⟨n, 0, [], [], emptyB⟩ ks (words rest) else none)) := by
  obtain ⟨R, hR⟩ : ∃ R, R = (if (words rest).length = ks.length ∧ Lib.containsS (words rest) emptyB = false then readW ⟨n, 0, [], [], emptyB⟩ ks (words rest) else none) := ⟨_, rfl⟩
  rw [← hR]
  obtain ⟨m, hm⟩ := hg.mx
  have h8 := hg.sz
  have hsz := words_count rest
  have HWs : Hid (∀ x ∈ words rest, x.size ≤ 4096) := fun x hx => Nat.le_trans (words_size hx) hs
  have HS : Hid (∀ w1, w1.cell? ⟨0, 0, none⟩ = some (.int .i64 m) → Calls Tryd.prog 40 #[.string rest, .string ⟨#[32]⟩] w1 fun e w' => e = .returned (.slice (some ⟨w1.heap.size, 0, none⟩) (words rest).length (words rest).length) ∧ w' = w1.alloc (.cells (strV (words rest)).toArray 9)) := fun w1 h1 => by
    refine (Tryd.strings_Split rest sp m w1 (by omega) h1 (by decide)).mono ?_
    rintro e w' ⟨rfl, rfl⟩
    rw [split_len, split_sp]
    exact ⟨rfl, rfl⟩
  have hb0 := below3 w (.cells #[.int .i64 n, .string s, .bool false, .slice ao ks.length cp] 51) (.cells #[.int .i64 0, .int .i64 0, .slice none 0 0, .slice none 0 0, .string ⟨#[]⟩] 27) (.cells #[.int .i64 n, .int .i64 0, .slice none 0 0, .slice none 0 0, .string ⟨#[]⟩] 27)
  generalize hws : words rest = ws at *
  have HRes := Lib.hid hR
  clear hws hR
  have HR := Lib.hid hr
  have HG := Lib.hid hg
  have HB0 := Lib.hid hb0
  have HV : Hid ((((w.alloc (.cells #[.int .i64 n, .string s, .bool false, .slice ao ks.length cp] 51)).alloc (.cells #[.int .i64 0, .int .i64 0, .slice none 0 0, .slice none 0 0, .string ⟨#[]⟩] 27)).alloc (.cells #[.int .i64 n, .int .i64 0, .slice none 0 0, .slice none 0 0, .string ⟨#[]⟩] 27)).heap[w.heap.size]? = some (.cells #[.int .i64 n, .string s, .bool false, .slice ao ks.length cp] 51 (0, 0))) :=
    (Below.heap_alloc _ _ _ (by simp; omega)).trans ((Below.heap_alloc _ _ _ (by simp)).trans (heap_alloc_new w _))
  have HO : Hid ((((w.alloc (.cells #[.int .i64 n, .string s, .bool false, .slice ao ks.length cp] 51)).alloc (.cells #[.int .i64 0, .int .i64 0, .slice none 0 0, .slice none 0 0, .string ⟨#[]⟩] 27)).alloc (.cells #[.int .i64 n, .int .i64 0, .slice none 0 0, .slice none 0 0, .string ⟨#[]⟩] 27)).heap[w.heap.size + 1]? = some (.cells #[.int .i64 0, .int .i64 0, .slice none 0 0, .slice none 0 0, .string ⟨#[]⟩] 27 (0, 0))) :=
    (Below.heap_alloc _ _ _ (by simp)).trans (by simpa using heap_alloc_new (w.alloc _) _)
  have HC : Hid ((((w.alloc (.cells #[.int .i64 n, .string s, .bool false, .slice ao ks.length cp] 51)).alloc (.cells #[.int .i64 0, .int .i64 0, .slice none 0 0, .slice none 0 0, .string ⟨#[]⟩] 27)).alloc (.cells #[.int .i64 n, .int .i64 0, .slice none 0 0, .slice none 0 0, .string ⟨#[]⟩] 27)).heap[w.heap.size + 1 + 1]? = some (.cells #[.int .i64 n, .int .i64 0, .slice none 0 0, .slice none 0 0, .string ⟨#[]⟩] 27 (0, 0))) := by
    exact (by simpa using heap_alloc_new ((w.alloc (.cells #[.int .i64 n, .string s, .bool false, .slice ao ks.length cp] 51)).alloc (.cells #[.int .i64 0, .int .i64 0, .slice none 0 0, .slice none 0 0, .string ⟨#[]⟩] 27)) (.cells #[.int .i64 n, .int .i64 0, .slice none 0 0, .slice none 0 0, .string ⟨#[]⟩] 27) : ((((w.alloc (.cells #[.int .i64 n, .string s, .bool false, .slice ao ks.length cp] 51)).alloc (.cells #[.int .i64 0, .int .i64 0, .slice none 0 0, .slice none 0 0, .string ⟨#[]⟩] 27)).alloc (.cells #[.int .i64 n, .int .i64 0, .slice none 0 0, .slice none 0 0, .string ⟨#[]⟩] 27)).heap[w.heap.size + 1 + 1]? = some (.cells #[.int .i64 n, .int .i64 0, .slice none 0 0, .slice none 0 0, .string ⟨#[]⟩] 27 (0, 0))))
  clear hb0 hr hg
  go_enter Tryd.func23, Tryd.ntmps23
  go_wp2_with fail
  generalize hb6 : w.heap.size + 1 = b6 at *
  generalize ((w.alloc (.cells #[.int .i64 n, .string s, .bool false, .slice ao ks.length cp] 51)).alloc (.cells #[.int .i64 0, .int .i64 0, .slice none 0 0, .slice none 0 0, .string ⟨#[]⟩] 27)).alloc (.cells #[.int .i64 n, .int .i64 0, .slice none 0 0, .slice none 0 0, .string ⟨#[]⟩] 27) = w3 at *
  have l6 : b6 < w3.heap.size := (Array.getElem?_eq_some_iff.1 HO.out).1
  have l7 : (b6 + 1) < w3.heap.size := (Array.getElem?_eq_some_iff.1 HC.out).1
  have n67 : b6 ≠ (b6 + 1) := by omega
  have g6 : w.heap.size ≤ b6 := by omega
  have g7 : w.heap.size ≤ (b6 + 1) := by omega
  have lv : w.heap.size ≠ (b6 + 1) := by omega
  clear hb6
  refine (HS.out _ ((HB0.out.cell (p := ⟨0, 0, none⟩) (show 0 < w.heap.size by omega)).trans hm)).mono ?_
  rintro e w4 ⟨rfl, rfl⟩
  have hb4 := below1 w3 (.cells (strV ws).toArray 9)
  have HB4 := Lib.hid (HB0.out.trans (hb4.mono HB0.out.size))
  have HX : Hid ((w3.alloc (.cells (strV ws).toArray 9)).heap[w3.heap.size]? = some (.cells (strV ws).toArray 9 (0, 0))) := heap_alloc_new w3 _
  have hv4 : (w3.alloc (.cells (strV ws).toArray 9)).heap[w.heap.size]? = _ := (hb4.block _ (by omega)).trans HV.out
  have ho4 : (w3.alloc (.cells (strV ws).toArray 9)).heap[b6]? = _ := (hb4.block _ l6).trans HO.out
  have hc4 : (w3.alloc (.cells (strV ws).toArray 9)).heap[(b6 + 1)]? = _ := (hb4.block _ l7).trans HC.out
  have hsz4 : (w3.alloc (.cells (strV ws).toArray 9)).heap.size = w3.heap.size + 1 := by simp
  have HR4 := Lib.hid (HR.out.below HB4.out)
  generalize hb8 : w3.heap.size = b8 at *
  generalize w3.alloc (.cells (strV ws).toArray 9) = w4 at *
  have HV4 := Lib.hid hv4
  have HO4 := Lib.hid ho4
  have HC4 := Lib.hid hc4
  have hvc : w4.cell? ⟨w.heap.size, 3, none⟩ = some (.slice ao ks.length cp) := by simp [World.cell?, hv4]
  clear hb4 hv4 ho4 hc4 HB0 HV HO HC HS hb8
  have hcell : ∀ j x, ws[j]? = some x → w4.cell? ⟨b8, 0 + j, none⟩ = some (.string x) := fun j x hx => by
    have := HX.out
    simp only [World.cell?, this, Nat.zero_add]
    have h2 : (strV ws)[j]? = some (.string x) := by unfold strV; rw [List.getElem?_map, hx]; rfl
    simpa using h2
  have HCell := Lib.hid hcell
  have HK := Lib.hid (Tryd.slices_Contains_string b8 0 ws.length ws.length ws ⟨#[]⟩ w4 (Nat.le_refl _) (by omega) (fun j hj => by
    have : ws[j]? = some (ws.getD j ByteArray.empty) := by rw [List.getD_eq_getElem?_getD, List.getElem?_eq_getElem hj]; rfl
    exact hcell j _ this))
  rw [List.take_length] at HK
  clear hcell
  change Hid (Calls Tryd.prog _ _ _ (fun e w' => e = Ending.returned (.bool (Lib.containsS ws emptyB)) ∧ w' = w4)) at HK
  by_cases hlen : ws.length = ks.length
  · have hn : ((ws.length : Int) != (ks.length : Int)) = false := by rw [hlen]; simp
    have HLen := Lib.hid hlen
    clear hlen
    cases hcs : Lib.containsS ws emptyB with
    | true =>
      rw [hcs] at HK
      have HRn : Hid (R = none) := by unfold Hid; rw [HRes.out, if_neg (by rw [hcs]; simp)]
      clear hcs
      go_wp2_with fail
      refine (HK.out).mono ?_
      rintro e w5 ⟨rfl, rfl⟩
      go_wp2
      exact ⟨rfl, HB4.out, .inr ⟨HRn.out, rfl⟩⟩
    | false =>
      rw [hcs] at HK
      have HRn : Hid (R = readW ⟨n, 0, [], [], emptyB⟩ ks ws) := by unfold Hid; rw [HRes.out, if_pos ⟨HLen.out, hcs⟩]
      clear hcs
      go_wp2_with fail
      refine (HK.out).mono ?_
      rintro e w5 ⟨rfl, rfl⟩
      go_wp2_with fail
      go_loopw [9, 10, 41] (fun _ _ i wr => ∃ (j : Nat) (c : Cmd), i = .int .i64 j ∧ j ≤ ks.length ∧ Hid (readW ⟨n, 0, [], [], emptyB⟩ (ks.take j) (ws.take j) = some c) ∧ Hid (∃ vn vk, CmIn wr w5.heap.size (b6 + 1) c vn vk) ∧ Hid (KB w5.heap.size (b6 + 1) w5 wr)) (fun _ _ i _ => ks.length - (intOf i).toNat)
      case atStart => exact ⟨0, _, rfl, by omega, rfl, ⟨_, _, HC4.out, World.ownsRow_nil _ _ _ _, World.ownsRow_nil _ _ _ _⟩, KB.refl _ _ _⟩
      case round =>
        obtain ⟨j, c, rfl, hj, HRd, HCm, HKB⟩ := hrel
        have hw5 : w.heap.size ≤ w5.heap.size := HB4.out.size
        have hwr : w5.heap.size ≤ wr.heap.size := HKB.out.size
        have HBw : Hid (Below w.heap.size w wr) := HB4.out.trans (HKB.out.below hw5 g7)
        by_cases hlt : j < ks.length
        · obtain ⟨k, hkj⟩ : ∃ k, ks[j]? = some k := ⟨_, List.getElem?_eq_getElem hlt⟩
          have hjw : j < ws.length := by have := HLen.out; omega
          obtain ⟨x, hx⟩ : ∃ x, ws[j]? = some x := ⟨_, List.getElem?_eq_getElem hjw⟩
          obtain ⟨b2, o2, c2, e1, l2, k2, x0, x1⟩ := HR.out.at hkj
          simp only [Value.slice.injEq] at e1
          obtain ⟨rfl, -, rfl⟩ := e1
          have X0 := (HBw.out.cell (p := ⟨b2, _, none⟩) l2).trans x0
          have hxw : wr.cell? ⟨b8, j, none⟩ = some (.string x) := (World.cell?_of_block (a := ⟨b8, j, none⟩) (HKB.out.block b8 (by omega) (by omega))).trans (by have := HCell.out j x hx; rwa [Nat.zero_add] at this)
          have hsx := HWs.out x (List.mem_of_getElem? hx)
          have hlen := readW_len HRd.out
          have hns : c.ns.length ≤ 1000 := by have := hlen.1; simp at this; omega
          have hks : c.ks.length ≤ 1000 := by have := hlen.2; simp at this; omega
          have HSt := Lib.hid (readW_snoc HRd.out hkj hx)
          have hk3 := hk2 k (List.mem_of_getElem? hkj)
          obtain ⟨vn, vk, hcm⟩ := HCm.out
          have hne : (b6 + 1) ≠ wr.heap.size := by have := hcm.lt; omega
          obtain ⟨fn, hpt, heg, hcl⟩ : ∃ fn : Nat, ptFn k = .func (.func fn) #[] #[] ∧ (∀ args w, (callFunc fn args).run Tryd.prog w = .ok (.enter fn args) w) ∧
              ∀ u, Calls Tryd.prog fn #[.pointer (some ⟨b6 + 1, 0, none⟩), .string x] (wr.alloc u).drew (ClRet (wr.alloc u).drew w5.heap.size (b6 + 1) (stepW c k x)) := by
            have hcm2 : ∀ u, CmIn (wr.alloc u).drew w5.heap.size (b6 + 1) c vn vk := fun u => hcm.kept ((below1 wr u).drew)
            have hB2 : ∀ u, w5.heap.size ≤ (wr.alloc u).drew.heap.size := fun u => Nat.le_trans hwr ((below1 wr u).drew).size
            have hg2 : ∀ u, Gb (wr.alloc u).drew := fun u => HG.out.below (B := w.heap.size) h8 (HBw.out.trans (((below1 wr u).drew).mono (Nat.le_trans hw5 hwr)))
            match k, hk3 with
            | 0, _ => exact ⟨_, rfl, enters_of Tryd.func58 (by kernel_rfl) rfl, fun u => cmHow1_any _ _ _ c vn vk x (hcm2 u) (hB2 u)⟩
            | 1, _ =>
              refine ⟨_, rfl, enters_of Tryd.func57 (by kernel_rfl) rfl, fun u => (cmName1_any _ _ _ c vn vk x (hcm2 u) hns (hB2 u)).mono ?_⟩
              rintro e w6 ⟨rfl, ⟨vn', vk', h1⟩, h2⟩
              exact ⟨h2, .inl ⟨_, rfl, rfl, vn', vk', h1⟩⟩
            | 2, _ => exact ⟨_, rfl, enters_of Tryd.func60 (by kernel_rfl) rfl, fun u => cmNumber1_any _ _ _ c vn vk x (hcm2 u) (hB2 u) (by omega) (hg2 u) hsx hks⟩
          have HCl := Lib.hid hcl
          clear x0 hkj hx hlen hcm hns hks hsx hcl
          have X1 := ((HBw.out.cell (p := ⟨b2, _, none⟩) l2).trans x1).trans (congrArg some hpt)
          clear hpt x1
          go_wp2
          have z1 : (wr.alloc (.cells #[.int .i64 k, .func (.func fn) #[] #[]] 75)).cell? ⟨wr.heap.size, 1, none⟩ = some (.func (.func fn) #[] #[]) := by rw [World.cell?_alloc_at _ _ _ _ rfl]; rfl
          have z2 : (wr.alloc (.cells #[.int .i64 k, .func (.func fn) #[] #[]] 75)).cell? ⟨b8, j, none⟩ = some (.string x) := (World.cell?_of_block (a := ⟨b8, j, none⟩) (Below.heap_alloc wr _ b8 (by omega))).trans hxw
          have HZ : Hid (KB w5.heap.size (b6 + 1) wr (wr.alloc (.cells #[.int .i64 k, .func (.func fn) #[] #[]] 75)).drew) := KB.of_below (((below1 wr _).drew).mono hwr)
          have HCz := Lib.hid (HCl.out (.cells #[.int .i64 k, .func (.func fn) #[] #[]] 75))
          clear HCl X0 X1 hxw
          generalize wr.alloc (.cells #[.int .i64 k, .func (.func fn) #[] #[]] 75) = wz at *
          go_still_tail 6, (by kernel_rfl)
          change wpList _ _ _ _ _ wz.drew
          go_wp2_with fail
          refine (HCz.out).mono ?_
          rintro e w6 ⟨hkb, hres⟩
          have hb6 : KB w5.heap.size (b6 + 1) w5 w6 := HKB.out.trans (HZ.out.trans hkb)
          have HKB6 := Lib.hid hb6
          clear hkb hb6
          rcases hres with ⟨c', hc', rfl, hcm⟩ | ⟨hn', rfl⟩
          · have HSt2 := Lib.hid (HSt.out.trans hc')
            have HCm2 := Lib.hid hcm
            clear hc' hcm
            go_wp2_with fail
            go_roundw
            case rel => exact ⟨j + 1, c', by go_num, by omega, HSt2.out, HCm2.out, HKB6.out⟩
            case measure => simp [intOf]; omega
          · have HRs : Hid (R = none) := HRn.out.trans (readW_fail (HSt.out.trans hn'))
            clear hn'
            go_wp2
            exact ⟨rfl, HB4.out.trans (HKB6.out.below hw5 g7), .inr ⟨HRs.out, rfl⟩⟩
        · have hjl : j = ks.length := by omega
          subst hjl
          have HC5 := HRd.out
          rw [List.take_of_length_le (Nat.le_refl _), List.take_of_length_le (by have := HLen.out; omega)] at HC5
          have HRs : Hid (R = some c) := HRn.out.trans HC5
          obtain ⟨vn, vk, hcm⟩ := HCm.out
          have HCm2 := Lib.hid hcm
          have ho5 : wr.heap[b6]? = _ := (HKB.out.block b6 (by omega) n67).trans HO4.out
          have HO5 := Lib.hid ho5
          obtain ⟨q0, q1, q2, q3, q4, -⟩ := hcm.cells
          have r0 : wr.cell? ⟨b6, 0, none⟩ = some (.int .i64 0) := by simp [World.cell?, ho5]
          have r1 : wr.cell? ⟨b6, 1, none⟩ = some (.int .i64 0) := by simp [World.cell?, ho5]
          have r2 : wr.cell? ⟨b6, 2, none⟩ = some (.slice none 0 0) := by simp [World.cell?, ho5]
          have r3 : wr.cell? ⟨b6, 3, none⟩ = some (.slice none 0 0) := by simp [World.cell?, ho5]
          have r4 : wr.cell? ⟨b6, 4, none⟩ = some (.string ⟨#[]⟩) := by simp [World.cell?, ho5]
          have f0 : ∀ i, wr.frozen? ⟨b6, i, none⟩ = false := fun i => by simp [World.frozen?, ho5]
          have f1 := f0 0; have f2 := f0 1; have f3 := f0 2; have f4 := f0 3; have f5 := f0 4
          obtain ⟨an, cn, rfl⟩ : ∃ ao cp, vn = .slice ao c.ns.length cp := by obtain ⟨_, ao, cp, rfl, -⟩ := Rd.of_owns hcm.names; exact ⟨ao, cp, rfl⟩
          obtain ⟨ak, ck, rfl⟩ : ∃ ao cp, vk = .slice ao c.ks.length cp := by obtain ⟨_, ao, cp, rfl, -⟩ := Rd.of_owns hcm.nums; exact ⟨ao, cp, rfl⟩
          clear hcm ho5 f0 HC5
          go_wp2
          refine bodyPost_ret (results_cell_row rfl _ _ b6 27 _ (0, 0) _ rfl (heap_set5 HO5.out _ _ _ _ _) Tryd.underlying27 rfl (by kernel_rfl)) rfl ?_
          refine ⟨below_set5 HBw.out g6 _ _ _ _ _, .inl ⟨c, _, HRs.out, rfl, _, _, rfl, ?_, ?_⟩⟩
          · exact own_lower (ownsRow_set5 HCm2.out.names (own_ne HCm2.out.names HO5.out (by decide)) _ _ _ _ _) hw5
          · exact own_lower (ownsRow_set5 HCm2.out.nums (own_ne HCm2.out.nums HO5.out (by decide)) _ _ _ _ _) hw5
  · have hn : ((ws.length : Int) != (ks.length : Int)) = true := by rw [bne_iff_ne]; omega
    have HRn : Hid (R = none) := by unfold Hid; rw [HRes.out, if_neg (fun h => hlen h.1)]
    clear hlen HK
    go_wp2
    exact ⟨rfl, HB4.out, .inr ⟨HRn.out, rfl⟩⟩
end Go.Proofs.YtikkfbkpgejneaaDoor
namespace Go.Proofs.YtikkfbkpgejneaaDoor
open Go.RowKit Go.Shelf

set_option maxRecDepth 100000 in
set_option maxHeartbeats 800000 in
theorem catch_idle (a b : Addr) (w : World) :
    CallsD Tryd.prog 22 #[.pointer (some a), .pointer (some b)] .returning w fun e u' w' => e = .returned (.tuple #[]) ∧ u' = .returning ∧ w' = w := by
  refine callsD_of_wpS Tryd.func22 rfl fun c₀ cs hu => ?_
  apply wpS_seq
  apply wpS_region
  simp [wpOpsS, go_sem, recoverD, hu, Tryd.ntmps22, Exit.thenS]
  refine wpS_of_wp ?_
  simp only [Array.replicate_succ, Array.replicate_zero, List.push_toArray, List.append_toArray, List.nil_append, List.cons_append, List.setIfInBounds_toArray, List.set_cons_succ, List.set_cons_zero]
  go_wp2
  cases c₀
  simp_all [bodyPostS, results, Tryd.results22]
/-- a command's box -/
def CBox (w : World) (b : Nat) (cs : List Value) : Prop := cs.length = 5 ∧ w.heap[b]? = some (.cells cs.toArray 27 (0, 0))
def zeroC : List Value := [.int .i64 0, .int .i64 0, .slice none 0 0, .slice none 0 0, .string ⟨#[]⟩]
set_option maxRecDepth 100000 in
set_option maxHeartbeats 1600000 in
theorem catch_panic (b2 b3 : Nat) (older : List PanicEntry) (w : World) (cs : List Value) (v3 : Value) (h2 : CBox w b2 cs) (h3 : Boxed w b3 28 v3) (n23 : b2 ≠ b3) :
    CallsD Tryd.prog 22 #[.pointer (some ⟨b2, 0, none⟩), .pointer (some ⟨b3, 0, none⟩)] (.panicking ({ v := .iface 55 (.agg #[]), recovered := false } :: older)) w fun e u' w' =>
      e = .returned (.tuple #[]) ∧ u' = .panicking ({ v := .iface 55 (.agg #[]), recovered := true } :: older) ∧
        (CBox w' b2 zeroC ∧ Boxed w' b3 28 (.int .i64 401) ∧ ∀ B w0, Below B w0 w → B ≤ b2 → B ≤ b3 → B ≤ w.heap.size → Below B w0 w') := by
  have hta : ∀ w, (Instr.typeAssert (.iface 55 (.agg #[])) 20 55 true).run Tryd.prog w = .ok (.tuple #[.agg #[], .bool true]) w := fun _ => by kernel_rfl
  obtain ⟨hl, h2⟩ := h2
  match cs, hl with
  | [y0, y1, y2, y3, y4], _ =>
  have c0 : w.cell? ⟨b2, 0, none⟩ = some y0 := by simp [World.cell?, h2]
  have c1 : w.cell? ⟨b2, 1, none⟩ = some y1 := by simp [World.cell?, h2]
  have c2 : w.cell? ⟨b2, 2, none⟩ = some y2 := by simp [World.cell?, h2]
  have c3 : w.cell? ⟨b2, 3, none⟩ = some y3 := by simp [World.cell?, h2]
  have c4 : w.cell? ⟨b2, 4, none⟩ = some y4 := by simp [World.cell?, h2]
  have f0 : w.frozen? ⟨b2, 0, none⟩ = false := by simp [World.frozen?, h2]
  have f1 : w.frozen? ⟨b2, 1, none⟩ = false := by simp [World.frozen?, h2]
  have f2 : w.frozen? ⟨b2, 2, none⟩ = false := by simp [World.frozen?, h2]
  have f3 : w.frozen? ⟨b2, 3, none⟩ = false := by simp [World.frozen?, h2]
  have f4 : w.frozen? ⟨b2, 4, none⟩ = false := by simp [World.frozen?, h2]
  have d0 := h3.cell
  have d1 := h3.frozen
  have l2 : b2 < w.heap.size := (Array.getElem?_eq_some_iff.1 h2).1
  have l3 := h3.lt
  refine callsD_of_wpS Tryd.func22 rfl fun c₀ cs hu => ?_
  apply wpS_seq
  apply wpS_region
  simp [wpOpsS, go_sem, recoverD, hu, Tryd.ntmps22, Exit.thenS]
  refine wpS_of_wp ?_
  simp only [Array.replicate_succ, Array.replicate_zero, List.push_toArray, List.append_toArray, List.nil_append, List.cons_append, List.setIfInBounds_toArray, List.set_cons_succ, List.set_cons_zero]
  go_wp2
  refine ⟨rfl, _, rfl, _, by simp [results, Tryd.results22], rfl, rfl, ?_⟩
  have k2 := heap_set5 h2 (.int .i64 0) (.int .i64 0) (.slice none 0 0) (.slice none 0 0) (.string ⟨#[]⟩)
  have hsz : (((((w.setCell ⟨b2, 0, none⟩ (.int .i64 0)).setCell ⟨b2, 1, none⟩ (.int .i64 0)).setCell ⟨b2, 2, none⟩ (.slice none 0 0)).setCell ⟨b2, 3, none⟩ (.slice none 0 0)).setCell ⟨b2, 4, none⟩ (.string ⟨#[]⟩)).heap.size = w.heap.size := by simp [World.setCell]
  have k3 : (((((w.setCell ⟨b2, 0, none⟩ (.int .i64 0)).setCell ⟨b2, 1, none⟩ (.int .i64 0)).setCell ⟨b2, 2, none⟩ (.slice none 0 0)).setCell ⟨b2, 3, none⟩ (.slice none 0 0)).setCell ⟨b2, 4, none⟩ (.string ⟨#[]⟩)).heap[b3]? = some (.cells #[v3] 28 (0, 0)) := by
    rw [Below.heap_setCell _ _ _ _ (Ne.symm n23), Below.heap_setCell _ _ _ _ (Ne.symm n23), Below.heap_setCell _ _ _ _ (Ne.symm n23), Below.heap_setCell _ _ _ _ (Ne.symm n23), Below.heap_setCell _ _ _ _ (Ne.symm n23)]
    exact h3
  have hB : ∀ (B : Nat) (w0 : World), Below B w0 w → B ≤ b2 → Below B w0 (((((w.setCell ⟨b2, 0, none⟩ (.int .i64 0)).setCell ⟨b2, 1, none⟩ (.int .i64 0)).setCell ⟨b2, 2, none⟩ (.slice none 0 0)).setCell ⟨b2, 3, none⟩ (.slice none 0 0)).setCell ⟨b2, 4, none⟩ (.string ⟨#[]⟩)) := fun B w0 h hb => below_set5 h hb _ _ _ _ _
  generalize ((((w.setCell ⟨b2, 0, none⟩ (.int .i64 0)).setCell ⟨b2, 1, none⟩ (.int .i64 0)).setCell ⟨b2, 2, none⟩ (.slice none 0 0)).setCell ⟨b2, 3, none⟩ (.slice none 0 0)).setCell ⟨b2, 4, none⟩ (.string ⟨#[]⟩) = w5 at *
  have j2 : (w5.setCell ⟨b3, 0, none⟩ (.int .i64 401)).heap[b2]? = _ := (Below.heap_setCell _ _ _ _ n23).trans k2
  have j3 : (w5.setCell ⟨b3, 0, none⟩ (.int .i64 401)).heap[b3]? = _ := heap_setCell_same _ b3 0 _ _ (.int .i64 401) k3
  have hs6 : (w5.setCell ⟨b3, 0, none⟩ (.int .i64 401)).heap.size = w.heap.size := by simpa [World.setCell] using hsz
  refine ⟨⟨rfl, (Below.heap_alloc _ _ _ (by omega)).trans j2⟩, (Below.heap_alloc _ _ _ (by omega)).trans j3, fun B w0 h e2 e3 e4 => ?_⟩
  exact ((hB B w0 h e2).setCell (p := ⟨b3, 0, none⟩) e3 _).alloc (by omega) _
/-- what Parse answers -/
def PRet (w : World) (x : Cmd × Int) : Ending → World → Prop := fun e w' => Below w.heap.size w w' ∧ ∃ v, e = .returned (.tuple #[v, .int .i64 x.2]) ∧ CmV w' w.heap.size x.1 v
theorem parse_results (tmps : Array Value) (b2 b3 : Nat) (cs : List Value) (x : Int) (w : World) (h2 : tmps[2]? = some (.pointer (some ⟨b2, 0, none⟩))) (h3 : tmps[3]? = some (.pointer (some ⟨b3, 0, none⟩)))
    (k2 : CBox w b2 cs) (k3 : Boxed w b3 28 (.int .i64 x)) : (results Tryd.f10 tmps).run Tryd.prog w = .ok (.tuple #[.agg cs.toArray, .int .i64 x]) w := by
  obtain ⟨hl, k2⟩ := k2
  match cs, hl with
  | [y0, y1, y2, y3, y4], _ =>
  have q0 : w.cell? ⟨b2, 0, none⟩ = some y0 := by simp [World.cell?, k2]
  have q1 : w.cell? ⟨b2, 1, none⟩ = some y1 := by simp [World.cell?, k2]
  have q2 : w.cell? ⟨b2, 2, none⟩ = some y2 := by simp [World.cell?, k2]
  have q3 : w.cell? ⟨b2, 3, none⟩ = some y3 := by simp [World.cell?, k2]
  have q4 : w.cell? ⟨b2, 4, none⟩ = some y4 := by simp [World.cell?, k2]
  have c3 := k3.cell
  simp [results, Tryd.results10, go_sem, h2, h3, c3, q0, q1, q2, q3, q4]
def rcv (b2 b3 : Nat) : List Deferred := [{ target := .fn (.func 22) #[.pointer (some ⟨b2, 0, none⟩), .pointer (some ⟨b3, 0, none⟩)], args := #[] }]
theorem door_panic {w w7 : World} {tmps : Array Value} {b2 b3 : Nat} {cs : List Value} {v3 : Value} (h2 : tmps[2]? = some (.pointer (some ⟨b2, 0, none⟩))) (h3 : tmps[3]? = some (.pointer (some ⟨b3, 0, none⟩)))
    (k2 : CBox w7 b2 cs) (k3 : Boxed w7 b3 28 v3) (n23 : b2 ≠ b3) (hb : Below w.heap.size w w7) (e2 : w.heap.size ≤ b2) (e3 : w.heap.size ≤ b3) :
    bodyPostD Tryd.prog Tryd.f10 (PRet w (cmd0, 401)) (.panic wrongP) { tmps := tmps, defers := rcv b2 b3 } w7 := by
  refine leaves_cons (f := 22) (args := #[.pointer (some ⟨b2, 0, none⟩), .pointer (some ⟨b3, 0, none⟩)]) (by simp [wrongP]) (by simp [go_sem]) ?_
  refine (catch_panic b2 b3 [] w7 cs v3 k2 k3 n23).mono ?_
  rintro e u' w8 ⟨rfl, rfl, c2, c3, hw⟩
  exact ⟨_, parse_results _ _ _ _ _ _ h2 h3 c2 c3, hw _ _ hb e2 e3 hb.size, _, rfl, _, _, rfl, World.ownsRow_nil _ _ _ _, World.ownsRow_nil _ _ _ _⟩
theorem door_ret {w w7 : World} {tmps : Array Value} {b2 b3 : Nat} {c : Cmd} {vn vk : Value} (h2 : tmps[2]? = some (.pointer (some ⟨b2, 0, none⟩))) (h3 : tmps[3]? = some (.pointer (some ⟨b3, 0, none⟩)))
    (k2 : CBox w7 b2 [.int .i64 c.v, .int .i64 c.h, vn, vk, .string c.t]) (k3 : Boxed w7 b3 28 (.int .i64 0)) (hb : Below w.heap.size w w7) (h : CmV w7 w.heap.size c (.agg #[.int .i64 c.v, .int .i64 c.h, vn, vk, .string c.t])) :
    bodyPostD Tryd.prog Tryd.f10 (PRet w (c, 0)) .ret { tmps := tmps, defers := rcv b2 b3 } w7 := by
  refine leaves_cons (f := 22) (args := #[.pointer (some ⟨b2, 0, none⟩), .pointer (some ⟨b3, 0, none⟩)]) (by simp) (by simp [go_sem]) ?_
  refine (catch_idle _ _ w7).mono ?_
  rintro e u' w8 ⟨rfl, rfl, rfl⟩
  exact ⟨_, parse_results _ _ _ _ _ _ h2 h3 k2 k3, hb, _, rfl, h⟩
end Go.Proofs.YtikkfbkpgejneaaDoor
namespace Go.Proofs.YtikkfbkpgejneaaDoor
open Go.RowKit Go.Shelf

theorem VT_k {v : Vb} (h : v ∈ VT) : v.k.length ≤ 10 ∧ ∀ k ∈ v.k, k ≤ 2 := by
  have : ∀ v ∈ VT, v.k.length ≤ 10 ∧ ∀ k ∈ v.k, k ≤ 2 := by
    intro v h
    simp only [VT, List.mem_cons, List.not_mem_nil, or_false] at h
    rcases h with rfl | rfl | rfl | rfl | rfl | rfl | rfl | rfl | rfl | rfl <;> exact ⟨by decide, by decide⟩
  exact this v h
theorem vbOf_mem {s : ByteArray} {v : Vb} (h : vbOf s = some v) : v ∈ VT ∧ v.s = s := ⟨List.mem_of_find?_eq_some h, by simpa using List.find?_some h⟩
theorem read_any (v : Vb) (hv : v ∈ VT) (ao : Option Addr) (cp : Nat) (rest : ByteArray) (more : Bool) (w : World) (hr : RdPt w (.slice ao v.k.length cp) v.k) (hs : rest.size ≤ 4096) (hg : Gb w) :
    Calls Tryd.prog 23 #[.agg #[.int .i64 v.n, .string v.s, .bool v.t, .slice ao v.k.length cp], .string rest, .bool more] w (ReadRet w (bodyC v rest more)) := by
  obtain ⟨n, s, t, k⟩ := v
  obtain ⟨h1, h2⟩ := VT_k hv
  unfold bodyC
  cases t with
  | true => rw [if_pos rfl]; exact read_text n s _ rest more w
  | false =>
    rw [if_neg (by simp)]
    cases more with
    | false =>
      have e : (if (wordsOf rest false).length = k.length ∧ Lib.containsS (wordsOf rest false) emptyB = false then readW ⟨n, 0, [], [], emptyB⟩ k (wordsOf rest false) else none) = if k.length = 0 then some ⟨n, 0, [], [], emptyB⟩ else none := by
        have e0 : wordsOf rest false = [] := rfl
        rw [e0]
        cases k with
        | nil => rfl
        | cons a k => rw [if_neg (by simp), if_neg (by simp)]
      simp only
      rw [e]
      exact read_bare n s k ao cp rest w
    | true => exact read_words n s k ao cp rest w h1 h2 hr hs hg
theorem store_both {w : World} {b2 b3 : Nat} {cs : List Value} {v3 : Value} (h2 : CBox w b2 cs) (h3 : Boxed w b3 28 v3) (n23 : b2 ≠ b3) (u0 u1 u2 u3 u4 : Value) (x : Int) :
    CBox ((((((w.setCell ⟨b2, 0, none⟩ u0).setCell ⟨b2, 1, none⟩ u1).setCell ⟨b2, 2, none⟩ u2).setCell ⟨b2, 3, none⟩ u3).setCell ⟨b2, 4, none⟩ u4).setCell ⟨b3, 0, none⟩ (.int .i64 x)) b2 [u0, u1, u2, u3, u4] ∧
    Boxed ((((((w.setCell ⟨b2, 0, none⟩ u0).setCell ⟨b2, 1, none⟩ u1).setCell ⟨b2, 2, none⟩ u2).setCell ⟨b2, 3, none⟩ u3).setCell ⟨b2, 4, none⟩ u4).setCell ⟨b3, 0, none⟩ (.int .i64 x)) b3 28 (.int .i64 x) ∧
    (∀ B w0, Below B w0 w → B ≤ b2 → B ≤ b3 → Below B w0 ((((((w.setCell ⟨b2, 0, none⟩ u0).setCell ⟨b2, 1, none⟩ u1).setCell ⟨b2, 2, none⟩ u2).setCell ⟨b2, 3, none⟩ u3).setCell ⟨b2, 4, none⟩ u4).setCell ⟨b3, 0, none⟩ (.int .i64 x))) ∧
    (∀ B e n v xs, w.ownsRow B e 1 v n xs → e ≠ 27 → e ≠ 28 → ((((((w.setCell ⟨b2, 0, none⟩ u0).setCell ⟨b2, 1, none⟩ u1).setCell ⟨b2, 2, none⟩ u2).setCell ⟨b2, 3, none⟩ u3).setCell ⟨b2, 4, none⟩ u4).setCell ⟨b3, 0, none⟩ (.int .i64 x)).ownsRow B e 1 v n xs) := by
  obtain ⟨hl, h2⟩ := h2
  match cs, hl with
  | [y0, y1, y2, y3, y4], _ =>
  have k2 := heap_set5 h2 u0 u1 u2 u3 u4
  have k3 : (((((w.setCell ⟨b2, 0, none⟩ u0).setCell ⟨b2, 1, none⟩ u1).setCell ⟨b2, 2, none⟩ u2).setCell ⟨b2, 3, none⟩ u3).setCell ⟨b2, 4, none⟩ u4).heap[b3]? = some (.cells #[v3] 28 (0, 0)) := by
    rw [Below.heap_setCell _ _ _ _ (Ne.symm n23), Below.heap_setCell _ _ _ _ (Ne.symm n23), Below.heap_setCell _ _ _ _ (Ne.symm n23), Below.heap_setCell _ _ _ _ (Ne.symm n23), Below.heap_setCell _ _ _ _ (Ne.symm n23)]
    exact h3
  refine ⟨⟨rfl, (Below.heap_setCell _ _ _ _ n23).trans k2⟩, heap_setCell_same _ b3 0 _ _ _ k3, fun B w0 hb e2 e3 => (below_set5 hb e2 u0 u1 u2 u3 u4).setCell (p := ⟨b3, 0, none⟩) e3 _, fun B e n v xs ho n1 n2 => ?_⟩
  have ho2 := ownsRow_set5 ho (own_ne ho h2 (Ne.symm n1)) u0 u1 u2 u3 u4
  exact ownsRow_set ho2 (own_ne ho2 k3 (Ne.symm n2))
set_option maxRecDepth 100000 in
set_option maxHeartbeats 1600000 in
theorem parse_any (s : ByteArray) (w : World) (hg : Gb w) : Calls Tryd.prog 10 #[.string s] w (PRet w (parseC s)) := by
  have hmf : ∀ (fn : Fn) (first cap : Array Value) (w : World), (Instr.makeFunc fn first cap).run Tryd.prog w = .ok (.func fn first cap) w := fun _ _ _ _ => rfl
  by_cases hs : 2064 < s.size
  · have HP : Hid (parseC s = (cmd0, 3)) := by unfold Hid parseC; rw [if_pos hs]
    rw [HP.out]
    go_enter_defers Tryd.func10, Tryd.ntmps10
    go_wp2
    refine ⟨_, parse_results _ w.heap.size (w.heap.size + 1) zeroC 3 _ (by simp) (by simp) ⟨rfl, ?_⟩ ?_, below2 w _ _, _, rfl, _, _, rfl, World.ownsRow_nil _ _ _ _, World.ownsRow_nil _ _ _ _⟩
    · exact (Below.heap_alloc _ _ _ (by simp)).trans (heap_alloc_new w _)
    · exact (by simpa using Boxed.new (w.alloc _) 28 (.int .i64 3))
  · obtain ⟨m, hm⟩ := hg.mx
    have h8 := hg.sz
    obtain ⟨x, r, more, hcut, hrs⟩ : ∃ x r more, Lib.cut s.data.toList [32] = (x, r, more) ∧ (mkB r).size ≤ 4096 := by
      have e : s.data.toList.length = s.size := by rw [Array.length_toList]; rfl
      rcases cut_sp s.data.toList with ⟨-, h⟩ | ⟨x, r, h1, -, h⟩
      · exact ⟨_, _, _, h, by simp [mkB_size]⟩
      · refine ⟨_, _, _, h, ?_⟩
        rw [mkB_size]
        have := congrArg List.length h1
        simp at this; omega
    have HP : Hid (parseC s = match vbOf (mkB x) with | none => (cmd0, 400) | some v => match bodyC v (mkB r) more with | none => (cmd0, 401) | some c => (c, 0)) := by
      unfold Hid parseC; rw [if_neg hs, hcut]; all_goals rfl
    have HC : Hid (∀ w1, w1.cell? ⟨0, 0, none⟩ = some (.int .i64 m) → Calls Tryd.prog 20 #[.string s, .string ⟨#[32]⟩] w1 fun e w' => e = .returned (.tuple #[.string (mkB x), .string (mkB r), .bool more]) ∧ ∃ n, w' = w1.drewN n) := fun w1 h1 => by
      have := Tryd.strings_Cut s sp m w1 (by omega) h1
      rw [show sp.data.toList = [32] from rfl, hcut] at this
      exact this
    clear hcut
    generalize mkB x = xb at *
    generalize mkB r = rb at *
    have HF := Lib.hid (fun w => find_any xb w)
    have hb0 := below2 w (.cells zeroC.toArray 27) (.cells #[.int .i64 0] 28)
    have hk2 : CBox ((w.alloc (.cells zeroC.toArray 27)).alloc (.cells #[.int .i64 0] 28)) w.heap.size zeroC := ⟨rfl, (Below.heap_alloc _ _ _ (by simp)).trans (heap_alloc_new w _)⟩
    have hk3 : Boxed ((w.alloc (.cells zeroC.toArray 27)).alloc (.cells #[.int .i64 0] 28)) (w.heap.size + 1) 28 (.int .i64 0) := by simpa using Boxed.new (w.alloc (.cells zeroC.toArray 27)) 28 (.int .i64 0)
    have HB0 := Lib.hid hb0
    have HK2 := Lib.hid hk2
    have HK3 := Lib.hid hk3
    have HG := Lib.hid hg
    clear hb0 hk2 hk3 hg
    go_enter_defers Tryd.func10, Tryd.ntmps10
    go_wp2_with fail
    change Calls _ _ _ ((w.alloc (.cells zeroC.toArray 27)).alloc (.cells #[.int .i64 0] 28)) _
    generalize (w.alloc (.cells zeroC.toArray 27)).alloc (.cells #[.int .i64 0] 28) = w1 at *
    refine (HC.out _ ((HB0.out.cell (p := ⟨0, 0, none⟩) (show 0 < w.heap.size by omega)).trans hm)).mono ?_
    rintro e w2 ⟨rfl, q, rfl⟩
    have hb1 : Below w1.heap.size w1 (w1.drewN q) := below_drewN (Below.refl _ _) q
    have HB1 := Lib.hid (HB0.out.trans (hb1.mono HB0.out.size))
    have HK2a : Hid (CBox (w1.drewN q) w.heap.size zeroC) := HK2.out
    have HK3a : Hid (Boxed (w1.drewN q) (w.heap.size + 1) 28 (.int .i64 0)) := HK3.out
    clear hb1 HB0 HK2 HK3 HC
    generalize w1.drewN q = w2 at *
    go_wp2_with fail
    refine (HF.out _).mono ?_
    rintro e w3 ⟨hb3, hres⟩
    have hl2 : w.heap.size < w2.heap.size := (Array.getElem?_eq_some_iff.1 HK2a.out.2).1
    have hl3 := HK3a.out.lt
    have HB3 := Lib.hid (HB1.out.trans (hb3.mono HB1.out.size))
    have HK2b : Hid (CBox w3 w.heap.size zeroC) := ⟨rfl, (hb3.block _ hl2).trans HK2a.out.2⟩
    have HK3b : Hid (Boxed w3 (w.heap.size + 1) 28 (.int .i64 0)) := (hb3.block _ hl3).trans HK3a.out
    have hl4 : w.heap.size + 1 < w3.heap.size := Nat.lt_of_lt_of_le hl3 hb3.size
    have hl5 : w.heap.size < w3.heap.size := Nat.lt_of_lt_of_le hl2 hb3.size
    clear hb3 HK2a HK3a HB1 hl2 hl3 HF
    rcases hres with ⟨hn, rfl⟩ | ⟨v, ao, cp, hv, rfl, hr⟩
    · have HPn : Hid (parseC s = (cmd0, 400)) := by unfold Hid; rw [HP.out, hn]
      clear HP hn
      have hk2 := HK2b.out.2
      have hk3 := HK3b.out
      have c0 : w3.cell? ⟨w.heap.size, 0, none⟩ = some (.int .i64 0) := by simp [World.cell?, hk2, zeroC]
      have c1 : w3.cell? ⟨w.heap.size, 1, none⟩ = some (.int .i64 0) := by simp [World.cell?, hk2, zeroC]
      have c2 : w3.cell? ⟨w.heap.size, 2, none⟩ = some (.slice none 0 0) := by simp [World.cell?, hk2, zeroC]
      have c3 : w3.cell? ⟨w.heap.size, 3, none⟩ = some (.slice none 0 0) := by simp [World.cell?, hk2, zeroC]
      have c4 : w3.cell? ⟨w.heap.size, 4, none⟩ = some (.string ⟨#[]⟩) := by simp [World.cell?, hk2, zeroC]
      have f0 : ∀ i, w3.frozen? ⟨w.heap.size, i, none⟩ = false := fun i => by simp [World.frozen?, hk2]
      have f00 := f0 0; have f01 := f0 1; have f02 := f0 2; have f03 := f0 3; have f04 := f0 4
      have d0 := hk3.cell
      have d1 := hk3.frozen
      clear hk2 hk3 f0
      go_wp2
      obtain ⟨j2, j3, jb, -⟩ := store_both HK2b.out HK3b.out (by omega) (.int .i64 0) (.int .i64 0) (.slice none 0 0) (.slice none 0 0) (.string ⟨#[]⟩) 400
      have hw : w.heap.size < (((((w3.setCell ⟨w.heap.size, 0, none⟩ (.int .i64 0)).setCell ⟨w.heap.size, 1, none⟩ (.int .i64 0)).setCell ⟨w.heap.size, 2, none⟩ (.slice none 0 0)).setCell ⟨w.heap.size, 3, none⟩ (.slice none 0 0)).setCell ⟨w.heap.size, 4, none⟩ (.string ⟨#[]⟩)).heap.size := by simpa [World.setCell] using hl5
      rw [HPn.out]
      exact ⟨_, parse_results _ w.heap.size (w.heap.size + 1) zeroC 400 _ (by simp) (by simp) ⟨rfl, (Below.heap_alloc _ _ _ (Array.getElem?_eq_some_iff.1 j2.2).1).trans j2.2⟩ (j3.alloc _), (jb _ _ HB3.out (Nat.le_refl _) (by omega)).alloc (Nat.le_of_lt (Array.getElem?_eq_some_iff.1 j2.2).1) _, _, rfl, _, _, rfl, World.ownsRow_nil _ _ _ _, World.ownsRow_nil _ _ _ _⟩
    · obtain ⟨hvm, -⟩ := vbOf_mem hv
      have HPv : Hid (parseC s = match bodyC v rb more with | none => (cmd0, 401) | some c => (c, 0)) := by unfold Hid; rw [HP.out, hv]
      have hb4 := below1 w3 (.cells #[.int .i64 v.n, .string v.s, .bool v.t, .slice ao v.k.length cp] 51)
      have HB4 := Lib.hid (HB3.out.trans (hb4.mono HB3.out.size))
      have HRd := Lib.hid (read_any v hvm ao cp rb more (w3.alloc (.cells #[.int .i64 v.n, .string v.s, .bool v.t, .slice ao v.k.length cp] 51)) (hr.below hb4) hrs (HG.out.below (B := w.heap.size) h8 HB4.out))
      have HK2c : Hid (CBox (w3.alloc (.cells #[.int .i64 v.n, .string v.s, .bool v.t, .slice ao v.k.length cp] 51)) w.heap.size zeroC) := ⟨rfl, (Below.heap_alloc _ _ _ hl5).trans HK2b.out.2⟩
      have HK3c : Hid (Boxed (w3.alloc (.cells #[.int .i64 v.n, .string v.s, .bool v.t, .slice ao v.k.length cp] 51)) (w.heap.size + 1) 28 (.int .i64 0)) := HK3b.out.alloc _
      clear hvm hv hr hb4 HP
      obtain ⟨vn, vs, vt, vk⟩ := v
      simp only at HRd HPv HB4 HK2c HK3c
      go_wp2_with fail
      generalize hw4 : w3.alloc (.cells #[.int .i64 vn, .string vs, .bool vt, .slice ao vk.length cp] 51) = w4 at *
      clear hw4
      refine (HRd.out).mono ?_
      rintro e w5 ⟨hb5, hres⟩
      have hl4' : w.heap.size < w4.heap.size := (Array.getElem?_eq_some_iff.1 HK2c.out.2).1
      have hl5' := HK3c.out.lt
      have hz : w.heap.size ≤ w4.heap.size := HB4.out.size
      have HB5 := Lib.hid (HB4.out.trans (hb5.mono hz))
      have HK2d : Hid (CBox w5 w.heap.size zeroC) := ⟨rfl, (hb5.block _ hl4').trans HK2c.out.2⟩
      have HK3d : Hid (Boxed w5 (w.heap.size + 1) 28 (.int .i64 0)) := (hb5.block _ hl5').trans HK3c.out
      clear hb5 hl4' hl5' HK2c HK3c HK2b HK3b HB4 HB3 HRd hl4 hl5
      rcases hres with ⟨c, v, hc, rfl, wn, wk, rfl, hn, hk⟩ | ⟨hn, rfl⟩
      · have HPc : Hid (parseC s = (c, 0)) := by unfold Hid; rw [HPv.out, hc]
        have HN := Lib.hid (own_lower hn hz)
        have HK := Lib.hid (own_lower hk hz)
        obtain ⟨_, an, cn, rfl, -⟩ := Rd.of_owns hn
        obtain ⟨_, ak, ck, rfl, -⟩ := Rd.of_owns hk
        clear hc hn hk HPv hz
        have hk2 := HK2d.out.2
        have hk3 := HK3d.out
        have c0 : w5.cell? ⟨w.heap.size, 0, none⟩ = some (.int .i64 0) := by simp [World.cell?, hk2, zeroC]
        have c1 : w5.cell? ⟨w.heap.size, 1, none⟩ = some (.int .i64 0) := by simp [World.cell?, hk2, zeroC]
        have c2 : w5.cell? ⟨w.heap.size, 2, none⟩ = some (.slice none 0 0) := by simp [World.cell?, hk2, zeroC]
        have c3 : w5.cell? ⟨w.heap.size, 3, none⟩ = some (.slice none 0 0) := by simp [World.cell?, hk2, zeroC]
        have c4 : w5.cell? ⟨w.heap.size, 4, none⟩ = some (.string ⟨#[]⟩) := by simp [World.cell?, hk2, zeroC]
        have f0 : ∀ i, w5.frozen? ⟨w.heap.size, i, none⟩ = false := fun i => by simp [World.frozen?, hk2]
        have f00 := f0 0; have f01 := f0 1; have f02 := f0 2; have f03 := f0 3; have f04 := f0 4
        have d0 := hk3.cell
        have d1 := hk3.frozen
        clear hk2 hk3 f0
        go_wp2
        obtain ⟨j2, j3, jb, jo⟩ := store_both HK2d.out HK3d.out (by omega) (.int .i64 c.v) (.int .i64 c.h) (.slice an c.ns.length cn) (.slice ak c.ks.length ck) (.string c.t) 0
        rw [HPc.out]
        exact door_ret (by simp) (by simp) j2 j3 (jb _ _ HB5.out (Nat.le_refl _) (by omega)) ⟨_, _, rfl, jo _ _ _ _ _ HN.out (by decide) (by decide), jo _ _ _ _ _ HK.out (by decide) (by decide)⟩
      · have HPc : Hid (parseC s = (cmd0, 401)) := by unfold Hid; rw [HPv.out, hn]
        clear hn HPv hz
        go_wp2
        rw [HPc.out]
        exact door_panic (by simp) (by simp) HK2d.out HK3d.out (by omega) HB5.out (Nat.le_refl _) (by omega)
end Go.Proofs.YtikkfbkpgejneaaDoor
