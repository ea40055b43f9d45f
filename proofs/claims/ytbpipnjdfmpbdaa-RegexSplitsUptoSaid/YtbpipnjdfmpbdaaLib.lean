import Derived.Test.YtbpipnjdfmpbdaaProg
import Derived.WalkKit
import Derived.WalkSpells
import Derived.WalkLawsBesides
import Derived.BigQuiet
import Derived.Deep.QuietTactic
import Derived.Lib.Hide
import Derived.WalkMore
import Derived.Deep.DeepMust
import Derived.Deep.DeepFit
namespace Go.Proofs.Ytbpipnjdfmpbdaa
open Go.RowKit

theorem wrap64_small (x : Int) (h0 : 0 ≤ x) (h : x ≤ 4294967296) : wrap64 x = x := by
  refine IntWalk.wrap64_in x ⟨?_, ?_⟩ <;> omega

/-! ### blocks -/
theorem below1 (w : World) (o : Obj) : Below w.heap.size w (w.alloc o) := (Below.refl _ _).alloc (Nat.le_refl _) o
theorem below2 (w : World) (o o' : Obj) : Below w.heap.size w ((w.alloc o).alloc o') := (below1 w o).alloc (by simp) o'
theorem below3 (w : World) (o o' o'' : Obj) : Below w.heap.size w (((w.alloc o).alloc o').alloc o'') := (below2 w o o').alloc (by simp; omega) o''
theorem below4 (w : World) (o o' o'' p : Obj) : Below w.heap.size w ((((w.alloc o).alloc o').alloc o'').alloc p) := (below3 w o o' o'').alloc (by simp; omega) p

theorem cells_new (w : World) (xs : List Value) (t : TypeId) : ∀ j u, xs[j]? = some u → (w.alloc (.cells xs.toArray t)).cell? ((⟨w.heap.size, 0, none⟩ : Addr).add j) = some u := by
  intro j u h
  rw [Addr.add_lit, Nat.zero_add, World.cell?_alloc_at _ _ _ _ rfl]
  simpa using h

/-- what append asks of the program's tables -/
structure ElemOK (P : Program) (t e : TypeId) (size bytes : Nat) : Prop where
  ex : ∃ i z, P.underlying t = some (.slice e) ∧ P.info? e = some i ∧ i.zero = some z ∧ i.size = size ∧ i.bytes = bytes ∧ z.cells.size = size ∧ 0 < size

theorem ElemOK.mk' {P : Program} {t e : TypeId} {z : Value} {size bytes : Nat} (ht : P.underlying t = some (.slice e)) (h : (P.info? e).map (fun i => (i.zero, i.size, i.bytes)) = some (some z, size, bytes))
    (hz : z.cells.size = size) (hs : 0 < size) : ElemOK P t e size bytes := by
  obtain ⟨i, hi, h1, h2, h3⟩ := info_parts h
  exact ⟨i, z, ht, hi, h1, h2, h3, hz, hs⟩

/-- 'append(out, x)' of one new element to a row of the call's own -/
theorem wpList_app1 {P : Program} {t e : TypeId} {size bytes : Nat} (hE : ElemOK P t e size bytes) {B : Nat} {w0 wr : World} {ops : Array Oper} {rest : List Oper} {o : Oper} {a : Act} {Q : Exit → Act → World → Prop} (hgd : o.guard = none) (s x : Operand)
    (ho : o.op = .call { callee := .builtin .append, args := #[s, x], argTypes := #[t, t] })
    {v : Value} {n : Nat} {xs : List Value} (hown : wr.ownsRow B e size v n xs) (hs : a.eval s = v)
    {news : List Value} (hx : a.eval x = .slice (some ⟨wr.heap.size, 0, none⟩) 1 1) (hl : news.length = size) (h1 : ∀ u ∈ news, u.oneCell' = true)
    (hn : n < 4294967296) (hby : bytes ≤ 16384) (hb : Below B w0 wr) (hB : B ≤ w0.heap.size)
    (h : ∀ v' w', w'.ownsRow B e size v' (n + 1) (xs ++ news) → Below B w0 w' → (∃ g cap, v' = .slice (some ⟨g, 0, none⟩) (n + 1) cap) → wpList P ops Q rest (a.put o.dst v') w') :
    wpList P ops Q (o :: rest) a (wr.alloc (.cells news.toArray e)) := by
  obtain ⟨i, z, ht, hi, hz, hz1, hz2, hz3, hz4⟩ := hE.ex
  have hbs := hb.size
  refine wpList_append_own (P := P) _ hgd s x t ho B e i z size bytes ht hi hz hz1 hz2 hz3 hz4 v n xs hs (hown.alloc _) ⟨wr.heap.size, 0, none⟩ 1 1 news hx (by omega) (cells_new wr news e) h1 (by unfold maxLen; omega) ?_ (by simp; omega) ?_
  · have : (n + 1) * bytes ≤ 4294967296 * 16384 := Nat.mul_le_mul (by omega) hby
    omega
  · intro v' w' hown' hg hnil
    refine h v' w' hown' ((hb.alloc (by omega) _).grown hg (by simp; omega) (fun k hk => (hown.lt k hk).1)) ?_
    rcases hown'.2 with ⟨h, h'⟩ | ⟨g, cap, _, h, _⟩
    · omega
    · exact ⟨g, cap, h⟩

/-! ### a slice's elements, read -/
/-- the slice value v reads as n elements of size cells each, whose cells are xs -/
def Rd (w : World) (v : Value) (n size : Nat) (xs : List Value) : Prop :=
  xs.length = n * size ∧ ∃ ao cap, v = .slice ao n cap ∧ n ≤ cap ∧ cap ≤ maxLen ∧
    (n = 0 ∨ ∃ b off, ao = some ⟨b, off, none⟩ ∧ b < w.heap.size ∧ ∀ j u, xs[j]? = some u → w.cell? ⟨b, off + j, none⟩ = some u)

theorem Rd.nil (w : World) (size : Nat) : Rd w (.slice none 0 0) 0 size [] := ⟨by simp, none, 0, rfl, by omega, by simp, .inl rfl⟩

theorem Rd.mono {w w' : World} {v : Value} {n size : Nat} {xs : List Value} (h : Rd w v n size xs) (hk : ∀ b o, b < w.heap.size → w'.cell? ⟨b, o, none⟩ = w.cell? ⟨b, o, none⟩) (hs : w.heap.size ≤ w'.heap.size) : Rd w' v n size xs := by
  obtain ⟨h1, ao, cap, h2, h3, h4, h5⟩ := h
  refine ⟨h1, ao, cap, h2, h3, h4, h5.imp id ?_⟩
  rintro ⟨b, off, h6, h7, h8⟩
  exact ⟨b, off, h6, by omega, fun j u hj => by rw [hk _ _ h7]; exact h8 j u hj⟩

theorem Rd.below {w w' : World} {v : Value} {n size : Nat} {xs : List Value} (h : Rd w v n size xs) (hb : Below w.heap.size w w') : Rd w' v n size xs :=
  h.mono (fun _ _ hlt => hb.cell (p := ⟨_, _, none⟩) hlt) hb.size

theorem Rd.alloc {w : World} {v : Value} {n size : Nat} {xs : List Value} (h : Rd w v n size xs) (o : Obj) : Rd (w.alloc o) v n size xs := h.below (below1 w o)

theorem Rd.of_owns {w : World} {B : Nat} {e : TypeId} {v : Value} {n size : Nat} {xs : List Value} (h : w.ownsRow B e size v n xs) : Rd w v n size xs := by
  refine ⟨h.1, ?_⟩
  rcases h.2 with ⟨h2, h3⟩ | ⟨g, cap, cur, h2, h3, h4, h5, h6, h7, h8⟩
  · subst h3; exact ⟨none, 0, h2, by omega, by simp, .inl rfl⟩
  · refine ⟨some ⟨g, 0, none⟩, cap, h2, h5, h6, .inr ⟨g, 0, rfl, ?_, ?_⟩⟩
    · exact (Array.getElem?_eq_some_iff.1 h4).1
    · intro j u hj
      have := h.cells (g := g) (by rw [h2]; rfl) j u hj
      simpa [Addr.add_lit] using this

/-- the cells of element i -/
theorem Rd.at {w : World} {v : Value} {n size : Nat} {xs : List Value} (h : Rd w v n size xs) {i : Nat} (hi : i < n) :
    ∃ b off cap, v = .slice (some ⟨b, off, none⟩) n cap ∧ b < w.heap.size ∧ n ≤ cap ∧ ∀ j u, xs[j]? = some u → w.cell? ⟨b, off + j, none⟩ = some u := by
  obtain ⟨_, ao, cap, h2, h3, h4, h5⟩ := h
  rcases h5 with h5 | ⟨b, off, h6, h7, h8⟩
  · omega
  · exact ⟨b, off, cap, by rw [h2, h6], h7, h3, h8⟩

end Go.Proofs.Ytbpipnjdfmpbdaa
