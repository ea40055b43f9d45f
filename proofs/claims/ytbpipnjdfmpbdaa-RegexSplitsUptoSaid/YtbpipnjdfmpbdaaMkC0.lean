import Derived.Test.YtbpipnjdfmpbdaaMkA
namespace Go.Proofs.Ytbpipnjdfmpbdaa
open Go.RowKit

theorem elemMk : ElemOK Try.prog 72 98 3 32 :=
  ElemOK.mk' (z := .agg #[.int .i64 0, .int .i64 0, .string ⟨#[]⟩]) Try.underlying72 (by kernel_rfl) rfl (by decide)

def flatMk (l : List Mk) : List Value := l.flatMap Mk.cells
theorem flatMk_snoc (l : List Mk) (m : Mk) : flatMk (l ++ [m]) = flatMk l ++ m.cells := by simp [flatMk]
def OwnMk (w : World) (B : Nat) (v : Value) (l : List Mk) : Prop := w.ownsRow B 98 3 v l.length (flatMk l)
theorem OwnMk.snoc {w : World} {B : Nat} {v : Value} {l : List Mk} {m : Mk} (h : w.ownsRow B 98 3 v (l.length + 1) (flatMk l ++ m.cells)) : OwnMk w B v (l ++ [m]) := by
  unfold OwnMk; rw [flatMk_snoc, List.length_append]; exact h

end Go.Proofs.Ytbpipnjdfmpbdaa
