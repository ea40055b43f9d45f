import Derived.Test.YtbpipnjdfmpbdaaMkE
namespace Go.Proofs.Ytbpipnjdfmpbdaa
open Go.RowKit

def RdMk (w : World) (v : Value) (l : List Mk) : Prop := Rd w v l.length 3 (flatMk l)
theorem RdMk.of_own {w : World} {B : Nat} {v : Value} {l : List Mk} (h : OwnMk w B v l) : RdMk w v l := Rd.of_owns h
theorem flatMk_len (l : List Mk) : (flatMk l).length = 3 * l.length := by
  induction l with
  | nil => rfl
  | cons m r ih => have : flatMk (m :: r) = m.cells ++ flatMk r := rfl
                   rw [this, List.length_append, ih]; simp [Mk.cells]; omega
theorem flatMk_at (l : List Mk) (i : Nat) (m : Mk) (h : l[i]? = some m) : (flatMk l)[3 * i]? = some (.int .i64 m.k) ∧ (flatMk l)[3 * i + 1]? = some (.int .i64 m.p) ∧ (flatMk l)[3 * i + 2]? = some (.string m.t) := by
  induction l generalizing i with
  | nil => simp at h
  | cons x r ih =>
    have e : flatMk (x :: r) = .int .i64 x.k :: .int .i64 x.p :: .string x.t :: flatMk r := rfl
    cases i with
    | zero => simp at h; subst h; rw [e]; simp
    | succ i =>
      have h2 := ih i (by simpa using h)
      rw [e, show 3 * (i + 1) = 3 * i + 1 + 1 + 1 from by omega]
      simpa using h2
/-- the cells of the i-th mark -/
theorem RdMk.at {w : World} {v : Value} {l : List Mk} (h : RdMk w v l) {i : Nat} {m : Mk} (hm : l[i]? = some m) :
    ∃ b off cap, v = .slice (some ⟨b, off, none⟩) l.length cap ∧ b < w.heap.size ∧ l.length ≤ cap ∧
      w.cell? ⟨b, off + i * 3, none⟩ = some (.int .i64 m.k) ∧ w.cell? ⟨b, off + i * 3 + 1, none⟩ = some (.int .i64 m.p) ∧ w.cell? ⟨b, off + i * 3 + 2, none⟩ = some (.string m.t) := by
  have hi : i < l.length := (List.getElem?_eq_some_iff.1 hm).1
  obtain ⟨b, off, cap, h1, h2, h3, h4⟩ := Rd.at h hi
  obtain ⟨q0, q1, q2⟩ := flatMk_at l i m hm
  rw [show 3 * i = i * 3 from by omega] at q0 q1 q2
  exact ⟨b, off, cap, h1, h2, h3, h4 _ _ q0, h4 _ _ q1, h4 _ _ q2⟩

end Go.Proofs.Ytbpipnjdfmpbdaa
