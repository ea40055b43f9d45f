import Derived.Test.YtbpipnjdfmpbdaaRrJ
import Derived.Lib.Join
namespace Go.Proofs.Ytbpipnjdfmpbdaa
open Go.RowKit

/-! ### plain: heights, texts, pieces of a forest -/
def Fo.height : Fo → Nat
  | .nil => 0
  | .cons _ k r => max (k.height + 1) r.height
def joinS (sep : ByteArray) (l : List ByteArray) : ByteArray := ⟨(Lib.join (l.map (·.data.toList)) sep.data.toList).toArray⟩
def sepK (k : Int) : ByteArray := if k = 5 then ⟨#[32, 124, 32]⟩ else if k = 4 then ⟨#[32]⟩ else ⟨#[]⟩
def signK (k : Int) : ByteArray := if k = 6 then ⟨#[42]⟩ else if k = 7 then ⟨#[43]⟩ else if k = 8 then ⟨#[63]⟩ else ⟨#[]⟩
def brkB (pk k : Int) : Bool := k == 5 || (k == 4 && pk != 5)
def brk (pk k : Int) (t : ByteArray) : ByteArray := if brkB pk k = true then (⟨#[40]⟩ : ByteArray) ++ t ++ (⟨#[41]⟩ : ByteArray) else t
def txN (x : Nd) (ks : List (Int × ByteArray)) : ByteArray :=
  if x.k = 1 then ⟨#[37]⟩ else if x.k = 2 ∨ x.k = 3 then x.n else joinS (sepK x.k) (ks.map fun p => brk x.k p.1 p.2) ++ signK x.k
/-- of each tree its kind and its text -/
def Fo.tx : Fo → List (Int × ByteArray)
  | .nil => []
  | .cons x k r => (x.k, txN x k.tx) :: r.tx
theorem Fo.tx_len (f : Fo) : f.tx.length = f.len := by
  induction f with
  | nil => rfl
  | cons x k r _ ih => simp [Fo.tx, Fo.len, ih]
/-- where the trees begin, and how many nodes each has -/
def Fo.pieces : Fo → Nat → List (Nat × Nat)
  | .nil, _ => []
  | .cons _ k r, s => (s, k.size + 1) :: r.pieces (s + k.size + 1)
theorem Fo.pieces_len (f : Fo) : ∀ s, (f.pieces s).length = f.len := by
  induction f with
  | nil => intro s; rfl
  | cons x k r _ ih => intro s; simp [Fo.pieces, Fo.len, ih]
/-- the i-th tree -/
def Fo.get : Fo → Nat → Fo
  | .nil, _ => .nil
  | .cons x k _, 0 => .cons x k .nil
  | .cons _ _ r, i + 1 => r.get i
theorem Fo.flat_get (f : Fo) : ∀ (i s : Nat) (p : Nat × Nat), (f.pieces s)[i]? = some p → s ≤ p.1 ∧ ∃ a b, f.flat = a ++ ((f.get i).flat ++ b) ∧ a.length = p.1 - s ∧ (f.get i).flat.length = p.2 ∧ 0 < p.2 ∧ p.1 - s + p.2 ≤ f.size := by
  induction f with
  | nil => intro i s p h; simp [Fo.pieces] at h
  | cons x k r _ ih =>
    intro i s p h
    cases i with
    | zero =>
      simp only [Fo.pieces, List.getElem?_cons_zero, Option.some.injEq] at h
      subst h
      refine ⟨Nat.le_refl _, [], r.flat, by simp [Fo.get, Fo.flat], by simp, by simp [Fo.get, Fo.flat, Fo.flat_len], by simp, by simp only [Fo.size]; omega⟩
    | succ i =>
      simp only [Fo.pieces, List.getElem?_cons_succ] at h
      obtain ⟨h1, a, b, h2, h3, h4, h5, h6⟩ := ih i _ p h
      refine ⟨by omega, x :: (k.flat ++ a), b, ?_, ?_, h4, h5, ?_⟩
      · simp only [Fo.get, Fo.flat]
        rw [h2]; simp
      · simp [Fo.flat_len, h3]; omega
      · simp only [Fo.size]; omega
theorem Fo.get_cons (f : Fo) : ∀ i, i < f.len → ∃ x k, f.get i = .cons x k .nil ∧ f.tx[i]? = some (x.k, txN x k.tx) ∧ k.size + 1 ≤ f.size ∧ (f.wf → x.c = k.len ∧ k.wf) ∧ k.height + 1 ≤ f.height := by
  induction f with
  | nil => intro i h; simp [Fo.len] at h
  | cons x k r _ ih =>
    intro i h
    cases i with
    | zero => exact ⟨x, k, rfl, rfl, by simp only [Fo.size]; omega, fun h => ⟨h.1, h.2.1⟩, by simp only [Fo.height]; omega⟩
    | succ i =>
      obtain ⟨y, j, h1, h2, h3, h4, h5⟩ := ih i (by simp [Fo.len] at h; omega)
      exact ⟨y, j, h1, by simpa [Fo.tx] using h2, by simp only [Fo.size]; omega, fun h => h4 h.2.2, by simp only [Fo.height]; omega⟩
/-- every node is as f says -/
def Fo.all (P : Nd → Prop) : Fo → Prop
  | .nil => True
  | .cons x k r => P x ∧ k.all P ∧ r.all P
theorem Fo.all_get {P : Nd → Prop} (f : Fo) (h : f.all P) : ∀ i, (f.get i).all P := by
  induction f with
  | nil => intro i; trivial
  | cons x k r _ ih =>
    intro i
    cases i with
    | zero => exact ⟨h.1, h.2.1, trivial⟩
    | succ i => exact ih h.2.2 i
theorem Fo.all_app {P : Nd → Prop} (f g : Fo) (hf : f.all P) (hg : g.all P) : (f.app g).all P := by
  induction f with
  | nil => exact hg
  | cons x k r _ ih => exact ⟨hf.1, hf.2.1, ih hf.2.2⟩
theorem Fo.all_flat {P : Nd → Prop} (f : Fo) : f.all P ↔ ∀ x ∈ f.flat, P x := by
  induction f with
  | nil => simp [Fo.all, Fo.flat]
  | cons x k r ih1 ih2 =>
    simp only [Fo.all, Fo.flat, ih1, ih2, List.mem_cons, List.mem_append]
    constructor
    · rintro ⟨h1, h2, h3⟩ y (rfl | h | h)
      · exact h1
      · exact h2 y h
      · exact h3 y h
    · intro h
      exact ⟨h x (.inl rfl), fun y hy => h y (.inr (.inl hy)), fun y hy => h y (.inr (.inr hy))⟩
/-! ### plain: which node may be -/
def nameOk (t : ByteArray) (k : Int) : Prop := 1 ≤ t.size ∧ t.size ≤ 16 ∧ kindI (bt t 0) = k ∧ ∀ q, q < t.size → innerI (bt t q) = true
def mayN (x : Nd) : Prop :=
  (x.k = 1 ∧ x.n = ⟨#[]⟩ ∧ x.c = 0) ∨ (x.k = 2 ∧ x.c = 0 ∧ nameOk x.n 1) ∨ (x.k = 3 ∧ x.c = 0 ∧ nameOk x.n 2) ∨
  ((x.k = 4 ∨ x.k = 5) ∧ x.n = ⟨#[]⟩ ∧ 2 ≤ x.c) ∨ ((x.k = 6 ∨ x.k = 7 ∨ x.k = 8) ∧ x.n = ⟨#[]⟩ ∧ x.c = 1)
theorem mayN.c {x : Nd} (h : mayN x) : 0 ≤ x.c := by rcases h with h | h | h | h | h <;> omega
theorem mayN.k {x : Nd} (h : mayN x) : 1 ≤ x.k ∧ x.k ≤ 8 := by rcases h with h | h | h | h | h <;> omega
theorem mayN.size {x : Nd} (h : mayN x) : x.n.size ≤ 16 := by
  rcases h with h | h | h | h | h
  · rw [h.2.1]; exact Nat.zero_le _
  · exact h.2.2.2.1
  · exact h.2.2.2.1
  · rw [h.2.1]; exact Nat.zero_le _
  · rw [h.2.1]; exact Nat.zero_le _
/-! ### plain: the size of a text -/
theorem join_len (sep : List UInt8) : ∀ l : List (List UInt8), (Lib.join l sep).length ≤ (l.map fun x => x.length + sep.length).sum
  | [] => by simp [Lib.join_nil]
  | x :: r => by
    have key : ∀ r : List (List UInt8), (Lib.joinTail sep r).length = (r.map fun x => x.length + sep.length).sum := by
      intro r
      induction r with
      | nil => simp [Lib.joinTail]
      | cons y r ih => simp [Lib.joinTail] at ih ⊢; omega
    rw [Lib.join_cons, List.length_append, key]
    simp
theorem joinS_size (sep : ByteArray) (l : List ByteArray) : (joinS sep l).size ≤ (l.map fun x => x.size + sep.size).sum := by
  have h := join_len sep.data.toList (l.map (·.data.toList))
  have e : (joinS sep l).size = (Lib.join (l.map (·.data.toList)) sep.data.toList).length := by unfold joinS; simp [ByteArray.size]
  have e2 : ((l.map (·.data.toList)).map fun x => x.length + sep.data.toList.length) = l.map fun x => x.size + sep.size := by
    rw [List.map_map]; rfl
  rw [e]; rw [e2] at h; exact h
theorem sepK_size (k : Int) : (sepK k).size ≤ 3 := by 
  unfold sepK
  split
  · decide
  · split <;> decide
theorem signK_size (k : Int) : (signK k).size ≤ 1 := by
  unfold signK
  split
  · decide
  · split
    · decide
    · split <;> decide
theorem brk_size (pk k : Int) (t : ByteArray) : (brk pk k t).size ≤ t.size + 2 := by
  unfold brk; split
  · rw [ByteArray.size_append, ByteArray.size_append]
    have e1 : (⟨#[40]⟩ : ByteArray).size = 1 := rfl
    have e2 : (⟨#[41]⟩ : ByteArray).size = 1 := rfl
    omega
  · omega
theorem Fo.tx_size (f : Fo) (h : f.all fun x => x.n.size ≤ 16) : (f.tx.map fun p => p.2.size + 5).sum ≤ 32 * f.size := by
  induction f with
  | nil => simp [Fo.tx, Fo.size]
  | cons x k r ih1 ih2 =>
    have i1 := ih1 h.2.1
    have i2 := ih2 h.2.2
    have hx : (txN x k.tx).size + 5 ≤ 32 * k.size + 32 := by
      unfold txN
      split
      · have : (⟨#[37]⟩ : ByteArray).size = 1 := rfl
        omega
      · split
        · have := h.1; simp only at this; omega
        · rw [ByteArray.size_append]
          have h1 := joinS_size (sepK x.k) (k.tx.map fun p => brk x.k p.1 p.2)
          have h2 := signK_size x.k
          have h3 := sepK_size x.k
          rw [List.map_map] at h1
          have h4 : (k.tx.map ((fun x_1 => x_1.size + (sepK x.k).size) ∘ fun p => brk x.k p.1 p.2)).sum ≤ (k.tx.map fun p => p.2.size + 5).sum := by
            generalize k.tx = l
            induction l with
            | nil => simp
            | cons p l ih =>
              have := brk_size x.k p.1 p.2
              simp only [List.map_cons, List.sum_cons, Function.comp] at ih ⊢
              omega
          omega
    simp only [Fo.tx, Fo.size, List.map_cons, List.sum_cons]
    omega
end Go.Proofs.Ytbpipnjdfmpbdaa
