import Derived.Test.YtjnccfgnakggkaaMkI
import Derived.Test.YtjnccfgnakggkaaMkH
import Derived.Lib.Join
namespace Go.Proofs.Ytjnccfgnakggkaa
open Go.RowKit

/-! ### plain: Text -/
def okMi (m : Mi) : Bool := decide (kindM m.t = (m.k, true))
def joinM (l : List ByteArray) : ByteArray := ⟨(Lib.join (l.map (·.data.toList)) [32]).toArray⟩
def textM (l : List Mi) : ByteArray × Int := if l.all okMi = true then (joinM (l.map (·.t)), 0) else (⟨#[]⟩, 2)
/-- the bytes of all texts, one more for each -/
def tot (l : List Mi) : Nat := (l.map fun m => m.t.size + 1).sum
theorem tot_cons (m : Mi) (l : List Mi) : tot (m :: l) = m.t.size + 1 + tot l := by simp [tot]
theorem tot_append (a b : List Mi) : tot (a ++ b) = tot a + tot b := by simp [tot]
theorem tot_len (l : List Mi) : l.length ≤ tot l := by
  induction l with
  | nil => simp
  | cons m r ih => rw [tot_cons]; simp; omega
theorem tot_at (l : List Mi) (i : Nat) (m : Mi) (h : l[i]? = some m) : m.t.size + 1 ≤ tot l := by
  induction l generalizing i with
  | nil => simp at h
  | cons x r ih =>
    rw [tot_cons]
    cases i with
    | zero => simp at h; subst h; omega
    | succ i => have := ih i (by simpa using h); omega
theorem tot_take (l : List Mi) (i : Nat) : tot (l.take i) ≤ tot l := by
  conv => rhs; rw [← List.take_append_drop i l, tot_append]
  omega
theorem join_snoc (sep : List UInt8) (l : List (List UInt8)) (x : List UInt8) : Lib.join (l ++ [x]) sep = if l = [] then x else Lib.join l sep ++ (sep ++ x) := by
  cases l with
  | nil => simp [Lib.join_one]
  | cons y r => rw [if_neg (by simp), List.cons_append, Lib.join_cons, Lib.join_cons]; simp [Lib.joinTail]
theorem joinM_snoc (l : List ByteArray) (x : ByteArray) : joinM (l ++ [x]) = if l = [] then x else joinM l ++ (⟨#[32]⟩ : ByteArray) ++ x := by
  unfold joinM
  rw [List.map_append, List.map_cons, List.map_nil, join_snoc]
  cases l with
  | nil => simp
  | cons y r =>
    rw [if_neg (by simp), if_neg (by simp)]
    apply ByteArray.ext
    simp [ByteArray.data_append]
theorem take_snoc {α} (l : List α) (i : Nat) (m : α) (h : l[i]? = some m) : l.take (i + 1) = l.take i ++ [m] := by
  rw [List.take_add_one, h]; rfl
theorem joinM_step (l : List Mi) (i : Nat) (m : Mi) (h : l[i]? = some m) : joinM ((l.take (i + 1)).map (·.t)) = if i = 0 then m.t else joinM ((l.take i).map (·.t)) ++ (⟨#[32]⟩ : ByteArray) ++ m.t := by
  have hi : i < l.length := (List.getElem?_eq_some_iff.1 h).1
  rw [take_snoc l i m h, List.map_append, List.map_cons, List.map_nil, joinM_snoc]
  by_cases h0 : i = 0
  · subst h0; simp
  · rw [if_neg h0, if_neg (by simp; exact ⟨h0, by rintro rfl; simp at hi⟩)]
theorem joinM_size (l : List Mi) : (joinM (l.map (·.t))).size ≤ tot l := by
  have : ∀ k, k ≤ l.length → (joinM ((l.take k).map (·.t))).size ≤ tot (l.take k) := by
    intro k
    induction k with
    | zero => intro _; exact Nat.zero_le _
    | succ k ih =>
      intro hk
      have ih := ih (by omega)
      have hm : l[k]? = some l[k] := List.getElem?_eq_getElem (by omega)
      rw [joinM_step l k _ hm, take_snoc l k _ hm, tot_append, tot_cons]
      split
      · omega
      · rw [ByteArray.size_append, ByteArray.size_append]
        have : (⟨#[32]⟩ : ByteArray).size = 1 := rfl
        omega
  have h := this l.length (Nat.le_refl _)
  rwa [List.take_length] at h
theorem textM_bad (l : List Mi) (i : Nat) (m : Mi) (h : l[i]? = some m) (hb : okMi m = false) : textM l = (⟨#[]⟩, 2) := by
  unfold textM
  rw [if_neg]
  intro ha
  have := List.all_eq_true.1 ha m (List.mem_of_getElem? h)
  rw [hb] at this; simp at this
theorem textM_good (l : List Mi) (h : ∀ (i : Nat) m, l[i]? = some m → okMi m = true) : textM l = (joinM (l.map (·.t)), 0) := by
  unfold textM
  rw [if_pos]
  rw [List.all_eq_true]
  intro m hm
  obtain ⟨i, hi⟩ := List.getElem?_of_mem hm
  exact h i m hi
end Go.Proofs.Ytjnccfgnakggkaa
