import Derived.Test.YtjnccfgnakggkaaMkP
import Derived.Lib.Bytealg
import Derived.Lib.LastIndexByte
namespace Go.Proofs.Ytjnccfgnakggkaa
open Go.RowKit

/-! ### plain: the line and the column of a place -/
def lc (s : ByteArray) : Nat → Nat × Nat
  | 0 => (0, 0)
  | k + 1 => if bt s k = 10 then ((lc s k).1 + 1, 0) else ((lc s k).1, (lc s k).2 + 1)
theorem lc_succ (s : ByteArray) (k : Nat) : lc s (k + 1) = if bt s k = 10 then ((lc s k).1 + 1, 0) else ((lc s k).1, (lc s k).2 + 1) := rfl
theorem lc_le (s : ByteArray) (k : Nat) : (lc s k).1 ≤ k ∧ (lc s k).2 ≤ k := by
  induction k with
  | zero => simp [lc]
  | succ k ih => rw [lc_succ]; split <;> simp <;> omega
theorem bt_bang (s : ByteArray) (k : Nat) (h : k < s.size) : ((s.data[k]!).toNat : Int) = bt s k := by
  rw [← bt_get s k h, getElem!_pos s.data k (by exact h)]; rfl
theorem count_lc (s : ByteArray) : ∀ k, k ≤ s.size → Lib.countByte (s.data.toList.take k) 10 = (lc s k).1 := by
  intro k
  induction k with
  | zero => intro _; simp [lc, Lib.countByte]
  | succ k ih =>
    intro h
    have ih := ih (by omega)
    have hk : k < s.data.toList.length := by simp; exact h
    unfold Lib.countByte at *
    have hb := bt_get s k (by omega)
    rw [List.take_succ_eq_append_getElem hk, List.count_append, ih]
    rw [lc_succ]
    have e : s.data.toList[k] = s[k] := rfl
    rw [e]
    by_cases h10 : bt s k = 10
    · rw [if_pos h10]
      have : s[k] = 10 := by
        rw [← hb] at h10
        exact UInt8.toNat.inj (by simpa using (by omega : s[k].toNat = 10))
      rw [this]; simp
    · rw [if_neg h10]
      have : ¬ s[k] = 10 := by
        intro h1; rw [h1] at hb; exact h10 hb.symm
      simp [this]
theorem lastIdx_lc (s : ByteArray) : ∀ k, k ≤ s.size → (k : Int) - Lib.lastIdx s 10 k - 1 = (lc s k).2 := by
  intro k
  induction k with
  | zero => intro _; simp [lc, Lib.lastIdx]
  | succ k ih =>
    intro h
    have ih := ih (by omega)
    rw [lc_succ]
    by_cases h10 : bt s k = 10
    · rw [if_pos h10, Lib.lastIdx_hit s 10 k (by rw [bt_bang s k (by omega)]; exact h10)]; simp; omega
    · rw [if_neg h10, Lib.lastIdx_miss s 10 k (by rw [bt_bang s k (by omega)]; exact h10)]; simp; omega
theorem lastIdx_ext (s : ByteArray) (n : Nat) (hn : n ≤ s.size) : ∀ k, k ≤ n → Lib.lastIdx (s.extract 0 n) 10 k = Lib.lastIdx s 10 k := by
  intro k
  induction k with
  | zero => intro _; rfl
  | succ k ih =>
    intro h
    have hsz : (s.extract 0 n).size = n := by rw [ByteArray.size_extract]; omega
    have e : ((((s.extract 0 n).data[k]!).toNat : Nat) : Int) = ((s.data[k]!).toNat : Int) := by
      rw [bt_bang _ k (by omega), bt_bang s k (by omega)]
      rw [← bt_get _ k (by omega), ← bt_get s k (by omega)]
      congr 2
      rw [ByteArray.getElem_extract]; congr 1; omega
    unfold Lib.lastIdx
    rw [e, ih (by omega)]
theorem place_line (s : ByteArray) (n : Nat) (hn : n ≤ s.size) : Lib.countByte (s.extract 0 n).data.toList 10 = (lc s n).1 := by
  rw [← count_lc s n hn]
  congr 1
  simp
theorem place_col (s : ByteArray) (n : Nat) (hn : n ≤ s.size) : (n : Int) - Lib.lastIndexByte (s.extract 0 n) 10 - 1 = (lc s n).2 := by
  unfold Lib.lastIndexByte
  rw [show (s.extract 0 n).size = n from by rw [ByteArray.size_extract]; omega, lastIdx_ext s n hn n (Nat.le_refl _), lastIdx_lc s n hn]
/-- the answer of Place -/
def placeM (s : ByteArray) (at_ : Int) : Int × Int × Int := if at_ < 0 ∨ (s.size : Int) < at_ then (0, 0, 2) else ((lc s at_.toNat).1, (lc s at_.toNat).2, 0)
end Go.Proofs.Ytjnccfgnakggkaa
