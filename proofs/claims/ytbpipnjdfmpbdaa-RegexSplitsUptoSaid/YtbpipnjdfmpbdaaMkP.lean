import Derived.Test.YtbpipnjdfmpbdaaProg
import Derived.WalkKit
namespace Go.Proofs.Ytbpipnjdfmpbdaa
open Go.RowKit

def blankI (c : Int) : Bool := c == 32 || c == 9 || c == 10 || c == 13
def innerI (c : Int) : Bool := (97 ≤ c && c ≤ 122) || (65 ≤ c && c ≤ 90) || (48 ≤ c && c ≤ 57) || c == 95
def kindI (c : Int) : Int :=
  if c == 61 then 4 else if c == 59 then 5 else if c == 124 then 6 else if c == 42 then 7 else if c == 43 then 8 else if c == 63 then 9
  else if c == 40 then 10 else if c == 41 then 11 else if c == 37 then 12
  else if 65 ≤ c && c ≤ 90 then 1 else if 97 ≤ c && c ≤ 122 then 2 else if innerI c then 3 else 0

/-- the byte at a place -/
def bt (s : ByteArray) (k : Nat) : Int := ((s.data.toList.getD k 0).toNat : Int)
theorem bt_get (s : ByteArray) (k : Nat) (h : k < s.size) : ((s[k].toNat : Nat) : Int) = bt s k := by
  have h2 : k < s.data.toList.length := by simpa using h
  unfold bt
  rw [List.getD_eq_getElem?_getD, List.getElem?_eq_getElem h2]; rfl
def skipL (l : List UInt8) : Nat := (l.takeWhile fun c => blankI c.toNat).length
def wordL (l : List UInt8) : Nat := (l.takeWhile fun c => innerI c.toNat).length
/-- the first place from k on that holds no blank -/
def skipTo (s : ByteArray) (k : Nat) : Nat := k + skipL (s.data.toList.drop k)
def wordTo (s : ByteArray) (k : Nat) : Nat := k + wordL (s.data.toList.drop k)
theorem tw_le {α} (p : α → Bool) (l : List α) : (l.takeWhile p).length ≤ l.length := (List.takeWhile_sublist p).length_le
theorem skipTo_le (s : ByteArray) (k : Nat) (h : k ≤ s.size) : skipTo s k ≤ s.size := by
  have := tw_le (fun c : UInt8 => blankI c.toNat) (s.data.toList.drop k)
  have e : s.data.toList.length = s.size := by simp
  unfold skipTo skipL; rw [List.length_drop] at this; omega
theorem wordTo_le (s : ByteArray) (k : Nat) (h : k ≤ s.size) : wordTo s k ≤ s.size := by
  have := tw_le (fun c : UInt8 => innerI c.toNat) (s.data.toList.drop k)
  have e : s.data.toList.length = s.size := by simp
  unfold wordTo wordL; rw [List.length_drop] at this; omega
theorem drop_cons (s : ByteArray) (k : Nat) (h : k < s.size) : s.data.toList.drop k = s[k] :: s.data.toList.drop (k + 1) := by
  have h2 : k < s.data.toList.length := by simpa using h
  rw [List.drop_eq_getElem_cons h2]; rfl
theorem skipTo_yes (s : ByteArray) (k : Nat) (h : k < s.size) (hb : blankI (bt s k) = true) : skipTo s k = skipTo s (k + 1) := by
  rw [← bt_get s k h] at hb
  unfold skipTo skipL; rw [drop_cons s k h, List.takeWhile_cons_of_pos (by simpa using hb)]; simp; omega
theorem skipTo_no (s : ByteArray) (k : Nat) (h : k < s.size) (hb : blankI (bt s k) = false) : skipTo s k = k := by
  rw [← bt_get s k h] at hb
  unfold skipTo skipL; rw [drop_cons s k h, List.takeWhile_cons_of_neg (by simpa using hb)]; simp
theorem skipTo_end (s : ByteArray) (k : Nat) (h : s.size ≤ k) : skipTo s k = k := by
  unfold skipTo skipL; rw [List.drop_eq_nil_of_le (by simpa using h)]; simp
theorem wordTo_yes (s : ByteArray) (k : Nat) (h : k < s.size) (hb : innerI (bt s k) = true) : wordTo s k = wordTo s (k + 1) := by
  rw [← bt_get s k h] at hb
  unfold wordTo wordL; rw [drop_cons s k h, List.takeWhile_cons_of_pos (by simpa using hb)]; simp; omega
theorem wordTo_no (s : ByteArray) (k : Nat) (h : k < s.size) (hb : innerI (bt s k) = false) : wordTo s k = k := by
  rw [← bt_get s k h] at hb
  unfold wordTo wordL; rw [drop_cons s k h, List.takeWhile_cons_of_neg (by simpa using hb)]; simp
theorem wordTo_end (s : ByteArray) (k : Nat) (h : s.size ≤ k) : wordTo s k = k := by
  unfold wordTo wordL; rw [List.drop_eq_nil_of_le (by simpa using h)]; simp

structure Mk where
  k : Int
  p : Nat
  t : ByteArray
  deriving DecidableEq
def Mk.cells (m : Mk) : List Value := [.int .i64 m.k, .int .i64 m.p, .string m.t]
def Mk.val (m : Mk) : Value := .agg #[.int .i64 m.k, .int .i64 m.p, .string m.t]
/-- the mark that begins at a place that holds no blank -/
def markAt (s : ByteArray) (a : Nat) : Mk :=
  if a < s.size ∧ kindI (bt s a) ≠ 0 then
    ⟨kindI (bt s a), a, s.extract a (if kindI (bt s a) ≤ 3 then wordTo s (a + 1) else a + 1)⟩
  else ⟨0, a, ByteArray.empty⟩
def nextM (s : ByteArray) (k : Nat) : Mk := markAt s (skipTo s k)


theorem bt_lt (s : ByteArray) (k : Nat) : 0 ≤ bt s k ∧ bt s k < 256 := by
  unfold bt; have := (s.data.toList.getD k 0).toNat_lt; omega

def cutF : Nat → ByteArray → Nat → List Mk × Nat
  | 0, _, k => ([], k)
  | n + 1, s, k =>
    if (nextM s k).k = 0 then ([], (nextM s k).p)
    else ((nextM s k) :: (cutF n s ((nextM s k).p + (nextM s k).t.size)).1, (cutF n s ((nextM s k).p + (nextM s k).t.size)).2)
def cut (s : ByteArray) (k : Nat) : List Mk × Nat := cutF (s.size + 1 - k) s k

theorem nextM_p (s : ByteArray) (k : Nat) : (nextM s k).p = skipTo s k := by
  unfold nextM markAt; split <;> rfl
theorem skipTo_ge (s : ByteArray) (k : Nat) : k ≤ skipTo s k := by unfold skipTo; omega
theorem wordTo_ge (s : ByteArray) (k : Nat) : k ≤ wordTo s k := by unfold wordTo; omega
theorem markAt_size (s : ByteArray) (a : Nat) (h : (markAt s a).k ≠ 0) : 1 ≤ (markAt s a).t.size ∧ a + (markAt s a).t.size ≤ s.size ∧ a < s.size := by
  unfold markAt at h ⊢
  split at h
  · rename_i hc
    rw [if_pos hc]
    have h1 := wordTo_ge s (a + 1)
    have h2 := wordTo_le s (a + 1) (by omega)
    show 1 ≤ (s.extract a _).size ∧ a + (s.extract a _).size ≤ _ ∧ _
    rw [ByteArray.size_extract]
    split <;> omega
  · exact absurd rfl h
theorem nextM_size (s : ByteArray) (k : Nat) (h : (nextM s k).k ≠ 0) :
    1 ≤ (nextM s k).t.size ∧ (nextM s k).p + (nextM s k).t.size ≤ s.size ∧ k ≤ (nextM s k).p := by
  have := markAt_size s (skipTo s k) h
  have h2 := skipTo_ge s k
  rw [nextM_p]; unfold nextM; omega
theorem cutF_more (s : ByteArray) : ∀ (n m k : Nat), k ≤ s.size → s.size + 1 - k ≤ n → s.size + 1 - k ≤ m → cutF n s k = cutF m s k
  | 0, _, k, h, h1, _ => by omega
  | _, 0, k, h, _, h1 => by omega
  | n + 1, m + 1, k, h, h1, h2 => by
    unfold cutF
    split
    · rfl
    · rename_i hk
      have hz := nextM_size s k hk
      rw [cutF_more s n m _ hz.2.1 (by omega) (by omega)]
theorem cut_none (s : ByteArray) (k : Nat) (hk : k ≤ s.size) (h : (nextM s k).k = 0) : cut s k = ([], (nextM s k).p) := by
  unfold cut; rw [show s.size + 1 - k = (s.size - k) + 1 from by omega]; unfold cutF; rw [if_pos h]
theorem cut_some (s : ByteArray) (k : Nat) (hk : k ≤ s.size) (h : (nextM s k).k ≠ 0) :
    cut s k = (nextM s k :: (cut s ((nextM s k).p + (nextM s k).t.size)).1, (cut s ((nextM s k).p + (nextM s k).t.size)).2) := by
  have hz := nextM_size s k h
  have e : cutF (s.size - k) s ((nextM s k).p + (nextM s k).t.size) = cut s ((nextM s k).p + (nextM s k).t.size) :=
    cutF_more s _ _ _ hz.2.1 (by omega) (Nat.le_refl _)
  show cutF (s.size + 1 - k) s k = _
  rw [show s.size + 1 - k = (s.size - k) + 1 from by omega]; unfold cutF; rw [if_neg h, e]
theorem nextM_blank (s : ByteArray) (k : Nat) (h : k < s.size) (hb : blankI (bt s k) = true) : nextM s k = nextM s (k + 1) := by
  unfold nextM; rw [skipTo_yes s k h hb]
theorem cut_blank (s : ByteArray) (k : Nat) (h : k < s.size) (hb : blankI (bt s k) = true) : cut s k = cut s (k + 1) := by
  have e := nextM_blank s k h hb
  by_cases hz : (nextM s k).k = 0
  · rw [cut_none s k (by omega) hz, cut_none s (k + 1) (by omega) (by rw [← e]; exact hz), e]
  · rw [cut_some s k (by omega) hz, cut_some s (k + 1) (by omega) (by rw [← e]; exact hz), e]
theorem cut_end (s : ByteArray) : cut s s.size = ([], s.size) := by
  have e : nextM s s.size = ⟨0, s.size, ByteArray.empty⟩ := by unfold nextM markAt; rw [skipTo_end s _ (Nat.le_refl _), if_neg (by omega)]
  rw [cut_none s _ (Nat.le_refl _) (by rw [e]), e]
theorem cut_bad (s : ByteArray) (k : Nat) (h : k < s.size) (hb : blankI (bt s k) = false) (hk : kindI (bt s k) = 0) : cut s k = ([], k) := by
  have e : nextM s k = ⟨0, k, ByteArray.empty⟩ := by unfold nextM markAt; rw [skipTo_no s _ h hb, if_neg (by simp [hk])]
  rw [cut_none s _ (by omega) (by rw [e]), e]
/-- where a mark ends that begins at a place -/
def endM (s : ByteArray) (k : Nat) : Nat := if kindI (bt s k) ≤ 3 then wordTo s (k + 1) else k + 1
theorem endM_b (s : ByteArray) (k : Nat) (h : k < s.size) : k < endM s k ∧ endM s k ≤ s.size := by
  have h1 := wordTo_ge s (k + 1)
  have h2 := wordTo_le s (k + 1) (by omega)
  unfold endM; split <;> omega
theorem cut_good (s : ByteArray) (k : Nat) (h : k < s.size) (hb : blankI (bt s k) = false) (hk : kindI (bt s k) ≠ 0) :
    cut s k = (⟨kindI (bt s k), k, s.extract k (endM s k)⟩ :: (cut s (endM s k)).1, (cut s (endM s k)).2) := by
  have e : nextM s k = ⟨kindI (bt s k), k, s.extract k (endM s k)⟩ := by unfold nextM markAt endM; rw [skipTo_no s _ h hb, if_pos ⟨h, hk⟩]
  have hz := endM_b s k h
  have e2 : (nextM s k).p + (nextM s k).t.size = endM s k := by
    rw [e]; show k + (s.extract k _).size = _; rw [ByteArray.size_extract]; omega
  rw [cut_some s k (by omega) (by rw [e]; exact hk), e2, e]
theorem cut_len (s : ByteArray) : ∀ (n k : Nat), k ≤ s.size → s.size - k ≤ n → (cut s k).1.length ≤ s.size - k ∧ k ≤ (cut s k).2 ∧ (cut s k).2 ≤ s.size
  | n, k, h, hn => by
    by_cases hz : (nextM s k).k = 0
    · rw [cut_none s k h hz, nextM_p]; simp; exact ⟨skipTo_ge s k, skipTo_le s k h⟩
    · have h1 := nextM_size s k hz
      cases n with
      | zero => omega
      | succ n =>
        have := cut_len s n ((nextM s k).p + (nextM s k).t.size) (by omega) (by omega)
        rw [cut_some s k h hz]; simp; omega

end Go.Proofs.Ytbpipnjdfmpbdaa
