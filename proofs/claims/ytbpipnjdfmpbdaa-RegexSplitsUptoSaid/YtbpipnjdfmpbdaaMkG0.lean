import Derived.Test.YtbpipnjdfmpbdaaMkP
namespace Go.Proofs.Ytbpipnjdfmpbdaa
open Go.RowKit

/-! ### plain: Kind -/
def kindM (s : ByteArray) : Int × Bool := if (nextM s 0).k ≠ 0 ∧ (nextM s 0).t.size = s.size then ((nextM s 0).k, true) else (0, false)
theorem extract_all (s : ByteArray) (a b : Nat) (h : (s.extract a b).size = s.size) : s.extract a b = s := by
  rw [ByteArray.size_extract] at h
  by_cases hs : s.size = 0
  · apply ByteArray.ext; apply Array.ext
    · simp; have : s.data.size = 0 := hs; omega
    · intro i h1 h2; have : s.data.size = 0 := hs; omega
  · have ha : a = 0 := by omega
    have hb : s.size ≤ b := by omega
    subst ha
    apply ByteArray.ext
    rw [ByteArray.data_extract]
    exact Array.extract_eq_self_of_le hb
theorem nextM_t (s : ByteArray) (k : Nat) (h : (nextM s k).k ≠ 0) : ∃ a b, (nextM s k).t = s.extract a b := by
  unfold nextM markAt at h ⊢
  split at h
  · rename_i hc; rw [if_pos hc]; exact ⟨_, _, rfl⟩
  · exact absurd rfl h
theorem nextM_all (s : ByteArray) (h : (nextM s 0).k ≠ 0) : (nextM s 0).t = s ↔ (nextM s 0).t.size = s.size := by
  obtain ⟨a, b, e⟩ := nextM_t s 0 h
  constructor
  · intro h; rw [h]
  · intro h2; rw [e] at h2 ⊢; exact extract_all s a b h2
theorem kindM_bad (s : ByteArray) (h : (cut s 0).2 < s.size ∨ (cut s 0).1.length ≠ 1 ∨ ∃ m, (cut s 0).1[0]? = some m ∧ m.t.size ≠ s.size) : kindM s = (0, false) := by
  unfold kindM
  split
  · rename_i hc
    obtain ⟨hz, ht⟩ := hc
    exfalso
    have h1 := nextM_size s 0 hz
    have e2 : (nextM s 0).p + (nextM s 0).t.size = s.size := by omega
    rw [cut_some s 0 (by omega) hz, e2, cut_end] at h
    simp at h
    exact h ht
  · rfl
theorem kindM_good (s : ByteArray) (m : Mk) (_h1 : ¬ (cut s 0).2 < s.size) (h2 : (cut s 0).1.length = 1) (h3 : (cut s 0).1[0]? = some m) (h4 : m.t.size = s.size) : kindM s = (m.k, true) := by
  by_cases hz : (nextM s 0).k = 0
  · rw [cut_none s 0 (by omega) hz] at h2; simp at h2
  · rw [cut_some s 0 (by omega) hz] at h3
    simp at h3
    subst h3
    unfold kindM; rw [if_pos ⟨hz, h4⟩]

end Go.Proofs.Ytbpipnjdfmpbdaa
