import Derived.Test.YtbpipnjdfmpbdaaMkG0
namespace Go.Proofs.Ytbpipnjdfmpbdaa
open Go.RowKit

/-! ### plain: pieces of a text -/
theorem kindI_range (c : Int) : 0 ≤ kindI c ∧ kindI c ≤ 12 := by
  unfold kindI
  repeat' split
  all_goals omega
theorem kindI_blank (c : Int) (h : kindI c ≠ 0) : blankI c = false := by
  by_cases hb : blankI c = true
  · exfalso
    simp [blankI] at hb
    apply h
    rcases hb with ((rfl | rfl) | rfl) | rfl <;> decide
  · simpa using hb
theorem kindI_word256 : ∀ n : Fin 256, kindI (n.val : Int) ≠ 0 → (kindI (n.val : Int) ≤ 3 ↔ innerI (n.val : Int) = true) := by decide +kernel
theorem kindI_word (s : ByteArray) (k : Nat) (h : kindI (bt s k) ≠ 0) : kindI (bt s k) ≤ 3 ↔ innerI (bt s k) = true := by
  have hb := bt_lt s k
  have := kindI_word256 ⟨(bt s k).toNat, by omega⟩
  simp only [show (((bt s k).toNat : Nat) : Int) = bt s k from by omega] at this
  exact this h
theorem skip_blank (s : ByteArray) : ∀ (n a q : Nat), q - a = n → a ≤ q → q < skipTo s a → blankI (bt s q) = true ∧ q < s.size := by
  intro n
  induction n with
  | zero =>
    intro a q h1 h2 h3
    obtain rfl : q = a := by omega
    by_cases hl : q < s.size
    · refine ⟨?_, hl⟩
      by_cases hb : blankI (bt s q) = true
      · exact hb
      · rw [skipTo_no s q hl (by simpa using hb)] at h3; omega
    · rw [skipTo_end s q (by omega)] at h3; omega
  | succ n ih =>
    intro a q h1 h2 h3
    by_cases hl : a < s.size
    · by_cases hb : blankI (bt s a) = true
      · rw [skipTo_yes s a hl hb] at h3
        exact ih (a + 1) q (by omega) (by omega) h3
      · rw [skipTo_no s a hl (by simpa using hb)] at h3; omega
    · rw [skipTo_end s a (by omega)] at h3; omega
theorem word_inner (s : ByteArray) : ∀ (n a q : Nat), q - a = n → a ≤ q → q < wordTo s a → innerI (bt s q) = true ∧ q < s.size := by
  intro n
  induction n with
  | zero =>
    intro a q h1 h2 h3
    obtain rfl : q = a := by omega
    by_cases hl : q < s.size
    · refine ⟨?_, hl⟩
      by_cases hb : innerI (bt s q) = true
      · exact hb
      · rw [wordTo_no s q hl (by simpa using hb)] at h3; omega
    · rw [wordTo_end s q (by omega)] at h3; omega
  | succ n ih =>
    intro a q h1 h2 h3
    by_cases hl : a < s.size
    · by_cases hb : innerI (bt s a) = true
      · rw [wordTo_yes s a hl hb] at h3
        exact ih (a + 1) q (by omega) (by omega) h3
      · rw [wordTo_no s a hl (by simpa using hb)] at h3; omega
    · rw [wordTo_end s a (by omega)] at h3; omega
theorem word_max (s : ByteArray) : ∀ (n a : Nat), s.size - a = n → wordTo s a < s.size → innerI (bt s (wordTo s a)) = false := by
  intro n
  induction n with
  | zero => intro a h h2; rw [wordTo_end s a (by omega)] at h2; omega
  | succ n ih =>
    intro a h h2
    have hl : a < s.size := by omega
    by_cases hb : innerI (bt s a) = true
    · rw [wordTo_yes s a hl hb] at h2 ⊢; exact ih (a + 1) (by omega) h2
    · rw [wordTo_no s a hl (by simpa using hb)]; simpa using hb
theorem wordTo_all (s : ByteArray) : ∀ (n a : Nat), s.size - a = n → a ≤ s.size → (∀ q, a ≤ q → q < s.size → innerI (bt s q) = true) → wordTo s a = s.size := by
  intro n
  induction n with
  | zero => intro a h h2 _; rw [wordTo_end s a (by omega)]; omega
  | succ n ih =>
    intro a h h2 h3
    rw [wordTo_yes s a (by omega) (h3 a (by omega) (by omega))]
    exact ih (a + 1) (by omega) (by omega) (fun q h4 h5 => h3 q (by omega) h5)
theorem bt_extract (s : ByteArray) (p e q : Nat) (he : e ≤ s.size) (hq : p + q < e) : bt (s.extract p e) q = bt s (p + q) := by
  have h1 : q < (s.extract p e).size := by rw [ByteArray.size_extract]; omega
  rw [← bt_get _ q h1, ← bt_get s (p + q) (by omega)]
  congr 2
  exact ByteArray.getElem_extract ..
/-- what is known of a mark that stands behind a place -/
structure MFacts (s : ByteArray) (a : Nat) (m : Mk) : Prop where
  ge : a ≤ m.p
  one : 1 ≤ m.t.size
  le : m.p + m.t.size ≤ s.size
  piece : s.extract m.p (m.p + m.t.size) = m.t
  blanks : ∀ q, a ≤ q → q < m.p → blankI (bt s q) = true
  first : kindI (bt s m.p) = m.k
  kind : kindM m.t = (m.k, true)
  lo : 1 ≤ m.k
  hi : m.k ≤ 12
  sign : 3 < m.k → m.t.size = 1
  word : m.k ≤ 3 → ∀ q, q < m.t.size → innerI (bt m.t q) = true
  wordF : m.k ≤ 3 ↔ innerI (bt s m.p) = true
  bts : ∀ q, q < m.t.size → bt m.t q = bt s (m.p + q)
  max : m.k ≤ 3 → m.p + m.t.size < s.size → innerI (bt s (m.p + m.t.size)) = false
  lastB : 3 < m.k → innerI (bt s (m.p + m.t.size - 1)) = false
theorem mfacts (s : ByteArray) (a : Nat) (h : (nextM s a).k ≠ 0) : MFacts s a (nextM s a) := by
  have hp : (nextM s a).p = skipTo s a := nextM_p s a
  have h2 : skipTo s a < s.size ∧ kindI (bt s (skipTo s a)) ≠ 0 := by
    unfold nextM markAt at h; split at h
    · assumption
    · exact absurd rfl h
  have e : nextM s a = ⟨kindI (bt s (skipTo s a)), skipTo s a, s.extract (skipTo s a) (endM s (skipTo s a))⟩ := by
    unfold nextM markAt endM; rw [if_pos h2]
  have hE := endM_b s (skipTo s a) h2.1
  have hsz : (s.extract (skipTo s a) (endM s (skipTo s a))).size = endM s (skipTo s a) - skipTo s a := by rw [ByteArray.size_extract]; omega
  have hr := kindI_range (bt s (skipTo s a))
  rw [e]
  have hge := skipTo_ge s a
  have hbts : ∀ q, q < (s.extract (skipTo s a) (endM s (skipTo s a))).size → bt (s.extract (skipTo s a) (endM s (skipTo s a))) q = bt s (skipTo s a + q) :=
    fun q hq => bt_extract s _ _ q hE.2 (by omega)
  have hword : kindI (bt s (skipTo s a)) ≤ 3 → ∀ q, q < (s.extract (skipTo s a) (endM s (skipTo s a))).size → innerI (bt (s.extract (skipTo s a) (endM s (skipTo s a))) q) = true := by
    intro hk q hq
    rw [hbts q hq]
    by_cases h0 : q = 0
    · subst h0; exact (kindI_word s _ h2.2).1 hk
    · refine (word_inner s _ (skipTo s a + 1) (skipTo s a + q) rfl (by omega) ?_).1
      have : endM s (skipTo s a) = wordTo s (skipTo s a + 1) := by unfold endM; rw [if_pos hk]
      omega
  have hsign : 3 < kindI (bt s (skipTo s a)) → endM s (skipTo s a) = skipTo s a + 1 := by
    intro hk; unfold endM; rw [if_neg (by omega)]
  refine ⟨hge, by simp only; omega, by simp only; omega, ?_, fun q q1 q2 => (skip_blank s _ a q rfl q1 q2).1, rfl, ?_, by simp only; omega, hr.2, ?_, hword, kindI_word s _ h2.2, hbts, ?_, ?_⟩
  · simp only; rw [hsz]; congr 1; omega
  · simp only
    generalize ht : s.extract (skipTo s a) (endM s (skipTo s a)) = t at *
    have b0 : bt t 0 = bt s (skipTo s a) := hbts 0 (by omega)
    have k0 : skipTo t 0 = 0 := skipTo_no t 0 (by omega) (by rw [b0]; exact kindI_blank _ h2.2)
    have en : endM t 0 = t.size := by
      by_cases hk : kindI (bt s (skipTo s a)) ≤ 3
      · unfold endM; rw [b0, if_pos hk]
        exact wordTo_all t _ 1 rfl (by omega) (fun q q1 q2 => hword hk q q2)
      · unfold endM; rw [b0, if_neg hk]
        have := hsign (by omega); omega
    have en2 : nextM t 0 = ⟨kindI (bt s (skipTo s a)), 0, t.extract 0 (endM t 0)⟩ := by
      unfold nextM markAt; rw [k0, if_pos ⟨by omega, by rw [b0]; exact h2.2⟩, b0]
      congr 1
      unfold endM; rw [b0]
    unfold kindM
    rw [en2, if_pos ⟨h2.2, by simp only; rw [ByteArray.size_extract]; omega⟩]
  · intro hk; simp only at hk ⊢; have := hsign hk; omega
  · intro hk hl
    simp only at hk hl ⊢
    have hE2 : endM s (skipTo s a) = wordTo s (skipTo s a + 1) := by unfold endM; rw [if_pos hk]
    have e3 : skipTo s a + (s.extract (skipTo s a) (endM s (skipTo s a))).size = wordTo s (skipTo s a + 1) := by omega
    rw [e3] at hl ⊢
    exact word_max s _ _ rfl hl
  · intro hk
    simp only at hk ⊢
    have := hsign hk
    rw [show skipTo s a + (s.extract (skipTo s a) (endM s (skipTo s a))).size - 1 = skipTo s a from by omega]
    by_cases hi : innerI (bt s (skipTo s a)) = true
    · have := (kindI_word s _ h2.2).2 hi; omega
    · simpa using hi
end Go.Proofs.Ytbpipnjdfmpbdaa
