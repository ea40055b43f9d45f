import Derived.Test.YtbpipnjdfmpbdaaMkQ
namespace Go.Proofs.Ytbpipnjdfmpbdaa
open Go.RowKit

/-! ### plain: a text cut off where its marks end -/
theorem skipTo_run (s : ByteArray) (a : Nat) : ∀ n, a + n ≤ s.size → (∀ j, j < n → blankI (bt s (a + j)) = true) → skipTo s a = skipTo s (a + n) := by
  intro n
  induction n with
  | zero => intro _ _; rfl
  | succ n ih =>
    intro h hb
    rw [ih (by omega) (fun j hj => hb j (by omega)), skipTo_yes s (a + n) (by omega) (hb n (by omega))]
    rfl
theorem wordTo_run' (s : ByteArray) (a : Nat) : ∀ n, a + n ≤ s.size → (∀ j, j < n → innerI (bt s (a + j)) = true) → wordTo s a = wordTo s (a + n) := by
  intro n
  induction n with
  | zero => intro _ _; rfl
  | succ n ih =>
    intro h hb
    rw [ih (by omega) (fun j hj => hb j (by omega)), wordTo_yes s (a + n) (by omega) (hb n (by omega))]
    rfl
theorem extract_pre (s : ByteArray) (q a b : Nat) (hb : b ≤ q) : (s.extract 0 q).extract a b = s.extract a b := by
  apply ByteArray.ext
  simp only [ByteArray.data_extract, Array.extract_extract, Nat.zero_add]
  congr 1
  omega
theorem cut_pre (s : ByteArray) : ∀ (n k q : Nat), k ≤ s.size → s.size - k ≤ n → (cut s k).2 = q → cut (s.extract 0 q) k = ((cut s k).1, q)
  | n, k, q, hk, hn, hq => by
    have hql : q ≤ s.size := by rw [← hq]; exact (cut_len s s.size k hk (by omega)).2.2
    have hkq : k ≤ q := by rw [← hq]; exact (cut_len s s.size k hk (by omega)).2.1
    have hts : (s.extract 0 q).size = q := by rw [ByteArray.size_extract]; omega
    have hbt : ∀ i, i < q → bt (s.extract 0 q) i = bt s i := fun i hi => by
      have := bt_extract s 0 q i hql (by omega)
      rwa [Nat.zero_add] at this
    by_cases hz : (nextM s k).k = 0
    · rw [cut_none s k hk hz] at hq ⊢
      rw [nextM_p] at hq
      simp only at hq
      have h1 : skipTo (s.extract 0 q) k = q := by
        rw [skipTo_run (s.extract 0 q) k (q - k) (by omega) (fun j hj => by
          rw [hbt _ (by omega)]
          exact (skip_blank s _ k (k + j) rfl (by omega) (by omega)).1), show k + (q - k) = q from by omega]
        exact skipTo_end _ _ (by omega)
      have h2 : (nextM (s.extract 0 q) k).k = 0 := by
        unfold nextM markAt; rw [h1, if_neg (by omega)]
      rw [cut_none _ k (by omega) h2, nextM_p, h1]
    · have M := mfacts s k hz
      have h1 := M.one
      have h2 := M.le
      have h3 := M.ge
      rw [cut_some s k hk hz] at hq ⊢
      simp only at hq
      have hE : (nextM s k).p + (nextM s k).t.size ≤ q := by rw [← hq]; exact (cut_len s s.size _ h2 (by omega)).2.1
      have hp : (nextM s k).p = skipTo s k := nextM_p s k
      have hsk : skipTo (s.extract 0 q) k = (nextM s k).p := by
        have e1 : skipTo (s.extract 0 q) k = skipTo (s.extract 0 q) (nextM s k).p := by
          rw [skipTo_run (s.extract 0 q) k ((nextM s k).p - k) (by omega) (fun j hj => by
            rw [hbt _ (by omega)]
            exact (skip_blank s _ k (k + j) rfl (by omega) (by omega)).1), show k + ((nextM s k).p - k) = (nextM s k).p from by omega]
        rw [e1]
        refine skipTo_no _ _ (by omega) ?_
        rw [hbt _ (by omega)]
        refine kindI_blank _ ?_
        rw [M.first]; exact hz
      have hnm : nextM (s.extract 0 q) k = nextM s k := by
        have e2 : nextM s k = ⟨kindI (bt s (nextM s k).p), (nextM s k).p, s.extract (nextM s k).p (endM s (nextM s k).p)⟩ := by
          conv => lhs; unfold nextM markAt
          rw [← hp, if_pos ⟨by omega, by rw [M.first]; exact hz⟩]; rfl
        have e3 : (nextM s k).p + (nextM s k).t.size = endM s (nextM s k).p := by
          have hb := endM_b s (nextM s k).p (by omega)
          have := congrArg (fun m : Mk => m.t.size) e2
          simp only [ByteArray.size_extract] at this
          omega
        have e4 : endM (s.extract 0 q) (nextM s k).p = endM s (nextM s k).p := by
          unfold endM
          rw [hbt _ (by omega)]
          by_cases h4 : kindI (bt s (nextM s k).p) ≤ 3
          · rw [if_pos h4, if_pos h4]
            have e5 : endM s (nextM s k).p = wordTo s ((nextM s k).p + 1) := by unfold endM; rw [if_pos h4]
            have hr := wordTo_run' (s.extract 0 q) ((nextM s k).p + 1) ((nextM s k).t.size - 1) (by omega) (fun j hj => by
              rw [hbt _ (by omega)]
              exact (word_inner s _ ((nextM s k).p + 1) _ rfl (by omega) (by rw [← e5, ← e3]; omega)).1)
            rw [hr, show (nextM s k).p + 1 + ((nextM s k).t.size - 1) = (nextM s k).p + (nextM s k).t.size from by omega, ← e5, e3]
            by_cases hq2 : endM s (nextM s k).p < q
            · refine wordTo_no _ _ (by omega) ?_
              rw [hbt _ hq2, e5]
              exact word_max s _ _ rfl (by rw [← e5]; omega)
            · exact wordTo_end _ _ (by omega)
          · rw [if_neg h4, if_neg h4]
        have e6 : nextM (s.extract 0 q) k = ⟨kindI (bt (s.extract 0 q) (nextM s k).p), (nextM s k).p, (s.extract 0 q).extract (nextM s k).p (endM (s.extract 0 q) (nextM s k).p)⟩ := by
          conv => lhs; unfold nextM markAt
          rw [hsk, if_pos ⟨by omega, by rw [hbt _ (by omega), M.first]; exact hz⟩]; rfl
        rw [e6, e4, hbt _ (by omega), extract_pre s q _ _ (by omega)]
        exact e2.symm
      have hnz : (nextM (s.extract 0 q) k).k ≠ 0 := by rw [hnm]; exact hz
      cases n with
      | zero => omega
      | succ n =>
        have ih := cut_pre s n ((nextM s k).p + (nextM s k).t.size) q h2 (by omega) hq
        rw [cut_some _ k (by omega) hnz, hnm, ih]
end Go.Proofs.Ytbpipnjdfmpbdaa
