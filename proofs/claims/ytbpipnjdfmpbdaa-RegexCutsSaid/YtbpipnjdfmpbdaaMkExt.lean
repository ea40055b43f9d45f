import Derived.Test.YtbpipnjdfmpbdaaMkPre
namespace Go.Proofs.Ytbpipnjdfmpbdaa
open Go.RowKit

/-! ### plain: the marks of a longer text, and of a text cut off where a mark begins -/
theorem nextM_same (s s' : ByteArray) (k E : Nat) (hz : (nextM s k).k ≠ 0) (hE : E = (nextM s k).p + (nextM s k).t.size) (hle : E ≤ s'.size) (hbt : ∀ i, i < E → bt s' i = bt s i)
    (hex : s'.extract (nextM s k).p E = s.extract (nextM s k).p E) (hmax : (nextM s k).k ≤ 3 → E < s'.size → innerI (bt s' E) = false) : nextM s' k = nextM s k := by
  have M := mfacts s k hz
  have h1 := M.one
  have h3 := M.ge
  have hsk : skipTo s' k = (nextM s k).p := by
    rw [skipTo_run s' k ((nextM s k).p - k) (by omega) (fun j hj => by
      rw [hbt _ (by omega)]; exact M.blanks _ (by omega) (by omega)), show k + ((nextM s k).p - k) = (nextM s k).p from by omega]
    refine skipTo_no _ _ (by omega) ?_
    rw [hbt _ (by omega)]
    refine kindI_blank _ ?_
    rw [M.first]; exact hz
  have e4 : endM s' (nextM s k).p = E := by
    unfold endM
    rw [hbt _ (by omega), M.first]
    by_cases h4 : (nextM s k).k ≤ 3
    · rw [if_pos h4]
      have hr := wordTo_run' s' ((nextM s k).p + 1) ((nextM s k).t.size - 1) (by omega) (fun j hj => by
        rw [hbt _ (by omega), show (nextM s k).p + 1 + j = (nextM s k).p + (1 + j) from by omega, ← M.bts _ (by omega)]
        exact M.word h4 _ (by omega))
      rw [hr, show (nextM s k).p + 1 + ((nextM s k).t.size - 1) = E from by omega]
      by_cases hq : E < s'.size
      · exact wordTo_no _ _ hq (hmax h4 hq)
      · exact wordTo_end _ _ (by omega)
    · rw [if_neg h4]
      have := M.sign (by omega)
      omega
  have e6 : nextM s' k = ⟨kindI (bt s' (nextM s k).p), (nextM s k).p, s'.extract (nextM s k).p (endM s' (nextM s k).p)⟩ := by
    conv => lhs; unfold nextM markAt
    rw [hsk, if_pos ⟨by omega, by rw [hbt _ (by omega), M.first]; exact hz⟩]; rfl
  rw [e6, e4, hbt _ (by omega), M.first, hex, hE, M.piece]

theorem skip_max (s : ByteArray) : ∀ (n a : Nat), s.size - a = n → skipTo s a < s.size → blankI (bt s (skipTo s a)) = false := by
  intro n
  induction n with
  | zero => intro a h h2; rw [skipTo_end s a (by omega)] at h2; omega
  | succ n ih =>
    intro a h h2
    have hl : a < s.size := by omega
    by_cases hb : blankI (bt s a) = true
    · rw [skipTo_yes s a hl hb] at h2 ⊢; exact ih (a + 1) (by omega) h2
    · rw [skipTo_no s a hl (by simpa using hb)]; simpa using hb
theorem cut_ext (s s' : ByteArray) (hlt : s.size < s'.size) (hbt : ∀ i, i < s.size → bt s' i = bt s i) (hex : ∀ a b, b ≤ s.size → s'.extract a b = s.extract a b) (hsp : innerI (bt s' s.size) = false) :
    ∀ (n k : Nat), k ≤ s.size → s.size - k ≤ n → ∃ M b, cut s' k = ((cut s k).1 ++ M, b) ∧ ((cut s k).2 < s.size → M = [] ∧ b = (cut s k).2)
  | n, k, hk, hn => by
    by_cases hz : (nextM s k).k = 0
    · rw [cut_none s k hk hz]
      refine ⟨(cut s' k).1, (cut s' k).2, rfl, fun h => ?_⟩
      simp only [nextM_p] at h ⊢
      have hsk : skipTo s' k = skipTo s k := by
        rw [skipTo_run s' k (skipTo s k - k) (by have := skipTo_ge s k; omega) (fun j hj => by
          rw [hbt _ (by omega)]; exact (skip_blank s _ k (k + j) rfl (by omega) (by omega)).1), show k + (skipTo s k - k) = skipTo s k from by have := skipTo_ge s k; omega]
        refine skipTo_no _ _ (by omega) ?_
        rw [hbt _ h]
        exact skip_max s _ k rfl h
      have hz2 : (nextM s' k).k = 0 := by
        have e : (nextM s k).k = 0 := hz
        unfold nextM markAt at e ⊢
        rw [hsk, hbt _ h]
        split
        · rename_i hc
          rw [if_pos ⟨h, hc.2⟩] at e
          exact e
        · rfl
      rw [cut_none s' k (by omega) hz2, nextM_p, hsk]
      exact ⟨rfl, rfl⟩
    · have M := mfacts s k hz
      have h1 := M.one
      have h2 := M.le
      have h3 := M.ge
      have hnm : nextM s' k = nextM s k := by
        refine nextM_same s s' k _ hz rfl (by omega) (fun i hi => hbt i (by omega)) (hex _ _ h2) (fun h4 _ => ?_)
        by_cases hq : (nextM s k).p + (nextM s k).t.size < s.size
        · rw [hbt _ hq]; exact M.max h4 hq
        · rw [show (nextM s k).p + (nextM s k).t.size = s.size from by omega]; exact hsp
      cases n with
      | zero => omega
      | succ n =>
        obtain ⟨N, b, e, hb⟩ := cut_ext s s' hlt hbt hex hsp n ((nextM s k).p + (nextM s k).t.size) h2 (by omega)
        refine ⟨N, b, ?_, ?_⟩
        · rw [cut_some s' k (by omega) (by rw [hnm]; exact hz), hnm, e, cut_some s k hk hz]; rfl
        · rw [cut_some s k hk hz]; exact hb

theorem cut_at (s : ByteArray) : ∀ (n k p : Nat) (m : Mk), k ≤ s.size → s.size - k ≤ n → (cut s k).1[p]? = some m → k ≤ m.p ∧ m.p ≤ s.size ∧ cut (s.extract 0 m.p) k = ((cut s k).1.take p, m.p)
  | n, k, p, m, hk, hn, hm => by
    by_cases hz : (nextM s k).k = 0
    · rw [cut_none s k hk hz] at hm; simp at hm
    · have M := mfacts s k hz
      have h1 := M.one
      have h2 := M.le
      have h3 := M.ge
      rw [cut_some s k hk hz] at hm ⊢
      have hbt : ∀ q, q ≤ s.size → ∀ i, i < q → bt (s.extract 0 q) i = bt s i := fun q hq i hi => by
        have := bt_extract s 0 q i hq (by omega)
        rwa [Nat.zero_add] at this
      cases p with
      | zero =>
        simp only [List.getElem?_cons_zero, Option.some.injEq] at hm
        subst hm
        refine ⟨h3, by omega, ?_⟩
        have hbl : ∀ q, k ≤ q → q < (nextM s k).p → blankI (bt s q) = true := M.blanks
        clear M
        generalize (nextM s k).t.size = z at *
        have e0 : (nextM s k :: (cut s ((nextM s k).p + z)).1).take 0 = [] := rfl
        rw [e0]
        generalize (nextM s k).p = a at *
        clear e0 hz
        have hts : (s.extract 0 a).size = a := by rw [ByteArray.size_extract]; omega
        have hsk : skipTo (s.extract 0 a) k = a := by
          rw [skipTo_run _ k (a - k) (by omega) (fun j hj => by
            rw [hbt _ (by omega) _ (by omega)]; exact hbl _ (by omega) (by omega)), show k + (a - k) = a from by omega]
          exact skipTo_end _ _ (by omega)
        have hz2 : (nextM (s.extract 0 a) k).k = 0 := by
          unfold nextM markAt; rw [hsk, if_neg (by omega)]
        rw [cut_none _ k (by omega) hz2, nextM_p, hsk]
      | succ p =>
        simp only [List.getElem?_cons_succ] at hm
        cases n with
        | zero => omega
        | succ n =>
          obtain ⟨i1, hmp, i2⟩ := cut_at s n _ p m h2 (by omega) hm
          have hts : (s.extract 0 m.p).size = m.p := by rw [ByteArray.size_extract]; omega
          have hnm : nextM (s.extract 0 m.p) k = nextM s k := by
            refine nextM_same s _ k _ hz rfl (by omega) (fun i hi => hbt _ hmp i (by omega)) (extract_pre s _ _ _ (by omega)) (fun h4 hq => ?_)
            rw [hbt _ hmp _ (by omega)]; exact M.max h4 (by omega)
          refine ⟨by omega, hmp, ?_⟩
          rw [cut_some _ k (by omega) (by rw [hnm]; exact hz), hnm, i2]; rfl
end Go.Proofs.Ytbpipnjdfmpbdaa
