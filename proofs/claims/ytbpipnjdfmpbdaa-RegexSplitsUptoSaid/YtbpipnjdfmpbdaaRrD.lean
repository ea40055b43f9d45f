import Derived.Test.YtbpipnjdfmpbdaaRrC
namespace Go.Proofs.Ytbpipnjdfmpbdaa
open Go.RowKit

/-! ### plain: the walk over the marks stops where the reader stops -/
def pl (L : List Mk) (en : Int) (b : Bool) (p : Nat) (o : Int) (w : Bool) : Int := placeF L en b (L.length - p) p o w
theorem pl_step {L : List Mk} {en : Int} {b : Bool} {p : Nat} {o o' : Int} {w w' : Bool} (hp : p < L.length) (h : nextS o w (kd L p) = (o', w', true)) : pl L en b p o w = pl L en b (p + 1) o' w' := by
  unfold pl
  rw [show L.length - p = (L.length - (p + 1)) + 1 from by omega]
  conv => lhs; unfold placeF
  rw [h, if_pos rfl]
theorem plcR_end (L : List Mk) (en : Int) : plcR L en L.length = en := by unfold plcR; rw [List.getElem?_eq_none (Nat.le_refl _)]
theorem pl_stuck {L : List Mk} {en : Int} {b : Bool} {p : Nat} {o : Int} {w : Bool} (hp : p ≤ L.length) (h1 : p < L.length → (nextS o w (kd L p)).2.2 = false) (h2 : p = L.length → w = true ∨ 0 < o) : pl L en b p o w = plcR L en p := by
  unfold pl
  by_cases hlt : p < L.length
  · rw [show L.length - p = (L.length - (p + 1)) + 1 from by omega]
    unfold placeF
    rw [h1 hlt, if_neg (by simp)]
  · obtain rfl : p = L.length := by omega
    rw [Nat.sub_self]
    unfold placeF
    rw [if_pos (.inr (h2 rfl)), plcR_end]
structure Au (L : List Mk) (p : Nat) (r : PR) (fol : Int → Prop) : Prop where
  good : r.ok = true → ∀ en b o, 0 ≤ o → pl L en b p o true = pl L en b r.p o false
  bad : r.ok = false → ∀ en b o, 0 ≤ o → pl L en b p o true = plcR L en r.p
  fol : r.ok = true → fol (kd L r.p)
def folU (k : Int) : Prop := sufK k = 0
def folP (k : Int) : Prop := sufK k = 0 ∧ beginsI k = false
def folE (k : Int) : Prop := sufK k = 0 ∧ beginsI k = false ∧ k ≠ 6
theorem suf_cases {k : Int} (h : sufK k ≠ 0) : k = 7 ∨ k = 8 ∨ k = 9 := by
  unfold sufK at h
  split at h
  · exact .inl ‹_›
  · split at h
    · exact .inr (.inl ‹_›)
    · split at h
      · exact .inr (.inr ‹_›)
      · exact absurd rfl h
theorem suf_not {k : Int} (h : sufK k = 0) : k ≠ 7 ∧ k ≠ 8 ∧ k ≠ 9 := by
  refine ⟨?_, ?_, ?_⟩ <;> (rintro rfl; revert h; decide)
theorem next_begin {o : Int} {w : Bool} {k : Int} (h : beginsI k = true) (h10 : k ≠ 10) : nextS o w k = (o, false, true) := by
  unfold nextS; rw [if_pos h, if_neg h10]
theorem next_open (o : Int) (w : Bool) : nextS o w 10 = (o + 1, true, true) := rfl
theorem next_close {o : Int} (h : 0 < o) : nextS o false 11 = (o - 1, false, true) := by
  unfold nextS; rw [if_neg (by decide), if_neg (by decide), if_neg (by decide), if_pos rfl]; simp [h]
theorem next_bar (o : Int) : nextS o false 6 = (o, true, true) := rfl
theorem next_suf {o : Int} {k : Int} (h : sufK k ≠ 0) : nextS o false k = (o, false, true) := by
  rcases suf_cases h with rfl | rfl | rfl <;> rfl
theorem next_want {o : Int} {k : Int} (h : beginsI k = false) : (nextS o true k).2.2 = false := by
  unfold nextS; rw [if_neg (by simp [h]), if_pos rfl]
theorem next_fol {o : Int} {k : Int} (h : folE k) (h11 : k = 11 → ¬ 0 < o) : (nextS o false k).2.2 = false := by
  obtain ⟨h1, h2, h3⟩ := h
  obtain ⟨s1, s2, s3⟩ := suf_not h1
  unfold nextS
  rw [if_neg (by simp [h2]), if_neg (by decide), if_neg h3]
  split
  · rename_i h; simpa using h11 h
  · simp [s1, s2, s3]
theorem pl_begin {L : List Mk} {en : Int} {b : Bool} {p : Nat} {o : Int} (h : beginsI (kd L p) = true) : pl L en b p o false = pl L en b p o true := by
  have hp := begins_lt h
  by_cases h10 : kd L p = 10
  · rw [pl_step hp (by rw [h10]; exact next_open o false), pl_step hp (by rw [h10]; exact next_open o true)]
  · rw [pl_step hp (next_begin h h10), pl_step hp (next_begin h h10)]

theorem sufK_lt' {L : List Mk} {p : Nat} (h : ¬ sufK (kd L p) = 0) : p < L.length := by
  refine kd_lt ?_
  intro h0; rw [h0] at h; exact h rfl
theorem pAtom_no' {E : Nat → PR} {L : List Mk} {p : Nat} (h : beginsI (kd L p) = false) : pAtom E L p = ⟨false, .nil, p⟩ := by unfold pAtom; rw [if_neg (by simp [h])]
theorem pAtom_op' {E : Nat → PR} {L : List Mk} {p : Nat} (h : kd L p = 10) : pAtom E L p = if (E (p + 1)).ok then (if kd L (E (p + 1)).p = 11 then ⟨true, (E (p + 1)).f, (E (p + 1)).p + 1⟩ else ⟨false, .nil, (E (p + 1)).p⟩) else E (p + 1) := by unfold pAtom; rw [h]; rfl
theorem pAtom_leaf {E : Nat → PR} {L : List Mk} {p : Nat} (h : beginsI (kd L p) = true) (h10 : kd L p ≠ 10) : ∃ f, pAtom E L p = ⟨true, f, p + 1⟩ := by
  unfold pAtom
  rw [if_pos h]
  rcases begins_cases h with h1 | h1 | h1 | h1
  · rw [if_pos h1]; exact ⟨_, rfl⟩
  · rw [if_neg (by omega), if_pos h1]; exact ⟨_, rfl⟩
  · rw [if_neg (by omega), if_neg (by omega), if_pos h1]; exact ⟨_, rfl⟩
  · exact absurd h1 h10
theorem pAtom_au {E : Nat → PR} {L : List Mk} {p : Nat} (hp : p ≤ L.length) (hB : p + 1 ≤ L.length → PB L (p + 1) (E (p + 1))) (hE : p + 1 ≤ L.length → Au L (p + 1) (E (p + 1)) folE) : Au L p (pAtom E L p) (fun _ => True) := by
  cases hb : beginsI (kd L p) with
  | false =>
    rw [pAtom_no' hb]
    exact ⟨fun h => by simp at h, fun _ en b o _ => pl_stuck hp (fun _ => next_want hb) (fun _ => .inl rfl), fun _ => trivial⟩
  | true =>
    have hlt := begins_lt hb
    by_cases h10 : kd L p = 10
    · have H := hE hlt
      have HB := hB hlt
      rw [pAtom_op' h10]
      have s0 : ∀ en b o, pl L en b p o true = pl L en b (p + 1) (o + 1) true := fun en b o => pl_step hlt (by rw [h10]; exact next_open o true)
      generalize E (p + 1) = r at *
      obtain ⟨ok, f, q⟩ := r
      cases ok with
      | false => exact ⟨fun h => by simp at h, fun _ en b o ho => by simp only [Bool.false_eq_true, if_false]; rw [s0, H.bad rfl en b _ (by omega)], fun h => by simp at h⟩
      | true =>
        simp only [if_true]
        have hq := HB.le
        simp only at hq
        by_cases hc : kd L q = 11
        · rw [if_pos hc]
          have hql := kd_lt (L := L) (p := q) (by omega)
          refine ⟨fun _ en b o ho => ?_, fun h => by simp at h, fun _ => trivial⟩
          rw [s0, H.good rfl en b _ (by omega)]
          simp only
          rw [pl_step hql (by rw [hc]; exact next_close (by omega)), show o + 1 - 1 = o from by omega]
        · rw [if_neg hc]
          refine ⟨fun h => by simp at h, fun _ en b o ho => ?_, fun h => by simp at h⟩
          rw [s0, H.good rfl en b _ (by omega)]
          exact pl_stuck hq (fun _ => next_fol (H.fol rfl) (fun h => absurd h hc)) (fun _ => .inr (by omega))
    · obtain ⟨f, hf⟩ := pAtom_leaf (E := E) hb h10
      rw [hf]
      exact ⟨fun _ en b o _ => pl_step hlt (next_begin hb h10), fun h => by simp at h, fun _ => trivial⟩
theorem pSuf_au {L : List Mk} {p0 : Nat} : ∀ (m p : Nat) (f : Fo), L.length - p ≤ m → Au L p0 ⟨true, f, p⟩ (fun _ => True) → Au L p0 (pSuf L m p f) folU
  | 0, p, f, hm, h => ⟨h.good, h.bad, fun _ => by
      have : kd L p = 0 := kd_none (by omega)
      show sufK (kd L p) = 0
      rw [this]; rfl⟩
  | m + 1, p, f, hm, h => by
    unfold pSuf
    split
    · rename_i hs
      exact ⟨h.good, h.bad, fun _ => hs⟩
    · rename_i hs
      have hlt := sufK_lt' hs
      refine pSuf_au m (p + 1) _ (by omega) ⟨fun _ en b o ho => ?_, fun h => by simp at h, fun _ => trivial⟩
      rw [h.good rfl en b o ho]
      exact pl_step hlt (next_suf hs)
theorem pUnit_au {E : Nat → PR} {L : List Mk} {p : Nat} (h : Au L p (pAtom E L p) (fun _ => True)) : Au L p (pUnit E L p) folU := by
  unfold pUnit
  generalize pAtom E L p = r at *
  obtain ⟨ok, f, q⟩ := r
  cases ok with
  | false => exact ⟨fun h => by simp at h, h.bad, fun h => by simp at h⟩
  | true => simp only [if_true]; exact pSuf_au _ _ _ (Nat.le_refl _) h
theorem pMany_au' {L : List Mk} {p0 lo : Nat} {S : Nat → Option PR} {k : Int} {f0 f1 : Int → Prop} (hSb : ∀ p r, lo ≤ p → p ≤ L.length → S p = some r → p < L.length ∧ (r.ok = true → p < r.p ∧ r.p ≤ L.length)) (hSg : ∀ p r, lo ≤ p → p ≤ L.length → f0 (kd L p) → S p = some r → (r.ok = true → ∀ en b o, 0 ≤ o → pl L en b p o false = pl L en b r.p o false) ∧ (r.ok = false → ∀ en b o, 0 ≤ o → pl L en b p o false = plcR L en r.p) ∧ (r.ok = true → f0 (kd L r.p)))
    (hn : ∀ p, p ≤ L.length → f0 (kd L p) → S p = none → f1 (kd L p)) :
    ∀ (m p : Nat) (f : Fo) (n : Nat), lo ≤ p → p ≤ L.length → L.length - p ≤ m → Au L p0 ⟨true, f, p⟩ f0 → Au L p0 (pMany S k m p f n) f1
  | 0, p, f, n, hlo, hp, hm, h => by
    unfold pMany
    refine ⟨h.good, fun h => by simp at h, fun _ => hn p hp (h.fol rfl) ?_⟩
    cases hs : S p with
    | none => rfl
    | some r => have := (hSb p r hlo hp hs).1; omega
  | m + 1, p, f, n, hlo, hp, hm, h => by
    unfold pMany
    cases hs : S p with
    | none => exact ⟨h.good, fun h => by simp at h, fun _ => hn p hp (h.fol rfl) hs⟩
    | some r =>
      obtain ⟨g1, g2, g3⟩ := hSg p r hlo hp (h.fol rfl) hs
      obtain ⟨b1, b2⟩ := hSb p r hlo hp hs
      simp only
      cases hok : r.ok with
      | true =>
        rw [if_pos rfl]
        have b3 := b2 hok
        refine pMany_au' hSb hSg hn m r.p _ _ (by omega) b3.2 (by omega) ⟨fun _ en b o ho => ?_, fun h => by simp at h, fun _ => g3 hok⟩
        rw [h.good rfl en b o ho]
        exact g1 hok en b o ho
      | false =>
        rw [if_neg (by simp)]
        refine ⟨fun h => absurd h (by simp [hok]), fun _ en b o ho => ?_, fun h => absurd h (by simp [hok])⟩
        rw [h.good rfl en b o ho]
        exact g2 hok en b o ho
theorem pPart_au {E : Nat → PR} {L : List Mk} {p : Nat} (hp : p ≤ L.length) (hB : ∀ q, q ≤ L.length → PB L q (E q)) (hU : ∀ q, p ≤ q → q ≤ L.length → Au L q (pUnit E L q) folU) : Au L p (pPart E L p) folP := by
  have H := hU p (Nat.le_refl _) hp
  have HB := pUnit_b (E := E) hp (fun h => hB _ h)
  unfold pPart
  have hS : ∀ q r, q ≤ L.length → sPart E L q = some r → beginsI (kd L q) = true ∧ r = pUnit E L q := by
    intro q r _ hs
    unfold sPart at hs
    split at hs
    · rename_i hb; simp only [Option.some.injEq] at hs; exact ⟨hb, hs.symm⟩
    · cases hs
  generalize hr : pUnit E L p = r at *
  obtain ⟨ok, f, q⟩ := r
  cases ok with
  | false => exact ⟨fun h => by simp at h, H.bad, fun h => by simp at h⟩
  | true =>
    simp only [if_true]
    have hq := HB.le
    have hpq := HB.ge
    simp only at hq hpq
    refine pMany_au' (lo := p) (f0 := folU) ?_ ?_ ?_ _ _ _ _ hpq hq (Nat.le_refl _) H
    · intro q r _ hql hs
      obtain ⟨hb, rfl⟩ := hS q r hql hs
      have G := pUnit_b (E := E) (p := q) hql (fun h => hB _ h)
      exact ⟨begins_lt hb, fun h => ⟨G.lt h, G.le⟩⟩
    · intro q r hlo hql _ hs
      obtain ⟨hb, rfl⟩ := hS q r hql hs
      have G := hU q hlo hql
      exact ⟨fun h en b o ho => by rw [pl_begin hb]; exact G.good h en b o ho, fun h en b o ho => by rw [pl_begin hb]; exact G.bad h en b o ho, G.fol⟩
    · intro q hql hf hs
      refine ⟨hf, ?_⟩
      unfold sPart at hs
      split at hs
      · cases hs
      · rename_i hb; simpa using hb
theorem pExprS_au {E : Nat → PR} {L : List Mk} {p : Nat} (hp : p ≤ L.length) (hB : ∀ q, q ≤ L.length → PB L q (E q)) (hU : ∀ q, p ≤ q → q ≤ L.length → Au L q (pPart E L q) folP) : Au L p (pExprS E L p) folE := by
  have H := hU p (Nat.le_refl _) hp
  have HB := pPart_b (E := E) hp (fun q _ h => hB q h)
  unfold pExprS
  have hS : ∀ q r, q ≤ L.length → sExpr E L q = some r → kd L q = 6 ∧ r = pPart E L (q + 1) := by
    intro q r _ hs
    unfold sExpr at hs
    split at hs
    · rename_i hb; simp only [Option.some.injEq] at hs; exact ⟨hb, hs.symm⟩
    · cases hs
  generalize hr : pPart E L p = r at *
  obtain ⟨ok, f, q⟩ := r
  cases ok with
  | false => exact ⟨fun h => by simp at h, H.bad, fun h => by simp at h⟩
  | true =>
    simp only [if_true]
    have hq := HB.le
    have hpq := HB.ge
    simp only at hq hpq
    refine pMany_au' (lo := p) (f0 := folP) ?_ ?_ ?_ _ _ _ _ hpq hq (Nat.le_refl _) H
    · intro q r _ hql hs
      obtain ⟨hb, rfl⟩ := hS q r hql hs
      have hlt := kd_lt (L := L) (p := q) (by omega)
      have G := pPart_b (E := E) (p := q + 1) hlt (fun x _ h => hB x h)
      exact ⟨hlt, fun h => ⟨by have := G.lt h; omega, G.le⟩⟩
    · intro q r hlo hql _ hs
      obtain ⟨hb, rfl⟩ := hS q r hql hs
      have hlt := kd_lt (L := L) (p := q) (by omega)
      have G := hU (q + 1) (by omega) hlt
      have st : ∀ en b o, pl L en b q o false = pl L en b (q + 1) o true := fun en b o => pl_step hlt (by rw [hb]; exact next_bar o)
      exact ⟨fun h en b o ho => by rw [st]; exact G.good h en b o ho, fun h en b o ho => by rw [st]; exact G.bad h en b o ho, G.fol⟩
    · intro q hql hf hs
      refine ⟨hf.1, hf.2, ?_⟩
      unfold sExpr at hs
      split at hs
      · cases hs
      · assumption
theorem pExpr_au (L : List Mk) : ∀ (n p : Nat), p ≤ L.length → L.length - p < n → Au L p (pExpr L n p) folE
  | 0, p, _, h => by omega
  | n + 1, p, hp, h => by
    have hB : ∀ q, q ≤ L.length → PB L q (pExpr L n q) := fun q hq => pExpr_b L n q hq
    have hU : ∀ q, p ≤ q → q ≤ L.length → Au L q (pUnit (pExpr L n) L q) folU := fun q hpq hq =>
      pUnit_au (pAtom_au hq (fun h => hB _ h) (fun h2 => pExpr_au L n (q + 1) h2 (by omega)))
    exact pExprS_au hp hB (fun q hpq hq => pPart_au hq hB (fun x hx hx2 => hU x (by omega) hx2))
theorem place_parsed (L : List Mk) (en : Int) (b : Bool) : placeF L en b L.length 0 0 true =
    if (pExpr L (L.length + 1) 0).ok = true ∧ (pExpr L (L.length + 1) 0).p = L.length ∧ b = false then -1 else plcR L en (pExpr L (L.length + 1) 0).p := by
  have H := pExpr_au L (L.length + 1) 0 (by omega) (by omega)
  have HB := (pExpr_b L (L.length + 1) 0 (by omega)).le
  have e : placeF L en b L.length 0 0 true = pl L en b 0 0 true := rfl
  rw [e]
  generalize pExpr L (L.length + 1) 0 = r at *
  obtain ⟨ok, f, q⟩ := r
  cases ok with
  | false => rw [if_neg (by simp), H.bad rfl en b 0 (by omega)]
  | true =>
    rw [H.good rfl en b 0 (by omega)]
    simp only at HB ⊢
    by_cases hq : q = L.length
    · subst hq
      cases b with
      | false => rw [if_pos (by simp)]; unfold pl; rw [Nat.sub_self]; unfold placeF; rw [if_neg (by simp)]
      | true => rw [if_neg (by simp)]; unfold pl; rw [Nat.sub_self]; unfold placeF; rw [if_pos (.inl rfl), plcR_end]
    · rw [if_neg (by simp [hq])]
      exact pl_stuck HB (fun _ => next_fol (H.fol rfl) (fun _ => by omega)) (fun h => absurd h hq)
end Go.Proofs.Ytbpipnjdfmpbdaa
