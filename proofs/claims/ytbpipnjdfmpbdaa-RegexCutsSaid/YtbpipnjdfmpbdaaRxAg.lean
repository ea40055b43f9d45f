import Derived.Test.YtbpipnjdfmpbdaaRxP
namespace Go.Proofs.Ytbpipnjdfmpbdaa
open Go.RowKit

/-! ### plain: two lists of marks that agree up to a place are read alike up to it -/
def Ag (L L' : List Mk) (m : Nat) : Prop := ∀ i, i < m → kd L i = kd L' i ∧ tx L i = tx L' i
def EAg (E E' : Nat → PR) (L L' : List Mk) (m p0 : Nat) : Prop := ∀ q, p0 < q → q ≤ L.length → q ≤ L'.length → (E q).p < m → E' q = E q
def EB (E : Nat → PR) (L : List Mk) (p0 : Nat) : Prop := ∀ q, p0 < q → q ≤ L.length → PB L q (E q)
theorem pAtom_ag {E E' : Nat → PR} {L L' : List Mk} {m p0 p : Nat} (hA : Ag L L' m) (hE : EAg E E' L L' m p0) (hB : EB E L p0) (hp : p0 ≤ p) (h : (pAtom E L p).p < m) : pAtom E' L' p = pAtom E L p := by
  cases hb : beginsI (kd L p) with
  | false =>
    have e : pAtom E L p = ⟨false, .nil, p⟩ := by unfold pAtom; rw [if_neg (by simp [hb])]
    rw [e] at h ⊢
    simp only at h
    have hk := (hA p h).1
    unfold pAtom; rw [← hk, if_neg (by simp [hb])]
  | true =>
    have hlt := begins_lt hb
    have hge : p < m := by
      have := (pAtom_b (E := E) (L := L) (p := p) (by omega) (fun h => hB _ (by omega) h)).ge
      omega
    obtain ⟨hk, ht⟩ := hA p hge
    have hlt' : p < L'.length := begins_lt (by rw [← hk]; exact hb)
    have HE := hE (p + 1) (by omega) (by omega) (by omega)
    unfold pAtom at h ⊢
    rw [if_pos hb] at h
    rw [← hk, ← ht, if_pos hb, if_pos hb]
    split
    · rfl
    · rename_i h1
      rw [if_neg h1] at h
      split
      · rfl
      · rename_i h2
        rw [if_neg h2] at h
        split
        · rfl
        · rename_i h3
          rw [if_neg h3] at h
          have hx : (E (p + 1)).p < m := by
            split at h
            · split at h
              · simp only at h; omega
              · exact h
            · exact h
          rw [HE hx, ← (hA _ hx).1]
theorem pSuf_geA {L : List Mk} : ∀ (a p : Nat) (f : Fo), p ≤ (pSuf L a p f).p
  | 0, p, f => Nat.le_refl _
  | a + 1, p, f => by
    unfold pSuf
    split
    · exact Nat.le_refl _
    · have := pSuf_geA (L := L) a (p + 1) (.cons ⟨sufK (kd L p), ⟨#[]⟩, 1⟩ f .nil); omega
theorem pSuf_ag {L L' : List Mk} {m : Nat} (hA : Ag L L' m) : ∀ (a b p : Nat) (f : Fo), L.length - p ≤ a → L'.length - p ≤ b → (pSuf L a p f).p < m → pSuf L' b p f = pSuf L a p f
  | 0, b, p, f, ha, hb, h => by
    have hpm : p < m := h
    have hk := (hA p hpm).1
    rw [kd_none (by omega)] at hk
    cases b with
    | zero => rfl
    | succ b => show (if sufK (kd L' p) = 0 then _ else _) = _; rw [← hk]; rfl
  | a + 1, b, p, f, ha, hb, h => by
    have hpm : p < m := by have := pSuf_geA (L := L) (a + 1) p f; omega
    have hk := (hA p hpm).1
    unfold pSuf at h
    by_cases hs : sufK (kd L p) = 0
    · have e : pSuf L (a + 1) p f = ⟨true, f, p⟩ := by unfold pSuf; rw [if_pos hs]
      rw [e]
      cases b with
      | zero => rfl
      | succ b => unfold pSuf; rw [← hk, if_pos hs]
    · rw [if_neg hs] at h
      have e : pSuf L (a + 1) p f = pSuf L a (p + 1) (.cons ⟨sufK (kd L p), ⟨#[]⟩, 1⟩ f .nil) := by
        conv => lhs; unfold pSuf
        rw [if_neg hs]
      have hlt' : p < L'.length := sufK_lt (by rw [← hk]; exact hs)
      cases b with
      | zero => omega
      | succ b =>
        have e' : pSuf L' (b + 1) p f = pSuf L' b (p + 1) (.cons ⟨sufK (kd L p), ⟨#[]⟩, 1⟩ f .nil) := by
          conv => lhs; unfold pSuf
          rw [← hk, if_neg hs]
        rw [e, e']
        exact pSuf_ag hA a b (p + 1) _ (by omega) (by omega) h
theorem pUnit_ag {E E' : Nat → PR} {L L' : List Mk} {m p0 p : Nat} (hA : Ag L L' m) (hE : EAg E E' L L' m p0) (hB : EB E L p0) (hp : p0 ≤ p) (h : (pUnit E L p).p < m) : pUnit E' L' p = pUnit E L p := by
  unfold pUnit at h ⊢
  cases hok : (pAtom E L p).ok with
  | true =>
    rw [hok, if_pos rfl] at h
    have hx : (pAtom E L p).p < m := by have := pSuf_geA (L := L) (L.length - (pAtom E L p).p) (pAtom E L p).p (pAtom E L p).f; omega
    rw [pAtom_ag hA hE hB hp hx, hok, if_pos rfl, if_pos rfl]
    exact pSuf_ag hA _ _ _ _ (Nat.le_refl _) (Nat.le_refl _) h
  | false =>
    rw [hok, if_neg (by simp)] at h
    rw [pAtom_ag hA hE hB hp h, hok, if_neg (by simp), if_neg (by simp)]
/-- what a step of a loop must keep -/
structure StAg (S S' : Nat → Option PR) (L L' : List Mk) (m p0 : Nat) : Prop where
  no : ∀ q, p0 ≤ q → q < m → S q = none → S' q = none
  yes : ∀ q r, p0 ≤ q → q < m → S q = some r → r.p < m → S' q = some r
  lt : ∀ q r, p0 ≤ q → S q = some r → q < L.length ∧ q ≤ r.p ∧ (r.ok = true → q < r.p)
  lt' : ∀ q r, p0 ≤ q → S' q = some r → q < L'.length
theorem pMany_geA {S S' : Nat → Option PR} {L L' : List Mk} {m p0 : Nat} {k : Int} (H : StAg S S' L L' m p0) : ∀ (a p : Nat) (f : Fo) (n : Nat), p0 ≤ p → p ≤ (pMany S k a p f n).p
  | 0, p, f, n, _ => Nat.le_refl _
  | a + 1, p, f, n, hp => by
    unfold pMany
    cases hs : S p with
    | none => exact Nat.le_refl _
    | some r =>
      obtain ⟨h1, h2, h3⟩ := H.lt p r hp hs
      simp only
      split
      · have := pMany_geA (k := k) H a r.p (f.app r.f) (n + 1) (by omega); omega
      · exact h2
theorem pMany_ag {S S' : Nat → Option PR} {L L' : List Mk} {m p0 : Nat} {k : Int} (H : StAg S S' L L' m p0) : ∀ (a b p : Nat) (f : Fo) (n : Nat), p0 ≤ p → L.length - p ≤ a → L'.length - p ≤ b → (pMany S k a p f n).p < m → pMany S' k b p f n = pMany S k a p f n
  | 0, b, p, f, n, hp, ha, hb, h => by
    have hpm : p < m := h
    have hn : S p = none := by
      cases hs : S p with
      | none => rfl
      | some r => have := (H.lt p r hp hs).1; omega
    have hn' := H.no p hp hpm hn
    cases b with
    | zero => rfl
    | succ b => unfold pMany; rw [hn']
  | a + 1, b, p, f, n, hp, ha, hb, h => by
    have hpm : p < m := by have := pMany_geA (k := k) H (a + 1) p f n hp; omega
    cases hs : S p with
    | none =>
      have e : pMany S k (a + 1) p f n = ⟨true, wrapF k n f, p⟩ := by unfold pMany; rw [hs]
      have hn' := H.no p hp hpm hs
      rw [e]
      cases b with
      | zero => rfl
      | succ b => unfold pMany; rw [hn']
    | some r =>
      obtain ⟨h1, h2, h3⟩ := H.lt p r hp hs
      have e : pMany S k (a + 1) p f n = if r.ok then pMany S k a r.p (f.app r.f) (n + 1) else r := by
        conv => lhs; unfold pMany
        rw [hs]
      rw [e] at h ⊢
      have hrm : r.p < m := by
        split at h
        · have := pMany_geA (k := k) H a r.p (f.app r.f) (n + 1) (by omega); omega
        · exact h
      have hs' := H.yes p r hp hpm hs hrm
      have hl' := H.lt' p r hp hs'
      cases b with
      | zero => omega
      | succ b =>
        have e' : pMany S' k (b + 1) p f n = if r.ok then pMany S' k b r.p (f.app r.f) (n + 1) else r := by
          conv => lhs; unfold pMany
          rw [hs']
        rw [e']
        split
        · rename_i hok
          have := h3 hok
          rw [if_pos hok] at h
          exact pMany_ag H a b r.p _ _ (by omega) (by omega) (by omega) h
        · rfl
theorem sPart_ag {E E' : Nat → PR} {L L' : List Mk} {m p0 : Nat} (hA : Ag L L' m) (hE : EAg E E' L L' m p0) (hB : EB E L p0) : StAg (sPart E L) (sPart E' L') L L' m p0 := by
  refine ⟨fun q hq hm hs => ?_, fun q r hq hm hs hr => ?_, fun q r hq hs => ?_, fun q r hq hs => ?_⟩
  · unfold sPart at hs ⊢
    rw [← (hA q hm).1]
    split at hs
    · cases hs
    · rename_i hb; rw [if_neg hb]
  · unfold sPart at hs ⊢
    rw [← (hA q hm).1]
    split at hs
    · rename_i hb
      simp only [Option.some.injEq] at hs
      subst hs
      rw [if_pos hb, pUnit_ag hA hE hB hq hr]
    · cases hs
  · unfold sPart at hs
    split at hs
    · rename_i hb
      simp only [Option.some.injEq] at hs
      subst hs
      have hlt := begins_lt hb
      have G := pUnit_b (E := E) (L := L) (p := q) (by omega) (fun h => hB _ (by omega) h)
      exact ⟨hlt, G.ge, G.lt⟩
    · cases hs
  · unfold sPart at hs
    split at hs
    · rename_i hb; exact begins_lt hb
    · cases hs
theorem pPart_ag {E E' : Nat → PR} {L L' : List Mk} {m p0 p : Nat} (hA : Ag L L' m) (hE : EAg E E' L L' m p0) (hB : EB E L p0) (hp : p0 ≤ p) (hpl : p ≤ L.length) (h : (pPart E L p).p < m) : pPart E' L' p = pPart E L p := by
  have H := sPart_ag hA hE hB
  have G := pUnit_b (E := E) (L := L) (p := p) hpl (fun h => hB _ (by omega) h)
  have g := G.ge
  unfold pPart at h ⊢
  cases hok : (pUnit E L p).ok with
  | true =>
    rw [hok, if_pos rfl] at h
    have hx : (pUnit E L p).p < m := by
      have := pMany_geA (k := 4) H (L.length - (pUnit E L p).p) (pUnit E L p).p (pUnit E L p).f 1 (by omega); omega
    rw [pUnit_ag hA hE hB hp hx, hok, if_pos rfl, if_pos rfl]
    exact pMany_ag H _ _ _ _ _ (by omega) (Nat.le_refl _) (Nat.le_refl _) h
  | false =>
    rw [hok, if_neg (by simp)] at h
    rw [pUnit_ag hA hE hB hp h, hok, if_neg (by simp), if_neg (by simp)]
theorem sExpr_ag {E E' : Nat → PR} {L L' : List Mk} {m p0 : Nat} (hA : Ag L L' m) (hE : EAg E E' L L' m p0) (hB : EB E L p0) : StAg (sExpr E L) (sExpr E' L') L L' m p0 := by
  refine ⟨fun q hq hm hs => ?_, fun q r hq hm hs hr => ?_, fun q r hq hs => ?_, fun q r hq hs => ?_⟩
  · unfold sExpr at hs ⊢
    rw [← (hA q hm).1]
    split at hs
    · cases hs
    · rename_i hb; rw [if_neg hb]
  · unfold sExpr at hs ⊢
    rw [← (hA q hm).1]
    split at hs
    · rename_i hb
      simp only [Option.some.injEq] at hs
      subst hs
      have hlt : q < L.length := kd_lt (by omega)
      rw [if_pos hb, pPart_ag hA hE hB (by omega) (by omega) hr]
    · cases hs
  · unfold sExpr at hs
    split at hs
    · rename_i hb
      simp only [Option.some.injEq] at hs
      subst hs
      have hlt : q < L.length := kd_lt (by omega)
      have G := pPart_b (E := E) (L := L) (p := q + 1) (by omega) (fun x h1 h2 => hB _ (by omega) h2)
      exact ⟨hlt, by have := G.ge; omega, fun _ => by have := G.ge; omega⟩
    · cases hs
  · unfold sExpr at hs
    split at hs
    · rename_i hb; exact kd_lt (by omega)
    · cases hs
theorem pExprS_ag {E E' : Nat → PR} {L L' : List Mk} {m p : Nat} (hA : Ag L L' m) (hE : EAg E E' L L' m p) (hB : EB E L p) (hpl : p ≤ L.length) (h : (pExprS E L p).p < m) : pExprS E' L' p = pExprS E L p := by
  have H := sExpr_ag hA hE hB
  have G := pPart_b (E := E) (L := L) (p := p) hpl hB
  have g := G.ge
  unfold pExprS at h ⊢
  cases hok : (pPart E L p).ok with
  | true =>
    rw [hok, if_pos rfl] at h
    have hx : (pPart E L p).p < m := by
      have := pMany_geA (k := 5) H (L.length - (pPart E L p).p) (pPart E L p).p (pPart E L p).f 1 (by omega); omega
    rw [pPart_ag hA hE hB (Nat.le_refl _) hpl hx, hok, if_pos rfl, if_pos rfl]
    exact pMany_ag H _ _ _ _ _ (by omega) (Nat.le_refl _) (Nat.le_refl _) h
  | false =>
    rw [hok, if_neg (by simp)] at h
    rw [pPart_ag hA hE hB (Nat.le_refl _) hpl h, hok, if_neg (by simp), if_neg (by simp)]
theorem pExpr_ag {L L' : List Mk} {m : Nat} (hA : Ag L L' m) : ∀ (n n' p : Nat), p ≤ L.length → p ≤ L'.length → L.length - p + 1 ≤ n → L'.length - p + 1 ≤ n' → (pExpr L n p).p < m → pExpr L' n' p = pExpr L n p
  | 0, n', p, _, _, h1, _, _ => by omega
  | n + 1, 0, p, _, _, _, h2, _ => by omega
  | n + 1, n' + 1, p, hp, hp', h1, h2, h => by
    show pExprS (pExpr L' n') L' p = pExprS (pExpr L n) L p
    refine pExprS_ag hA (fun q hq a b hm => ?_) (fun q hq a => pExpr_b L n q a) hp h
    exact pExpr_ag hA n n' q a b (by omega) (by omega) hm
end Go.Proofs.Ytbpipnjdfmpbdaa
