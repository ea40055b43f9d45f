import Derived.Test.YtbpipnjdfmpbdaaRrD
namespace Go.Proofs.Ytbpipnjdfmpbdaa
open Go.RowKit

/-! ### plain: brackets -/
/-- from place i on, with so many brackets open, the outermost one closes at j -/
inductive Cl (L : List Mk) : Nat → Nat → Nat → Prop where
  | here {i : Nat} : kd L i = 11 → Cl L i 1 i
  | down {i o j : Nat} : kd L i = 11 → Cl L (i + 1) (o + 1) j → Cl L i (o + 2) j
  | up {i o j : Nat} : kd L i = 10 → Cl L (i + 1) (o + 2) j → Cl L i (o + 1) j
  | other {i o j : Nat} : kd L i ≠ 10 → kd L i ≠ 11 → i < L.length → Cl L (i + 1) (o + 1) j → Cl L i (o + 1) j
theorem Cl.le {L : List Mk} {i o j : Nat} (h : Cl L i o j) : i ≤ j ∧ j < L.length ∧ 1 ≤ o := by
  induction h with
  | here h => exact ⟨Nat.le_refl _, kd_lt (by omega), Nat.le_refl _⟩
  | down _ _ ih => omega
  | up _ _ ih => omega
  | other _ _ _ _ ih => omega
def Ne (L : List Mk) (p q : Nat) : Prop := ∀ o j, Cl L q (o + 1) j → Cl L p (o + 1) j
theorem Ne.refl (L : List Mk) (p : Nat) : Ne L p p := fun _ _ h => h
theorem Ne.trans {L : List Mk} {p q r : Nat} (h : Ne L p q) (k : Ne L q r) : Ne L p r := fun o j hc => h o j (k o j hc)
theorem Ne.step {L : List Mk} {p : Nat} (h1 : kd L p ≠ 10) (h2 : kd L p ≠ 11) (h3 : p < L.length) : Ne L p (p + 1) := fun _ _ hc => .other h1 h2 h3 hc
/-- from i to q there is no bar outside brackets -/
inductive Scn (L : List Mk) : Nat → Nat → Prop where
  | refl (i : Nat) : Scn L i i
  | step {i q : Nat} : kd L i ≠ 6 → kd L i ≠ 10 → i < L.length → Scn L (i + 1) q → Scn L i q
  | jump {i j q : Nat} : kd L i = 10 → Cl L (i + 1) 1 j → Scn L (j + 1) q → Scn L i q
theorem Scn.le {L : List Mk} {i q : Nat} (h : Scn L i q) : i ≤ q := by
  induction h with
  | refl => exact Nat.le_refl _
  | step _ _ _ _ ih => omega
  | jump _ hc _ ih => have := hc.le; omega
theorem Scn.trans {L : List Mk} {a b c : Nat} (h : Scn L a b) (k : Scn L b c) : Scn L a c := by
  induction h with
  | refl => exact k
  | step h1 h2 h3 _ ih => exact .step h1 h2 h3 (ih k)
  | jump h1 h2 _ ih => exact .jump h1 h2 (ih k)
theorem Scn.one {L : List Mk} {i : Nat} (h1 : kd L i ≠ 6) (h2 : kd L i ≠ 10) (h3 : i < L.length) : Scn L i (i + 1) := .step h1 h2 h3 (.refl _)

/-! ### plain: a unit -/
def sufN (L : List Mk) (p : Nat) : Nat → List Nd
  | 0 => []
  | c + 1 => ⟨sufK (kd L (p + c)), ⟨#[]⟩, 1⟩ :: sufN L p c
theorem sufN_snoc (L : List Mk) (p : Nat) : ∀ c, sufN L (p + 1) c ++ [⟨sufK (kd L p), ⟨#[]⟩, 1⟩] = sufN L p (c + 1)
  | 0 => rfl
  | c + 1 => by
    have ih := sufN_snoc L p c
    show _ :: (sufN L (p + 1) c ++ _) = _ :: sufN L p (c + 1)
    rw [ih, show p + 1 + c = p + (c + 1) from by omega]
theorem sufN_len (L : List Mk) (p : Nat) : ∀ c, (sufN L p c).length = c
  | 0 => rfl
  | c + 1 => by simp [sufN, sufN_len L p c]
theorem pSuf_spec {L : List Mk} : ∀ (m p : Nat) (f : Fo), L.length - p ≤ m → p ≤ L.length → ∃ fu q, pSuf L m p f = ⟨true, fu, q⟩ ∧ p ≤ q ∧ q ≤ L.length ∧ (∀ x, p ≤ x → x < q → sufK (kd L x) ≠ 0) ∧ fu.flat = sufN L p (q - p) ++ f.flat ∧ sufK (kd L q) = 0
  | 0, p, f, hm, hp => ⟨f, p, rfl, Nat.le_refl _, hp, fun x h1 h2 => by omega, by rw [Nat.sub_self]; rfl, by rw [kd_none (by omega)]; rfl⟩
  | m + 1, p, f, hm, hp => by
    unfold pSuf
    by_cases hs : sufK (kd L p) = 0
    · rw [if_pos hs]
      exact ⟨f, p, rfl, Nat.le_refl _, hp, fun x h1 h2 => by omega, by rw [Nat.sub_self]; rfl, hs⟩
    · rw [if_neg hs]
      have hlt := sufK_lt' hs
      obtain ⟨fu, q, h1, h2, h2', h3, h4, h5⟩ := pSuf_spec m (p + 1) (.cons ⟨sufK (kd L p), ⟨#[]⟩, 1⟩ f .nil) (by omega) hlt
      refine ⟨fu, q, h1, by omega, h2', fun x hx1 hx2 => ?_, ?_, h5⟩
      · by_cases hx : x = p
        · subst hx; exact hs
        · exact h3 x (by omega) hx2
      · rw [h4, show q - p = (q - (p + 1)) + 1 from by omega, ← sufN_snoc]
        simp [Fo.flat]
/-- what is known of a unit that is read -/
structure UF (E : Nat → PR) (L : List Mk) (i : Nat) (fu : Fo) (qu : Nat) (fa : Fo) (pa : Nat) : Prop where
  atom : pAtom E L i = ⟨true, fa, pa⟩
  lt : i < pa
  le : pa ≤ qu
  lel : qu ≤ L.length
  suf : ∀ x, pa ≤ x → x < qu → sufK (kd L x) ≠ 0
  stop : sufK (kd L qu) = 0
  flat : fu.flat = sufN L pa (qu - pa) ++ fa.flat
  beg : beginsI (kd L i) = true
  leaf : kd L i ≠ 10 → pa = i + 1
  brk : kd L i = 10 → E (i + 1) = ⟨true, fa, pa - 1⟩ ∧ i + 2 < pa ∧ kd L (pa - 1) = 11 ∧ pa - 1 < L.length
  lf1 : kd L i = 1 → fa.flat = [⟨2, tx L i, 0⟩]
  lf2 : kd L i = 2 → fa.flat = [⟨3, tx L i, 0⟩]
  lf3 : kd L i = 12 → fa.flat = [⟨1, ⟨#[]⟩, 0⟩]
theorem unit_uf {E : Nat → PR} {L : List Mk} {i : Nat} {fu : Fo} {qu : Nat} (hi : i ≤ L.length) (hB : ∀ q, q ≤ L.length → PB L q (E q)) (h : pUnit E L i = ⟨true, fu, qu⟩) : ∃ fa pa, UF E L i fu qu fa pa := by
  unfold pUnit at h
  have HA := pAtom_b (E := E) hi (fun h => hB _ h)
  cases hb : beginsI (kd L i) with
  | false => rw [pAtom_no' hb] at h; simp at h
  | true =>
    have hlt := begins_lt hb
    generalize hr : pAtom E L i = r at *
    obtain ⟨ok, fa, pa⟩ := r
    cases ok with
    | false => simp at h
    | true =>
      simp only [if_true] at h
      have h1 := HA.lt rfl
      have h2 := HA.le
      simp only at h1 h2
      obtain ⟨fu', qu', e1, e2, e2', e3, e4, e5⟩ := pSuf_spec (L.length - pa) pa fa (Nat.le_refl _) h2
      rw [h] at e1
      simp only [PR.mk.injEq, true_and] at e1
      obtain ⟨rfl, rfl⟩ := e1
      refine ⟨fa, pa, hr, h1, e2, e2', e3, e5, e4, hb, ?_, ?_, ?_, ?_, ?_⟩
      · intro h10
        obtain ⟨f, hf⟩ := pAtom_leaf (E := E) hb h10
        rw [hr] at hf
        simp only [PR.mk.injEq, true_and] at hf
        exact hf.2
      · intro h10
        rw [pAtom_op' h10] at hr
        have HB := hB (i + 1) hlt
        generalize E (i + 1) = r2 at *
        obtain ⟨ok2, f2, q2⟩ := r2
        cases ok2 with
        | false => simp at hr
        | true =>
          simp only [if_true] at hr
          by_cases hc : kd L q2 = 11
          · rw [if_pos hc] at hr
            simp only [PR.mk.injEq, true_and] at hr
            obtain ⟨rfl, rfl⟩ := hr
            have := HB.lt rfl
            simp only at this
            exact ⟨by simp, by omega, by simpa using hc, by have := kd_lt (L := L) (p := q2) (by omega); omega⟩
          · rw [if_neg hc] at hr; simp at hr
      · intro h1
        rw [show pAtom E L i = ⟨true, leafF 2 (tx L i), i + 1⟩ from by unfold pAtom; rw [h1]; rfl] at hr
        simp only [PR.mk.injEq, true_and] at hr
        rw [← hr.1]; rfl
      · intro h1
        rw [show pAtom E L i = ⟨true, leafF 3 (tx L i), i + 1⟩ from by unfold pAtom; rw [h1]; rfl] at hr
        simp only [PR.mk.injEq, true_and] at hr
        rw [← hr.1]; rfl
      · intro h1
        rw [show pAtom E L i = ⟨true, leafF 1 ⟨#[]⟩, i + 1⟩ from by unfold pAtom; rw [h1]; rfl] at hr
        simp only [PR.mk.injEq, true_and] at hr
        rw [← hr.1]; rfl
/-- what is known of what is read: brackets pair, and no bar stands outside them -/
structure NS (L : List Mk) (p : Nat) (r : PR) : Prop where
  ne : r.ok = true → Ne L p r.p
theorem suf_k {k : Int} (h : sufK k ≠ 0) : k ≠ 6 ∧ k ≠ 10 ∧ k ≠ 11 ∧ beginsI k = false := by
  rcases suf_cases h with rfl | rfl | rfl <;> refine ⟨by decide, by decide, by decide, rfl⟩
theorem ne_suf {L : List Mk} {p : Nat} : ∀ (c : Nat), (∀ x, p ≤ x → x < p + c → sufK (kd L x) ≠ 0) → Ne L p (p + c) ∧ Scn L p (p + c)
  | 0, _ => ⟨Ne.refl _ _, .refl _⟩
  | c + 1, h => by
    obtain ⟨h1, h2⟩ := ne_suf c (fun x hx hx2 => h x hx (by omega))
    have hs := h (p + c) (by omega) (by omega)
    obtain ⟨s1, s2, s3, _⟩ := suf_k hs
    have hlt := sufK_lt' hs
    exact ⟨h1.trans (Ne.step s2 s3 hlt), h2.trans (.one s1 s2 hlt)⟩
theorem UF.cl {E : Nat → PR} {L : List Mk} {i : Nat} {fu : Fo} {qu : Nat} {fa : Fo} {pa : Nat} (U : UF E L i fu qu fa pa) (hE : NS L (i + 1) (E (i + 1))) (h : kd L i = 10) : Cl L (i + 1) 1 (pa - 1) := by
  obtain ⟨h1, h2, h3, h4⟩ := U.brk h
  have := hE.ne (by rw [h1])
  rw [h1] at this
  exact this 0 _ (.here h3)
theorem UF.ne {E : Nat → PR} {L : List Mk} {i : Nat} {fu : Fo} {qu : Nat} {fa : Fo} {pa : Nat} (U : UF E L i fu qu fa pa) (hE : NS L (i + 1) (E (i + 1))) : Ne L i qu ∧ Scn L i qu := by
  have hsuf := ne_suf (L := L) (p := pa) (qu - pa) (fun x h1 h2 => U.suf x h1 (by omega))
  rw [show pa + (qu - pa) = qu from by have := U.le; omega] at hsuf
  have hlt := begins_lt U.beg
  by_cases h10 : kd L i = 10
  · obtain ⟨h1, h2, h3, h4⟩ := U.brk h10
    have hc := U.cl hE h10
    have hne := hE.ne (by rw [h1])
    rw [h1] at hne
    simp only at hne
    have e : pa - 1 + 1 = pa := by omega
    refine ⟨?_, ?_⟩
    · intro o j hcl
      have q1 := hsuf.1 o j hcl
      refine .up h10 (hne (o + 1) j ?_)
      refine .down h3 ?_
      rw [e]; exact q1
    · refine .jump h10 hc ?_
      rw [e]; exact hsuf.2
  · have hpa := U.leaf h10
    subst hpa
    have h11 : kd L i ≠ 11 := by intro h; have := U.beg; rw [h] at this; simp [beginsI] at this
    have h6 : kd L i ≠ 6 := by intro h; have := U.beg; rw [h] at this; simp [beginsI] at this
    exact ⟨(Ne.step h10 h11 hlt).trans hsuf.1, (Scn.one h6 h10 hlt).trans hsuf.2⟩

/-! ### plain: several joined -/
theorem pMany_ge {L : List Mk} {S : Nat → Option PR} {k : Int} (hS : ∀ p r, p ≤ L.length → S p = some r → r.ok = true → p ≤ r.p ∧ r.p ≤ L.length) : ∀ (m p : Nat) (f : Fo) (n : Nat), p ≤ L.length → (pMany S k m p f n).ok = true → p ≤ (pMany S k m p f n).p ∧ (pMany S k m p f n).p ≤ L.length
  | 0, p, f, n, hp, _ => ⟨Nat.le_refl _, hp⟩
  | m + 1, p, f, n, hp, h => by
    unfold pMany at h ⊢
    cases hs : S p with
    | none => exact ⟨Nat.le_refl _, hp⟩
    | some r =>
      rw [hs] at h
      simp only at h ⊢
      cases hok : r.ok with
      | false => rw [hok, if_neg (by simp)] at h; rw [hok] at h; cases h
      | true =>
        rw [hok, if_pos rfl] at h
        rw [if_pos rfl]
        have h1 := hS p r hp hs hok
        have h2 := pMany_ge hS m r.p (f.app r.f) (n + 1) h1.2 h
        exact ⟨by omega, h2.2⟩
/-- the state of a loop that joins what S reads: done, or at one more -/
structure MS (S : Nat → Option PR) (k : Int) (L : List Mk) (q : Nat) (f : Fo) (i : Nat) (g : Fo) (n : Nat) (r : PR) : Prop where
  ok : r.ok = true
  ge : i ≤ r.p
  le : r.p ≤ q
  more : ∃ m, L.length - r.p ≤ m ∧ pMany S k m r.p (g.app r.f) (n + 1) = ⟨true, f, q⟩
theorem MS.next {S : Nat → Option PR} {k : Int} {L : List Mk} {q : Nat} {f : Fo} {i : Nat} {g : Fo} {n : Nat} {r : PR} (h : MS S k L q f i g n r) (hq : q ≤ L.length) (hS : ∀ p r, p ≤ L.length → S p = some r → p < L.length ∧ (r.ok = true → p < r.p ∧ r.p ≤ L.length)) :
    (S r.p = none ∧ r.p = q ∧ f = wrapF k (n + 1) (g.app r.f)) ∨ (∃ r2, S r.p = some r2 ∧ r.p < q ∧ MS S k L q f r.p (g.app r.f) (n + 1) r2) := by
  obtain ⟨m, hm, e⟩ := h.more
  have hrl : r.p ≤ L.length := Nat.le_trans h.le hq
  cases hs : S r.p with
  | none =>
    left
    rw [show pMany S k m r.p (g.app r.f) (n + 1) = ⟨true, wrapF k (n + 1) (g.app r.f), r.p⟩ from by cases m with | zero => rfl | succ m => unfold pMany; rw [hs]] at e
    simp only [PR.mk.injEq, true_and] at e
    exact ⟨rfl, e.2, e.1.symm⟩
  | some r2 =>
    right
    obtain ⟨hlt, hge⟩ := hS _ _ hrl hs
    obtain ⟨m', rfl⟩ : ∃ m', m = m' + 1 := ⟨m - 1, by omega⟩
    unfold pMany at e
    rw [hs] at e
    simp only at e
    cases hok : r2.ok with
    | false => rw [hok, if_neg (by simp)] at e; rw [e] at hok; cases hok
    | true =>
      rw [hok, if_pos rfl] at e
      have h1 := hge hok
      have h2 := pMany_ge (k := k) (fun p r hp hs hok => ⟨Nat.le_of_lt ((hS p r hp hs).2 hok).1, ((hS p r hp hs).2 hok).2⟩) m' r2.p ((g.app r.f).app r2.f) (n + 1 + 1) h1.2 (by rw [e])
      rw [e] at h2
      simp only at h2
      refine ⟨r2, rfl, by omega, ⟨hok, Nat.le_of_lt h1.1, h2.1, m', by omega, e⟩⟩
end Go.Proofs.Ytbpipnjdfmpbdaa
