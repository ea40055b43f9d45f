import Derived.Test.YtbpipnjdfmpbdaaRtD
namespace Go.Proofs.Ytbpipnjdfmpbdaa
open Go.RowKit

/-! ### plain: which nodes a reading gives -/
def vN (L : List Mk) (x : Nd) : Prop :=
  (x.k = 1 ∧ x.n = ⟨#[]⟩ ∧ x.c = 0) ∨ (x.k = 2 ∧ x.c = 0 ∧ ∃ m ∈ L, m.k = 1 ∧ x.n = m.t) ∨ (x.k = 3 ∧ x.c = 0 ∧ ∃ m ∈ L, m.k = 2 ∧ x.n = m.t) ∨
  ((x.k = 4 ∨ x.k = 5) ∧ x.n = ⟨#[]⟩ ∧ 2 ≤ x.c) ∨ ((x.k = 6 ∨ x.k = 7 ∨ x.k = 8) ∧ x.n = ⟨#[]⟩ ∧ x.c = 1)
/-- of the marks from p to q: none is of the third kind, and each name is one of a node -/
def Cov (L : List Mk) (p q : Nat) (l : List Nd) : Prop := ∀ i, p ≤ i → i < q → kd L i ≠ 3 ∧ (kd L i = 1 ∨ kd L i = 2 → ∃ x ∈ l, x.n = tx L i)
structure VF (L : List Mk) (p : Nat) (r : PR) : Prop where
  all : r.ok = true → r.f.all (vN L)
  cov : r.ok = true → Cov L p r.p r.f.flat
  pos : r.ok = true → p ≤ r.p
theorem VF.no {L : List Mk} {p : Nat} {f : Fo} {q : Nat} : VF L p ⟨false, f, q⟩ := ⟨fun h => by simp at h, fun h => by simp at h, fun h => by simp at h⟩
theorem wrap_all {L : List Mk} {k : Int} {n : Nat} {f : Fo} (hk : k = 4 ∨ k = 5) (hn : 1 ≤ n) (hf : f.all (vN L)) : (wrapF k n f).all (vN L) := by
  unfold wrapF
  split
  · exact hf
  · refine ⟨.inr (.inr (.inr (.inl ⟨hk, rfl, ?_⟩))), hf, trivial⟩
    simp only; omega
theorem wrap_sub {k : Int} {n : Nat} {f : Fo} {x : Nd} (h : x ∈ f.flat) : x ∈ (wrapF k n f).flat := by
  unfold wrapF
  split
  · exact h
  · simp [Fo.flat, h]
theorem kd_mem {L : List Mk} {p : Nat} (h : p < L.length) : ∃ m ∈ L, kd L p = m.k ∧ tx L p = m.t := by
  have hm : L[p]? = some L[p] := List.getElem?_eq_getElem h
  exact ⟨L[p], List.getElem_mem h, kd_some hm, tx_some hm⟩
theorem leaf_vf {L : List Mk} {p : Nat} {k : Int} {t : ByteArray} (hv : vN L ⟨k, t, 0⟩) (h3 : kd L p ≠ 3) (hn : kd L p = 1 ∨ kd L p = 2 → t = tx L p) : VF L p ⟨true, leafF k t, p + 1⟩ := by
  refine ⟨fun _ => ⟨hv, trivial, trivial⟩, fun _ i h1 h2 => ?_, fun _ => by simp⟩
  simp only at h2
  obtain rfl : i = p := by omega
  exact ⟨h3, fun h => ⟨⟨k, t, 0⟩, by simp [leafF, Fo.flat], hn h⟩⟩
theorem pAtom_vf {E : Nat → PR} {L : List Mk} {p : Nat} (hE : VF L (p + 1) (E (p + 1))) : VF L p (pAtom E L p) := by
  cases hb : beginsI (kd L p) with
  | false => rw [pAtom_no' hb]; exact VF.no
  | true =>
    have hlt := begins_lt hb
    obtain ⟨m, hm, hk, ht⟩ := kd_mem hlt
    rcases begins_cases hb with h | h | h | h
    · rw [show pAtom E L p = ⟨true, leafF 2 (tx L p), p + 1⟩ from by unfold pAtom; rw [h]; rfl]
      exact leaf_vf (.inr (.inl ⟨rfl, rfl, m, hm, by omega, ht⟩)) (by omega) (fun _ => rfl)
    · rw [show pAtom E L p = ⟨true, leafF 3 (tx L p), p + 1⟩ from by unfold pAtom; rw [h]; rfl]
      exact leaf_vf (.inr (.inr (.inl ⟨rfl, rfl, m, hm, by omega, ht⟩))) (by omega) (fun _ => rfl)
    · rw [show pAtom E L p = ⟨true, leafF 1 ⟨#[]⟩, p + 1⟩ from by unfold pAtom; rw [h]; rfl]
      exact leaf_vf (.inl ⟨rfl, rfl, rfl⟩) (by omega) (fun h2 => by omega)
    · rw [pAtom_op' h]
      generalize E (p + 1) = r at *
      obtain ⟨ok, f, q⟩ := r
      cases ok with
      | false => simp only [Bool.false_eq_true, if_false]; exact VF.no
      | true =>
        simp only [if_true]
        by_cases hc : kd L q = 11
        · rw [if_pos hc]
          have hp1 := hE.pos rfl
          simp only at hp1
          refine ⟨fun _ => hE.all rfl, fun _ i h1 h2 => ?_, fun _ => by simp only; omega⟩
          simp only at h2
          by_cases hi : i = p
          · subst hi; exact ⟨by omega, fun h => by omega⟩
          · by_cases hi2 : i = q
            · subst hi2; exact ⟨by omega, fun h => by omega⟩
            · exact hE.cov rfl i (by omega) (by simp only; omega)
        · rw [if_neg hc]; exact VF.no
theorem pSuf_vf {L : List Mk} {p0 : Nat} : ∀ (m p : Nat) (f : Fo), f.len = 1 → VF L p0 ⟨true, f, p⟩ → VF L p0 (pSuf L m p f)
  | 0, p, f, _, h => h
  | m + 1, p, f, hf, h => by
    unfold pSuf
    by_cases hs : sufK (kd L p) = 0
    · rw [if_pos hs]; exact h
    · rw [if_neg hs]
      have hp := h.pos rfl
      simp only at hp
      refine pSuf_vf m (p + 1) _ rfl ⟨fun _ => ⟨.inr (.inr (.inr (.inr ⟨?_, rfl, rfl⟩))), h.all rfl, trivial⟩, fun _ i h1 h2 => ?_, fun _ => by simp only; omega⟩
      · rcases suf_cases hs with e | e | e <;> rw [e] <;> decide
      · simp only at h2
        by_cases hi : i = p
        · subst hi
          obtain e | e | e := suf_cases hs <;> exact ⟨by omega, fun h => by omega⟩
        · obtain ⟨c1, c2⟩ := h.cov rfl i h1 (by simp only; omega)
          refine ⟨c1, fun h => ?_⟩
          obtain ⟨x, hx, e⟩ := c2 h
          exact ⟨x, by simp [Fo.flat]; exact .inr hx, e⟩
theorem pUnit_vf {E : Nat → PR} {L : List Mk} {p : Nat} (hp : p ≤ L.length) (hB : p + 1 ≤ L.length → PB L (p + 1) (E (p + 1))) (h : VF L p (pAtom E L p)) : VF L p (pUnit E L p) := by
  have HB := pAtom_b hp hB
  unfold pUnit
  generalize pAtom E L p = r at *
  obtain ⟨ok, f, q⟩ := r
  cases ok with
  | false => simp only [Bool.false_eq_true, if_false]; exact VF.no
  | true => simp only [if_true]; exact pSuf_vf _ _ _ (HB.one rfl) h
theorem pMany_vf {L : List Mk} {p0 : Nat} {S : Nat → Option PR} {k : Int} (hk : k = 4 ∨ k = 5) (hS : ∀ p r, p ≤ L.length → S p = some r → r.ok = true → r.f.all (vN L) ∧ Cov L p r.p r.f.flat ∧ p ≤ r.p ∧ r.p ≤ L.length) :
    ∀ (m p : Nat) (f : Fo) (n : Nat), p ≤ L.length → 1 ≤ n → VF L p0 ⟨true, f, p⟩ → VF L p0 (pMany S k m p f n)
  | 0, p, f, n, hp, hn, h => ⟨fun _ => wrap_all hk hn (h.all rfl), fun _ i h1 h2 => by
      obtain ⟨c1, c2⟩ := h.cov rfl i h1 h2
      refine ⟨c1, fun h => ?_⟩
      obtain ⟨x, hx, e⟩ := c2 h
      exact ⟨x, wrap_sub hx, e⟩, h.pos⟩
  | m + 1, p, f, n, hp, hn, h => by
    unfold pMany
    cases hs : S p with
    | none =>
      refine ⟨fun _ => wrap_all hk hn (h.all rfl), fun _ i h1 h2 => ?_, h.pos⟩
      obtain ⟨c1, c2⟩ := h.cov rfl i h1 h2
      refine ⟨c1, fun h => ?_⟩
      obtain ⟨x, hx, e⟩ := c2 h
      exact ⟨x, wrap_sub hx, e⟩
    | some r =>
      simp only
      cases hok : r.ok with
      | false =>
        rw [if_neg (by simp)]
        exact ⟨fun h => absurd h (by simp [hok]), fun h => absurd h (by simp [hok]), fun h => absurd h (by simp [hok])⟩
      | true =>
        rw [if_pos rfl]
        obtain ⟨s1, s2, s3, s4⟩ := hS p r hp hs hok
        have hpp := h.pos rfl
        simp only at hpp
        refine pMany_vf hk hS m r.p _ _ s4 (by omega) ⟨fun _ => Fo.all_app _ _ (h.all rfl) s1, fun _ i h1 h2 => ?_, fun _ => by simp only; omega⟩
        simp only at h2
        by_cases hi : i < p
        · obtain ⟨c1, c2⟩ := h.cov rfl i h1 hi
          refine ⟨c1, fun h => ?_⟩
          obtain ⟨x, hx, e⟩ := c2 h
          exact ⟨x, by simp only [Fo.flat_app, List.mem_append]; exact .inl hx, e⟩
        · obtain ⟨c1, c2⟩ := s2 i (by omega) h2
          refine ⟨c1, fun h => ?_⟩
          obtain ⟨x, hx, e⟩ := c2 h
          exact ⟨x, by simp only [Fo.flat_app, List.mem_append]; exact .inr hx, e⟩
theorem pPart_vf {E : Nat → PR} {L : List Mk} {p : Nat} (hp : p ≤ L.length) (hB : ∀ q, q ≤ L.length → PB L q (E q)) (hE : ∀ q, VF L q (E q)) : VF L p (pPart E L p) := by
  have hU : ∀ q, q ≤ L.length → VF L q (pUnit E L q) := fun q hq => pUnit_vf hq (fun h => hB _ h) (pAtom_vf (hE _))
  have H := hU p hp
  have HB := pUnit_b (E := E) hp (fun h => hB _ h)
  unfold pPart
  generalize pUnit E L p = r at *
  obtain ⟨ok, f, q⟩ := r
  cases ok with
  | false => simp only [Bool.false_eq_true, if_false]; exact VF.no
  | true =>
    simp only [if_true]
    refine pMany_vf (.inl rfl) ?_ _ _ _ _ HB.le (Nat.le_refl _) H
    intro q r hq hs hok
    obtain ⟨hb, rfl⟩ := sPart_some hs
    have G := pUnit_b (E := E) (p := q) hq (fun h => hB _ h)
    exact ⟨(hU q hq).all hok, (hU q hq).cov hok, G.ge, G.le⟩
theorem pExprS_vf {E : Nat → PR} {L : List Mk} {p : Nat} (hp : p ≤ L.length) (hB : ∀ q, q ≤ L.length → PB L q (E q)) (hE : ∀ q, VF L q (E q)) : VF L p (pExprS E L p) := by
  have H := pPart_vf hp hB hE
  have HB := pPart_b (E := E) hp (fun q _ h => hB q h)
  unfold pExprS
  generalize pPart E L p = r at *
  obtain ⟨ok, f, q⟩ := r
  cases ok with
  | false => simp only [Bool.false_eq_true, if_false]; exact VF.no
  | true =>
    simp only [if_true]
    refine pMany_vf (.inr rfl) ?_ _ _ _ _ HB.le (Nat.le_refl _) H
    intro q r hq hs hok
    obtain ⟨hb, rfl⟩ := sExpr_some hs
    have hlt := kd_lt (L := L) (p := q) (by omega)
    have G := pPart_b (E := E) (p := q + 1) hlt (fun x _ h => hB x h)
    have V := pPart_vf hlt hB hE
    refine ⟨V.all hok, fun i h1 h2 => ?_, by have := G.ge; omega, G.le⟩
    by_cases hi : i = q
    · subst hi; exact ⟨by omega, fun h => by omega⟩
    · exact V.cov hok i (by omega) h2
theorem pExpr_vf (L : List Mk) : ∀ (n p : Nat), VF L p (pExpr L n p)
  | 0, p => ⟨fun h => by simp [pExpr] at h, fun h => by simp [pExpr] at h, fun h => by simp [pExpr] at h⟩
  | n + 1, p => by
    by_cases hp : p ≤ L.length
    · exact pExprS_vf hp (fun q hq => pExpr_b L n q hq) (fun q => pExpr_vf L n q)
    · have hk : kd L p = 0 := kd_none (by omega)
      have e : pExpr L (n + 1) p = ⟨false, .nil, p⟩ := by
        show pExprS _ _ _ = _
        unfold pExprS pPart pUnit pAtom
        rw [hk]; simp [beginsI]
      rw [e]; exact VF.no
/-- the marks of a text, as the reading needs them -/
theorem cut_marks (s : ByteArray) (m : Mk) (hm : m ∈ (cut s 0).1) : (3 < m.k → m.t.size = 1) ∧ 1 ≤ m.t.size ∧ (m.k ≤ 3 → (∀ q, q < m.t.size → innerI (bt m.t q) = true) ∧ kindI (bt m.t 0) = m.k) := by
  obtain ⟨a, _, M⟩ := cut_facts s s.size 0 (by omega) (by omega) m hm
  refine ⟨M.sign, M.one, fun h => ⟨M.word h, ?_⟩⟩
  rw [M.bts 0 M.one]
  exact M.first
theorem vN_may {s : ByteArray} {x : Nd} (h : vN (cut s 0).1 x) (hs : x.n.size ≤ 16) : mayN x := by
  rcases h with h | ⟨h1, h2, m, hm, hk, ht⟩ | ⟨h1, h2, m, hm, hk, ht⟩ | h | h
  · exact .inl h
  · obtain ⟨_, m1, m2⟩ := cut_marks s m hm
    obtain ⟨m3, m4⟩ := m2 (by omega)
    refine .inr (.inl ⟨h1, h2, ?_⟩)
    rw [ht] at hs ⊢
    exact ⟨m1, hs, by omega, m3⟩
  · obtain ⟨_, m1, m2⟩ := cut_marks s m hm
    obtain ⟨m3, m4⟩ := m2 (by omega)
    refine .inr (.inr (.inl ⟨h1, h2, ?_⟩))
    rw [ht] at hs ⊢
    exact ⟨m1, hs, by omega, m3⟩
  · exact .inr (.inr (.inr (.inl h)))
  · exact .inr (.inr (.inr (.inr h)))
def longN (l : List Nd) : Bool := l.any fun x => decide (16 < x.n.size)
def longM (l : List Mk) : Bool := l.any fun m => decide (16 < m.t.size)
theorem long_same (s : ByteArray) (n : Nat) (h : (pExpr (cut s 0).1 n 0).ok = true) (hp : (pExpr (cut s 0).1 n 0).p = (cut s 0).1.length) : longN (pExpr (cut s 0).1 n 0).f.flat = longM (cut s 0).1 := by
  have V := pExpr_vf (cut s 0).1 n 0
  rw [Bool.eq_iff_iff]
  unfold longN longM
  rw [List.any_eq_true, List.any_eq_true]
  constructor
  · rintro ⟨x, hx, hs⟩
    have hv := (Fo.all_flat _).1 (V.all h) x hx
    simp only [decide_eq_true_eq] at hs
    rcases hv with h1 | ⟨_, _, m, hm, _, ht⟩ | ⟨_, _, m, hm, _, ht⟩ | h1 | h1
    · rw [h1.2.1] at hs; exact absurd hs (by decide)
    · exact ⟨m, hm, by rw [← ht]; simpa using hs⟩
    · exact ⟨m, hm, by rw [← ht]; simpa using hs⟩
    · rw [h1.2.1] at hs; exact absurd hs (by decide)
    · rw [h1.2.1] at hs; exact absurd hs (by decide)
  · rintro ⟨m, hm, hs⟩
    simp only [decide_eq_true_eq] at hs
    obtain ⟨i, hi⟩ := List.getElem?_of_mem hm
    have hil := (List.getElem?_eq_some_iff.1 hi).1
    obtain ⟨c1, c2⟩ := V.cov h i (Nat.zero_le _) (by rw [hp]; exact hil)
    have hk : kd (cut s 0).1 i = m.k := kd_some hi
    have ht : tx (cut s 0).1 i = m.t := tx_some hi
    obtain ⟨m1, _, _⟩ := cut_marks s m hm
    have hr := cut_kinds s m hm
    have h3 : ¬ 3 < m.k := fun h => by have := m1 h; omega
    obtain ⟨x, hx, e⟩ := c2 (by omega)
    exact ⟨x, hx, by rw [e, ht]; simpa using hs⟩
end Go.Proofs.Ytbpipnjdfmpbdaa
