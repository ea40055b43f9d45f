import Derived.Test.YtbpipnjdfmpbdaaMkC0
namespace Go.Proofs.Ytbpipnjdfmpbdaa
open Go.RowKit

/-! ### plain: nodes, forests -/
structure Nd where
  k : Int
  n : ByteArray
  c : Int
  deriving DecidableEq
def Nd.cells (x : Nd) : List Value := [.int .i64 x.k, .string x.n, .int .i64 x.c]
def Nd.val (x : Nd) : Value := .agg #[.int .i64 x.k, .string x.n, .int .i64 x.c]
def flatNd (l : List Nd) : List Value := l.flatMap Nd.cells
/-- a list of trees: a node, its kids, the trees behind it -/
inductive Fo where
  | nil : Fo
  | cons (x : Nd) (kids rest : Fo) : Fo
def Fo.flat : Fo → List Nd
  | .nil => []
  | .cons x k r => x :: (k.flat ++ r.flat)
def Fo.len : Fo → Nat
  | .nil => 0
  | .cons _ _ r => r.len + 1
def Fo.size : Fo → Nat
  | .nil => 0
  | .cons _ k r => k.size + r.size + 1
def Fo.app : Fo → Fo → Fo
  | .nil, g => g
  | .cons x k r, g => .cons x k (r.app g)
def Fo.wf : Fo → Prop
  | .nil => True
  | .cons x k r => x.c = k.len ∧ k.wf ∧ r.wf
theorem Fo.flat_app (f g : Fo) : (f.app g).flat = f.flat ++ g.flat := by
  induction f with
  | nil => rfl
  | cons x k r _ ih => simp [Fo.app, Fo.flat, ih]
theorem Fo.len_app (f g : Fo) : (f.app g).len = f.len + g.len := by
  induction f with
  | nil => simp [Fo.app, Fo.len]
  | cons x k r _ ih => simp [Fo.app, Fo.len, ih]; omega
theorem Fo.size_app (f g : Fo) : (f.app g).size = f.size + g.size := by
  induction f with
  | nil => simp [Fo.app, Fo.size]
  | cons x k r _ ih => simp [Fo.app, Fo.size, ih]; omega
theorem Fo.flat_len (f : Fo) : f.flat.length = f.size := by
  induction f with
  | nil => rfl
  | cons x k r ih1 ih2 => simp [Fo.flat, Fo.size, ih1, ih2]
theorem Fo.wf_app (f g : Fo) (hf : f.wf) (hg : g.wf) : (f.app g).wf := by
  induction f with
  | nil => exact hg
  | cons x k r _ ih => exact ⟨hf.1, hf.2.1, ih hf.2.2⟩
theorem Fo.len_le (f : Fo) : f.len ≤ f.size := by
  induction f with
  | nil => simp [Fo.len, Fo.size]
  | cons x k r _ ih => simp [Fo.len, Fo.size]; omega
def leafF (k : Int) (t : ByteArray) : Fo := .cons ⟨k, t, 0⟩ .nil .nil
def wrapF (k : Int) (n : Nat) (f : Fo) : Fo := if n = 1 then f else .cons ⟨k, ⟨#[]⟩, n⟩ f .nil

/-! ### plain: reading an expression out of marks -/
def kd (L : List Mk) (p : Nat) : Int := match L[p]? with | some m => m.k | none => 0
def tx (L : List Mk) (p : Nat) : ByteArray := match L[p]? with | some m => m.t | none => ⟨#[]⟩
theorem kd_some {L : List Mk} {p : Nat} {m : Mk} (h : L[p]? = some m) : kd L p = m.k := by unfold kd; rw [h]
theorem tx_some {L : List Mk} {p : Nat} {m : Mk} (h : L[p]? = some m) : tx L p = m.t := by unfold tx; rw [h]
theorem kd_none {L : List Mk} {p : Nat} (h : L.length ≤ p) : kd L p = 0 := by unfold kd; rw [List.getElem?_eq_none h]
theorem kd_lt {L : List Mk} {p : Nat} (h : kd L p ≠ 0) : p < L.length := by
  rcases Nat.lt_or_ge p L.length with h1 | h1
  · exact h1
  · exact absurd (kd_none h1) h
def beginsI (k : Int) : Bool := k == 1 || k == 2 || k == 12 || k == 10
theorem begins_cases {k : Int} (h : beginsI k = true) : k = 1 ∨ k = 2 ∨ k = 12 ∨ k = 10 := by
  simp [beginsI] at h; omega
theorem begins_lt {L : List Mk} {p : Nat} (h : beginsI (kd L p) = true) : p < L.length := by
  refine kd_lt ?_
  rcases begins_cases h with h | h | h | h <;> omega
/-- what is read: a tree and the place behind it; or the place where it goes wrong -/
structure PR where
  ok : Bool
  f : Fo
  p : Nat
def pAtom (E : Nat → PR) (L : List Mk) (p : Nat) : PR :=
  if beginsI (kd L p) then
    if kd L p = 1 then ⟨true, leafF 2 (tx L p), p + 1⟩
    else if kd L p = 2 then ⟨true, leafF 3 (tx L p), p + 1⟩
    else if kd L p = 12 then ⟨true, leafF 1 ⟨#[]⟩, p + 1⟩
    else if (E (p + 1)).ok then (if kd L (E (p + 1)).p = 11 then ⟨true, (E (p + 1)).f, (E (p + 1)).p + 1⟩ else ⟨false, .nil, (E (p + 1)).p⟩)
    else E (p + 1)
  else ⟨false, .nil, p⟩
def sufK (k : Int) : Int := if k = 7 then 6 else if k = 8 then 7 else if k = 9 then 8 else 0
def pSuf (L : List Mk) : Nat → Nat → Fo → PR
  | 0, p, f => ⟨true, f, p⟩
  | m + 1, p, f => if sufK (kd L p) = 0 then ⟨true, f, p⟩ else pSuf L m (p + 1) (.cons ⟨sufK (kd L p), ⟨#[]⟩, 1⟩ f .nil)
def pUnit (E : Nat → PR) (L : List Mk) (p : Nat) : PR :=
  if (pAtom E L p).ok then pSuf L (L.length - (pAtom E L p).p) (pAtom E L p).p (pAtom E L p).f else pAtom E L p
def pMany (S : Nat → Option PR) (k : Int) : Nat → Nat → Fo → Nat → PR
  | 0, p, f, n => ⟨true, wrapF k n f, p⟩
  | m + 1, p, f, n =>
    match S p with
    | none => ⟨true, wrapF k n f, p⟩
    | some r => if r.ok then pMany S k m r.p (f.app r.f) (n + 1) else r
def sPart (E : Nat → PR) (L : List Mk) (q : Nat) : Option PR := if beginsI (kd L q) then some (pUnit E L q) else none
def pPart (E : Nat → PR) (L : List Mk) (p : Nat) : PR :=
  if (pUnit E L p).ok then pMany (sPart E L) 4 (L.length - (pUnit E L p).p) (pUnit E L p).p (pUnit E L p).f 1 else pUnit E L p
def sExpr (E : Nat → PR) (L : List Mk) (q : Nat) : Option PR := if kd L q = 6 then some (pPart E L (q + 1)) else none
def pExprS (E : Nat → PR) (L : List Mk) (p : Nat) : PR :=
  if (pPart E L p).ok then pMany (sExpr E L) 5 (L.length - (pPart E L p).p) (pPart E L p).p (pPart E L p).f 1 else pPart E L p
def pExpr (L : List Mk) : Nat → Nat → PR
  | 0, p => ⟨false, .nil, p⟩
  | n + 1, p => pExprS (pExpr L n) L p

/-- the bounds of what is read from p on -/
structure PB (L : List Mk) (p : Nat) (r : PR) : Prop where
  le : r.p ≤ L.length
  ge : p ≤ r.p
  lt : r.ok = true → p < r.p
  size : r.ok = true → r.f.size + 1 ≤ 2 * (r.p - p)
  one : r.ok = true → r.f.len = 1
  wf : r.ok = true → r.f.wf
theorem wrap_ok (k : Int) (n : Nat) (f : Fo) (hn : f.len = n) (hf : f.wf) : (wrapF k n f).len = 1 ∧ (wrapF k n f).wf ∧ (wrapF k n f).size ≤ f.size + (if n = 1 then 0 else 1) := by
  unfold wrapF
  split
  · rename_i h; subst h; exact ⟨hn, hf, by simp⟩
  · exact ⟨rfl, ⟨by simp [hn], hf, trivial⟩, by simp [Fo.size]⟩
theorem leaf_ok (k : Int) (t : ByteArray) : (leafF k t).len = 1 ∧ (leafF k t).wf ∧ (leafF k t).size = 1 := ⟨rfl, ⟨rfl, trivial, trivial⟩, rfl⟩
theorem pAtom_b {E : Nat → PR} {L : List Mk} {p : Nat} (hp : p ≤ L.length) (hE : p + 1 ≤ L.length → PB L (p + 1) (E (p + 1))) : PB L p (pAtom E L p) := by
  unfold pAtom
  split
  · rename_i hb
    have hlt := begins_lt hb
    have leaf : ∀ k t, PB L p ⟨true, leafF k t, p + 1⟩ := fun k t => ⟨by simp; omega, by simp, by simp, by simp [leaf_ok], fun _ => rfl, fun _ => (leaf_ok k t).2.1⟩
    split
    · exact leaf _ _
    · split
      · exact leaf _ _
      · split
        · exact leaf _ _
        · have H := hE (by omega)
          have h1 := H.le
          have h2 := H.ge
          split
          · rename_i hok
            have h3 := H.lt hok
            have h4 := H.size hok
            split
            · rename_i hc
              have := kd_lt (L := L) (p := (E (p + 1)).p) (by omega)
              exact ⟨by simp only; omega, by simp only; omega, by simp only; omega, by simp only; omega, fun _ => H.one hok, fun _ => H.wf hok⟩
            · exact ⟨h1, by simp only; omega, by simp, by simp, by simp, by simp⟩
          · rename_i hok
            exact ⟨h1, by omega, fun h => absurd h hok, fun h => absurd h hok, fun h => absurd h hok, fun h => absurd h hok⟩
  · exact ⟨hp, Nat.le_refl _, by simp, by simp, by simp, by simp⟩
theorem sufK_lt {L : List Mk} {p : Nat} (h : sufK (kd L p) ≠ 0) : p < L.length := by
  refine kd_lt ?_
  intro h0; rw [h0] at h; exact h rfl
theorem pSuf_b {L : List Mk} {p0 : Nat} : ∀ (m p : Nat) (f : Fo), PB L p0 ⟨true, f, p⟩ → PB L p0 (pSuf L m p f)
  | 0, p, f, h => h
  | m + 1, p, f, h => by
    unfold pSuf
    split
    · exact h
    · rename_i hs
      have hlt := sufK_lt hs
      have h3 := h.lt rfl
      have h4 := h.size rfl
      have h5 := h.one rfl
      simp only at h3 h4
      refine pSuf_b m (p + 1) _ ⟨hlt, by simp only; omega, fun _ => by simp only; omega, fun _ => ?_, fun _ => rfl, fun _ => ⟨by simp [h5], h.wf rfl, trivial⟩⟩
      simp only [Fo.size]; omega
theorem pUnit_b {E : Nat → PR} {L : List Mk} {p : Nat} (hp : p ≤ L.length) (hE : p + 1 ≤ L.length → PB L (p + 1) (E (p + 1))) : PB L p (pUnit E L p) := by
  have H := pAtom_b hp hE
  unfold pUnit
  split
  · rename_i hok
    refine pSuf_b _ _ _ ?_
    generalize pAtom E L p = r at *
    obtain ⟨o, f, q⟩ := r
    simp only at hok; subst hok; exact H
  · exact H
theorem pMany_b {L : List Mk} {p0 : Nat} {S : Nat → Option PR} {k : Int} (hS : ∀ p r, p0 < p → p ≤ L.length → S p = some r → ∃ q, p ≤ q ∧ (r.ok = false → PB L p0 r) ∧ (r.ok = true → PB L q r)) :
    ∀ (m p : Nat) (f : Fo) (n : Nat), p ≤ L.length → p0 < p → f.len = n → 1 ≤ n → f.wf → f.size + (if n = 1 then 1 else 2) ≤ 2 * (p - p0) → PB L p0 (pMany S k m p f n)
  | 0, p, f, n, h1, h2, h3, _, h4, h5 => by
    have W := wrap_ok k n f h3 h4
    unfold pMany
    refine ⟨h1, by simp only; omega, fun _ => h2, fun _ => ?_, fun _ => W.1, fun _ => W.2.1⟩
    have := W.2.2
    simp only; split at this <;> split at h5 <;> omega
  | m + 1, p, f, n, h1, h2, h3, h0, h4, h5 => by
    have W := wrap_ok k n f h3 h4
    unfold pMany
    cases hs : S p with
    | none =>
      refine ⟨h1, by simp only; omega, fun _ => h2, fun _ => ?_, fun _ => W.1, fun _ => W.2.1⟩
      have := W.2.2
      simp only; split at this <;> split at h5 <;> omega
    | some r =>
      obtain ⟨q, hq, hbad, hgood⟩ := hS p r h2 h1 hs
      simp only
      cases hok : r.ok with
      | false => rw [if_neg (by simp)]; exact hbad hok
      | true =>
        rw [if_pos rfl]
        have G := hgood hok
        have g1 := G.lt hok
        have g2 := G.size hok
        have g3 := G.one hok
        refine pMany_b hS m r.p _ (n + 1) G.le (by omega) (by rw [Fo.len_app, h3, g3]) (by omega) (Fo.wf_app _ _ h4 (G.wf hok)) ?_
        rw [Fo.size_app, if_neg (by omega)]
        split at h5 <;> omega
theorem pPart_b {E : Nat → PR} {L : List Mk} {p : Nat} (hp : p ≤ L.length) (hE : ∀ q, p < q → q ≤ L.length → PB L q (E q)) : PB L p (pPart E L p) := by
  have H := pUnit_b (E := E) hp (fun h => hE _ (by omega) h)
  unfold pPart
  split
  · rename_i hok
    have h1 := H.lt hok
    refine pMany_b ?_ _ _ _ _ H.le h1 (H.one hok) (Nat.le_refl _) (H.wf hok) (by rw [if_pos rfl]; exact H.size hok)
    intro q r hq hq2 hs
    unfold sPart at hs
    split at hs
    · simp only [Option.some.injEq] at hs
      subst hs
      have G := pUnit_b (E := E) (p := q) hq2 (fun h => hE _ (by omega) h)
      refine ⟨q, Nat.le_refl _, fun hb => ⟨G.le, by have := G.ge; omega, ?_, ?_, ?_, ?_⟩, fun _ => G⟩ <;> (intro h; rw [hb] at h; cases h)
    · cases hs
  · exact H
theorem pExprS_b {E : Nat → PR} {L : List Mk} {p : Nat} (hp : p ≤ L.length) (hE : ∀ q, p < q → q ≤ L.length → PB L q (E q)) : PB L p (pExprS E L p) := by
  have H := pPart_b hp hE
  unfold pExprS
  split
  · rename_i hok
    have h1 := H.lt hok
    refine pMany_b ?_ _ _ _ _ H.le h1 (H.one hok) (Nat.le_refl _) (H.wf hok) (by rw [if_pos rfl]; exact H.size hok)
    intro q r hq hq2 hs
    unfold sExpr at hs
    split at hs
    · rename_i h6
      simp only [Option.some.injEq] at hs
      subst hs
      have hlt := kd_lt (L := L) (p := q) (by omega)
      have G := pPart_b (E := E) (p := q + 1) hlt (fun x hx h => hE x (by omega) h)
      refine ⟨q + 1, by omega, fun hb => ⟨G.le, by have := G.ge; omega, ?_, ?_, ?_, ?_⟩, fun _ => G⟩ <;> (intro h; rw [hb] at h; cases h)
    · cases hs
  · exact H
theorem pExpr_b (L : List Mk) : ∀ (n p : Nat), p ≤ L.length → PB L p (pExpr L n p)
  | 0, p, h => ⟨h, Nat.le_refl _, by simp [pExpr], by simp [pExpr], by simp [pExpr], by simp [pExpr]⟩
  | n + 1, p, h => pExprS_b h (fun q _ hq => pExpr_b L n q hq)
end Go.Proofs.Ytbpipnjdfmpbdaa
