import Derived.Test.YtbpipnjdfmpbdaaRxLx
namespace Go.Proofs.Ytbpipnjdfmpbdaa
open Go.RowKit

/-! ### plain: a tree's marks are read as that tree -/
structure HasT (M : List Mk) (p : Nat) (T : List TK) : Prop where
  fit : p + T.length ≤ M.length
  at' : ∀ (i : Nat) (q : TK), T[i]? = some q → kd M (p + i) = q.1 ∧ tx M (p + i) = q.2
theorem HasT.left {M : List Mk} {p : Nat} {A B : List TK} (h : HasT M p (A ++ B)) : HasT M p A :=
  ⟨by have := h.fit; rw [List.length_append] at this; omega, fun i q hq => h.at' i q (by rw [List.getElem?_append_left (List.getElem?_eq_some_iff.1 hq).1]; exact hq)⟩
theorem HasT.right {M : List Mk} {p : Nat} {A B : List TK} (h : HasT M p (A ++ B)) : HasT M (p + A.length) B :=
  ⟨by have := h.fit; rw [List.length_append] at this; omega, fun i q hq => by
    have := h.at' (A.length + i) q (by rw [List.getElem?_append_right (by omega), show A.length + i - A.length = i from by omega]; exact hq)
    rwa [← Nat.add_assoc] at this⟩
theorem HasT.head {M : List Mk} {p : Nat} {q : TK} {B : List TK} (h : HasT M p (q :: B)) : kd M p = q.1 ∧ tx M p = q.2 ∧ HasT M (p + 1) B ∧ p < M.length := by
  obtain ⟨h1, h2⟩ := h.at' 0 q rfl
  exact ⟨h1, h2, HasT.right (A := [q]) h, by have := h.fit; simp at this; omega⟩
def nxT (k : Int) : Prop := beginsI k = false ∧ k ≠ 6 ∧ sufK k = 0
theorem begins_suf {k : Int} (h : beginsI k = true) : sufK k = 0 := by
  rcases begins_cases h with h | h | h | h <;> subst h <;> rfl
structure GoodF (f : Fo) : Prop where
  wf : f.wf
  all : f.all mayN
theorem GoodF.kid {x : Nd} {k r : Fo} (h : GoodF (.cons x k r)) : GoodF k := ⟨h.wf.2.1, h.all.2.1⟩
theorem GoodF.rest {x : Nd} {k r : Fo} (h : GoodF (.cons x k r)) : GoodF r := ⟨h.wf.2.2, h.all.2.2⟩
theorem GoodF.one {x : Nd} {k r : Fo} (h : GoodF (.cons x k r)) : GoodF (.cons x k .nil) := ⟨⟨h.wf.1, h.wf.2.1, trivial⟩, ⟨h.all.1, h.all.2.1, trivial⟩⟩
/-- the marks of each kid -/
def uT (pk : Int) (p : Int × List TK) : List TK := brkK pk p.1 p.2
def seqT (f : Fo) : List TK := f.tk.flatMap (uT 4)
def altT (f : Fo) : List TK := f.tk.flatMap fun p => (6, ⟨#[124]⟩) :: uT 5 p
theorem tk_seq {x : Nd} {k : Fo} (h : x.k = 4) : tkN x k.tk = seqT k := by
  unfold tkN seqT
  rw [if_neg (by omega), if_neg (by omega), if_neg (by omega), h]
  have e1 : sepT 4 = [] := rfl
  have e2 : signT 4 = [] := rfl
  rw [e1, e2, List.append_nil]
  cases k.tk with
  | nil => rfl
  | cons p l => simp [joinT, uT, List.flatMap_map]; rfl
theorem tk_alt {x : Nd} {y : Nd} {j r : Fo} (h : x.k = 5) : tkN x (Fo.cons y j r).tk = uT 5 (y.k, tkN y j.tk) ++ altT r := by
  conv => lhs; unfold tkN
  unfold altT
  rw [if_neg (by omega), if_neg (by omega), if_neg (by omega), h]
  have e1 : sepT 5 = [(6, ⟨#[124]⟩)] := rfl
  have e2 : signT 5 = [] := rfl
  rw [e1, e2, List.append_nil]
  simp [joinT, uT, List.flatMap_map, Fo.tk]
theorem suf_sign {x : Nd} (h : x.k = 6 ∨ x.k = 7 ∨ x.k = 8) : ∃ (kk : Int) (t : ByteArray), signT x.k = [(kk, t)] ∧ sufK kk = x.k := by
  rcases h with h | h | h <;> rw [h]
  · exact ⟨7, _, rfl, rfl⟩
  · exact ⟨8, _, rfl, rfl⟩
  · exact ⟨9, _, rfl, rfl⟩
theorem tkR_suf {x y : Nd} {j : Fo} (h : x.k = 6 ∨ x.k = 7 ∨ x.k = 8) : tkN x (Fo.cons y j .nil).tk = uT x.k (y.k, tkN y j.tk) ++ signT x.k := by
  conv => lhs; unfold tkN
  rw [if_neg (by omega), if_neg (by omega), if_neg (by omega)]
  simp [joinT, uT, Fo.tk]
theorem brk_other {pk k : Int} (h4 : k ≠ 4) (h5 : k ≠ 5) (t : List TK) : brkK pk k t = t := by
  unfold brkK brkB
  rw [if_neg (by simp [h4, h5])]
theorem brk_yes {pk k : Int} (h : brkB pk k = true) (t : List TK) : brkK pk k t = (10, ⟨#[40]⟩) :: (t ++ [(11, ⟨#[41]⟩)]) := by unfold brkK; rw [if_pos h]
theorem kids0 {k : Fo} (h : k.len = 0) : k = .nil := by
  cases k with
  | nil => rfl
  | cons => simp [Fo.len] at h
theorem first_tk (f : Fo) : GoodF f → ∀ (x : Nd) (k r : Fo), f = .cons x k r → ∃ q T, tkN x k.tk = q :: T ∧ beginsI q.1 = true := by
  induction f with
  | nil => intro _ x k r e; cases e
  | cons x' k' r' ih1 _ =>
    intro h x k r e
    cases e
    rcases h.all.1 with ⟨h1, _, _⟩ | ⟨h1, _, _⟩ | ⟨h1, _, _⟩ | ⟨h1, _, hc⟩ | ⟨h1, _, hc⟩
    · exact ⟨_, _, by unfold tkN; rw [if_pos h1], rfl⟩
    · exact ⟨_, _, by unfold tkN; rw [if_neg (by omega), if_pos h1], rfl⟩
    · exact ⟨_, _, by unfold tkN; rw [if_neg (by omega), if_neg (by omega), if_pos h1], rfl⟩
    all_goals
      have hl : 1 ≤ k'.len := by have := h.wf.1; omega
      obtain ⟨y, j, r2, rfl⟩ : ∃ y j r2, k' = Fo.cons y j r2 := by
        cases k' with
        | nil => simp [Fo.len] at hl
        | cons y j r2 => exact ⟨y, j, r2, rfl⟩
      obtain ⟨q, T, e1, e2⟩ := ih1 h.kid y j r2 rfl
      have hu : ∀ pk, ∃ q T, uT pk (y.k, tkN y j.tk) = q :: T ∧ beginsI q.1 = true := by
        intro pk
        unfold uT brkK
        simp only
        split
        · exact ⟨_, _, rfl, rfl⟩
        · exact ⟨q, T, e1, e2⟩
    · rcases h1 with h1 | h1
      · obtain ⟨q, T, e3, e4⟩ := hu 4
        refine ⟨q, T ++ seqT r2, ?_, e4⟩
        rw [tk_seq h1]
        show uT 4 (y.k, tkN y j.tk) ++ seqT r2 = _
        rw [e3]; rfl
      · obtain ⟨q, T, e3, e4⟩ := hu 5
        exact ⟨q, T ++ altT r2, by rw [tk_alt h1, e3]; rfl, e4⟩
    · obtain ⟨q, T, e3, e4⟩ := hu x'.k
      have hr2 : r2 = .nil := kids0 (by have := h.wf.1; simp [Fo.len] at this; omega)
      subst hr2
      exact ⟨q, T ++ signT x'.k, by rw [tkR_suf h1, e3]; rfl, e4⟩
theorem first_u {x : Nd} {k r : Fo} (h : GoodF (.cons x k r)) (pk : Int) : ∃ q T, uT pk (x.k, tkN x k.tk) = q :: T ∧ beginsI q.1 = true := by
  obtain ⟨q, T, e1, e2⟩ := first_tk _ h x k r rfl
  unfold uT brkK
  simp only
  split
  · exact ⟨_, _, rfl, rfl⟩
  · exact ⟨q, T, e1, e2⟩
theorem pSufR_stop {M : List Mk} {q : Nat} (h : sufK (kd M q) = 0) (m : Nat) (f : Fo) : pSuf M m q f = ⟨true, f, q⟩ := by
  cases m with
  | zero => rfl
  | succ m => unfold pSuf; rw [if_pos h]
theorem pSufR_step {M : List Mk} {q : Nat} (hq : q < M.length) {s : Int} (h : sufK (kd M q) = s) (hs : s ≠ 0) (f : Fo) : pSuf M (M.length - q) q f = pSuf M (M.length - (q + 1)) (q + 1) (.cons ⟨s, ⟨#[]⟩, 1⟩ f .nil) := by
  rw [show M.length - q = (M.length - (q + 1)) + 1 from by omega]
  conv => lhs; unfold pSuf
  rw [h, if_neg hs]
def HE (M : List Mk) (E : Nat → PR) (n : Nat) : Prop :=
  ∀ (y : Nd) (j : Fo) (p : Nat), GoodF (.cons y j .nil) → j.height + 1 ≤ n → HasT M p (tkN y j.tk) → nxT (kd M (p + (tkN y j.tk).length)) → E p = ⟨true, .cons y j .nil, p + (tkN y j.tk).length⟩
theorem atom_brk {M : List Mk} {E : Nat → PR} {n : Nat} (hE : HE M E n) {y : Nd} {j : Fo} {p : Nat} (hg : GoodF (.cons y j .nil)) (hh : j.height + 1 ≤ n) (hT : HasT M p ((10, ⟨#[40]⟩) :: (tkN y j.tk ++ [(11, ⟨#[41]⟩)]))) :
    pAtom E M p = ⟨true, .cons y j .nil, p + (tkN y j.tk).length + 2⟩ := by
  obtain ⟨h1, _, h2, _⟩ := hT.head
  obtain ⟨h3, _, _, _⟩ := h2.right.head
  have hx := hE y j (p + 1) hg hh h2.left (by rw [h3]; exact ⟨by decide, by decide, by decide⟩)
  simp only at h1 h3
  unfold pAtom
  rw [h1, if_pos (by decide), if_neg (by decide), if_neg (by decide), if_neg (by decide), hx]
  simp only
  rw [h3]
  simp
  omega
theorem unit_self (M : List Mk) (E : Nat → PR) (n : Nat) (hE : HE M E n) (f : Fo) : ∀ (x : Nd) (k : Fo), f = .cons x k .nil → GoodF f → x.k ≠ 4 → x.k ≠ 5 → k.height ≤ n → ∀ p, HasT M p (tkN x k.tk) →
    pUnit E M p = pSuf M (M.length - (p + (tkN x k.tk).length)) (p + (tkN x k.tk).length) (.cons x k .nil) := by
  induction f with
  | nil => intro x k e; cases e
  | cons x' k' r' ih1 _ =>
    intro x k e hg h4 h5 hh p hT
    cases e
    have hm := hg.all.1
    have hc := hg.wf.1
    have hat : ∀ (q : TK) (f : Fo), tkN x' k'.tk = [q] → pAtom E M p = ⟨true, f, p + 1⟩ → f = .cons x' k' .nil → pUnit E M p = pSuf M (M.length - (p + (tkN x' k'.tk).length)) (p + (tkN x' k'.tk).length) (.cons x' k' .nil) := by
      intro q f e1 e2 e3
      unfold pUnit
      rw [e1, e2, if_pos rfl, e3]; rfl
    rcases hm with ⟨h1, hn, hz⟩ | ⟨h1, hz, hn⟩ | ⟨h1, hz, hn⟩ | ⟨h1, _, _⟩ | ⟨h1, hn, hz⟩
    · have e1 : tkN x' k'.tk = [(12, ⟨#[37]⟩)] := by unfold tkN; rw [if_pos h1]
      have hk : k' = .nil := kids0 (by omega)
      rw [e1] at hT
      obtain ⟨g1, g2, _, _⟩ := hT.head
      simp only at g1 g2
      refine hat _ (leafF 1 ⟨#[]⟩) e1 ?_ ?_
      · unfold pAtom; rw [g1, if_pos (by decide), if_neg (by decide), if_neg (by decide), if_pos rfl]
      · subst hk; obtain ⟨a, b, c⟩ := x'; simp only at h1 hn hz; subst h1 hn hz; rfl
    · have e1 : tkN x' k'.tk = [(1, x'.n)] := by unfold tkN; rw [if_neg (by omega), if_pos h1]
      have hk : k' = .nil := kids0 (by omega)
      rw [e1] at hT
      obtain ⟨g1, g2, _, _⟩ := hT.head
      simp only at g1 g2
      refine hat _ (leafF 2 (tx M p)) e1 ?_ ?_
      · unfold pAtom; rw [g1, if_pos (by decide), if_pos rfl]
      · rw [g2]; subst hk; obtain ⟨a, b, c⟩ := x'; simp only at h1 hz; subst h1 hz; rfl
    · have e1 : tkN x' k'.tk = [(2, x'.n)] := by unfold tkN; rw [if_neg (by omega), if_neg (by omega), if_pos h1]
      have hk : k' = .nil := kids0 (by omega)
      rw [e1] at hT
      obtain ⟨g1, g2, _, _⟩ := hT.head
      simp only at g1 g2
      refine hat _ (leafF 3 (tx M p)) e1 ?_ ?_
      · unfold pAtom; rw [g1, if_pos (by decide), if_neg (by decide), if_pos rfl]
      · rw [g2]; subst hk; obtain ⟨a, b, c⟩ := x'; simp only at h1 hz; subst h1 hz; rfl
    · omega
    · obtain ⟨y, j, rfl⟩ := len_one k' (by omega)
      obtain ⟨kk, t, e2, e3⟩ := suf_sign h1
      rw [tkR_suf h1, e2] at hT ⊢
      have hx' : x' = ⟨x'.k, ⟨#[]⟩, 1⟩ := by obtain ⟨a, b, c⟩ := x'; simp only at hn hz; subst hn hz; rfl
      have hht : j.height + 1 ≤ n := by simp only [Fo.height] at hh; omega
      obtain ⟨g1, _, _, g4⟩ := hT.right.head
      simp only at g1
      have key : pUnit E M p = pSuf M (M.length - (p + (uT x'.k (y.k, tkN y j.tk)).length)) (p + (uT x'.k (y.k, tkN y j.tk)).length) (.cons y j .nil) := by
        by_cases hy : y.k = 4 ∨ y.k = 5
        · have eb : uT x'.k (y.k, tkN y j.tk) = (10, ⟨#[40]⟩) :: (tkN y j.tk ++ [(11, ⟨#[41]⟩)]) := brk_yes (by unfold brkB; rcases hy with hy | hy <;> rw [hy] <;> simp; omega) _
          rw [eb] at hT ⊢
          have ha := atom_brk hE hg.kid hht hT.left
          unfold pUnit
          rw [ha, if_pos rfl]
          simp only [List.length_cons, List.length_append, List.length_nil]
          rw [show p + (tkN y j.tk).length + 2 = p + ((tkN y j.tk).length + (0 + 1) + 1) from by omega]
        · have eb : uT x'.k (y.k, tkN y j.tk) = tkN y j.tk := brk_other (by omega) (by omega) _
          rw [eb] at hT ⊢
          exact ih1 y j rfl hg.kid (by omega) (by omega) (by omega) p hT.left
      rw [key, pSufR_step g4 (s := x'.k) (by rw [g1]; exact e3) (by omega), ← hx']
      simp only [List.length_append, List.length_cons, List.length_nil, Nat.zero_add, Nat.add_assoc]
theorem unit_u {M : List Mk} {E : Nat → PR} {n : Nat} (hE : HE M E n) {y : Nd} {j : Fo} {p : Nat} (hg : GoodF (.cons y j .nil)) (hh : j.height + 1 ≤ n) (hT : HasT M p (uT 4 (y.k, tkN y j.tk))) (hs : sufK (kd M (p + (uT 4 (y.k, tkN y j.tk)).length)) = 0) :
    pUnit E M p = ⟨true, .cons y j .nil, p + (uT 4 (y.k, tkN y j.tk)).length⟩ := by
  by_cases hy : y.k = 4 ∨ y.k = 5
  · have eb : uT 4 (y.k, tkN y j.tk) = (10, ⟨#[40]⟩) :: (tkN y j.tk ++ [(11, ⟨#[41]⟩)]) := brk_yes (by unfold brkB; rcases hy with hy | hy <;> rw [hy] <;> simp) _
    rw [eb] at hT hs ⊢
    have ha := atom_brk hE hg hh hT
    have el : p + ((10, ⟨#[40]⟩) :: (tkN y j.tk ++ [(11, (⟨#[41]⟩ : ByteArray))]) : List TK).length = p + (tkN y j.tk).length + 2 := by simp; omega
    rw [el] at hs ⊢
    unfold pUnit
    rw [ha, if_pos rfl]
    exact pSufR_stop hs _ _
  · have eb : uT 4 (y.k, tkN y j.tk) = tkN y j.tk := brk_other (by omega) (by omega) _
    rw [eb] at hT hs ⊢
    rw [unit_self M E n hE _ y j rfl hg (by omega) (by omega) (by omega) p hT]
    exact pSufR_stop hs _ _
theorem app_one (f : Fo) (y : Nd) (j r : Fo) : (f.app (.cons y j .nil)).app r = f.app (.cons y j r) := by
  induction f with
  | nil => rfl
  | cons x k r' _ ih => simp [Fo.app, ih]
theorem foApp_nil (f : Fo) : f.app .nil = f := by
  induction f with
  | nil => rfl
  | cons x k r' _ ih => simp [Fo.app, ih]
theorem many_stop {S : Nat → Option PR} {p : Nat} (h : S p = none) (k : Int) (m : Nat) (f : Fo) (c : Nat) : pMany S k m p f c = ⟨true, wrapF k c f, p⟩ := by
  cases m with
  | zero => rfl
  | succ m => unfold pMany; rw [h]
theorem seq_len (f : Fo) (h : GoodF f) : f.len ≤ (seqT f).length := by
  induction f with
  | nil => simp [Fo.len]
  | cons x k r _ ih =>
    obtain ⟨q, T, e, _⟩ := first_u h 4
    have := ih h.rest
    show r.len + 1 ≤ (uT 4 (x.k, tkN x k.tk) ++ seqT r).length
    rw [List.length_append, e]; simp; omega
theorem alt_len (f : Fo) : f.len ≤ (altT f).length := by
  induction f with
  | nil => simp [Fo.len]
  | cons x k r _ ih =>
    show r.len + 1 ≤ (((6, ⟨#[124]⟩) :: uT 5 (x.k, tkN x k.tk)) ++ altT r).length
    rw [List.length_append, List.length_cons]; omega
theorem seq_first (f : Fo) (h : GoodF f) (h0 : f ≠ .nil) {M : List Mk} {p : Nat} (hT : HasT M p (seqT f)) : beginsI (kd M p) = true := by
  cases f with
  | nil => exact absurd rfl h0
  | cons x k r =>
    obtain ⟨q, T, e, hb⟩ := first_u h 4
    have hT' : HasT M p (uT 4 (x.k, tkN x k.tk) ++ seqT r) := hT
    rw [e] at hT'
    obtain ⟨g, _⟩ := hT'.head
    rw [g]; exact hb
theorem many_seq {M : List Mk} {E : Nat → PR} {n : Nat} (hE : HE M E n) (g : Fo) : ∀ (f : Fo) (c p m : Nat), GoodF g → g.height ≤ n → HasT M p (seqT g) → sufK (kd M (p + (seqT g).length)) = 0 → beginsI (kd M (p + (seqT g).length)) = false → g.len ≤ m →
    pMany (sPart E M) 4 m p f c = ⟨true, wrapF 4 (c + g.len) (f.app g), p + (seqT g).length⟩ := by
  induction g with
  | nil =>
    intro f c p m _ _ _ _ hb _
    have hb' : beginsI (kd M p) = false := hb
    rw [many_stop (by unfold sPart; rw [if_neg (by rw [hb']; simp)])]
    rw [foApp_nil f]; rfl
  | cons y j r _ ih =>
    intro f c p m hg hh hT hs hb hm
    have e : seqT (.cons y j r) = uT 4 (y.k, tkN y j.tk) ++ seqT r := rfl
    rw [e] at hT hs hb ⊢
    have hf := seq_first (.cons y j r) hg (by simp) (p := p) (by rw [e]; exact hT)
    rw [List.length_append, ← Nat.add_assoc] at hs hb ⊢
    have hnx : sufK (kd M (p + (uT 4 (y.k, tkN y j.tk)).length)) = 0 := by
      by_cases hr : r = .nil
      · subst hr; exact hs
      · exact begins_suf (seq_first r hg.rest hr hT.right)
    simp only [Fo.height] at hh
    have hu := unit_u hE hg.one (by omega) hT.left hnx
    cases m with
    | zero => simp [Fo.len] at hm
    | succ m =>
      conv => lhs; unfold pMany
      have hS : sPart E M p = some (pUnit E M p) := by unfold sPart; rw [if_pos hf]
      rw [hS, hu]
      simp only [if_true]
      rw [ih _ _ _ _ hg.rest (by omega) hT.right hs hb (by simp only [Fo.len] at hm; omega), app_one]
      simp only [Fo.len, PR.mk.injEq, true_and]
      refine ⟨?_, trivial⟩
      rw [show c + 1 + r.len = c + (r.len + 1) from by omega]
theorem part_u {M : List Mk} {E : Nat → PR} {n : Nat} (hE : HE M E n) {y : Nd} {j : Fo} {p : Nat} (hg : GoodF (.cons y j .nil)) (hh : j.height ≤ n) (hh5 : y.k = 5 → j.height + 1 ≤ n) (hT : HasT M p (uT 5 (y.k, tkN y j.tk)))
    (hs : sufK (kd M (p + (uT 5 (y.k, tkN y j.tk)).length)) = 0) (hb : beginsI (kd M (p + (uT 5 (y.k, tkN y j.tk)).length)) = false) :
    pPart E M p = ⟨true, .cons y j .nil, p + (uT 5 (y.k, tkN y j.tk)).length⟩ := by
  have hstop : ∀ q m f, beginsI (kd M q) = false → pMany (sPart E M) 4 m q f 1 = ⟨true, f, q⟩ := by
    intro q m f h
    rw [many_stop (by unfold sPart; rw [if_neg (by rw [h]; simp)])]
    rfl
  by_cases h5 : y.k = 5
  · have eb : uT 5 (y.k, tkN y j.tk) = (10, ⟨#[40]⟩) :: (tkN y j.tk ++ [(11, ⟨#[41]⟩)]) := brk_yes (by unfold brkB; rw [h5]; simp) _
    rw [eb] at hT hs hb ⊢
    have ha := atom_brk hE hg (hh5 h5) hT
    have el : p + ((10, ⟨#[40]⟩) :: (tkN y j.tk ++ [(11, (⟨#[41]⟩ : ByteArray))]) : List TK).length = p + (tkN y j.tk).length + 2 := by simp; omega
    rw [el] at hs hb ⊢
    have hu : pUnit E M p = ⟨true, .cons y j .nil, p + (tkN y j.tk).length + 2⟩ := by
      unfold pUnit
      rw [ha, if_pos rfl]
      exact pSufR_stop hs _ _
    unfold pPart
    rw [hu, if_pos rfl]
    exact hstop _ _ _ hb
  · by_cases h4 : y.k = 4
    · have eb : uT 5 (y.k, tkN y j.tk) = tkN y j.tk := by unfold uT brkK brkB; rw [h4]; rfl
      rw [eb, tk_seq h4] at hT hs hb ⊢
      have hm : 2 ≤ y.c ∧ y.n = ⟨#[]⟩ := by
        rcases hg.all.1 with h | h | h | h | h
        · omega
        · omega
        · omega
        · exact ⟨h.2.2, h.2.1⟩
        · omega
      have hc := hg.wf.1
      obtain ⟨y1, j1, r, rfl⟩ : ∃ y1 j1 r, j = Fo.cons y1 j1 r := by
        cases j with
        | nil => simp [Fo.len] at hc; omega
        | cons y1 j1 r => exact ⟨y1, j1, r, rfl⟩
      have e : seqT (.cons y1 j1 r) = uT 4 (y1.k, tkN y1 j1.tk) ++ seqT r := rfl
      rw [e] at hT hs hb ⊢
      rw [List.length_append, ← Nat.add_assoc] at hs hb ⊢
      have hr : r ≠ .nil := by
        rintro rfl
        simp [Fo.len] at hc; omega
      have hnx := begins_suf (seq_first r hg.kid.rest hr hT.right)
      simp only [Fo.height] at hh
      have hu := unit_u hE hg.kid.one (by omega) hT.left hnx
      have hfit := hT.right.fit
      have hsl := seq_len r hg.kid.rest
      unfold pPart
      rw [hu, if_pos rfl]
      simp only
      rw [many_seq hE r _ _ _ _ hg.kid.rest (by omega) hT.right hs hb (by omega)]
      simp only [PR.mk.injEq, true_and]
      refine ⟨?_, trivial⟩
      simp only [Fo.len] at hc
      unfold wrapF
      rw [if_neg (by omega)]
      obtain ⟨a, b, c⟩ := y
      simp only at h4 hm hc
      obtain ⟨_, rfl⟩ := hm
      subst h4
      rw [hc]
      simp only [Fo.app]
      congr 2
      omega
    · have eb : uT 5 (y.k, tkN y j.tk) = tkN y j.tk := brk_other h4 h5 _
      rw [eb] at hT hs hb ⊢
      have hu : pUnit E M p = ⟨true, .cons y j .nil, p + (tkN y j.tk).length⟩ := by
        rw [unit_self M E n hE _ y j rfl hg h4 h5 hh p hT]
        exact pSufR_stop hs _ _
      unfold pPart
      rw [hu, if_pos rfl]
      exact hstop _ _ _ hb
theorem alt_first (r : Fo) {M : List Mk} {p : Nat} (hT : HasT M p (altT r)) (h0 : r ≠ .nil) : kd M p = 6 := by
  cases r with
  | nil => exact absurd rfl h0
  | cons x k r =>
    have hT' : HasT M p ((6, ⟨#[124]⟩) :: (uT 5 (x.k, tkN x k.tk) ++ altT r)) := hT
    exact hT'.head.1
theorem alt_next (r : Fo) {M : List Mk} {p : Nat} (hT : HasT M p (altT r)) (hn : nxT (kd M (p + (altT r).length))) : sufK (kd M p) = 0 ∧ beginsI (kd M p) = false := by
  by_cases hr : r = .nil
  · subst hr; exact ⟨hn.2.2, hn.1⟩
  · rw [alt_first r hT hr]; exact ⟨by decide, by decide⟩
theorem many_alt {M : List Mk} {E : Nat → PR} {n : Nat} (hE : HE M E n) (g : Fo) : ∀ (f : Fo) (c p m : Nat), GoodF g → g.height ≤ n → HasT M p (altT g) → nxT (kd M (p + (altT g).length)) → g.len ≤ m →
    pMany (sExpr E M) 5 m p f c = ⟨true, wrapF 5 (c + g.len) (f.app g), p + (altT g).length⟩ := by
  induction g with
  | nil =>
    intro f c p m _ _ _ hn _
    have h6 : kd M p ≠ 6 := hn.2.1
    rw [many_stop (by unfold sExpr; rw [if_neg h6])]
    rw [foApp_nil f]; rfl
  | cons y j r _ ih =>
    intro f c p m hg hh hT hn hm
    have e : altT (.cons y j r) = (6, ⟨#[124]⟩) :: (uT 5 (y.k, tkN y j.tk) ++ altT r) := rfl
    rw [e] at hT hn ⊢
    obtain ⟨h6, _, hT2, _⟩ := hT.head
    have el : p + ((6, (⟨#[124]⟩ : ByteArray)) :: (uT 5 (y.k, tkN y j.tk) ++ altT r) : List TK).length = p + 1 + (uT 5 (y.k, tkN y j.tk)).length + (altT r).length := by
      simp; omega
    rw [el] at hn ⊢
    obtain ⟨n1, n2⟩ := alt_next r hT2.right hn
    simp only [Fo.height] at hh
    have hu := part_u hE hg.one (by omega) (fun _ => by omega) hT2.left n1 n2
    cases m with
    | zero => simp [Fo.len] at hm
    | succ m =>
      conv => lhs; unfold pMany
      have hS : sExpr E M p = some (pPart E M (p + 1)) := by unfold sExpr; rw [if_pos h6]
      rw [hS, hu]
      simp only [if_true]
      rw [ih _ _ _ _ hg.rest (by omega) hT2.right hn (by simp only [Fo.len] at hm; omega), app_one]
      simp only [Fo.len, PR.mk.injEq, true_and]
      refine ⟨?_, trivial⟩
      rw [show c + 1 + r.len = c + (r.len + 1) from by omega]
theorem expr_self {M : List Mk} {E : Nat → PR} {n : Nat} (hE : HE M E n) {x : Nd} {k : Fo} {p : Nat} (hg : GoodF (.cons x k .nil)) (hh : k.height ≤ n) (hT : HasT M p (tkN x k.tk)) (hn : nxT (kd M (p + (tkN x k.tk).length))) :
    pExprS E M p = ⟨true, .cons x k .nil, p + (tkN x k.tk).length⟩ := by
  by_cases h5 : x.k = 5
  · have hm : 2 ≤ x.c ∧ x.n = ⟨#[]⟩ := by
      rcases hg.all.1 with h | h | h | h | h
      · omega
      · omega
      · omega
      · exact ⟨h.2.2, h.2.1⟩
      · omega
    have hc := hg.wf.1
    obtain ⟨y, j, r, rfl⟩ : ∃ y j r, k = Fo.cons y j r := by
      cases k with
      | nil => simp [Fo.len] at hc; omega
      | cons y j r => exact ⟨y, j, r, rfl⟩
    rw [tk_alt h5] at hT hn ⊢
    rw [List.length_append, ← Nat.add_assoc] at hn ⊢
    obtain ⟨n1, n2⟩ := alt_next r hT.right hn
    simp only [Fo.height] at hh
    have hu := part_u hE hg.kid.one (by omega) (fun _ => by omega) hT.left n1 n2
    have hfit := hT.right.fit
    have hal := alt_len r
    unfold pExprS
    rw [hu, if_pos rfl]
    simp only
    rw [many_alt hE r _ _ _ _ hg.kid.rest (by omega) hT.right hn (by omega)]
    simp only [PR.mk.injEq, true_and]
    refine ⟨?_, trivial⟩
    simp only [Fo.len] at hc
    unfold wrapF
    rw [if_neg (by omega)]
    obtain ⟨a, b, c⟩ := x
    simp only at h5 hm hc
    obtain ⟨_, rfl⟩ := hm
    subst h5
    rw [hc]
    simp only [Fo.app]
    congr 2
    omega
  · have eb : uT 5 (x.k, tkN x k.tk) = tkN x k.tk := by
      unfold uT brkK brkB
      rw [if_neg (by simp [h5])]
    have hu := part_u hE hg hh (fun h => absurd h h5) (by rw [eb]; exact hT) (by rw [eb]; exact hn.2.2) (by rw [eb]; exact hn.1)
    rw [eb] at hu
    unfold pExprS
    rw [hu, if_pos rfl]
    rw [many_stop (by unfold sExpr; rw [if_neg hn.2.1])]
    rfl
theorem expr_all (M : List Mk) : ∀ n, HE M (pExpr M n) n
  | 0 => fun y j p _ h => by omega
  | n + 1 => fun y j p hg hh hT hn => by
    show pExprS (pExpr M n) M p = _
    exact expr_self (expr_all M n) hg (by omega) hT hn
end Go.Proofs.Ytbpipnjdfmpbdaa
