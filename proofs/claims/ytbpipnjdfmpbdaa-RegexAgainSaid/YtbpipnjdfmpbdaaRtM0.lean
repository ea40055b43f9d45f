import Derived.Test.YtbpipnjdfmpbdaaRtI
namespace Go.Proofs.Ytbpipnjdfmpbdaa
open Go.RowKit Go.Shelf

/-! ### plain: which list is one tree -/
def trB (lim : Nat) (l : List Nd) (w : Nat) : Bool := decide (endL lim l w = some l.length)
theorem trB_nil (lim w : Nat) : trB lim [] w = decide (w = 0) := by
  unfold trB endL
  by_cases h : w = 0 <;> simp [h]
theorem trB_cons (lim : Nat) (x : Nd) (l : List Nd) (w : Nat) : trB lim (x :: l) w = if w = 0 then false else if mayB x = true ∧ x.c ≤ lim then trB lim l (w - 1 + x.c.toNat) else false := by
  unfold trB
  conv => lhs; unfold endL
  by_cases h : w = 0
  · simp [h]
  · rw [if_neg h, if_neg h]
    by_cases h2 : mayB x = true ∧ x.c ≤ lim
    · rw [if_pos h2, if_pos h2]
      cases endL lim l (w - 1 + x.c.toNat) with
      | none => simp
      | some k => simp
    · rw [if_neg h2, if_neg h2]; simp
def treeB (N : List Nd) : Bool := decide (0 < N.length) && trB N.length N 1
theorem Fo.split (f : Fo) : ∀ n, n ≤ f.len → ∃ a b : Fo, f = a.app b ∧ a.len = n := by
  induction f with
  | nil => intro n h; simp [Fo.len] at h; exact ⟨.nil, .nil, rfl, by rw [h]; rfl⟩
  | cons x k r _ ih =>
    intro n h
    cases n with
    | zero => exact ⟨.nil, _, rfl, rfl⟩
    | succ n =>
      obtain ⟨a, b, h1, h2⟩ := ih n (by simp only [Fo.len] at h; omega)
      exact ⟨.cons x k a, b, by rw [h1]; rfl, by simp only [Fo.len]; omega⟩
theorem Fo.wf_app_inv (f g : Fo) (h : (f.app g).wf) : f.wf ∧ g.wf := by
  induction f with
  | nil => exact ⟨trivial, h⟩
  | cons x k r _ ih => exact ⟨⟨h.1, h.2.1, (ih h.2.2).1⟩, (ih h.2.2).2⟩
theorem Fo.all_app_inv {P : Nd → Prop} (f g : Fo) (h : (f.app g).all P) : f.all P ∧ g.all P := by
  induction f with
  | nil => exact ⟨trivial, h⟩
  | cons x k r _ ih => exact ⟨⟨h.1, h.2.1, (ih h.2.2).1⟩, (ih h.2.2).2⟩
theorem tr_sound {lim : Nat} : ∀ (l : List Nd) (w : Nat), trB lim l w = true → ∃ f : Fo, f.flat = l ∧ f.len = w ∧ f.wf ∧ f.all mayN := by
  intro l
  induction l with
  | nil => intro w h; rw [trB_nil] at h; exact ⟨.nil, rfl, by have := of_decide_eq_true h; rw [this]; rfl, trivial, trivial⟩
  | cons x l ih =>
    intro w h
    rw [trB_cons] at h
    split at h
    · cases h
    · split at h
      · rename_i hw hx
        obtain ⟨f, h1, h2, h3, h4⟩ := ih _ h
        have hm := (mayB_iff x).1 hx.1
        have hc := hm.c
        obtain ⟨a, b, rfl, hb⟩ := Fo.split f x.c.toNat (by omega)
        have h5 := Fo.wf_app_inv a b h3
        have h6 := Fo.all_app_inv a b h4
        rw [Fo.len_app] at h2
        refine ⟨.cons x a b, ?_, ?_, ⟨by omega, h5.1, h5.2⟩, ⟨hm, h6.1, h6.2⟩⟩
        · rw [← h1, Fo.flat_app]; rfl
        · simp only [Fo.len]; omega
      · cases h
theorem tree_sound {N : List Nd} (h : treeB N = true) : ∃ x k, N = (Fo.cons x k .nil).flat ∧ (Fo.cons x k .nil).wf ∧ (Fo.cons x k .nil).all mayN := by
  unfold treeB at h
  rw [Bool.and_eq_true] at h
  obtain ⟨f, h1, h2, h3, h4⟩ := tr_sound _ _ h.2
  obtain ⟨x, k, rfl⟩ := len_one f h2
  exact ⟨x, k, h1.symm, h3, h4⟩
theorem tree_full (x : Nd) (k : Fo) (hwf : (Fo.cons x k .nil).wf) (hall : (Fo.cons x k .nil).all mayN) : treeB (Fo.cons x k .nil).flat = true := by
  have h := end_forest (lim := (Fo.cons x k .nil).size) (Fo.cons x k .nil) 0 [] hwf hall (Nat.le_refl _)
  rw [List.append_nil] at h
  unfold treeB trB
  rw [Fo.flat_len]
  have e : (Fo.cons x k .nil).len + 0 = 1 := rfl
  rw [e] at h
  rw [h, endL_zero]
  simp [Fo.size]
theorem Fo.flat_inj (f : Fo) : ∀ (g : Fo) (A B : List Nd), f.wf → g.wf → f.len = g.len → f.flat ++ A = g.flat ++ B → f = g ∧ A = B := by
  induction f with
  | nil =>
    intro g A B _ _ hl h
    cases g with
    | nil => exact ⟨rfl, h⟩
    | cons y k r => simp [Fo.len] at hl
  | cons x k r ih1 ih2 =>
    intro g A B hf hg hl h
    cases g with
    | nil => simp [Fo.len] at hl
    | cons y k2 r2 =>
      simp only [Fo.flat, List.cons_append, List.append_assoc, List.cons.injEq] at h
      obtain ⟨rfl, h⟩ := h
      obtain ⟨rfl, h3⟩ := ih1 k2 _ _ hf.2.1 hg.2.1 (by have := hf.1; have := hg.1; omega) h
      obtain ⟨rfl, h4⟩ := ih2 r2 _ _ hf.2.2 hg.2.2 (by simp only [Fo.len] at hl; omega) h3
      exact ⟨rfl, h4⟩
/-- a tree that may be -/
structure GoodT (N : List Nd) (x : Nd) (k : Fo) : Prop where
  flat : N = (Fo.cons x k .nil).flat
  wf : (Fo.cons x k .nil).wf
  all : (Fo.cons x k .nil).all mayN
theorem GoodT.len {N : List Nd} {x : Nd} {k : Fo} (h : GoodT N x k) : N.length = k.size + 1 := by rw [h.flat, Fo.flat_len]; simp [Fo.size]
theorem GoodT.tree {N : List Nd} {x : Nd} {k : Fo} (h : GoodT N x k) : treeB N = true := by rw [h.flat]; exact tree_full x k h.wf h.all
/-- what Check answers -/
def ChkS (N : List Nd) (e : Int) : Prop :=
  (2048 < N.length ∧ e = 3) ∨ (N.length ≤ 2048 ∧ treeB N = false ∧ e = 170) ∨ (N.length ≤ 2048 ∧ ∃ x k, GoodT N x k ∧ e = boundsF x k)
theorem chkS_ex (N : List Nd) : ∃ e, ChkS N e := by
  by_cases h : 2048 < N.length
  · exact ⟨3, .inl ⟨h, rfl⟩⟩
  · cases ht : treeB N with
    | false => exact ⟨170, .inr (.inl ⟨by omega, ht, rfl⟩)⟩
    | true =>
      obtain ⟨x, k, h1, h2, h3⟩ := tree_sound ht
      exact ⟨boundsF x k, .inr (.inr ⟨by omega, x, k, ⟨h1, h2, h3⟩, rfl⟩)⟩
/-- what Print answers -/
def PrS (N : List Nd) (t : ByteArray) (e : Int) : Prop :=
  (e ≠ 0 ∧ ChkS N e ∧ t = ⟨#[]⟩) ∨ (e = 0 ∧ N.length ≤ 2048 ∧ ∃ x k, GoodT N x k ∧ boundsF x k = 0 ∧ t = txN x k.tx)
theorem prS_ex (N : List Nd) : ∃ t e, PrS N t e := by
  obtain ⟨e, h⟩ := chkS_ex N
  by_cases he : e = 0
  · rcases h with ⟨_, h⟩ | ⟨_, _, h⟩ | ⟨h1, x, k, h2, h3⟩
    · omega
    · omega
    · exact ⟨_, 0, .inr ⟨rfl, h1, x, k, h2, by omega, rfl⟩⟩
  · exact ⟨_, e, .inl ⟨he, h, rfl⟩⟩
theorem PrS.chk {N : List Nd} {t : ByteArray} {e : Int} (h : PrS N t e) : ChkS N e := by
  rcases h with ⟨_, h, _⟩ | ⟨rfl, h1, x, k, h2, h3, _⟩
  · exact h
  · exact .inr (.inr ⟨h1, x, k, h2, h3.symm⟩)
end Go.Proofs.Ytbpipnjdfmpbdaa
