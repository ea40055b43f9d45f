import Derived.Test.YtbpipnjdfmpbdaaRxRo
namespace Go.Proofs.Ytbpipnjdfmpbdaa
open Go.RowKit

/-! ### plain: what is printed is read as itself -/
theorem HasT.of_map {M : List Mk} {T : List TK} (h : M.map tkOf = T) : HasT M 0 T ∧ M.length = T.length := by
  have hl : M.length = T.length := by rw [← h]; simp
  refine ⟨⟨by omega, fun i q hq => ?_⟩, hl⟩
  rw [← h, List.getElem?_map] at hq
  cases hm : M[i]? with
  | none => rw [hm] at hq; cases hq
  | some m =>
    rw [hm] at hq
    simp only [Option.map, Option.some.injEq] at hq
    rw [Nat.zero_add, kd_some hm, tx_some hm, ← hq]
    exact ⟨rfl, rfl⟩
def tkSum (f : Fo) : Nat := (f.tk.map fun p => p.2.length).sum
theorem brk_ge (pk k : Int) (t : List TK) : t.length ≤ (brkK pk k t).length := by
  unfold brkK; split
  · simp; omega
  · exact Nat.le_refl _
theorem seqT_ge (f : Fo) : tkSum f ≤ (seqT f).length := by
  induction f with
  | nil => exact Nat.le_refl _
  | cons x k r _ ih =>
    have e : tkSum (.cons x k r) = (tkN x k.tk).length + tkSum r := by simp [tkSum, Fo.tk]
    have e2 : seqT (.cons x k r) = brkK 4 x.k (tkN x k.tk) ++ seqT r := rfl
    have := brk_ge 4 x.k (tkN x k.tk)
    rw [e, e2, List.length_append]; omega
theorem altT_ge (f : Fo) : tkSum f ≤ (altT f).length := by
  induction f with
  | nil => exact Nat.le_refl _
  | cons x k r _ ih =>
    have e : tkSum (.cons x k r) = (tkN x k.tk).length + tkSum r := by simp [tkSum, Fo.tk]
    have e2 : altT (.cons x k r) = (6, ⟨#[124]⟩) :: (brkK 5 x.k (tkN x k.tk) ++ altT r) := rfl
    have := brk_ge 5 x.k (tkN x k.tk)
    rw [e, e2, List.length_cons, List.length_append]; omega
theorem height_tk (f : Fo) : GoodF f → f.height + (f.len - 1) ≤ tkSum f ∧ f.len ≤ tkSum f := by
  induction f with
  | nil => intro _; exact ⟨by simp [Fo.height, Fo.len], by simp [Fo.len]⟩
  | cons x k r ih1 ih2 =>
    intro h
    obtain ⟨a1, a2⟩ := ih1 h.kid
    obtain ⟨b1, b2⟩ := ih2 h.rest
    have e : tkSum (.cons x k r) = (tkN x k.tk).length + tkSum r := by simp [tkSum, Fo.tk]
    have key : k.height + 1 ≤ (tkN x k.tk).length := by
      obtain ⟨q, T, e0, _⟩ := first_tk _ h x k r rfl
      have hpos : 1 ≤ (tkN x k.tk).length := by rw [e0]; simp
      rcases h.all.1 with ⟨_, _, hz⟩ | ⟨_, hz, _⟩ | ⟨_, hz, _⟩ | ⟨h1, _, hz⟩ | ⟨h1, _, hz⟩
      · have hk : k = .nil := kids0 (by have := h.wf.1; omega)
        subst hk; simpa [Fo.height] using hpos
      · have hk : k = .nil := kids0 (by have := h.wf.1; omega)
        subst hk; simpa [Fo.height] using hpos
      · have hk : k = .nil := kids0 (by have := h.wf.1; omega)
        subst hk; simpa [Fo.height] using hpos
      · have hl := h.wf.1
        rcases h1 with h1 | h1
        · rw [tk_seq h1]
          have := seqT_ge k
          omega
        · obtain ⟨y, j, r2, rfl⟩ : ∃ y j r2, k = Fo.cons y j r2 := by
            cases k with
            | nil => simp [Fo.len] at hl; omega
            | cons y j r2 => exact ⟨y, j, r2, rfl⟩
          rw [tk_alt h1, List.length_append]
          have h2 := brk_ge 5 y.k (tkN y j.tk)
          have h3 := altT_ge r2
          have h4 : tkSum (.cons y j r2) = (tkN y j.tk).length + tkSum r2 := by simp [tkSum, Fo.tk]
          have h5 : (uT 5 (y.k, tkN y j.tk)).length = (brkK 5 y.k (tkN y j.tk)).length := rfl
          omega
      · have hl := h.wf.1
        obtain ⟨y, j, rfl⟩ := len_one k (by omega)
        obtain ⟨kk, t, e2, _⟩ := suf_sign h1
        rw [tkR_suf h1, e2, List.length_append]
        have h2 := brk_ge x.k y.k (tkN y j.tk)
        have h4 : tkSum (.cons y j .nil) = (tkN y j.tk).length := by simp [tkSum, Fo.tk]
        have h5 : (uT x.k (y.k, tkN y j.tk)).length = (brkK x.k y.k (tkN y j.tk)).length := rfl
        simp only [List.length_cons, List.length_nil]
        omega
    rw [e]
    simp only [Fo.height, Fo.len]
    omega
theorem parsed_print {x : Nd} {k : Fo} (hg : GoodF (.cons x k .nil)) : parsed (txN x k.tx) = ⟨true, .cons x k .nil, (cut (txN x k.tx) 0).1.length⟩ := by
  obtain ⟨h1, _⟩ := cut_text x k hg.wf hg.all
  obtain ⟨h2, h3⟩ := HasT.of_map h1
  have hh := (height_tk _ hg).1
  have e : tkSum (.cons x k .nil) = (tkN x k.tk).length := by simp [tkSum, Fo.tk]
  simp only [Fo.height, Fo.len] at hh
  unfold parsed
  rw [expr_all _ _ x k 0 hg (by omega) h2 (by rw [kd_none (by omega)]; exact ⟨by decide, by decide, by decide⟩)]
  simp only [PR.mk.injEq, true_and]
  omega
theorem parse_print {N : List Nd} {x : Nd} {k : Fo} (hG : GoodT N x k) (hb : boundsF x k = 0) : parseS (txN x k.tx) = (N, 0, 0) := by
  have hg : GoodF (.cons x k .nil) := ⟨hG.wf, hG.all⟩
  have hp := parsed_print hg
  obtain ⟨_, hc⟩ := cut_text x k hG.wf hG.all
  have hsz : (txN x k.tx).size ≤ 2048 := by
    unfold boundsF at hb
    split at hb
    · omega
    · split at hb
      · omega
      · omega
  have hr : readS (txN x k.tx) = (N, 0, 0) := by
    unfold readS
    rw [if_neg (by omega), hp, if_pos ⟨rfl, rfl, hc⟩, hG.flat]
  have hl : longN N = false := by
    unfold longN
    rw [List.any_eq_false]
    intro y hy
    rw [hG.flat] at hy
    have := ((Fo.all_flat _).1 hG.all y hy).size
    simp; omega
  unfold parseS
  rw [hr, hp, if_neg (by simp), if_neg (by rw [hl]; simp)]
  exact if_neg (fun h => h hb)
/-! ### plain: a tree's text has no fewer bytes than the tree has nodes -/
def txSum (f : Fo) : Nat := (f.tx.map fun p => p.2.size).sum
theorem brkS_ge (pk k : Int) (t : ByteArray) : t.size ≤ (brk pk k t).size := by
  unfold brk; split
  · rw [ByteArray.size_append, ByteArray.size_append]; omega
  · exact Nat.le_refl _
theorem joinS_ge (sep : ByteArray) (l : List ByteArray) : (l.map (·.size)).sum + (l.length - 1) * sep.size ≤ (joinS sep l).size := by
  have e : (joinS sep l).size = (Lib.join (l.map (·.data.toList)) sep.data.toList).length := by unfold joinS; simp [ByteArray.size]
  rw [e]
  cases l with
  | nil => simp [Lib.join_nil]
  | cons a r =>
    have key : ∀ r : List ByteArray, (Lib.joinTail sep.data.toList (r.map (·.data.toList))).length = (r.map (·.size)).sum + r.length * sep.size := by
      intro r
      induction r with
      | nil => simp [Lib.joinTail]
      | cons y r ih =>
        have h1 : y.data.toList.length = y.size := by rw [Array.length_toList]; rfl
        have h2 : sep.data.toList.length = sep.size := by rw [Array.length_toList]; rfl
        simp only [Lib.joinTail, List.map_cons, List.flatten_cons, List.length_append, List.sum_cons, List.length_cons] at ih ⊢
        rw [ih, h1, h2, Nat.succ_mul]
        omega
    have e9 : Lib.join ((a :: r).map (·.data.toList)) sep.data.toList = a.data.toList ++ Lib.joinTail sep.data.toList (r.map (·.data.toList)) := by rw [List.map_cons, Lib.join_cons]
    rw [e9, List.length_append, key]
    have h1 : a.data.toList.length = a.size := by rw [Array.length_toList]; rfl
    simp only [List.map_cons, List.sum_cons, List.length_cons]
    rw [h1]
    have : r.length + 1 - 1 = r.length := by omega
    rw [this]
    omega
theorem size_tx (f : Fo) : GoodF f → f.size ≤ txSum f := by
  induction f with
  | nil => intro _; exact Nat.le_refl _
  | cons x k r ih1 ih2 =>
    intro h
    have a1 := ih1 h.kid
    have b1 := ih2 h.rest
    have e : txSum (.cons x k r) = (txN x k.tx).size + txSum r := by simp [txSum, Fo.tx]
    have hbs : txSum k ≤ ((k.tx.map fun p => brk x.k p.1 p.2).map (·.size)).sum := by
      unfold txSum
      rw [List.map_map]
      generalize k.tx = l
      induction l with
      | nil => simp
      | cons p l ih =>
        have := brkS_ge x.k p.1 p.2
        simp only [List.map_cons, List.sum_cons, Function.comp] at ih ⊢
        omega
    have key : k.size + 1 ≤ (txN x k.tx).size := by
      rcases h.all.1 with ⟨h1, _, hz⟩ | ⟨h1, hz, hn⟩ | ⟨h1, hz, hn⟩ | ⟨h1, _, hz⟩ | ⟨h1, _, hz⟩
      · have hk : k = .nil := kids0 (by have := h.wf.1; omega)
        subst hk; unfold txN; rw [if_pos h1]; decide
      · have hk : k = .nil := kids0 (by have := h.wf.1; omega)
        subst hk; unfold txN; rw [if_neg (by omega), if_pos (Or.inl h1)]; have := hn.1; simp only [Fo.size]; omega
      · have hk : k = .nil := kids0 (by have := h.wf.1; omega)
        subst hk; unfold txN; rw [if_neg (by omega), if_pos (Or.inr h1)]; have := hn.1; simp only [Fo.size]; omega
      · have hl := h.wf.1
        unfold txN
        rw [if_neg (by omega), if_neg (by omega), ByteArray.size_append]
        have hj := joinS_ge (sepK x.k) (k.tx.map fun p => brk x.k p.1 p.2)
        have hs : 1 ≤ (sepK x.k).size := by
          rcases h1 with h1 | h1 <;> rw [h1] <;> decide
        rw [List.length_map, Fo.tx_len] at hj
        have hm : 1 * 1 ≤ (k.len - 1) * (sepK x.k).size := Nat.mul_le_mul (by omega) hs
        omega
      · have hl := h.wf.1
        unfold txN
        rw [if_neg (by omega), if_neg (by omega), ByteArray.size_append]
        have hj := joinS_ge (sepK x.k) (k.tx.map fun p => brk x.k p.1 p.2)
        have hs : 1 ≤ (signK x.k).size := by
          rcases h1 with h1 | h1 | h1 <;> rw [h1] <;> decide
        omega
    rw [e]
    simp only [Fo.size]
    omega
theorem parse_ok (s : ByteArray) (h : (parseS s).2.2 = 0) : ∃ x k, GoodT (parseS s).1 x k ∧ boundsF x k = 0 ∧ (parseS s).2.1 = 0 ∧ (parseS s).1.length ≤ 2048 := by
  by_cases h0 : (readS s).2.2 = 0
  · obtain ⟨x, k, hG⟩ := read_tree s h0
    have hP : parseS s = if longN (Fo.cons x k .nil).flat = true then ([], 0, 173) else if boundsF x k ≠ 0 then ([], 0, boundsF x k) else ((Fo.cons x k .nil).flat, 0, 0) := by
      unfold parseS; rw [if_neg (by rw [h0]; simp), hG.l, hG.f]; rfl
    by_cases hn : longN (Fo.cons x k .nil).flat = true
    · rw [hP, if_pos hn] at h; cases h
    · by_cases hb : boundsF x k = 0
      · have hP2 : parseS s = ((Fo.cons x k .nil).flat, 0, 0) := by rw [hP, if_neg hn, if_neg (by rw [hb]; simp)]
        have hall := hG.may (by simpa using hn)
        have hgf : GoodF (.cons x k .nil) := ⟨hG.wf, hall⟩
        refine ⟨x, k, by rw [hP2]; exact ⟨rfl, hG.wf, hall⟩, hb, by rw [hP2], ?_⟩
        rw [hP2]
        have := size_tx _ hgf
        have e : txSum (.cons x k .nil) = (txN x k.tx).size := by simp [txSum, Fo.tx]
        have hsz : (txN x k.tx).size ≤ 2048 := by
          unfold boundsF at hb
          split at hb
          · omega
          · split at hb
            · omega
            · omega
        show (Fo.cons x k .nil).flat.length ≤ 2048
        rw [Fo.flat_len]; omega
      · rw [hP, if_neg hn, if_pos hb] at h; exact absurd h hb
  · unfold parseS at h; rw [if_pos h0] at h; exact absurd h h0
end Go.Proofs.Ytbpipnjdfmpbdaa
