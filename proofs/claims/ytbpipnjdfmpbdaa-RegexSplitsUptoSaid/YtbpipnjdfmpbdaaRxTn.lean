import Derived.Test.YtbpipnjdfmpbdaaRxR
namespace Go.Proofs.Ytbpipnjdfmpbdaa
open Go.RowKit

/-! ### plain: a tree for the words the other way round -/
def Fo.rev : Fo → Fo
  | .nil => .nil
  | .cons x k r => r.rev.app (.cons x k .nil)
def ordF (x : Nd) (k : Fo) : Fo := if x.k = 4 then k.rev else k
def Fo.tn : Fo → Fo
  | .nil => .nil
  | .cons x k r => .cons x (ordF x k.tn) r.tn
def Fo.flats : Fo → List (List Nd)
  | .nil => []
  | .cons x k r => (x :: k.flat) :: r.flats
def tnN (x : Nd) (k : Fo) : List Nd := x :: (ordF x k.tn).flat
theorem flat_flats (f : Fo) : f.flat = f.flats.flatten := by
  induction f with
  | nil => rfl
  | cons x k r _ ih => simp [Fo.flat, Fo.flats, ih]
theorem flats_app (f g : Fo) : (f.app g).flats = f.flats ++ g.flats := by
  induction f with
  | nil => rfl
  | cons x k r _ ih => simp [Fo.app, Fo.flats, ih]
theorem flats_rev (f : Fo) : f.rev.flats = f.flats.reverse := by
  induction f with
  | nil => rfl
  | cons x k r _ ih => simp [Fo.rev, flats_app, Fo.flats, ih]
theorem flats_len (f : Fo) : f.flats.length = f.len := by
  induction f with
  | nil => rfl
  | cons x k r _ ih => simp [Fo.flats, Fo.len, ih]
theorem rev_len (f : Fo) : f.rev.len = f.len := by rw [← flats_len, flats_rev, List.length_reverse, flats_len]
theorem ord_len (x : Nd) (f : Fo) : (ordF x f).len = f.len := by unfold ordF; split; exact rev_len f; rfl
theorem tn_len (f : Fo) : f.tn.len = f.len := by
  induction f with
  | nil => rfl
  | cons x k r _ ih => simp [Fo.tn, Fo.len, ih]
theorem rev_size (f : Fo) : f.rev.size = f.size := by
  induction f with
  | nil => rfl
  | cons x k r _ ih => simp [Fo.rev, Fo.size_app, Fo.size, ih]; omega
theorem ord_size (x : Nd) (f : Fo) : (ordF x f).size = f.size := by unfold ordF; split; exact rev_size f; rfl
theorem tn_size (f : Fo) : f.tn.size = f.size := by
  induction f with
  | nil => rfl
  | cons x k r ih1 ih => simp [Fo.tn, Fo.size, ih, ord_size, ih1]
theorem app_height (f g : Fo) : (f.app g).height = max f.height g.height := by
  induction f with
  | nil => simp [Fo.app, Fo.height]
  | cons x k r _ ih => simp only [Fo.app, Fo.height, ih]; omega
theorem rev_height (f : Fo) : f.rev.height = f.height := by
  induction f with
  | nil => rfl
  | cons x k r _ ih => simp only [Fo.rev, app_height, Fo.height, ih]; omega
theorem ord_height (x : Nd) (f : Fo) : (ordF x f).height = f.height := by unfold ordF; split; exact rev_height f; rfl
theorem tn_height (f : Fo) : f.tn.height = f.height := by
  induction f with
  | nil => rfl
  | cons x k r ih1 ih => simp only [Fo.tn, Fo.height, ih, ord_height, ih1]
theorem app_assoc' (f g h : Fo) : (f.app g).app h = f.app (g.app h) := by
  induction f with
  | nil => rfl
  | cons x k r _ ih => simp [Fo.app, ih]
theorem rev_app (f g : Fo) : (f.app g).rev = g.rev.app f.rev := by
  induction f with
  | nil => simp [Fo.app, Fo.rev, foApp_nil]
  | cons x k r _ ih => simp [Fo.app, Fo.rev, ih, app_assoc']
theorem rev_rev (f : Fo) : f.rev.rev = f := by
  induction f with
  | nil => rfl
  | cons x k r _ ih => simp [Fo.rev, rev_app, ih, Fo.app]
theorem tn_app (f g : Fo) : (f.app g).tn = f.tn.app g.tn := by
  induction f with
  | nil => rfl
  | cons x k r _ ih => simp [Fo.app, Fo.tn, ih]
theorem tn_rev (f : Fo) : f.rev.tn = f.tn.rev := by
  induction f with
  | nil => rfl
  | cons x k r _ ih => simp [Fo.rev, tn_app, Fo.tn, ih]
theorem tn_tn (f : Fo) : f.tn.tn = f := by
  induction f with
  | nil => rfl
  | cons x k r ih1 ih =>
    simp only [Fo.tn, ih]
    congr 1
    unfold ordF
    split
    · rw [tn_rev, rev_rev, ih1]
    · exact ih1
theorem wf_app' (f g : Fo) : (f.app g).wf ↔ f.wf ∧ g.wf := ⟨Fo.wf_app_inv f g, fun h => Fo.wf_app f g h.1 h.2⟩
theorem rev_wf (f : Fo) (h : f.wf) : f.rev.wf := by
  induction f with
  | nil => trivial
  | cons x k r _ ih => exact Fo.wf_app _ _ (ih h.2.2) ⟨h.1, h.2.1, trivial⟩
theorem ord_wf (x : Nd) (f : Fo) (h : f.wf) : (ordF x f).wf := by unfold ordF; split; exact rev_wf f h; exact h
theorem tn_wf (f : Fo) (h : f.wf) : f.tn.wf := by
  induction f with
  | nil => trivial
  | cons x k r ih1 ih => exact ⟨by rw [ord_len, tn_len]; exact h.1, ord_wf _ _ (ih1 h.2.1), ih h.2.2⟩
theorem rev_all {P : Nd → Prop} (f : Fo) (h : f.all P) : f.rev.all P := by
  induction f with
  | nil => trivial
  | cons x k r _ ih => exact Fo.all_app _ _ (ih h.2.2) ⟨h.1, h.2.1, trivial⟩
theorem ord_all {P : Nd → Prop} (x : Nd) (f : Fo) (h : f.all P) : (ordF x f).all P := by unfold ordF; split; exact rev_all f h; exact h
theorem tn_all {P : Nd → Prop} (f : Fo) (h : f.all P) : f.tn.all P := by
  induction f with
  | nil => trivial
  | cons x k r ih1 ih => exact ⟨h.1, ord_all _ _ (ih1 h.2.1), ih h.2.2⟩
theorem tn_get (f : Fo) : ∀ (i : Nat) (y : Nd) (kk : Fo), f.get i = .cons y kk .nil → f.tn.flats[i]? = some (tnN y kk) := by
  induction f with
  | nil => intro i y kk h; cases h
  | cons x k r _ ih =>
    intro i y kk h
    cases i with
    | zero =>
      simp only [Fo.get, Fo.cons.injEq, and_true] at h
      obtain ⟨rfl, rfl⟩ := h
      rfl
    | succ i => simpa [Fo.tn, Fo.flats] using ih i y kk h
/-! ### plain: sizes of texts -/
theorem joinS_len (sep : ByteArray) (l : List ByteArray) : (joinS sep l).size = (l.map (·.size)).sum + (l.length - 1) * sep.size := by
  have e : (joinS sep l).size = (Lib.join (l.map (·.data.toList)) sep.data.toList).length := by unfold joinS; simp [ByteArray.size]
  rw [e]
  cases l with
  | nil => simp [Lib.join_nil]
  | cons a r =>
    have key : ∀ r : List ByteArray, (Lib.joinTail sep.data.toList (r.map (·.data.toList))).length = (r.map (·.size)).sum + r.length * sep.size := by
      intro r
      induction r with
      | nil => simp [Lib.joinTail]
      | cons y r ih =>
        have h1 : y.data.toList.length = y.size := by rw [Array.length_toList]; rfl
        have h2 : sep.data.toList.length = sep.size := by rw [Array.length_toList]; rfl
        simp only [Lib.joinTail, List.map_cons, List.flatten_cons, List.length_append, List.sum_cons, List.length_cons] at ih ⊢
        rw [ih, h1, h2, Nat.succ_mul]
        omega
    have e9 : Lib.join ((a :: r).map (·.data.toList)) sep.data.toList = a.data.toList ++ Lib.joinTail sep.data.toList (r.map (·.data.toList)) := by rw [List.map_cons, Lib.join_cons]
    rw [e9, List.length_append, key]
    have h1 : a.data.toList.length = a.size := by rw [Array.length_toList]; rfl
    simp only [List.map_cons, List.sum_cons, List.length_cons]
    rw [h1]
    have : r.length + 1 - 1 = r.length := by omega
    rw [this]
    omega
def kz (f : Fo) : List (Int × Nat) := f.tx.map fun p => (p.1, p.2.size)
def bz (pk : Int) (p : Int × Nat) : Nat := if brkB pk p.1 = true then p.2 + 2 else p.2
theorem brk_bz (pk k : Int) (t : ByteArray) : (brk pk k t).size = bz pk (k, t.size) := by
  unfold brk bz
  split
  · rw [ByteArray.size_append, ByteArray.size_append]
    have e1 : (⟨#[40]⟩ : ByteArray).size = 1 := rfl
    have e2 : (⟨#[41]⟩ : ByteArray).size = 1 := rfl
    omega
  · rfl
theorem tx_app (f g : Fo) : (f.app g).tx = f.tx ++ g.tx := by
  induction f with
  | nil => rfl
  | cons x k r _ ih => simp [Fo.app, Fo.tx, ih]
theorem tx_rev (f : Fo) : f.rev.tx = f.tx.reverse := by
  induction f with
  | nil => rfl
  | cons x k r _ ih => simp [Fo.rev, tx_app, Fo.tx, ih]
theorem txN_size (x : Nd) (k : Fo) : (txN x k.tx).size = if x.k = 1 then 1 else if x.k = 2 ∨ x.k = 3 then x.n.size else ((kz k).map (bz x.k)).sum + ((kz k).length - 1) * (sepK x.k).size + (signK x.k).size := by
  unfold txN
  split
  · rfl
  · split
    · rfl
    · rw [ByteArray.size_append, joinS_len]
      congr 2
      · congr 1
        unfold kz
        rw [List.map_map, List.map_map]
        apply List.map_congr_left
        intro p _
        exact brk_bz _ _ _
      · rw [List.length_map]; unfold kz; rw [List.length_map]
theorem kz_ord (x : Nd) (f : Fo) : ((kz (ordF x f)).map (bz x.k)).sum = ((kz f).map (bz x.k)).sum ∧ (kz (ordF x f)).length = (kz f).length := by
  unfold ordF
  split
  · unfold kz
    rw [tx_rev]
    simp [List.map_reverse, List.sum_reverse]
  · exact ⟨rfl, rfl⟩
theorem kz_tn (f : Fo) : kz f.tn = kz f := by
  induction f with
  | nil => rfl
  | cons x k r ih1 ih =>
    have e1 : kz (Fo.cons x k r) = (x.k, (txN x k.tx).size) :: kz r := rfl
    have e2 : kz (Fo.cons x k r).tn = (x.k, (txN x (ordF x k.tn).tx).size) :: kz r.tn := rfl
    rw [e1, e2, ih, txN_size, txN_size, (kz_ord x k.tn).1, (kz_ord x k.tn).2, ih1]
theorem bounds_tn (x : Nd) (k : Fo) : boundsF x (ordF x k.tn) = boundsF x k := by
  have h : kz (Fo.cons x k .nil).tn = kz (Fo.cons x k .nil) := kz_tn _
  have hs : (txN x (ordF x k.tn).tx).size = (txN x k.tx).size := by
    have e1 : kz (Fo.cons x k .nil) = [(x.k, (txN x k.tx).size)] := rfl
    have e2 : kz (Fo.cons x k .nil).tn = [(x.k, (txN x (ordF x k.tn).tx).size)] := rfl
    rw [e1, e2] at h
    simpa using h
  unfold boundsF
  rw [ord_height, tn_height, hs]
theorem good_tn {N : List Nd} {x : Nd} {k : Fo} (h : GoodT N x k) : GoodT (tnN x k) x (ordF x k.tn) := by
  have hw := tn_wf _ h.wf
  have ha := tn_all _ h.all
  exact ⟨by simp [tnN, Fo.flat], hw, ha⟩
theorem tnN_tn (x : Nd) (k : Fo) : tnN x (ordF x k.tn) = (Fo.cons x k .nil).flat := by
  have h := tn_tn (Fo.cons x k .nil)
  have e : tnN x (ordF x k.tn) = (Fo.cons x k .nil).tn.tn.flat := by simp [tnN, Fo.tn, Fo.flat]
  rw [e, h]
theorem tnN_len (x : Nd) (k : Fo) : (tnN x k).length = k.size + 1 := by
  unfold tnN; rw [List.length_cons, Fo.flat_len, ord_size, tn_size]
/-- the kids in the order in which they are turned -/
def ordL (x : Nd) (k : Fo) : List (List Nd) := (ordF x k.tn).flats
theorem ordL_len (x : Nd) (k : Fo) : (ordL x k).length = k.len := by unfold ordL; rw [flats_len, ord_len, tn_len]
theorem ordL_flat (x : Nd) (k : Fo) : tnN x k = x :: (ordL x k).flatten := by unfold tnN ordL; rw [flat_flats]
def ordI (x : Nd) (n j : Nat) : Nat := if x.k = 4 then n - 1 - j else j
theorem ordL_at (x : Nd) (k : Fo) (j : Nat) (h : j < k.len) (y : Nd) (kk : Fo) (hg : k.get (ordI x k.len j) = .cons y kk .nil) : (ordL x k)[j]? = some (tnN y kk) := by
  unfold ordL ordF
  unfold ordI at hg
  split
  · rename_i h4
    rw [if_pos h4] at hg
    rw [flats_rev, List.getElem?_reverse (by rw [flats_len, tn_len]; exact h), flats_len, tn_len]
    exact tn_get k _ y kk hg
  · rename_i h4
    rw [if_neg h4] at hg
    exact tn_get k _ y kk hg
theorem ordL_take (x : Nd) (k : Fo) (j : Nat) (y : Nd) (kk : Fo) (h : (ordL x k)[j]? = some (tnN y kk)) : (x :: ((ordL x k).take j).flatten).length + (kk.size + 1) ≤ k.size + 1 := by
  have e1 : (ordL x k).take (j + 1) = (ordL x k).take j ++ [tnN y kk] := by rw [List.take_add_one, h]; rfl
  have e2 : ((ordL x k).take (j + 1)).flatten.length ≤ (ordL x k).flatten.length := by
    conv => rhs; rw [← List.take_append_drop (j + 1) (ordL x k), List.flatten_append, List.length_append]
    omega
  have e3 : (ordL x k).flatten.length = k.size := by
    have := congrArg List.length (ordL_flat x k)
    rw [tnN_len] at this
    simp at this ⊢
    omega
  rw [e1, List.flatten_append, List.length_append] at e2
  have e4 := tnN_len y kk
  simp only [List.flatten_cons, List.flatten_nil, List.append_nil] at e2
  rw [List.length_cons]
  omega
/-- what Turn answers -/
def TuS (N l : List Nd) (e : Int) : Prop :=
  (e ≠ 0 ∧ ChkS N e ∧ l = []) ∨ (e = 0 ∧ N.length ≤ 2048 ∧ ∃ x k, GoodT N x k ∧ boundsF x k = 0 ∧ l = tnN x k)
theorem tuS_ex (N : List Nd) : ∃ l e, TuS N l e := by
  obtain ⟨e, h⟩ := chkS_ex N
  by_cases he : e = 0
  · rcases h with ⟨_, h⟩ | ⟨_, _, h⟩ | ⟨h1, x, k, h2, h3⟩
    · omega
    · omega
    · exact ⟨_, 0, .inr ⟨rfl, h1, x, k, h2, by omega, rfl⟩⟩
  · exact ⟨_, e, .inl ⟨he, h, rfl⟩⟩
theorem TuS.chk {N l : List Nd} {e : Int} (h : TuS N l e) : ChkS N e := by
  rcases h with ⟨_, h, _⟩ | ⟨rfl, h1, x, k, h2, h3, _⟩
  · exact h
  · exact .inr (.inr ⟨h1, x, k, h2, h3.symm⟩)
theorem TuS.again {N l : List Nd} {e : Int} (h : TuS N l e) (he : e = 0) : TuS l N 0 := by
  rcases h with ⟨h, _⟩ | ⟨_, h1, x, k, h2, h3, rfl⟩
  · exact absurd he h
  · refine .inr ⟨rfl, by rw [tnN_len]; have := h2.len; omega, x, ordF x k.tn, good_tn h2, by rw [bounds_tn]; exact h3, ?_⟩
    rw [tnN_tn]; exact h2.flat
theorem TuS.len {N l : List Nd} {e : Int} (h : TuS N l e) : l.length ≤ 2048 := by
  rcases h with ⟨_, _, rfl⟩ | ⟨_, h1, x, k, h2, h3, rfl⟩
  · simp
  · rw [tnN_len]; have := h2.len; omega
end Go.Proofs.Ytbpipnjdfmpbdaa
