import Derived.Test.YtjnccfgnakggkaaMkTxP
import Derived.Test.YtjnccfgnakggkaaMkQ
namespace Go.Proofs.Ytjnccfgnakggkaa
open Go.RowKit

/-! ### plain: a text made of blanks and marks -/
structure Ch where
  b : List UInt8
  k : Int
  t : ByteArray
def layL (l : List Ch) : List UInt8 := l.flatMap fun c => c.b ++ c.t.data.toList
def placed : List Ch → Nat → List Mk
  | [], _ => []
  | c :: r, q => ⟨c.k, q + c.b.length, c.t⟩ :: placed r (q + c.b.length + c.t.size)
theorem placed_len (l : List Ch) : ∀ q, (placed l q).length = l.length := by
  induction l with
  | nil => intro q; rfl
  | cons c r ih => intro q; simp [placed, ih]
theorem placed_at (l : List Ch) : ∀ (q i : Nat) (c : Ch), l[i]? = some c → ∃ p, (placed l q)[i]? = some ⟨c.k, p, c.t⟩ := by
  induction l with
  | nil => intro q i c h; simp at h
  | cons x r ih =>
    intro q i c h
    cases i with
    | zero => simp at h; subst h; exact ⟨_, rfl⟩
    | succ i => exact ih _ i c (by simpa using h)
/-- the facts of a text that is one mark -/
structure OneMk (k : Int) (t : ByteArray) : Prop where
  one : 1 ≤ t.size
  first : kindI (bt t 0) = k
  nz : k ≠ 0
  sign : 3 < k → t.size = 1
  word : k ≤ 3 → ∀ q, q < t.size → innerI (bt t q) = true
theorem oneMk (k : Int) (t : ByteArray) (h : kindM t = (k, true)) : OneMk k t := by
  unfold kindM at h
  split at h
  · rename_i hc
    obtain ⟨hz, hs⟩ := hc
    have M := mfacts t 0 hz
    simp only [Prod.mk.injEq, and_true] at h
    have hp : (nextM t 0).p = 0 := by have := M.le; omega
    have ht : (nextM t 0).t = t := (nextM_all t hz).2 hs
    have f1 := M.first
    have f2 := M.sign
    have f3 := M.word
    have f4 := M.one
    rw [ht, h] at f2 f3
    rw [ht] at f4
    rw [hp, h] at f1
    exact ⟨f4, f1, by rw [← h]; exact hz, f2, f3⟩
  · simp at h
theorem blank_kind (c : Int) (h : blankI c = true) : kindI c = 0 ∧ innerI c = false := by
  simp [blankI] at h
  rcases h with ((h | h) | h) | h <;> subst h <;> decide
theorem bt_list (s : ByteArray) (pre l : List UInt8) (h : s.data.toList = pre ++ l) (j : Nat) : bt s (pre.length + j) = ((l.getD j 0).toNat : Int) := by
  unfold bt
  rw [h, List.getD_eq_getElem?_getD, List.getD_eq_getElem?_getD, List.getElem?_append_right (by omega)]
  congr 4
  omega
theorem size_list (s : ByteArray) (l : List UInt8) (h : s.data.toList = l) : s.size = l.length := by rw [← h, Array.length_toList]; rfl
theorem cut_blanks (s : ByteArray) (a : Nat) : ∀ n, a + n ≤ s.size → (∀ j, j < n → blankI (bt s (a + j)) = true) → cut s a = cut s (a + n) := by
  intro n
  induction n with
  | zero => intro _ _; rfl
  | succ n ih =>
    intro h hb
    rw [ih (by omega) (fun j hj => hb j (by omega)), cut_blank s (a + n) (by omega) (hb n (by omega))]
    rfl
theorem wordTo_run (s : ByteArray) (a : Nat) : ∀ n, a + n ≤ s.size → (∀ j, j < n → innerI (bt s (a + j)) = true) → wordTo s a = wordTo s (a + n) := by
  intro n
  induction n with
  | zero => intro _ _; rfl
  | succ n ih =>
    intro h hb
    rw [ih (by omega) (fun j hj => hb j (by omega)), wordTo_yes s (a + n) (by omega) (hb n (by omega))]
    rfl
theorem list_eq_extract (s t : ByteArray) (pre l : List UInt8) (h : s.data.toList = pre ++ (t.data.toList ++ l)) : s.extract pre.length (pre.length + t.size) = t := by
  have ht : t.data.toList.length = t.size := by rw [Array.length_toList]; rfl
  apply ByteArray.ext
  rw [ByteArray.data_extract]
  apply Array.toList_inj.1
  rw [Array.toList_extract, h]
  simp [List.extract_eq_take_drop]
/-- such a text is cut into its marks -/
theorem cut_lay (s : ByteArray) : ∀ (l : List Ch) (pre : List UInt8), s.data.toList = pre ++ layL l → (∀ c ∈ l, OneMk c.k c.t) → (∀ c ∈ l, ∀ x ∈ c.b, blankI (x.toNat : Int) = true) → (∀ c ∈ l.tail, c.b ≠ []) →
    cut s pre.length = (placed l pre.length, s.size) := by
  intro l
  induction l with
  | nil =>
    intro pre h _ _ _
    have hs : s.size = pre.length := by rw [size_list s _ h]; simp [layL]
    rw [← hs, cut_end]; rfl
  | cons c r ih =>
    intro pre h h1 h2 h3
    have O := h1 c (List.mem_cons_self ..)
    have B := h2 c (List.mem_cons_self ..)
    have ht : c.t.data.toList.length = c.t.size := by rw [Array.length_toList]; rfl
    have e1 : layL (c :: r) = c.b ++ (c.t.data.toList ++ layL r) := by simp [layL]
    rw [e1] at h
    have hsz := size_list s _ h
    simp only [List.length_append, ht] at hsz
    have hb : cut s pre.length = cut s (pre.length + c.b.length) := by
      refine cut_blanks s _ _ (by omega) fun j hj => ?_
      rw [bt_list s pre _ h j, List.getD_eq_getElem?_getD, List.getElem?_append_left hj, List.getElem?_eq_getElem hj]
      exact B _ (List.getElem_mem hj)
    have h' : s.data.toList = (pre ++ c.b) ++ (c.t.data.toList ++ layL r) := by rw [h]; simp
    have hbt : ∀ j, j < c.t.size → bt s (pre.length + c.b.length + j) = bt c.t j := by
      intro j hj
      have := bt_list s (pre ++ c.b) _ h' j
      rw [List.length_append] at this
      rw [this, List.getD_eq_getElem?_getD, List.getElem?_append_left (by omega), ← List.getD_eq_getElem?_getD]
      rfl
    have hf : bt s (pre.length + c.b.length) = bt c.t 0 := hbt 0 (by have := O.one; omega)
    have hlt : pre.length + c.b.length < s.size := by have := O.one; omega
    have hk : kindI (bt s (pre.length + c.b.length)) = c.k := by rw [hf]; exact O.first
    have hnb : blankI (bt s (pre.length + c.b.length)) = false := by
      rw [Bool.eq_false_iff]; intro hx
      have := (blank_kind _ hx).1
      rw [hk] at this; exact O.nz this
    have hE : endM s (pre.length + c.b.length) = pre.length + c.b.length + c.t.size := by
      unfold endM
      rw [hk]
      by_cases h4 : c.k ≤ 3
      · rw [if_pos h4]
        have hw := wordTo_run s (pre.length + c.b.length + 1) (c.t.size - 1) (by have := O.one; omega) (fun j hj => by
          rw [show pre.length + c.b.length + 1 + j = pre.length + c.b.length + (j + 1) from by omega, hbt _ (by omega)]
          exact O.word h4 _ (by omega))
        have e : pre.length + c.b.length + 1 + (c.t.size - 1) = pre.length + c.b.length + c.t.size := by have := O.one; omega
        rw [hw, e]
        by_cases hend : pre.length + c.b.length + c.t.size = s.size
        · rw [hend]; exact wordTo_end s _ (Nat.le_refl _)
        · refine wordTo_no s _ (by omega) ?_
          cases r with
          | nil => simp [layL] at hsz; omega
          | cons d r' =>
            have hd := h3 d (by simp)
            obtain ⟨x, bs, hx⟩ : ∃ x bs, d.b = x :: bs := List.exists_cons_of_ne_nil hd
            have h'' : s.data.toList = (pre ++ c.b ++ c.t.data.toList) ++ layL (d :: r') := by rw [h']; simp
            have := bt_list s _ _ h'' 0
            simp only [List.length_append, ht, Nat.add_zero] at this
            rw [this]
            have e2 : layL (d :: r') = x :: (bs ++ (d.t.data.toList ++ layL r')) := by simp [layL, hx]
            rw [e2]
            have hbx := h2 d (by simp) x (by simp [hx])
            exact (blank_kind _ hbx).2
      · rw [if_neg h4, O.sign (by omega)]
    rw [hb, cut_good s _ hlt hnb (by rw [hk]; exact O.nz), hk, hE]
    have hx := list_eq_extract s c.t (pre ++ c.b) _ h'
    rw [List.length_append] at hx
    rw [hx]
    have ih' := ih (pre ++ c.b ++ c.t.data.toList) (by rw [h']; simp) (fun d hd => h1 d (List.mem_cons_of_mem _ hd)) (fun d hd => h2 d (List.mem_cons_of_mem _ hd)) (fun d hd => h3 d (by
      cases r with
      | nil => cases hd
      | cons y r' => exact List.mem_cons_of_mem _ hd))
    simp only [List.length_append, ht] at ih'
    rw [ih']
    rfl
end Go.Proofs.Ytjnccfgnakggkaa
