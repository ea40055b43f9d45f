import Derived.Test.YtbpipnjdfmpbdaaRtM
import Derived.Test.YtbpipnjdfmpbdaaMkQ
namespace Go.Proofs.Ytbpipnjdfmpbdaa
open Go.RowKit

/-! ### plain: the marks of a text that is put together -/
theorem bt_list (s : ByteArray) (pre l : List UInt8) (h : s.data.toList = pre ++ l) (j : Nat) : bt s (pre.length + j) = ((l.getD j 0).toNat : Int) := by
  unfold bt
  rw [h, List.getD_eq_getElem?_getD, List.getD_eq_getElem?_getD, List.getElem?_append_right (by omega)]
  congr 4
  omega
theorem size_list (s : ByteArray) (l : List UInt8) (h : s.data.toList = l) : s.size = l.length := by rw [← h, Array.length_toList]; rfl
theorem wordTo_run (s : ByteArray) (a : Nat) : ∀ n, a + n ≤ s.size → (∀ j, j < n → innerI (bt s (a + j)) = true) → wordTo s a = wordTo s (a + n) := by
  intro n
  induction n with
  | zero => intro _ _; rfl
  | succ n ih =>
    intro h hb
    rw [ih (by omega) (fun j hj => hb j (by omega)), wordTo_yes s (a + n) (by omega) (hb n (by omega))]
    rfl
theorem list_eq_extract (s t : ByteArray) (pre l : List UInt8) (h : s.data.toList = pre ++ (t.data.toList ++ l)) : s.extract pre.length (pre.length + t.size) = t := by
  have ht : t.data.toList.length = t.size := by rw [Array.length_toList]; rfl
  apply ByteArray.ext
  rw [ByteArray.data_extract]
  apply Array.toList_inj.1
  rw [Array.toList_extract, h]
  simp [List.extract_eq_take_drop]
abbrev TK := Int × ByteArray
def tkOf (m : Mk) : TK := (m.k, m.t)
/-- whatever stands around it, the text u is cut into the marks T; r: a word must not go on behind it -/
def LexTo (r : Bool) (u : List UInt8) (T : List TK) : Prop :=
  ∀ (s : ByteArray) (pre post : List UInt8), s.data.toList = pre ++ (u ++ post) → (r = true → ∀ c, post.head? = some c → innerI (c.toNat : Int) = false) →
    (cut s pre.length).1.map tkOf = T ++ (cut s (pre.length + u.length)).1.map tkOf ∧ (cut s pre.length).2 = (cut s (pre.length + u.length)).2
theorem LexTo.nil : LexTo false [] [] := fun _ _ _ _ _ => ⟨rfl, rfl⟩
theorem LexTo.weak {r : Bool} {u : List UInt8} {T : List TK} (h : LexTo false u T) : LexTo r u T := fun s pre post hs _ => h s pre post hs (fun h => by cases h)
theorem LexTo.app {r1 r2 : Bool} {u1 u2 : List UInt8} {T1 T2 : List TK} (h1 : LexTo r1 u1 T1) (h2 : LexTo r2 u2 T2) (hb : r1 = false ∨ ∃ c v, u2 = c :: v ∧ innerI (c.toNat : Int) = false) : LexTo r2 (u1 ++ u2) (T1 ++ T2) := by
  intro s pre post hs hr
  obtain ⟨a1, a2⟩ := h1 s pre (u2 ++ post) (by rw [hs]; simp) (by
    intro e c hc
    rcases hb with hb | ⟨c', v, hb, hi⟩
    · rw [hb] at e; cases e
    · rw [hb] at hc; simp at hc; rw [← hc]; exact hi)
  obtain ⟨b1, b2⟩ := h2 s (pre ++ u1) post (by rw [hs]; simp) hr
  rw [List.length_append] at b1 b2
  rw [List.length_append, ← Nat.add_assoc]
  exact ⟨by rw [a1, b1, List.append_assoc], a2.trans b2⟩
theorem LexTo.blank (c : UInt8) (h : blankI (c.toNat : Int) = true) : LexTo false [c] [] := by
  intro s pre post hs _
  have hb : bt s pre.length = (c.toNat : Int) := by
    have := bt_list s pre _ hs 0
    simpa using this
  have hz := size_list s _ hs
  have e := cut_blank s pre.length (by rw [hz]; simp) (by rw [hb]; exact h)
  exact ⟨by rw [e]; rfl, by rw [e]; rfl⟩
theorem LexTo.sign (c : UInt8) (k : Int) (hk : kindI (c.toNat : Int) = k) (h3 : 3 < k) : LexTo false [c] [(k, ⟨#[c]⟩)] := by
  intro s pre post hs _
  have hb : bt s pre.length = (c.toNat : Int) := by
    have := bt_list s pre _ hs 0
    simpa using this
  have hz := size_list s _ hs
  have hlt : pre.length < s.size := by rw [hz]; simp
  have hbl : blankI (bt s pre.length) = false := kindI_blank _ (by rw [hb, hk]; omega)
  have e := cut_good s pre.length hlt hbl (by rw [hb, hk]; omega)
  have ee : endM s pre.length = pre.length + 1 := by unfold endM; rw [hb, hk, if_neg (by omega)]
  have ex : s.extract pre.length (pre.length + 1) = ⟨#[c]⟩ := list_eq_extract s ⟨#[c]⟩ pre post hs
  rw [e, ee, ex, hb, hk]
  exact ⟨rfl, rfl⟩
theorem bt_self (t : ByteArray) (pre l : List UInt8) (s : ByteArray) (hs : s.data.toList = pre ++ (t.data.toList ++ l)) (j : Nat) (hj : j < t.size) : bt s (pre.length + j) = bt t j := by
  rw [bt_list s pre _ hs j]
  unfold bt
  have : t.data.toList.length = t.size := by rw [Array.length_toList]; rfl
  rw [List.getD_eq_getElem?_getD, List.getD_eq_getElem?_getD, List.getElem?_append_left (by omega)]
theorem LexTo.name (t : ByteArray) (k : Int) (h : nameOk t k) (hk : k = 1 ∨ k = 2) : LexTo true t.data.toList [(k, t)] := by
  intro s pre post hs hr
  obtain ⟨h1, _, h3, h4⟩ := h
  have ht : t.data.toList.length = t.size := by rw [Array.length_toList]; rfl
  have hb : ∀ j, j < t.size → bt s (pre.length + j) = bt t j := fun j hj => bt_self t pre post s hs j hj
  have hz := size_list s _ hs
  simp only [List.length_append, ht] at hz
  have hb0 : bt s pre.length = bt t 0 := hb 0 (by omega)
  have hbl : blankI (bt s pre.length) = false := kindI_blank _ (by rw [hb0, h3]; omega)
  have e := cut_good s pre.length (by omega) hbl (by rw [hb0, h3]; omega)
  have hrun := wordTo_run s (pre.length + 1) (t.size - 1) (by omega) (fun j hj => by
    rw [show pre.length + 1 + j = pre.length + (1 + j) from by omega, hb (1 + j) (by omega)]; exact h4 _ (by omega))
  rw [show pre.length + 1 + (t.size - 1) = pre.length + t.size from by omega] at hrun
  have hstop : wordTo s (pre.length + t.size) = pre.length + t.size := by
    cases post with
    | nil => exact wordTo_end s _ (by simp at hz; omega)
    | cons c post =>
      refine wordTo_no s _ (by simp at hz; omega) ?_
      have := bt_list s (pre ++ t.data.toList) (c :: post) (by rw [hs]; simp) 0
      simp only [List.length_append, ht, Nat.add_zero] at this
      rw [this]
      exact hr rfl c rfl
  have ee : endM s pre.length = pre.length + t.size := by unfold endM; rw [hb0, h3, if_pos (by omega), hrun, hstop]
  have ex := list_eq_extract s t pre post hs
  rw [e, ee, ex, hb0, h3, ht]
  exact ⟨rfl, rfl⟩

/-! ### plain: the marks of a tree's text -/
def sepT (k : Int) : List TK := if k = 5 then [(6, ⟨#[124]⟩)] else []
def signT (k : Int) : List TK := if k = 6 then [(7, ⟨#[42]⟩)] else if k = 7 then [(8, ⟨#[43]⟩)] else if k = 8 then [(9, ⟨#[63]⟩)] else []
def brkK (pk k : Int) (t : List TK) : List TK := if brkB pk k = true then (10, ⟨#[40]⟩) :: (t ++ [(11, ⟨#[41]⟩)]) else t
def joinT (sep : List TK) : List (List TK) → List TK
  | [] => []
  | x :: r => x ++ r.flatMap fun y => sep ++ y
def tkN (x : Nd) (ks : List (Int × List TK)) : List TK :=
  if x.k = 1 then [(12, ⟨#[37]⟩)] else if x.k = 2 then [(1, x.n)] else if x.k = 3 then [(2, x.n)] else joinT (sepT x.k) (ks.map fun p => brkK x.k p.1 p.2) ++ signT x.k
def Fo.tk : Fo → List (Int × List TK)
  | .nil => []
  | .cons x k r => (x.k, tkN x k.tk) :: r.tk
theorem joinS_list (sep : ByteArray) (l : List ByteArray) : (joinS sep l).data.toList = Lib.join (l.map (·.data.toList)) sep.data.toList := by unfold joinS; simp
theorem LexTo.joinTail (sep : List UInt8) (sepk : List TK) (hs : LexTo false sep sepk) (hsp : ∃ c v, sep = c :: v ∧ innerI (c.toNat : Int) = false) :
    ∀ (us : List (List UInt8)) (Ts : List (List TK)) (u : List UInt8) (T : List TK), LexTo true u T → us.length = Ts.length → (∀ (i : Nat) (a : List UInt8) (b : List TK), us[i]? = some a → Ts[i]? = some b → LexTo true a b) →
      LexTo true (u ++ Lib.joinTail sep us) (T ++ Ts.flatMap fun y => sepk ++ y) := by
  intro us
  induction us with
  | nil =>
    intro Ts u T h hl _
    obtain rfl : Ts = [] := List.length_eq_zero_iff.1 hl.symm
    simpa [Lib.joinTail] using h
  | cons a us ih =>
    intro Ts u T h hl hE
    cases Ts with
    | nil => simp at hl
    | cons b Ts =>
      have h1 : LexTo true (u ++ (sep ++ a)) (T ++ (sepk ++ b)) := LexTo.app h (LexTo.app hs (hE 0 a b rfl rfl) (.inl rfl)) (by
        obtain ⟨c, v, e, hi⟩ := hsp
        exact .inr ⟨c, v ++ a, by rw [e]; rfl, hi⟩)
      have h2 := ih Ts _ _ h1 (by simpa using hl) (fun i a b ha hb => hE (i + 1) a b (by simpa using ha) (by simpa using hb))
      simpa [Lib.joinTail] using h2
theorem LexTo.join (sep : List UInt8) (sepk : List TK) (hs : LexTo false sep sepk) (hsp : ∃ c v, sep = c :: v ∧ innerI (c.toNat : Int) = false) (us : List (List UInt8)) (Ts : List (List TK)) (hl : us.length = Ts.length)
    (hE : ∀ (i : Nat) (a : List UInt8) (b : List TK), us[i]? = some a → Ts[i]? = some b → LexTo true a b) : LexTo true (Lib.join us sep) (joinT sepk Ts) := by
  cases us with
  | nil =>
    obtain rfl : Ts = [] := List.length_eq_zero_iff.1 hl.symm
    rw [Lib.join_nil]; exact LexTo.weak LexTo.nil
  | cons a us =>
    cases Ts with
    | nil => simp at hl
    | cons b Ts =>
      rw [Lib.join_cons]
      exact LexTo.joinTail sep sepk hs hsp us Ts a b (hE 0 a b rfl rfl) (by simpa using hl) (fun i a b ha hb => hE (i + 1) a b (by simpa using ha) (by simpa using hb))
theorem LexTo.brk (pk k : Int) (t : ByteArray) (T : List TK) (h : LexTo true t.data.toList T) : LexTo true (Go.Proofs.Ytbpipnjdfmpbdaa.brk pk k t).data.toList (brkK pk k T) := by
  unfold Go.Proofs.Ytbpipnjdfmpbdaa.brk brkK
  split
  · have e : ((⟨#[40]⟩ : ByteArray) ++ t ++ (⟨#[41]⟩ : ByteArray)).data.toList = [40] ++ (t.data.toList ++ [41]) := by simp
    rw [e]
    exact LexTo.app (T1 := [(10, ⟨#[40]⟩)]) (LexTo.sign 40 10 (by decide) (by decide)) (LexTo.app h (LexTo.weak (LexTo.sign 41 11 (by decide) (by decide))) (.inr ⟨41, [], rfl, by decide⟩)) (.inl rfl)
  · exact h
theorem Fo.tk_len (f : Fo) : f.tk.length = f.len := by
  induction f with
  | nil => rfl
  | cons x k r _ ih => simp [Fo.tk, Fo.len, ih]
theorem lex_tx (f : Fo) (hwf : f.wf) (hall : f.all mayN) : ∀ (i : Nat) (p : Int × ByteArray) (q : Int × List TK), f.tx[i]? = some p → f.tk[i]? = some q → p.1 = q.1 ∧ LexTo true p.2.data.toList q.2 := by
  induction f with
  | nil => intro i p q h; simp [Fo.tx] at h
  | cons x k r ih1 ih2 =>
    have a2 := ih1 hwf.2.1 hall.2.1
    have b2 := ih2 hwf.2.2 hall.2.2
    intro i p q hp hq
    cases i with
    | succ i => exact b2 i p q (by simpa [Fo.tx] using hp) (by simpa [Fo.tk] using hq)
    | zero =>
      simp only [Fo.tx, List.getElem?_cons_zero, Option.some.injEq] at hp
      simp only [Fo.tk, List.getElem?_cons_zero, Option.some.injEq] at hq
      subst hp; subst hq
      refine ⟨rfl, ?_⟩
      simp only
      have hm := hall.1
      have hE : ∀ (i : Nat) (a : List UInt8) (b : List TK), ((k.tx.map fun p => brk x.k p.1 p.2).map (·.data.toList))[i]? = some a → (k.tk.map fun p => brkK x.k p.1 p.2)[i]? = some b → LexTo true a b := by
        intro i a b ha hb
        rw [List.getElem?_map, List.getElem?_map] at ha
        rw [List.getElem?_map] at hb
        cases hx : k.tx[i]? with
        | none => rw [hx] at ha; cases ha
        | some p =>
          cases hy : k.tk[i]? with
          | none => rw [hy] at hb; cases hb
          | some q =>
            rw [hx] at ha; rw [hy] at hb
            simp only [Option.map, Option.some.injEq] at ha hb
            obtain ⟨e1, e2⟩ := a2 i p q hx hy
            rw [← ha, ← hb, e1]
            exact LexTo.brk _ _ _ _ e2
      have hll : ((k.tx.map fun p => brk x.k p.1 p.2).map (·.data.toList)).length = (k.tk.map fun p => brkK x.k p.1 p.2).length := by
        simp [Fo.tx_len, Fo.tk_len]
      rcases hm with ⟨h, _, _⟩ | ⟨h, _, hn⟩ | ⟨h, _, hn⟩ | ⟨h, _, _⟩ | ⟨h, hnn, hc⟩
      · unfold txN tkN; rw [if_pos h, if_pos h]; exact LexTo.weak (LexTo.sign 37 12 (by decide) (by decide))
      · have e1 : txN x k.tx = x.n := by unfold txN; rw [if_neg (by omega), if_pos (Or.inl h)]
        have e2 : tkN x k.tk = [(1, x.n)] := by unfold tkN; rw [if_neg (by omega), if_pos h]
        rw [e1, e2]; exact LexTo.name _ 1 hn (.inl rfl)
      · have e1 : txN x k.tx = x.n := by unfold txN; rw [if_neg (by omega), if_pos (Or.inr h)]
        have e2 : tkN x k.tk = [(2, x.n)] := by unfold tkN; rw [if_neg (by omega), if_neg (by omega), if_pos h]
        rw [e1, e2]; exact LexTo.name _ 2 hn (.inr rfl)
      · have e1 : txN x k.tx = joinS (sepK x.k) (k.tx.map fun p => brk x.k p.1 p.2) ++ signK x.k := by unfold txN; rw [if_neg (by omega), if_neg (by omega)]
        have e2 : tkN x k.tk = joinT (sepT x.k) (k.tk.map fun p => brkK x.k p.1 p.2) ++ signT x.k := by unfold tkN; rw [if_neg (by omega), if_neg (by omega), if_neg (by omega)]
        have e3 : signK x.k = ⟨#[]⟩ := by unfold signK; rw [if_neg (by omega), if_neg (by omega), if_neg (by omega)]
        have e4 : signT x.k = [] := by unfold signT; rw [if_neg (by omega), if_neg (by omega), if_neg (by omega)]
        have hsep : LexTo false (sepK x.k).data.toList (sepT x.k) ∧ ∃ c v, (sepK x.k).data.toList = c :: v ∧ innerI (c.toNat : Int) = false := by
          rcases h with h | h
          · have s1 : sepK x.k = ⟨#[32]⟩ := by unfold sepK; rw [if_neg (by omega), if_pos h]
            have s2 : sepT x.k = [] := by unfold sepT; rw [if_neg (by omega)]
            rw [s1, s2]
            exact ⟨LexTo.blank 32 (by decide), 32, [], rfl, by decide⟩
          · have s1 : sepK x.k = ⟨#[32, 124, 32]⟩ := by unfold sepK; rw [if_pos h]
            have s2 : sepT x.k = [(6, ⟨#[124]⟩)] := by unfold sepT; rw [if_pos h]
            rw [s1, s2]
            exact ⟨LexTo.app (u1 := [32]) (T1 := []) (LexTo.blank 32 (by decide)) (LexTo.app (u1 := [124]) (T2 := []) (LexTo.sign 124 6 (by decide) (by decide)) (LexTo.blank 32 (by decide)) (.inl rfl)) (.inl rfl), 32, [124, 32], rfl, by decide⟩
        have e5 : (joinS (sepK x.k) (k.tx.map fun p => brk x.k p.1 p.2) ++ (⟨#[]⟩ : ByteArray)).data.toList = Lib.join ((k.tx.map fun p => brk x.k p.1 p.2).map (·.data.toList)) (sepK x.k).data.toList := by
          rw [← joinS_list]; simp
        rw [e1, e2, e3, e4, e5, List.append_nil]
        exact LexTo.join _ _ hsep.1 hsep.2 _ _ hll hE
      · have e1 : txN x k.tx = joinS (sepK x.k) (k.tx.map fun p => brk x.k p.1 p.2) ++ signK x.k := by unfold txN; rw [if_neg (by omega), if_neg (by omega)]
        have e2 : tkN x k.tk = joinT (sepT x.k) (k.tk.map fun p => brkK x.k p.1 p.2) ++ signT x.k := by unfold tkN; rw [if_neg (by omega), if_neg (by omega), if_neg (by omega)]
        have hk1 : k.len = 1 := by have := hwf.1; omega
        obtain ⟨y, j, rfl⟩ := len_one k hk1
        have h0 := hE 0 _ _ rfl rfl
        have hsg : ∃ (c : UInt8) (kk : Int), signK x.k = ⟨#[c]⟩ ∧ signT x.k = [(kk, ⟨#[c]⟩)] ∧ kindI (c.toNat : Int) = kk ∧ 3 < kk ∧ innerI (c.toNat : Int) = false := by
          rcases h with h | h | h
          · exact ⟨42, 7, by unfold signK; rw [if_pos h], by unfold signT; rw [if_pos h], by decide, by decide, by decide⟩
          · exact ⟨43, 8, by unfold signK; rw [if_neg (by omega), if_pos h], by unfold signT; rw [if_neg (by omega), if_pos h], by decide, by decide, by decide⟩
          · exact ⟨63, 9, by unfold signK; rw [if_neg (by omega), if_neg (by omega), if_pos h], by unfold signT; rw [if_neg (by omega), if_neg (by omega), if_pos h], by decide, by decide, by decide⟩
        obtain ⟨c, kk, g1, g2, g3, g4, g5⟩ := hsg
        have e5 : (joinS (sepK x.k) ((Fo.cons y j .nil).tx.map fun p => brk x.k p.1 p.2) ++ (⟨#[c]⟩ : ByteArray)).data.toList = (brk x.k y.k (txN y j.tx)).data.toList ++ [c] := by
          have : (joinS (sepK x.k) ((Fo.cons y j .nil).tx.map fun p => brk x.k p.1 p.2)).data.toList = (brk x.k y.k (txN y j.tx)).data.toList := by
            rw [joinS_list]; simp [Fo.tx, Lib.join_cons, Lib.joinTail]
          simp [this]
        have e6 : joinT (sepT x.k) ((Fo.cons y j .nil).tk.map fun p => brkK x.k p.1 p.2) = brkK x.k y.k (tkN y j.tk) := by simp [Fo.tk, joinT]
        rw [e1, e2, g1, g2, e5, e6]
        exact LexTo.app h0 (LexTo.weak (LexTo.sign c kk g3 g4)) (.inr ⟨c, [], rfl, g5⟩)
/-- the marks of a tree's text -/
theorem cut_text (x : Nd) (k : Fo) (hwf : (Fo.cons x k .nil).wf) (hall : (Fo.cons x k .nil).all mayN) :
    (cut (txN x k.tx) 0).1.map tkOf = tkN x k.tk ∧ (cut (txN x k.tx) 0).2 = (txN x k.tx).size := by
  have h := (lex_tx (Fo.cons x k .nil) hwf hall 0 (x.k, txN x k.tx) (x.k, tkN x k.tk) rfl rfl).2
  obtain ⟨h1, h2⟩ := h (txN x k.tx) [] [] (by simp) (fun _ c hc => by simp at hc)
  have hz : ([] : List UInt8).length + (txN x k.tx).data.toList.length = (txN x k.tx).size := by rw [List.length_nil, Array.length_toList, Nat.zero_add]; rfl
  simp only at h1 h2
  rw [hz, cut_end] at h1 h2
  exact ⟨by simpa using h1, h2⟩
end Go.Proofs.Ytbpipnjdfmpbdaa
namespace Go.Proofs.Ytbpipnjdfmpbdaa
open Go.RowKit

/-! ### plain: a tree's marks are read as that tree -/
structure HasT (M : List Mk) (p : Nat) (T : List TK) : Prop where
  fit : p + T.length ≤ M.length
  at' : ∀ (i : Nat) (q : TK), T[i]? = some q → kd M (p + i) = q.1 ∧ tx M (p + i) = q.2
theorem HasT.left {M : List Mk} {p : Nat} {A B : List TK} (h : HasT M p (A ++ B)) : HasT M p A :=
  ⟨by have := h.fit; rw [List.length_append] at this; omega, fun i q hq => h.at' i q (by rw [List.getElem?_append_left (List.getElem?_eq_some_iff.1 hq).1]; exact hq)⟩
theorem HasT.right {M : List Mk} {p : Nat} {A B : List TK} (h : HasT M p (A ++ B)) : HasT M (p + A.length) B :=
  ⟨by have := h.fit; rw [List.length_append] at this; omega, fun i q hq => by
    have := h.at' (A.length + i) q (by rw [List.getElem?_append_right (by omega), show A.length + i - A.length = i from by omega]; exact hq)
    rwa [← Nat.add_assoc] at this⟩
theorem HasT.head {M : List Mk} {p : Nat} {q : TK} {B : List TK} (h : HasT M p (q :: B)) : kd M p = q.1 ∧ tx M p = q.2 ∧ HasT M (p + 1) B ∧ p < M.length := by
  obtain ⟨h1, h2⟩ := h.at' 0 q rfl
  exact ⟨h1, h2, HasT.right (A := [q]) h, by have := h.fit; simp at this; omega⟩
def nxT (k : Int) : Prop := beginsI k = false ∧ k ≠ 6 ∧ sufK k = 0
theorem begins_suf {k : Int} (h : beginsI k = true) : sufK k = 0 := by
  rcases begins_cases h with h | h | h | h <;> subst h <;> rfl
structure GoodF (f : Fo) : Prop where
  wf : f.wf
  all : f.all mayN
theorem GoodF.kid {x : Nd} {k r : Fo} (h : GoodF (.cons x k r)) : GoodF k := ⟨h.wf.2.1, h.all.2.1⟩
theorem GoodF.rest {x : Nd} {k r : Fo} (h : GoodF (.cons x k r)) : GoodF r := ⟨h.wf.2.2, h.all.2.2⟩
theorem GoodF.one {x : Nd} {k r : Fo} (h : GoodF (.cons x k r)) : GoodF (.cons x k .nil) := ⟨⟨h.wf.1, h.wf.2.1, trivial⟩, ⟨h.all.1, h.all.2.1, trivial⟩⟩
/-- the marks of each kid -/
def uT (pk : Int) (p : Int × List TK) : List TK := brkK pk p.1 p.2
def seqT (f : Fo) : List TK := f.tk.flatMap (uT 4)
def altT (f : Fo) : List TK := f.tk.flatMap fun p => (6, ⟨#[124]⟩) :: uT 5 p
theorem tk_seq {x : Nd} {k : Fo} (h : x.k = 4) : tkN x k.tk = seqT k := by
  unfold tkN seqT
  rw [if_neg (by omega), if_neg (by omega), if_neg (by omega), h]
  have e1 : sepT 4 = [] := rfl
  have e2 : signT 4 = [] := rfl
  rw [e1, e2, List.append_nil]
  cases k.tk with
  | nil => rfl
  | cons p l => simp [joinT, uT, List.flatMap_map]; rfl
theorem tk_alt {x : Nd} {y : Nd} {j r : Fo} (h : x.k = 5) : tkN x (Fo.cons y j r).tk = uT 5 (y.k, tkN y j.tk) ++ altT r := by
  conv => lhs; unfold tkN
  unfold altT
  rw [if_neg (by omega), if_neg (by omega), if_neg (by omega), h]
  have e1 : sepT 5 = [(6, ⟨#[124]⟩)] := rfl
  have e2 : signT 5 = [] := rfl
  rw [e1, e2, List.append_nil]
  simp [joinT, uT, List.flatMap_map, Fo.tk]
theorem suf_sign {x : Nd} (h : x.k = 6 ∨ x.k = 7 ∨ x.k = 8) : ∃ (kk : Int) (t : ByteArray), signT x.k = [(kk, t)] ∧ sufK kk = x.k := by
  rcases h with h | h | h <;> rw [h]
  · exact ⟨7, _, rfl, rfl⟩
  · exact ⟨8, _, rfl, rfl⟩
  · exact ⟨9, _, rfl, rfl⟩
theorem tkR_suf {x y : Nd} {j : Fo} (h : x.k = 6 ∨ x.k = 7 ∨ x.k = 8) : tkN x (Fo.cons y j .nil).tk = uT x.k (y.k, tkN y j.tk) ++ signT x.k := by
  conv => lhs; unfold tkN
  rw [if_neg (by omega), if_neg (by omega), if_neg (by omega)]
  simp [joinT, uT, Fo.tk]
theorem brk_other {pk k : Int} (h4 : k ≠ 4) (h5 : k ≠ 5) (t : List TK) : brkK pk k t = t := by
  unfold brkK brkB
  rw [if_neg (by simp [h4, h5])]
theorem brk_yes {pk k : Int} (h : brkB pk k = true) (t : List TK) : brkK pk k t = (10, ⟨#[40]⟩) :: (t ++ [(11, ⟨#[41]⟩)]) := by unfold brkK; rw [if_pos h]
theorem kids0 {k : Fo} (h : k.len = 0) : k = .nil := by
  cases k with
  | nil => rfl
  | cons => simp [Fo.len] at h
theorem first_tk (f : Fo) : GoodF f → ∀ (x : Nd) (k r : Fo), f = .cons x k r → ∃ q T, tkN x k.tk = q :: T ∧ beginsI q.1 = true := by
  induction f with
  | nil => intro _ x k r e; cases e
  | cons x' k' r' ih1 _ =>
    intro h x k r e
    cases e
    rcases h.all.1 with ⟨h1, _, _⟩ | ⟨h1, _, _⟩ | ⟨h1, _, _⟩ | ⟨h1, _, hc⟩ | ⟨h1, _, hc⟩
    · exact ⟨_, _, by unfold tkN; rw [if_pos h1], rfl⟩
    · exact ⟨_, _, by unfold tkN; rw [if_neg (by omega), if_pos h1], rfl⟩
    · exact ⟨_, _, by unfold tkN; rw [if_neg (by omega), if_neg (by omega), if_pos h1], rfl⟩
    all_goals
      have hl : 1 ≤ k'.len := by have := h.wf.1; omega
      obtain ⟨y, j, r2, rfl⟩ : ∃ y j r2, k' = Fo.cons y j r2 := by
        cases k' with
        | nil => simp [Fo.len] at hl
        | cons y j r2 => exact ⟨y, j, r2, rfl⟩
      obtain ⟨q, T, e1, e2⟩ := ih1 h.kid y j r2 rfl
      have hu : ∀ pk, ∃ q T, uT pk (y.k, tkN y j.tk) = q :: T ∧ beginsI q.1 = true := by
        intro pk
        unfold uT brkK
        simp only
        split
        · exact ⟨_, _, rfl, rfl⟩
        · exact ⟨q, T, e1, e2⟩
    · rcases h1 with h1 | h1
      · obtain ⟨q, T, e3, e4⟩ := hu 4
        refine ⟨q, T ++ seqT r2, ?_, e4⟩
        rw [tk_seq h1]
        show uT 4 (y.k, tkN y j.tk) ++ seqT r2 = _
        rw [e3]; rfl
      · obtain ⟨q, T, e3, e4⟩ := hu 5
        exact ⟨q, T ++ altT r2, by rw [tk_alt h1, e3]; rfl, e4⟩
    · obtain ⟨q, T, e3, e4⟩ := hu x'.k
      have hr2 : r2 = .nil := kids0 (by have := h.wf.1; simp [Fo.len] at this; omega)
      subst hr2
      exact ⟨q, T ++ signT x'.k, by rw [tkR_suf h1, e3]; rfl, e4⟩
theorem first_u {x : Nd} {k r : Fo} (h : GoodF (.cons x k r)) (pk : Int) : ∃ q T, uT pk (x.k, tkN x k.tk) = q :: T ∧ beginsI q.1 = true := by
  obtain ⟨q, T, e1, e2⟩ := first_tk _ h x k r rfl
  unfold uT brkK
  simp only
  split
  · exact ⟨_, _, rfl, rfl⟩
  · exact ⟨q, T, e1, e2⟩
theorem pSufR_stop {M : List Mk} {q : Nat} (h : sufK (kd M q) = 0) (m : Nat) (f : Fo) : pSuf M m q f = ⟨true, f, q⟩ := by
  cases m with
  | zero => rfl
  | succ m => unfold pSuf; rw [if_pos h]
theorem pSufR_step {M : List Mk} {q : Nat} (hq : q < M.length) {s : Int} (h : sufK (kd M q) = s) (hs : s ≠ 0) (f : Fo) : pSuf M (M.length - q) q f = pSuf M (M.length - (q + 1)) (q + 1) (.cons ⟨s, ⟨#[]⟩, 1⟩ f .nil) := by
  rw [show M.length - q = (M.length - (q + 1)) + 1 from by omega]
  conv => lhs; unfold pSuf
  rw [h, if_neg hs]
def HE (M : List Mk) (E : Nat → PR) (n : Nat) : Prop :=
  ∀ (y : Nd) (j : Fo) (p : Nat), GoodF (.cons y j .nil) → j.height + 1 ≤ n → HasT M p (tkN y j.tk) → nxT (kd M (p + (tkN y j.tk).length)) → E p = ⟨true, .cons y j .nil, p + (tkN y j.tk).length⟩
theorem atom_brk {M : List Mk} {E : Nat → PR} {n : Nat} (hE : HE M E n) {y : Nd} {j : Fo} {p : Nat} (hg : GoodF (.cons y j .nil)) (hh : j.height + 1 ≤ n) (hT : HasT M p ((10, ⟨#[40]⟩) :: (tkN y j.tk ++ [(11, ⟨#[41]⟩)]))) :
    pAtom E M p = ⟨true, .cons y j .nil, p + (tkN y j.tk).length + 2⟩ := by
  obtain ⟨h1, _, h2, _⟩ := hT.head
  obtain ⟨h3, _, _, _⟩ := h2.right.head
  have hx := hE y j (p + 1) hg hh h2.left (by rw [h3]; exact ⟨by decide, by decide, by decide⟩)
  simp only at h1 h3
  unfold pAtom
  rw [h1, if_pos (by decide), if_neg (by decide), if_neg (by decide), if_neg (by decide), hx]
  simp only
  rw [h3]
  simp
  omega
theorem unit_self (M : List Mk) (E : Nat → PR) (n : Nat) (hE : HE M E n) (f : Fo) : ∀ (x : Nd) (k : Fo), f = .cons x k .nil → GoodF f → x.k ≠ 4 → x.k ≠ 5 → k.height ≤ n → ∀ p, HasT M p (tkN x k.tk) →
    pUnit E M p = pSuf M (M.length - (p + (tkN x k.tk).length)) (p + (tkN x k.tk).length) (.cons x k .nil) := by
  induction f with
  | nil => intro x k e; cases e
  | cons x' k' r' ih1 _ =>
    intro x k e hg h4 h5 hh p hT
    cases e
    have hm := hg.all.1
    have hc := hg.wf.1
    have hat : ∀ (q : TK) (f : Fo), tkN x' k'.tk = [q] → pAtom E M p = ⟨true, f, p + 1⟩ → f = .cons x' k' .nil → pUnit E M p = pSuf M (M.length - (p + (tkN x' k'.tk).length)) (p + (tkN x' k'.tk).length) (.cons x' k' .nil) := by
      intro q f e1 e2 e3
      unfold pUnit
      rw [e1, e2, if_pos rfl, e3]; rfl
    rcases hm with ⟨h1, hn, hz⟩ | ⟨h1, hz, hn⟩ | ⟨h1, hz, hn⟩ | ⟨h1, _, _⟩ | ⟨h1, hn, hz⟩
    · have e1 : tkN x' k'.tk = [(12, ⟨#[37]⟩)] := by unfold tkN; rw [if_pos h1]
      have hk : k' = .nil := kids0 (by omega)
      rw [e1] at hT
      obtain ⟨g1, g2, _, _⟩ := hT.head
      simp only at g1 g2
      refine hat _ (leafF 1 ⟨#[]⟩) e1 ?_ ?_
      · unfold pAtom; rw [g1, if_pos (by decide), if_neg (by decide), if_neg (by decide), if_pos rfl]
      · subst hk; obtain ⟨a, b, c⟩ := x'; simp only at h1 hn hz; subst h1 hn hz; rfl
    · have e1 : tkN x' k'.tk = [(1, x'.n)] := by unfold tkN; rw [if_neg (by omega), if_pos h1]
      have hk : k' = .nil := kids0 (by omega)
      rw [e1] at hT
      obtain ⟨g1, g2, _, _⟩ := hT.head
      simp only at g1 g2
      refine hat _ (leafF 2 (tx M p)) e1 ?_ ?_
      · unfold pAtom; rw [g1, if_pos (by decide), if_pos rfl]
      · rw [g2]; subst hk; obtain ⟨a, b, c⟩ := x'; simp only at h1 hz; subst h1 hz; rfl
    · have e1 : tkN x' k'.tk = [(2, x'.n)] := by unfold tkN; rw [if_neg (by omega), if_neg (by omega), if_pos h1]
      have hk : k' = .nil := kids0 (by omega)
      rw [e1] at hT
      obtain ⟨g1, g2, _, _⟩ := hT.head
      simp only at g1 g2
      refine hat _ (leafF 3 (tx M p)) e1 ?_ ?_
      · unfold pAtom; rw [g1, if_pos (by decide), if_neg (by decide), if_pos rfl]
      · rw [g2]; subst hk; obtain ⟨a, b, c⟩ := x'; simp only at h1 hz; subst h1 hz; rfl
    · omega
    · obtain ⟨y, j, rfl⟩ := len_one k' (by omega)
      obtain ⟨kk, t, e2, e3⟩ := suf_sign h1
      rw [tkR_suf h1, e2] at hT ⊢
      have hx' : x' = ⟨x'.k, ⟨#[]⟩, 1⟩ := by obtain ⟨a, b, c⟩ := x'; simp only at hn hz; subst hn hz; rfl
      have hht : j.height + 1 ≤ n := by simp only [Fo.height] at hh; omega
      obtain ⟨g1, _, _, g4⟩ := hT.right.head
      simp only at g1
      have key : pUnit E M p = pSuf M (M.length - (p + (uT x'.k (y.k, tkN y j.tk)).length)) (p + (uT x'.k (y.k, tkN y j.tk)).length) (.cons y j .nil) := by
        by_cases hy : y.k = 4 ∨ y.k = 5
        · have eb : uT x'.k (y.k, tkN y j.tk) = (10, ⟨#[40]⟩) :: (tkN y j.tk ++ [(11, ⟨#[41]⟩)]) := brk_yes (by unfold brkB; rcases hy with hy | hy <;> rw [hy] <;> simp; omega) _
          rw [eb] at hT ⊢
          have ha := atom_brk hE hg.kid hht hT.left
          unfold pUnit
          rw [ha, if_pos rfl]
          simp only [List.length_cons, List.length_append, List.length_nil]
          rw [show p + (tkN y j.tk).length + 2 = p + ((tkN y j.tk).length + (0 + 1) + 1) from by omega]
        · have eb : uT x'.k (y.k, tkN y j.tk) = tkN y j.tk := brk_other (by omega) (by omega) _
          rw [eb] at hT ⊢
          exact ih1 y j rfl hg.kid (by omega) (by omega) (by omega) p hT.left
      rw [key, pSufR_step g4 (s := x'.k) (by rw [g1]; exact e3) (by omega), ← hx']
      simp only [List.length_append, List.length_cons, List.length_nil, Nat.zero_add, Nat.add_assoc]
theorem unit_u {M : List Mk} {E : Nat → PR} {n : Nat} (hE : HE M E n) {y : Nd} {j : Fo} {p : Nat} (hg : GoodF (.cons y j .nil)) (hh : j.height + 1 ≤ n) (hT : HasT M p (uT 4 (y.k, tkN y j.tk))) (hs : sufK (kd M (p + (uT 4 (y.k, tkN y j.tk)).length)) = 0) :
    pUnit E M p = ⟨true, .cons y j .nil, p + (uT 4 (y.k, tkN y j.tk)).length⟩ := by
  by_cases hy : y.k = 4 ∨ y.k = 5
  · have eb : uT 4 (y.k, tkN y j.tk) = (10, ⟨#[40]⟩) :: (tkN y j.tk ++ [(11, ⟨#[41]⟩)]) := brk_yes (by unfold brkB; rcases hy with hy | hy <;> rw [hy] <;> simp) _
    rw [eb] at hT hs ⊢
    have ha := atom_brk hE hg hh hT
    have el : p + ((10, ⟨#[40]⟩) :: (tkN y j.tk ++ [(11, (⟨#[41]⟩ : ByteArray))]) : List TK).length = p + (tkN y j.tk).length + 2 := by simp; omega
    rw [el] at hs ⊢
    unfold pUnit
    rw [ha, if_pos rfl]
    exact pSufR_stop hs _ _
  · have eb : uT 4 (y.k, tkN y j.tk) = tkN y j.tk := brk_other (by omega) (by omega) _
    rw [eb] at hT hs ⊢
    rw [unit_self M E n hE _ y j rfl hg (by omega) (by omega) (by omega) p hT]
    exact pSufR_stop hs _ _
theorem app_one (f : Fo) (y : Nd) (j r : Fo) : (f.app (.cons y j .nil)).app r = f.app (.cons y j r) := by
  induction f with
  | nil => rfl
  | cons x k r' _ ih => simp [Fo.app, ih]
theorem foApp_nil (f : Fo) : f.app .nil = f := by
  induction f with
  | nil => rfl
  | cons x k r' _ ih => simp [Fo.app, ih]
theorem many_stop {S : Nat → Option PR} {p : Nat} (h : S p = none) (k : Int) (m : Nat) (f : Fo) (c : Nat) : pMany S k m p f c = ⟨true, wrapF k c f, p⟩ := by
  cases m with
  | zero => rfl
  | succ m => unfold pMany; rw [h]
theorem seq_len (f : Fo) (h : GoodF f) : f.len ≤ (seqT f).length := by
  induction f with
  | nil => simp [Fo.len]
  | cons x k r _ ih =>
    obtain ⟨q, T, e, _⟩ := first_u h 4
    have := ih h.rest
    show r.len + 1 ≤ (uT 4 (x.k, tkN x k.tk) ++ seqT r).length
    rw [List.length_append, e]; simp; omega
theorem alt_len (f : Fo) : f.len ≤ (altT f).length := by
  induction f with
  | nil => simp [Fo.len]
  | cons x k r _ ih =>
    show r.len + 1 ≤ (((6, ⟨#[124]⟩) :: uT 5 (x.k, tkN x k.tk)) ++ altT r).length
    rw [List.length_append, List.length_cons]; omega
theorem seq_first (f : Fo) (h : GoodF f) (h0 : f ≠ .nil) {M : List Mk} {p : Nat} (hT : HasT M p (seqT f)) : beginsI (kd M p) = true := by
  cases f with
  | nil => exact absurd rfl h0
  | cons x k r =>
    obtain ⟨q, T, e, hb⟩ := first_u h 4
    have hT' : HasT M p (uT 4 (x.k, tkN x k.tk) ++ seqT r) := hT
    rw [e] at hT'
    obtain ⟨g, _⟩ := hT'.head
    rw [g]; exact hb
theorem many_seq {M : List Mk} {E : Nat → PR} {n : Nat} (hE : HE M E n) (g : Fo) : ∀ (f : Fo) (c p m : Nat), GoodF g → g.height ≤ n → HasT M p (seqT g) → sufK (kd M (p + (seqT g).length)) = 0 → beginsI (kd M (p + (seqT g).length)) = false → g.len ≤ m →
    pMany (sPart E M) 4 m p f c = ⟨true, wrapF 4 (c + g.len) (f.app g), p + (seqT g).length⟩ := by
  induction g with
  | nil =>
    intro f c p m _ _ _ _ hb _
    have hb' : beginsI (kd M p) = false := hb
    rw [many_stop (by unfold sPart; rw [if_neg (by rw [hb']; simp)])]
    rw [foApp_nil f]; rfl
  | cons y j r _ ih =>
    intro f c p m hg hh hT hs hb hm
    have e : seqT (.cons y j r) = uT 4 (y.k, tkN y j.tk) ++ seqT r := rfl
    rw [e] at hT hs hb ⊢
    have hf := seq_first (.cons y j r) hg (by simp) (p := p) (by rw [e]; exact hT)
    rw [List.length_append, ← Nat.add_assoc] at hs hb ⊢
    have hnx : sufK (kd M (p + (uT 4 (y.k, tkN y j.tk)).length)) = 0 := by
      by_cases hr : r = .nil
      · subst hr; exact hs
      · exact begins_suf (seq_first r hg.rest hr hT.right)
    simp only [Fo.height] at hh
    have hu := unit_u hE hg.one (by omega) hT.left hnx
    cases m with
    | zero => simp [Fo.len] at hm
    | succ m =>
      conv => lhs; unfold pMany
      have hS : sPart E M p = some (pUnit E M p) := by unfold sPart; rw [if_pos hf]
      rw [hS, hu]
      simp only [if_true]
      rw [ih _ _ _ _ hg.rest (by omega) hT.right hs hb (by simp only [Fo.len] at hm; omega), app_one]
      simp only [Fo.len, PR.mk.injEq, true_and]
      refine ⟨?_, trivial⟩
      rw [show c + 1 + r.len = c + (r.len + 1) from by omega]
theorem part_u {M : List Mk} {E : Nat → PR} {n : Nat} (hE : HE M E n) {y : Nd} {j : Fo} {p : Nat} (hg : GoodF (.cons y j .nil)) (hh : j.height ≤ n) (hh5 : y.k = 5 → j.height + 1 ≤ n) (hT : HasT M p (uT 5 (y.k, tkN y j.tk)))
    (hs : sufK (kd M (p + (uT 5 (y.k, tkN y j.tk)).length)) = 0) (hb : beginsI (kd M (p + (uT 5 (y.k, tkN y j.tk)).length)) = false) :
    pPart E M p = ⟨true, .cons y j .nil, p + (uT 5 (y.k, tkN y j.tk)).length⟩ := by
  have hstop : ∀ q m f, beginsI (kd M q) = false → pMany (sPart E M) 4 m q f 1 = ⟨true, f, q⟩ := by
    intro q m f h
    rw [many_stop (by unfold sPart; rw [if_neg (by rw [h]; simp)])]
    rfl
  by_cases h5 : y.k = 5
  · have eb : uT 5 (y.k, tkN y j.tk) = (10, ⟨#[40]⟩) :: (tkN y j.tk ++ [(11, ⟨#[41]⟩)]) := brk_yes (by unfold brkB; rw [h5]; simp) _
    rw [eb] at hT hs hb ⊢
    have ha := atom_brk hE hg (hh5 h5) hT
    have el : p + ((10, ⟨#[40]⟩) :: (tkN y j.tk ++ [(11, (⟨#[41]⟩ : ByteArray))]) : List TK).length = p + (tkN y j.tk).length + 2 := by simp; omega
    rw [el] at hs hb ⊢
    have hu : pUnit E M p = ⟨true, .cons y j .nil, p + (tkN y j.tk).length + 2⟩ := by
      unfold pUnit
      rw [ha, if_pos rfl]
      exact pSufR_stop hs _ _
    unfold pPart
    rw [hu, if_pos rfl]
    exact hstop _ _ _ hb
  · by_cases h4 : y.k = 4
    · have eb : uT 5 (y.k, tkN y j.tk) = tkN y j.tk := by unfold uT brkK brkB; rw [h4]; rfl
      rw [eb, tk_seq h4] at hT hs hb ⊢
      have hm : 2 ≤ y.c ∧ y.n = ⟨#[]⟩ := by
        rcases hg.all.1 with h | h | h | h | h
        · omega
        · omega
        · omega
        · exact ⟨h.2.2, h.2.1⟩
        · omega
      have hc := hg.wf.1
      obtain ⟨y1, j1, r, rfl⟩ : ∃ y1 j1 r, j = Fo.cons y1 j1 r := by
        cases j with
        | nil => simp [Fo.len] at hc; omega
        | cons y1 j1 r => exact ⟨y1, j1, r, rfl⟩
      have e : seqT (.cons y1 j1 r) = uT 4 (y1.k, tkN y1 j1.tk) ++ seqT r := rfl
      rw [e] at hT hs hb ⊢
      rw [List.length_append, ← Nat.add_assoc] at hs hb ⊢
      have hr : r ≠ .nil := by
        rintro rfl
        simp [Fo.len] at hc; omega
      have hnx := begins_suf (seq_first r hg.kid.rest hr hT.right)
      simp only [Fo.height] at hh
      have hu := unit_u hE hg.kid.one (by omega) hT.left hnx
      have hfit := hT.right.fit
      have hsl := seq_len r hg.kid.rest
      unfold pPart
      rw [hu, if_pos rfl]
      simp only
      rw [many_seq hE r _ _ _ _ hg.kid.rest (by omega) hT.right hs hb (by omega)]
      simp only [PR.mk.injEq, true_and]
      refine ⟨?_, trivial⟩
      simp only [Fo.len] at hc
      unfold wrapF
      rw [if_neg (by omega)]
      obtain ⟨a, b, c⟩ := y
      simp only at h4 hm hc
      obtain ⟨_, rfl⟩ := hm
      subst h4
      rw [hc]
      simp only [Fo.app]
      congr 2
      omega
    · have eb : uT 5 (y.k, tkN y j.tk) = tkN y j.tk := brk_other h4 h5 _
      rw [eb] at hT hs hb ⊢
      have hu : pUnit E M p = ⟨true, .cons y j .nil, p + (tkN y j.tk).length⟩ := by
        rw [unit_self M E n hE _ y j rfl hg h4 h5 hh p hT]
        exact pSufR_stop hs _ _
      unfold pPart
      rw [hu, if_pos rfl]
      exact hstop _ _ _ hb
theorem alt_first (r : Fo) {M : List Mk} {p : Nat} (hT : HasT M p (altT r)) (h0 : r ≠ .nil) : kd M p = 6 := by
  cases r with
  | nil => exact absurd rfl h0
  | cons x k r =>
    have hT' : HasT M p ((6, ⟨#[124]⟩) :: (uT 5 (x.k, tkN x k.tk) ++ altT r)) := hT
    exact hT'.head.1
theorem alt_next (r : Fo) {M : List Mk} {p : Nat} (hT : HasT M p (altT r)) (hn : nxT (kd M (p + (altT r).length))) : sufK (kd M p) = 0 ∧ beginsI (kd M p) = false := by
  by_cases hr : r = .nil
  · subst hr; exact ⟨hn.2.2, hn.1⟩
  · rw [alt_first r hT hr]; exact ⟨by decide, by decide⟩
theorem many_alt {M : List Mk} {E : Nat → PR} {n : Nat} (hE : HE M E n) (g : Fo) : ∀ (f : Fo) (c p m : Nat), GoodF g → g.height ≤ n → HasT M p (altT g) → nxT (kd M (p + (altT g).length)) → g.len ≤ m →
    pMany (sExpr E M) 5 m p f c = ⟨true, wrapF 5 (c + g.len) (f.app g), p + (altT g).length⟩ := by
  induction g with
  | nil =>
    intro f c p m _ _ _ hn _
    have h6 : kd M p ≠ 6 := hn.2.1
    rw [many_stop (by unfold sExpr; rw [if_neg h6])]
    rw [foApp_nil f]; rfl
  | cons y j r _ ih =>
    intro f c p m hg hh hT hn hm
    have e : altT (.cons y j r) = (6, ⟨#[124]⟩) :: (uT 5 (y.k, tkN y j.tk) ++ altT r) := rfl
    rw [e] at hT hn ⊢
    obtain ⟨h6, _, hT2, _⟩ := hT.head
    have el : p + ((6, (⟨#[124]⟩ : ByteArray)) :: (uT 5 (y.k, tkN y j.tk) ++ altT r) : List TK).length = p + 1 + (uT 5 (y.k, tkN y j.tk)).length + (altT r).length := by
      simp; omega
    rw [el] at hn ⊢
    obtain ⟨n1, n2⟩ := alt_next r hT2.right hn
    simp only [Fo.height] at hh
    have hu := part_u hE hg.one (by omega) (fun _ => by omega) hT2.left n1 n2
    cases m with
    | zero => simp [Fo.len] at hm
    | succ m =>
      conv => lhs; unfold pMany
      have hS : sExpr E M p = some (pPart E M (p + 1)) := by unfold sExpr; rw [if_pos h6]
      rw [hS, hu]
      simp only [if_true]
      rw [ih _ _ _ _ hg.rest (by omega) hT2.right hn (by simp only [Fo.len] at hm; omega), app_one]
      simp only [Fo.len, PR.mk.injEq, true_and]
      refine ⟨?_, trivial⟩
      rw [show c + 1 + r.len = c + (r.len + 1) from by omega]
theorem expr_self {M : List Mk} {E : Nat → PR} {n : Nat} (hE : HE M E n) {x : Nd} {k : Fo} {p : Nat} (hg : GoodF (.cons x k .nil)) (hh : k.height ≤ n) (hT : HasT M p (tkN x k.tk)) (hn : nxT (kd M (p + (tkN x k.tk).length))) :
    pExprS E M p = ⟨true, .cons x k .nil, p + (tkN x k.tk).length⟩ := by
  by_cases h5 : x.k = 5
  · have hm : 2 ≤ x.c ∧ x.n = ⟨#[]⟩ := by
      rcases hg.all.1 with h | h | h | h | h
      · omega
      · omega
      · omega
      · exact ⟨h.2.2, h.2.1⟩
      · omega
    have hc := hg.wf.1
    obtain ⟨y, j, r, rfl⟩ : ∃ y j r, k = Fo.cons y j r := by
      cases k with
      | nil => simp [Fo.len] at hc; omega
      | cons y j r => exact ⟨y, j, r, rfl⟩
    rw [tk_alt h5] at hT hn ⊢
    rw [List.length_append, ← Nat.add_assoc] at hn ⊢
    obtain ⟨n1, n2⟩ := alt_next r hT.right hn
    simp only [Fo.height] at hh
    have hu := part_u hE hg.kid.one (by omega) (fun _ => by omega) hT.left n1 n2
    have hfit := hT.right.fit
    have hal := alt_len r
    unfold pExprS
    rw [hu, if_pos rfl]
    simp only
    rw [many_alt hE r _ _ _ _ hg.kid.rest (by omega) hT.right hn (by omega)]
    simp only [PR.mk.injEq, true_and]
    refine ⟨?_, trivial⟩
    simp only [Fo.len] at hc
    unfold wrapF
    rw [if_neg (by omega)]
    obtain ⟨a, b, c⟩ := x
    simp only at h5 hm hc
    obtain ⟨_, rfl⟩ := hm
    subst h5
    rw [hc]
    simp only [Fo.app]
    congr 2
    omega
  · have eb : uT 5 (x.k, tkN x k.tk) = tkN x k.tk := by
      unfold uT brkK brkB
      rw [if_neg (by simp [h5])]
    have hu := part_u hE hg hh (fun h => absurd h h5) (by rw [eb]; exact hT) (by rw [eb]; exact hn.2.2) (by rw [eb]; exact hn.1)
    rw [eb] at hu
    unfold pExprS
    rw [hu, if_pos rfl]
    rw [many_stop (by unfold sExpr; rw [if_neg hn.2.1])]
    rfl
theorem expr_all (M : List Mk) : ∀ n, HE M (pExpr M n) n
  | 0 => fun y j p _ h => by omega
  | n + 1 => fun y j p hg hh hT hn => by
    show pExprS (pExpr M n) M p = _
    exact expr_self (expr_all M n) hg (by omega) hT hn
end Go.Proofs.Ytbpipnjdfmpbdaa
namespace Go.Proofs.Ytbpipnjdfmpbdaa
open Go.RowKit

/-! ### plain: what is printed is read as itself -/
theorem HasT.of_map {M : List Mk} {T : List TK} (h : M.map tkOf = T) : HasT M 0 T ∧ M.length = T.length := by
  have hl : M.length = T.length := by rw [← h]; simp
  refine ⟨⟨by omega, fun i q hq => ?_⟩, hl⟩
  rw [← h, List.getElem?_map] at hq
  cases hm : M[i]? with
  | none => rw [hm] at hq; cases hq
  | some m =>
    rw [hm] at hq
    simp only [Option.map, Option.some.injEq] at hq
    rw [Nat.zero_add, kd_some hm, tx_some hm, ← hq]
    exact ⟨rfl, rfl⟩
def tkSum (f : Fo) : Nat := (f.tk.map fun p => p.2.length).sum
theorem brk_ge (pk k : Int) (t : List TK) : t.length ≤ (brkK pk k t).length := by
  unfold brkK; split
  · simp; omega
  · exact Nat.le_refl _
theorem seqT_ge (f : Fo) : tkSum f ≤ (seqT f).length := by
  induction f with
  | nil => exact Nat.le_refl _
  | cons x k r _ ih =>
    have e : tkSum (.cons x k r) = (tkN x k.tk).length + tkSum r := by simp [tkSum, Fo.tk]
    have e2 : seqT (.cons x k r) = brkK 4 x.k (tkN x k.tk) ++ seqT r := rfl
    have := brk_ge 4 x.k (tkN x k.tk)
    rw [e, e2, List.length_append]; omega
theorem altT_ge (f : Fo) : tkSum f ≤ (altT f).length := by
  induction f with
  | nil => exact Nat.le_refl _
  | cons x k r _ ih =>
    have e : tkSum (.cons x k r) = (tkN x k.tk).length + tkSum r := by simp [tkSum, Fo.tk]
    have e2 : altT (.cons x k r) = (6, ⟨#[124]⟩) :: (brkK 5 x.k (tkN x k.tk) ++ altT r) := rfl
    have := brk_ge 5 x.k (tkN x k.tk)
    rw [e, e2, List.length_cons, List.length_append]; omega
theorem height_tk (f : Fo) : GoodF f → f.height + (f.len - 1) ≤ tkSum f ∧ f.len ≤ tkSum f := by
  induction f with
  | nil => intro _; exact ⟨by simp [Fo.height, Fo.len], by simp [Fo.len]⟩
  | cons x k r ih1 ih2 =>
    intro h
    obtain ⟨a1, a2⟩ := ih1 h.kid
    obtain ⟨b1, b2⟩ := ih2 h.rest
    have e : tkSum (.cons x k r) = (tkN x k.tk).length + tkSum r := by simp [tkSum, Fo.tk]
    have key : k.height + 1 ≤ (tkN x k.tk).length := by
      obtain ⟨q, T, e0, _⟩ := first_tk _ h x k r rfl
      have hpos : 1 ≤ (tkN x k.tk).length := by rw [e0]; simp
      rcases h.all.1 with ⟨_, _, hz⟩ | ⟨_, hz, _⟩ | ⟨_, hz, _⟩ | ⟨h1, _, hz⟩ | ⟨h1, _, hz⟩
      · have hk : k = .nil := kids0 (by have := h.wf.1; omega)
        subst hk; simpa [Fo.height] using hpos
      · have hk : k = .nil := kids0 (by have := h.wf.1; omega)
        subst hk; simpa [Fo.height] using hpos
      · have hk : k = .nil := kids0 (by have := h.wf.1; omega)
        subst hk; simpa [Fo.height] using hpos
      · have hl := h.wf.1
        rcases h1 with h1 | h1
        · rw [tk_seq h1]
          have := seqT_ge k
          omega
        · obtain ⟨y, j, r2, rfl⟩ : ∃ y j r2, k = Fo.cons y j r2 := by
            cases k with
            | nil => simp [Fo.len] at hl; omega
            | cons y j r2 => exact ⟨y, j, r2, rfl⟩
          rw [tk_alt h1, List.length_append]
          have h2 := brk_ge 5 y.k (tkN y j.tk)
          have h3 := altT_ge r2
          have h4 : tkSum (.cons y j r2) = (tkN y j.tk).length + tkSum r2 := by simp [tkSum, Fo.tk]
          have h5 : (uT 5 (y.k, tkN y j.tk)).length = (brkK 5 y.k (tkN y j.tk)).length := rfl
          omega
      · have hl := h.wf.1
        obtain ⟨y, j, rfl⟩ := len_one k (by omega)
        obtain ⟨kk, t, e2, _⟩ := suf_sign h1
        rw [tkR_suf h1, e2, List.length_append]
        have h2 := brk_ge x.k y.k (tkN y j.tk)
        have h4 : tkSum (.cons y j .nil) = (tkN y j.tk).length := by simp [tkSum, Fo.tk]
        have h5 : (uT x.k (y.k, tkN y j.tk)).length = (brkK x.k y.k (tkN y j.tk)).length := rfl
        simp only [List.length_cons, List.length_nil]
        omega
    rw [e]
    simp only [Fo.height, Fo.len]
    omega
theorem parsed_print {x : Nd} {k : Fo} (hg : GoodF (.cons x k .nil)) : parsed (txN x k.tx) = ⟨true, .cons x k .nil, (cut (txN x k.tx) 0).1.length⟩ := by
  obtain ⟨h1, _⟩ := cut_text x k hg.wf hg.all
  obtain ⟨h2, h3⟩ := HasT.of_map h1
  have hh := (height_tk _ hg).1
  have e : tkSum (.cons x k .nil) = (tkN x k.tk).length := by simp [tkSum, Fo.tk]
  simp only [Fo.height, Fo.len] at hh
  unfold parsed
  rw [expr_all _ _ x k 0 hg (by omega) h2 (by rw [kd_none (by omega)]; exact ⟨by decide, by decide, by decide⟩)]
  simp only [PR.mk.injEq, true_and]
  omega
theorem parse_print {N : List Nd} {x : Nd} {k : Fo} (hG : GoodT N x k) (hb : boundsF x k = 0) : parseS (txN x k.tx) = (N, 0, 0) := by
  have hg : GoodF (.cons x k .nil) := ⟨hG.wf, hG.all⟩
  have hp := parsed_print hg
  obtain ⟨_, hc⟩ := cut_text x k hG.wf hG.all
  have hsz : (txN x k.tx).size ≤ 2048 := by
    unfold boundsF at hb
    split at hb
    · omega
    · split at hb
      · omega
      · omega
  have hr : readS (txN x k.tx) = (N, 0, 0) := by
    unfold readS
    rw [if_neg (by omega), hp, if_pos ⟨rfl, rfl, hc⟩, hG.flat]
  have hl : longN N = false := by
    unfold longN
    rw [List.any_eq_false]
    intro y hy
    rw [hG.flat] at hy
    have := ((Fo.all_flat _).1 hG.all y hy).size
    simp; omega
  unfold parseS
  rw [hr, hp, if_neg (by simp), if_neg (by rw [hl]; simp)]
  exact if_neg (fun h => h hb)
/-! ### plain: a tree's text has no fewer bytes than the tree has nodes -/
def txSum (f : Fo) : Nat := (f.tx.map fun p => p.2.size).sum
theorem brkS_ge (pk k : Int) (t : ByteArray) : t.size ≤ (brk pk k t).size := by
  unfold brk; split
  · rw [ByteArray.size_append, ByteArray.size_append]; omega
  · exact Nat.le_refl _
theorem joinS_ge (sep : ByteArray) (l : List ByteArray) : (l.map (·.size)).sum + (l.length - 1) * sep.size ≤ (joinS sep l).size := by
  have e : (joinS sep l).size = (Lib.join (l.map (·.data.toList)) sep.data.toList).length := by unfold joinS; simp [ByteArray.size]
  rw [e]
  cases l with
  | nil => simp [Lib.join_nil]
  | cons a r =>
    have key : ∀ r : List ByteArray, (Lib.joinTail sep.data.toList (r.map (·.data.toList))).length = (r.map (·.size)).sum + r.length * sep.size := by
      intro r
      induction r with
      | nil => simp [Lib.joinTail]
      | cons y r ih =>
        have h1 : y.data.toList.length = y.size := by rw [Array.length_toList]; rfl
        have h2 : sep.data.toList.length = sep.size := by rw [Array.length_toList]; rfl
        simp only [Lib.joinTail, List.map_cons, List.flatten_cons, List.length_append, List.sum_cons, List.length_cons] at ih ⊢
        rw [ih, h1, h2, Nat.succ_mul]
        omega
    have e9 : Lib.join ((a :: r).map (·.data.toList)) sep.data.toList = a.data.toList ++ Lib.joinTail sep.data.toList (r.map (·.data.toList)) := by rw [List.map_cons, Lib.join_cons]
    rw [e9, List.length_append, key]
    have h1 : a.data.toList.length = a.size := by rw [Array.length_toList]; rfl
    simp only [List.map_cons, List.sum_cons, List.length_cons]
    rw [h1]
    have : r.length + 1 - 1 = r.length := by omega
    rw [this]
    omega
theorem size_tx (f : Fo) : GoodF f → f.size ≤ txSum f := by
  induction f with
  | nil => intro _; exact Nat.le_refl _
  | cons x k r ih1 ih2 =>
    intro h
    have a1 := ih1 h.kid
    have b1 := ih2 h.rest
    have e : txSum (.cons x k r) = (txN x k.tx).size + txSum r := by simp [txSum, Fo.tx]
    have hbs : txSum k ≤ ((k.tx.map fun p => brk x.k p.1 p.2).map (·.size)).sum := by
      unfold txSum
      rw [List.map_map]
      generalize k.tx = l
      induction l with
      | nil => simp
      | cons p l ih =>
        have := brkS_ge x.k p.1 p.2
        simp only [List.map_cons, List.sum_cons, Function.comp] at ih ⊢
        omega
    have key : k.size + 1 ≤ (txN x k.tx).size := by
      rcases h.all.1 with ⟨h1, _, hz⟩ | ⟨h1, hz, hn⟩ | ⟨h1, hz, hn⟩ | ⟨h1, _, hz⟩ | ⟨h1, _, hz⟩
      · have hk : k = .nil := kids0 (by have := h.wf.1; omega)
        subst hk; unfold txN; rw [if_pos h1]; decide
      · have hk : k = .nil := kids0 (by have := h.wf.1; omega)
        subst hk; unfold txN; rw [if_neg (by omega), if_pos (Or.inl h1)]; have := hn.1; simp only [Fo.size]; omega
      · have hk : k = .nil := kids0 (by have := h.wf.1; omega)
        subst hk; unfold txN; rw [if_neg (by omega), if_pos (Or.inr h1)]; have := hn.1; simp only [Fo.size]; omega
      · have hl := h.wf.1
        unfold txN
        rw [if_neg (by omega), if_neg (by omega), ByteArray.size_append]
        have hj := joinS_ge (sepK x.k) (k.tx.map fun p => brk x.k p.1 p.2)
        have hs : 1 ≤ (sepK x.k).size := by
          rcases h1 with h1 | h1 <;> rw [h1] <;> decide
        rw [List.length_map, Fo.tx_len] at hj
        have hm : 1 * 1 ≤ (k.len - 1) * (sepK x.k).size := Nat.mul_le_mul (by omega) hs
        omega
      · have hl := h.wf.1
        unfold txN
        rw [if_neg (by omega), if_neg (by omega), ByteArray.size_append]
        have hj := joinS_ge (sepK x.k) (k.tx.map fun p => brk x.k p.1 p.2)
        have hs : 1 ≤ (signK x.k).size := by
          rcases h1 with h1 | h1 | h1 <;> rw [h1] <;> decide
        omega
    rw [e]
    simp only [Fo.size]
    omega
theorem parse_ok (s : ByteArray) (h : (parseS s).2.2 = 0) : ∃ x k, GoodT (parseS s).1 x k ∧ boundsF x k = 0 ∧ (parseS s).2.1 = 0 ∧ (parseS s).1.length ≤ 2048 := by
  by_cases h0 : (readS s).2.2 = 0
  · obtain ⟨x, k, hG⟩ := read_tree s h0
    have hP : parseS s = if longN (Fo.cons x k .nil).flat = true then ([], 0, 173) else if boundsF x k ≠ 0 then ([], 0, boundsF x k) else ((Fo.cons x k .nil).flat, 0, 0) := by
      unfold parseS; rw [if_neg (by rw [h0]; simp), hG.l, hG.f]; rfl
    by_cases hn : longN (Fo.cons x k .nil).flat = true
    · rw [hP, if_pos hn] at h; cases h
    · by_cases hb : boundsF x k = 0
      · have hP2 : parseS s = ((Fo.cons x k .nil).flat, 0, 0) := by rw [hP, if_neg hn, if_neg (by rw [hb]; simp)]
        have hall := hG.may (by simpa using hn)
        have hgf : GoodF (.cons x k .nil) := ⟨hG.wf, hall⟩
        refine ⟨x, k, by rw [hP2]; exact ⟨rfl, hG.wf, hall⟩, hb, by rw [hP2], ?_⟩
        rw [hP2]
        have := size_tx _ hgf
        have e : txSum (.cons x k .nil) = (txN x k.tx).size := by simp [txSum, Fo.tx]
        have hsz : (txN x k.tx).size ≤ 2048 := by
          unfold boundsF at hb
          split at hb
          · omega
          · split at hb
            · omega
            · omega
        show (Fo.cons x k .nil).flat.length ≤ 2048
        rw [Fo.flat_len]; omega
      · rw [hP, if_neg hn, if_pos hb] at h; exact absurd h hb
  · unfold parseS at h; rw [if_pos h0] at h; exact absurd h h0
end Go.Proofs.Ytbpipnjdfmpbdaa
