import Derived.Test.YtbpipnjdfmpbdaaRtM0
import Derived.Test.YtbpipnjdfmpbdaaMkQ
namespace Go.Proofs.Ytbpipnjdfmpbdaa
open Go.RowKit

/-! ### plain: the marks of a text that is put together -/
theorem bt_list (s : ByteArray) (pre l : List UInt8) (h : s.data.toList = pre ++ l) (j : Nat) : bt s (pre.length + j) = ((l.getD j 0).toNat : Int) := by
  unfold bt
  rw [h, List.getD_eq_getElem?_getD, List.getD_eq_getElem?_getD, List.getElem?_append_right (by omega)]
  congr 4
  omega
theorem size_list (s : ByteArray) (l : List UInt8) (h : s.data.toList = l) : s.size = l.length := by rw [← h, Array.length_toList]; rfl
theorem wordTo_run (s : ByteArray) (a : Nat) : ∀ n, a + n ≤ s.size → (∀ j, j < n → innerI (bt s (a + j)) = true) → wordTo s a = wordTo s (a + n) := by
  intro n
  induction n with
  | zero => intro _ _; rfl
  | succ n ih =>
    intro h hb
    rw [ih (by omega) (fun j hj => hb j (by omega)), wordTo_yes s (a + n) (by omega) (hb n (by omega))]
    rfl
theorem list_eq_extract (s t : ByteArray) (pre l : List UInt8) (h : s.data.toList = pre ++ (t.data.toList ++ l)) : s.extract pre.length (pre.length + t.size) = t := by
  have ht : t.data.toList.length = t.size := by rw [Array.length_toList]; rfl
  apply ByteArray.ext
  rw [ByteArray.data_extract]
  apply Array.toList_inj.1
  rw [Array.toList_extract, h]
  simp [List.extract_eq_take_drop]
abbrev TK := Int × ByteArray
def tkOf (m : Mk) : TK := (m.k, m.t)
/-- whatever stands around it, the text u is cut into the marks T; r: a word must not go on behind it -/
def LexTo (r : Bool) (u : List UInt8) (T : List TK) : Prop :=
  ∀ (s : ByteArray) (pre post : List UInt8), s.data.toList = pre ++ (u ++ post) → (r = true → ∀ c, post.head? = some c → innerI (c.toNat : Int) = false) →
    (cut s pre.length).1.map tkOf = T ++ (cut s (pre.length + u.length)).1.map tkOf ∧ (cut s pre.length).2 = (cut s (pre.length + u.length)).2
theorem LexTo.nil : LexTo false [] [] := fun _ _ _ _ _ => ⟨rfl, rfl⟩
theorem LexTo.weak {r : Bool} {u : List UInt8} {T : List TK} (h : LexTo false u T) : LexTo r u T := fun s pre post hs _ => h s pre post hs (fun h => by cases h)
theorem LexTo.app {r1 r2 : Bool} {u1 u2 : List UInt8} {T1 T2 : List TK} (h1 : LexTo r1 u1 T1) (h2 : LexTo r2 u2 T2) (hb : r1 = false ∨ ∃ c v, u2 = c :: v ∧ innerI (c.toNat : Int) = false) : LexTo r2 (u1 ++ u2) (T1 ++ T2) := by
  intro s pre post hs hr
  obtain ⟨a1, a2⟩ := h1 s pre (u2 ++ post) (by rw [hs]; simp) (by
    intro e c hc
    rcases hb with hb | ⟨c', v, hb, hi⟩
    · rw [hb] at e; cases e
    · rw [hb] at hc; simp at hc; rw [← hc]; exact hi)
  obtain ⟨b1, b2⟩ := h2 s (pre ++ u1) post (by rw [hs]; simp) hr
  rw [List.length_append] at b1 b2
  rw [List.length_append, ← Nat.add_assoc]
  exact ⟨by rw [a1, b1, List.append_assoc], a2.trans b2⟩
theorem LexTo.blank (c : UInt8) (h : blankI (c.toNat : Int) = true) : LexTo false [c] [] := by
  intro s pre post hs _
  have hb : bt s pre.length = (c.toNat : Int) := by
    have := bt_list s pre _ hs 0
    simpa using this
  have hz := size_list s _ hs
  have e := cut_blank s pre.length (by rw [hz]; simp) (by rw [hb]; exact h)
  exact ⟨by rw [e]; rfl, by rw [e]; rfl⟩
theorem LexTo.sign (c : UInt8) (k : Int) (hk : kindI (c.toNat : Int) = k) (h3 : 3 < k) : LexTo false [c] [(k, ⟨#[c]⟩)] := by
  intro s pre post hs _
  have hb : bt s pre.length = (c.toNat : Int) := by
    have := bt_list s pre _ hs 0
    simpa using this
  have hz := size_list s _ hs
  have hlt : pre.length < s.size := by rw [hz]; simp
  have hbl : blankI (bt s pre.length) = false := kindI_blank _ (by rw [hb, hk]; omega)
  have e := cut_good s pre.length hlt hbl (by rw [hb, hk]; omega)
  have ee : endM s pre.length = pre.length + 1 := by unfold endM; rw [hb, hk, if_neg (by omega)]
  have ex : s.extract pre.length (pre.length + 1) = ⟨#[c]⟩ := list_eq_extract s ⟨#[c]⟩ pre post hs
  rw [e, ee, ex, hb, hk]
  exact ⟨rfl, rfl⟩
theorem bt_self (t : ByteArray) (pre l : List UInt8) (s : ByteArray) (hs : s.data.toList = pre ++ (t.data.toList ++ l)) (j : Nat) (hj : j < t.size) : bt s (pre.length + j) = bt t j := by
  rw [bt_list s pre _ hs j]
  unfold bt
  have : t.data.toList.length = t.size := by rw [Array.length_toList]; rfl
  rw [List.getD_eq_getElem?_getD, List.getD_eq_getElem?_getD, List.getElem?_append_left (by omega)]
theorem LexTo.name (t : ByteArray) (k : Int) (h : nameOk t k) (hk : k = 1 ∨ k = 2) : LexTo true t.data.toList [(k, t)] := by
  intro s pre post hs hr
  obtain ⟨h1, _, h3, h4⟩ := h
  have ht : t.data.toList.length = t.size := by rw [Array.length_toList]; rfl
  have hb : ∀ j, j < t.size → bt s (pre.length + j) = bt t j := fun j hj => bt_self t pre post s hs j hj
  have hz := size_list s _ hs
  simp only [List.length_append, ht] at hz
  have hb0 : bt s pre.length = bt t 0 := hb 0 (by omega)
  have hbl : blankI (bt s pre.length) = false := kindI_blank _ (by rw [hb0, h3]; omega)
  have e := cut_good s pre.length (by omega) hbl (by rw [hb0, h3]; omega)
  have hrun := wordTo_run s (pre.length + 1) (t.size - 1) (by omega) (fun j hj => by
    rw [show pre.length + 1 + j = pre.length + (1 + j) from by omega, hb (1 + j) (by omega)]; exact h4 _ (by omega))
  rw [show pre.length + 1 + (t.size - 1) = pre.length + t.size from by omega] at hrun
  have hstop : wordTo s (pre.length + t.size) = pre.length + t.size := by
    cases post with
    | nil => exact wordTo_end s _ (by simp at hz; omega)
    | cons c post =>
      refine wordTo_no s _ (by simp at hz; omega) ?_
      have := bt_list s (pre ++ t.data.toList) (c :: post) (by rw [hs]; simp) 0
      simp only [List.length_append, ht, Nat.add_zero] at this
      rw [this]
      exact hr rfl c rfl
  have ee : endM s pre.length = pre.length + t.size := by unfold endM; rw [hb0, h3, if_pos (by omega), hrun, hstop]
  have ex := list_eq_extract s t pre post hs
  rw [e, ee, ex, hb0, h3, ht]
  exact ⟨rfl, rfl⟩

/-! ### plain: the marks of a tree's text -/
def sepT (k : Int) : List TK := if k = 5 then [(6, ⟨#[124]⟩)] else []
def signT (k : Int) : List TK := if k = 6 then [(7, ⟨#[42]⟩)] else if k = 7 then [(8, ⟨#[43]⟩)] else if k = 8 then [(9, ⟨#[63]⟩)] else []
def brkK (pk k : Int) (t : List TK) : List TK := if brkB pk k = true then (10, ⟨#[40]⟩) :: (t ++ [(11, ⟨#[41]⟩)]) else t
def joinT (sep : List TK) : List (List TK) → List TK
  | [] => []
  | x :: r => x ++ r.flatMap fun y => sep ++ y
def tkN (x : Nd) (ks : List (Int × List TK)) : List TK :=
  if x.k = 1 then [(12, ⟨#[37]⟩)] else if x.k = 2 then [(1, x.n)] else if x.k = 3 then [(2, x.n)] else joinT (sepT x.k) (ks.map fun p => brkK x.k p.1 p.2) ++ signT x.k
def Fo.tk : Fo → List (Int × List TK)
  | .nil => []
  | .cons x k r => (x.k, tkN x k.tk) :: r.tk
theorem joinS_list (sep : ByteArray) (l : List ByteArray) : (joinS sep l).data.toList = Lib.join (l.map (·.data.toList)) sep.data.toList := by unfold joinS; simp
theorem LexTo.joinTail (sep : List UInt8) (sepk : List TK) (hs : LexTo false sep sepk) (hsp : ∃ c v, sep = c :: v ∧ innerI (c.toNat : Int) = false) :
    ∀ (us : List (List UInt8)) (Ts : List (List TK)) (u : List UInt8) (T : List TK), LexTo true u T → us.length = Ts.length → (∀ (i : Nat) (a : List UInt8) (b : List TK), us[i]? = some a → Ts[i]? = some b → LexTo true a b) →
      LexTo true (u ++ Lib.joinTail sep us) (T ++ Ts.flatMap fun y => sepk ++ y) := by
  intro us
  induction us with
  | nil =>
    intro Ts u T h hl _
    obtain rfl : Ts = [] := List.length_eq_zero_iff.1 hl.symm
    simpa [Lib.joinTail] using h
  | cons a us ih =>
    intro Ts u T h hl hE
    cases Ts with
    | nil => simp at hl
    | cons b Ts =>
      have h1 : LexTo true (u ++ (sep ++ a)) (T ++ (sepk ++ b)) := LexTo.app h (LexTo.app hs (hE 0 a b rfl rfl) (.inl rfl)) (by
        obtain ⟨c, v, e, hi⟩ := hsp
        exact .inr ⟨c, v ++ a, by rw [e]; rfl, hi⟩)
      have h2 := ih Ts _ _ h1 (by simpa using hl) (fun i a b ha hb => hE (i + 1) a b (by simpa using ha) (by simpa using hb))
      simpa [Lib.joinTail] using h2
theorem LexTo.join (sep : List UInt8) (sepk : List TK) (hs : LexTo false sep sepk) (hsp : ∃ c v, sep = c :: v ∧ innerI (c.toNat : Int) = false) (us : List (List UInt8)) (Ts : List (List TK)) (hl : us.length = Ts.length)
    (hE : ∀ (i : Nat) (a : List UInt8) (b : List TK), us[i]? = some a → Ts[i]? = some b → LexTo true a b) : LexTo true (Lib.join us sep) (joinT sepk Ts) := by
  cases us with
  | nil =>
    obtain rfl : Ts = [] := List.length_eq_zero_iff.1 hl.symm
    rw [Lib.join_nil]; exact LexTo.weak LexTo.nil
  | cons a us =>
    cases Ts with
    | nil => simp at hl
    | cons b Ts =>
      rw [Lib.join_cons]
      exact LexTo.joinTail sep sepk hs hsp us Ts a b (hE 0 a b rfl rfl) (by simpa using hl) (fun i a b ha hb => hE (i + 1) a b (by simpa using ha) (by simpa using hb))
theorem LexTo.brk (pk k : Int) (t : ByteArray) (T : List TK) (h : LexTo true t.data.toList T) : LexTo true (Go.Proofs.Ytbpipnjdfmpbdaa.brk pk k t).data.toList (brkK pk k T) := by
  unfold Go.Proofs.Ytbpipnjdfmpbdaa.brk brkK
  split
  · have e : ((⟨#[40]⟩ : ByteArray) ++ t ++ (⟨#[41]⟩ : ByteArray)).data.toList = [40] ++ (t.data.toList ++ [41]) := by simp
    rw [e]
    exact LexTo.app (T1 := [(10, ⟨#[40]⟩)]) (LexTo.sign 40 10 (by decide) (by decide)) (LexTo.app h (LexTo.weak (LexTo.sign 41 11 (by decide) (by decide))) (.inr ⟨41, [], rfl, by decide⟩)) (.inl rfl)
  · exact h
theorem Fo.tk_len (f : Fo) : f.tk.length = f.len := by
  induction f with
  | nil => rfl
  | cons x k r _ ih => simp [Fo.tk, Fo.len, ih]
theorem lex_tx (f : Fo) (hwf : f.wf) (hall : f.all mayN) : ∀ (i : Nat) (p : Int × ByteArray) (q : Int × List TK), f.tx[i]? = some p → f.tk[i]? = some q → p.1 = q.1 ∧ LexTo true p.2.data.toList q.2 := by
  induction f with
  | nil => intro i p q h; simp [Fo.tx] at h
  | cons x k r ih1 ih2 =>
    have a2 := ih1 hwf.2.1 hall.2.1
    have b2 := ih2 hwf.2.2 hall.2.2
    intro i p q hp hq
    cases i with
    | succ i => exact b2 i p q (by simpa [Fo.tx] using hp) (by simpa [Fo.tk] using hq)
    | zero =>
      simp only [Fo.tx, List.getElem?_cons_zero, Option.some.injEq] at hp
      simp only [Fo.tk, List.getElem?_cons_zero, Option.some.injEq] at hq
      subst hp; subst hq
      refine ⟨rfl, ?_⟩
      simp only
      have hm := hall.1
      have hE : ∀ (i : Nat) (a : List UInt8) (b : List TK), ((k.tx.map fun p => brk x.k p.1 p.2).map (·.data.toList))[i]? = some a → (k.tk.map fun p => brkK x.k p.1 p.2)[i]? = some b → LexTo true a b := by
        intro i a b ha hb
        rw [List.getElem?_map, List.getElem?_map] at ha
        rw [List.getElem?_map] at hb
        cases hx : k.tx[i]? with
        | none => rw [hx] at ha; cases ha
        | some p =>
          cases hy : k.tk[i]? with
          | none => rw [hy] at hb; cases hb
          | some q =>
            rw [hx] at ha; rw [hy] at hb
            simp only [Option.map, Option.some.injEq] at ha hb
            obtain ⟨e1, e2⟩ := a2 i p q hx hy
            rw [← ha, ← hb, e1]
            exact LexTo.brk _ _ _ _ e2
      have hll : ((k.tx.map fun p => brk x.k p.1 p.2).map (·.data.toList)).length = (k.tk.map fun p => brkK x.k p.1 p.2).length := by
        simp [Fo.tx_len, Fo.tk_len]
      rcases hm with ⟨h, _, _⟩ | ⟨h, _, hn⟩ | ⟨h, _, hn⟩ | ⟨h, _, _⟩ | ⟨h, hnn, hc⟩
      · unfold txN tkN; rw [if_pos h, if_pos h]; exact LexTo.weak (LexTo.sign 37 12 (by decide) (by decide))
      · have e1 : txN x k.tx = x.n := by unfold txN; rw [if_neg (by omega), if_pos (Or.inl h)]
        have e2 : tkN x k.tk = [(1, x.n)] := by unfold tkN; rw [if_neg (by omega), if_pos h]
        rw [e1, e2]; exact LexTo.name _ 1 hn (.inl rfl)
      · have e1 : txN x k.tx = x.n := by unfold txN; rw [if_neg (by omega), if_pos (Or.inr h)]
        have e2 : tkN x k.tk = [(2, x.n)] := by unfold tkN; rw [if_neg (by omega), if_neg (by omega), if_pos h]
        rw [e1, e2]; exact LexTo.name _ 2 hn (.inr rfl)
      · have e1 : txN x k.tx = joinS (sepK x.k) (k.tx.map fun p => brk x.k p.1 p.2) ++ signK x.k := by unfold txN; rw [if_neg (by omega), if_neg (by omega)]
        have e2 : tkN x k.tk = joinT (sepT x.k) (k.tk.map fun p => brkK x.k p.1 p.2) ++ signT x.k := by unfold tkN; rw [if_neg (by omega), if_neg (by omega), if_neg (by omega)]
        have e3 : signK x.k = ⟨#[]⟩ := by unfold signK; rw [if_neg (by omega), if_neg (by omega), if_neg (by omega)]
        have e4 : signT x.k = [] := by unfold signT; rw [if_neg (by omega), if_neg (by omega), if_neg (by omega)]
        have hsep : LexTo false (sepK x.k).data.toList (sepT x.k) ∧ ∃ c v, (sepK x.k).data.toList = c :: v ∧ innerI (c.toNat : Int) = false := by
          rcases h with h | h
          · have s1 : sepK x.k = ⟨#[32]⟩ := by unfold sepK; rw [if_neg (by omega), if_pos h]
            have s2 : sepT x.k = [] := by unfold sepT; rw [if_neg (by omega)]
            rw [s1, s2]
            exact ⟨LexTo.blank 32 (by decide), 32, [], rfl, by decide⟩
          · have s1 : sepK x.k = ⟨#[32, 124, 32]⟩ := by unfold sepK; rw [if_pos h]
            have s2 : sepT x.k = [(6, ⟨#[124]⟩)] := by unfold sepT; rw [if_pos h]
            rw [s1, s2]
            exact ⟨LexTo.app (u1 := [32]) (T1 := []) (LexTo.blank 32 (by decide)) (LexTo.app (u1 := [124]) (T2 := []) (LexTo.sign 124 6 (by decide) (by decide)) (LexTo.blank 32 (by decide)) (.inl rfl)) (.inl rfl), 32, [124, 32], rfl, by decide⟩
        have e5 : (joinS (sepK x.k) (k.tx.map fun p => brk x.k p.1 p.2) ++ (⟨#[]⟩ : ByteArray)).data.toList = Lib.join ((k.tx.map fun p => brk x.k p.1 p.2).map (·.data.toList)) (sepK x.k).data.toList := by
          rw [← joinS_list]; simp
        rw [e1, e2, e3, e4, e5, List.append_nil]
        exact LexTo.join _ _ hsep.1 hsep.2 _ _ hll hE
      · have e1 : txN x k.tx = joinS (sepK x.k) (k.tx.map fun p => brk x.k p.1 p.2) ++ signK x.k := by unfold txN; rw [if_neg (by omega), if_neg (by omega)]
        have e2 : tkN x k.tk = joinT (sepT x.k) (k.tk.map fun p => brkK x.k p.1 p.2) ++ signT x.k := by unfold tkN; rw [if_neg (by omega), if_neg (by omega), if_neg (by omega)]
        have hk1 : k.len = 1 := by have := hwf.1; omega
        obtain ⟨y, j, rfl⟩ := len_one k hk1
        have h0 := hE 0 _ _ rfl rfl
        have hsg : ∃ (c : UInt8) (kk : Int), signK x.k = ⟨#[c]⟩ ∧ signT x.k = [(kk, ⟨#[c]⟩)] ∧ kindI (c.toNat : Int) = kk ∧ 3 < kk ∧ innerI (c.toNat : Int) = false := by
          rcases h with h | h | h
          · exact ⟨42, 7, by unfold signK; rw [if_pos h], by unfold signT; rw [if_pos h], by decide, by decide, by decide⟩
          · exact ⟨43, 8, by unfold signK; rw [if_neg (by omega), if_pos h], by unfold signT; rw [if_neg (by omega), if_pos h], by decide, by decide, by decide⟩
          · exact ⟨63, 9, by unfold signK; rw [if_neg (by omega), if_neg (by omega), if_pos h], by unfold signT; rw [if_neg (by omega), if_neg (by omega), if_pos h], by decide, by decide, by decide⟩
        obtain ⟨c, kk, g1, g2, g3, g4, g5⟩ := hsg
        have e5 : (joinS (sepK x.k) ((Fo.cons y j .nil).tx.map fun p => brk x.k p.1 p.2) ++ (⟨#[c]⟩ : ByteArray)).data.toList = (brk x.k y.k (txN y j.tx)).data.toList ++ [c] := by
          have : (joinS (sepK x.k) ((Fo.cons y j .nil).tx.map fun p => brk x.k p.1 p.2)).data.toList = (brk x.k y.k (txN y j.tx)).data.toList := by
            rw [joinS_list]; simp [Fo.tx, Lib.join_cons, Lib.joinTail]
          simp [this]
        have e6 : joinT (sepT x.k) ((Fo.cons y j .nil).tk.map fun p => brkK x.k p.1 p.2) = brkK x.k y.k (tkN y j.tk) := by simp [Fo.tk, joinT]
        rw [e1, e2, g1, g2, e5, e6]
        exact LexTo.app h0 (LexTo.weak (LexTo.sign c kk g3 g4)) (.inr ⟨c, [], rfl, g5⟩)
/-- the marks of a tree's text -/
theorem cut_text (x : Nd) (k : Fo) (hwf : (Fo.cons x k .nil).wf) (hall : (Fo.cons x k .nil).all mayN) :
    (cut (txN x k.tx) 0).1.map tkOf = tkN x k.tk ∧ (cut (txN x k.tx) 0).2 = (txN x k.tx).size := by
  have h := (lex_tx (Fo.cons x k .nil) hwf hall 0 (x.k, txN x k.tx) (x.k, tkN x k.tk) rfl rfl).2
  obtain ⟨h1, h2⟩ := h (txN x k.tx) [] [] (by simp) (fun _ c hc => by simp at hc)
  have hz : ([] : List UInt8).length + (txN x k.tx).data.toList.length = (txN x k.tx).size := by rw [List.length_nil, Array.length_toList, Nat.zero_add]; rfl
  simp only at h1 h2
  rw [hz, cut_end] at h1 h2
  exact ⟨by simpa using h1, h2⟩
end Go.Proofs.Ytbpipnjdfmpbdaa
