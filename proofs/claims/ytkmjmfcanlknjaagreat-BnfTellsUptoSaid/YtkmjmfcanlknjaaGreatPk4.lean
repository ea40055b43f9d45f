/- The walks and facts that the laws lean on, part 4. No condition of its own: each theorem tells its own. -/
import Derived.Test.YtkmjmfcanlknjaaGreatPk3
import Derived.Sort.KeysCollected
import Derived.Maps.Own
import Derived.Maps.OwnOps
import Derived.Maps.OwnSet
import Derived.StringKeys
import Derived.Shelf.SlIter.Nil
import Derived.Shelf.SortM.Plain
import Derived.Shelf.SortM.SortNone
import Derived.Shelf.SlicesE.Reverse
import Derived.BigQuiet
import Derived.Deep.QuietTactic
import Derived.Deep.RegionHeld3
namespace Go.Proofs.YtkmjmfcanlknjaaGreat
open Go.RowKit

/-! ### plain: the marks of a text that is put together -/
theorem bt_list (s : ByteArray) (pre l : List UInt8) (h : s.data.toList = pre ++ l) (j : Nat) : bt s (pre.length + j) = ((l.getD j 0).toNat : Int) := by
  unfold bt
  rw [h, List.getD_eq_getElem?_getD, List.getD_eq_getElem?_getD, List.getElem?_append_right (by omega)]
  congr 4
  omega
theorem size_list (s : ByteArray) (l : List UInt8) (h : s.data.toList = l) : s.size = l.length := by rw [← h, Array.length_toList]; rfl
theorem wordTo_run (s : ByteArray) (a : Nat) : ∀ n, a + n ≤ s.size → (∀ j, j < n → innerI (bt s (a + j)) = true) → wordTo s a = wordTo s (a + n) := by
  intro n
  induction n with
  | zero => intro _ _; rfl
  | succ n ih =>
    intro h hb
    rw [ih (by omega) (fun j hj => hb j (by omega)), wordTo_yes s (a + n) (by omega) (hb n (by omega))]
    rfl
theorem list_eq_extract (s t : ByteArray) (pre l : List UInt8) (h : s.data.toList = pre ++ (t.data.toList ++ l)) : s.extract pre.length (pre.length + t.size) = t := by
  have ht : t.data.toList.length = t.size := by rw [Array.length_toList]; rfl
  apply ByteArray.ext
  rw [ByteArray.data_extract]
  apply Array.toList_inj.1
  rw [Array.toList_extract, h]
  simp [List.extract_eq_take_drop]
abbrev TK := Int × ByteArray
def tkOf (m : Mk) : TK := (m.k, m.t)
/-- whatever stands around it, the text u is cut into the marks T; r: a word must not go on behind it -/
def LexTo (r : Bool) (u : List UInt8) (T : List TK) : Prop :=
  ∀ (s : ByteArray) (pre post : List UInt8), s.data.toList = pre ++ (u ++ post) → (r = true → ∀ c, post.head? = some c → innerI (c.toNat : Int) = false) →
    (cut s pre.length).1.map tkOf = T ++ (cut s (pre.length + u.length)).1.map tkOf ∧ (cut s pre.length).2 = (cut s (pre.length + u.length)).2
theorem LexTo.nil : LexTo false [] [] := fun _ _ _ _ _ => ⟨rfl, rfl⟩
theorem LexTo.weak {r : Bool} {u : List UInt8} {T : List TK} (h : LexTo false u T) : LexTo r u T := fun s pre post hs _ => h s pre post hs (fun h => by cases h)
theorem LexTo.app {r1 r2 : Bool} {u1 u2 : List UInt8} {T1 T2 : List TK} (h1 : LexTo r1 u1 T1) (h2 : LexTo r2 u2 T2) (hb : r1 = false ∨ ∃ c v, u2 = c :: v ∧ innerI (c.toNat : Int) = false) : LexTo r2 (u1 ++ u2) (T1 ++ T2) := by
  intro s pre post hs hr
  obtain ⟨a1, a2⟩ := h1 s pre (u2 ++ post) (by rw [hs]; simp) (by
    intro e c hc
    rcases hb with hb | ⟨c', v, hb, hi⟩
    · rw [hb] at e; cases e
    · rw [hb] at hc; simp at hc; rw [← hc]; exact hi)
  obtain ⟨b1, b2⟩ := h2 s (pre ++ u1) post (by rw [hs]; simp) hr
  rw [List.length_append] at b1 b2
  rw [List.length_append, ← Nat.add_assoc]
  exact ⟨by rw [a1, b1, List.append_assoc], a2.trans b2⟩
theorem LexTo.blank (c : UInt8) (h : blankI (c.toNat : Int) = true) : LexTo false [c] [] := by
  intro s pre post hs _
  have hb : bt s pre.length = (c.toNat : Int) := by
    have := bt_list s pre _ hs 0
    simpa using this
  have hz := size_list s _ hs
  have e := cut_blank s pre.length (by rw [hz]; simp) (by rw [hb]; exact h)
  exact ⟨by rw [e]; rfl, by rw [e]; rfl⟩
theorem LexTo.sign (c : UInt8) (k : Int) (hk : kindI (c.toNat : Int) = k) (h3 : 3 < k) : LexTo false [c] [(k, ⟨#[c]⟩)] := by
  intro s pre post hs _
  have hb : bt s pre.length = (c.toNat : Int) := by
    have := bt_list s pre _ hs 0
    simpa using this
  have hz := size_list s _ hs
  have hlt : pre.length < s.size := by rw [hz]; simp
  have hbl : blankI (bt s pre.length) = false := kindI_blank _ (by rw [hb, hk]; omega)
  have e := cut_good s pre.length hlt hbl (by rw [hb, hk]; omega)
  have ee : endM s pre.length = pre.length + 1 := by unfold endM; rw [hb, hk, if_neg (by omega)]
  have ex : s.extract pre.length (pre.length + 1) = ⟨#[c]⟩ := list_eq_extract s ⟨#[c]⟩ pre post hs
  rw [e, ee, ex, hb, hk]
  exact ⟨rfl, rfl⟩
theorem bt_self (t : ByteArray) (pre l : List UInt8) (s : ByteArray) (hs : s.data.toList = pre ++ (t.data.toList ++ l)) (j : Nat) (hj : j < t.size) : bt s (pre.length + j) = bt t j := by
  rw [bt_list s pre _ hs j]
  unfold bt
  have : t.data.toList.length = t.size := by rw [Array.length_toList]; rfl
  rw [List.getD_eq_getElem?_getD, List.getD_eq_getElem?_getD, List.getElem?_append_left (by omega)]
theorem LexTo.name (t : ByteArray) (k : Int) (h : nameOk t k) (hk : k = 1 ∨ k = 2) : LexTo true t.data.toList [(k, t)] := by
  intro s pre post hs hr
  obtain ⟨h1, _, h3, h4⟩ := h
  have ht : t.data.toList.length = t.size := by rw [Array.length_toList]; rfl
  have hb : ∀ j, j < t.size → bt s (pre.length + j) = bt t j := fun j hj => bt_self t pre post s hs j hj
  have hz := size_list s _ hs
  simp only [List.length_append, ht] at hz
  have hb0 : bt s pre.length = bt t 0 := hb 0 (by omega)
  have hbl : blankI (bt s pre.length) = false := kindI_blank _ (by rw [hb0, h3]; omega)
  have e := cut_good s pre.length (by omega) hbl (by rw [hb0, h3]; omega)
  have hrun := wordTo_run s (pre.length + 1) (t.size - 1) (by omega) (fun j hj => by
    rw [show pre.length + 1 + j = pre.length + (1 + j) from by omega, hb (1 + j) (by omega)]; exact h4 _ (by omega))
  rw [show pre.length + 1 + (t.size - 1) = pre.length + t.size from by omega] at hrun
  have hstop : wordTo s (pre.length + t.size) = pre.length + t.size := by
    cases post with
    | nil => exact wordTo_end s _ (by simp at hz; omega)
    | cons c post =>
      refine wordTo_no s _ (by simp at hz; omega) ?_
      have := bt_list s (pre ++ t.data.toList) (c :: post) (by rw [hs]; simp) 0
      simp only [List.length_append, ht, Nat.add_zero] at this
      rw [this]
      exact hr rfl c rfl
  have ee : endM s pre.length = pre.length + t.size := by unfold endM; rw [hb0, h3, if_pos (by omega), hrun, hstop]
  have ex := list_eq_extract s t pre post hs
  rw [e, ee, ex, hb0, h3, ht]
  exact ⟨rfl, rfl⟩

/-! ### plain: the marks of a tree's text -/
def sepT (k : Int) : List TK := if k = 5 then [(6, ⟨#[124]⟩)] else []
def signT (k : Int) : List TK := if k = 6 then [(7, ⟨#[42]⟩)] else if k = 7 then [(8, ⟨#[43]⟩)] else if k = 8 then [(9, ⟨#[63]⟩)] else []
def brkK (pk k : Int) (t : List TK) : List TK := if brkB pk k = true then (10, ⟨#[40]⟩) :: (t ++ [(11, ⟨#[41]⟩)]) else t
def joinT (sep : List TK) : List (List TK) → List TK
  | [] => []
  | x :: r => x ++ r.flatMap fun y => sep ++ y
def tkN (x : Nd) (ks : List (Int × List TK)) : List TK :=
  if x.k = 1 then [(12, ⟨#[37]⟩)] else if x.k = 2 then [(1, x.n)] else if x.k = 3 then [(2, x.n)] else joinT (sepT x.k) (ks.map fun p => brkK x.k p.1 p.2) ++ signT x.k
def Fo.tk : Fo → List (Int × List TK)
  | .nil => []
  | .cons x k r => (x.k, tkN x k.tk) :: r.tk
theorem joinS_list (sep : ByteArray) (l : List ByteArray) : (joinS sep l).data.toList = Lib.join (l.map (·.data.toList)) sep.data.toList := by unfold joinS; simp
theorem LexTo.joinTail (sep : List UInt8) (sepk : List TK) (hs : LexTo false sep sepk) (hsp : ∃ c v, sep = c :: v ∧ innerI (c.toNat : Int) = false) :
    ∀ (us : List (List UInt8)) (Ts : List (List TK)) (u : List UInt8) (T : List TK), LexTo true u T → us.length = Ts.length → (∀ (i : Nat) (a : List UInt8) (b : List TK), us[i]? = some a → Ts[i]? = some b → LexTo true a b) →
      LexTo true (u ++ Lib.joinTail sep us) (T ++ Ts.flatMap fun y => sepk ++ y) := by
  intro us
  induction us with
  | nil =>
    intro Ts u T h hl _
    obtain rfl : Ts = [] := List.length_eq_zero_iff.1 hl.symm
    simpa [Lib.joinTail] using h
  | cons a us ih =>
    intro Ts u T h hl hE
    cases Ts with
    | nil => simp at hl
    | cons b Ts =>
      have h1 : LexTo true (u ++ (sep ++ a)) (T ++ (sepk ++ b)) := LexTo.app h (LexTo.app hs (hE 0 a b rfl rfl) (.inl rfl)) (by
        obtain ⟨c, v, e, hi⟩ := hsp
        exact .inr ⟨c, v ++ a, by rw [e]; rfl, hi⟩)
      have h2 := ih Ts _ _ h1 (by simpa using hl) (fun i a b ha hb => hE (i + 1) a b (by simpa using ha) (by simpa using hb))
      simpa [Lib.joinTail] using h2
theorem LexTo.join (sep : List UInt8) (sepk : List TK) (hs : LexTo false sep sepk) (hsp : ∃ c v, sep = c :: v ∧ innerI (c.toNat : Int) = false) (us : List (List UInt8)) (Ts : List (List TK)) (hl : us.length = Ts.length)
    (hE : ∀ (i : Nat) (a : List UInt8) (b : List TK), us[i]? = some a → Ts[i]? = some b → LexTo true a b) : LexTo true (Lib.join us sep) (joinT sepk Ts) := by
  cases us with
  | nil =>
    obtain rfl : Ts = [] := List.length_eq_zero_iff.1 hl.symm
    rw [Lib.join_nil]; exact LexTo.weak LexTo.nil
  | cons a us =>
    cases Ts with
    | nil => simp at hl
    | cons b Ts =>
      rw [Lib.join_cons]
      exact LexTo.joinTail sep sepk hs hsp us Ts a b (hE 0 a b rfl rfl) (by simpa using hl) (fun i a b ha hb => hE (i + 1) a b (by simpa using ha) (by simpa using hb))
theorem LexTo.brk (pk k : Int) (t : ByteArray) (T : List TK) (h : LexTo true t.data.toList T) : LexTo true (Go.Proofs.YtkmjmfcanlknjaaGreat.brk pk k t).data.toList (brkK pk k T) := by
  unfold Go.Proofs.YtkmjmfcanlknjaaGreat.brk brkK
  split
  · have e : ((⟨#[40]⟩ : ByteArray) ++ t ++ (⟨#[41]⟩ : ByteArray)).data.toList = [40] ++ (t.data.toList ++ [41]) := by simp
    rw [e]
    exact LexTo.app (T1 := [(10, ⟨#[40]⟩)]) (LexTo.sign 40 10 (by decide) (by decide)) (LexTo.app h (LexTo.weak (LexTo.sign 41 11 (by decide) (by decide))) (.inr ⟨41, [], rfl, by decide⟩)) (.inl rfl)
  · exact h
theorem Fo.tk_len (f : Fo) : f.tk.length = f.len := by
  induction f with
  | nil => rfl
  | cons x k r _ ih => simp [Fo.tk, Fo.len, ih]
theorem lex_tx (f : Fo) (hwf : f.wf) (hall : f.all mayN) : ∀ (i : Nat) (p : Int × ByteArray) (q : Int × List TK), f.tx[i]? = some p → f.tk[i]? = some q → p.1 = q.1 ∧ LexTo true p.2.data.toList q.2 := by
  induction f with
  | nil => intro i p q h; simp [Fo.tx] at h
  | cons x k r ih1 ih2 =>
    have a2 := ih1 hwf.2.1 hall.2.1
    have b2 := ih2 hwf.2.2 hall.2.2
    intro i p q hp hq
    cases i with
    | succ i => exact b2 i p q (by simpa [Fo.tx] using hp) (by simpa [Fo.tk] using hq)
    | zero =>
      simp only [Fo.tx, List.getElem?_cons_zero, Option.some.injEq] at hp
      simp only [Fo.tk, List.getElem?_cons_zero, Option.some.injEq] at hq
      subst hp; subst hq
      refine ⟨rfl, ?_⟩
      simp only
      have hm := hall.1
      have hE : ∀ (i : Nat) (a : List UInt8) (b : List TK), ((k.tx.map fun p => brk x.k p.1 p.2).map (·.data.toList))[i]? = some a → (k.tk.map fun p => brkK x.k p.1 p.2)[i]? = some b → LexTo true a b := by
        intro i a b ha hb
        rw [List.getElem?_map, List.getElem?_map] at ha
        rw [List.getElem?_map] at hb
        cases hx : k.tx[i]? with
        | none => rw [hx] at ha; cases ha
        | some p =>
          cases hy : k.tk[i]? with
          | none => rw [hy] at hb; cases hb
          | some q =>
            rw [hx] at ha; rw [hy] at hb
            simp only [Option.map, Option.some.injEq] at ha hb
            obtain ⟨e1, e2⟩ := a2 i p q hx hy
            rw [← ha, ← hb, e1]
            exact LexTo.brk _ _ _ _ e2
      have hll : ((k.tx.map fun p => brk x.k p.1 p.2).map (·.data.toList)).length = (k.tk.map fun p => brkK x.k p.1 p.2).length := by
        simp [Fo.tx_len, Fo.tk_len]
      rcases hm with ⟨h, _, _⟩ | ⟨h, _, hn⟩ | ⟨h, _, hn⟩ | ⟨h, _, _⟩ | ⟨h, hnn, hc⟩
      · unfold txN tkN; rw [if_pos h, if_pos h]; exact LexTo.weak (LexTo.sign 37 12 (by decide) (by decide))
      · have e1 : txN x k.tx = x.n := by unfold txN; rw [if_neg (by omega), if_pos (Or.inl h)]
        have e2 : tkN x k.tk = [(1, x.n)] := by unfold tkN; rw [if_neg (by omega), if_pos h]
        rw [e1, e2]; exact LexTo.name _ 1 hn (.inl rfl)
      · have e1 : txN x k.tx = x.n := by unfold txN; rw [if_neg (by omega), if_pos (Or.inr h)]
        have e2 : tkN x k.tk = [(2, x.n)] := by unfold tkN; rw [if_neg (by omega), if_neg (by omega), if_pos h]
        rw [e1, e2]; exact LexTo.name _ 2 hn (.inr rfl)
      · have e1 : txN x k.tx = joinS (sepK x.k) (k.tx.map fun p => brk x.k p.1 p.2) ++ signK x.k := by unfold txN; rw [if_neg (by omega), if_neg (by omega)]
        have e2 : tkN x k.tk = joinT (sepT x.k) (k.tk.map fun p => brkK x.k p.1 p.2) ++ signT x.k := by unfold tkN; rw [if_neg (by omega), if_neg (by omega), if_neg (by omega)]
        have e3 : signK x.k = ⟨#[]⟩ := by unfold signK; rw [if_neg (by omega), if_neg (by omega), if_neg (by omega)]
        have e4 : signT x.k = [] := by unfold signT; rw [if_neg (by omega), if_neg (by omega), if_neg (by omega)]
        have hsep : LexTo false (sepK x.k).data.toList (sepT x.k) ∧ ∃ c v, (sepK x.k).data.toList = c :: v ∧ innerI (c.toNat : Int) = false := by
          rcases h with h | h
          · have s1 : sepK x.k = ⟨#[32]⟩ := by unfold sepK; rw [if_neg (by omega), if_pos h]
            have s2 : sepT x.k = [] := by unfold sepT; rw [if_neg (by omega)]
            rw [s1, s2]
            exact ⟨LexTo.blank 32 (by decide), 32, [], rfl, by decide⟩
          · have s1 : sepK x.k = ⟨#[32, 124, 32]⟩ := by unfold sepK; rw [if_pos h]
            have s2 : sepT x.k = [(6, ⟨#[124]⟩)] := by unfold sepT; rw [if_pos h]
            rw [s1, s2]
            exact ⟨LexTo.app (u1 := [32]) (T1 := []) (LexTo.blank 32 (by decide)) (LexTo.app (u1 := [124]) (T2 := []) (LexTo.sign 124 6 (by decide) (by decide)) (LexTo.blank 32 (by decide)) (.inl rfl)) (.inl rfl), 32, [124, 32], rfl, by decide⟩
        have e5 : (joinS (sepK x.k) (k.tx.map fun p => brk x.k p.1 p.2) ++ (⟨#[]⟩ : ByteArray)).data.toList = Lib.join ((k.tx.map fun p => brk x.k p.1 p.2).map (·.data.toList)) (sepK x.k).data.toList := by
          rw [← joinS_list]; simp
        rw [e1, e2, e3, e4, e5, List.append_nil]
        exact LexTo.join _ _ hsep.1 hsep.2 _ _ hll hE
      · have e1 : txN x k.tx = joinS (sepK x.k) (k.tx.map fun p => brk x.k p.1 p.2) ++ signK x.k := by unfold txN; rw [if_neg (by omega), if_neg (by omega)]
        have e2 : tkN x k.tk = joinT (sepT x.k) (k.tk.map fun p => brkK x.k p.1 p.2) ++ signT x.k := by unfold tkN; rw [if_neg (by omega), if_neg (by omega), if_neg (by omega)]
        have hk1 : k.len = 1 := by have := hwf.1; omega
        obtain ⟨y, j, rfl⟩ := len_one k hk1
        have h0 := hE 0 _ _ rfl rfl
        have hsg : ∃ (c : UInt8) (kk : Int), signK x.k = ⟨#[c]⟩ ∧ signT x.k = [(kk, ⟨#[c]⟩)] ∧ kindI (c.toNat : Int) = kk ∧ 3 < kk ∧ innerI (c.toNat : Int) = false := by
          rcases h with h | h | h
          · exact ⟨42, 7, by unfold signK; rw [if_pos h], by unfold signT; rw [if_pos h], by decide, by decide, by decide⟩
          · exact ⟨43, 8, by unfold signK; rw [if_neg (by omega), if_pos h], by unfold signT; rw [if_neg (by omega), if_pos h], by decide, by decide, by decide⟩
          · exact ⟨63, 9, by unfold signK; rw [if_neg (by omega), if_neg (by omega), if_pos h], by unfold signT; rw [if_neg (by omega), if_neg (by omega), if_pos h], by decide, by decide, by decide⟩
        obtain ⟨c, kk, g1, g2, g3, g4, g5⟩ := hsg
        have e5 : (joinS (sepK x.k) ((Fo.cons y j .nil).tx.map fun p => brk x.k p.1 p.2) ++ (⟨#[c]⟩ : ByteArray)).data.toList = (brk x.k y.k (txN y j.tx)).data.toList ++ [c] := by
          have : (joinS (sepK x.k) ((Fo.cons y j .nil).tx.map fun p => brk x.k p.1 p.2)).data.toList = (brk x.k y.k (txN y j.tx)).data.toList := by
            rw [joinS_list]; simp [Fo.tx, Lib.join_cons, Lib.joinTail]
          simp [this]
        have e6 : joinT (sepT x.k) ((Fo.cons y j .nil).tk.map fun p => brkK x.k p.1 p.2) = brkK x.k y.k (tkN y j.tk) := by simp [Fo.tk, joinT]
        rw [e1, e2, g1, g2, e5, e6]
        exact LexTo.app h0 (LexTo.weak (LexTo.sign c kk g3 g4)) (.inr ⟨c, [], rfl, g5⟩)
/-- the marks of a tree's text -/
theorem cut_text (x : Nd) (k : Fo) (hwf : (Fo.cons x k .nil).wf) (hall : (Fo.cons x k .nil).all mayN) :
    (cut (txN x k.tx) 0).1.map tkOf = tkN x k.tk ∧ (cut (txN x k.tx) 0).2 = (txN x k.tx).size := by
  have h := (lex_tx (Fo.cons x k .nil) hwf hall 0 (x.k, txN x k.tx) (x.k, tkN x k.tk) rfl rfl).2
  obtain ⟨h1, h2⟩ := h (txN x k.tx) [] [] (by simp) (fun _ c hc => by simp at hc)
  have hz : ([] : List UInt8).length + (txN x k.tx).data.toList.length = (txN x k.tx).size := by rw [List.length_nil, Array.length_toList, Nat.zero_add]; rfl
  simp only at h1 h2
  rw [hz, cut_end] at h1 h2
  exact ⟨by simpa using h1, h2⟩
end Go.Proofs.YtkmjmfcanlknjaaGreat
namespace Go.Proofs.YtkmjmfcanlknjaaGreat
open Go.RowKit

/-! ### plain: a tree's marks are read as that tree -/
structure HasT (M : List Mk) (p : Nat) (T : List TK) : Prop where
  fit : p + T.length ≤ M.length
  at' : ∀ (i : Nat) (q : TK), T[i]? = some q → kd M (p + i) = q.1 ∧ tx M (p + i) = q.2
theorem HasT.left {M : List Mk} {p : Nat} {A B : List TK} (h : HasT M p (A ++ B)) : HasT M p A :=
  ⟨by have := h.fit; rw [List.length_append] at this; omega, fun i q hq => h.at' i q (by rw [List.getElem?_append_left (List.getElem?_eq_some_iff.1 hq).1]; exact hq)⟩
theorem HasT.right {M : List Mk} {p : Nat} {A B : List TK} (h : HasT M p (A ++ B)) : HasT M (p + A.length) B :=
  ⟨by have := h.fit; rw [List.length_append] at this; omega, fun i q hq => by
    have := h.at' (A.length + i) q (by rw [List.getElem?_append_right (by omega), show A.length + i - A.length = i from by omega]; exact hq)
    rwa [← Nat.add_assoc] at this⟩
theorem HasT.head {M : List Mk} {p : Nat} {q : TK} {B : List TK} (h : HasT M p (q :: B)) : kd M p = q.1 ∧ tx M p = q.2 ∧ HasT M (p + 1) B ∧ p < M.length := by
  obtain ⟨h1, h2⟩ := h.at' 0 q rfl
  exact ⟨h1, h2, HasT.right (A := [q]) h, by have := h.fit; simp at this; omega⟩
def nxT (k : Int) : Prop := beginsI k = false ∧ k ≠ 6 ∧ sufK k = 0
theorem begins_suf {k : Int} (h : beginsI k = true) : sufK k = 0 := by
  rcases begins_cases h with h | h | h | h <;> subst h <;> rfl
structure GoodF (f : Fo) : Prop where
  wf : f.wf
  all : f.all mayN
theorem GoodF.kid {x : Nd} {k r : Fo} (h : GoodF (.cons x k r)) : GoodF k := ⟨h.wf.2.1, h.all.2.1⟩
theorem GoodF.rest {x : Nd} {k r : Fo} (h : GoodF (.cons x k r)) : GoodF r := ⟨h.wf.2.2, h.all.2.2⟩
theorem GoodF.one {x : Nd} {k r : Fo} (h : GoodF (.cons x k r)) : GoodF (.cons x k .nil) := ⟨⟨h.wf.1, h.wf.2.1, trivial⟩, ⟨h.all.1, h.all.2.1, trivial⟩⟩
/-- the marks of each kid -/
def uT (pk : Int) (p : Int × List TK) : List TK := brkK pk p.1 p.2
def seqT (f : Fo) : List TK := f.tk.flatMap (uT 4)
def altT (f : Fo) : List TK := f.tk.flatMap fun p => (6, ⟨#[124]⟩) :: uT 5 p
theorem tk_seq {x : Nd} {k : Fo} (h : x.k = 4) : tkN x k.tk = seqT k := by
  unfold tkN seqT
  rw [if_neg (by omega), if_neg (by omega), if_neg (by omega), h]
  have e1 : sepT 4 = [] := rfl
  have e2 : signT 4 = [] := rfl
  rw [e1, e2, List.append_nil]
  cases k.tk with
  | nil => rfl
  | cons p l => simp [joinT, uT, List.flatMap_map]; rfl
theorem tk_alt {x : Nd} {y : Nd} {j r : Fo} (h : x.k = 5) : tkN x (Fo.cons y j r).tk = uT 5 (y.k, tkN y j.tk) ++ altT r := by
  conv => lhs; unfold tkN
  unfold altT
  rw [if_neg (by omega), if_neg (by omega), if_neg (by omega), h]
  have e1 : sepT 5 = [(6, ⟨#[124]⟩)] := rfl
  have e2 : signT 5 = [] := rfl
  rw [e1, e2, List.append_nil]
  simp [joinT, uT, List.flatMap_map, Fo.tk]
theorem suf_sign {x : Nd} (h : x.k = 6 ∨ x.k = 7 ∨ x.k = 8) : ∃ (kk : Int) (t : ByteArray), signT x.k = [(kk, t)] ∧ sufK kk = x.k := by
  rcases h with h | h | h <;> rw [h]
  · exact ⟨7, _, rfl, rfl⟩
  · exact ⟨8, _, rfl, rfl⟩
  · exact ⟨9, _, rfl, rfl⟩
theorem tkR_suf {x y : Nd} {j : Fo} (h : x.k = 6 ∨ x.k = 7 ∨ x.k = 8) : tkN x (Fo.cons y j .nil).tk = uT x.k (y.k, tkN y j.tk) ++ signT x.k := by
  conv => lhs; unfold tkN
  rw [if_neg (by omega), if_neg (by omega), if_neg (by omega)]
  simp [joinT, uT, Fo.tk]
theorem brk_other {pk k : Int} (h4 : k ≠ 4) (h5 : k ≠ 5) (t : List TK) : brkK pk k t = t := by
  unfold brkK brkB
  rw [if_neg (by simp [h4, h5])]
theorem brk_yes {pk k : Int} (h : brkB pk k = true) (t : List TK) : brkK pk k t = (10, ⟨#[40]⟩) :: (t ++ [(11, ⟨#[41]⟩)]) := by unfold brkK; rw [if_pos h]
theorem kids0 {k : Fo} (h : k.len = 0) : k = .nil := by
  cases k with
  | nil => rfl
  | cons => simp [Fo.len] at h
theorem first_tk (f : Fo) : GoodF f → ∀ (x : Nd) (k r : Fo), f = .cons x k r → ∃ q T, tkN x k.tk = q :: T ∧ beginsI q.1 = true := by
  induction f with
  | nil => intro _ x k r e; cases e
  | cons x' k' r' ih1 _ =>
    intro h x k r e
    cases e
    rcases h.all.1 with ⟨h1, _, _⟩ | ⟨h1, _, _⟩ | ⟨h1, _, _⟩ | ⟨h1, _, hc⟩ | ⟨h1, _, hc⟩
    · exact ⟨_, _, by unfold tkN; rw [if_pos h1], rfl⟩
    · exact ⟨_, _, by unfold tkN; rw [if_neg (by omega), if_pos h1], rfl⟩
    · exact ⟨_, _, by unfold tkN; rw [if_neg (by omega), if_neg (by omega), if_pos h1], rfl⟩
    all_goals
      have hl : 1 ≤ k'.len := by have := h.wf.1; omega
      obtain ⟨y, j, r2, rfl⟩ : ∃ y j r2, k' = Fo.cons y j r2 := by
        cases k' with
        | nil => simp [Fo.len] at hl
        | cons y j r2 => exact ⟨y, j, r2, rfl⟩
      obtain ⟨q, T, e1, e2⟩ := ih1 h.kid y j r2 rfl
      have hu : ∀ pk, ∃ q T, uT pk (y.k, tkN y j.tk) = q :: T ∧ beginsI q.1 = true := by
        intro pk
        unfold uT brkK
        simp only
        split
        · exact ⟨_, _, rfl, rfl⟩
        · exact ⟨q, T, e1, e2⟩
    · rcases h1 with h1 | h1
      · obtain ⟨q, T, e3, e4⟩ := hu 4
        refine ⟨q, T ++ seqT r2, ?_, e4⟩
        rw [tk_seq h1]
        show uT 4 (y.k, tkN y j.tk) ++ seqT r2 = _
        rw [e3]; rfl
      · obtain ⟨q, T, e3, e4⟩ := hu 5
        exact ⟨q, T ++ altT r2, by rw [tk_alt h1, e3]; rfl, e4⟩
    · obtain ⟨q, T, e3, e4⟩ := hu x'.k
      have hr2 : r2 = .nil := kids0 (by have := h.wf.1; simp [Fo.len] at this; omega)
      subst hr2
      exact ⟨q, T ++ signT x'.k, by rw [tkR_suf h1, e3]; rfl, e4⟩
theorem first_u {x : Nd} {k r : Fo} (h : GoodF (.cons x k r)) (pk : Int) : ∃ q T, uT pk (x.k, tkN x k.tk) = q :: T ∧ beginsI q.1 = true := by
  obtain ⟨q, T, e1, e2⟩ := first_tk _ h x k r rfl
  unfold uT brkK
  simp only
  split
  · exact ⟨_, _, rfl, rfl⟩
  · exact ⟨q, T, e1, e2⟩
theorem pSufR_stop {M : List Mk} {q : Nat} (h : sufK (kd M q) = 0) (m : Nat) (f : Fo) : pSuf M m q f = ⟨true, f, q⟩ := by
  cases m with
  | zero => rfl
  | succ m => unfold pSuf; rw [if_pos h]
theorem pSufR_step {M : List Mk} {q : Nat} (hq : q < M.length) {s : Int} (h : sufK (kd M q) = s) (hs : s ≠ 0) (f : Fo) : pSuf M (M.length - q) q f = pSuf M (M.length - (q + 1)) (q + 1) (.cons ⟨s, ⟨#[]⟩, 1⟩ f .nil) := by
  rw [show M.length - q = (M.length - (q + 1)) + 1 from by omega]
  conv => lhs; unfold pSuf
  rw [h, if_neg hs]
def HE (M : List Mk) (E : Nat → PR) (n : Nat) : Prop :=
  ∀ (y : Nd) (j : Fo) (p : Nat), GoodF (.cons y j .nil) → j.height + 1 ≤ n → HasT M p (tkN y j.tk) → nxT (kd M (p + (tkN y j.tk).length)) → E p = ⟨true, .cons y j .nil, p + (tkN y j.tk).length⟩
theorem atom_brk {M : List Mk} {E : Nat → PR} {n : Nat} (hE : HE M E n) {y : Nd} {j : Fo} {p : Nat} (hg : GoodF (.cons y j .nil)) (hh : j.height + 1 ≤ n) (hT : HasT M p ((10, ⟨#[40]⟩) :: (tkN y j.tk ++ [(11, ⟨#[41]⟩)]))) :
    pAtom E M p = ⟨true, .cons y j .nil, p + (tkN y j.tk).length + 2⟩ := by
  obtain ⟨h1, _, h2, _⟩ := hT.head
  obtain ⟨h3, _, _, _⟩ := h2.right.head
  have hx := hE y j (p + 1) hg hh h2.left (by rw [h3]; exact ⟨by decide, by decide, by decide⟩)
  simp only at h1 h3
  unfold pAtom
  rw [h1, if_pos (by decide), if_neg (by decide), if_neg (by decide), if_neg (by decide), hx]
  simp only
  rw [h3]
  simp
  omega
theorem unit_self (M : List Mk) (E : Nat → PR) (n : Nat) (hE : HE M E n) (f : Fo) : ∀ (x : Nd) (k : Fo), f = .cons x k .nil → GoodF f → x.k ≠ 4 → x.k ≠ 5 → k.height ≤ n → ∀ p, HasT M p (tkN x k.tk) →
    pUnit E M p = pSuf M (M.length - (p + (tkN x k.tk).length)) (p + (tkN x k.tk).length) (.cons x k .nil) := by
  induction f with
  | nil => intro x k e; cases e
  | cons x' k' r' ih1 _ =>
    intro x k e hg h4 h5 hh p hT
    cases e
    have hm := hg.all.1
    have hc := hg.wf.1
    have hat : ∀ (q : TK) (f : Fo), tkN x' k'.tk = [q] → pAtom E M p = ⟨true, f, p + 1⟩ → f = .cons x' k' .nil → pUnit E M p = pSuf M (M.length - (p + (tkN x' k'.tk).length)) (p + (tkN x' k'.tk).length) (.cons x' k' .nil) := by
      intro q f e1 e2 e3
      unfold pUnit
      rw [e1, e2, if_pos rfl, e3]; rfl
    rcases hm with ⟨h1, hn, hz⟩ | ⟨h1, hz, hn⟩ | ⟨h1, hz, hn⟩ | ⟨h1, _, _⟩ | ⟨h1, hn, hz⟩
    · have e1 : tkN x' k'.tk = [(12, ⟨#[37]⟩)] := by unfold tkN; rw [if_pos h1]
      have hk : k' = .nil := kids0 (by omega)
      rw [e1] at hT
      obtain ⟨g1, g2, _, _⟩ := hT.head
      simp only at g1 g2
      refine hat _ (leafF 1 ⟨#[]⟩) e1 ?_ ?_
      · unfold pAtom; rw [g1, if_pos (by decide), if_neg (by decide), if_neg (by decide), if_pos rfl]
      · subst hk; obtain ⟨a, b, c⟩ := x'; simp only at h1 hn hz; subst h1 hn hz; rfl
    · have e1 : tkN x' k'.tk = [(1, x'.n)] := by unfold tkN; rw [if_neg (by omega), if_pos h1]
      have hk : k' = .nil := kids0 (by omega)
      rw [e1] at hT
      obtain ⟨g1, g2, _, _⟩ := hT.head
      simp only at g1 g2
      refine hat _ (leafF 2 (tx M p)) e1 ?_ ?_
      · unfold pAtom; rw [g1, if_pos (by decide), if_pos rfl]
      · rw [g2]; subst hk; obtain ⟨a, b, c⟩ := x'; simp only at h1 hz; subst h1 hz; rfl
    · have e1 : tkN x' k'.tk = [(2, x'.n)] := by unfold tkN; rw [if_neg (by omega), if_neg (by omega), if_pos h1]
      have hk : k' = .nil := kids0 (by omega)
      rw [e1] at hT
      obtain ⟨g1, g2, _, _⟩ := hT.head
      simp only at g1 g2
      refine hat _ (leafF 3 (tx M p)) e1 ?_ ?_
      · unfold pAtom; rw [g1, if_pos (by decide), if_neg (by decide), if_pos rfl]
      · rw [g2]; subst hk; obtain ⟨a, b, c⟩ := x'; simp only at h1 hz; subst h1 hz; rfl
    · omega
    · obtain ⟨y, j, rfl⟩ := len_one k' (by omega)
      obtain ⟨kk, t, e2, e3⟩ := suf_sign h1
      rw [tkR_suf h1, e2] at hT ⊢
      have hx' : x' = ⟨x'.k, ⟨#[]⟩, 1⟩ := by obtain ⟨a, b, c⟩ := x'; simp only at hn hz; subst hn hz; rfl
      have hht : j.height + 1 ≤ n := by simp only [Fo.height] at hh; omega
      obtain ⟨g1, _, _, g4⟩ := hT.right.head
      simp only at g1
      have key : pUnit E M p = pSuf M (M.length - (p + (uT x'.k (y.k, tkN y j.tk)).length)) (p + (uT x'.k (y.k, tkN y j.tk)).length) (.cons y j .nil) := by
        by_cases hy : y.k = 4 ∨ y.k = 5
        · have eb : uT x'.k (y.k, tkN y j.tk) = (10, ⟨#[40]⟩) :: (tkN y j.tk ++ [(11, ⟨#[41]⟩)]) := brk_yes (by unfold brkB; rcases hy with hy | hy <;> rw [hy] <;> simp; omega) _
          rw [eb] at hT ⊢
          have ha := atom_brk hE hg.kid hht hT.left
          unfold pUnit
          rw [ha, if_pos rfl]
          simp only [List.length_cons, List.length_append, List.length_nil]
          rw [show p + (tkN y j.tk).length + 2 = p + ((tkN y j.tk).length + (0 + 1) + 1) from by omega]
        · have eb : uT x'.k (y.k, tkN y j.tk) = tkN y j.tk := brk_other (by omega) (by omega) _
          rw [eb] at hT ⊢
          exact ih1 y j rfl hg.kid (by omega) (by omega) (by omega) p hT.left
      rw [key, pSufR_step g4 (s := x'.k) (by rw [g1]; exact e3) (by omega), ← hx']
      simp only [List.length_append, List.length_cons, List.length_nil, Nat.zero_add, Nat.add_assoc]
theorem unit_u {M : List Mk} {E : Nat → PR} {n : Nat} (hE : HE M E n) {y : Nd} {j : Fo} {p : Nat} (hg : GoodF (.cons y j .nil)) (hh : j.height + 1 ≤ n) (hT : HasT M p (uT 4 (y.k, tkN y j.tk))) (hs : sufK (kd M (p + (uT 4 (y.k, tkN y j.tk)).length)) = 0) :
    pUnit E M p = ⟨true, .cons y j .nil, p + (uT 4 (y.k, tkN y j.tk)).length⟩ := by
  by_cases hy : y.k = 4 ∨ y.k = 5
  · have eb : uT 4 (y.k, tkN y j.tk) = (10, ⟨#[40]⟩) :: (tkN y j.tk ++ [(11, ⟨#[41]⟩)]) := brk_yes (by unfold brkB; rcases hy with hy | hy <;> rw [hy] <;> simp) _
    rw [eb] at hT hs ⊢
    have ha := atom_brk hE hg hh hT
    have el : p + ((10, ⟨#[40]⟩) :: (tkN y j.tk ++ [(11, (⟨#[41]⟩ : ByteArray))]) : List TK).length = p + (tkN y j.tk).length + 2 := by simp; omega
    rw [el] at hs ⊢
    unfold pUnit
    rw [ha, if_pos rfl]
    exact pSufR_stop hs _ _
  · have eb : uT 4 (y.k, tkN y j.tk) = tkN y j.tk := brk_other (by omega) (by omega) _
    rw [eb] at hT hs ⊢
    rw [unit_self M E n hE _ y j rfl hg (by omega) (by omega) (by omega) p hT]
    exact pSufR_stop hs _ _
theorem app_one (f : Fo) (y : Nd) (j r : Fo) : (f.app (.cons y j .nil)).app r = f.app (.cons y j r) := by
  induction f with
  | nil => rfl
  | cons x k r' _ ih => simp [Fo.app, ih]
theorem foApp_nil (f : Fo) : f.app .nil = f := by
  induction f with
  | nil => rfl
  | cons x k r' _ ih => simp [Fo.app, ih]
theorem many_stop {S : Nat → Option PR} {p : Nat} (h : S p = none) (k : Int) (m : Nat) (f : Fo) (c : Nat) : pMany S k m p f c = ⟨true, wrapF k c f, p⟩ := by
  cases m with
  | zero => rfl
  | succ m => unfold pMany; rw [h]
theorem seq_len (f : Fo) (h : GoodF f) : f.len ≤ (seqT f).length := by
  induction f with
  | nil => simp [Fo.len]
  | cons x k r _ ih =>
    obtain ⟨q, T, e, _⟩ := first_u h 4
    have := ih h.rest
    show r.len + 1 ≤ (uT 4 (x.k, tkN x k.tk) ++ seqT r).length
    rw [List.length_append, e]; simp; omega
theorem alt_len (f : Fo) : f.len ≤ (altT f).length := by
  induction f with
  | nil => simp [Fo.len]
  | cons x k r _ ih =>
    show r.len + 1 ≤ (((6, ⟨#[124]⟩) :: uT 5 (x.k, tkN x k.tk)) ++ altT r).length
    rw [List.length_append, List.length_cons]; omega
theorem seq_first (f : Fo) (h : GoodF f) (h0 : f ≠ .nil) {M : List Mk} {p : Nat} (hT : HasT M p (seqT f)) : beginsI (kd M p) = true := by
  cases f with
  | nil => exact absurd rfl h0
  | cons x k r =>
    obtain ⟨q, T, e, hb⟩ := first_u h 4
    have hT' : HasT M p (uT 4 (x.k, tkN x k.tk) ++ seqT r) := hT
    rw [e] at hT'
    obtain ⟨g, _⟩ := hT'.head
    rw [g]; exact hb
theorem many_seq {M : List Mk} {E : Nat → PR} {n : Nat} (hE : HE M E n) (g : Fo) : ∀ (f : Fo) (c p m : Nat), GoodF g → g.height ≤ n → HasT M p (seqT g) → sufK (kd M (p + (seqT g).length)) = 0 → beginsI (kd M (p + (seqT g).length)) = false → g.len ≤ m →
    pMany (sPart E M) 4 m p f c = ⟨true, wrapF 4 (c + g.len) (f.app g), p + (seqT g).length⟩ := by
  induction g with
  | nil =>
    intro f c p m _ _ _ _ hb _
    have hb' : beginsI (kd M p) = false := hb
    rw [many_stop (by unfold sPart; rw [if_neg (by rw [hb']; simp)])]
    rw [foApp_nil f]; rfl
  | cons y j r _ ih =>
    intro f c p m hg hh hT hs hb hm
    have e : seqT (.cons y j r) = uT 4 (y.k, tkN y j.tk) ++ seqT r := rfl
    rw [e] at hT hs hb ⊢
    have hf := seq_first (.cons y j r) hg (by simp) (p := p) (by rw [e]; exact hT)
    rw [List.length_append, ← Nat.add_assoc] at hs hb ⊢
    have hnx : sufK (kd M (p + (uT 4 (y.k, tkN y j.tk)).length)) = 0 := by
      by_cases hr : r = .nil
      · subst hr; exact hs
      · exact begins_suf (seq_first r hg.rest hr hT.right)
    simp only [Fo.height] at hh
    have hu := unit_u hE hg.one (by omega) hT.left hnx
    cases m with
    | zero => simp [Fo.len] at hm
    | succ m =>
      conv => lhs; unfold pMany
      have hS : sPart E M p = some (pUnit E M p) := by unfold sPart; rw [if_pos hf]
      rw [hS, hu]
      simp only [if_true]
      rw [ih _ _ _ _ hg.rest (by omega) hT.right hs hb (by simp only [Fo.len] at hm; omega), app_one]
      simp only [Fo.len, PR.mk.injEq, true_and]
      refine ⟨?_, trivial⟩
      rw [show c + 1 + r.len = c + (r.len + 1) from by omega]
theorem part_u {M : List Mk} {E : Nat → PR} {n : Nat} (hE : HE M E n) {y : Nd} {j : Fo} {p : Nat} (hg : GoodF (.cons y j .nil)) (hh : j.height ≤ n) (hh5 : y.k = 5 → j.height + 1 ≤ n) (hT : HasT M p (uT 5 (y.k, tkN y j.tk)))
    (hs : sufK (kd M (p + (uT 5 (y.k, tkN y j.tk)).length)) = 0) (hb : beginsI (kd M (p + (uT 5 (y.k, tkN y j.tk)).length)) = false) :
    pPart E M p = ⟨true, .cons y j .nil, p + (uT 5 (y.k, tkN y j.tk)).length⟩ := by
  have hstop : ∀ q m f, beginsI (kd M q) = false → pMany (sPart E M) 4 m q f 1 = ⟨true, f, q⟩ := by
    intro q m f h
    rw [many_stop (by unfold sPart; rw [if_neg (by rw [h]; simp)])]
    rfl
  by_cases h5 : y.k = 5
  · have eb : uT 5 (y.k, tkN y j.tk) = (10, ⟨#[40]⟩) :: (tkN y j.tk ++ [(11, ⟨#[41]⟩)]) := brk_yes (by unfold brkB; rw [h5]; simp) _
    rw [eb] at hT hs hb ⊢
    have ha := atom_brk hE hg (hh5 h5) hT
    have el : p + ((10, ⟨#[40]⟩) :: (tkN y j.tk ++ [(11, (⟨#[41]⟩ : ByteArray))]) : List TK).length = p + (tkN y j.tk).length + 2 := by simp; omega
    rw [el] at hs hb ⊢
    have hu : pUnit E M p = ⟨true, .cons y j .nil, p + (tkN y j.tk).length + 2⟩ := by
      unfold pUnit
      rw [ha, if_pos rfl]
      exact pSufR_stop hs _ _
    unfold pPart
    rw [hu, if_pos rfl]
    exact hstop _ _ _ hb
  · by_cases h4 : y.k = 4
    · have eb : uT 5 (y.k, tkN y j.tk) = tkN y j.tk := by unfold uT brkK brkB; rw [h4]; rfl
      rw [eb, tk_seq h4] at hT hs hb ⊢
      have hm : 2 ≤ y.c ∧ y.n = ⟨#[]⟩ := by
        rcases hg.all.1 with h | h | h | h | h
        · omega
        · omega
        · omega
        · exact ⟨h.2.2, h.2.1⟩
        · omega
      have hc := hg.wf.1
      obtain ⟨y1, j1, r, rfl⟩ : ∃ y1 j1 r, j = Fo.cons y1 j1 r := by
        cases j with
        | nil => simp [Fo.len] at hc; omega
        | cons y1 j1 r => exact ⟨y1, j1, r, rfl⟩
      have e : seqT (.cons y1 j1 r) = uT 4 (y1.k, tkN y1 j1.tk) ++ seqT r := rfl
      rw [e] at hT hs hb ⊢
      rw [List.length_append, ← Nat.add_assoc] at hs hb ⊢
      have hr : r ≠ .nil := by
        rintro rfl
        simp [Fo.len] at hc; omega
      have hnx := begins_suf (seq_first r hg.kid.rest hr hT.right)
      simp only [Fo.height] at hh
      have hu := unit_u hE hg.kid.one (by omega) hT.left hnx
      have hfit := hT.right.fit
      have hsl := seq_len r hg.kid.rest
      unfold pPart
      rw [hu, if_pos rfl]
      simp only
      rw [many_seq hE r _ _ _ _ hg.kid.rest (by omega) hT.right hs hb (by omega)]
      simp only [PR.mk.injEq, true_and]
      refine ⟨?_, trivial⟩
      simp only [Fo.len] at hc
      unfold wrapF
      rw [if_neg (by omega)]
      obtain ⟨a, b, c⟩ := y
      simp only at h4 hm hc
      obtain ⟨_, rfl⟩ := hm
      subst h4
      rw [hc]
      simp only [Fo.app]
      congr 2
      omega
    · have eb : uT 5 (y.k, tkN y j.tk) = tkN y j.tk := brk_other h4 h5 _
      rw [eb] at hT hs hb ⊢
      have hu : pUnit E M p = ⟨true, .cons y j .nil, p + (tkN y j.tk).length⟩ := by
        rw [unit_self M E n hE _ y j rfl hg h4 h5 hh p hT]
        exact pSufR_stop hs _ _
      unfold pPart
      rw [hu, if_pos rfl]
      exact hstop _ _ _ hb
theorem alt_first (r : Fo) {M : List Mk} {p : Nat} (hT : HasT M p (altT r)) (h0 : r ≠ .nil) : kd M p = 6 := by
  cases r with
  | nil => exact absurd rfl h0
  | cons x k r =>
    have hT' : HasT M p ((6, ⟨#[124]⟩) :: (uT 5 (x.k, tkN x k.tk) ++ altT r)) := hT
    exact hT'.head.1
theorem alt_next (r : Fo) {M : List Mk} {p : Nat} (hT : HasT M p (altT r)) (hn : nxT (kd M (p + (altT r).length))) : sufK (kd M p) = 0 ∧ beginsI (kd M p) = false := by
  by_cases hr : r = .nil
  · subst hr; exact ⟨hn.2.2, hn.1⟩
  · rw [alt_first r hT hr]; exact ⟨by decide, by decide⟩
theorem many_alt {M : List Mk} {E : Nat → PR} {n : Nat} (hE : HE M E n) (g : Fo) : ∀ (f : Fo) (c p m : Nat), GoodF g → g.height ≤ n → HasT M p (altT g) → nxT (kd M (p + (altT g).length)) → g.len ≤ m →
    pMany (sExpr E M) 5 m p f c = ⟨true, wrapF 5 (c + g.len) (f.app g), p + (altT g).length⟩ := by
  induction g with
  | nil =>
    intro f c p m _ _ _ hn _
    have h6 : kd M p ≠ 6 := hn.2.1
    rw [many_stop (by unfold sExpr; rw [if_neg h6])]
    rw [foApp_nil f]; rfl
  | cons y j r _ ih =>
    intro f c p m hg hh hT hn hm
    have e : altT (.cons y j r) = (6, ⟨#[124]⟩) :: (uT 5 (y.k, tkN y j.tk) ++ altT r) := rfl
    rw [e] at hT hn ⊢
    obtain ⟨h6, _, hT2, _⟩ := hT.head
    have el : p + ((6, (⟨#[124]⟩ : ByteArray)) :: (uT 5 (y.k, tkN y j.tk) ++ altT r) : List TK).length = p + 1 + (uT 5 (y.k, tkN y j.tk)).length + (altT r).length := by
      simp; omega
    rw [el] at hn ⊢
    obtain ⟨n1, n2⟩ := alt_next r hT2.right hn
    simp only [Fo.height] at hh
    have hu := part_u hE hg.one (by omega) (fun _ => by omega) hT2.left n1 n2
    cases m with
    | zero => simp [Fo.len] at hm
    | succ m =>
      conv => lhs; unfold pMany
      have hS : sExpr E M p = some (pPart E M (p + 1)) := by unfold sExpr; rw [if_pos h6]
      rw [hS, hu]
      simp only [if_true]
      rw [ih _ _ _ _ hg.rest (by omega) hT2.right hn (by simp only [Fo.len] at hm; omega), app_one]
      simp only [Fo.len, PR.mk.injEq, true_and]
      refine ⟨?_, trivial⟩
      rw [show c + 1 + r.len = c + (r.len + 1) from by omega]
theorem expr_self {M : List Mk} {E : Nat → PR} {n : Nat} (hE : HE M E n) {x : Nd} {k : Fo} {p : Nat} (hg : GoodF (.cons x k .nil)) (hh : k.height ≤ n) (hT : HasT M p (tkN x k.tk)) (hn : nxT (kd M (p + (tkN x k.tk).length))) :
    pExprS E M p = ⟨true, .cons x k .nil, p + (tkN x k.tk).length⟩ := by
  by_cases h5 : x.k = 5
  · have hm : 2 ≤ x.c ∧ x.n = ⟨#[]⟩ := by
      rcases hg.all.1 with h | h | h | h | h
      · omega
      · omega
      · omega
      · exact ⟨h.2.2, h.2.1⟩
      · omega
    have hc := hg.wf.1
    obtain ⟨y, j, r, rfl⟩ : ∃ y j r, k = Fo.cons y j r := by
      cases k with
      | nil => simp [Fo.len] at hc; omega
      | cons y j r => exact ⟨y, j, r, rfl⟩
    rw [tk_alt h5] at hT hn ⊢
    rw [List.length_append, ← Nat.add_assoc] at hn ⊢
    obtain ⟨n1, n2⟩ := alt_next r hT.right hn
    simp only [Fo.height] at hh
    have hu := part_u hE hg.kid.one (by omega) (fun _ => by omega) hT.left n1 n2
    have hfit := hT.right.fit
    have hal := alt_len r
    unfold pExprS
    rw [hu, if_pos rfl]
    simp only
    rw [many_alt hE r _ _ _ _ hg.kid.rest (by omega) hT.right hn (by omega)]
    simp only [PR.mk.injEq, true_and]
    refine ⟨?_, trivial⟩
    simp only [Fo.len] at hc
    unfold wrapF
    rw [if_neg (by omega)]
    obtain ⟨a, b, c⟩ := x
    simp only at h5 hm hc
    obtain ⟨_, rfl⟩ := hm
    subst h5
    rw [hc]
    simp only [Fo.app]
    congr 2
    omega
  · have eb : uT 5 (x.k, tkN x k.tk) = tkN x k.tk := by
      unfold uT brkK brkB
      rw [if_neg (by simp [h5])]
    have hu := part_u hE hg hh (fun h => absurd h h5) (by rw [eb]; exact hT) (by rw [eb]; exact hn.2.2) (by rw [eb]; exact hn.1)
    rw [eb] at hu
    unfold pExprS
    rw [hu, if_pos rfl]
    rw [many_stop (by unfold sExpr; rw [if_neg hn.2.1])]
    rfl
theorem expr_all (M : List Mk) : ∀ n, HE M (pExpr M n) n
  | 0 => fun y j p _ h => by omega
  | n + 1 => fun y j p hg hh hT hn => by
    show pExprS (pExpr M n) M p = _
    exact expr_self (expr_all M n) hg (by omega) hT hn
end Go.Proofs.YtkmjmfcanlknjaaGreat
namespace Go.Proofs.YtkmjmfcanlknjaaGreat
open Go.RowKit

/-! ### plain: what is printed is read as itself -/
theorem HasT.of_map {M : List Mk} {T : List TK} (h : M.map tkOf = T) : HasT M 0 T ∧ M.length = T.length := by
  have hl : M.length = T.length := by rw [← h]; simp
  refine ⟨⟨by omega, fun i q hq => ?_⟩, hl⟩
  rw [← h, List.getElem?_map] at hq
  cases hm : M[i]? with
  | none => rw [hm] at hq; cases hq
  | some m =>
    rw [hm] at hq
    simp only [Option.map, Option.some.injEq] at hq
    rw [Nat.zero_add, kd_some hm, tx_some hm, ← hq]
    exact ⟨rfl, rfl⟩
def tkSum (f : Fo) : Nat := (f.tk.map fun p => p.2.length).sum
theorem brk_ge (pk k : Int) (t : List TK) : t.length ≤ (brkK pk k t).length := by
  unfold brkK; split
  · simp; omega
  · exact Nat.le_refl _
theorem seqT_ge (f : Fo) : tkSum f ≤ (seqT f).length := by
  induction f with
  | nil => exact Nat.le_refl _
  | cons x k r _ ih =>
    have e : tkSum (.cons x k r) = (tkN x k.tk).length + tkSum r := by simp [tkSum, Fo.tk]
    have e2 : seqT (.cons x k r) = brkK 4 x.k (tkN x k.tk) ++ seqT r := rfl
    have := brk_ge 4 x.k (tkN x k.tk)
    rw [e, e2, List.length_append]; omega
theorem altT_ge (f : Fo) : tkSum f ≤ (altT f).length := by
  induction f with
  | nil => exact Nat.le_refl _
  | cons x k r _ ih =>
    have e : tkSum (.cons x k r) = (tkN x k.tk).length + tkSum r := by simp [tkSum, Fo.tk]
    have e2 : altT (.cons x k r) = (6, ⟨#[124]⟩) :: (brkK 5 x.k (tkN x k.tk) ++ altT r) := rfl
    have := brk_ge 5 x.k (tkN x k.tk)
    rw [e, e2, List.length_cons, List.length_append]; omega
theorem height_tk (f : Fo) : GoodF f → f.height + (f.len - 1) ≤ tkSum f ∧ f.len ≤ tkSum f := by
  induction f with
  | nil => intro _; exact ⟨by simp [Fo.height, Fo.len], by simp [Fo.len]⟩
  | cons x k r ih1 ih2 =>
    intro h
    obtain ⟨a1, a2⟩ := ih1 h.kid
    obtain ⟨b1, b2⟩ := ih2 h.rest
    have e : tkSum (.cons x k r) = (tkN x k.tk).length + tkSum r := by simp [tkSum, Fo.tk]
    have key : k.height + 1 ≤ (tkN x k.tk).length := by
      obtain ⟨q, T, e0, _⟩ := first_tk _ h x k r rfl
      have hpos : 1 ≤ (tkN x k.tk).length := by rw [e0]; simp
      rcases h.all.1 with ⟨_, _, hz⟩ | ⟨_, hz, _⟩ | ⟨_, hz, _⟩ | ⟨h1, _, hz⟩ | ⟨h1, _, hz⟩
      · have hk : k = .nil := kids0 (by have := h.wf.1; omega)
        subst hk; simpa [Fo.height] using hpos
      · have hk : k = .nil := kids0 (by have := h.wf.1; omega)
        subst hk; simpa [Fo.height] using hpos
      · have hk : k = .nil := kids0 (by have := h.wf.1; omega)
        subst hk; simpa [Fo.height] using hpos
      · have hl := h.wf.1
        rcases h1 with h1 | h1
        · rw [tk_seq h1]
          have := seqT_ge k
          omega
        · obtain ⟨y, j, r2, rfl⟩ : ∃ y j r2, k = Fo.cons y j r2 := by
            cases k with
            | nil => simp [Fo.len] at hl; omega
            | cons y j r2 => exact ⟨y, j, r2, rfl⟩
          rw [tk_alt h1, List.length_append]
          have h2 := brk_ge 5 y.k (tkN y j.tk)
          have h3 := altT_ge r2
          have h4 : tkSum (.cons y j r2) = (tkN y j.tk).length + tkSum r2 := by simp [tkSum, Fo.tk]
          have h5 : (uT 5 (y.k, tkN y j.tk)).length = (brkK 5 y.k (tkN y j.tk)).length := rfl
          omega
      · have hl := h.wf.1
        obtain ⟨y, j, rfl⟩ := len_one k (by omega)
        obtain ⟨kk, t, e2, _⟩ := suf_sign h1
        rw [tkR_suf h1, e2, List.length_append]
        have h2 := brk_ge x.k y.k (tkN y j.tk)
        have h4 : tkSum (.cons y j .nil) = (tkN y j.tk).length := by simp [tkSum, Fo.tk]
        have h5 : (uT x.k (y.k, tkN y j.tk)).length = (brkK x.k y.k (tkN y j.tk)).length := rfl
        simp only [List.length_cons, List.length_nil]
        omega
    rw [e]
    simp only [Fo.height, Fo.len]
    omega
theorem parsed_print {x : Nd} {k : Fo} (hg : GoodF (.cons x k .nil)) : parsed (txN x k.tx) = ⟨true, .cons x k .nil, (cut (txN x k.tx) 0).1.length⟩ := by
  obtain ⟨h1, _⟩ := cut_text x k hg.wf hg.all
  obtain ⟨h2, h3⟩ := HasT.of_map h1
  have hh := (height_tk _ hg).1
  have e : tkSum (.cons x k .nil) = (tkN x k.tk).length := by simp [tkSum, Fo.tk]
  simp only [Fo.height, Fo.len] at hh
  unfold parsed
  rw [expr_all _ _ x k 0 hg (by omega) h2 (by rw [kd_none (by omega)]; exact ⟨by decide, by decide, by decide⟩)]
  simp only [PR.mk.injEq, true_and]
  omega
theorem parse_print {N : List Nd} {x : Nd} {k : Fo} (hG : GoodT N x k) (hb : boundsF x k = 0) : parseS (txN x k.tx) = (N, 0, 0) := by
  have hg : GoodF (.cons x k .nil) := ⟨hG.wf, hG.all⟩
  have hp := parsed_print hg
  obtain ⟨_, hc⟩ := cut_text x k hG.wf hG.all
  have hsz : (txN x k.tx).size ≤ 2048 := by
    unfold boundsF at hb
    split at hb
    · omega
    · split at hb
      · omega
      · omega
  have hr : readS (txN x k.tx) = (N, 0, 0) := by
    unfold readS
    rw [if_neg (by omega), hp, if_pos ⟨rfl, rfl, hc⟩, hG.flat]
  have hl : longN N = false := by
    unfold longN
    rw [List.any_eq_false]
    intro y hy
    rw [hG.flat] at hy
    have := ((Fo.all_flat _).1 hG.all y hy).size
    simp; omega
  unfold parseS
  rw [hr, hp, if_neg (by simp), if_neg (by rw [hl]; simp)]
  exact if_neg (fun h => h hb)
/-! ### plain: a tree's text has no fewer bytes than the tree has nodes -/
def txSum (f : Fo) : Nat := (f.tx.map fun p => p.2.size).sum
theorem brkS_ge (pk k : Int) (t : ByteArray) : t.size ≤ (brk pk k t).size := by
  unfold brk; split
  · rw [ByteArray.size_append, ByteArray.size_append]; omega
  · exact Nat.le_refl _
theorem joinS_ge (sep : ByteArray) (l : List ByteArray) : (l.map (·.size)).sum + (l.length - 1) * sep.size ≤ (joinS sep l).size := by
  have e : (joinS sep l).size = (Lib.join (l.map (·.data.toList)) sep.data.toList).length := by unfold joinS; simp [ByteArray.size]
  rw [e]
  cases l with
  | nil => simp [Lib.join_nil]
  | cons a r =>
    have key : ∀ r : List ByteArray, (Lib.joinTail sep.data.toList (r.map (·.data.toList))).length = (r.map (·.size)).sum + r.length * sep.size := by
      intro r
      induction r with
      | nil => simp [Lib.joinTail]
      | cons y r ih =>
        have h1 : y.data.toList.length = y.size := by rw [Array.length_toList]; rfl
        have h2 : sep.data.toList.length = sep.size := by rw [Array.length_toList]; rfl
        simp only [Lib.joinTail, List.map_cons, List.flatten_cons, List.length_append, List.sum_cons, List.length_cons] at ih ⊢
        rw [ih, h1, h2, Nat.succ_mul]
        omega
    have e9 : Lib.join ((a :: r).map (·.data.toList)) sep.data.toList = a.data.toList ++ Lib.joinTail sep.data.toList (r.map (·.data.toList)) := by rw [List.map_cons, Lib.join_cons]
    rw [e9, List.length_append, key]
    have h1 : a.data.toList.length = a.size := by rw [Array.length_toList]; rfl
    simp only [List.map_cons, List.sum_cons, List.length_cons]
    rw [h1]
    have : r.length + 1 - 1 = r.length := by omega
    rw [this]
    omega
theorem size_tx (f : Fo) : GoodF f → f.size ≤ txSum f := by
  induction f with
  | nil => intro _; exact Nat.le_refl _
  | cons x k r ih1 ih2 =>
    intro h
    have a1 := ih1 h.kid
    have b1 := ih2 h.rest
    have e : txSum (.cons x k r) = (txN x k.tx).size + txSum r := by simp [txSum, Fo.tx]
    have hbs : txSum k ≤ ((k.tx.map fun p => brk x.k p.1 p.2).map (·.size)).sum := by
      unfold txSum
      rw [List.map_map]
      generalize k.tx = l
      induction l with
      | nil => simp
      | cons p l ih =>
        have := brkS_ge x.k p.1 p.2
        simp only [List.map_cons, List.sum_cons, Function.comp] at ih ⊢
        omega
    have key : k.size + 1 ≤ (txN x k.tx).size := by
      rcases h.all.1 with ⟨h1, _, hz⟩ | ⟨h1, hz, hn⟩ | ⟨h1, hz, hn⟩ | ⟨h1, _, hz⟩ | ⟨h1, _, hz⟩
      · have hk : k = .nil := kids0 (by have := h.wf.1; omega)
        subst hk; unfold txN; rw [if_pos h1]; decide
      · have hk : k = .nil := kids0 (by have := h.wf.1; omega)
        subst hk; unfold txN; rw [if_neg (by omega), if_pos (Or.inl h1)]; have := hn.1; simp only [Fo.size]; omega
      · have hk : k = .nil := kids0 (by have := h.wf.1; omega)
        subst hk; unfold txN; rw [if_neg (by omega), if_pos (Or.inr h1)]; have := hn.1; simp only [Fo.size]; omega
      · have hl := h.wf.1
        unfold txN
        rw [if_neg (by omega), if_neg (by omega), ByteArray.size_append]
        have hj := joinS_ge (sepK x.k) (k.tx.map fun p => brk x.k p.1 p.2)
        have hs : 1 ≤ (sepK x.k).size := by
          rcases h1 with h1 | h1 <;> rw [h1] <;> decide
        rw [List.length_map, Fo.tx_len] at hj
        have hm : 1 * 1 ≤ (k.len - 1) * (sepK x.k).size := Nat.mul_le_mul (by omega) hs
        omega
      · have hl := h.wf.1
        unfold txN
        rw [if_neg (by omega), if_neg (by omega), ByteArray.size_append]
        have hj := joinS_ge (sepK x.k) (k.tx.map fun p => brk x.k p.1 p.2)
        have hs : 1 ≤ (signK x.k).size := by
          rcases h1 with h1 | h1 | h1 <;> rw [h1] <;> decide
        omega
    rw [e]
    simp only [Fo.size]
    omega
theorem parse_ok (s : ByteArray) (h : (parseS s).2.2 = 0) : ∃ x k, GoodT (parseS s).1 x k ∧ boundsF x k = 0 ∧ (parseS s).2.1 = 0 ∧ (parseS s).1.length ≤ 2048 := by
  by_cases h0 : (readS s).2.2 = 0
  · obtain ⟨x, k, hG⟩ := read_tree s h0
    have hP : parseS s = if longN (Fo.cons x k .nil).flat = true then ([], 0, 173) else if boundsF x k ≠ 0 then ([], 0, boundsF x k) else ((Fo.cons x k .nil).flat, 0, 0) := by
      unfold parseS; rw [if_neg (by rw [h0]; simp), hG.l, hG.f]; rfl
    by_cases hn : longN (Fo.cons x k .nil).flat = true
    · rw [hP, if_pos hn] at h; cases h
    · by_cases hb : boundsF x k = 0
      · have hP2 : parseS s = ((Fo.cons x k .nil).flat, 0, 0) := by rw [hP, if_neg hn, if_neg (by rw [hb]; simp)]
        have hall := hG.may (by simpa using hn)
        have hgf : GoodF (.cons x k .nil) := ⟨hG.wf, hall⟩
        refine ⟨x, k, by rw [hP2]; exact ⟨rfl, hG.wf, hall⟩, hb, by rw [hP2], ?_⟩
        rw [hP2]
        have := size_tx _ hgf
        have e : txSum (.cons x k .nil) = (txN x k.tx).size := by simp [txSum, Fo.tx]
        have hsz : (txN x k.tx).size ≤ 2048 := by
          unfold boundsF at hb
          split at hb
          · omega
          · split at hb
            · omega
            · omega
        show (Fo.cons x k .nil).flat.length ≤ 2048
        rw [Fo.flat_len]; omega
      · rw [hP, if_neg hn, if_pos hb] at h; exact absurd h hb
  · unfold parseS at h; rw [if_pos h0] at h; exact absurd h h0
end Go.Proofs.YtkmjmfcanlknjaaGreat
namespace Go.Proofs.YtkmjmfcanlknjaaGreat
open Go.RowKit

/-! ### plain: grammars -/
instance baLawful : LawfulBEq ByteArray where
  eq_of_beq {a b} h := by
    have h2 : (a.data == b.data) = true := h
    exact ByteArray.ext (eq_of_beq h2)
  rfl {a} := by
    show (a.data == a.data) = true
    exact beq_self_eq_true _
structure Ru where
  h : ByteArray
  b : List Nd
  deriving DecidableEq
def bl (s : ByteArray) : List UInt8 := s.data.toList
theorem bl_inj {a b : ByteArray} (h : bl a = bl b) : a = b := by
  apply ByteArray.ext; exact Array.toList_inj.1 h
/-! heads -/
def headsF : List Ru → List ByteArray → List ByteArray
  | [], acc => acc
  | r :: G, acc => headsF G (if r.h ∈ acc then acc else acc ++ [r.h])
def heads (G : List Ru) : List ByteArray := headsF G []
theorem headsF_snoc (G : List Ru) (r : Ru) : ∀ acc, headsF (G ++ [r]) acc = if r.h ∈ headsF G acc then headsF G acc else headsF G acc ++ [r.h] := by
  induction G with
  | nil => intro acc; rfl
  | cons x G ih => intro acc; exact ih _
theorem heads_snoc (G : List Ru) (r : Ru) : heads (G ++ [r]) = if r.h ∈ heads G then heads G else heads G ++ [r.h] := headsF_snoc G r []
theorem headsF_len (G : List Ru) : ∀ acc, (headsF G acc).length ≤ acc.length + G.length := by
  induction G with
  | nil => intro acc; simp [headsF]
  | cons x G ih =>
    intro acc
    have := ih (if x.h ∈ acc then acc else acc ++ [x.h])
    unfold headsF
    split at this
    · rename_i hc
      rw [if_pos hc]; simp; omega
    · rename_i hc
      rw [if_neg hc]; simp at this ⊢; omega
theorem heads_len (G : List Ru) : (heads G).length ≤ G.length := by have := headsF_len G []; simpa [heads] using this
theorem headsF_mem (G : List Ru) (s : ByteArray) : ∀ acc, s ∈ headsF G acc ↔ s ∈ acc ∨ ∃ r ∈ G, r.h = s := by
  induction G with
  | nil => intro acc; simp [headsF]
  | cons x G ih =>
    intro acc
    unfold headsF
    rw [ih]
    by_cases hc : x.h ∈ acc
    · rw [if_pos hc]
      have hm := hc
      constructor
      · rintro (h | ⟨r, h, e⟩)
        · exact .inl h
        · exact .inr ⟨r, .tail _ h, e⟩
      · rintro (h | ⟨r, h, e⟩)
        · exact .inl h
        · rcases List.mem_cons.1 h with rfl | h
          · exact .inl (e ▸ hm)
          · exact .inr ⟨r, h, e⟩
    · rw [if_neg hc]
      simp only [List.mem_append, List.mem_cons, List.not_mem_nil, or_false]
      constructor
      · rintro ((h | h) | ⟨r, h, e⟩)
        · exact .inl h
        · exact .inr ⟨x, .inl rfl, h.symm⟩
        · exact .inr ⟨r, .inr h, e⟩
      · rintro (h | ⟨r, rfl | h, e⟩)
        · exact .inl (.inl h)
        · exact .inl (.inr e.symm)
        · exact .inr ⟨r, h, e⟩
theorem heads_mem (G : List Ru) (s : ByteArray) : s ∈ heads G ↔ ∃ r ∈ G, r.h = s := by
  unfold heads; rw [headsF_mem]; simp
/-! names -/
def namesF (k : Int) (l : List Nd) : List ByteArray := (l.filter fun x => decide (x.k = k)).map (·.n)
def namesK (k : Int) (G : List Ru) : List ByteArray := G.flatMap fun r => namesF k r.b
def insS (s : ByteArray) : List ByteArray → List ByteArray
  | [] => [s]
  | x :: l => if bl x < bl s then x :: insS s l else if bl s < bl x then s :: x :: l else x :: l
def usedL (l : List ByteArray) : List ByteArray := l.foldl (fun l s => insS s l) []
def used (k : Int) (G : List Ru) : List ByteArray := usedL (namesK k G)
abbrev Rise (l : List ByteArray) : Prop := l.Pairwise fun a b => bl a < bl b
theorem ins_mem (s x : ByteArray) : ∀ l, x ∈ insS s l ↔ x = s ∨ x ∈ l
  | [] => by simp [insS]
  | y :: l => by
    unfold insS
    split
    · rw [List.mem_cons, ins_mem s x l, List.mem_cons]
      constructor
      · rintro (h | h | h)
        · exact .inr (.inl h)
        · exact .inl h
        · exact .inr (.inr h)
      · rintro (h | h | h)
        · exact .inr (.inl h)
        · exact .inl h
        · exact .inr (.inr h)
    · split
      · simp
      · rename_i h1 h2
        have e : s = y := bl_inj (List.le_antisymm (List.not_lt.1 h1) (List.not_lt.1 h2))
        subst e
        simp
theorem ins_rise (s : ByteArray) : ∀ l, Rise l → Rise (insS s l)
  | [], _ => by simp [insS, Rise]
  | y :: l, h => by
    have h1 := (List.pairwise_cons.1 h).1
    have h2 := (List.pairwise_cons.1 h).2
    unfold insS
    split
    · rename_i hlt
      refine List.pairwise_cons.2 ⟨fun x hx => ?_, ins_rise s l h2⟩
      rcases (ins_mem s x l).1 hx with rfl | hx
      · exact hlt
      · exact h1 x hx
    · split
      · rename_i hlt
        refine List.pairwise_cons.2 ⟨fun x hx => ?_, h⟩
        rcases List.mem_cons.1 hx with rfl | hx
        · exact hlt
        · exact List.lt_trans hlt (h1 x hx)
      · exact h
theorem usedL_foldl (l : List ByteArray) : ∀ acc, Rise acc → Rise (l.foldl (fun l s => insS s l) acc) ∧ ∀ x, x ∈ l.foldl (fun l s => insS s l) acc ↔ x ∈ acc ∨ x ∈ l := by
  induction l with
  | nil => intro acc h; exact ⟨h, fun x => by simp⟩
  | cons y l ih =>
    intro acc h
    obtain ⟨h1, h2⟩ := ih _ (ins_rise y acc h)
    refine ⟨h1, fun x => ?_⟩
    rw [List.foldl_cons, h2, ins_mem, List.mem_cons]
    constructor
    · rintro ((h | h) | h)
      · exact .inr (.inl h)
      · exact .inl h
      · exact .inr (.inr h)
    · rintro (h | h | h)
      · exact .inl (.inr h)
      · exact .inl (.inl h)
      · exact .inr h
theorem usedL_rise (l : List ByteArray) : Rise (usedL l) := (usedL_foldl l [] List.Pairwise.nil).1
theorem usedL_mem (l : List ByteArray) (x : ByteArray) : x ∈ usedL l ↔ x ∈ l := by
  have := (usedL_foldl l [] List.Pairwise.nil).2 x
  simpa [usedL] using this
theorem usedL_snoc (l : List ByteArray) (s : ByteArray) : usedL (l ++ [s]) = insS s (usedL l) := by unfold usedL; rw [List.foldl_append]; rfl
theorem ins_len (s : ByteArray) : ∀ l, (insS s l).length ≤ l.length + 1
  | [] => by simp [insS]
  | y :: l => by
    have := ins_len s l
    unfold insS
    split
    · simp; omega
    · split <;> simp
theorem usedL_len (l : List ByteArray) : (usedL l).length ≤ l.length := by
  have key : ∀ (l acc : List ByteArray), (l.foldl (fun l s => insS s l) acc).length ≤ acc.length + l.length := by
    intro l
    induction l with
    | nil => intro acc; simp
    | cons y l ih => intro acc; have h1 := ih (insS y acc); have h2 := ins_len y acc; simp only [List.foldl_cons, List.length_cons]; omega
  have := key l []
  simpa [usedL] using this
theorem namesF_len (k : Int) (l : List Nd) : (namesF k l).length ≤ l.length := by
  unfold namesF; rw [List.length_map]; exact List.length_filter_le _ _
def nodesG (G : List Ru) : Nat := (G.map fun r => r.b.length).sum
theorem namesK_len (k : Int) (G : List Ru) : (namesK k G).length ≤ nodesG G := by
  unfold namesK nodesG
  rw [List.length_flatMap]
  induction G with
  | nil => simp
  | cons r G ih => have := namesF_len k r.b; simp only [List.map_cons, List.sum_cons]; omega
theorem rise_nodup {l : List ByteArray} (h : Rise l) : (l.map bl).Nodup := by
  refine List.pairwise_map.2 (h.imp fun {a b} hab e => ?_)
  rw [e] at hab
  exact List.lt_irrefl _ hab
theorem rise_sort {l : List ByteArray} (h : Rise l) : (l.map bl).mergeSort leB = l.map bl :=
  List.mergeSort_of_pairwise (List.pairwise_map.2 (h.imp fun {a b} hab => by simp only [leB, decide_eq_true_eq]; exact List.le_of_lt hab))
/-- what a map that has just these names as keys sorts to -/
theorem sort_used {ss : List (List UInt8)} {l : List ByteArray} (hr : Rise l) (h : ss.Perm (l.map bl)) : ss.mergeSort leB = l.map bl := by
  rw [mergeSort_of_perm h, rise_sort hr]
def missing (G : List Ru) : Nat := ((used 2 G).filter fun s => decide (s ∉ heads G)).length
def occG (G : List Ru) : Nat := (G.map fun r => (nmF r.b 0).length).sum
theorem occG_len (G : List Ru) : occG G ≤ nodesG G := by
  unfold occG nodesG
  induction G with
  | nil => simp
  | cons r G ih => have := nmF_len r.b 0; simp only [List.map_cons, List.sum_cons]; omega
/-! bodies -/
theorem good_ex (N : List Nd) : ∃ p : Nd × Fo, treeB N = true → GoodT N p.1 p.2 := by
  cases h : treeB N with
  | false => exact ⟨(⟨0, ⟨#[]⟩, 0⟩, .nil), fun h => by cases h⟩
  | true => obtain ⟨x, k, h1, h2, h3⟩ := tree_sound h; exact ⟨(x, k), fun _ => ⟨h1, h2, h3⟩⟩
noncomputable def pickT (N : List Nd) : Nd × Fo := (good_ex N).choose
theorem pickT_good {N : List Nd} (h : treeB N = true) : GoodT N (pickT N).1 (pickT N).2 := (good_ex N).choose_spec h
theorem good_unique {N : List Nd} {x y : Nd} {k j : Fo} (h : GoodT N x k) (h2 : GoodT N y j) : x = y ∧ k = j := by
  have := Fo.flat_inj (.cons x k .nil) (.cons y j .nil) [] [] h.wf h2.wf rfl (by rw [List.append_nil, List.append_nil, ← h.flat, ← h2.flat])
  have := this.1
  simp only [Fo.cons.injEq] at this
  exact ⟨this.1, this.2.1⟩
theorem pickT_eq {N : List Nd} {x : Nd} {k : Fo} (h : GoodT N x k) : pickT N = (x, k) := by
  obtain ⟨h1, h2⟩ := good_unique (pickT_good h.tree) h
  exact Prod.ext h1 h2
noncomputable def textN (N : List Nd) : ByteArray := txN (pickT N).1 (pickT N).2.tx
noncomputable def heightN (N : List Nd) : Nat := (pickT N).2.height + 1
theorem textN_eq {N : List Nd} {x : Nd} {k : Fo} (h : GoodT N x k) : textN N = txN x k.tx := by unfold textN; rw [pickT_eq h]
theorem heightN_eq {N : List Nd} {x : Nd} {k : Fo} (h : GoodT N x k) : heightN N = k.height + 1 := by unfold heightN; rw [pickT_eq h]
noncomputable def textR (r : Ru) : ByteArray := r.h ++ (⟨#[32, 61, 32]⟩ : ByteArray) ++ textN r.b ++ (⟨#[32, 59, 10]⟩ : ByteArray)
noncomputable def textGF : List Ru → ByteArray → ByteArray
  | [], acc => acc
  | r :: G, acc => textGF G (acc ++ textR r)
noncomputable def textG (G : List Ru) : ByteArray := textGF G ⟨#[]⟩
theorem textGF_snoc (G : List Ru) (r : Ru) : ∀ acc, textGF (G ++ [r]) acc = textGF G acc ++ textR r := by
  induction G with
  | nil => intro acc; rfl
  | cons x G ih => intro acc; exact ih _
theorem textG_snoc (G : List Ru) (r : Ru) : textG (G ++ [r]) = textG G ++ textR r := textGF_snoc G r _
theorem textGF_app (G : List Ru) : ∀ acc, textGF G acc = acc ++ textG G := by
  induction G with
  | nil => intro acc; exact (app_nil acc).symm
  | cons x G ih =>
    intro acc
    show textGF G (acc ++ textR x) = acc ++ textGF G ((⟨#[]⟩ : ByteArray) ++ textR x)
    rw [ih, ih ((⟨#[]⟩ : ByteArray) ++ textR x)]
    have e : (⟨#[]⟩ : ByteArray) ++ textR x = textR x := by apply ByteArray.ext; simp [ByteArray.data_append]
    rw [e, ByteArray.append_assoc]
theorem textG_cons (r : Ru) (G : List Ru) : textG (r :: G) = textR r ++ textG G := by
  show textGF G ((⟨#[]⟩ : ByteArray) ++ textR r) = _
  have e : (⟨#[]⟩ : ByteArray) ++ textR r = textR r := by apply ByteArray.ext; simp [ByteArray.data_append]
  rw [textGF_app, e]
theorem textG_app (G H : List Ru) : textG (G ++ H) = textG G ++ textG H := by
  induction G with
  | nil => 
    have e : ∀ t : ByteArray, (⟨#[]⟩ : ByteArray) ++ t = t := by intro t; apply ByteArray.ext; simp [ByteArray.data_append]
    exact (e _).symm
  | cons r G ih => rw [List.cons_append, textG_cons, textG_cons, ih, ByteArray.append_assoc]
/-! what Check answers -/
def treesB (G : List Ru) : Bool := G.all fun r => nameB r.h 1 && treeB r.b
noncomputable def deepB (G : List Ru) : Bool := G.any fun r => decide (16 < heightN r.b)
noncomputable def checkG (G : List Ru) : Int :=
  if G.length < 1 ∨ 64 < G.length then 180
  else if treesB G = false then 170
  else if 16 < (heads G).length + missing G then 181
  else if 16 < (used 3 G).length then 182
  else if 64 < occG G then 183
  else if deepB G = true then 171
  else if 0 < missing G then 184
  else if 2048 < (textG G).size then 174
  else 0
/-! ### grammars in memory -/
def flatP (P : List (Ru × Value)) : List Value := P.flatMap fun p => [.string p.1.h, p.2]
theorem flatP_len (P : List (Ru × Value)) : (flatP P).length = P.length * 2 := by
  induction P with
  | nil => rfl
  | cons p P ih => simp only [flatP, List.flatMap_cons, List.length_append, List.length_cons, List.length_nil] at ih ⊢; omega
theorem flatP_at (P : List (Ru × Value)) : ∀ (i : Nat) (p : Ru × Value), P[i]? = some p → (flatP P)[i * 2]? = some (.string p.1.h) ∧ (flatP P)[i * 2 + 1]? = some p.2 := by
  induction P with
  | nil => intro i p h; simp at h
  | cons q P ih =>
    intro i p h
    have e : flatP (q :: P) = .string q.1.h :: q.2 :: flatP P := rfl
    cases i with
    | zero => simp at h; subst h; rw [e]; exact ⟨rfl, rfl⟩
    | succ i =>
      have h2 := ih i p (by simpa using h)
      rw [e, show (i + 1) * 2 = i * 2 + 1 + 1 from by omega]
      simpa using h2
theorem flatP_snoc (P : List (Ru × Value)) (p : Ru × Value) : flatP (P ++ [p]) = flatP P ++ [.string p.1.h, p.2] := by simp [flatP]
/-- the bodies read -/
def Bods (w : World) (P : List (Ru × Value)) : Prop := ∀ p ∈ P, RdNd w p.2 p.1.b
theorem Bods.below {w w' : World} {P : List (Ru × Value)} (h : Bods w P) (hb : Below w.heap.size w w') : Bods w' P := fun p hp => (h p hp).below hb
/-- the slice reads as these rules, their bodies at these values -/
structure RdP (w : World) (v : Value) (P : List (Ru × Value)) : Prop where
  row : Rd w v P.length 2 (flatP P)
  bods : Bods w P
theorem RdP.below {w w' : World} {v : Value} {P : List (Ru × Value)} (h : RdP w v P) (hb : Below w.heap.size w w') : RdP w' v P := ⟨h.row.below hb, h.bods.below hb⟩
def RdRu (w : World) (v : Value) (G : List Ru) : Prop := ∃ P : List (Ru × Value), P.map (·.1) = G ∧ RdP w v P
theorem RdRu.below {w w' : World} {v : Value} {G : List Ru} (h : RdRu w v G) (hb : Below w.heap.size w w') : RdRu w' v G := by
  obtain ⟨P, h1, h2⟩ := h; exact ⟨P, h1, h2.below hb⟩
theorem RdP.at {w : World} {v : Value} {P : List (Ru × Value)} (h : RdP w v P) {i : Nat} {p : Ru × Value} (hp : P[i]? = some p) :
    ∃ b off cap, v = .slice (some ⟨b, off, none⟩) P.length cap ∧ b < w.heap.size ∧ P.length ≤ cap ∧
      w.cell? ⟨b, off + i * 2, none⟩ = some (.string p.1.h) ∧ w.cell? ⟨b, off + i * 2 + 1, none⟩ = some p.2 ∧ RdNd w p.2 p.1.b := by
  have hi : i < P.length := (List.getElem?_eq_some_iff.1 hp).1
  obtain ⟨b, off, cap, h1, h2, h3, h4⟩ := Rd.at h.row hi
  obtain ⟨q0, q1⟩ := flatP_at P i p hp
  exact ⟨b, off, cap, h1, h2, h3, h4 _ _ q0, h4 _ _ q1, h.bods p (List.mem_of_getElem? hp)⟩
end Go.Proofs.YtkmjmfcanlknjaaGreat
namespace Go.Proofs.YtkmjmfcanlknjaaGreat
open Go.RowKit Go.Maps

/-! ### the bounds under which grammars are read -/
structure LimG (G : List Ru) : Prop where
  len : G.length ≤ 4398046511104
  nodes : nodesG G ≤ 4398046511104
  head : ∀ r ∈ G, r.h.size ≤ 140737488355328
  name : ∀ r ∈ G, ∀ x ∈ r.b, x.n.size ≤ 140737488355328
theorem nodesG_take (G : List Ru) {j : Nat} {r : Ru} (h : G[j]? = some r) : G.take (j + 1) = G.take j ++ [r] ∧ nodesG (G.take (j + 1)) = nodesG (G.take j) + r.b.length := by
  obtain ⟨h1, h2⟩ := List.getElem?_eq_some_iff.1 h
  have e : G.take (j + 1) = G.take j ++ [r] := by rw [List.take_succ_eq_append_getElem h1, h2]
  refine ⟨e, ?_⟩
  rw [e]; simp [nodesG]
theorem nodesG_le (G : List Ru) (j : Nat) : nodesG (G.take j) ≤ nodesG G := by
  have e : nodesG G = nodesG (G.take j) + nodesG (G.drop j) := by
    conv => lhs; rw [← List.take_append_drop j G]
    unfold nodesG; rw [List.map_append, List.sum_append]
  omega
theorem body_le {G : List Ru} {r : Ru} (h : r ∈ G) : r.b.length ≤ nodesG G := by
  induction G with
  | nil => cases h
  | cons x G ih =>
    have e : nodesG (x :: G) = x.b.length + nodesG G := by simp [nodesG]
    rcases List.mem_cons.1 h with rfl | h
    · omega
    · have := ih h; omega
theorem namesK_take (k : Int) (G : List Ru) {j : Nat} {r : Ru} (h : G[j]? = some r) : namesK k (G.take (j + 1)) = namesK k (G.take j) ++ namesF k r.b := by
  rw [(nodesG_take G h).1]; simp [namesK]
theorem namesF_take (k : Int) (l : List Nd) {q : Nat} {x : Nd} (h : l[q]? = some x) : namesF k (l.take (q + 1)) = namesF k (l.take q) ++ (if x.k = k then [x.n] else []) := by
  obtain ⟨h1, h2⟩ := List.getElem?_eq_some_iff.1 h
  rw [List.take_succ_eq_append_getElem h1, h2]
  unfold namesF
  by_cases hk : x.k = k <;> simp [hk]
/-! ### a map of names -/
theorem keyS : Keyed Tryz.prog 9 := string_keyed Tryz.underlying9
theorem zeroI (w : World) : (zeroValue 3).run Tryz.prog w = .ok (.int .i64 0) w := by kernel_rfl
/-- the map in block b has just these names as keys -/
def HasN (w : World) (b n : Nat) (l : List ByteArray) : Prop :=
  ∃ D : DataW Unit, w.ownsMap Tryz.prog 9 (plainElem Tryz.prog 3) b n D ∧ ∀ x : List UInt8, Maps.has D (.string x) = decide (x ∈ l.map bl)
theorem has_put (D : DataW Unit) (hD : IsMap D) (x y : List UInt8) (d : DataW Unit) : Maps.has (D.put (.string x) d) (.string y) = (decide (y = x) || Maps.has D (.string y)) := by
  by_cases h : y = x
  · subst h; rw [has_put_same hD (by simp [WideAt.IsKeyLit])]; simp
  · rw [has_put_other (by simpa using h)]; simp [h]
theorem mem_snocB (l : List ByteArray) (n : ByteArray) (y : List UInt8) : (decide (y = bl n) || decide (y ∈ l.map bl)) = decide (y ∈ (l ++ [n]).map bl) := by
  rw [Bool.eq_iff_iff]
  simp only [Bool.or_eq_true, decide_eq_true_eq, List.map_append, List.mem_append, List.map_cons, List.map_nil, List.mem_singleton]
  exact Or.comm
theorem HasN.made (w : World) : HasN (w.alloc (.map #[] 0)) w.heap.size 0 [] := ⟨.map [], World.ownsMap_made _ _ _ _, fun x => by simp [Maps.has]⟩

set_option maxRecDepth 100000 in
set_option maxHeartbeats 3200000 in
theorem xNames_any (v : Value) (G : List Ru) (k : Int) (w : World) (h : RdRu w v G) (hl : LimG G) :
    Calls Tryz.prog 48 #[v, .int .i64 k] w fun e w' => ∃ b, e = .returned (.map (some b)) ∧ w.heap.size ≤ b ∧ HasN w' b (nodesG G) (namesK k G) ∧ Below w.heap.size w w' := by
  obtain ⟨P, rfl, hR⟩ := h
  have HR := Lib.hid hR
  have HL := Lib.hid hl
  obtain ⟨⟨_, ao, cap, rfl, -⟩, -⟩ := hR
  have hmm := @run_makeMap Tryz.prog
  have hpl : P.length ≤ 4398046511104 := by have := hl.len; rwa [List.length_map] at this
  clear hl
  go_enter Tryz.func48, Tryz.ntmps48
  go_wp2_with fail
  go_loopw [13] (fun i wr => ∃ j : Nat, i = .int .i64 j ∧ j ≤ P.length ∧ Hid (HasN wr w.heap.size (nodesG ((P.map (·.1)).take j)) (namesK k ((P.map (·.1)).take j))) ∧ Hid (Below w.heap.size w wr) ∧ w.heap.size < wr.heap.size) (fun i _ => P.length - (intOf i).toNat)
  case atStart => exact ⟨0, rfl, by omega, HasN.made w, below1 _ _, by simp⟩
  case round =>
    obtain ⟨j, rfl, hj, HM, HBel, hws⟩ := hrel
    by_cases hlt : j < P.length
    · obtain ⟨p, hp⟩ : ∃ p, P[j]? = some p := ⟨_, List.getElem?_eq_getElem hlt⟩
      obtain ⟨b, off, cp, e1, hb, hc, x0, x1, hrd⟩ := RdP.at HR.out hp
      simp only [Value.slice.injEq] at e1
      obtain ⟨rfl, -, rfl⟩ := e1
      have X0 := (HBel.out.cell (p := ⟨b, _, none⟩) hb).trans x0
      have X1 := (HBel.out.cell (p := ⟨b, _, none⟩) hb).trans x1
      have hbw : b < wr.heap.size := by omega
      have hgp : (P.map (·.1))[j]? = some p.1 := by rw [List.getElem?_map, hp]; rfl
      have HGP := Lib.hid hgp
      have HB := Lib.hid hrd
      obtain ⟨_, ao2, cp2, hv2, -⟩ := id hrd
      obtain ⟨⟨ph, pb⟩, pv⟩ := p
      simp only at hv2 X0 X1 HB hrd
      subst hv2
      clear x0 x1 hp hgp hrd
      go_wp2_with fail
      have hbl : pb.length ≤ 4398046511104 := Nat.le_trans (body_le (List.mem_of_getElem? HGP.out)) HL.out.nodes
      have HM1 : Hid (HasN (wr.alloc (.cells #[.string ph, .slice ao2 pb.length cp2] 47)) w.heap.size (nodesG ((P.map (·.1)).take j)) (namesK k ((P.map (·.1)).take j))) := by
        obtain ⟨D, h1, h2⟩ := HM.out; exact ⟨D, h1.alloc _, h2⟩
      have HB1 : Hid (Below w.heap.size w (wr.alloc (.cells #[.string ph, .slice ao2 pb.length cp2] 47))) := HBel.out.alloc (by omega) _
      have hws1 : w.heap.size < (wr.alloc (.cells #[.string ph, .slice ao2 pb.length cp2] 47)).heap.size := by simp; omega
      clear HM HBel X0 X1 hws
      generalize wr.alloc (.cells #[.string ph, .slice ao2 pb.length cp2] 47) = w2 at *
      go_loopw [20] (fun i wr => ∃ q : Nat, i = .int .i64 q ∧ q ≤ pb.length ∧ Hid (HasN wr w.heap.size (nodesG ((P.map (·.1)).take j) + q) (namesK k ((P.map (·.1)).take j) ++ namesF k (pb.take q))) ∧ Hid (Below w.heap.size w wr) ∧ w.heap.size < wr.heap.size) (fun i _ => pb.length - (intOf i).toNat)
      case atStart => exact ⟨0, rfl, by omega, by simpa [namesF] using HM1, HB1, hws1⟩
      case round =>
        obtain ⟨q, rfl, hq, HM, HBel, hws⟩ := hrel
        by_cases hlq : q < pb.length
        · obtain ⟨x, hx⟩ : ∃ x, pb[q]? = some x := ⟨_, List.getElem?_eq_getElem hlq⟩
          obtain ⟨b, off, cp, e1, hb, hc, x0, x1, x2⟩ := RdNd.at HB.out hx
          simp only [Value.slice.injEq] at e1
          obtain ⟨rfl, -, rfl⟩ := e1
          have X0 := (HBel.out.cell (p := ⟨b, _, none⟩) hb).trans x0
          have X1 := (HBel.out.cell (p := ⟨b, _, none⟩) hb).trans x1
          have X2 := (HBel.out.cell (p := ⟨b, _, none⟩) hb).trans x2
          have hbw : b < wr.heap.size := by omega
          have HX := Lib.hid hx
          clear x0 x1 x2 hx
          by_cases hk : x.k = k
          · have HK : Hid (namesF k (pb.take (q + 1)) = namesF k (pb.take q) ++ [x.n]) := by unfold Hid; rw [namesF_take k pb HX.out, if_pos hk]
            subst hk
            obtain ⟨D, hown0, hhas⟩ := HM.out
            have HH := Lib.hid hhas
            have hown := hown0.alloc (.cells #[.int .i64 x.k, .string x.n, .int .i64 x.c] 57)
            have HI := Lib.hid hown.isMap
            have hsz : x.n.size ≤ maxLen := by
              have := HL.out.name _ (List.mem_of_getElem? HGP.out) x (List.mem_of_getElem? HX.out)
              unfold maxLen; exact Nat.le_trans this (by omega)
            have hkey : keyOf Tryz.prog 9 (.string x.n) = some (.string (bl x.n)) := Go.WideMaps.keyOf_string_mk Tryz.underlying9 hsz
            have hnn : nodesG ((P.map (·.1)).take j) + q < maxLen := by
              have h1 := nodesG_le (P.map (·.1)) (j + 1)
              rw [(nodesG_take _ HGP.out).2] at h1
              have h2 := HL.out.nodes
              unfold maxLen; simp only at h1; omega
            have HN := Lib.hid hnn
            clear hown0 hhas hnn hsz
            go_wp2_with (first
              | (at_lookup; refine wpList_lookup_own_int _ rfl _ _ 82 rfl 9 3 .i64 keyS Tryz.underlying82 Tryz.underlying3 (zeroI _) w.heap.size _ _ rfl hown _ _ rfl hkey ?_; intro c hat hwc)
              | (at_mapUpdate; refine wpList_mapUpdate_own _ rfl _ _ _ 82 rfl 9 3 keyS Tryz.underlying82 _ w.heap.size _ _ rfl hown HN.out _ _ _ rfl rfl hkey _ [] (plainElem_int Tryz.underlying3 (wrap64_wf _)) ?_; intro w1 hown1 hgrow1)
              | fail)
            have HM2 : Hid (HasN w1 w.heap.size (nodesG ((P.map (·.1)).take j) + (q + 1)) (namesK x.k ((P.map (·.1)).take j) ++ namesF x.k (pb.take (q + 1)))) := by
              refine ⟨_, hown1, fun y => ?_⟩
              rw [has_put _ HI.out, HH.out, HK.out, ← List.append_assoc]
              exact mem_snocB _ _ _
            have HB2 : Hid (Below w.heap.size w w1) := (HBel.out.alloc (by omega) _).grown hgrow1 (by simp; omega) (fun j hj => by cases hj; exact Nat.le_refl _)
            have hws2 : w.heap.size < w1.heap.size := by have := hgrow1.size; simp at this; omega
            clear hown1 hgrow1
            go_roundw
            case rel => exact ⟨q + 1, by go_num, by omega, HM2.out, HB2.out, hws2⟩
            case measure => simp [intOf]; omega
          · have HK : Hid (namesF k (pb.take (q + 1)) = namesF k (pb.take q)) := by unfold Hid; rw [namesF_take k pb HX.out, if_neg hk]; simp
            have hk2 : (x.k == k) = false := by simpa using hk
            clear hk
            go_wp2_with fail
            have HM2 : Hid (HasN (wr.alloc (.cells #[.int .i64 x.k, .string x.n, .int .i64 x.c] 57)) w.heap.size (nodesG ((P.map (·.1)).take j) + (q + 1)) (namesK k ((P.map (·.1)).take j) ++ namesF k (pb.take (q + 1)))) := by
              obtain ⟨D, h1, h2⟩ := HM.out
              rw [HK.out]
              exact ⟨D, (h1.alloc _).mono (by omega), h2⟩
            have HB2 : Hid (Below w.heap.size w (wr.alloc (.cells #[.int .i64 x.k, .string x.n, .int .i64 x.c] 57))) := HBel.out.alloc (by omega) _
            go_roundw
            case rel => exact ⟨q + 1, by go_num, by omega, HM2.out, HB2.out, by simp; omega⟩
            case measure => simp [intOf]; omega
        · obtain rfl : q = pb.length := by omega
          go_wp2_with fail
          have HM2 : Hid (HasN wr w.heap.size (nodesG ((P.map (·.1)).take (j + 1))) (namesK k ((P.map (·.1)).take (j + 1)))) := by
            have := HM.out
            rw [List.take_of_length_le (Nat.le_refl _)] at this
            rw [(nodesG_take _ HGP.out).2, namesK_take k _ HGP.out]; exact this
          go_roundw
          case rel => exact ⟨j + 1, by go_num, by omega, HM2.out, HBel.out, hws⟩
          case measure => simp [intOf]; omega
    · obtain rfl : j = P.length := by omega
      go_wp2_with fail
      go_ret
      have := HM.out
      rw [List.take_of_length_le (by simp)] at this
      exact ⟨_, rfl, Nat.le_refl _, this, HBel.out⟩
end Go.Proofs.YtkmjmfcanlknjaaGreat
namespace Go.Proofs.YtkmjmfcanlknjaaGreat
open Go.Shelf
def keysL_ren : Go.Shelf.Ren := ⟨fun | 7 => 47 | 10 => 97 | n => n, fun | 23 => 82 | 26 => 9 | 3 => 3 | 28 => 80 | 0 => 0 | 27 => 79 | 33 => 34 | 4 => 4 | n => n, fun | n => n⟩
theorem keysL : Go.Proofs.SlLaysZ.n7 Tryz.prog keysL_ren := {
  mixed := by kernel_rfl
  f7 := ⟨Tryz.f47.name, by decide, Tryz.func47.trans (congrArg some (by kernel_rfl))⟩
  f10 := ⟨Tryz.f97.name, by decide, Tryz.func97.trans (congrArg some (by kernel_rfl))⟩
  t0 := Tryz.underlying0
  a0 := Tryz.isAgg0
  z0 := Tryz.sizeOf0
  v0 := Tryz.zeroValue0
  t4 := Tryz.underlying4
  a4 := Tryz.isAgg4
  z4 := Tryz.sizeOf4
  v4 := Tryz.zeroValue4
  t23 := Tryz.underlying82
  a23 := Tryz.isAgg82
  z23 := Tryz.sizeOf82
  v23 := Tryz.zeroValue82
  t26 := Tryz.underlying9
  a26 := Tryz.isAgg9
  z26 := Tryz.sizeOf9
  v26 := Tryz.zeroValue9
  t27 := Tryz.underlying79
  a27 := Tryz.isAgg79
  z27 := Tryz.sizeOf79
  v27 := Tryz.zeroValue79
  t28 := Tryz.underlying80
  a28 := Tryz.isAgg80
  z28 := Tryz.sizeOf80
  v28 := Tryz.zeroValue80
  t33 := Tryz.underlying34
  a33 := Tryz.isAgg34
  z33 := Tryz.sizeOf34
  v33 := Tryz.zeroValue34 }
def sortedL_ren : Go.Shelf.Ren := ⟨fun | 6 => 46 | 8 => 95 | 9 => 96 | 11 => 120 | 13 => 122 | 12 => 121 | 23 => 145 | 24 => 146 | 14 => 136 | 15 => 137 | 16 => 138 | 17 => 139 | 18 => 140 | 19 => 141 | 20 => 142 | 21 => 143 | 22 => 144 | 25 => 155 | 26 => 156 | 27 => 157 | 28 => 158 | 29 => 159 | 30 => 160 | 31 => 165 | n => n, fun | 26 => 9 | 28 => 80 | 24 => 40 | 0 => 0 | 3 => 3 | 37 => 152 | 48 => 175 | 50 => 177 | 4 => 4 | 40 => 168 | 39 => 167 | 45 => 172 | 5 => 5 | 9 => 9 | 51 => 183 | 55 => 187 | 57 => 191 | 58 => 192 | 33 => 34 | n => n, fun | n => n⟩
theorem sortedL : Go.Proofs.SlLaysZ.n6 Tryz.prog sortedL_ren := {
  mixed := by kernel_rfl
  f6 := ⟨Tryz.f46.name, by decide, Tryz.func46.trans (congrArg some (by kernel_rfl))⟩
  f8 := ⟨Tryz.f95.name, by decide, Tryz.func95.trans (congrArg some (by kernel_rfl))⟩
  f11 := ⟨Tryz.f120.name, by decide, Tryz.func120.trans (congrArg some (by kernel_rfl))⟩
  t0 := Tryz.underlying0
  a0 := Tryz.isAgg0
  z0 := Tryz.sizeOf0
  v0 := Tryz.zeroValue0
  t24 := Tryz.underlying40
  a24 := Tryz.isAgg40
  z24 := Tryz.sizeOf40
  v24 := Tryz.zeroValue40
  t26 := Tryz.underlying9
  a26 := Tryz.isAgg9
  z26 := Tryz.sizeOf9
  v26 := Tryz.zeroValue9
  t28 := Tryz.underlying80
  a28 := Tryz.isAgg80
  z28 := Tryz.sizeOf80
  v28 := Tryz.zeroValue80
  i26 := by kernel_rfl }
def sortL_ren : Go.Shelf.Ren := ⟨fun | 6 => 96 | 8 => 122 | 9 => 121 | 19 => 145 | 20 => 146 | 21 => 136 | 22 => 137 | 23 => 138 | 24 => 139 | 25 => 140 | 26 => 141 | 27 => 142 | 28 => 143 | 29 => 144 | 36 => 155 | 31 => 156 | 32 => 157 | 37 => 158 | 38 => 159 | 39 => 160 | 41 => 165 | n => n, fun | 27 => 40 | 29 => 9 | 3 => 3 | 32 => 152 | 26 => 40 | 0 => 0 | 44 => 175 | 46 => 177 | 4 => 4 | 36 => 168 | 35 => 167 | 41 => 172 | 5 => 5 | 9 => 9 | 53 => 183 | 57 => 187 | 63 => 191 | 64 => 192 | n => n, fun | n => n⟩
theorem sortL : Go.Proofs.SlLaysM.n6 Tryz.prog sortL_ren := {
  mixed := by kernel_rfl
  f6 := ⟨Tryz.f96.name, by decide, Tryz.func96.trans (congrArg some (by kernel_rfl))⟩
  f8 := Tryz.func122.trans (congrArg some (by kernel_rfl))
  f9 := ⟨Tryz.f121.name, by decide, Tryz.func121.trans (congrArg some (by kernel_rfl))⟩
  f19 := Tryz.func145.trans (congrArg some (by kernel_rfl))
  f20 := Tryz.func146.trans (congrArg some (by kernel_rfl))
  f21 := ⟨Tryz.f136.name, by decide, Tryz.func136.trans (congrArg some (by kernel_rfl))⟩
  f22 := ⟨Tryz.f137.name, by decide, Tryz.func137.trans (congrArg some (by kernel_rfl))⟩
  f23 := ⟨Tryz.f138.name, by decide, Tryz.func138.trans (congrArg some (by kernel_rfl))⟩
  f24 := ⟨Tryz.f139.name, by decide, Tryz.func139.trans (congrArg some (by kernel_rfl))⟩
  f25 := ⟨Tryz.f140.name, by decide, Tryz.func140.trans (congrArg some (by kernel_rfl))⟩
  f26 := ⟨Tryz.f141.name, by decide, Tryz.func141.trans (congrArg some (by kernel_rfl))⟩
  f27 := ⟨Tryz.f142.name, by decide, Tryz.func142.trans (congrArg some (by kernel_rfl))⟩
  f28 := ⟨Tryz.f143.name, by decide, Tryz.func143.trans (congrArg some (by kernel_rfl))⟩
  f29 := ⟨Tryz.f144.name, by decide, Tryz.func144.trans (congrArg some (by kernel_rfl))⟩
  f31 := Tryz.func156.trans (congrArg some (by kernel_rfl))
  f32 := Tryz.func157.trans (congrArg some (by kernel_rfl))
  f36 := ⟨Tryz.f155.name, by decide, Tryz.func155.trans (congrArg some (by kernel_rfl))⟩
  f37 := ⟨Tryz.f158.name, by decide, Tryz.func158.trans (congrArg some (by kernel_rfl))⟩
  f38 := ⟨Tryz.f159.name, by decide, Tryz.func159.trans (congrArg some (by kernel_rfl))⟩
  f39 := ⟨Tryz.f160.name, by decide, Tryz.func160.trans (congrArg some (by kernel_rfl))⟩
  f41 := ⟨Tryz.f165.name, by decide, Tryz.func165.trans (congrArg some (by kernel_rfl))⟩
  t0 := Tryz.underlying0
  a0 := Tryz.isAgg0
  z0 := Tryz.sizeOf0
  v0 := Tryz.zeroValue0
  t3 := Tryz.underlying3
  a3 := Tryz.isAgg3
  z3 := Tryz.sizeOf3
  v3 := Tryz.zeroValue3
  t4 := Tryz.underlying4
  a4 := Tryz.isAgg4
  z4 := Tryz.sizeOf4
  v4 := Tryz.zeroValue4
  t5 := Tryz.underlying5
  a5 := Tryz.isAgg5
  z5 := Tryz.sizeOf5
  v5 := Tryz.zeroValue5
  t9 := Tryz.underlying9
  a9 := Tryz.isAgg9
  z9 := Tryz.sizeOf9
  v9 := Tryz.zeroValue9
  t26 := Tryz.underlying40
  a26 := Tryz.isAgg40
  z26 := Tryz.sizeOf40
  v26 := Tryz.zeroValue40
  t27 := Tryz.underlying40
  a27 := Tryz.isAgg40
  z27 := Tryz.sizeOf40
  v27 := Tryz.zeroValue40
  t29 := Tryz.underlying9
  a29 := Tryz.isAgg9
  z29 := Tryz.sizeOf9
  v29 := Tryz.zeroValue9
  t32 := Tryz.underlying152
  a32 := Tryz.isAgg152
  z32 := Tryz.sizeOf152
  v32 := Tryz.zeroValue152
  t35 := Tryz.underlying167
  a35 := Tryz.isAgg167
  z35 := Tryz.sizeOf167
  v35 := Tryz.zeroValue167
  t36 := Tryz.underlying168
  a36 := Tryz.isAgg168
  z36 := Tryz.sizeOf168
  v36 := Tryz.zeroValue168
  t41 := Tryz.underlying172
  a41 := Tryz.isAgg172
  z41 := Tryz.sizeOf172
  v41 := Tryz.zeroValue172
  t44 := Tryz.underlying175
  a44 := Tryz.isAgg175
  z44 := Tryz.sizeOf175
  v44 := Tryz.zeroValue175
  t46 := Tryz.underlying177
  a46 := Tryz.isAgg177
  z46 := Tryz.sizeOf177
  v46 := Tryz.zeroValue177
  t53 := Tryz.underlying183
  a53 := Tryz.isAgg183
  z53 := Tryz.sizeOf183
  v53 := Tryz.zeroValue183
  t57 := Tryz.underlying187
  a57 := Tryz.isAgg187
  z57 := Tryz.sizeOf187
  v57 := Tryz.zeroValue187
  t63 := Tryz.underlying191
  a63 := Tryz.isAgg191
  z63 := Tryz.sizeOf191
  v63 := Tryz.zeroValue191
  t64 := Tryz.underlying192
  a64 := Tryz.isAgg192
  z64 := Tryz.sizeOf192
  v64 := Tryz.zeroValue192 }

open Go.RowKit Go.Maps Go.Sort
theorem sortsS (m : Nat) : AnyZ.SortsIn Tryz.prog sortedL_ren Fence.wide m :=
  ⟨fun blk off cap ss W hH hblk hsz => callsIn_wide.2 (AnyM.slices_Sort_string sortL blk off cap ss W hH hblk hsz),
   fun p cap W => callsIn_wide.2 (AnyM.slices_Sort_string_none sortL p cap W)⟩
theorem keys_at (mb : Option Nat) (W : World) : CallsIn Fence.wide 5 Tryz.prog 47 #[.map mb] W fun e w' => e = .returned (.func (.func 97) #[] #[.pointer (some ⟨W.heap.size, 0, none⟩)]) ∧ w' = W.alloc (.cells #[.map mb] 82) :=
  AnyZ.keys_in keysL Fence.wide 5 trivial rfl mb W
set_option maxHeartbeats 1000000 in
theorem sorted_at {H : Type} (b nn : Nat) (D0 : DataW H) (R : Value → Option (DataW H × List MemPlace)) (w : World) (hown : w.ownsMap Tryz.prog 9 R b nn D0) (hmax : Maps.size D0 ≤ maxLen) (hbytes : Maps.size D0 * 16 ≤ 140737488355328) :
    CallsIn Fence.wide 5 Tryz.prog 46 #[.func (.func 97) #[] #[.pointer (some ⟨w.heap.size, 0, none⟩)]] (w.alloc (.cells #[.map (some b)] 82)) fun e w' => ∃ (v : Value) (ss : List (List UInt8)), e = .returned v ∧ ss.Perm (strKeys D0) ∧
      w'.ownsRow (w.alloc (.cells #[.map (some b)] 82)).heap.size 9 1 v ss.length ((ss.mergeSort (fun x y => decide (x ≤ y))).map encStr) ∧ (v = .slice none 0 0 ↔ ss = []) ∧ Below (w.alloc (.cells #[.map (some b)] 82)).heap.size (w.alloc (.cells #[.map (some b)] 82)) w' := by
  have hbl := hown.lt
  have hseq : SeqGives Fence.wide 2 Tryz.prog 97 #[.pointer (some ⟨w.heap.size, 0, none⟩)] encStr (fun ss => ss.Perm (strKeys D0)) (Maps.size D0) (w.alloc (.cells #[.map (some b)] 82)) :=
    AnyZ.keys_gives (ρ := keysL_ren) { keysL with } Fence.wide _ trivial rfl (by omega) w.heap.size b nn D0 _ (by simp) (by simp) (by
      obtain ⟨es, clock, hb, Ft, hs, hD⟩ := hown
      exact ⟨es, clock, (Below.heap_alloc _ _ b hbl).trans hb, Ft, hs, hD⟩)
  exact AnyZ.sorted_in sortedL Fence.wide 5 trivial trivial trivial trivial rfl (by omega) (sortsS _) (enters_of Tryz.func96 (by kernel_rfl) rfl) 97 #[.pointer (some ⟨w.heap.size, 0, none⟩)] trivial (enters_of Tryz.func97 (by kernel_rfl) rfl) _ _ hmax hbytes _ hseq
end Go.Proofs.YtkmjmfcanlknjaaGreat
namespace Go.Proofs.YtkmjmfcanlknjaaGreat
open Go.RowKit Go.Maps

/-! ### rows of texts -/
def RdS (w : World) (v : Value) (l : List ByteArray) : Prop := Rd w v l.length 1 (strs l)
theorem RdS.below {w w' : World} {v : Value} {l : List ByteArray} (h : RdS w v l) (hb : Below w.heap.size w w') : RdS w' v l := Rd.below h hb
theorem RdS.of_own {w : World} {B : Nat} {v : Value} {l : List ByteArray} (h : OwnStr w B v l) : RdS w v l := Rd.of_owns h
theorem RdS.at {w : World} {v : Value} {l : List ByteArray} (h : RdS w v l) {i : Nat} {x : ByteArray} (hx : l[i]? = some x) :
    ∃ b off cap, v = .slice (some ⟨b, off, none⟩) l.length cap ∧ b < w.heap.size ∧ l.length ≤ cap ∧ w.cell? ⟨b, off + i, none⟩ = some (.string x) := by
  have hi : i < l.length := (List.getElem?_eq_some_iff.1 hx).1
  obtain ⟨b, off, cap, h1, h2, h3, h4⟩ := Rd.at h hi
  refine ⟨b, off, cap, h1, h2, h3, h4 i _ ?_⟩
  unfold strs; rw [List.getElem?_map, hx]; rfl
def IdxIs (l : List ByteArray) (s : ByteArray) (r : Int) : Prop := (s ∈ l ∧ 0 ≤ r) ∨ (s ∉ l ∧ r = -1)
theorem mem_take {α} {l : List α} {j : Nat} {x y : α} (h : l[j]? = some x) : y ∈ l.take (j + 1) ↔ y ∈ l.take j ∨ y = x := by
  obtain ⟨h1, h2⟩ := List.getElem?_eq_some_iff.1 h
  rw [List.take_succ_eq_append_getElem h1, h2]; simp
theorem beq_toList (x y : ByteArray) : (x.toList == y.toList) = decide (x = y) := by
  rw [Bool.eq_iff_iff]; simp [toList_inj]

set_option maxRecDepth 100000 in
set_option maxHeartbeats 800000 in
theorem xIndexS_any (v : Value) (l : List ByteArray) (s : ByteArray) (w : World) (h : RdS w v l) (hl : l.length ≤ 140737488355328) :
    Calls Tryz.prog 94 #[v, .string s] w fun e w' => (∃ r, IdxIs l s r ∧ e = .returned (.int .i64 r)) ∧ w = w' := by
  have HR := Lib.hid h
  obtain ⟨_, ao, cap, rfl, -⟩ := id h
  clear h
  go_enter Tryz.func94, Tryz.ntmps94
  go_wp2_with fail
  go_loop [8] (fun i => ∃ j : Nat, i = .int .i64 j ∧ j ≤ l.length ∧ Hid (s ∉ l.take j)) (fun i => l.length - (intOf i).toNat)
  case atStart => exact ⟨0, rfl, by omega, by simp [Hid]⟩
  case round =>
    obtain ⟨j, rfl, hj, HN⟩ := hrel
    by_cases hlt : j < l.length
    · obtain ⟨x, hx⟩ : ∃ x, l[j]? = some x := ⟨_, List.getElem?_eq_getElem hlt⟩
      obtain ⟨b, off, cp, e1, hb, hc, x0⟩ := RdS.at HR.out hx
      simp only [Value.slice.injEq] at e1
      obtain ⟨rfl, -, rfl⟩ := e1
      have HX := Lib.hid hx
      clear hx
      by_cases hs : s = x
      · subst hs
        have he : (s.toList == s.toList) = true := by simp
        go_wp2
        go_ret
        exact ⟨⟨_, .inl ⟨List.mem_of_getElem? HX.out, by omega⟩, rfl⟩, rfl⟩
      · have he : (s.toList == x.toList) = false := by rw [beq_toList]; simpa using hs
        have HS := Lib.hid hs
        clear hs
        go_wp2
        go_round
        case rel => exact ⟨j + 1, by go_num, by omega, by unfold Hid; rw [mem_take HX.out]; exact fun h => h.elim HN.out HS.out⟩
        case measure => simp [intOf]; omega
    · obtain rfl : j = l.length := by omega
      go_wp2
      go_ret
      refine ⟨⟨_, .inr ⟨?_, rfl⟩, rfl⟩, rfl⟩
      have := HN.out
      rwa [List.take_of_length_le (Nat.le_refl _)] at this
set_option maxRecDepth 100000 in
theorem xContainsS_any (v : Value) (l : List ByteArray) (s : ByteArray) (w : World) (h : RdS w v l) (hl : l.length ≤ 140737488355328) :
    Calls Tryz.prog 45 #[v, .string s] w fun e w' => e = .returned (.bool (decide (s ∈ l))) ∧ w = w' := by
  have HI := Lib.hid (xIndexS_any v l s w h hl)
  obtain ⟨_, ao, cap, rfl, -⟩ := h
  go_enter Tryz.func45, Tryz.ntmps45
  go_wp2_with (go_at_call 94; refine (HI.out).mono ?_; rintro e w' ⟨⟨r, hr, rfl⟩, rfl⟩; have HR := Lib.hid hr; clear hr)
  rcases HR.out with ⟨h1, h2⟩ | ⟨h1, rfl⟩
  · have : decide (s ∈ l) = true := by simpa using h1
    rw [this]
    go_wp2
    go_ret
    exact ⟨by simp; omega, rfl⟩
  · have : decide (s ∈ l) = false := by simpa using h1
    rw [this]
    go_wp2
    go_ret
    exact ⟨rfl, rfl⟩
set_option maxRecDepth 100000 in
set_option maxHeartbeats 800000 in
theorem rIn_any (v : Value) (l : List ByteArray) (s : ByteArray) (w : World) (h : RdS w v l) (hl : l.length ≤ 140737488355328) :
    Calls Tryz.prog 50 #[v, .string s] w fun e w' => e = .returned (.bool (decide (s ∈ l))) ∧ w = w' := by
  have HR := Lib.hid h
  obtain ⟨_, ao, cap, rfl, -⟩ := id h
  clear h
  obtain ⟨tg, htg⟩ : ∃ tg, tg = decide (s ∈ l) := ⟨_, rfl⟩
  have HT := Lib.hid htg
  rw [← htg]
  clear htg
  go_enter Tryz.func50, Tryz.ntmps50
  go_wp2_with fail
  go_loop [5] (fun i => ∃ j : Nat, i = .int .i64 j ∧ j ≤ l.length ∧ Hid (s ∉ l.take j)) (fun i => l.length - (intOf i).toNat)
  case atStart => exact ⟨0, rfl, by omega, by simp [Hid]⟩
  case round =>
    obtain ⟨j, rfl, hj, HN⟩ := hrel
    by_cases hlt : j < l.length
    · obtain ⟨x, hx⟩ : ∃ x, l[j]? = some x := ⟨_, List.getElem?_eq_getElem hlt⟩
      obtain ⟨b, off, cp, e1, hb, hc, x0⟩ := RdS.at HR.out hx
      simp only [Value.slice.injEq] at e1
      obtain ⟨rfl, -, rfl⟩ := e1
      have HX := Lib.hid hx
      clear hx
      by_cases hs : x = s
      · subst hs
        have he : (x.toList == x.toList) = true := by simp
        go_wp2
        go_ret
        have : tg = true := by rw [HT.out]; simpa using List.mem_of_getElem? HX.out
        rw [this]
        exact ⟨rfl, rfl⟩
      · have he : (x.toList == s.toList) = false := by rw [beq_toList]; simpa using hs
        have HS := Lib.hid hs
        clear hs
        go_wp2
        go_round
        case rel => exact ⟨j + 1, by go_num, by omega, by unfold Hid; rw [mem_take HX.out]; exact fun h => h.elim HN.out (fun e => HS.out e.symm)⟩
        case measure => simp [intOf]; omega
    · obtain rfl : j = l.length := by omega
      go_wp2
      go_ret
      have : tg = false := by
        have := HN.out
        rw [List.take_of_length_le (Nat.le_refl _)] at this
        rw [HT.out]; simpa using this
      rw [this]
      exact ⟨rfl, rfl⟩
end Go.Proofs.YtkmjmfcanlknjaaGreat
namespace Go.Proofs.YtkmjmfcanlknjaaGreat
open Go.RowKit Go.Maps

theorem heads_take (G : List Ru) {j : Nat} {r : Ru} (h : G[j]? = some r) : heads (G.take (j + 1)) = if r.h ∈ heads (G.take j) then heads (G.take j) else heads (G.take j) ++ [r.h] := by
  rw [(nodesG_take G h).1, heads_snoc]
theorem heads_take_len (G : List Ru) (j : Nat) : (heads (G.take j)).length ≤ j := Nat.le_trans (heads_len _) (List.length_take_le _ _)
theorem own_str_shape {w : World} {B : Nat} {v : Value} {l : List ByteArray} (h : OwnStr w B v l) : ∃ ao c, v = .slice ao l.length c := by
  obtain ⟨_, ao, cap, e, -⟩ := RdS.of_own h
  exact ⟨ao, cap, e⟩

set_option maxRecDepth 100000 in
set_option maxHeartbeats 3200000 in
theorem xHeads_any (v : Value) (G : List Ru) (w : World) (h : RdRu w v G) (hl : LimG G) :
    Calls Tryz.prog 20 #[v] w fun e w' => ∃ v', e = .returned v' ∧ OwnStr w' w.heap.size v' (heads G) ∧ Below w.heap.size w w' := by
  obtain ⟨P, rfl, hR⟩ := h
  have HR := Lib.hid hR
  have HL := Lib.hid hl
  obtain ⟨⟨_, ao, cap, rfl, -⟩, -⟩ := hR
  have hpl : P.length ≤ 4398046511104 := by have := hl.len; rwa [List.length_map] at this
  have HC := Lib.hid xContainsS_any
  clear hl
  generalize hG : P.map (·.1) = G at *
  have HG := Lib.hid hG
  have hgl : G.length = P.length := by rw [← hG, List.length_map]
  clear hG
  have HGL := Lib.hid hgl
  clear hgl
  go_enter Tryz.func20, Tryz.ntmps20
  go_wp2_with fail
  go_loopw [3, 8] (fun o i wr => ∃ j : Nat, i = .int .i64 j ∧ j ≤ P.length ∧ Hid (OwnStr wr w.heap.size o (heads (G.take j))) ∧ Hid (Below w.heap.size w wr)) (fun _ i _ => P.length - (intOf i).toNat)
  case atStart => exact ⟨0, rfl, by omega, World.ownsRow_nil _ _ _ _, Below.refl _ _⟩
  case round =>
    obtain ⟨j, rfl, hj, HO, HBel⟩ := hrel
    obtain ⟨ao2, cp2, rfl⟩ := own_str_shape HO.out
    have hws := HBel.out.size
    by_cases hlt : j < P.length
    · obtain ⟨p, hp⟩ : ∃ p, P[j]? = some p := ⟨_, List.getElem?_eq_getElem hlt⟩
      obtain ⟨b, off, cp, e1, hb, hc, x0, x1, hrd⟩ := RdP.at HR.out hp
      simp only [Value.slice.injEq] at e1
      obtain ⟨rfl, -, rfl⟩ := e1
      have X0 := (HBel.out.cell (p := ⟨b, _, none⟩) hb).trans x0
      have X1 := (HBel.out.cell (p := ⟨b, _, none⟩) hb).trans x1
      have hbw : b < wr.heap.size := by omega
      have HGP : Hid (G[j]? = some p.1) := by unfold Hid; rw [← HG.out, List.getElem?_map, hp]; rfl
      obtain ⟨_, ao3, cp3, hv2, -⟩ := id hrd
      obtain ⟨⟨ph, pb⟩, pv⟩ := p
      simp only at hv2 X0 X1 HGP
      subst hv2
      have hhl := heads_take_len G j
      have HS1 : Hid (RdS (wr.alloc (.cells #[.string ph, .slice ao3 pb.length cp3] 47)) (.slice ao2 (heads (G.take j)).length cp2) (heads (G.take j))) := (RdS.of_own HO.out).below (below1 wr _)
      have HT := Lib.hid (heads_take G HGP.out)
      clear x0 x1 hp hrd
      by_cases hm : ph ∈ heads (G.take j)
      · have hd : decide (ph ∈ heads (G.take j)) = true := by simpa using hm
        have HE : Hid (heads (G.take (j + 1)) = heads (G.take j)) := by unfold Hid; rw [HT.out, if_pos hm]
        clear hm
        have HB2 : Hid (Below w.heap.size w (wr.alloc (.cells #[.string ph, .slice ao3 pb.length cp3] 47))) := HBel.out.alloc hws _
        have HO2 : Hid (OwnStr (wr.alloc (.cells #[.string ph, .slice ao3 pb.length cp3] 47)) w.heap.size (.slice ao2 (heads (G.take j)).length cp2) (heads (G.take (j + 1)))) := by
          unfold Hid; rw [HE.out]; exact HO.out.alloc _
        generalize hq : heads (G.take j) = l at *
        clear hq
        go_wp2_with (go_at_call 45; refine (HC.out _ l ph _ HS1.out (by omega)).mono ?_; rintro e w' ⟨rfl, rfl⟩)
        go_roundw
        case rel => exact ⟨j + 1, by go_num, by omega, HO2.out, HB2.out⟩
        case measure => simp [intOf]; omega
      · have hd : decide (ph ∈ heads (G.take j)) = false := by simpa using hm
        have HE : Hid (heads (G.take (j + 1)) = heads (G.take j) ++ [ph]) := by unfold Hid; rw [HT.out, if_neg hm]
        clear hm
        have HB2 : Hid (Below w.heap.size w (wr.alloc (.cells #[.string ph, .slice ao3 pb.length cp3] 47))) := HBel.out.alloc hws _
        have HO2 : (wr.alloc (.cells #[.string ph, .slice ao3 pb.length cp3] 47)).ownsRow w.heap.size 9 1 (.slice ao2 (heads (G.take j)).length cp2) (heads (G.take j)).length (strs (heads (G.take j))) := HO.out.alloc _
        generalize hq : heads (G.take j) = l at *
        clear hq
        have c0 : (wr.alloc (.cells #[.string ph, .slice ao3 pb.length cp3] 47)).cell? ⟨wr.heap.size, 0, none⟩ = some (.string ph) := by simp
        have hsz : wr.heap.size + 1 ≤ (wr.alloc (.cells #[.string ph, .slice ao3 pb.length cp3] 47)).heap.size := by simp
        go_wp2_with fail
        generalize wr.alloc (.cells #[.string ph, .slice ao3 pb.length cp3] 47) = w2 at *
        clear X0 X1 HBel HO
        have hws2 : w.heap.size ≤ w2.heap.size := by omega
        refine (HC.out _ l ph _ HS1.out (by omega)).mono ?_
        rintro e w' ⟨rfl, rfl⟩
        go_wp2_with (first
          | (at_builtin; go_must (refine wpList_appG1 elemStr rfl _ _ rfl HO2 rfl (news := [.string ph]) rfl rfl (by intro u hu; simp at hu; subst hu; rfl) (by unfold maxLen; omega) (by omega) hws2 ?_); intro v' w3 hown3 hg3))
        have HB3 : Hid (Below w.heap.size w w3) := HB2.out.grown hg3 hws2 (fun j hj => own_block HO2 j hj)
        have HO3 : Hid (OwnStr w3 w.heap.size v' (heads (G.take (j + 1)))) := by unfold Hid; rw [HE.out]; exact OwnStr.snoc hown3
        clear hown3 hg3
        go_roundw
        case rel => exact ⟨j + 1, by go_num, by omega, HO3.out, HB3.out⟩
        case measure => simp [intOf]; omega
    · obtain rfl : j = P.length := by omega
      go_wp2_with fail
      go_ret
      have h1 := HO.out
      have h2 := HBel.out
      rw [List.take_of_length_le (by have := HGL.out; omega)] at h1 ⊢
      exact ⟨_, rfl, h1, h2⟩
end Go.Proofs.YtkmjmfcanlknjaaGreat
namespace Go.Proofs.YtkmjmfcanlknjaaGreat
open Go.RowKit Go.Maps

theorem keys_perm {w : World} {b n : Nat} {D : DataW Unit} (h : w.ownsMap Tryz.prog 9 (plainElem Tryz.prog 3) b n D) {l : List ByteArray} (hnd : (l.map bl).Nodup) (hm : ∀ x : List UInt8, Maps.has D (.string x) = decide (x ∈ l.map bl)) : (l.map bl).Perm (strKeys D) := by
  obtain ⟨es, hD, hpw, _⟩ := h.entries keyS
  obtain ⟨es', hD', hko⟩ := h.keysOf
  obtain rfl : es = es' := by rw [hD] at hD'; simpa using hD'
  subst hD
  exact perm_strKeys hpw (fun p hp => by obtain ⟨v, hv⟩ := hko p hp; obtain ⟨x, _, hx, _⟩ := Maps.keyOf_str Tryz.underlying9 hv; exact ⟨x, hx⟩) hnd (fun x => by rw [hm x]; simp)
theorem size_keys {w : World} {b n : Nat} {D : DataW Unit} (h : w.ownsMap Tryz.prog 9 (plainElem Tryz.prog 3) b n D) : Maps.size D = (strKeys D).length := by
  obtain ⟨es, rfl, _⟩ := h.keysOf
  simp only [strKeys, List.length_map]; rfl
theorem used_len (k : Int) (G : List Ru) : (used k G).length ≤ nodesG G := Nat.le_trans (usedL_len _) (namesK_len k G)
theorem mem_usedL_bl (l : List ByteArray) (x : List UInt8) : x ∈ (usedL l).map bl ↔ x ∈ l.map bl := by
  simp only [List.mem_map, usedL_mem]
theorem encs_bl (l : List ByteArray) : (l.map bl).map Go.Proofs.encStr = strs l := by
  unfold strs; rw [List.map_map]; apply List.map_congr_left; intro s _; simp [Go.Proofs.encStr, bl]

set_option maxRecDepth 100000 in
set_option maxHeartbeats 1600000 in
theorem xLabels_any (v : Value) (G : List Ru) (w : World) (h : RdRu w v G) (hl : LimG G) :
    Calls Tryz.prog 21 #[v] w fun e w' => ∃ v', e = .returned v' ∧ OwnStr w' w.heap.size v' (used 3 G) ∧ Below w.heap.size w w' := by
  have HN := Lib.hid (xNames_any v G 3 w h hl)
  have HL := Lib.hid hl
  obtain ⟨P, rfl, hR⟩ := h
  obtain ⟨⟨_, ao, cap, rfl, -⟩, -⟩ := hR
  generalize P.map (·.1) = G at *
  generalize P.length = np at *
  clear hl
  go_enter Tryz.func21, Tryz.ntmps21
  go_wp2_with fail
  refine (HN.out).mono ?_
  rintro e w1 ⟨b, rfl, hb, ⟨D, hown, hhas⟩, hB1⟩
  have HB1 := Lib.hid hB1
  have HB := Lib.hid hb
  clear hB1 hb
  have hperm := keys_perm hown (l := used 3 G) (rise_nodup (usedL_rise _)) (fun x => by rw [hhas]; congr 1; exact propext (mem_usedL_bl _ _).symm)
  have hsz : Maps.size D ≤ 4398046511104 := by
    rw [size_keys hown, ← hperm.length_eq, List.length_map]
    exact Nat.le_trans (used_len 3 G) HL.out.nodes
  have HP := Lib.hid hperm
  have HK := Lib.hid (sorted_at b _ D _ w1 hown (by unfold maxLen; omega) (by omega))
  clear hperm hhas hown hsz
  go_wp2_with fail
  refine (callsIn_wide.1 (keys_at (some b) w1)).mono ?_
  rintro e w2 ⟨rfl, rfl⟩
  go_wp2_with fail
  refine (callsIn_wide.1 HK.out).mono ?_
  rintro e w3 ⟨v', ss, rfl, hp, hO, -, hB3⟩
  have hsort : ss.mergeSort leB = (used 3 G).map bl := sort_used (usedL_rise _) (hp.trans HP.out.symm)
  have hlen : ss.length = (used 3 G).length := by rw [(hp.trans HP.out.symm).length_eq, List.length_map]
  have hO2 : OwnStr w3 w.heap.size v' (used 3 G) := by
    have h2 := hO
    rw [show (ss.mergeSort fun x y => decide (x ≤ y)) = (used 3 G).map bl from hsort, encs_bl, hlen] at h2
    exact own_lower h2 (by simp; have := HB1.out.size; omega)
  have hB4 : Below w.heap.size w w3 := (HB1.out.alloc HB1.out.size _).trans (hB3.mono (by simp; have := HB1.out.size; omega))
  clear hO hp HK HP hB3
  go_wp2_with fail
  go_ret
  exact ⟨_, rfl, hO2, hB4⟩

/-! ### the nonterminals that are missing -/
theorem has_delS (D : DataW Unit) (x y : List UInt8) : Maps.has (D.del (.string x)) (.string y) = (decide (y ≠ x) && Maps.has D (.string y)) := by
  by_cases h : y = x
  · subst h; rw [has_del_same]; simp
  · rw [has_del_other (by simpa using h)]; simp [h]
def notIn (l hs : List ByteArray) : List ByteArray := l.filter fun s => decide (s ∉ hs)
theorem mem_notIn_bl (l hs : List ByteArray) (x : ByteArray) : bl x ∈ (notIn l hs).map bl ↔ x ∈ l ∧ x ∉ hs := by
  simp only [notIn, List.mem_map, List.mem_filter, decide_eq_true_eq]
  constructor
  · rintro ⟨y, hy, e⟩; rw [← bl_inj e]; exact hy
  · intro h; exact ⟨x, h, rfl⟩
theorem notIn_del (l hs : List ByteArray) (h : ByteArray) (y : List UInt8) : (decide (y ≠ bl h) && decide (y ∈ (notIn l hs).map bl)) = decide (y ∈ (notIn l (hs ++ [h])).map bl) := by
  obtain ⟨x, rfl⟩ : ∃ x : ByteArray, y = bl x := ⟨⟨y.toArray⟩, by simp [bl]⟩
  rw [Bool.eq_iff_iff]
  simp only [Bool.and_eq_true, decide_eq_true_eq, mem_notIn_bl, List.mem_append, List.mem_singleton, not_or, ne_eq]
  constructor
  · rintro ⟨h1, h2, h3⟩; exact ⟨h2, h3, fun e => h1 (by rw [e])⟩
  · rintro ⟨h2, h3, h4⟩; exact ⟨fun e => h4 (bl_inj e), h2, h3⟩
theorem notIn_nil (l : List ByteArray) : notIn l [] = l := by simp [notIn]
def hsF (G : List Ru) : List ByteArray := G.map (·.h)
theorem hsF_take (G : List Ru) {j : Nat} {r : Ru} (h : G[j]? = some r) : hsF (G.take (j + 1)) = hsF (G.take j) ++ [r.h] := by
  rw [(nodesG_take G h).1]; simp [hsF]
theorem missing_len (G : List Ru) : missing G = (notIn (used 2 G) (hsF G)).length := by
  unfold missing notIn
  congr 1
  apply List.filter_congr
  intro s _
  congr 1
  rw [heads_mem]
  simp [hsF]
theorem notIn_rise {l : List ByteArray} (h : Rise l) (hs : List ByteArray) : Rise (notIn l hs) := h.filter _
theorem mem_notIn_used (k : Int) (G : List Ru) (hs : List ByteArray) (y : List UInt8) : y ∈ (notIn (used k G) hs).map bl ↔ y ∈ (notIn (namesK k G) hs).map bl := by
  obtain ⟨x, rfl⟩ : ∃ x : ByteArray, y = bl x := ⟨⟨y.toArray⟩, by simp [bl]⟩
  rw [mem_notIn_bl, mem_notIn_bl]
  unfold used; rw [usedL_mem]

set_option maxRecDepth 100000 in
set_option maxHeartbeats 3200000 in
theorem xMissing_any (v : Value) (G : List Ru) (w : World) (h : RdRu w v G) (hl : LimG G) :
    Calls Tryz.prog 65 #[v] w fun e w' => e = .returned (.int .i64 (missing G)) ∧ Below w.heap.size w w' := by
  have HN := Lib.hid (xNames_any v G 2 w h hl)
  have HL := Lib.hid hl
  obtain ⟨P, rfl, hR⟩ := h
  have HR := Lib.hid hR
  obtain ⟨⟨_, ao, cap, rfl, -⟩, -⟩ := hR
  have hpl : P.length ≤ 4398046511104 := by have := hl.len; rwa [List.length_map] at this
  clear hl
  generalize hG : P.map (·.1) = G at *
  have HG := Lib.hid hG
  have HGL : Hid (G.length = P.length) := by unfold Hid; rw [← hG, List.length_map]
  clear hG
  go_enter Tryz.func65, Tryz.ntmps65
  go_wp2_with fail
  refine (HN.out).mono ?_
  rintro e w1 ⟨b, rfl, hb, ⟨D0, hown, hhas⟩, hB1⟩
  have HB := Lib.hid hb
  clear HN
  have hM1 : Hid (∃ D : DataW Unit, w1.ownsMap Tryz.prog 9 (plainElem Tryz.prog 3) b (nodesG G) D ∧ ∀ x : List UInt8, Maps.has D (.string x) = decide (x ∈ (notIn (namesK 2 G) (hsF (G.take 0))).map bl)) := ⟨D0, hown, fun x => by rw [hhas, List.take_zero]; simp [hsF, notIn_nil]⟩
  have HB1 := Lib.hid hB1
  clear hB1 hb hown hhas
  go_wp2_with fail
  go_loopw [10] (fun i wr => ∃ j : Nat, i = .int .i64 j ∧ j ≤ P.length ∧ Hid (∃ D : DataW Unit, wr.ownsMap Tryz.prog 9 (plainElem Tryz.prog 3) b (nodesG G) D ∧ ∀ x : List UInt8, Maps.has D (.string x) = decide (x ∈ (notIn (namesK 2 G) (hsF (G.take j))).map bl)) ∧ Hid (Below w.heap.size w wr)) (fun i _ => P.length - (intOf i).toNat)
  case atStart => exact ⟨0, rfl, by omega, hM1, HB1⟩
  case round =>
    obtain ⟨j, rfl, hj, HM, HBel⟩ := hrel
    have hws := HBel.out.size
    by_cases hlt : j < P.length
    · obtain ⟨p, hp⟩ : ∃ p, P[j]? = some p := ⟨_, List.getElem?_eq_getElem hlt⟩
      obtain ⟨b2, off, cp, e1, hb2, hc, x0, x1, hrd⟩ := RdP.at HR.out hp
      simp only [Value.slice.injEq] at e1
      obtain ⟨rfl, -, rfl⟩ := e1
      have X0 := (HBel.out.cell (p := ⟨b2, _, none⟩) hb2).trans x0
      have X1 := (HBel.out.cell (p := ⟨b2, _, none⟩) hb2).trans x1
      have hbw : b2 < wr.heap.size := by omega
      have HGP : Hid (G[j]? = some p.1) := by unfold Hid; rw [← HG.out, List.getElem?_map, hp]; rfl
      obtain ⟨_, ao3, cp3, hv2, -⟩ := id hrd
      obtain ⟨⟨ph, pb⟩, pv⟩ := p
      simp only at hv2 X0 X1 HGP
      subst hv2
      obtain ⟨D, hown0, hhas⟩ := HM.out
      have HH := Lib.hid hhas
      have hown := hown0.alloc (.cells #[.string ph, .slice ao3 pb.length cp3] 47)
      have hsz : ph.size ≤ maxLen := by
        have := HL.out.head _ (List.mem_of_getElem? HGP.out)
        unfold maxLen; exact Nat.le_trans this (by omega)
      have hkey : keyOf Tryz.prog 9 (.string ph) = some (.string (bl ph)) := Go.WideMaps.keyOf_string_mk Tryz.underlying9 hsz
      have HB2 : Hid (Below w.heap.size w (wr.alloc (.cells #[.string ph, .slice ao3 pb.length cp3] 47))) := HBel.out.alloc hws _
      have hws2 : w.heap.size ≤ (wr.alloc (.cells #[.string ph, .slice ao3 pb.length cp3] 47)).heap.size := by simp; omega
      clear x0 x1 hp hrd hown0 hhas hsz HM
      go_wp2_with (first
        | (at_delete; refine wpList_delete_own _ rfl _ _ 82 9 rfl 3 keyS Tryz.underlying82 _ b _ D rfl hown _ _ rfl hkey ?_; intro w2 hown2 hturn2)
        | fail)
      have HM3 : Hid (∃ D : DataW Unit, w2.ownsMap Tryz.prog 9 (plainElem Tryz.prog 3) b (nodesG G) D ∧ ∀ x : List UInt8, Maps.has D (.string x) = decide (x ∈ (notIn (namesK 2 G) (hsF (G.take (j + 1)))).map bl)) := by
        refine ⟨_, hown2, fun y => ?_⟩
        rw [has_delS, HH.out, hsF_take G HGP.out]
        exact notIn_del _ _ _ _
      have HB3 : Hid (Below w.heap.size w w2) := HB2.out.grown hturn2.grown hws2 (fun j hj => by cases hj; exact HB.out)
      clear hown2 hturn2
      go_roundw
      case rel => exact ⟨j + 1, by go_num, by omega, HM3.out, HB3.out⟩
      case measure => simp [intOf]; omega
    · obtain rfl : j = P.length := by omega
      obtain ⟨D, hown, hhas⟩ := HM.out
      have hsize : Maps.size D = missing G := by
        rw [List.take_of_length_le (by have := HGL.out; omega)] at hhas
        have hp := keys_perm hown (l := notIn (used 2 G) (hsF G)) (rise_nodup (notIn_rise (usedL_rise _) _)) (fun x => by rw [hhas]; congr 1; exact propext (mem_notIn_used _ _ _ _).symm)
        rw [size_keys hown, ← hp.length_eq, List.length_map, missing_len]
      have HS := Lib.hid hsize
      clear hsize hhas HM
      go_wp2_with (first
        | (at_len; refine wpList_len_own _ rfl _ 82 rfl 9 3 Tryz.underlying82 _ b _ D rfl hown ?_)
        | fail)
      go_ret
      rw [HS.out]
      exact ⟨rfl, HBel.out⟩
end Go.Proofs.YtkmjmfcanlknjaaGreat
namespace Go.Proofs.YtkmjmfcanlknjaaGreat
open Go.RowKit Go.Maps

theorem drop_cons' {α} {l : List α} {j : Nat} {x : α} (h : l[j]? = some x) : l.drop j = x :: l.drop (j + 1) := by
  obtain ⟨h1, h2⟩ := List.getElem?_eq_some_iff.1 h
  rw [List.drop_eq_getElem_cons h1, h2]

set_option maxRecDepth 100000 in
set_option maxHeartbeats 3200000 in
theorem rHeads_any (v : Value) (G : List Ru) (w : World) (h : RdRu w v G) (hl : LimG G) :
    Calls Tryz.prog 24 #[v] w fun e w' => ∃ v', e = .returned v' ∧ OwnStr w' w.heap.size v' (heads G) ∧ Below w.heap.size w w' := by
  obtain ⟨P, rfl, hR⟩ := h
  have HR := Lib.hid hR
  have HL := Lib.hid hl
  obtain ⟨⟨_, ao, cap, rfl, -⟩, -⟩ := hR
  have hpl : P.length ≤ 4398046511104 := by have := hl.len; rwa [List.length_map] at this
  have HC := Lib.hid rIn_any
  clear hl
  generalize hG : P.map (·.1) = G at *
  have HG := Lib.hid hG
  have hgl : G.length = P.length := by rw [← hG, List.length_map]
  clear hG
  have HGL := Lib.hid hgl
  clear hgl
  go_enter Tryz.func24, Tryz.ntmps24
  go_wp2_with fail
  go_loopw [3, 4] (fun o i wr => ∃ j : Nat, i = .int .i64 j ∧ j ≤ P.length ∧ Hid (OwnStr wr w.heap.size o (heads (G.take j))) ∧ Hid (Below w.heap.size w wr)) (fun _ i _ => P.length - (intOf i).toNat)
  case atStart => exact ⟨0, rfl, by omega, World.ownsRow_nil _ _ _ _, Below.refl _ _⟩
  case round =>
    obtain ⟨j, rfl, hj, HO, HBel⟩ := hrel
    obtain ⟨ao2, cp2, rfl⟩ := own_str_shape HO.out
    have hws := HBel.out.size
    by_cases hlt : j < P.length
    · obtain ⟨p, hp⟩ : ∃ p, P[j]? = some p := ⟨_, List.getElem?_eq_getElem hlt⟩
      obtain ⟨b, off, cp, e1, hb, hc, x0, x1, hrd⟩ := RdP.at HR.out hp
      simp only [Value.slice.injEq] at e1
      obtain ⟨rfl, -, rfl⟩ := e1
      have X0 := (HBel.out.cell (p := ⟨b, _, none⟩) hb).trans x0
      have hbw : b < wr.heap.size := by omega
      have HGP : Hid (G[j]? = some p.1) := by unfold Hid; rw [← HG.out, List.getElem?_map, hp]; rfl
      obtain ⟨⟨ph, pb⟩, pv⟩ := p
      simp only at X0 HGP
      have hhl := heads_take_len G j
      have HS1 : Hid (RdS wr (.slice ao2 (heads (G.take j)).length cp2) (heads (G.take j))) := RdS.of_own HO.out
      have HT := Lib.hid (heads_take G HGP.out)
      clear x0 x1 hp hrd
      by_cases hm : ph ∈ heads (G.take j)
      · have hd : decide (ph ∈ heads (G.take j)) = true := by simpa using hm
        have HE : Hid (heads (G.take (j + 1)) = heads (G.take j)) := by unfold Hid; rw [HT.out, if_pos hm]
        clear hm
        have HO2 : Hid (OwnStr wr w.heap.size (.slice ao2 (heads (G.take j)).length cp2) (heads (G.take (j + 1)))) := by
          unfold Hid; rw [HE.out]; exact HO.out
        generalize hq : heads (G.take j) = l at *
        clear hq
        go_wp2_with (go_at_call 50; refine (HC.out _ l ph _ HS1.out (by omega)).mono ?_; rintro e w' ⟨rfl, rfl⟩)
        go_roundw
        case rel => exact ⟨j + 1, by go_num, by omega, HO2.out, HBel.out⟩
        case measure => simp [intOf]; omega
      · have hd : decide (ph ∈ heads (G.take j)) = false := by simpa using hm
        have HE : Hid (heads (G.take (j + 1)) = heads (G.take j) ++ [ph]) := by unfold Hid; rw [HT.out, if_neg hm]
        clear hm
        have HO2 : wr.ownsRow w.heap.size 9 1 (.slice ao2 (heads (G.take j)).length cp2) (heads (G.take j)).length (strs (heads (G.take j))) := HO.out
        generalize hq : heads (G.take j) = l at *
        clear hq
        go_wp2_with (first
          | (go_at_call 50; refine (HC.out _ l ph _ HS1.out (by omega)).mono ?_; rintro e w' ⟨rfl, rfl⟩)
          | (at_builtin; go_must (refine wpList_appG1 elemStr rfl _ _ rfl HO2 rfl (news := [.string ph]) rfl rfl (by intro u hu; simp at hu; subst hu; rfl) (by unfold maxLen; omega) (by omega) hws ?_); intro v' w3 hown3 hg3))
        have HB3 : Hid (Below w.heap.size w w3) := HBel.out.grown hg3 hws (fun j hj => own_block HO2 j hj)
        have HO3 : Hid (OwnStr w3 w.heap.size v' (heads (G.take (j + 1)))) := by unfold Hid; rw [HE.out]; exact OwnStr.snoc hown3
        clear hown3 hg3
        go_roundw
        case rel => exact ⟨j + 1, by go_num, by omega, HO3.out, HB3.out⟩
        case measure => simp [intOf]; omega
    · obtain rfl : j = P.length := by omega
      go_wp2_with fail
      go_ret
      have h1 := HO.out
      have h2 := HBel.out
      rw [List.take_of_length_le (by have := HGL.out; omega)] at h1 ⊢
      exact ⟨_, rfl, h1, h2⟩

/-! ### Insert -/
theorem ins_lt {s x : ByteArray} {l : List ByteArray} (h : bl x < bl s) : insS s (x :: l) = x :: insS s l := by simp [insS, h]
theorem ins_gt {s x : ByteArray} {l : List ByteArray} (h1 : ¬ bl x < bl s) (h2 : bl s < bl x) : insS s (x :: l) = s :: x :: l := by simp [insS, h1, h2]
theorem ins_eq {s x : ByteArray} {l : List ByteArray} (h1 : ¬ bl x < bl s) (h2 : ¬ bl s < bl x) : insS s (x :: l) = x :: l := by simp [insS, h1, h2]

set_option maxRecDepth 100000 in
set_option maxHeartbeats 3200000 in
theorem rInsert_any (v : Value) (l : List ByteArray) (s : ByteArray) (w : World) (h : RdS w v l) (hl : l.length ≤ 4398046511104) :
    Calls Tryz.prog 99 #[v, .string s] w fun e w' => ∃ v', e = .returned v' ∧ OwnStr w' w.heap.size v' (insS s l) ∧ Below w.heap.size w w' := by
  have HR := Lib.hid h
  obtain ⟨_, ao, cap, rfl, -⟩ := id h
  clear h
  go_enter Tryz.func99, Tryz.ntmps99
  go_wp2_with fail
  go_loopw [5, 6, 7] (fun o d i wr => ∃ (j : Nat) (dn : Bool) (acc : List ByteArray), i = .int .i64 j ∧ j ≤ l.length ∧ d = .bool dn ∧ acc.length ≤ j + 1 ∧ Hid (dn = false → acc.length ≤ j) ∧ Hid (insS s l = acc ++ (if dn then l.drop j else insS s (l.drop j))) ∧ Hid (OwnStr wr w.heap.size o acc) ∧ Hid (Below w.heap.size w wr)) (fun _ _ i _ => l.length - (intOf i).toNat)
  case atStart => exact ⟨0, false, [], rfl, by omega, rfl, by simp, fun _ => by simp, by simp [Hid], World.ownsRow_nil _ _ _ _, Below.refl _ _⟩
  case round =>
    obtain ⟨j, dn, acc, rfl, hj, rfl, hal, HAl, HI, HO, HBel⟩ := hrel
    rename_i u5
    have hws := HBel.out.size
    by_cases hlt : j < l.length
    · obtain ⟨x, hx⟩ : ∃ x, l[j]? = some x := ⟨_, List.getElem?_eq_getElem hlt⟩
      obtain ⟨b, off, cp, e1, hb, hc, x0⟩ := RdS.at HR.out hx
      simp only [Value.slice.injEq] at e1
      obtain ⟨rfl, -, rfl⟩ := e1
      have X0 := (HBel.out.cell (p := ⟨b, _, none⟩) hb).trans x0
      have hbw : b < wr.heap.size := by omega
      have HX := Lib.hid (drop_cons' hx)
      have y0 := x0
      clear x0 hx
      have HO0 : wr.ownsRow w.heap.size 9 1 u5 acc.length (strs acc) := HO.out
      have hlt2 : Op.bytesLess x.toList s.toList = decide (bl x < bl s) := by rw [Go.Proofs.bytesLess_eq, ByteArray.toList_eq, ByteArray.toList_eq]; rfl
      have heq2 := beq_toList x s
      cases dn with
      | true =>
        have HI2 : Hid (insS s l = (acc ++ [x]) ++ (if true then l.drop (j + 1) else insS s (l.drop (j + 1)))) := by
          have := HI.out; rw [if_pos rfl, HX.out] at this; unfold Hid; rw [this]; simp
        clear hlt2 heq2 HI
        go_wp2_with (at_builtin; refine wpList_appG1 elemStr rfl _ _ rfl HO0 rfl (news := [.string x]) rfl rfl (by intro u hu; simp at hu; subst hu; rfl) (by unfold maxLen; omega) (by omega) hws ?_; intro v1 w1 hown1 hg1)
        have HB9 : Hid (Below w.heap.size w w1) := HBel.out.grown hg1 hws (fun j hj => own_block HO0 j hj)
        have HO9 : Hid (OwnStr w1 w.heap.size v1 (acc ++ [x])) := OwnStr.snoc hown1
        clear hown1
        go_roundw
        case rel => exact ⟨j + 1, true, acc ++ [x], by go_num, by omega, rfl, by simp; omega, (by unfold Hid; intro h; cases h), HI2.out, HO9.out, HB9.out⟩
        case measure => simp [intOf]; omega
      | false =>
        have hal2 := HAl.out rfl
        have HI1 : Hid (insS s l = acc ++ insS s (x :: l.drop (j + 1))) := by
          have := HI.out; rw [if_neg (by simp), HX.out] at this; exact this
        clear HI
        by_cases h1 : bl x < bl s
        · have HI2 : Hid (insS s l = (acc ++ [x]) ++ (if false then l.drop (j + 1) else insS s (l.drop (j + 1)))) := by
            unfold Hid; rw [HI1.out, ins_lt h1]; simp
          rw [decide_eq_true h1] at hlt2
          clear h1 heq2 HI1
          go_wp2_with (at_builtin; refine wpList_appG1 elemStr rfl _ _ rfl HO0 rfl (news := [.string x]) rfl rfl (by intro u hu; simp at hu; subst hu; rfl) (by unfold maxLen; omega) (by omega) hws ?_; intro v1 w1 hown1 hg1)
          have HB9 : Hid (Below w.heap.size w w1) := HBel.out.grown hg1 hws (fun j hj => own_block HO0 j hj)
          have HO9 : Hid (OwnStr w1 w.heap.size v1 (acc ++ [x])) := OwnStr.snoc hown1
          clear hown1
          go_roundw
          case rel => exact ⟨j + 1, false, acc ++ [x], by go_num, by omega, rfl, by simp; omega, fun _ => by simp; omega, HI2.out, HO9.out, HB9.out⟩
          case measure => simp [intOf]; omega
        · rw [decide_eq_false h1] at hlt2
          by_cases h2 : bl s < bl x
          · have HI2 : Hid (insS s l = (acc ++ [s] ++ [x]) ++ (if true then l.drop (j + 1) else insS s (l.drop (j + 1)))) := by
              unfold Hid; rw [HI1.out, ins_gt h1 h2]; simp
            have hne : ¬ x = s := fun e => by subst e; exact List.lt_irrefl _ h2
            rw [decide_eq_false hne] at heq2
            clear h1 h2 hne HI1
            go_wp2_with (first
              | (at_builtin; refine wpList_appG1 elemStr rfl _ _ rfl HO0 rfl (news := [.string s]) rfl rfl (by intro u hu; simp at hu; subst hu; rfl) (by unfold maxLen; omega) (by omega) hws ?_; intro v0 w0 hown0 hg0; have hB0 : Below w.heap.size w w0 := HBel.out.grown hg0 hws (fun j hj => own_block HO0 j hj); have hw0 : w.heap.size ≤ w0.heap.size := hB0.size; have x0 : w0.cell? ⟨b, off + j, none⟩ = some (.string x) := (hB0.cell (p := ⟨b, _, none⟩) hb).trans y0)
              | (at_builtin; refine wpList_appG1 elemStr rfl _ _ rfl hown0 rfl (news := [.string x]) rfl rfl (by intro u hu; simp at hu; subst hu; rfl) (by unfold maxLen; omega) (by omega) hw0 ?_; intro v1 w1 hown1 hg1))
            have HB9 : Hid (Below w.heap.size w w1) := hB0.grown hg1 hw0 (fun j hj => own_block hown0 j hj)
            have hown2 : w1.ownsRow w.heap.size 9 1 v1 ((acc ++ [s]).length + 1) (strs (acc ++ [s]) ++ [.string x]) := by
              rw [show (acc ++ [s]).length = acc.length + 1 from by simp, show strs (acc ++ [s]) = strs acc ++ [.string s] from by simp [strs]]; exact hown1
            clear hown1 hown0 hg0 hg1 hB0
            have HO9 : Hid (OwnStr w1 w.heap.size v1 (acc ++ [s] ++ [x])) := OwnStr.snoc hown2
            clear hown2
            go_roundw
            case rel => exact ⟨j + 1, true, acc ++ [s] ++ [x], by go_num, by omega, rfl, by simp; omega, (by unfold Hid; intro h; cases h), HI2.out, HO9.out, HB9.out⟩
            case measure => simp [intOf]; omega
          · have HI2 : Hid (insS s l = (acc ++ [x]) ++ (if true then l.drop (j + 1) else insS s (l.drop (j + 1)))) := by
              unfold Hid; rw [HI1.out, ins_eq h1 h2]; simp
            have hxe : x = s := bl_inj (List.le_antisymm (List.not_lt.1 h2) (List.not_lt.1 h1))
            rw [decide_eq_true hxe] at heq2
            clear h1 h2 hxe HI1
            go_wp2_with (at_builtin; refine wpList_appG1 elemStr rfl _ _ rfl HO0 rfl (news := [.string x]) rfl rfl (by intro u hu; simp at hu; subst hu; rfl) (by unfold maxLen; omega) (by omega) hws ?_; intro v1 w1 hown1 hg1)
            have HB9 : Hid (Below w.heap.size w w1) := HBel.out.grown hg1 hws (fun j hj => own_block HO0 j hj)
            have HO9 : Hid (OwnStr w1 w.heap.size v1 (acc ++ [x])) := OwnStr.snoc hown1
            clear hown1
            go_roundw
            case rel => exact ⟨j + 1, true, acc ++ [x], by go_num, by omega, rfl, by simp; omega, (by unfold Hid; intro h; cases h), HI2.out, HO9.out, HB9.out⟩
            case measure => simp [intOf]; omega
    · obtain rfl : j = l.length := by omega
      have HO0 : wr.ownsRow w.heap.size 9 1 u5 acc.length (strs acc) := HO.out
      cases dn with
      | true =>
        have HI2 : Hid (insS s l = acc) := by have := HI.out; rw [if_pos rfl, List.drop_length, List.append_nil] at this; exact this
        clear HI
        go_wp2_with fail
        go_ret
        exact ⟨_, rfl, by rw [HI2.out]; exact HO.out, HBel.out⟩
      | false =>
        have HI2 : Hid (insS s l = acc ++ [s]) := by have := HI.out; rw [if_neg (by simp), List.drop_length] at this; exact this
        clear HI
        go_wp2_with (at_builtin; refine wpList_appG1 elemStr rfl _ _ rfl HO0 rfl (news := [.string s]) rfl rfl (by intro u hu; simp at hu; subst hu; rfl) (by unfold maxLen; omega) (by omega) hws ?_; intro v1 w1 hown1 hg1)
        have HB9 : Hid (Below w.heap.size w w1) := HBel.out.grown hg1 hws (fun j hj => own_block HO0 j hj)
        have HO9 : Hid (OwnStr w1 w.heap.size v1 (acc ++ [s])) := OwnStr.snoc hown1
        clear hown1
        go_ret
        exact ⟨_, rfl, by rw [HI2.out]; exact HO9.out, HB9.out⟩
end Go.Proofs.YtkmjmfcanlknjaaGreat
namespace Go.Proofs.YtkmjmfcanlknjaaGreat
open Go.RowKit

/-! ### plain: a text is no shorter than its tree has nodes -/
theorem ba_len (x : ByteArray) : x.data.toList.length = x.size := Array.length_toList
theorem joinZ_len (sep : ByteArray) (l : List ByteArray) (h : l ≠ []) : (joinS sep l).size = (l.map (·.size)).sum + (l.length - 1) * sep.size := by
  have e : (joinS sep l).size = (Lib.join (l.map (·.data.toList)) sep.data.toList).length := List.size_toArray
  have key : ∀ r : List (List UInt8), (Lib.joinTail sep.data.toList r).length = (r.map (·.length)).sum + r.length * sep.size := by
    intro r
    induction r with
    | nil => simp [Lib.joinTail]
    | cons y r ih =>
      have : (Lib.joinTail sep.data.toList (y :: r)).length = sep.size + y.length + (Lib.joinTail sep.data.toList r).length := by
        have e3 : Lib.joinTail sep.data.toList (y :: r) = sep.data.toList ++ y ++ Lib.joinTail sep.data.toList r := by simp [Lib.joinTail]
        rw [e3, List.length_append, List.length_append, ba_len]
      rw [this, ih]; simp only [List.map_cons, List.sum_cons, List.length_cons, Nat.add_mul]; omega
  cases l with
  | nil => exact absurd rfl h
  | cons x r =>
    rw [e, List.map_cons, Lib.join_cons, List.length_append, key, List.map_map]
    have e2 : r.map ((·.length) ∘ fun x : ByteArray => x.data.toList) = r.map (·.size) := by apply List.map_congr_left; intro a _; exact ba_len a
    rw [e2, ba_len]; simp only [List.map_cons, List.sum_cons, List.length_cons, List.length_map, Nat.add_sub_cancel]; omega
theorem brkZ_ge (pk k : Int) (t : ByteArray) : t.size ≤ (brk pk k t).size := by
  unfold brk; split
  · rw [ByteArray.size_append, ByteArray.size_append]; omega
  · omega
theorem brks_ge (k : Int) (l : List (Int × ByteArray)) : (l.map fun p => p.2.size).sum ≤ ((l.map fun p => brk k p.1 p.2).map (·.size)).sum := by
  induction l with
  | nil => simp
  | cons p l ih => have := brkZ_ge k p.1 p.2; simp only [List.map_cons, List.sum_cons] at ih ⊢; omega
theorem Fo.len_zero {f : Fo} (h : f.len = 0) : f = .nil := by
  cases f with
  | nil => rfl
  | cons x k r => simp [Fo.len] at h
theorem Fo.tx_min (f : Fo) (hw : f.wf) (ha : f.all mayN) : f.size ≤ (f.tx.map fun p => p.2.size).sum := by
  induction f with
  | nil => simp [Fo.tx, Fo.size]
  | cons x k r ih1 ih2 =>
    have i1 := ih1 hw.2.1 ha.2.1
    have i2 := ih2 hw.2.2 ha.2.2
    have hc := hw.1
    have hx : k.size + 1 ≤ (txN x k.tx).size := by
      have hleaf : x.c = 0 → k.size = 0 := fun h => by rw [Fo.len_zero (f := k) (by omega)]; rfl
      rcases ha.1 with ⟨h1, _, h3⟩ | ⟨h1, h2, h3⟩ | ⟨h1, h2, h3⟩ | ⟨h1, _, h3⟩ | ⟨h1, _, h3⟩
      · unfold txN; rw [if_pos h1, hleaf h3]; decide
      · unfold txN; rw [if_neg (by omega), if_pos (.inl h1), hleaf h2]; exact h3.1
      · unfold txN; rw [if_neg (by omega), if_pos (.inr h1), hleaf h2]; exact h3.1
      · unfold txN; rw [if_neg (by omega), if_neg (by omega), ByteArray.size_append]
        have hne : (k.tx.map fun p => brk x.k p.1 p.2) ≠ [] := by
          intro e; have := congrArg List.length e; rw [List.length_map, Fo.tx_len] at this; simp at this; omega
        rw [joinZ_len _ _ hne, List.length_map, Fo.tx_len]
        have := brks_ge x.k k.tx
        have hs : 1 ≤ (sepK x.k).size := by rcases h1 with h | h <;> rw [h] <;> decide
        have hm : 1 ≤ (k.len - 1) * (sepK x.k).size := Nat.mul_pos (by omega) hs
        omega
      · unfold txN; rw [if_neg (by omega), if_neg (by omega), ByteArray.size_append]
        have hne : (k.tx.map fun p => brk x.k p.1 p.2) ≠ [] := by
          intro e; have := congrArg List.length e; rw [List.length_map, Fo.tx_len] at this; simp at this; omega
        rw [joinZ_len _ _ hne, List.length_map, Fo.tx_len]
        have := brks_ge x.k k.tx
        have hs : 1 ≤ (signK x.k).size := by rcases h1 with h | h | h <;> rw [h] <;> decide
        omega
    simp only [Fo.tx, Fo.size, List.map_cons, List.sum_cons]
    omega
theorem good_min {N : List Nd} {x : Nd} {k : Fo} (h : GoodT N x k) : N.length ≤ (txN x k.tx).size := by
  have := Fo.tx_min _ h.wf h.all
  rw [h.len]
  simpa [Fo.tx, Fo.size] using this
theorem good_max {N : List Nd} {x : Nd} {k : Fo} (h : GoodT N x k) : (txN x k.tx).size ≤ 32 * N.length := by
  have key : ∀ f : Fo, f.all mayN → f.all fun x => x.n.size ≤ 16 := by
    intro f
    induction f with
    | nil => intro _; trivial
    | cons x k r ih1 ih2 => intro h; exact ⟨h.1.size, ih1 h.2.1, ih2 h.2.2⟩
  have := Fo.tx_size _ (key _ h.all)
  rw [h.len]
  simp only [Fo.tx, Fo.size, List.map_cons, List.sum_cons, List.map_nil, List.sum_nil] at this
  omega
/-! what is asked of a grammar, in order -/
noncomputable def ansQ (G : List Ru) : Nat → Bool
  | 0 => decide (G.length < 1 ∨ 64 < G.length)
  | 1 => !treesB G
  | 2 => decide (16 < (heads G).length + missing G)
  | 3 => decide (16 < (used 3 G).length)
  | 4 => decide (64 < occG G)
  | 5 => deepB G
  | 6 => decide (0 < missing G)
  | _ => decide (2048 < (textG G).size)
def errQ : Nat → Int
  | 0 => 180
  | 1 => 170
  | 2 => 181
  | 3 => 182
  | 4 => 183
  | 5 => 171
  | 6 => 184
  | _ => 174
def NoneQ (G : List Ru) (j : Nat) : Prop := ∀ i, i < j → ansQ G i = false
theorem NoneQ.snoc {G : List Ru} {j : Nat} (h : NoneQ G j) (h2 : ansQ G j = false) : NoneQ G (j + 1) := fun i hi => by
  by_cases e : i = j
  · subst e; exact h2
  · exact h i (by omega)
theorem NoneQ.f {G : List Ru} {j : Nat} (h : NoneQ G j) : ∀ i, i < j → ansQ G i = false := h
theorem check_first (G : List Ru) (j : Nat) (hj : j < 8) (h : NoneQ G j) (h2 : ansQ G j = true) : checkG G = errQ j := by
  have key : ∀ i, i < j → ansQ G i = false := h
  unfold checkG
  match j, hj with
  | 0, _ =>
    have h0 : G.length < 1 ∨ 64 < G.length := by simpa [ansQ] using h2
    rw [if_pos h0]; rfl
  | 1, _ =>
    have h0 : ¬ (G.length < 1 ∨ 64 < G.length) := by simpa [ansQ] using key 0 (by omega)
    have h1 : treesB G = false := by simpa [ansQ] using h2
    rw [if_neg h0, if_pos h1]; rfl
  | 2, _ =>
    have h0 : ¬ (G.length < 1 ∨ 64 < G.length) := by simpa [ansQ] using key 0 (by omega)
    have h1 : ¬ treesB G = false := by simpa [ansQ] using key 1 (by omega)
    have h3 : 16 < (heads G).length + missing G := by simpa [ansQ] using h2
    rw [if_neg h0, if_neg h1, if_pos h3]; rfl
  | 3, _ =>
    have h0 : ¬ (G.length < 1 ∨ 64 < G.length) := by simpa [ansQ] using key 0 (by omega)
    have h1 : ¬ treesB G = false := by simpa [ansQ] using key 1 (by omega)
    have h3 : ¬ 16 < (heads G).length + missing G := by simpa [ansQ] using key 2 (by omega)
    have h4 : 16 < (used 3 G).length := by simpa [ansQ] using h2
    rw [if_neg h0, if_neg h1, if_neg h3, if_pos h4]; rfl
  | 4, _ =>
    have h0 : ¬ (G.length < 1 ∨ 64 < G.length) := by simpa [ansQ] using key 0 (by omega)
    have h1 : ¬ treesB G = false := by simpa [ansQ] using key 1 (by omega)
    have h3 : ¬ 16 < (heads G).length + missing G := by simpa [ansQ] using key 2 (by omega)
    have h4 : ¬ 16 < (used 3 G).length := by simpa [ansQ] using key 3 (by omega)
    have h5 : 64 < occG G := by simpa [ansQ] using h2
    rw [if_neg h0, if_neg h1, if_neg h3, if_neg h4, if_pos h5]; rfl
  | 5, _ =>
    have h0 : ¬ (G.length < 1 ∨ 64 < G.length) := by simpa [ansQ] using key 0 (by omega)
    have h1 : ¬ treesB G = false := by simpa [ansQ] using key 1 (by omega)
    have h3 : ¬ 16 < (heads G).length + missing G := by simpa [ansQ] using key 2 (by omega)
    have h4 : ¬ 16 < (used 3 G).length := by simpa [ansQ] using key 3 (by omega)
    have h5 : ¬ 64 < occG G := by simpa [ansQ] using key 4 (by omega)
    have h6 : deepB G = true := by simpa [ansQ] using h2
    rw [if_neg h0, if_neg h1, if_neg h3, if_neg h4, if_neg h5, if_pos h6]; rfl
  | 6, _ =>
    have h0 : ¬ (G.length < 1 ∨ 64 < G.length) := by simpa [ansQ] using key 0 (by omega)
    have h1 : ¬ treesB G = false := by simpa [ansQ] using key 1 (by omega)
    have h3 : ¬ 16 < (heads G).length + missing G := by simpa [ansQ] using key 2 (by omega)
    have h4 : ¬ 16 < (used 3 G).length := by simpa [ansQ] using key 3 (by omega)
    have h5 : ¬ 64 < occG G := by simpa [ansQ] using key 4 (by omega)
    have h6 : ¬ deepB G = true := by simpa [ansQ] using key 5 (by omega)
    have h7 : 0 < missing G := by simpa [ansQ] using h2
    rw [if_neg h0, if_neg h1, if_neg h3, if_neg h4, if_neg h5, if_neg h6, if_pos h7]; rfl
  | 7, _ =>
    have h0 : ¬ (G.length < 1 ∨ 64 < G.length) := by simpa [ansQ] using key 0 (by omega)
    have h1 : ¬ treesB G = false := by simpa [ansQ] using key 1 (by omega)
    have h3 : ¬ 16 < (heads G).length + missing G := by simpa [ansQ] using key 2 (by omega)
    have h4 : ¬ 16 < (used 3 G).length := by simpa [ansQ] using key 3 (by omega)
    have h5 : ¬ 64 < occG G := by simpa [ansQ] using key 4 (by omega)
    have h6 : ¬ deepB G = true := by simpa [ansQ] using key 5 (by omega)
    have h7 : ¬ 0 < missing G := by have := key 6 (by omega); simp only [ansQ, decide_eq_false_iff_not] at this; exact this
    have h8 : 2048 < (textG G).size := by simpa [ansQ] using h2
    rw [if_neg h0, if_neg h1, if_neg h3, if_neg h4, if_neg h5, if_neg h6, if_neg h7, if_pos h8]; rfl
theorem check_none (G : List Ru) (h : NoneQ G 8) : checkG G = 0 := by
  have key : ∀ i, i < 8 → ansQ G i = false := h
  unfold checkG
  have h0 : ¬ (G.length < 1 ∨ 64 < G.length) := by simpa [ansQ] using key 0 (by omega)
  have h1 : ¬ treesB G = false := by simpa [ansQ] using key 1 (by omega)
  have h3 : ¬ 16 < (heads G).length + missing G := by simpa [ansQ] using key 2 (by omega)
  have h4 : ¬ 16 < (used 3 G).length := by simpa [ansQ] using key 3 (by omega)
  have h5 : ¬ 64 < occG G := by simpa [ansQ] using key 4 (by omega)
  have h6 : ¬ deepB G = true := by simpa [ansQ] using key 5 (by omega)
  have h7 : ¬ 0 < missing G := by have := key 6 (by omega); simp only [ansQ, decide_eq_false_iff_not] at this; exact this
  have h8 : ¬ 2048 < (textG G).size := by simpa [ansQ] using key 7 (by omega)
  rw [if_neg h0, if_neg h1, if_neg h3, if_neg h4, if_neg h5, if_neg h6, if_neg h7, if_neg h8]
/-! how large a grammar's text is -/
theorem rule_size (r : Ru) (h : nameB r.h 1 = true) (h2 : treeB r.b = true) : (textR r).size ≤ 32 * r.b.length + 22 := by
  have hs : r.h.size ≤ 16 := by unfold nameB at h; simp only [Bool.and_eq_true, decide_eq_true_eq] at h; exact h.2.1
  have hm := good_max (pickT_good h2)
  unfold textR textN
  rw [ByteArray.size_append, ByteArray.size_append, ByteArray.size_append]
  have e1 : (⟨#[32, 61, 32]⟩ : ByteArray).size = 3 := rfl
  have e2 : (⟨#[32, 59, 10]⟩ : ByteArray).size = 3 := rfl
  omega
theorem text_size (G : List Ru) (h : treesB G = true) : (textG G).size ≤ 32 * nodesG G + 22 * G.length := by
  induction G with
  | nil => exact Nat.zero_le _
  | cons r G ih =>
    have h2 : (nameB r.h 1 && treeB r.b) = true ∧ treesB G = true := by unfold treesB at h ⊢; rw [List.all_cons, Bool.and_eq_true] at h; exact h
    rw [Bool.and_eq_true] at h2
    have h3 := ih h2.2
    have h4 := rule_size r h2.1.1 h2.1.2
    have e : nodesG (r :: G) = r.b.length + nodesG G := by simp [nodesG]
    rw [textG_cons, ByteArray.size_append, e]
    simp only [List.length_cons]
    omega
theorem rule_le (G : List Ru) {r : Ru} (h : r ∈ G) : (textR r).size ≤ (textG G).size := by
  induction G with
  | nil => cases h
  | cons x G ih =>
    rw [textG_cons, ByteArray.size_append]
    rcases List.mem_cons.1 h with rfl | h
    · omega
    · have := ih h; omega
theorem trees_mem {G : List Ru} (h : treesB G = true) {r : Ru} (hr : r ∈ G) : nameB r.h 1 = true ∧ treeB r.b = true := by
  have := List.all_eq_true.1 h r hr
  rwa [Bool.and_eq_true] at this
theorem textG_take (G : List Ru) {j : Nat} {r : Ru} (h : G[j]? = some r) : textG (G.take (j + 1)) = textG (G.take j) ++ textR r := by
  rw [(nodesG_take G h).1, textG_snoc]
theorem textG_le (G : List Ru) (j : Nat) : (textG (G.take j)).size ≤ (textG G).size := by
  have e : textG G = textG (G.take j) ++ textG (G.drop j) := by rw [← textG_app, List.take_append_drop]
  rw [e, ByteArray.size_append]; omega
theorem occG_take (G : List Ru) {j : Nat} {r : Ru} (h : G[j]? = some r) : occG (G.take (j + 1)) = occG (G.take j) + (nmF r.b 0).length := by
  rw [(nodesG_take G h).1]; simp [occG]
end Go.Proofs.YtkmjmfcanlknjaaGreat
namespace Go.Proofs.YtkmjmfcanlknjaaGreat
open Go.RowKit Go.Maps

set_option maxRecDepth 100000 in
set_option maxHeartbeats 3200000 in
theorem rUsed_any (v : Value) (G : List Ru) (k : Int) (w : World) (h : RdRu w v G) (hl : LimG G) :
    Calls Tryz.prog 51 #[v, .int .i64 k] w fun e w' => ∃ v', e = .returned v' ∧ OwnStr w' w.heap.size v' (used k G) ∧ Below w.heap.size w w' := by
  obtain ⟨P, rfl, hR⟩ := h
  have HR := Lib.hid hR
  have HL := Lib.hid hl
  obtain ⟨⟨_, ao, cap, rfl, -⟩, -⟩ := hR
  have hpl : P.length ≤ 4398046511104 := by have := hl.len; rwa [List.length_map] at this
  have HI := Lib.hid rInsert_any
  clear hl
  generalize hG : P.map (·.1) = G at *
  have HG := Lib.hid hG
  have HGL : Hid (G.length = P.length) := by unfold Hid; rw [← hG, List.length_map]
  clear hG
  go_enter Tryz.func51, Tryz.ntmps51
  go_wp2_with fail
  go_loopw [5, 6] (fun o i wr => ∃ j : Nat, i = .int .i64 j ∧ j ≤ P.length ∧ Hid (OwnStr wr w.heap.size o (usedL (namesK k (G.take j)))) ∧ Hid (Below w.heap.size w wr)) (fun _ i _ => P.length - (intOf i).toNat)
  case atStart => exact ⟨0, rfl, by omega, World.ownsRow_nil _ _ _ _, Below.refl _ _⟩
  case round =>
    obtain ⟨j, rfl, hj, HO, HBel⟩ := hrel
    have hws := HBel.out.size
    by_cases hlt : j < P.length
    · obtain ⟨p, hp⟩ : ∃ p, P[j]? = some p := ⟨_, List.getElem?_eq_getElem hlt⟩
      obtain ⟨b, off, cp, e1, hb, hc, x0, x1, hrd⟩ := RdP.at HR.out hp
      simp only [Value.slice.injEq] at e1
      obtain ⟨rfl, -, rfl⟩ := e1
      have HGP : Hid (G[j]? = some p.1) := by unfold Hid; rw [← HG.out, List.getElem?_map, hp]; rfl
      have HV := Lib.hid hrd
      obtain ⟨_, ao3, cp3, hv2, -⟩ := id hrd
      obtain ⟨⟨ph, pb⟩, pv⟩ := p
      simp only at hv2 x0 x1 HGP HV
      subst hv2
      have HX1 : Hid (∀ wx, Below w.heap.size w wx → wx.cell? ⟨b, off + j * 2 + 1, none⟩ = some (.slice ao3 pb.length cp3)) := fun wx hbx => (hbx.cell (p := ⟨b, _, none⟩) hb).trans x1
      have hbl : pb.length ≤ 4398046511104 := Nat.le_trans (body_le (List.mem_of_getElem? HGP.out)) HL.out.nodes
      have hnn : Hid (∀ q, (namesK k (G.take j) ++ namesF k (pb.take q)).length ≤ 4398046511104) := fun q => by
        have h1 := nodesG_le G (j + 1)
        rw [(nodesG_take G HGP.out).2] at h1
        have h2 := HL.out.nodes
        have h3 := namesK_len k (G.take j)
        have h4 := namesF_len k (pb.take q)
        have h5 : (pb.take q).length ≤ pb.length := List.length_take_le' _ _
        simp only [List.length_append] at *
        omega
      clear x0 x1 hp hrd
      have X1 := HX1.out wr HBel.out
      go_wp2_with fail
      go_loopw [5, 7] (fun o i wr => ∃ q : Nat, i = .int .i64 q ∧ q ≤ pb.length ∧ Hid (OwnStr wr w.heap.size o (usedL (namesK k (G.take j) ++ namesF k (pb.take q)))) ∧ Hid (Below w.heap.size w wr)) (fun _ i _ => pb.length - (intOf i).toNat)
      case atStart => exact ⟨0, rfl, by omega, by simpa [namesF] using HO, HBel⟩
      case round =>
        clear X1 HO HBel
        obtain ⟨q, rfl, hq, HO, HBel⟩ := hrel
        have hws := HBel.out.size
        have X1 := HX1.out _ HBel.out
        by_cases hlq : q < pb.length
        · obtain ⟨x, hx⟩ : ∃ x, pb[q]? = some x := ⟨_, List.getElem?_eq_getElem hlq⟩
          obtain ⟨b4, off4, cp4, e1, hb4, hc4, y0, y1, y2⟩ := RdNd.at HV.out hx
          simp only [Value.slice.injEq] at e1
          obtain ⟨rfl, -, rfl⟩ := e1
          have Y0 := (HBel.out.cell (p := ⟨b4, _, none⟩) hb4).trans y0
          have Y1 := (HBel.out.cell (p := ⟨b4, _, none⟩) hb4).trans y1
          have HX := Lib.hid hx
          clear y0 y1 y2 hx
          by_cases hk : x.k = k
          · have HK : Hid (namesK k (G.take j) ++ namesF k (pb.take (q + 1)) = (namesK k (G.take j) ++ namesF k (pb.take q)) ++ [x.n]) := by unfold Hid; rw [namesF_take k pb HX.out, if_pos hk, List.append_assoc]
            subst hk
            have hin := HI.out _ _ x.n _ (RdS.of_own HO.out) (Nat.le_trans (usedL_len _) (hnn.out q))
            have HIn := Lib.hid hin
            clear hin
            go_wp2_with (go_at_call 99; refine (HIn.out).mono ?_; rintro e w2 ⟨v2, rfl, ho2, hb2⟩)
            have HO2 : Hid (OwnStr w2 w.heap.size v2 (usedL (namesK x.k (G.take j) ++ namesF x.k (pb.take (q + 1))))) := by unfold Hid; rw [HK.out, usedL_snoc]; exact own_lower ho2 hws
            have HB2 : Hid (Below w.heap.size w w2) := HBel.out.trans (hb2.mono hws)
            clear ho2 hb2
            go_roundw
            case rel => exact ⟨q + 1, by go_num, by omega, HO2, HB2⟩
            case measure => simp [intOf]; omega
          · have HK : Hid (namesK k (G.take j) ++ namesF k (pb.take (q + 1)) = namesK k (G.take j) ++ namesF k (pb.take q)) := by unfold Hid; rw [namesF_take k pb HX.out, if_neg hk, List.append_nil]
            have hk2 : (x.k == k) = false := by simpa using hk
            clear hk
            go_wp2_with fail
            go_roundw
            case rel => exact ⟨q + 1, by go_num, by omega, by rw [HK.out]; exact HO, HBel⟩
            case measure => simp [intOf]; omega
        · obtain rfl : q = pb.length := by omega
          have HO2 := HO.out
          rw [List.take_of_length_le (Nat.le_refl _), ← namesK_take k G HGP.out] at HO2
          have HO3 := Lib.hid HO2
          clear HO2
          go_wp2_with fail
          go_roundw
          case rel => exact ⟨j + 1, by go_num, by omega, HO3, HBel⟩
          case measure => simp [intOf]; omega
    · obtain rfl : j = P.length := by omega
      go_wp2_with fail
      go_ret
      have h1 := HO.out
      have h2 := HBel.out
      rw [List.take_of_length_le (by have := HGL.out; omega)] at h1
      exact ⟨_, rfl, h1, h2⟩
theorem rLabels_any (v : Value) (G : List Ru) (w : World) (h : RdRu w v G) (hl : LimG G) :
    Calls Tryz.prog 25 #[v] w fun e w' => ∃ v', e = .returned v' ∧ OwnStr w' w.heap.size v' (used 3 G) ∧ Below w.heap.size w w' := by
  have HU := Lib.hid (rUsed_any v G 3 w h hl)
  obtain ⟨P, rfl, hR⟩ := h
  obtain ⟨⟨_, ao, cap, rfl, -⟩, -⟩ := hR
  clear hl
  generalize P.map (·.1) = G at *
  go_enter Tryz.func25, Tryz.ntmps25
  go_wp2_with (go_at_call 51; refine (HU.out).mono ?_; rintro e w2 ⟨v2, rfl, ho2, hb2⟩)
  go_ret
  exact ⟨_, rfl, ho2, hb2⟩
/-! ### the occurrences -/
set_option maxRecDepth 100000 in
set_option maxHeartbeats 3200000 in
theorem rOccG_any (v : Value) (G : List Ru) (w : World) (h : RdRu w v G) (hl : LimG G) :
    Calls Tryz.prog 26 #[v] w fun e w' => e = .returned (.int .i64 (occG G)) ∧ Below w.heap.size w w' := by
  obtain ⟨P, rfl, hR⟩ := h
  have HR := Lib.hid hR
  have HL := Lib.hid hl
  obtain ⟨⟨_, ao, cap, rfl, -⟩, -⟩ := hR
  have hpl : P.length ≤ 4398046511104 := by have := hl.len; rwa [List.length_map] at this
  clear hl
  generalize hG : P.map (·.1) = G at *
  have HG := Lib.hid hG
  have HGL : Hid (G.length = P.length) := by unfold Hid; rw [← hG, List.length_map]
  clear hG
  have hle : Hid (∀ j, occG (G.take j) ≤ 4398046511104) := fun j => Nat.le_trans (occG_len _) (Nat.le_trans (nodesG_le G j) HL.out.nodes)
  go_enter Tryz.func26, Tryz.ntmps26
  go_wp2_with fail
  go_loopw [3, 4] (fun o i wr => ∃ j : Nat, i = .int .i64 j ∧ o = .int .i64 (occG (G.take j)) ∧ j ≤ P.length ∧ Hid (Below w.heap.size w wr)) (fun _ i _ => P.length - (intOf i).toNat)
  case atStart => exact ⟨0, rfl, rfl, by omega, Below.refl _ _⟩
  case round =>
    obtain ⟨j, rfl, rfl, hj, HBel⟩ := hrel
    have hws := HBel.out.size
    by_cases hlt : j < P.length
    · obtain ⟨p, hp⟩ : ∃ p, P[j]? = some p := ⟨_, List.getElem?_eq_getElem hlt⟩
      obtain ⟨b, off, cp, e1, hb, hc, x0, x1, hrd⟩ := RdP.at HR.out hp
      simp only [Value.slice.injEq] at e1
      obtain ⟨rfl, -, rfl⟩ := e1
      have X1 := (HBel.out.cell (p := ⟨b, _, none⟩) hb).trans x1
      have HGP : Hid (G[j]? = some p.1) := by unfold Hid; rw [← HG.out, List.getElem?_map, hp]; rfl
      have hbl : p.1.b.length ≤ 4398046511104 := Nat.le_trans (body_le (List.mem_of_getElem? HGP.out)) HL.out.nodes
      have HC := Lib.hid (fun wx h => rOcc_any p.2 p.1.b wx h hbl)
      have HT := Lib.hid (occG_take G HGP.out)
      have h1 := hle.out j
      have h2 := hle.out (j + 1)
      rw [HT.out] at h2
      have HV := Lib.hid (hrd.below HBel.out)
      obtain ⟨_, ao3, cp3, hv2, -⟩ := id hrd
      obtain ⟨⟨ph, pb⟩, pv⟩ := p
      simp only at hv2 X1 HGP HC HT HV h2
      subst hv2
      clear x0 x1 hp hrd hbl
      generalize (nmF pb 0).length = oc at *
      generalize occG (G.take j) = oj at *
      go_wp2_with (go_at_call 52; refine (HC.out _ HV.out).mono ?_; rintro e w2 ⟨rfl, hb2⟩; have HB2 := Lib.hid (HBel.out.trans (hb2.mono hws)); clear hb2)
      go_roundw
      case rel => exact ⟨j + 1, by go_num, by rw [HT.out]; simp, by omega, HB2.out⟩
      case measure => simp [intOf]; omega
    · obtain rfl : j = P.length := by omega
      have HE : Hid (occG (G.take P.length) = occG G) := by unfold Hid; rw [List.take_of_length_le (by have := HGL.out; omega)]
      go_wp2_with fail
      go_ret
      rw [HE.out]
      exact ⟨rfl, HBel.out⟩
/-! ### what is missing -/
theorem miss_take (l hs : List ByteArray) {j : Nat} {x : ByteArray} (h : l[j]? = some x) : (notIn (l.take (j + 1)) hs).length = (notIn (l.take j) hs).length + (if x ∈ hs then 0 else 1) := by
  obtain ⟨h1, h2⟩ := List.getElem?_eq_some_iff.1 h
  rw [List.take_succ_eq_append_getElem h1, h2]
  unfold notIn
  rw [List.filter_append, List.length_append]
  by_cases hx : x ∈ hs <;> simp [hx]
theorem missing_eq (G : List Ru) : missing G = (notIn (used 2 G) (heads G)).length := rfl
set_option maxRecDepth 100000 in
set_option maxHeartbeats 3200000 in
theorem rMissing_any (v : Value) (G : List Ru) (w : World) (h : RdRu w v G) (hl : LimG G) :
    Calls Tryz.prog 33 #[v] w fun e w' => e = .returned (.int .i64 (missing G)) ∧ Below w.heap.size w w' := by
  have HH := Lib.hid (rHeads_any v G w h hl)
  have HU := Lib.hid (fun w h => rUsed_any v G 2 w h hl)
  have HV := Lib.hid h
  have hul : (used 2 G).length ≤ 4398046511104 := Nat.le_trans (used_len 2 G) hl.nodes
  have hhl : (heads G).length ≤ 4398046511104 := Nat.le_trans (heads_len G) hl.len
  have HM := Lib.hid (missing_eq G)
  have HI := Lib.hid rIn_any
  obtain ⟨P, rfl, hR⟩ := h
  obtain ⟨⟨_, ao, cap, rfl, -⟩, -⟩ := hR
  clear hl
  generalize P.map (·.1) = G at *
  rw [HM.out]
  clear HM
  go_enter Tryz.func33, Tryz.ntmps33
  go_wp2_with fail
  refine (HH.out).mono ?_
  rintro e w1 ⟨v1, rfl, ho1, hb1⟩
  have HO1 := Lib.hid (RdS.of_own ho1)
  have HB1 := Lib.hid hb1
  obtain ⟨ao1, cp1, rfl⟩ := own_str_shape ho1
  clear ho1 hb1
  go_wp2_with fail
  refine (HU.out _ (HV.out.below HB1.out)).mono ?_
  rintro e w2 ⟨v2, rfl, ho2, hb2⟩
  have HO2 := Lib.hid (RdS.of_own ho2)
  have HO1' := Lib.hid (HO1.out.below hb2)
  have HB2 := Lib.hid (HB1.out.trans (hb2.mono HB1.out.size))
  obtain ⟨ao2, cp2, rfl⟩ := own_str_shape ho2
  clear ho2 hb2 HO1 HB1 HH HU HV
  generalize hul2 : used 2 G = ul at *
  generalize hhs2 : heads G = hs at *
  have HUl := Lib.hid hul2
  have HHs := Lib.hid hhs2
  clear hul2 hhs2
  go_wp2_with fail
  go_loop [5, 6] (fun n i => ∃ j : Nat, i = .int .i64 j ∧ j ≤ ul.length ∧ n = .int .i64 (notIn (ul.take j) hs).length) (fun _ i => ul.length - (intOf i).toNat)
  case atStart => exact ⟨0, rfl, by omega, by simp [notIn]⟩
  case round =>
    obtain ⟨j, rfl, hj, rfl⟩ := hrel
    have hnl : (notIn (ul.take j) hs).length ≤ j := Nat.le_trans (List.length_filter_le _ _) (List.length_take_le _ _)
    by_cases hlt : j < ul.length
    · obtain ⟨x, hx⟩ : ∃ x, ul[j]? = some x := ⟨_, List.getElem?_eq_getElem hlt⟩
      obtain ⟨b, off, cp, e1, hb, hc, x0⟩ := RdS.at HO2.out hx
      simp only [Value.slice.injEq] at e1
      obtain ⟨rfl, -, rfl⟩ := e1
      have HT := Lib.hid (miss_take ul hs hx)
      clear hx
      generalize (notIn (ul.take j) hs).length = nj at *
      by_cases hm : x ∈ hs
      · have hd : decide (x ∈ hs) = true := by simpa using hm
        rw [if_pos hm] at HT
        clear hm
        go_wp2_with (go_at_call 50; refine (HI.out _ hs x _ HO1'.out (by omega)).mono ?_; rintro e w' ⟨rfl, rfl⟩)
        go_round
        case rel => exact ⟨j + 1, by go_num, by omega, by rw [HT.out]; rfl⟩
        case measure => simp [intOf]; omega
      · have hd : decide (x ∈ hs) = false := by simpa using hm
        rw [if_neg hm] at HT
        clear hm
        go_wp2_with (go_at_call 50; refine (HI.out _ hs x _ HO1'.out (by omega)).mono ?_; rintro e w' ⟨rfl, rfl⟩)
        go_round
        case rel => exact ⟨j + 1, by go_num, by omega, by rw [HT.out]; simp⟩
        case measure => simp [intOf]; omega
    · obtain rfl : j = ul.length := by omega
      go_wp2_with fail
      go_ret
      exact ⟨by rw [HUl.out, HHs.out]; rfl, HB2.out⟩
end Go.Proofs.YtkmjmfcanlknjaaGreat
namespace Go.Proofs.YtkmjmfcanlknjaaGreat
open Go.RowKit

/-! ### plain: a tree for the words the other way round -/
def Fo.rev : Fo → Fo
  | .nil => .nil
  | .cons x k r => r.rev.app (.cons x k .nil)
def ordF (x : Nd) (k : Fo) : Fo := if x.k = 4 then k.rev else k
def Fo.tn : Fo → Fo
  | .nil => .nil
  | .cons x k r => .cons x (ordF x k.tn) r.tn
def Fo.flats : Fo → List (List Nd)
  | .nil => []
  | .cons x k r => (x :: k.flat) :: r.flats
def tnN (x : Nd) (k : Fo) : List Nd := x :: (ordF x k.tn).flat
theorem flat_flats (f : Fo) : f.flat = f.flats.flatten := by
  induction f with
  | nil => rfl
  | cons x k r _ ih => simp [Fo.flat, Fo.flats, ih]
theorem flats_app (f g : Fo) : (f.app g).flats = f.flats ++ g.flats := by
  induction f with
  | nil => rfl
  | cons x k r _ ih => simp [Fo.app, Fo.flats, ih]
theorem flats_rev (f : Fo) : f.rev.flats = f.flats.reverse := by
  induction f with
  | nil => rfl
  | cons x k r _ ih => simp [Fo.rev, flats_app, Fo.flats, ih]
theorem flats_len (f : Fo) : f.flats.length = f.len := by
  induction f with
  | nil => rfl
  | cons x k r _ ih => simp [Fo.flats, Fo.len, ih]
theorem rev_len (f : Fo) : f.rev.len = f.len := by rw [← flats_len, flats_rev, List.length_reverse, flats_len]
theorem ord_len (x : Nd) (f : Fo) : (ordF x f).len = f.len := by unfold ordF; split; exact rev_len f; rfl
theorem tn_len (f : Fo) : f.tn.len = f.len := by
  induction f with
  | nil => rfl
  | cons x k r _ ih => simp [Fo.tn, Fo.len, ih]
theorem rev_size (f : Fo) : f.rev.size = f.size := by
  induction f with
  | nil => rfl
  | cons x k r _ ih => simp [Fo.rev, Fo.size_app, Fo.size, ih]; omega
theorem ord_size (x : Nd) (f : Fo) : (ordF x f).size = f.size := by unfold ordF; split; exact rev_size f; rfl
theorem tn_size (f : Fo) : f.tn.size = f.size := by
  induction f with
  | nil => rfl
  | cons x k r ih1 ih => simp [Fo.tn, Fo.size, ih, ord_size, ih1]
theorem app_height (f g : Fo) : (f.app g).height = max f.height g.height := by
  induction f with
  | nil => simp [Fo.app, Fo.height]
  | cons x k r _ ih => simp only [Fo.app, Fo.height, ih]; omega
theorem rev_height (f : Fo) : f.rev.height = f.height := by
  induction f with
  | nil => rfl
  | cons x k r _ ih => simp only [Fo.rev, app_height, Fo.height, ih]; omega
theorem ord_height (x : Nd) (f : Fo) : (ordF x f).height = f.height := by unfold ordF; split; exact rev_height f; rfl
theorem tn_height (f : Fo) : f.tn.height = f.height := by
  induction f with
  | nil => rfl
  | cons x k r ih1 ih => simp only [Fo.tn, Fo.height, ih, ord_height, ih1]
theorem app_assoc' (f g h : Fo) : (f.app g).app h = f.app (g.app h) := by
  induction f with
  | nil => rfl
  | cons x k r _ ih => simp [Fo.app, ih]
theorem rev_app (f g : Fo) : (f.app g).rev = g.rev.app f.rev := by
  induction f with
  | nil => simp [Fo.app, Fo.rev, foApp_nil]
  | cons x k r _ ih => simp [Fo.app, Fo.rev, ih, app_assoc']
theorem rev_rev (f : Fo) : f.rev.rev = f := by
  induction f with
  | nil => rfl
  | cons x k r _ ih => simp [Fo.rev, rev_app, ih, Fo.app]
theorem tn_app (f g : Fo) : (f.app g).tn = f.tn.app g.tn := by
  induction f with
  | nil => rfl
  | cons x k r _ ih => simp [Fo.app, Fo.tn, ih]
theorem tn_rev (f : Fo) : f.rev.tn = f.tn.rev := by
  induction f with
  | nil => rfl
  | cons x k r _ ih => simp [Fo.rev, tn_app, Fo.tn, ih]
theorem tn_tn (f : Fo) : f.tn.tn = f := by
  induction f with
  | nil => rfl
  | cons x k r ih1 ih =>
    simp only [Fo.tn, ih]
    congr 1
    unfold ordF
    split
    · rw [tn_rev, rev_rev, ih1]
    · exact ih1
theorem wf_app' (f g : Fo) : (f.app g).wf ↔ f.wf ∧ g.wf := ⟨Fo.wf_app_inv f g, fun h => Fo.wf_app f g h.1 h.2⟩
theorem rev_wf (f : Fo) (h : f.wf) : f.rev.wf := by
  induction f with
  | nil => trivial
  | cons x k r _ ih => exact Fo.wf_app _ _ (ih h.2.2) ⟨h.1, h.2.1, trivial⟩
theorem ord_wf (x : Nd) (f : Fo) (h : f.wf) : (ordF x f).wf := by unfold ordF; split; exact rev_wf f h; exact h
theorem tn_wf (f : Fo) (h : f.wf) : f.tn.wf := by
  induction f with
  | nil => trivial
  | cons x k r ih1 ih => exact ⟨by rw [ord_len, tn_len]; exact h.1, ord_wf _ _ (ih1 h.2.1), ih h.2.2⟩
theorem rev_all {P : Nd → Prop} (f : Fo) (h : f.all P) : f.rev.all P := by
  induction f with
  | nil => trivial
  | cons x k r _ ih => exact Fo.all_app _ _ (ih h.2.2) ⟨h.1, h.2.1, trivial⟩
theorem ord_all {P : Nd → Prop} (x : Nd) (f : Fo) (h : f.all P) : (ordF x f).all P := by unfold ordF; split; exact rev_all f h; exact h
theorem tn_all {P : Nd → Prop} (f : Fo) (h : f.all P) : f.tn.all P := by
  induction f with
  | nil => trivial
  | cons x k r ih1 ih => exact ⟨h.1, ord_all _ _ (ih1 h.2.1), ih h.2.2⟩
theorem tn_get (f : Fo) : ∀ (i : Nat) (y : Nd) (kk : Fo), f.get i = .cons y kk .nil → f.tn.flats[i]? = some (tnN y kk) := by
  induction f with
  | nil => intro i y kk h; cases h
  | cons x k r _ ih =>
    intro i y kk h
    cases i with
    | zero =>
      simp only [Fo.get, Fo.cons.injEq, and_true] at h
      obtain ⟨rfl, rfl⟩ := h
      rfl
    | succ i => simpa [Fo.tn, Fo.flats] using ih i y kk h
/-! ### plain: sizes of texts -/
theorem joinS_len (sep : ByteArray) (l : List ByteArray) : (joinS sep l).size = (l.map (·.size)).sum + (l.length - 1) * sep.size := by
  have e : (joinS sep l).size = (Lib.join (l.map (·.data.toList)) sep.data.toList).length := by unfold joinS; simp [ByteArray.size]
  rw [e]
  cases l with
  | nil => simp [Lib.join_nil]
  | cons a r =>
    have key : ∀ r : List ByteArray, (Lib.joinTail sep.data.toList (r.map (·.data.toList))).length = (r.map (·.size)).sum + r.length * sep.size := by
      intro r
      induction r with
      | nil => simp [Lib.joinTail]
      | cons y r ih =>
        have h1 : y.data.toList.length = y.size := by rw [Array.length_toList]; rfl
        have h2 : sep.data.toList.length = sep.size := by rw [Array.length_toList]; rfl
        simp only [Lib.joinTail, List.map_cons, List.flatten_cons, List.length_append, List.sum_cons, List.length_cons] at ih ⊢
        rw [ih, h1, h2, Nat.succ_mul]
        omega
    have e9 : Lib.join ((a :: r).map (·.data.toList)) sep.data.toList = a.data.toList ++ Lib.joinTail sep.data.toList (r.map (·.data.toList)) := by rw [List.map_cons, Lib.join_cons]
    rw [e9, List.length_append, key]
    have h1 : a.data.toList.length = a.size := by rw [Array.length_toList]; rfl
    simp only [List.map_cons, List.sum_cons, List.length_cons]
    rw [h1]
    have : r.length + 1 - 1 = r.length := by omega
    rw [this]
    omega
def kz (f : Fo) : List (Int × Nat) := f.tx.map fun p => (p.1, p.2.size)
def bz (pk : Int) (p : Int × Nat) : Nat := if brkB pk p.1 = true then p.2 + 2 else p.2
theorem brk_bz (pk k : Int) (t : ByteArray) : (brk pk k t).size = bz pk (k, t.size) := by
  unfold brk bz
  split
  · rw [ByteArray.size_append, ByteArray.size_append]
    have e1 : (⟨#[40]⟩ : ByteArray).size = 1 := rfl
    have e2 : (⟨#[41]⟩ : ByteArray).size = 1 := rfl
    omega
  · rfl
theorem tx_app (f g : Fo) : (f.app g).tx = f.tx ++ g.tx := by
  induction f with
  | nil => rfl
  | cons x k r _ ih => simp [Fo.app, Fo.tx, ih]
theorem tx_rev (f : Fo) : f.rev.tx = f.tx.reverse := by
  induction f with
  | nil => rfl
  | cons x k r _ ih => simp [Fo.rev, tx_app, Fo.tx, ih]
theorem txN_size (x : Nd) (k : Fo) : (txN x k.tx).size = if x.k = 1 then 1 else if x.k = 2 ∨ x.k = 3 then x.n.size else ((kz k).map (bz x.k)).sum + ((kz k).length - 1) * (sepK x.k).size + (signK x.k).size := by
  unfold txN
  split
  · rfl
  · split
    · rfl
    · rw [ByteArray.size_append, joinS_len]
      congr 2
      · congr 1
        unfold kz
        rw [List.map_map, List.map_map]
        apply List.map_congr_left
        intro p _
        exact brk_bz _ _ _
      · rw [List.length_map]; unfold kz; rw [List.length_map]
theorem kz_ord (x : Nd) (f : Fo) : ((kz (ordF x f)).map (bz x.k)).sum = ((kz f).map (bz x.k)).sum ∧ (kz (ordF x f)).length = (kz f).length := by
  unfold ordF
  split
  · unfold kz
    rw [tx_rev]
    simp [List.map_reverse, List.sum_reverse]
  · exact ⟨rfl, rfl⟩
theorem kz_tn (f : Fo) : kz f.tn = kz f := by
  induction f with
  | nil => rfl
  | cons x k r ih1 ih =>
    have e1 : kz (Fo.cons x k r) = (x.k, (txN x k.tx).size) :: kz r := rfl
    have e2 : kz (Fo.cons x k r).tn = (x.k, (txN x (ordF x k.tn).tx).size) :: kz r.tn := rfl
    rw [e1, e2, ih, txN_size, txN_size, (kz_ord x k.tn).1, (kz_ord x k.tn).2, ih1]
theorem bounds_tn (x : Nd) (k : Fo) : boundsF x (ordF x k.tn) = boundsF x k := by
  have h : kz (Fo.cons x k .nil).tn = kz (Fo.cons x k .nil) := kz_tn _
  have hs : (txN x (ordF x k.tn).tx).size = (txN x k.tx).size := by
    have e1 : kz (Fo.cons x k .nil) = [(x.k, (txN x k.tx).size)] := rfl
    have e2 : kz (Fo.cons x k .nil).tn = [(x.k, (txN x (ordF x k.tn).tx).size)] := rfl
    rw [e1, e2] at h
    simpa using h
  unfold boundsF
  rw [ord_height, tn_height, hs]
theorem good_tn {N : List Nd} {x : Nd} {k : Fo} (h : GoodT N x k) : GoodT (tnN x k) x (ordF x k.tn) := by
  have hw := tn_wf _ h.wf
  have ha := tn_all _ h.all
  exact ⟨by simp [tnN, Fo.flat], hw, ha⟩
theorem tnN_tn (x : Nd) (k : Fo) : tnN x (ordF x k.tn) = (Fo.cons x k .nil).flat := by
  have h := tn_tn (Fo.cons x k .nil)
  have e : tnN x (ordF x k.tn) = (Fo.cons x k .nil).tn.tn.flat := by simp [tnN, Fo.tn, Fo.flat]
  rw [e, h]
theorem tnN_len (x : Nd) (k : Fo) : (tnN x k).length = k.size + 1 := by
  unfold tnN; rw [List.length_cons, Fo.flat_len, ord_size, tn_size]
/-- the kids in the order in which they are turned -/
def ordL (x : Nd) (k : Fo) : List (List Nd) := (ordF x k.tn).flats
theorem ordL_len (x : Nd) (k : Fo) : (ordL x k).length = k.len := by unfold ordL; rw [flats_len, ord_len, tn_len]
theorem ordL_flat (x : Nd) (k : Fo) : tnN x k = x :: (ordL x k).flatten := by unfold tnN ordL; rw [flat_flats]
def ordI (x : Nd) (n j : Nat) : Nat := if x.k = 4 then n - 1 - j else j
theorem ordL_at (x : Nd) (k : Fo) (j : Nat) (h : j < k.len) (y : Nd) (kk : Fo) (hg : k.get (ordI x k.len j) = .cons y kk .nil) : (ordL x k)[j]? = some (tnN y kk) := by
  unfold ordL ordF
  unfold ordI at hg
  split
  · rename_i h4
    rw [if_pos h4] at hg
    rw [flats_rev, List.getElem?_reverse (by rw [flats_len, tn_len]; exact h), flats_len, tn_len]
    exact tn_get k _ y kk hg
  · rename_i h4
    rw [if_neg h4] at hg
    exact tn_get k _ y kk hg
theorem ordL_take (x : Nd) (k : Fo) (j : Nat) (y : Nd) (kk : Fo) (h : (ordL x k)[j]? = some (tnN y kk)) : (x :: ((ordL x k).take j).flatten).length + (kk.size + 1) ≤ k.size + 1 := by
  have e1 : (ordL x k).take (j + 1) = (ordL x k).take j ++ [tnN y kk] := by rw [List.take_add_one, h]; rfl
  have e2 : ((ordL x k).take (j + 1)).flatten.length ≤ (ordL x k).flatten.length := by
    conv => rhs; rw [← List.take_append_drop (j + 1) (ordL x k), List.flatten_append, List.length_append]
    omega
  have e3 : (ordL x k).flatten.length = k.size := by
    have := congrArg List.length (ordL_flat x k)
    rw [tnN_len] at this
    simp at this ⊢
    omega
  rw [e1, List.flatten_append, List.length_append] at e2
  have e4 := tnN_len y kk
  simp only [List.flatten_cons, List.flatten_nil, List.append_nil] at e2
  rw [List.length_cons]
  omega
/-- what Turn answers -/
def TuS (N l : List Nd) (e : Int) : Prop :=
  (e ≠ 0 ∧ ChkS N e ∧ l = []) ∨ (e = 0 ∧ N.length ≤ 2048 ∧ ∃ x k, GoodT N x k ∧ boundsF x k = 0 ∧ l = tnN x k)
theorem tuS_ex (N : List Nd) : ∃ l e, TuS N l e := by
  obtain ⟨e, h⟩ := chkS_ex N
  by_cases he : e = 0
  · rcases h with ⟨_, h⟩ | ⟨_, _, h⟩ | ⟨h1, x, k, h2, h3⟩
    · omega
    · omega
    · exact ⟨_, 0, .inr ⟨rfl, h1, x, k, h2, by omega, rfl⟩⟩
  · exact ⟨_, e, .inl ⟨he, h, rfl⟩⟩
theorem TuS.chk {N l : List Nd} {e : Int} (h : TuS N l e) : ChkS N e := by
  rcases h with ⟨_, h, _⟩ | ⟨rfl, h1, x, k, h2, h3, _⟩
  · exact h
  · exact .inr (.inr ⟨h1, x, k, h2, h3.symm⟩)
theorem TuS.again {N l : List Nd} {e : Int} (h : TuS N l e) (he : e = 0) : TuS l N 0 := by
  rcases h with ⟨h, _⟩ | ⟨_, h1, x, k, h2, h3, rfl⟩
  · exact absurd he h
  · refine .inr ⟨rfl, by rw [tnN_len]; have := h2.len; omega, x, ordF x k.tn, good_tn h2, by rw [bounds_tn]; exact h3, ?_⟩
    rw [tnN_tn]; exact h2.flat
theorem TuS.len {N l : List Nd} {e : Int} (h : TuS N l e) : l.length ≤ 2048 := by
  rcases h with ⟨_, _, rfl⟩ | ⟨_, h1, x, k, h2, h3, rfl⟩
  · simp
  · rw [tnN_len]; have := h2.len; omega
end Go.Proofs.YtkmjmfcanlknjaaGreat
namespace Go.Proofs.YtkmjmfcanlknjaaGreat
open Go.RowKit Go.Shelf

/-! ### slices.Reverse of the kids -/
end Go.Proofs.YtkmjmfcanlknjaaGreat
namespace Go.Proofs.YtkmjmfcanlknjaaGreat
open Go.RowKit Go.Shelf

/-! ### turn -/
def ordP (x : Nd) (l : List (Nat × Nat)) : List (Nat × Nat) := if x.k = 4 then l.reverse else l
theorem ordP_len (x : Nd) (l : List (Nat × Nat)) : (ordP x l).length = l.length := by unfold ordP; split <;> simp
theorem ordP_at (x : Nd) (l : List (Nat × Nat)) (j : Nat) (h : j < l.length) : (ordP x l)[j]? = l[ordI x l.length j]? := by
  unfold ordP ordI
  split
  · rw [List.getElem?_reverse h]
  · rfl

end Go.Proofs.YtkmjmfcanlknjaaGreat
namespace Go.Proofs.YtkmjmfcanlknjaaGreat
open Go.RowKit Go.Shelf

theorem own_types {w : World} {B B' : Nat} {e e' s s' : Nat} {v v' : Value} {n n' : Nat} {xs xs' : List Value} (h : w.ownsRow B e s v n xs) (h' : w.ownsRow B' e' s' v' n' xs') (he : e ≠ e') (j : Nat) (hj : v.ownBlock = some j) : v'.ownBlock ≠ some j := by
  intro hj'
  rcases h.2 with ⟨rfl, _⟩ | ⟨g, cap, cur, rfl, _, hg, _⟩
  · simp [Value.ownBlock] at hj
  · rcases h'.2 with ⟨rfl, _⟩ | ⟨g', cap', cur', rfl, _, hg', _⟩
    · simp [Value.ownBlock] at hj'
    · simp only [Value.ownBlock, Option.some.injEq] at hj hj'
      subst hj; subst hj'
      rw [hg] at hg'
      simp at hg'
      exact he hg'.2
/-! ### TurnAt -/
theorem treeAt_kid {N : List Nd} {p : Nat} {x : Nd} {k : Fo} {R : List Nd} (hT : TreeAt N p x k R) (i : Nat) (pc : Nat × Nat) (hpc : (k.pieces (p + 1))[i]? = some pc) (y : Nd) (kk : Fo) (hy : k.get i = .cons y kk .nil) (hw : y.c = kk.len ∧ kk.wf) :
    ∃ R2, TreeAt N pc.1 y kk R2 := by
  obtain ⟨q1, qa, qb, q2, q3, q4, q5, q6⟩ := Fo.flat_get k i (p + 1) pc hpc
  rw [hy] at q2
  have hd := hT.head.2.1
  refine ⟨qb ++ R, ?_, ⟨hw.1, hw.2, trivial⟩, by have := Fo.all_get k hT.all.2.1 i; rw [hy] at this; exact this⟩
  rw [show pc.1 = (p + 1) + (pc.1 - (p + 1)) from by omega, ← List.drop_drop, hd, q2, ← q3]
  simp

end Go.Proofs.YtkmjmfcanlknjaaGreat
namespace Go.Proofs.YtkmjmfcanlknjaaGreat
open Go.RowKit Go.Shelf
end Go.Proofs.YtkmjmfcanlknjaaGreat
namespace Go.Proofs.YtkmjmfcanlknjaaGreat
open Go.RowKit Go.Shelf

/-! ### plain: has a tree the empty word -/
def empN (x : Nd) (es : List Bool) : Bool := if x.k = 1 ∨ x.k = 6 ∨ x.k = 8 then true else if x.k = 4 ∨ x.k = 7 then es.all id else if x.k = 5 then es.any id else false
def Fo.emp : Fo → List Bool
  | .nil => []
  | .cons x k r => empN x k.emp :: r.emp
theorem Fo.emp_len (f : Fo) : f.emp.length = f.len := by
  induction f with
  | nil => rfl
  | cons x k r _ ih => simp [Fo.emp, Fo.len, ih]
theorem emp_get (f : Fo) : ∀ (i : Nat) (y : Nd) (kk : Fo), f.get i = .cons y kk .nil → f.emp[i]? = some (empN y kk.emp) := by
  induction f with
  | nil => intro i y kk h; cases h
  | cons x k r _ ih =>
    intro i y kk h
    cases i with
    | zero =>
      simp only [Fo.get, Fo.cons.injEq, and_true] at h
      obtain ⟨rfl, rfl⟩ := h
      rfl
    | succ i => simpa [Fo.emp] using ih i y kk h
theorem any_not (l : List Bool) : (l.map not).any id = !l.all id := by
  induction l with
  | nil => rfl
  | cons b l ih => cases b <;> simp_all
def AnyIx (bs : List Bool) (r : Int) : Prop := (r = -1 ∧ bs.any id = false) ∨ (0 ≤ r ∧ bs.any id = true)

/-! ### empty -/
/-! ### EmptyAt -/
theorem any_snoc (l : List Bool) (j : Nat) (q : Bool) (h : l[j]? = some q) : (l.take (j + 1)).any id = ((l.take j).any id || q) ∧ (l.take (j + 1)).all id = ((l.take j).all id && q) := by
  rw [List.take_add_one, h]; simp

end Go.Proofs.YtkmjmfcanlknjaaGreat
namespace Go.Proofs.YtkmjmfcanlknjaaGreat
open Go.RowKit Go.Shelf

def TreeS (N : List Nd) (hh : Int) (em : Bool) : Prop := (treeB N = false ∧ hh = 0 ∧ em = false) ∨ ∃ x k, GoodT N x k ∧ hh = ((k.height + 1 : Nat) : Int) ∧ em = empN x k.emp
theorem treeS_ex (N : List Nd) : ∃ hh em, TreeS N hh em := by
  cases ht : treeB N with
  | false => exact ⟨0, false, .inl ⟨ht, rfl, rfl⟩⟩
  | true =>
    obtain ⟨x, k, h1, h2, h3⟩ := tree_sound ht
    exact ⟨_, _, .inr ⟨x, k, ⟨h1, h2, h3⟩, rfl, rfl⟩⟩

set_option maxRecDepth 100000 in
set_option maxHeartbeats 1600000 in
theorem xHeightT_any (v : Value) (N : List Nd) (hh : Int) (em : Bool) (w : World) (h : RdNd w v N) (hS : TreeS N hh em) (hl : N.length ≤ 16777216) :
    Calls Tryz.prog 63 #[v] w fun e w' => e = .returned (.int .i64 hh) ∧ Below w.heap.size w w' := by
  have HW := Lib.hid (xWhole_any v N w h hl)
  rcases hS with ⟨h1, rfl, -⟩ | ⟨x, k, hG, rfl, -⟩
  · obtain ⟨_, ao, cap, rfl, -⟩ := h
    rw [h1] at HW
    generalize N.length = n at *
    clear h1
    go_enter Tryz.func63, Tryz.ntmps63
    go_wp2_with (go_at_call 103; refine (HW.out).mono ?_; rintro en w2 ⟨rfl, hb2⟩)
    go_ret
    exact ⟨rfl, hb2⟩
  · rw [hG.tree] at HW
    have HT : Hid (∀ wx, Below w.heap.size w wx → Calls Tryz.prog 104 #[v] wx fun e w' => e = .returned (.int .i64 ((k.height + 1 : Nat) : Int)) ∧ Below wx.heap.size wx w') := by
      intro wx hb
      have h2 := h.below hb
      have hln := hG.len
      obtain ⟨b, off, cap, rfl, hc, hat⟩ := NdAt.of_rd h2 (by omega)
      rw [hG.flat] at hat hc hl ⊢
      have hht : (Fo.cons x k .nil).height = k.height + 1 := by simp [Fo.height]
      have := xHeight_any b off cap (Fo.cons x k .nil) wx hat hG.wf hc (by omega)
      rw [hht] at this
      exact this
    clear hG
    obtain ⟨_, ao, cap, rfl, -⟩ := h
    generalize N.length = n at *
    generalize (k.height + 1) = q at *
    go_enter Tryz.func63, Tryz.ntmps63
    go_wp2_with (first | (go_at_call 103; refine (HW.out).mono ?_; rintro en w2 ⟨rfl, hb2⟩; have HB2 := Lib.hid hb2; clear hb2) | (go_at_call 104; refine (HT.out _ HB2.out).mono ?_; rintro en w3 ⟨rfl, hb3⟩))
    go_ret
    exact ⟨rfl, HB2.out.trans (hb3.mono HB2.out.size)⟩

set_option maxRecDepth 100000 in
set_option maxHeartbeats 1600000 in
theorem rHeightT_any (v : Value) (N : List Nd) (hh : Int) (em : Bool) (w : World) (h : RdNd w v N) (hS : TreeS N hh em) (hl : N.length ≤ 16777216) :
    Calls Tryz.prog 73 #[v] w fun e w' => e = .returned (.int .i64 hh) ∧ Below w.heap.size w w' := by
  have HW := Lib.hid (rIsTree_any v N w h hl)
  rcases hS with ⟨h1, rfl, -⟩ | ⟨x, k, hG, rfl, -⟩
  · obtain ⟨_, ao, cap, rfl, -⟩ := h
    rw [h1] at HW
    generalize N.length = n at *
    clear h1
    go_enter Tryz.func73, Tryz.ntmps73
    go_wp2_with (go_at_call 72; refine (HW.out).mono ?_; rintro en w2 ⟨rfl, hb2⟩)
    go_ret
    exact ⟨rfl, hb2⟩
  · rw [hG.tree] at HW
    have HT : Hid (∀ wx, Below w.heap.size w wx → Calls Tryz.prog 106 #[v, .int .i64 0] wx fun e w' => e = .returned (.int .i64 ((k.height + 1 : Nat) : Int)) ∧ Below wx.heap.size wx w') := by
      intro wx hb
      have h2 := h.below hb
      have hln := hG.len
      exact rHeight_all (k.size + 1) v N 0 x k [] wx (Nat.le_refl _) h2 hl ⟨by rw [List.drop_zero, List.append_nil]; exact hG.flat, hG.wf, hG.all⟩
    clear hG
    obtain ⟨_, ao, cap, rfl, -⟩ := h
    generalize N.length = n at *
    generalize (k.height + 1) = q at *
    go_enter Tryz.func73, Tryz.ntmps73
    go_wp2_with (first | (go_at_call 72; refine (HW.out).mono ?_; rintro en w2 ⟨rfl, hb2⟩; have HB2 := Lib.hid hb2; clear hb2) | (go_at_call 106; refine (HT.out _ HB2.out).mono ?_; rintro en w3 ⟨rfl, hb3⟩))
    go_ret
    exact ⟨rfl, HB2.out.trans (hb3.mono HB2.out.size)⟩

end Go.Proofs.YtkmjmfcanlknjaaGreat
namespace Go.Proofs.YtkmjmfcanlknjaaGreat
open Go.RowKit

theorem trees_take {G : List Ru} {j : Nat} {r : Ru} (h : G[j]? = some r) (h1 : treesB (G.take j) = true) (h2 : (nameB r.h 1 && treeB r.b) = true) : treesB (G.take (j + 1)) = true := by
  rw [(nodesG_take G h).1]
  unfold treesB at h1 ⊢
  rw [List.all_append, h1]; simp only [List.all_cons, List.all_nil, Bool.true_and, Bool.and_true]; exact h2
theorem trees_false {G : List Ru} {r : Ru} (h : r ∈ G) (h2 : (nameB r.h 1 && treeB r.b) = false) : treesB G = false := by
  unfold treesB
  rw [List.all_eq_false]
  exact ⟨r, h, by rw [h2]; simp⟩
set_option maxRecDepth 100000 in
set_option maxHeartbeats 3200000 in
theorem rTrees_any (v : Value) (G : List Ru) (w : World) (h : RdRu w v G) (hl : LimG G) (hn : nodesG G ≤ 16777216) :
    Calls Tryz.prog 32 #[v] w fun e w' => e = .returned (.bool (treesB G)) ∧ Below w.heap.size w w' := by
  obtain ⟨P, rfl, hR⟩ := h
  have HR := Lib.hid hR
  have HN := Lib.hid hn
  obtain ⟨⟨_, ao, cap, rfl, -⟩, -⟩ := hR
  have hpl : P.length ≤ 4398046511104 := by have := hl.len; rwa [List.length_map] at this
  have HC := Lib.hid (fun s w => rName_any s 85 1 w (.inl ⟨rfl, rfl⟩))
  clear hl
  generalize hG : P.map (·.1) = G at *
  have HG := Lib.hid hG
  have HGL : Hid (G.length = P.length) := by unfold Hid; rw [← hG, List.length_map]
  clear hG
  go_enter Tryz.func32, Tryz.ntmps32
  go_wp2_with fail
  go_loopw [3] (fun i wr => ∃ j : Nat, i = .int .i64 j ∧ j ≤ P.length ∧ Hid (treesB (G.take j) = true) ∧ Hid (Below w.heap.size w wr)) (fun i _ => P.length - (intOf i).toNat)
  case atStart => exact ⟨0, rfl, by omega, rfl, Below.refl _ _⟩
  case round =>
    obtain ⟨j, rfl, hj, HT, HBel⟩ := hrel
    have hws := HBel.out.size
    by_cases hlt : j < P.length
    · obtain ⟨p, hp⟩ : ∃ p, P[j]? = some p := ⟨_, List.getElem?_eq_getElem hlt⟩
      obtain ⟨b, off, cp, e1, hb, hc, x0, x1, hrd⟩ := RdP.at HR.out hp
      simp only [Value.slice.injEq] at e1
      obtain ⟨rfl, -, rfl⟩ := e1
      have X0 := (HBel.out.cell (p := ⟨b, _, none⟩) hb).trans x0
      have X1 := (HBel.out.cell (p := ⟨b, _, none⟩) hb).trans x1
      have HGP : Hid (G[j]? = some p.1) := by unfold Hid; rw [← HG.out, List.getElem?_map, hp]; rfl
      have hmem := List.mem_of_getElem? HGP.out
      have hbn : p.1.b.length ≤ 16777216 := Nat.le_trans (body_le hmem) HN.out
      have HTr := Lib.hid (rIsTree_any p.2 p.1.b wr (hrd.below HBel.out) hbn)
      have HNx := Lib.hid (trees_take HGP.out HT.out)
      have HFx := Lib.hid (trees_false hmem)
      obtain ⟨_, ao3, cp3, hv2, -⟩ := id hrd
      obtain ⟨⟨ph, pb⟩, pv⟩ := p
      simp only at hv2 X0 X1 HGP HTr HNx HFx
      subst hv2
      clear x0 x1 hp hrd hbn hmem
      have HC2 := Lib.hid (HC.out ph)
      cases hb1 : nameB ph 1 with
      | false =>
        rw [hb1] at HC2 HFx
        have HF := Lib.hid (HFx.out rfl)
        clear hb1 HNx HFx
        go_wp2_with (go_at_call 71; refine (HC2.out _).mono ?_; rintro e w2 ⟨rfl, rfl⟩)
        go_ret
        rw [HF.out]
        exact ⟨rfl, HBel.out⟩
      | true =>
        cases hb2 : treeB pb with
        | false =>
          rw [hb1] at HC2 HFx
          rw [hb2] at HFx HTr
          have HF := Lib.hid (HFx.out rfl)
          clear hb1 hb2 HNx HFx
          go_wp2_with (first
            | (go_at_call 71; refine (HC2.out _).mono ?_; rintro e w2 ⟨rfl, rfl⟩)
            | (go_at_call 72; refine (HTr.out).mono ?_; rintro e w3 ⟨rfl, hb3⟩))
          go_ret
          rw [HF.out]
          exact ⟨rfl, HBel.out.trans (hb3.mono hws)⟩
        | true =>
          rw [hb1] at HC2 HNx
          rw [hb2] at HNx HTr
          have HF := Lib.hid (HNx.out rfl)
          clear hb1 hb2 HNx HFx
          go_wp2_with (first
            | (go_at_call 71; refine (HC2.out _).mono ?_; rintro e w2 ⟨rfl, rfl⟩)
            | (go_at_call 72; refine (HTr.out).mono ?_; rintro e w3 ⟨rfl, hb3⟩; have HB3 := Lib.hid (HBel.out.trans (hb3.mono hws)); clear hb3))
          go_roundw
          case rel => exact ⟨j + 1, by go_num, by omega, HF, HB3⟩
          case measure => simp [intOf]; omega
    · obtain rfl : j = P.length := by omega
      have HE : Hid (treesB G = true) := by have := HT.out; rw [List.take_of_length_le (by have := HGL.out; omega)] at this; exact this
      go_wp2_with fail
      go_ret
      rw [HE.out]
      exact ⟨rfl, HBel.out⟩
/-! ### Deep -/
set_option maxRecDepth 100000 in
set_option maxHeartbeats 3200000 in
theorem rDeep_any (v : Value) (G : List Ru) (w : World) (h : RdRu w v G) (hl : LimG G) (hn : nodesG G ≤ 16777216) (ht : treesB G = true) :
    Calls Tryz.prog 34 #[v] w fun e w' => e = .returned (.bool (deepB G)) ∧ Below w.heap.size w w' := by
  obtain ⟨P, rfl, hR⟩ := h
  have HR := Lib.hid hR
  have HN := Lib.hid hn
  have HTr := Lib.hid ht
  obtain ⟨⟨_, ao, cap, rfl, -⟩, -⟩ := hR
  have hpl : P.length ≤ 4398046511104 := by have := hl.len; rwa [List.length_map] at this
  clear hl ht
  generalize hG : P.map (·.1) = G at *
  have HG := Lib.hid hG
  have HGL : Hid (G.length = P.length) := by unfold Hid; rw [← hG, List.length_map]
  clear hG
  go_enter Tryz.func34, Tryz.ntmps34
  go_wp2_with fail
  go_loopw [3] (fun i wr => ∃ j : Nat, i = .int .i64 j ∧ j ≤ P.length ∧ Hid (deepB (G.take j) = false) ∧ Hid (Below w.heap.size w wr)) (fun i _ => P.length - (intOf i).toNat)
  case atStart => exact ⟨0, rfl, by omega, rfl, Below.refl _ _⟩
  case round =>
    obtain ⟨j, rfl, hj, HD, HBel⟩ := hrel
    have hws := HBel.out.size
    by_cases hlt : j < P.length
    · obtain ⟨p, hp⟩ : ∃ p, P[j]? = some p := ⟨_, List.getElem?_eq_getElem hlt⟩
      obtain ⟨b, off, cp, e1, hb, hc, x0, x1, hrd⟩ := RdP.at HR.out hp
      simp only [Value.slice.injEq] at e1
      obtain ⟨rfl, -, rfl⟩ := e1
      have X1 := (HBel.out.cell (p := ⟨b, _, none⟩) hb).trans x1
      have HGP : Hid (G[j]? = some p.1) := by unfold Hid; rw [← HG.out, List.getElem?_map, hp]; rfl
      have hmem := List.mem_of_getElem? HGP.out
      have hbn : p.1.b.length ≤ 16777216 := Nat.le_trans (body_le hmem) HN.out
      have htr := (trees_mem HTr.out hmem).2
      have HH := Lib.hid (rHeightT_any p.2 p.1.b (heightN p.1.b) (empN (pickT p.1.b).1 (pickT p.1.b).2.emp) wr (hrd.below HBel.out) (.inr ⟨_, _, pickT_good htr, by rw [heightN_eq (pickT_good htr)], rfl⟩) hbn)
      have HDn : Hid (deepB (G.take (j + 1)) = decide (16 < heightN p.1.b)) := by
        unfold Hid
        rw [(nodesG_take G HGP.out).1]
        have := HD.out
        unfold deepB at this ⊢
        rw [List.any_append, this]; simp
      have HDt : Hid (16 < heightN p.1.b → deepB G = true) := fun h => List.any_eq_true.2 ⟨_, hmem, by simpa using h⟩
      obtain ⟨_, ao3, cp3, hv2, -⟩ := id hrd
      obtain ⟨⟨ph, pb⟩, pv⟩ := p
      simp only at hv2 X1 HGP HH HDn HDt
      subst hv2
      clear x0 x1 hp hrd hbn hmem htr
      generalize heightN pb = hn at *
      by_cases hd : 16 < hn
      · have HF := Lib.hid (HDt.out hd)
        go_wp2_with (go_at_call 73; refine (HH.out).mono ?_; rintro e w2 ⟨rfl, hb2⟩)
        go_ret
        rw [HF.out]
        exact ⟨rfl, HBel.out.trans (hb2.mono hws)⟩
      · have HF : Hid (deepB (G.take (j + 1)) = false) := by unfold Hid; rw [HDn.out]; simpa using hd
        go_wp2_with (go_at_call 73; refine (HH.out).mono ?_; rintro e w2 ⟨rfl, hb2⟩; have HB2 := Lib.hid (HBel.out.trans (hb2.mono hws)); clear hb2)
        go_roundw
        case rel => exact ⟨j + 1, by go_num, by omega, HF, HB2⟩
        case measure => simp [intOf]; omega
    · obtain rfl : j = P.length := by omega
      have HE : Hid (deepB G = false) := by have := HD.out; rw [List.take_of_length_le (by have := HGL.out; omega)] at this; exact this
      go_wp2_with fail
      go_ret
      rw [HE.out]
      exact ⟨rfl, HBel.out⟩
/-! ### SameTexts -/
set_option maxRecDepth 100000 in
set_option maxHeartbeats 3200000 in
theorem rSameTexts_any (va vb : Value) (la lb : List ByteArray) (w : World) (ha : RdS w va la) (hb : RdS w vb lb) (hla : la.length ≤ 140737488355328) (_ : lb.length ≤ 140737488355328) :
    Calls Tryz.prog 23 #[va, vb] w fun e w' => e = .returned (.bool (decide (la = lb))) ∧ Below w.heap.size w w' := by
  obtain ⟨_, ao, ac, rfl, -⟩ := id ha
  obtain ⟨_, bo, bc, rfl, -⟩ := id hb
  have HA := Lib.hid ha
  have HB := Lib.hid hb
  clear ha hb
  by_cases hlen : la.length = lb.length
  · have hlen' : ((la.length : Int) != lb.length) = false := by rw [hlen]; simp
    have HL := Lib.hid hlen
    clear hlen
    go_enter Tryz.func23, Tryz.ntmps23
    go_wp2
    go_loopw [5] (fun i wr => ∃ j : Nat, j ≤ la.length ∧ i = .int .i64 j ∧ Hid (∀ q, q < j → la[q]? = lb[q]?) ∧ Below w.heap.size w wr) (fun i _ => la.length - (intOf i).toNat)
    case atStart => exact ⟨0, by omega, rfl, fun q h => by omega, Below.refl _ _⟩
    case round =>
      obtain ⟨j, hj, rfl, HQ, hbel⟩ := hrel
      by_cases hlt : j < la.length
      · obtain ⟨ma, hma⟩ : ∃ m, la[j]? = some m := ⟨_, List.getElem?_eq_getElem hlt⟩
        obtain ⟨mb, hmb⟩ : ∃ m, lb[j]? = some m := ⟨_, List.getElem?_eq_getElem (by rw [← HL.out]; exact hlt)⟩
        obtain ⟨b1, o1, c1, e1, l1, k1, x0⟩ := (HA.out).at hma
        obtain ⟨b2, o2, c2, e2, l2, k2, y0⟩ := (HB.out).at hmb
        simp only [Value.slice.injEq] at e1 e2
        obtain ⟨rfl, -, rfl⟩ := e1
        obtain ⟨rfl, -, rfl⟩ := e2
        have X0 := (hbel.cell (p := ⟨b1, _, none⟩) l1).trans x0
        have Y0 := (hbel.cell (p := ⟨b2, _, none⟩) l2).trans y0
        clear x0 y0
        have hltb : j < lb.length := by rw [← HL.out]; exact hlt
        have H1 := Lib.hid hma
        have H2 := Lib.hid hmb
        clear hma hmb
        by_cases hm : ma = mb
        · subst hm
          have hq : (ma.toList == ma.toList) = true := by simp
          go_wp2
          go_quiet (fail)
          go_wp2
          go_roundw
          case rel =>
            refine ⟨j + 1, by omega, by go_num, ?_, below_drewN hbel _⟩
            intro q hq2
            by_cases h : q = j
            · subst h; rw [H1.out, H2.out]
            · exact HQ.out q (by omega)
          case measure => simp [intOf]; omega
        · have hq : (ma.toList == mb.toList) = false := by rw [beq_toList]; simpa using hm
          go_wp2
          go_quiet (fail)
          go_wp2
          go_ret
          have : decide (la = lb) = false := by
            rw [decide_eq_false_iff_not]; intro e; rw [e] at H1; rw [H1.out] at H2; exact hm (Option.some.inj H2.out)
          rw [this]
          exact ⟨rfl, below_drewN hbel _⟩
      · obtain rfl : j = la.length := by omega
        go_wp2
        go_ret
        have : decide (la = lb) = true := by
          rw [decide_eq_true_iff]
          apply List.ext_getElem?
          intro q
          by_cases h : q < la.length
          · exact HQ.out q h
          · rw [List.getElem?_eq_none (by omega), List.getElem?_eq_none (by rw [← HL.out]; omega)]
        rw [this]
        exact ⟨rfl, hbel⟩
  · have hlen' : ((la.length : Int) != lb.length) = true := by simpa using by omega
    have HL := Lib.hid hlen
    clear hlen
    go_enter Tryz.func23, Tryz.ntmps23
    go_wp2
    go_ret
    have : decide (la = lb) = false := by
      rw [decide_eq_false_iff_not]; intro e; exact HL.out (by rw [e])
    rw [this]
    exact ⟨rfl, Below.refl _ _⟩
end Go.Proofs.YtkmjmfcanlknjaaGreat
namespace Go.Proofs.YtkmjmfcanlknjaaGreat
open Go.RowKit

set_option maxRecDepth 100000 in
set_option maxHeartbeats 6400000 in
theorem rText_any (v : Value) (G : List Ru) (w : World) (h : RdRu w v G) (hl : G.length ≤ 64) (hn : nodesG G ≤ 16777216) (ht : treesB G = true) :
    Calls Tryz.prog 35 #[v] w fun e w' => e = .returned (.string (textG G)) ∧ Below w.heap.size w w' := by
  obtain ⟨P, rfl, hR⟩ := h
  have HR := Lib.hid hR
  have HTr := Lib.hid ht
  have HN := Lib.hid hn
  obtain ⟨⟨_, ao, cap, rfl, -⟩, -⟩ := hR
  have hpl : P.length ≤ 64 := by rwa [List.length_map] at hl
  have hts := text_size _ ht
  rw [List.length_map] at hts
  have hts2 : (textG (P.map (·.1))).size ≤ 1099511627776 := by omega
  clear hl ht hn hts
  generalize hG : P.map (·.1) = G at *
  have HG := Lib.hid hG
  have HGL : Hid (G.length = P.length) := by unfold Hid; rw [← hG, List.length_map]
  clear hG
  have HTS := Lib.hid hts2
  clear hts2
  go_enter Tryz.func35, Tryz.ntmps35
  go_wp2_with fail
  go_loopw [3, 4] (fun o i wr => ∃ j : Nat, i = .int .i64 j ∧ j ≤ P.length ∧ o = .string (textG (G.take j)) ∧ Hid (Below w.heap.size w wr)) (fun _ i _ => P.length - (intOf i).toNat)
  case atStart => exact ⟨0, rfl, by omega, rfl, Below.refl _ _⟩
  case round =>
    obtain ⟨j, rfl, hj, rfl, HBel⟩ := hrel
    have hws := HBel.out.size
    by_cases hlt : j < P.length
    · obtain ⟨p, hp⟩ : ∃ p, P[j]? = some p := ⟨_, List.getElem?_eq_getElem hlt⟩
      obtain ⟨b, off, cp, e1, hb, hc, x0, x1, hrd⟩ := RdP.at HR.out hp
      simp only [Value.slice.injEq] at e1
      obtain ⟨rfl, -, rfl⟩ := e1
      have X0 := (HBel.out.cell (p := ⟨b, _, none⟩) hb).trans x0
      have X1 := (HBel.out.cell (p := ⟨b, _, none⟩) hb).trans x1
      have hbw : b < wr.heap.size := by omega
      have HGP : Hid (G[j]? = some p.1) := by unfold Hid; rw [← HG.out, List.getElem?_map, hp]; rfl
      have hmem := List.mem_of_getElem? HGP.out
      have hbl : p.1.b.length ≤ 16777216 := Nat.le_trans (body_le hmem) HN.out
      obtain ⟨hnm, htr⟩ := trees_mem HTr.out hmem
      have HTx : Hid (∀ wx, Below w.heap.size w wx → Calls Tryz.prog 74 #[p.2, .int .i64 0] wx fun e w' => e = .returned (.string (textN p.1.b)) ∧ Below wx.heap.size wx w') := fun wx hbx => by
        have hGd := pickT_good htr
        exact rText_all ((pickT p.1.b).2.size + 1) p.2 p.1.b 0 _ _ [] wx (Nat.le_refl _) (hrd.below hbx) hbl ⟨by rw [List.drop_zero, List.append_nil]; exact hGd.flat, hGd.wf, hGd.all⟩
      have HT := Lib.hid (textG_take G HGP.out)
      have hle := textG_le G (j + 1)
      rw [HT.out, ByteArray.size_append] at hle
      have hsum : (textR p.1).size = p.1.h.size + 3 + (textN p.1.b).size + 3 := by
        unfold textR; rw [ByteArray.size_append, ByteArray.size_append, ByteArray.size_append]; rfl
      have htx := HTS.out
      have HTR : Hid (textR p.1 = p.1.h ++ (⟨#[32, 61, 32]⟩ : ByteArray) ++ textN p.1.b ++ (⟨#[32, 59, 10]⟩ : ByteArray)) := rfl
      obtain ⟨_, ao3, cp3, hv2, -⟩ := id hrd
      obtain ⟨⟨ph, pb⟩, pv⟩ := p
      simp only at hv2 X0 X1 HGP HTx HT hle hsum HTR
      subst hv2
      clear x0 x1 hp hrd hbl hmem hnm htr
      have HB0 : Hid (Below w.heap.size w wr) := HBel
      generalize textN pb = tn at *
      generalize textG (G.take j) = tj at *
      have hs1 : ¬ 9223372036854775807 < tj.size + ph.size := by omega
      have hs2 : ¬ 9223372036854775807 < tj.size + ph.size + 3 := by omega
      have hs3 : ¬ 9223372036854775807 < tj.size + ph.size + 3 + tn.size := by omega
      have hs4 : ¬ 9223372036854775807 < tj.size + ph.size + 3 + tn.size + 3 := by omega
      go_wp2_with fail
      go_region_held3 (fun w' => w'.cell? ⟨b, off + j * 2, none⟩ = some (.string ph) ∧ w'.cell? ⟨b, off + j * 2 + 1, none⟩ = some (.slice ao3 pb.length cp3)) (first | go_keep | exact ⟨k0, k1⟩ | (refine ⟨?_, ?_⟩ <;> assumption))
        ((go_at_call 74; refine (HTx.out _ (HBel.out.drew)).mono ?_; rintro e w2 ⟨rfl, hb2⟩; have k0 : w2.cell? ⟨b, off + j * 2, none⟩ = some (.string ph) := (hb2.cell (p := ⟨b, off + j * 2, none⟩) hbw).trans X0; have k1 : w2.cell? ⟨b, off + j * 2 + 1, none⟩ = some (.slice ao3 pb.length cp3) := (hb2.cell (p := ⟨b, off + j * 2 + 1, none⟩) hbw).trans X1))
      all_goals
        have HB9 : Hid (Below w.heap.size w w2) := HBel.out.drew.trans (hb2.mono hws)
        have HE9 : Hid (tj ++ ph ++ (⟨#[32, 61, 32]⟩ : ByteArray) ++ tn ++ (⟨#[32, 59, 10]⟩ : ByteArray) = textG (G.take (j + 1))) := by unfold Hid; rw [HT.out, HTR.out]; simp only [ByteArray.append_assoc]
        go_wp2_with fail
        go_roundw
        case rel => exact ⟨j + 1, by go_num, by omega, by rw [HE9.out], HB9.out⟩
        case measure => simp [intOf]; omega
    · obtain rfl : j = P.length := by omega
      have HE : Hid (G.take P.length = G) := by unfold Hid; rw [List.take_of_length_le (by have := HGL.out; omega)]
      go_wp2_with fail
      go_ret
      rw [HE.out]
      exact ⟨rfl, HBel.out⟩
/-! ### the reference's Check -/
set_option maxRecDepth 100000 in
set_option maxHeartbeats 6400000 in
theorem rCheckG_any (v : Value) (G : List Ru) (w : World) (h : RdRu w v G) (hl : LimG G) (hn : nodesG G ≤ 16777216) :
    Calls Tryz.prog 14 #[v] w fun e w' => e = .returned (.int .i64 (checkG G)) ∧ Below w.heap.size w w' := by
  have HV := Lib.hid h
  have H1 := Lib.hid (fun w h => rTrees_any v G w h hl hn)
  have H2 := Lib.hid (fun w h => rHeads_any v G w h hl)
  have H3 := Lib.hid (fun w h => rMissing_any v G w h hl)
  have H4 := Lib.hid (fun w h => rLabels_any v G w h hl)
  have H5 := Lib.hid (fun w h => rOccG_any v G w h hl)
  have H6 := Lib.hid (fun w h ht => rDeep_any v G w h hl hn ht)
  have H7 := Lib.hid (fun w h h0 ht => rText_any v G w h h0 hn ht)
  have hm : missing G ≤ 4398046511104 := by
    unfold missing
    exact Nat.le_trans (List.length_filter_le _ _) (Nat.le_trans (used_len 2 G) hl.nodes)
  have hh : (heads G).length ≤ 4398046511104 := Nat.le_trans (heads_len G) hl.len
  have hu : (used 3 G).length ≤ 4398046511104 := Nat.le_trans (used_len 3 G) hl.nodes
  obtain ⟨P, hG, hR⟩ := h
  obtain ⟨⟨_, ao, cap, rfl, -⟩, -⟩ := hR
  have hgl : G.length = P.length := by rw [← hG, List.length_map]
  clear hl hn hG
  by_cases h0 : G.length < 1 ∨ 64 < G.length
  · have HE : Hid (checkG G = 180) := by unfold Hid checkG; rw [if_pos h0]
    rw [hgl] at h0
    by_cases h1 : P.length < 1
    · go_enter Tryz.func14, Tryz.ntmps14
      go_wp2_with fail
      go_ret
      exact ⟨by rw [HE.out]; rfl, Below.refl _ _⟩
    · have h2 : 64 < P.length := by omega
      go_enter Tryz.func14, Tryz.ntmps14
      go_wp2_with fail
      go_ret
      exact ⟨by rw [HE.out]; rfl, Below.refl _ _⟩
  have HB0 : Hid (Below w.heap.size w w) := Below.refl _ _
  have hp1 : ¬ P.length < 1 := by omega
  have hp2 : ¬ 64 < P.length := by omega
  have HG0 := Lib.hid h0
  have hpp : G.length ≤ 64 := by omega
  have HG64 := Lib.hid hpp
  clear h0 hgl hpp
  cases ht : treesB G with
  | false =>
    have HE : Hid (checkG G = 170) := by unfold Hid checkG; rw [if_neg HG0.out, if_pos ht]
    rw [ht] at H1
    clear ht
    go_enter Tryz.func14, Tryz.ntmps14
    go_wp2_with fail
    refine (H1.out _ (HV.out.below HB0.out)).mono ?_
    rintro e w1 ⟨rfl, hb1⟩
    have HB1 : Hid (Below w.heap.size w w1) := HB0.out.trans (hb1.mono HB0.out.size)
    clear hb1
    go_wp2_with fail
    go_ret
    exact ⟨by rw [HE.out]; rfl, HB1.out⟩
  | true =>
    have HT := Lib.hid ht
    have HG1 : Hid (¬ treesB G = false) := by unfold Hid; rw [ht]; simp
    rw [ht] at H1
    clear ht
    generalize hhn : (heads G).length = hl at *
    generalize hmn : missing G = mn at *
    generalize hun : (used 3 G).length = un at *
    generalize hoc : occG G = oc at *
    generalize htn : (textG G).size = tn at *
    generalize hdd : deepB G = dd at *
    by_cases h2 : 16 < hl + mn
    · have HE : Hid (checkG G = 181) := by unfold Hid checkG; rw [if_neg HG0.out, if_neg HG1.out, if_pos (by rw [hhn, hmn]; exact h2)]
      go_enter Tryz.func14, Tryz.ntmps14
      go_wp2_with fail
      refine (H1.out _ (HV.out.below HB0.out)).mono ?_
      rintro e w1 ⟨rfl, hb1⟩
      have HB1 : Hid (Below w.heap.size w w1) := HB0.out.trans (hb1.mono HB0.out.size)
      clear hb1
      go_wp2_with fail
      refine (H2.out _ (HV.out.below HB1.out)).mono ?_
      rintro e w2 ⟨v2, rfl, ho2, hb2⟩
      obtain ⟨ao2, cp2, rfl⟩ := own_str_shape ho2
      have HB2 : Hid (Below w.heap.size w w2) := HB1.out.trans (hb2.mono HB1.out.size)
      clear hb2 ho2
      go_wp2_with fail
      refine (H3.out _ (HV.out.below HB2.out)).mono ?_
      rintro e w3 ⟨rfl, hb3⟩
      have HB3 : Hid (Below w.heap.size w w3) := HB2.out.trans (hb3.mono HB2.out.size)
      clear hb3
      go_wp2_with fail
      go_ret
      exact ⟨by rw [HE.out]; rfl, HB3.out⟩
    by_cases h3 : 16 < un
    · have HE : Hid (checkG G = 182) := by unfold Hid checkG; rw [if_neg HG0.out, if_neg HG1.out, if_neg (by rw [hhn, hmn]; exact h2), if_pos (by rw [hun]; exact h3)]
      go_enter Tryz.func14, Tryz.ntmps14
      go_wp2_with fail
      refine (H1.out _ (HV.out.below HB0.out)).mono ?_
      rintro e w1 ⟨rfl, hb1⟩
      have HB1 : Hid (Below w.heap.size w w1) := HB0.out.trans (hb1.mono HB0.out.size)
      clear hb1
      go_wp2_with fail
      refine (H2.out _ (HV.out.below HB1.out)).mono ?_
      rintro e w2 ⟨v2, rfl, ho2, hb2⟩
      obtain ⟨ao2, cp2, rfl⟩ := own_str_shape ho2
      have HB2 : Hid (Below w.heap.size w w2) := HB1.out.trans (hb2.mono HB1.out.size)
      clear hb2 ho2
      go_wp2_with fail
      refine (H3.out _ (HV.out.below HB2.out)).mono ?_
      rintro e w3 ⟨rfl, hb3⟩
      have HB3 : Hid (Below w.heap.size w w3) := HB2.out.trans (hb3.mono HB2.out.size)
      clear hb3
      go_wp2_with fail
      refine (H4.out _ (HV.out.below HB3.out)).mono ?_
      rintro e w4 ⟨v4, rfl, ho4, hb4⟩
      obtain ⟨ao4, cp4, rfl⟩ := own_str_shape ho4
      have HB4 : Hid (Below w.heap.size w w4) := HB3.out.trans (hb4.mono HB3.out.size)
      clear hb4 ho4
      go_wp2_with fail
      go_ret
      exact ⟨by rw [HE.out]; rfl, HB4.out⟩
    by_cases h4 : 64 < oc
    · have HE : Hid (checkG G = 183) := by unfold Hid checkG; rw [if_neg HG0.out, if_neg HG1.out, if_neg (by rw [hhn, hmn]; exact h2), if_neg (by rw [hun]; exact h3), if_pos (by rw [hoc]; exact h4)]
      go_enter Tryz.func14, Tryz.ntmps14
      go_wp2_with fail
      refine (H1.out _ (HV.out.below HB0.out)).mono ?_
      rintro e w1 ⟨rfl, hb1⟩
      have HB1 : Hid (Below w.heap.size w w1) := HB0.out.trans (hb1.mono HB0.out.size)
      clear hb1
      go_wp2_with fail
      refine (H2.out _ (HV.out.below HB1.out)).mono ?_
      rintro e w2 ⟨v2, rfl, ho2, hb2⟩
      obtain ⟨ao2, cp2, rfl⟩ := own_str_shape ho2
      have HB2 : Hid (Below w.heap.size w w2) := HB1.out.trans (hb2.mono HB1.out.size)
      clear hb2 ho2
      go_wp2_with fail
      refine (H3.out _ (HV.out.below HB2.out)).mono ?_
      rintro e w3 ⟨rfl, hb3⟩
      have HB3 : Hid (Below w.heap.size w w3) := HB2.out.trans (hb3.mono HB2.out.size)
      clear hb3
      go_wp2_with fail
      refine (H4.out _ (HV.out.below HB3.out)).mono ?_
      rintro e w4 ⟨v4, rfl, ho4, hb4⟩
      obtain ⟨ao4, cp4, rfl⟩ := own_str_shape ho4
      have HB4 : Hid (Below w.heap.size w w4) := HB3.out.trans (hb4.mono HB3.out.size)
      clear hb4 ho4
      go_wp2_with fail
      refine (H5.out _ (HV.out.below HB4.out)).mono ?_
      rintro e w5 ⟨rfl, hb5⟩
      have HB5 : Hid (Below w.heap.size w w5) := HB4.out.trans (hb5.mono HB4.out.size)
      clear hb5
      go_wp2_with fail
      go_ret
      exact ⟨by rw [HE.out]; rfl, HB5.out⟩
    by_cases h5 : dd = true
    · have HE : Hid (checkG G = 171) := by unfold Hid checkG; rw [if_neg HG0.out, if_neg HG1.out, if_neg (by rw [hhn, hmn]; exact h2), if_neg (by rw [hun]; exact h3), if_neg (by rw [hoc]; exact h4), if_pos (by rw [hdd]; exact h5)]
      subst h5
      go_enter Tryz.func14, Tryz.ntmps14
      go_wp2_with fail
      refine (H1.out _ (HV.out.below HB0.out)).mono ?_
      rintro e w1 ⟨rfl, hb1⟩
      have HB1 : Hid (Below w.heap.size w w1) := HB0.out.trans (hb1.mono HB0.out.size)
      clear hb1
      go_wp2_with fail
      refine (H2.out _ (HV.out.below HB1.out)).mono ?_
      rintro e w2 ⟨v2, rfl, ho2, hb2⟩
      obtain ⟨ao2, cp2, rfl⟩ := own_str_shape ho2
      have HB2 : Hid (Below w.heap.size w w2) := HB1.out.trans (hb2.mono HB1.out.size)
      clear hb2 ho2
      go_wp2_with fail
      refine (H3.out _ (HV.out.below HB2.out)).mono ?_
      rintro e w3 ⟨rfl, hb3⟩
      have HB3 : Hid (Below w.heap.size w w3) := HB2.out.trans (hb3.mono HB2.out.size)
      clear hb3
      go_wp2_with fail
      refine (H4.out _ (HV.out.below HB3.out)).mono ?_
      rintro e w4 ⟨v4, rfl, ho4, hb4⟩
      obtain ⟨ao4, cp4, rfl⟩ := own_str_shape ho4
      have HB4 : Hid (Below w.heap.size w w4) := HB3.out.trans (hb4.mono HB3.out.size)
      clear hb4 ho4
      go_wp2_with fail
      refine (H5.out _ (HV.out.below HB4.out)).mono ?_
      rintro e w5 ⟨rfl, hb5⟩
      have HB5 : Hid (Below w.heap.size w w5) := HB4.out.trans (hb5.mono HB4.out.size)
      clear hb5
      go_wp2_with fail
      refine (H6.out _ (HV.out.below HB5.out) HT.out).mono ?_
      rintro e w6 ⟨rfl, hb6⟩
      have HB6 : Hid (Below w.heap.size w w6) := HB5.out.trans (hb6.mono HB5.out.size)
      clear hb6
      go_wp2_with fail
      go_ret
      exact ⟨by rw [HE.out]; rfl, HB6.out⟩
    obtain rfl : dd = false := by simpa using h5
    by_cases h6 : 0 < mn
    · have HE : Hid (checkG G = 184) := by unfold Hid checkG; rw [if_neg HG0.out, if_neg HG1.out, if_neg (by rw [hhn, hmn]; exact h2), if_neg (by rw [hun]; exact h3), if_neg (by rw [hoc]; exact h4), if_neg (by rw [hdd]; simp), if_pos (by rw [hmn]; exact h6)]
      go_enter Tryz.func14, Tryz.ntmps14
      go_wp2_with fail
      refine (H1.out _ (HV.out.below HB0.out)).mono ?_
      rintro e w1 ⟨rfl, hb1⟩
      have HB1 : Hid (Below w.heap.size w w1) := HB0.out.trans (hb1.mono HB0.out.size)
      clear hb1
      go_wp2_with fail
      refine (H2.out _ (HV.out.below HB1.out)).mono ?_
      rintro e w2 ⟨v2, rfl, ho2, hb2⟩
      obtain ⟨ao2, cp2, rfl⟩ := own_str_shape ho2
      have HB2 : Hid (Below w.heap.size w w2) := HB1.out.trans (hb2.mono HB1.out.size)
      clear hb2 ho2
      go_wp2_with fail
      refine (H3.out _ (HV.out.below HB2.out)).mono ?_
      rintro e w3 ⟨rfl, hb3⟩
      have HB3 : Hid (Below w.heap.size w w3) := HB2.out.trans (hb3.mono HB2.out.size)
      clear hb3
      go_wp2_with fail
      refine (H4.out _ (HV.out.below HB3.out)).mono ?_
      rintro e w4 ⟨v4, rfl, ho4, hb4⟩
      obtain ⟨ao4, cp4, rfl⟩ := own_str_shape ho4
      have HB4 : Hid (Below w.heap.size w w4) := HB3.out.trans (hb4.mono HB3.out.size)
      clear hb4 ho4
      go_wp2_with fail
      refine (H5.out _ (HV.out.below HB4.out)).mono ?_
      rintro e w5 ⟨rfl, hb5⟩
      have HB5 : Hid (Below w.heap.size w w5) := HB4.out.trans (hb5.mono HB4.out.size)
      clear hb5
      go_wp2_with fail
      refine (H6.out _ (HV.out.below HB5.out) HT.out).mono ?_
      rintro e w6 ⟨rfl, hb6⟩
      have HB6 : Hid (Below w.heap.size w w6) := HB5.out.trans (hb6.mono HB5.out.size)
      clear hb6
      go_wp2_with fail
      refine (H3.out _ (HV.out.below HB6.out)).mono ?_
      rintro e w7 ⟨rfl, hb7⟩
      have HB7 : Hid (Below w.heap.size w w7) := HB6.out.trans (hb7.mono HB6.out.size)
      clear hb7
      go_wp2_with fail
      go_ret
      exact ⟨by rw [HE.out]; rfl, HB7.out⟩
    by_cases h7 : 2048 < tn
    · have HE : Hid (checkG G = 174) := by unfold Hid checkG; rw [if_neg HG0.out, if_neg HG1.out, if_neg (by rw [hhn, hmn]; exact h2), if_neg (by rw [hun]; exact h3), if_neg (by rw [hoc]; exact h4), if_neg (by rw [hdd]; simp), if_neg (by rw [hmn]; exact h6), if_pos (by rw [htn]; exact h7)]
      go_enter Tryz.func14, Tryz.ntmps14
      go_wp2_with fail
      refine (H1.out _ (HV.out.below HB0.out)).mono ?_
      rintro e w1 ⟨rfl, hb1⟩
      have HB1 : Hid (Below w.heap.size w w1) := HB0.out.trans (hb1.mono HB0.out.size)
      clear hb1
      go_wp2_with fail
      refine (H2.out _ (HV.out.below HB1.out)).mono ?_
      rintro e w2 ⟨v2, rfl, ho2, hb2⟩
      obtain ⟨ao2, cp2, rfl⟩ := own_str_shape ho2
      have HB2 : Hid (Below w.heap.size w w2) := HB1.out.trans (hb2.mono HB1.out.size)
      clear hb2 ho2
      go_wp2_with fail
      refine (H3.out _ (HV.out.below HB2.out)).mono ?_
      rintro e w3 ⟨rfl, hb3⟩
      have HB3 : Hid (Below w.heap.size w w3) := HB2.out.trans (hb3.mono HB2.out.size)
      clear hb3
      go_wp2_with fail
      refine (H4.out _ (HV.out.below HB3.out)).mono ?_
      rintro e w4 ⟨v4, rfl, ho4, hb4⟩
      obtain ⟨ao4, cp4, rfl⟩ := own_str_shape ho4
      have HB4 : Hid (Below w.heap.size w w4) := HB3.out.trans (hb4.mono HB3.out.size)
      clear hb4 ho4
      go_wp2_with fail
      refine (H5.out _ (HV.out.below HB4.out)).mono ?_
      rintro e w5 ⟨rfl, hb5⟩
      have HB5 : Hid (Below w.heap.size w w5) := HB4.out.trans (hb5.mono HB4.out.size)
      clear hb5
      go_wp2_with fail
      refine (H6.out _ (HV.out.below HB5.out) HT.out).mono ?_
      rintro e w6 ⟨rfl, hb6⟩
      have HB6 : Hid (Below w.heap.size w w6) := HB5.out.trans (hb6.mono HB5.out.size)
      clear hb6
      go_wp2_with fail
      refine (H3.out _ (HV.out.below HB6.out)).mono ?_
      rintro e w7 ⟨rfl, hb7⟩
      have HB7 : Hid (Below w.heap.size w w7) := HB6.out.trans (hb7.mono HB6.out.size)
      clear hb7
      go_wp2_with fail
      refine (H7.out _ (HV.out.below HB7.out) HG64.out HT.out).mono ?_
      rintro e w8 ⟨rfl, hb8⟩
      have HB8 : Hid (Below w.heap.size w w8) := HB7.out.trans (hb8.mono HB7.out.size)
      clear hb8
      go_wp2_with fail
      go_ret
      exact ⟨by rw [HE.out]; rfl, HB8.out⟩
    have HE : Hid (checkG G = 0) := by unfold Hid checkG; rw [if_neg HG0.out, if_neg HG1.out, if_neg (by rw [hhn, hmn]; exact h2), if_neg (by rw [hun]; exact h3), if_neg (by rw [hoc]; exact h4), if_neg (by rw [hdd]; simp), if_neg (by rw [hmn]; exact h6), if_neg (by rw [htn]; exact h7)]
    go_enter Tryz.func14, Tryz.ntmps14
    go_wp2_with fail
    refine (H1.out _ (HV.out.below HB0.out)).mono ?_
    rintro e w1 ⟨rfl, hb1⟩
    have HB1 : Hid (Below w.heap.size w w1) := HB0.out.trans (hb1.mono HB0.out.size)
    clear hb1
    go_wp2_with fail
    refine (H2.out _ (HV.out.below HB1.out)).mono ?_
    rintro e w2 ⟨v2, rfl, ho2, hb2⟩
    obtain ⟨ao2, cp2, rfl⟩ := own_str_shape ho2
    have HB2 : Hid (Below w.heap.size w w2) := HB1.out.trans (hb2.mono HB1.out.size)
    clear hb2 ho2
    go_wp2_with fail
    refine (H3.out _ (HV.out.below HB2.out)).mono ?_
    rintro e w3 ⟨rfl, hb3⟩
    have HB3 : Hid (Below w.heap.size w w3) := HB2.out.trans (hb3.mono HB2.out.size)
    clear hb3
    go_wp2_with fail
    refine (H4.out _ (HV.out.below HB3.out)).mono ?_
    rintro e w4 ⟨v4, rfl, ho4, hb4⟩
    obtain ⟨ao4, cp4, rfl⟩ := own_str_shape ho4
    have HB4 : Hid (Below w.heap.size w w4) := HB3.out.trans (hb4.mono HB3.out.size)
    clear hb4 ho4
    go_wp2_with fail
    refine (H5.out _ (HV.out.below HB4.out)).mono ?_
    rintro e w5 ⟨rfl, hb5⟩
    have HB5 : Hid (Below w.heap.size w w5) := HB4.out.trans (hb5.mono HB4.out.size)
    clear hb5
    go_wp2_with fail
    refine (H6.out _ (HV.out.below HB5.out) HT.out).mono ?_
    rintro e w6 ⟨rfl, hb6⟩
    have HB6 : Hid (Below w.heap.size w w6) := HB5.out.trans (hb6.mono HB5.out.size)
    clear hb6
    go_wp2_with fail
    refine (H3.out _ (HV.out.below HB6.out)).mono ?_
    rintro e w7 ⟨rfl, hb7⟩
    have HB7 : Hid (Below w.heap.size w w7) := HB6.out.trans (hb7.mono HB6.out.size)
    clear hb7
    go_wp2_with fail
    refine (H7.out _ (HV.out.below HB7.out) HG64.out HT.out).mono ?_
    rintro e w8 ⟨rfl, hb8⟩
    have HB8 : Hid (Below w.heap.size w w8) := HB7.out.trans (hb8.mono HB7.out.size)
    clear hb8
    go_wp2_with fail
    go_ret
    exact ⟨by rw [HE.out]; rfl, HB8.out⟩
end Go.Proofs.YtkmjmfcanlknjaaGreat
