/- The walks and facts that the laws lean on, part 1. No condition of its own: each theorem tells its own. -/
import Derived.Test.YtkmjmfcanlknjaaGreatProg
import Derived.WalkKit
import Derived.WalkSpells
import Derived.WalkLawsBesides
import Derived.BigQuiet
import Derived.Deep.QuietTactic
import Derived.Lib.Hide
import Derived.WalkMore
import Derived.Deep.DeepMust
import Derived.Deep.DeepFit
import Derived.Deep.Upon
import Derived.Maps.AppendAt
import Derived.StillTailTactics
import Derived.RangeFuncNested
import Derived.RangeFuncBound
import Derived.RangeFuncCalls
import Derived.RangeFuncLeaves
import Derived.Shelf.Abstract
import Derived.Shelf.RegionOpen
import Derived.OwnWalkIn
import Derived.TacticsInMore
import Derived.LoopNIn
import Derived.LoopIn
import Derived.Laws.OwnMore
import Derived.ArgAppend
import Derived.Sort.QuietIn
import Derived.Deep.RegionHeld3
import Derived.Deep.DeepCutAuto
namespace Go.Proofs.YtkmjmfcanlknjaaGreat
open Go.RowKit

def blankI (c : Int) : Bool := c == 32 || c == 9 || c == 10 || c == 13
def innerI (c : Int) : Bool := (97 ≤ c && c ≤ 122) || (65 ≤ c && c ≤ 90) || (48 ≤ c && c ≤ 57) || c == 95
def kindI (c : Int) : Int :=
  if c == 61 then 4 else if c == 59 then 5 else if c == 124 then 6 else if c == 42 then 7 else if c == 43 then 8 else if c == 63 then 9
  else if c == 40 then 10 else if c == 41 then 11 else if c == 37 then 12
  else if 65 ≤ c && c ≤ 90 then 1 else if 97 ≤ c && c ≤ 122 then 2 else if innerI c then 3 else 0

/-- the byte at a place -/
def bt (s : ByteArray) (k : Nat) : Int := ((s.data.toList.getD k 0).toNat : Int)
theorem bt_get (s : ByteArray) (k : Nat) (h : k < s.size) : ((s[k].toNat : Nat) : Int) = bt s k := by
  have h2 : k < s.data.toList.length := by simpa using h
  unfold bt
  rw [List.getD_eq_getElem?_getD, List.getElem?_eq_getElem h2]; rfl
def skipL (l : List UInt8) : Nat := (l.takeWhile fun c => blankI c.toNat).length
def wordL (l : List UInt8) : Nat := (l.takeWhile fun c => innerI c.toNat).length
/-- the first place from k on that holds no blank -/
def skipTo (s : ByteArray) (k : Nat) : Nat := k + skipL (s.data.toList.drop k)
def wordTo (s : ByteArray) (k : Nat) : Nat := k + wordL (s.data.toList.drop k)
theorem tw_le {α} (p : α → Bool) (l : List α) : (l.takeWhile p).length ≤ l.length := (List.takeWhile_sublist p).length_le
theorem skipTo_le (s : ByteArray) (k : Nat) (h : k ≤ s.size) : skipTo s k ≤ s.size := by
  have := tw_le (fun c : UInt8 => blankI c.toNat) (s.data.toList.drop k)
  have e : s.data.toList.length = s.size := by simp
  unfold skipTo skipL; rw [List.length_drop] at this; omega
theorem wordTo_le (s : ByteArray) (k : Nat) (h : k ≤ s.size) : wordTo s k ≤ s.size := by
  have := tw_le (fun c : UInt8 => innerI c.toNat) (s.data.toList.drop k)
  have e : s.data.toList.length = s.size := by simp
  unfold wordTo wordL; rw [List.length_drop] at this; omega
theorem drop_cons (s : ByteArray) (k : Nat) (h : k < s.size) : s.data.toList.drop k = s[k] :: s.data.toList.drop (k + 1) := by
  have h2 : k < s.data.toList.length := by simpa using h
  rw [List.drop_eq_getElem_cons h2]; rfl
theorem skipTo_yes (s : ByteArray) (k : Nat) (h : k < s.size) (hb : blankI (bt s k) = true) : skipTo s k = skipTo s (k + 1) := by
  rw [← bt_get s k h] at hb
  unfold skipTo skipL; rw [drop_cons s k h, List.takeWhile_cons_of_pos (by simpa using hb)]; simp; omega
theorem skipTo_no (s : ByteArray) (k : Nat) (h : k < s.size) (hb : blankI (bt s k) = false) : skipTo s k = k := by
  rw [← bt_get s k h] at hb
  unfold skipTo skipL; rw [drop_cons s k h, List.takeWhile_cons_of_neg (by simpa using hb)]; simp
theorem skipTo_end (s : ByteArray) (k : Nat) (h : s.size ≤ k) : skipTo s k = k := by
  unfold skipTo skipL; rw [List.drop_eq_nil_of_le (by simpa using h)]; simp
theorem wordTo_yes (s : ByteArray) (k : Nat) (h : k < s.size) (hb : innerI (bt s k) = true) : wordTo s k = wordTo s (k + 1) := by
  rw [← bt_get s k h] at hb
  unfold wordTo wordL; rw [drop_cons s k h, List.takeWhile_cons_of_pos (by simpa using hb)]; simp; omega
theorem wordTo_no (s : ByteArray) (k : Nat) (h : k < s.size) (hb : innerI (bt s k) = false) : wordTo s k = k := by
  rw [← bt_get s k h] at hb
  unfold wordTo wordL; rw [drop_cons s k h, List.takeWhile_cons_of_neg (by simpa using hb)]; simp
theorem wordTo_end (s : ByteArray) (k : Nat) (h : s.size ≤ k) : wordTo s k = k := by
  unfold wordTo wordL; rw [List.drop_eq_nil_of_le (by simpa using h)]; simp

structure Mk where
  k : Int
  p : Nat
  t : ByteArray
  deriving DecidableEq
def Mk.cells (m : Mk) : List Value := [.int .i64 m.k, .int .i64 m.p, .string m.t]
def Mk.val (m : Mk) : Value := .agg #[.int .i64 m.k, .int .i64 m.p, .string m.t]
/-- the mark that begins at a place that holds no blank -/
def markAt (s : ByteArray) (a : Nat) : Mk :=
  if a < s.size ∧ kindI (bt s a) ≠ 0 then
    ⟨kindI (bt s a), a, s.extract a (if kindI (bt s a) ≤ 3 then wordTo s (a + 1) else a + 1)⟩
  else ⟨0, a, ByteArray.empty⟩
def nextM (s : ByteArray) (k : Nat) : Mk := markAt s (skipTo s k)


theorem bt_lt (s : ByteArray) (k : Nat) : 0 ≤ bt s k ∧ bt s k < 256 := by
  unfold bt; have := (s.data.toList.getD k 0).toNat_lt; omega

def cutF : Nat → ByteArray → Nat → List Mk × Nat
  | 0, _, k => ([], k)
  | n + 1, s, k =>
    if (nextM s k).k = 0 then ([], (nextM s k).p)
    else ((nextM s k) :: (cutF n s ((nextM s k).p + (nextM s k).t.size)).1, (cutF n s ((nextM s k).p + (nextM s k).t.size)).2)
def cut (s : ByteArray) (k : Nat) : List Mk × Nat := cutF (s.size + 1 - k) s k

theorem nextM_p (s : ByteArray) (k : Nat) : (nextM s k).p = skipTo s k := by
  unfold nextM markAt; split <;> rfl
theorem skipTo_ge (s : ByteArray) (k : Nat) : k ≤ skipTo s k := by unfold skipTo; omega
theorem wordTo_ge (s : ByteArray) (k : Nat) : k ≤ wordTo s k := by unfold wordTo; omega
theorem markAt_size (s : ByteArray) (a : Nat) (h : (markAt s a).k ≠ 0) : 1 ≤ (markAt s a).t.size ∧ a + (markAt s a).t.size ≤ s.size ∧ a < s.size := by
  unfold markAt at h ⊢
  split at h
  · rename_i hc
    rw [if_pos hc]
    have h1 := wordTo_ge s (a + 1)
    have h2 := wordTo_le s (a + 1) (by omega)
    show 1 ≤ (s.extract a _).size ∧ a + (s.extract a _).size ≤ _ ∧ _
    rw [ByteArray.size_extract]
    split <;> omega
  · exact absurd rfl h
theorem nextM_size (s : ByteArray) (k : Nat) (h : (nextM s k).k ≠ 0) :
    1 ≤ (nextM s k).t.size ∧ (nextM s k).p + (nextM s k).t.size ≤ s.size ∧ k ≤ (nextM s k).p := by
  have := markAt_size s (skipTo s k) h
  have h2 := skipTo_ge s k
  rw [nextM_p]; unfold nextM; omega
theorem cutF_more (s : ByteArray) : ∀ (n m k : Nat), k ≤ s.size → s.size + 1 - k ≤ n → s.size + 1 - k ≤ m → cutF n s k = cutF m s k
  | 0, _, k, h, h1, _ => by omega
  | _, 0, k, h, _, h1 => by omega
  | n + 1, m + 1, k, h, h1, h2 => by
    unfold cutF
    split
    · rfl
    · rename_i hk
      have hz := nextM_size s k hk
      rw [cutF_more s n m _ hz.2.1 (by omega) (by omega)]
theorem cut_none (s : ByteArray) (k : Nat) (hk : k ≤ s.size) (h : (nextM s k).k = 0) : cut s k = ([], (nextM s k).p) := by
  unfold cut; rw [show s.size + 1 - k = (s.size - k) + 1 from by omega]; unfold cutF; rw [if_pos h]
theorem cut_some (s : ByteArray) (k : Nat) (hk : k ≤ s.size) (h : (nextM s k).k ≠ 0) :
    cut s k = (nextM s k :: (cut s ((nextM s k).p + (nextM s k).t.size)).1, (cut s ((nextM s k).p + (nextM s k).t.size)).2) := by
  have hz := nextM_size s k h
  have e : cutF (s.size - k) s ((nextM s k).p + (nextM s k).t.size) = cut s ((nextM s k).p + (nextM s k).t.size) :=
    cutF_more s _ _ _ hz.2.1 (by omega) (Nat.le_refl _)
  show cutF (s.size + 1 - k) s k = _
  rw [show s.size + 1 - k = (s.size - k) + 1 from by omega]; unfold cutF; rw [if_neg h, e]
theorem nextM_blank (s : ByteArray) (k : Nat) (h : k < s.size) (hb : blankI (bt s k) = true) : nextM s k = nextM s (k + 1) := by
  unfold nextM; rw [skipTo_yes s k h hb]
theorem cut_blank (s : ByteArray) (k : Nat) (h : k < s.size) (hb : blankI (bt s k) = true) : cut s k = cut s (k + 1) := by
  have e := nextM_blank s k h hb
  by_cases hz : (nextM s k).k = 0
  · rw [cut_none s k (by omega) hz, cut_none s (k + 1) (by omega) (by rw [← e]; exact hz), e]
  · rw [cut_some s k (by omega) hz, cut_some s (k + 1) (by omega) (by rw [← e]; exact hz), e]
theorem cut_end (s : ByteArray) : cut s s.size = ([], s.size) := by
  have e : nextM s s.size = ⟨0, s.size, ByteArray.empty⟩ := by unfold nextM markAt; rw [skipTo_end s _ (Nat.le_refl _), if_neg (by omega)]
  rw [cut_none s _ (Nat.le_refl _) (by rw [e]), e]
theorem cut_bad (s : ByteArray) (k : Nat) (h : k < s.size) (hb : blankI (bt s k) = false) (hk : kindI (bt s k) = 0) : cut s k = ([], k) := by
  have e : nextM s k = ⟨0, k, ByteArray.empty⟩ := by unfold nextM markAt; rw [skipTo_no s _ h hb, if_neg (by simp [hk])]
  rw [cut_none s _ (by omega) (by rw [e]), e]
/-- where a mark ends that begins at a place -/
def endM (s : ByteArray) (k : Nat) : Nat := if kindI (bt s k) ≤ 3 then wordTo s (k + 1) else k + 1
theorem endM_b (s : ByteArray) (k : Nat) (h : k < s.size) : k < endM s k ∧ endM s k ≤ s.size := by
  have h1 := wordTo_ge s (k + 1)
  have h2 := wordTo_le s (k + 1) (by omega)
  unfold endM; split <;> omega
theorem cut_good (s : ByteArray) (k : Nat) (h : k < s.size) (hb : blankI (bt s k) = false) (hk : kindI (bt s k) ≠ 0) :
    cut s k = (⟨kindI (bt s k), k, s.extract k (endM s k)⟩ :: (cut s (endM s k)).1, (cut s (endM s k)).2) := by
  have e : nextM s k = ⟨kindI (bt s k), k, s.extract k (endM s k)⟩ := by unfold nextM markAt endM; rw [skipTo_no s _ h hb, if_pos ⟨h, hk⟩]
  have hz := endM_b s k h
  have e2 : (nextM s k).p + (nextM s k).t.size = endM s k := by
    rw [e]; show k + (s.extract k _).size = _; rw [ByteArray.size_extract]; omega
  rw [cut_some s k (by omega) (by rw [e]; exact hk), e2, e]
theorem cut_len (s : ByteArray) : ∀ (n k : Nat), k ≤ s.size → s.size - k ≤ n → (cut s k).1.length ≤ s.size - k ∧ k ≤ (cut s k).2 ∧ (cut s k).2 ≤ s.size
  | n, k, h, hn => by
    by_cases hz : (nextM s k).k = 0
    · rw [cut_none s k h hz, nextM_p]; simp; exact ⟨skipTo_ge s k, skipTo_le s k h⟩
    · have h1 := nextM_size s k hz
      cases n with
      | zero => omega
      | succ n =>
        have := cut_len s n ((nextM s k).p + (nextM s k).t.size) (by omega) (by omega)
        rw [cut_some s k h hz]; simp; omega

end Go.Proofs.YtkmjmfcanlknjaaGreat
namespace Go.Proofs.YtkmjmfcanlknjaaGreat
open Go.RowKit

theorem wrap64_small (x : Int) (h0 : 0 ≤ x) (h : x ≤ 4294967296) : wrap64 x = x := by
  refine IntWalk.wrap64_in x ⟨?_, ?_⟩ <;> omega

/-! ### blocks -/
theorem below1 (w : World) (o : Obj) : Below w.heap.size w (w.alloc o) := (Below.refl _ _).alloc (Nat.le_refl _) o
theorem below2 (w : World) (o o' : Obj) : Below w.heap.size w ((w.alloc o).alloc o') := (below1 w o).alloc (by simp) o'
theorem below3 (w : World) (o o' o'' : Obj) : Below w.heap.size w (((w.alloc o).alloc o').alloc o'') := (below2 w o o').alloc (by simp; omega) o''
theorem below4 (w : World) (o o' o'' p : Obj) : Below w.heap.size w ((((w.alloc o).alloc o').alloc o'').alloc p) := (below3 w o o' o'').alloc (by simp; omega) p

theorem cells_new (w : World) (xs : List Value) (t : TypeId) : ∀ j u, xs[j]? = some u → (w.alloc (.cells xs.toArray t)).cell? ((⟨w.heap.size, 0, none⟩ : Addr).add j) = some u := by
  intro j u h
  rw [Addr.add_lit, Nat.zero_add, World.cell?_alloc_at _ _ _ _ rfl]
  simpa using h

/-- what append asks of the program's tables -/
structure ElemOK (P : Program) (t e : TypeId) (size bytes : Nat) : Prop where
  ex : ∃ i z, P.underlying t = some (.slice e) ∧ P.info? e = some i ∧ i.zero = some z ∧ i.size = size ∧ i.bytes = bytes ∧ z.cells.size = size ∧ 0 < size

theorem ElemOK.mk' {P : Program} {t e : TypeId} {z : Value} {size bytes : Nat} (ht : P.underlying t = some (.slice e)) (h : (P.info? e).map (fun i => (i.zero, i.size, i.bytes)) = some (some z, size, bytes))
    (hz : z.cells.size = size) (hs : 0 < size) : ElemOK P t e size bytes := by
  obtain ⟨i, hi, h1, h2, h3⟩ := info_parts h
  exact ⟨i, z, ht, hi, h1, h2, h3, hz, hs⟩

/-- 'append(out, x)' of one new element to a row of the call's own -/
theorem wpList_app1 {P : Program} {t e : TypeId} {size bytes : Nat} (hE : ElemOK P t e size bytes) {B : Nat} {w0 wr : World} {ops : Array Oper} {rest : List Oper} {o : Oper} {a : Act} {Q : Exit → Act → World → Prop} (hgd : o.guard = none) (s x : Operand)
    (ho : o.op = .call { callee := .builtin .append, args := #[s, x], argTypes := #[t, t] })
    {v : Value} {n : Nat} {xs : List Value} (hown : wr.ownsRow B e size v n xs) (hs : a.eval s = v)
    {news : List Value} (hx : a.eval x = .slice (some ⟨wr.heap.size, 0, none⟩) 1 1) (hl : news.length = size) (h1 : ∀ u ∈ news, u.oneCell' = true)
    (hn : n < 4294967296) (hby : bytes ≤ 16384) (hb : Below B w0 wr) (hB : B ≤ w0.heap.size)
    (h : ∀ v' w', w'.ownsRow B e size v' (n + 1) (xs ++ news) → Below B w0 w' → (∃ g cap, v' = .slice (some ⟨g, 0, none⟩) (n + 1) cap) → wpList P ops Q rest (a.put o.dst v') w') :
    wpList P ops Q (o :: rest) a (wr.alloc (.cells news.toArray e)) := by
  obtain ⟨i, z, ht, hi, hz, hz1, hz2, hz3, hz4⟩ := hE.ex
  have hbs := hb.size
  refine wpList_append_own (P := P) _ hgd s x t ho B e i z size bytes ht hi hz hz1 hz2 hz3 hz4 v n xs hs (hown.alloc _) ⟨wr.heap.size, 0, none⟩ 1 1 news hx (by omega) (cells_new wr news e) h1 (by unfold maxLen; omega) ?_ (by simp; omega) ?_
  · have : (n + 1) * bytes ≤ 4294967296 * 16384 := Nat.mul_le_mul (by omega) hby
    omega
  · intro v' w' hown' hg hnil
    refine h v' w' hown' ((hb.alloc (by omega) _).grown hg (by simp; omega) (fun k hk => (hown.lt k hk).1)) ?_
    rcases hown'.2 with ⟨h, h'⟩ | ⟨g, cap, _, h, _⟩
    · omega
    · exact ⟨g, cap, h⟩

/-! ### a slice's elements, read -/
/-- the slice value v reads as n elements of size cells each, whose cells are xs -/
def Rd (w : World) (v : Value) (n size : Nat) (xs : List Value) : Prop :=
  xs.length = n * size ∧ ∃ ao cap, v = .slice ao n cap ∧ n ≤ cap ∧ cap ≤ maxLen ∧
    (n = 0 ∨ ∃ b off, ao = some ⟨b, off, none⟩ ∧ b < w.heap.size ∧ ∀ j u, xs[j]? = some u → w.cell? ⟨b, off + j, none⟩ = some u)

theorem Rd.nil (w : World) (size : Nat) : Rd w (.slice none 0 0) 0 size [] := ⟨by simp, none, 0, rfl, by omega, by simp, .inl rfl⟩

theorem Rd.mono {w w' : World} {v : Value} {n size : Nat} {xs : List Value} (h : Rd w v n size xs) (hk : ∀ b o, b < w.heap.size → w'.cell? ⟨b, o, none⟩ = w.cell? ⟨b, o, none⟩) (hs : w.heap.size ≤ w'.heap.size) : Rd w' v n size xs := by
  obtain ⟨h1, ao, cap, h2, h3, h4, h5⟩ := h
  refine ⟨h1, ao, cap, h2, h3, h4, h5.imp id ?_⟩
  rintro ⟨b, off, h6, h7, h8⟩
  exact ⟨b, off, h6, by omega, fun j u hj => by rw [hk _ _ h7]; exact h8 j u hj⟩

theorem Rd.below {w w' : World} {v : Value} {n size : Nat} {xs : List Value} (h : Rd w v n size xs) (hb : Below w.heap.size w w') : Rd w' v n size xs :=
  h.mono (fun _ _ hlt => hb.cell (p := ⟨_, _, none⟩) hlt) hb.size

theorem Rd.alloc {w : World} {v : Value} {n size : Nat} {xs : List Value} (h : Rd w v n size xs) (o : Obj) : Rd (w.alloc o) v n size xs := h.below (below1 w o)

theorem Rd.of_owns {w : World} {B : Nat} {e : TypeId} {v : Value} {n size : Nat} {xs : List Value} (h : w.ownsRow B e size v n xs) : Rd w v n size xs := by
  refine ⟨h.1, ?_⟩
  rcases h.2 with ⟨h2, h3⟩ | ⟨g, cap, cur, h2, h3, h4, h5, h6, h7, h8⟩
  · subst h3; exact ⟨none, 0, h2, by omega, by simp, .inl rfl⟩
  · refine ⟨some ⟨g, 0, none⟩, cap, h2, h5, h6, .inr ⟨g, 0, rfl, ?_, ?_⟩⟩
    · exact (Array.getElem?_eq_some_iff.1 h4).1
    · intro j u hj
      have := h.cells (g := g) (by rw [h2]; rfl) j u hj
      simpa [Addr.add_lit] using this

/-- the cells of element i -/
theorem Rd.at {w : World} {v : Value} {n size : Nat} {xs : List Value} (h : Rd w v n size xs) {i : Nat} (hi : i < n) :
    ∃ b off cap, v = .slice (some ⟨b, off, none⟩) n cap ∧ b < w.heap.size ∧ n ≤ cap ∧ ∀ j u, xs[j]? = some u → w.cell? ⟨b, off + j, none⟩ = some u := by
  obtain ⟨_, ao, cap, h2, h3, h4, h5⟩ := h
  rcases h5 with h5 | ⟨b, off, h6, h7, h8⟩
  · omega
  · exact ⟨b, off, cap, by rw [h2, h6], h7, h3, h8⟩

end Go.Proofs.YtkmjmfcanlknjaaGreat
namespace Go.Proofs.YtkmjmfcanlknjaaGreat
open Go.RowKit

set_option maxHeartbeats 400000 in
theorem blank_any (c : Int) (w : World) :
    Calls Tryz.prog 109 #[.int .u8 c] w fun e w' => e = .returned (.bool (blankI c)) ∧ w = w' := by
  go_enter Tryz.func109, Tryz.ntmps109
  go_wp2
  all_goals go_ret
  all_goals refine ⟨?_, rfl⟩
  all_goals simp [blankI, *]

set_option maxHeartbeats 400000 in
theorem inner_any (c : Int) (w : World) :
    Calls Tryz.prog 111 #[.int .u8 c] w fun e w' => e = .returned (.bool (innerI c)) ∧ w = w' := by
  go_enter Tryz.func111, Tryz.ntmps111
  go_wp2
  all_goals go_ret
  all_goals refine ⟨congrArg (fun b => Ending.returned (.bool b)) ?_, rfl⟩
  all_goals (rw [Bool.eq_iff_iff]; simp [innerI]; omega)

set_option maxHeartbeats 400000 in
theorem kind_any (c : Int) (w : World) :
    Calls Tryz.prog 110 #[.int .u8 c] w fun e w' => e = .returned (.int .i64 (kindI c)) ∧ w = w' := by
  go_enter Tryz.func110, Tryz.ntmps110
  go_wp2_with (go_at_call 111; refine (inner_any _ _).mono ?_; rintro e w' ⟨rfl, rfl⟩)
  all_goals go_ret
  all_goals refine ⟨congrArg (fun b => Ending.returned (.int .i64 b)) ?_, rfl⟩
  all_goals simp [kindI, *]
  all_goals omega

set_option maxHeartbeats 800000 in
theorem next_any (s : ByteArray) (k : Nat) (w : World) (hs : s.size ≤ maxLen) (hk : k ≤ s.size) :
    Calls Tryz.prog 76 #[.string s, .int .i64 k] w fun e w' => e = .returned (nextM s k).val ∧ Below w.heap.size w w' := by
  unfold maxLen at hs
  go_enter Tryz.func76, Tryz.ntmps76
  go_wp2
  go_loop [1] (fun i => ∃ j : Nat, k ≤ j ∧ j ≤ s.size ∧ i = .int .i64 j ∧ skipTo s j = skipTo s k) (fun i => s.size - (intOf i).toNat)
  case atStart => exact ⟨k, Nat.le_refl _, hk, rfl, rfl⟩
  case round =>
    obtain ⟨j, hj1, hj2, rfl, hsk⟩ := hrel
    have HS := Lib.hid hsk
    clear hsk
    by_cases hlt : j < s.size
    · have hbg := Lib.hid (bt_get s j hlt)
      obtain ⟨b, hb⟩ : ∃ b, b = blankI (bt s j) := ⟨_, rfl⟩
      obtain ⟨c, hc⟩ : ∃ c, c = kindI (bt s j) := ⟨_, rfl⟩
      have HB : ∀ w, Calls Tryz.prog 109 #[.int .u8 (s[j].toNat : Int)] w fun e w' => e = .returned (.bool b) ∧ w = w' := by
        intro w; rw [hb, ← hbg.out]; exact blank_any _ _
      have HC : ∀ w, Calls Tryz.prog 110 #[.int .u8 (s[j].toNat : Int)] w fun e w' => e = .returned (.int .i64 c) ∧ w = w' := by
        intro w; rw [hc, ← hbg.out]; exact kind_any _ _
      have Hb := Lib.hid hb
      have Hc := Lib.hid hc
      have HB' := Lib.hid HB
      have HC' := Lib.hid HC
      clear hb hc HB HC
      cases b with
      | true =>
        go_wp2_with (go_at_call 109; refine (HB'.out _).mono ?_; rintro e w' ⟨rfl, rfl⟩)
        go_round
        case rel => exact ⟨j + 1, by omega, by omega, by go_num, by rw [← HS.out]; exact (skipTo_yes s j hlt Hb.out.symm).symm⟩
        case measure => simp [intOf]; omega
      | false =>
        have Hn : Hid (skipTo s k = j) := by rw [← HS.out]; exact skipTo_no s j hlt Hb.out.symm
        by_cases hc0 : c = 0
        · subst hc0
          go_wp2_with (first | (go_at_call 109; refine (HB'.out _).mono ?_; rintro e w' ⟨rfl, rfl⟩) | (go_at_call 110; refine (HC'.out _).mono ?_; rintro e w' ⟨rfl, rfl⟩))
          refine bodyPost_ret (v := .agg #[.int .i64 0, .int .i64 j, .string ⟨#[]⟩]) (by simp [results, Tryz.results76, go_sem]) rfl ⟨?_, below1 _ _⟩
          rw [nextM, Hn.out, markAt, if_neg (by rw [← Hc.out]; simp)]; rfl
        · have hc0' : (c == 0) = false := by simpa using hc0
          by_cases hc3 : c ≤ 3
          · go_wp2_with (first | (go_at_call 109; refine (HB'.out _).mono ?_; rintro e w' ⟨rfl, rfl⟩) | (go_at_call 110; refine (HC'.out _).mono ?_; rintro e w' ⟨rfl, rfl⟩))
            go_step3
            go_wp2
            go_step3
            go_wp2
            go_loop [6] (fun i => ∃ m : Nat, j + 1 ≤ m ∧ m ≤ s.size ∧ i = .int .i64 m ∧ wordTo s m = wordTo s (j + 1)) (fun i => s.size - (intOf i).toNat)
            case atStart => exact ⟨j + 1, Nat.le_refl _, by omega, by go_num, rfl⟩
            case round =>
              obtain ⟨m, hm1, hm2, rfl, hwm⟩ := hrel
              have HW := Lib.hid hwm
              clear hwm
              by_cases hml : m < s.size
              · have hmg := Lib.hid (bt_get s m hml)
                obtain ⟨d, hd⟩ : ∃ d, d = innerI (bt s m) := ⟨_, rfl⟩
                have HD : ∀ w, Calls Tryz.prog 111 #[.int .u8 (s[m].toNat : Int)] w fun e w' => e = .returned (.bool d) ∧ w = w' := by
                  intro w; rw [hd, ← hmg.out]; exact inner_any _ _
                have Hd := Lib.hid hd
                have HD' := Lib.hid HD
                clear hd HD
                cases d with
                | true =>
                  go_wp2_with (go_at_call 111; refine (HD'.out _).mono ?_; rintro e w' ⟨rfl, rfl⟩)
                  go_round
                  case rel => exact ⟨m + 1, by omega, by omega, by go_num, by rw [← HW.out]; exact (wordTo_yes s m hml Hd.out.symm).symm⟩
                  case measure => simp [intOf]; omega
                | false =>
                  have Hm : Hid (wordTo s (j + 1) = m) := by rw [← HW.out]; exact wordTo_no s m hml Hd.out.symm
                  go_wp2_with (go_at_call 111; refine (HD'.out _).mono ?_; rintro e w' ⟨rfl, rfl⟩)
                  simp only [Exit.noGoto, Exit.then]
                  go_wp2
                  refine bodyPost_ret (v := .agg #[.int .i64 c, .int .i64 j, .string (s.extract j m)]) (by simp [results, Tryz.results76, go_sem]) rfl ⟨?_, below2 _ _ _⟩
                  rw [nextM, Hn.out, markAt, if_pos ⟨hlt, by rw [← Hc.out]; exact hc0⟩, ← Hc.out, if_pos hc3, Hm.out]; rfl
              · have Hm : Hid (wordTo s (j + 1) = m) := by rw [← HW.out]; exact wordTo_end s m (by omega)
                go_wp2
                refine bodyPost_ret (v := .agg #[.int .i64 c, .int .i64 j, .string (s.extract j m)]) (by simp [results, Tryz.results76, go_sem]) rfl ⟨?_, below2 _ _ _⟩
                rw [nextM, Hn.out, markAt, if_pos ⟨hlt, by rw [← Hc.out]; exact hc0⟩, ← Hc.out, if_pos hc3, Hm.out]; rfl
          · go_wp2_with (first | (go_at_call 109; refine (HB'.out _).mono ?_; rintro e w' ⟨rfl, rfl⟩) | (go_at_call 110; refine (HC'.out _).mono ?_; rintro e w' ⟨rfl, rfl⟩))
            refine bodyPost_ret (v := .agg #[.int .i64 c, .int .i64 j, .string (s.extract j (j + 1))]) (by simp [results, Tryz.results76, go_sem]) rfl ⟨?_, below2 _ _ _⟩
            rw [nextM, Hn.out, markAt, if_pos ⟨hlt, by rw [← Hc.out]; exact hc0⟩, ← Hc.out, if_neg (by omega)]; rfl
    · go_wp2
      have hb : Below w.heap.size w (w.alloc (.cells #[.int .i64 0, .int .i64 s.size, .string ⟨#[]⟩] 99)) := (Below.refl _ _).alloc (Nat.le_refl _) _
      refine bodyPost_ret (v := .agg #[.int .i64 0, .int .i64 s.size, .string ⟨#[]⟩]) (by simp [results, Tryz.results76, go_sem]) rfl ⟨?_, hb⟩
      have : skipTo s k = s.size := by rw [← HS.out, skipTo_end s j (by omega)]; omega
      rw [nextM, this, markAt, if_neg (by omega)]; rfl

end Go.Proofs.YtkmjmfcanlknjaaGreat
namespace Go.Proofs.YtkmjmfcanlknjaaGreat
open Go.RowKit

theorem elemMk : ElemOK Tryz.prog 62 99 3 32 :=
  ElemOK.mk' (z := .agg #[.int .i64 0, .int .i64 0, .string ⟨#[]⟩]) Tryz.underlying62 (by kernel_rfl) rfl (by decide)

def flatMk (l : List Mk) : List Value := l.flatMap Mk.cells
theorem flatMk_snoc (l : List Mk) (m : Mk) : flatMk (l ++ [m]) = flatMk l ++ m.cells := by simp [flatMk]
def OwnMk (w : World) (B : Nat) (v : Value) (l : List Mk) : Prop := w.ownsRow B 99 3 v l.length (flatMk l)
theorem OwnMk.snoc {w : World} {B : Nat} {v : Value} {l : List Mk} {m : Mk} (h : w.ownsRow B 99 3 v (l.length + 1) (flatMk l ++ m.cells)) : OwnMk w B v (l ++ [m]) := by
  unfold OwnMk; rw [flatMk_snoc, List.length_append]; exact h

end Go.Proofs.YtkmjmfcanlknjaaGreat
namespace Go.Proofs.YtkmjmfcanlknjaaGreat
open Go.RowKit

/-! ### plain: nodes, forests -/
structure Nd where
  k : Int
  n : ByteArray
  c : Int
  deriving DecidableEq
def Nd.cells (x : Nd) : List Value := [.int .i64 x.k, .string x.n, .int .i64 x.c]
def Nd.val (x : Nd) : Value := .agg #[.int .i64 x.k, .string x.n, .int .i64 x.c]
def flatNd (l : List Nd) : List Value := l.flatMap Nd.cells
/-- a list of trees: a node, its kids, the trees behind it -/
inductive Fo where
  | nil : Fo
  | cons (x : Nd) (kids rest : Fo) : Fo
def Fo.flat : Fo → List Nd
  | .nil => []
  | .cons x k r => x :: (k.flat ++ r.flat)
def Fo.len : Fo → Nat
  | .nil => 0
  | .cons _ _ r => r.len + 1
def Fo.size : Fo → Nat
  | .nil => 0
  | .cons _ k r => k.size + r.size + 1
def Fo.app : Fo → Fo → Fo
  | .nil, g => g
  | .cons x k r, g => .cons x k (r.app g)
def Fo.wf : Fo → Prop
  | .nil => True
  | .cons x k r => x.c = k.len ∧ k.wf ∧ r.wf
theorem Fo.flat_app (f g : Fo) : (f.app g).flat = f.flat ++ g.flat := by
  induction f with
  | nil => rfl
  | cons x k r _ ih => simp [Fo.app, Fo.flat, ih]
theorem Fo.len_app (f g : Fo) : (f.app g).len = f.len + g.len := by
  induction f with
  | nil => simp [Fo.app, Fo.len]
  | cons x k r _ ih => simp [Fo.app, Fo.len, ih]; omega
theorem Fo.size_app (f g : Fo) : (f.app g).size = f.size + g.size := by
  induction f with
  | nil => simp [Fo.app, Fo.size]
  | cons x k r _ ih => simp [Fo.app, Fo.size, ih]; omega
theorem Fo.flat_len (f : Fo) : f.flat.length = f.size := by
  induction f with
  | nil => rfl
  | cons x k r ih1 ih2 => simp [Fo.flat, Fo.size, ih1, ih2]
theorem Fo.wf_app (f g : Fo) (hf : f.wf) (hg : g.wf) : (f.app g).wf := by
  induction f with
  | nil => exact hg
  | cons x k r _ ih => exact ⟨hf.1, hf.2.1, ih hf.2.2⟩
theorem Fo.len_le (f : Fo) : f.len ≤ f.size := by
  induction f with
  | nil => simp [Fo.len, Fo.size]
  | cons x k r _ ih => simp [Fo.len, Fo.size]; omega
def leafF (k : Int) (t : ByteArray) : Fo := .cons ⟨k, t, 0⟩ .nil .nil
def wrapF (k : Int) (n : Nat) (f : Fo) : Fo := if n = 1 then f else .cons ⟨k, ⟨#[]⟩, n⟩ f .nil

/-! ### plain: reading an expression out of marks -/
def kd (L : List Mk) (p : Nat) : Int := match L[p]? with | some m => m.k | none => 0
def tx (L : List Mk) (p : Nat) : ByteArray := match L[p]? with | some m => m.t | none => ⟨#[]⟩
theorem kd_some {L : List Mk} {p : Nat} {m : Mk} (h : L[p]? = some m) : kd L p = m.k := by unfold kd; rw [h]
theorem tx_some {L : List Mk} {p : Nat} {m : Mk} (h : L[p]? = some m) : tx L p = m.t := by unfold tx; rw [h]
theorem kd_none {L : List Mk} {p : Nat} (h : L.length ≤ p) : kd L p = 0 := by unfold kd; rw [List.getElem?_eq_none h]
theorem kd_lt {L : List Mk} {p : Nat} (h : kd L p ≠ 0) : p < L.length := by
  rcases Nat.lt_or_ge p L.length with h1 | h1
  · exact h1
  · exact absurd (kd_none h1) h
def beginsI (k : Int) : Bool := k == 1 || k == 2 || k == 12 || k == 10
theorem begins_cases {k : Int} (h : beginsI k = true) : k = 1 ∨ k = 2 ∨ k = 12 ∨ k = 10 := by
  simp [beginsI] at h; omega
theorem begins_lt {L : List Mk} {p : Nat} (h : beginsI (kd L p) = true) : p < L.length := by
  refine kd_lt ?_
  rcases begins_cases h with h | h | h | h <;> omega
/-- what is read: a tree and the place behind it; or the place where it goes wrong -/
structure PR where
  ok : Bool
  f : Fo
  p : Nat
def pAtom (E : Nat → PR) (L : List Mk) (p : Nat) : PR :=
  if beginsI (kd L p) then
    if kd L p = 1 then ⟨true, leafF 2 (tx L p), p + 1⟩
    else if kd L p = 2 then ⟨true, leafF 3 (tx L p), p + 1⟩
    else if kd L p = 12 then ⟨true, leafF 1 ⟨#[]⟩, p + 1⟩
    else if (E (p + 1)).ok then (if kd L (E (p + 1)).p = 11 then ⟨true, (E (p + 1)).f, (E (p + 1)).p + 1⟩ else ⟨false, .nil, (E (p + 1)).p⟩)
    else E (p + 1)
  else ⟨false, .nil, p⟩
def sufK (k : Int) : Int := if k = 7 then 6 else if k = 8 then 7 else if k = 9 then 8 else 0
def pSuf (L : List Mk) : Nat → Nat → Fo → PR
  | 0, p, f => ⟨true, f, p⟩
  | m + 1, p, f => if sufK (kd L p) = 0 then ⟨true, f, p⟩ else pSuf L m (p + 1) (.cons ⟨sufK (kd L p), ⟨#[]⟩, 1⟩ f .nil)
def pUnit (E : Nat → PR) (L : List Mk) (p : Nat) : PR :=
  if (pAtom E L p).ok then pSuf L (L.length - (pAtom E L p).p) (pAtom E L p).p (pAtom E L p).f else pAtom E L p
def pMany (S : Nat → Option PR) (k : Int) : Nat → Nat → Fo → Nat → PR
  | 0, p, f, n => ⟨true, wrapF k n f, p⟩
  | m + 1, p, f, n =>
    match S p with
    | none => ⟨true, wrapF k n f, p⟩
    | some r => if r.ok then pMany S k m r.p (f.app r.f) (n + 1) else r
def sPart (E : Nat → PR) (L : List Mk) (q : Nat) : Option PR := if beginsI (kd L q) then some (pUnit E L q) else none
def pPart (E : Nat → PR) (L : List Mk) (p : Nat) : PR :=
  if (pUnit E L p).ok then pMany (sPart E L) 4 (L.length - (pUnit E L p).p) (pUnit E L p).p (pUnit E L p).f 1 else pUnit E L p
def sExpr (E : Nat → PR) (L : List Mk) (q : Nat) : Option PR := if kd L q = 6 then some (pPart E L (q + 1)) else none
def pExprS (E : Nat → PR) (L : List Mk) (p : Nat) : PR :=
  if (pPart E L p).ok then pMany (sExpr E L) 5 (L.length - (pPart E L p).p) (pPart E L p).p (pPart E L p).f 1 else pPart E L p
def pExpr (L : List Mk) : Nat → Nat → PR
  | 0, p => ⟨false, .nil, p⟩
  | n + 1, p => pExprS (pExpr L n) L p

/-- the bounds of what is read from p on -/
structure PB (L : List Mk) (p : Nat) (r : PR) : Prop where
  le : r.p ≤ L.length
  ge : p ≤ r.p
  lt : r.ok = true → p < r.p
  size : r.ok = true → r.f.size + 1 ≤ 2 * (r.p - p)
  one : r.ok = true → r.f.len = 1
  wf : r.ok = true → r.f.wf
theorem wrap_ok (k : Int) (n : Nat) (f : Fo) (hn : f.len = n) (hf : f.wf) : (wrapF k n f).len = 1 ∧ (wrapF k n f).wf ∧ (wrapF k n f).size ≤ f.size + (if n = 1 then 0 else 1) := by
  unfold wrapF
  split
  · rename_i h; subst h; exact ⟨hn, hf, by simp⟩
  · exact ⟨rfl, ⟨by simp [hn], hf, trivial⟩, by simp [Fo.size]⟩
theorem leaf_ok (k : Int) (t : ByteArray) : (leafF k t).len = 1 ∧ (leafF k t).wf ∧ (leafF k t).size = 1 := ⟨rfl, ⟨rfl, trivial, trivial⟩, rfl⟩
theorem pAtom_b {E : Nat → PR} {L : List Mk} {p : Nat} (hp : p ≤ L.length) (hE : p + 1 ≤ L.length → PB L (p + 1) (E (p + 1))) : PB L p (pAtom E L p) := by
  unfold pAtom
  split
  · rename_i hb
    have hlt := begins_lt hb
    have leaf : ∀ k t, PB L p ⟨true, leafF k t, p + 1⟩ := fun k t => ⟨by simp; omega, by simp, by simp, by simp [leaf_ok], fun _ => rfl, fun _ => (leaf_ok k t).2.1⟩
    split
    · exact leaf _ _
    · split
      · exact leaf _ _
      · split
        · exact leaf _ _
        · have H := hE (by omega)
          have h1 := H.le
          have h2 := H.ge
          split
          · rename_i hok
            have h3 := H.lt hok
            have h4 := H.size hok
            split
            · rename_i hc
              have := kd_lt (L := L) (p := (E (p + 1)).p) (by omega)
              exact ⟨by simp only; omega, by simp only; omega, by simp only; omega, by simp only; omega, fun _ => H.one hok, fun _ => H.wf hok⟩
            · exact ⟨h1, by simp only; omega, by simp, by simp, by simp, by simp⟩
          · rename_i hok
            exact ⟨h1, by omega, fun h => absurd h hok, fun h => absurd h hok, fun h => absurd h hok, fun h => absurd h hok⟩
  · exact ⟨hp, Nat.le_refl _, by simp, by simp, by simp, by simp⟩
theorem sufK_lt {L : List Mk} {p : Nat} (h : sufK (kd L p) ≠ 0) : p < L.length := by
  refine kd_lt ?_
  intro h0; rw [h0] at h; exact h rfl
theorem pSuf_b {L : List Mk} {p0 : Nat} : ∀ (m p : Nat) (f : Fo), PB L p0 ⟨true, f, p⟩ → PB L p0 (pSuf L m p f)
  | 0, p, f, h => h
  | m + 1, p, f, h => by
    unfold pSuf
    split
    · exact h
    · rename_i hs
      have hlt := sufK_lt hs
      have h3 := h.lt rfl
      have h4 := h.size rfl
      have h5 := h.one rfl
      simp only at h3 h4
      refine pSuf_b m (p + 1) _ ⟨hlt, by simp only; omega, fun _ => by simp only; omega, fun _ => ?_, fun _ => rfl, fun _ => ⟨by simp [h5], h.wf rfl, trivial⟩⟩
      simp only [Fo.size]; omega
theorem pUnit_b {E : Nat → PR} {L : List Mk} {p : Nat} (hp : p ≤ L.length) (hE : p + 1 ≤ L.length → PB L (p + 1) (E (p + 1))) : PB L p (pUnit E L p) := by
  have H := pAtom_b hp hE
  unfold pUnit
  split
  · rename_i hok
    refine pSuf_b _ _ _ ?_
    generalize pAtom E L p = r at *
    obtain ⟨o, f, q⟩ := r
    simp only at hok; subst hok; exact H
  · exact H
theorem pMany_b {L : List Mk} {p0 : Nat} {S : Nat → Option PR} {k : Int} (hS : ∀ p r, p0 < p → p ≤ L.length → S p = some r → ∃ q, p ≤ q ∧ (r.ok = false → PB L p0 r) ∧ (r.ok = true → PB L q r)) :
    ∀ (m p : Nat) (f : Fo) (n : Nat), p ≤ L.length → p0 < p → f.len = n → 1 ≤ n → f.wf → f.size + (if n = 1 then 1 else 2) ≤ 2 * (p - p0) → PB L p0 (pMany S k m p f n)
  | 0, p, f, n, h1, h2, h3, _, h4, h5 => by
    have W := wrap_ok k n f h3 h4
    unfold pMany
    refine ⟨h1, by simp only; omega, fun _ => h2, fun _ => ?_, fun _ => W.1, fun _ => W.2.1⟩
    have := W.2.2
    simp only; split at this <;> split at h5 <;> omega
  | m + 1, p, f, n, h1, h2, h3, h0, h4, h5 => by
    have W := wrap_ok k n f h3 h4
    unfold pMany
    cases hs : S p with
    | none =>
      refine ⟨h1, by simp only; omega, fun _ => h2, fun _ => ?_, fun _ => W.1, fun _ => W.2.1⟩
      have := W.2.2
      simp only; split at this <;> split at h5 <;> omega
    | some r =>
      obtain ⟨q, hq, hbad, hgood⟩ := hS p r h2 h1 hs
      simp only
      cases hok : r.ok with
      | false => rw [if_neg (by simp)]; exact hbad hok
      | true =>
        rw [if_pos rfl]
        have G := hgood hok
        have g1 := G.lt hok
        have g2 := G.size hok
        have g3 := G.one hok
        refine pMany_b hS m r.p _ (n + 1) G.le (by omega) (by rw [Fo.len_app, h3, g3]) (by omega) (Fo.wf_app _ _ h4 (G.wf hok)) ?_
        rw [Fo.size_app, if_neg (by omega)]
        split at h5 <;> omega
theorem pPart_b {E : Nat → PR} {L : List Mk} {p : Nat} (hp : p ≤ L.length) (hE : ∀ q, p < q → q ≤ L.length → PB L q (E q)) : PB L p (pPart E L p) := by
  have H := pUnit_b (E := E) hp (fun h => hE _ (by omega) h)
  unfold pPart
  split
  · rename_i hok
    have h1 := H.lt hok
    refine pMany_b ?_ _ _ _ _ H.le h1 (H.one hok) (Nat.le_refl _) (H.wf hok) (by rw [if_pos rfl]; exact H.size hok)
    intro q r hq hq2 hs
    unfold sPart at hs
    split at hs
    · simp only [Option.some.injEq] at hs
      subst hs
      have G := pUnit_b (E := E) (p := q) hq2 (fun h => hE _ (by omega) h)
      refine ⟨q, Nat.le_refl _, fun hb => ⟨G.le, by have := G.ge; omega, ?_, ?_, ?_, ?_⟩, fun _ => G⟩ <;> (intro h; rw [hb] at h; cases h)
    · cases hs
  · exact H
theorem pExprS_b {E : Nat → PR} {L : List Mk} {p : Nat} (hp : p ≤ L.length) (hE : ∀ q, p < q → q ≤ L.length → PB L q (E q)) : PB L p (pExprS E L p) := by
  have H := pPart_b hp hE
  unfold pExprS
  split
  · rename_i hok
    have h1 := H.lt hok
    refine pMany_b ?_ _ _ _ _ H.le h1 (H.one hok) (Nat.le_refl _) (H.wf hok) (by rw [if_pos rfl]; exact H.size hok)
    intro q r hq hq2 hs
    unfold sExpr at hs
    split at hs
    · rename_i h6
      simp only [Option.some.injEq] at hs
      subst hs
      have hlt := kd_lt (L := L) (p := q) (by omega)
      have G := pPart_b (E := E) (p := q + 1) hlt (fun x hx h => hE x (by omega) h)
      refine ⟨q + 1, by omega, fun hb => ⟨G.le, by have := G.ge; omega, ?_, ?_, ?_, ?_⟩, fun _ => G⟩ <;> (intro h; rw [hb] at h; cases h)
    · cases hs
  · exact H
theorem pExpr_b (L : List Mk) : ∀ (n p : Nat), p ≤ L.length → PB L p (pExpr L n p)
  | 0, p, h => ⟨h, Nat.le_refl _, by simp [pExpr], by simp [pExpr], by simp [pExpr], by simp [pExpr]⟩
  | n + 1, p, h => pExprS_b h (fun q _ hq => pExpr_b L n q hq)
end Go.Proofs.YtkmjmfcanlknjaaGreat
namespace Go.Proofs.YtkmjmfcanlknjaaGreat
open Go.RowKit

/-- 'append(out, l...)' to a row of the call's own -/
theorem wpList_appAll {P : Program} {t e : TypeId} {size bytes : Nat} (hE : ElemOK P t e size bytes) {B : Nat} {w0 wr : World} {ops : Array Oper} {rest : List Oper} {o : Oper} {a : Act} {Q : Exit → Act → World → Prop} (hgd : o.guard = none) (s x : Operand)
    (ho : o.op = .call { callee := .builtin .append, args := #[s, x], argTypes := #[t, t] })
    {v : Value} {n : Nat} {xs : List Value} (hown : wr.ownsRow B e size v n xs) (hs : a.eval s = v)
    {ad : Addr} {m c : Nat} {news : List Value} (hx : a.eval x = .slice (some ad) m c) (hl : news.length = m * size) (hnews : ∀ j u, news[j]? = some u → wr.cell? (ad.add j) = some u) (h1 : ∀ u ∈ news, u.oneCell' = true)
    (hn : n + m < 4294967296) (hby : bytes ≤ 16384) (hb : Below B w0 wr) (hB : B ≤ w0.heap.size)
    (h : ∀ v' w', w'.ownsRow B e size v' (n + m) (xs ++ news) → Below B w0 w' → wpList P ops Q rest (a.put o.dst v') w') :
    wpList P ops Q (o :: rest) a wr := by
  obtain ⟨i, z, ht, hi, hz, hz1, hz2, hz3, hz4⟩ := hE.ex
  have hbs := hb.size
  refine wpList_append_own (P := P) _ hgd s x t ho B e i z size bytes ht hi hz hz1 hz2 hz3 hz4 v n xs hs hown ad m c news hx hl hnews h1 (by unfold maxLen; omega) ?_ (by omega) ?_
  · have : (n + m) * bytes ≤ 4294967296 * 16384 := Nat.mul_le_mul (by omega) hby
    omega
  · intro v' w' hown' hg _
    exact h v' w' hown' (hb.grown hg (by omega) (fun k hk => (hown.lt k hk).1))
/-- 'append(out, l...)' of nothing -/
theorem wpList_app0 {P : Program} {t e : TypeId} {size bytes : Nat} (hE : ElemOK P t e size bytes) {w : World} {ops : Array Oper} {rest : List Oper} {o : Oper} {a : Act} {Q : Exit → Act → World → Prop} (hgd : o.guard = none) (s x : Operand)
    (ho : o.op = .call { callee := .builtin .append, args := #[s, x], argTypes := #[t, t] })
    {base : Option Addr} {n c : Nat} (hs : a.eval s = .slice base n c) (hle : n ≤ c) {ao : Option Addr} {c2 : Nat} (hx : a.eval x = .slice ao 0 c2)
    (h : wpList P ops Q rest (a.put o.dst (.slice base n c)) w) : wpList P ops Q (o :: rest) a w := by
  obtain ⟨i, z, ht, hi, hz, hz1, hz2, hz3, hz4⟩ := hE.ex
  refine wpList_plain hgd fun K hK' => ?_
  have hsrc : Src P i.size t (.slice ao 0 c2) 0 [] w := by
    cases ao with
    | none => exact Src.ofNil w ht c2
    | some ad => exact Src.ofSlice w ht ad 0 c2 [] (by simp) (by simp) (by simp)
  have hrun := run_append_nothing w t t o.type e i ht hi base n c hle _ hsrc
  unfold Oper.wp
  simp [execOp, ho, resolve, invoke, builtin, hs, hx, hrun, Result.andThen]
  exact hK' _ _ h


theorem grown_drewN (w : World) (n : Nat) (row : Option Nat) : w.grownBy (w.drewN n) row := ⟨rfl, rfl, rfl, Nat.le_refl _, fun _ _ _ => rfl⟩
theorem grown_set (w : World) (b o : Nat) (v : Value) : w.grownBy (w.setCell ⟨b, o, none⟩ v) (some b) :=
  ⟨rfl, rfl, rfl, by simp [World.setCell], fun k _ hne => Below.heap_setCell _ _ _ _ (by simpa using hne)⟩
theorem grown_then {a b c : World} {row row' : Option Nat} (h : a.grownBy b row) (k : b.grownBy c row') (hr : ∀ j, row' = some j → a.heap.size ≤ j ∨ row = some j) : a.grownBy c row := by
  refine ⟨k.os.trans h.os, k.tape.trans h.tape, k.output.trans h.output, Nat.le_trans h.size k.size, fun i hi hne => ?_⟩
  rw [k.block i (Nat.lt_of_lt_of_le hi h.size) ?_, h.block i hi hne]
  intro e
  rcases hr i e.symm with h1 | h1
  · omega
  · exact hne h1.symm
theorem grown_none {a b : World} {row : Option Nat} (h : a.grownBy b none) : a.grownBy b row := ⟨h.os, h.tape, h.output, h.size, fun i hi _ => h.block i hi (by simp)⟩
theorem grown_below {a b : World} (h : Below a.heap.size a b) : a.grownBy b none := ⟨h.os, h.tape, h.output, h.size, fun i hi _ => h.block i hi⟩
theorem below_grown {a b : World} (h : a.grownBy b none) : Below a.heap.size a b := ⟨h.os, h.tape, h.output, h.size, fun i hi => h.block i hi (by simp)⟩
theorem bcell {W w1 : World} (hb : Below W.heap.size W w1) : (∀ b o, b < W.heap.size → w1.cell? ⟨b, o, none⟩ = W.cell? ⟨b, o, none⟩) ∧ (∀ b o, b < W.heap.size → w1.frozen? ⟨b, o, none⟩ = W.frozen? ⟨b, o, none⟩) :=
  ⟨fun b o h => hb.cell (p := ⟨b, o, none⟩) h, fun b o h => hb.frozen (p := ⟨b, o, none⟩) h⟩
/-- a row that the call owns, by its elements' cells -/
theorem own_src {w : World} {B : Nat} {e : TypeId} {size : Nat} {v : Value} {n : Nat} {xs : List Value} (h : w.ownsRow B e size v n xs) (hn : 0 < n) :
    ∃ g cap, v = .slice (some ⟨g, 0, none⟩) n cap ∧ B ≤ g ∧ g < w.heap.size ∧ n ≤ cap ∧ ∀ j u, xs[j]? = some u → w.cell? ((⟨g, 0, none⟩ : Addr).add j) = some u := by
  rcases h.2 with ⟨_, h2⟩ | ⟨g, cap, cur, h2, h3, h4, h5, h6, h7, h8⟩
  · omega
  · exact ⟨g, cap, h2, h3, (Array.getElem?_eq_some_iff.1 h4).1, h5, h.cells (g := g) (by rw [h2]; rfl)⟩
theorem own_block {w : World} {B : Nat} {e : TypeId} {size : Nat} {v : Value} {n : Nat} {xs : List Value} (h : w.ownsRow B e size v n xs) (j : Nat) (hj : v.ownBlock = some j) : B ≤ j := by
  rcases h.2 with ⟨rfl, _⟩ | ⟨g, cap, cur, rfl, h3, _⟩
  · simp [Value.ownBlock] at hj
  · simp [Value.ownBlock] at hj; omega
theorem own_lower {w : World} {B C : Nat} {e : TypeId} {size : Nat} {v : Value} {n : Nat} {xs : List Value} (h : w.ownsRow B e size v n xs) (hC : C ≤ B) : w.ownsRow C e size v n xs := by
  refine ⟨h.1, ?_⟩
  rcases h.2 with h | ⟨g, cap, cur, h2, h3, h4⟩
  · exact .inl h
  · exact .inr ⟨g, cap, cur, h2, by omega, h4⟩
/-- what is owned stays where only older blocks, or another row, are written -/
theorem own_grown {w w' : World} {B : Nat} {e : TypeId} {size : Nat} {v : Value} {n : Nat} {xs : List Value} {row : Option Nat} (h : w.ownsRow B e size v n xs) (hg : w.grownBy w' row) (hr : ∀ j, row = some j → j < B ∨ v.ownBlock ≠ some j) : w'.ownsRow B e size v n xs := by
  refine World.ownsRow.kept h hg ?_
  cases row with
  | none => cases hv : v.ownBlock <;> simp
  | some j =>
    right
    intro e
    rcases hr j rfl with h1 | h1
    · have := own_block h j e; omega
    · exact h1 e
/-- 'append(out, l...)' to a row of the call's own, of a row that reads -/
theorem wpList_appG {P : Program} {t e : TypeId} {size bytes : Nat} (hE : ElemOK P t e size bytes) {B : Nat} {wr : World} {ops : Array Oper} {rest : List Oper} {o : Oper} {a : Act} {Q : Exit → Act → World → Prop} (hgd : o.guard = none) (s x : Operand)
    (ho : o.op = .call { callee := .builtin .append, args := #[s, x], argTypes := #[t, t] })
    {v : Value} {n : Nat} {xs : List Value} (hown : wr.ownsRow B e size v n xs) (hs : a.eval s = v)
    {ad : Addr} {m c : Nat} {news : List Value} (hx : a.eval x = .slice (some ad) m c) (hl : news.length = m * size) (hnews : ∀ j u, news[j]? = some u → wr.cell? (ad.add j) = some u) (h1 : ∀ u ∈ news, u.oneCell' = true)
    (hm : n + m ≤ maxLen) (hn : (n + m) * bytes ≤ 140737488355328) (hB : B ≤ wr.heap.size)
    (h : ∀ v' w', w'.ownsRow B e size v' (n + m) (xs ++ news) → wr.grownBy w' v.ownBlock → wpList P ops Q rest (a.put o.dst v') w') :
    wpList P ops Q (o :: rest) a wr := by
  obtain ⟨i, z, ht, hi, hz, hz1, hz2, hz3, hz4⟩ := hE.ex
  exact wpList_append_own (P := P) _ hgd s x t ho B e i z size bytes ht hi hz hz1 hz2 hz3 hz4 v n xs hs hown ad m c news hx hl hnews h1 hm hn hB (fun v' w' hown' hg _ => h v' w' hown' hg)
/-- 'append(out, x)' of one new element -/
theorem wpList_appG1 {P : Program} {t e : TypeId} {size bytes : Nat} (hE : ElemOK P t e size bytes) {B : Nat} {wr : World} {ops : Array Oper} {rest : List Oper} {o : Oper} {a : Act} {Q : Exit → Act → World → Prop} (hgd : o.guard = none) (s x : Operand)
    (ho : o.op = .call { callee := .builtin .append, args := #[s, x], argTypes := #[t, t] })
    {v : Value} {n : Nat} {xs : List Value} (hown : wr.ownsRow B e size v n xs) (hs : a.eval s = v)
    {news : List Value} (hx : a.eval x = .slice (some ⟨wr.heap.size, 0, none⟩) 1 1) (hl : news.length = size) (h1 : ∀ u ∈ news, u.oneCell' = true)
    (hm : n + 1 ≤ maxLen) (hn : (n + 1) * bytes ≤ 140737488355328) (hB : B ≤ wr.heap.size)
    (h : ∀ v' w', w'.ownsRow B e size v' (n + 1) (xs ++ news) → wr.grownBy w' v.ownBlock → wpList P ops Q rest (a.put o.dst v') w') :
    wpList P ops Q (o :: rest) a (wr.alloc (.cells news.toArray e)) := by
  refine wpList_appG hE hgd s x ho (hown.alloc _) hs (ad := ⟨wr.heap.size, 0, none⟩) (m := 1) (c := 1) (news := news) hx (by omega) (cells_new wr news e) h1 hm hn (by simp; omega) fun v' w' h2 h3 => h v' w' h2 ?_
  exact ⟨h3.os, h3.tape, h3.output, Nat.le_trans (by simp) h3.size, fun k hk hne => (h3.block k (by simp; omega) hne).trans (Below.heap_alloc wr _ k hk)⟩
end Go.Proofs.YtkmjmfcanlknjaaGreat
namespace Go.Proofs.YtkmjmfcanlknjaaGreat
open Go.RowKit

/-! ### plain: Kind -/
def kindM (s : ByteArray) : Int × Bool := if (nextM s 0).k ≠ 0 ∧ (nextM s 0).t.size = s.size then ((nextM s 0).k, true) else (0, false)
theorem extract_all (s : ByteArray) (a b : Nat) (h : (s.extract a b).size = s.size) : s.extract a b = s := by
  rw [ByteArray.size_extract] at h
  by_cases hs : s.size = 0
  · apply ByteArray.ext; apply Array.ext
    · simp; have : s.data.size = 0 := hs; omega
    · intro i h1 h2; have : s.data.size = 0 := hs; omega
  · have ha : a = 0 := by omega
    have hb : s.size ≤ b := by omega
    subst ha
    apply ByteArray.ext
    rw [ByteArray.data_extract]
    exact Array.extract_eq_self_of_le hb
theorem nextM_t (s : ByteArray) (k : Nat) (h : (nextM s k).k ≠ 0) : ∃ a b, (nextM s k).t = s.extract a b := by
  unfold nextM markAt at h ⊢
  split at h
  · rename_i hc; rw [if_pos hc]; exact ⟨_, _, rfl⟩
  · exact absurd rfl h
theorem nextM_all (s : ByteArray) (h : (nextM s 0).k ≠ 0) : (nextM s 0).t = s ↔ (nextM s 0).t.size = s.size := by
  obtain ⟨a, b, e⟩ := nextM_t s 0 h
  constructor
  · intro h; rw [h]
  · intro h2; rw [e] at h2 ⊢; exact extract_all s a b h2
theorem kindM_bad (s : ByteArray) (h : (cut s 0).2 < s.size ∨ (cut s 0).1.length ≠ 1 ∨ ∃ m, (cut s 0).1[0]? = some m ∧ m.t.size ≠ s.size) : kindM s = (0, false) := by
  unfold kindM
  split
  · rename_i hc
    obtain ⟨hz, ht⟩ := hc
    exfalso
    have h1 := nextM_size s 0 hz
    have e2 : (nextM s 0).p + (nextM s 0).t.size = s.size := by omega
    rw [cut_some s 0 (by omega) hz, e2, cut_end] at h
    simp at h
    exact h ht
  · rfl
theorem kindM_good (s : ByteArray) (m : Mk) (_h1 : ¬ (cut s 0).2 < s.size) (h2 : (cut s 0).1.length = 1) (h3 : (cut s 0).1[0]? = some m) (h4 : m.t.size = s.size) : kindM s = (m.k, true) := by
  by_cases hz : (nextM s 0).k = 0
  · rw [cut_none s 0 (by omega) hz] at h2; simp at h2
  · rw [cut_some s 0 (by omega) hz] at h3
    simp at h3
    subst h3
    unfold kindM; rw [if_pos ⟨hz, h4⟩]

end Go.Proofs.YtkmjmfcanlknjaaGreat
namespace Go.Proofs.YtkmjmfcanlknjaaGreat
open Go.RowKit

/-! ### plain: pieces of a text -/
theorem kindI_range (c : Int) : 0 ≤ kindI c ∧ kindI c ≤ 12 := by
  unfold kindI
  repeat' split
  all_goals omega
theorem kindI_blank (c : Int) (h : kindI c ≠ 0) : blankI c = false := by
  by_cases hb : blankI c = true
  · exfalso
    simp [blankI] at hb
    apply h
    rcases hb with ((rfl | rfl) | rfl) | rfl <;> decide
  · simpa using hb
theorem kindI_word256 : ∀ n : Fin 256, kindI (n.val : Int) ≠ 0 → (kindI (n.val : Int) ≤ 3 ↔ innerI (n.val : Int) = true) := by decide +kernel
theorem kindI_word (s : ByteArray) (k : Nat) (h : kindI (bt s k) ≠ 0) : kindI (bt s k) ≤ 3 ↔ innerI (bt s k) = true := by
  have hb := bt_lt s k
  have := kindI_word256 ⟨(bt s k).toNat, by omega⟩
  simp only [show (((bt s k).toNat : Nat) : Int) = bt s k from by omega] at this
  exact this h
theorem skip_blank (s : ByteArray) : ∀ (n a q : Nat), q - a = n → a ≤ q → q < skipTo s a → blankI (bt s q) = true ∧ q < s.size := by
  intro n
  induction n with
  | zero =>
    intro a q h1 h2 h3
    obtain rfl : q = a := by omega
    by_cases hl : q < s.size
    · refine ⟨?_, hl⟩
      by_cases hb : blankI (bt s q) = true
      · exact hb
      · rw [skipTo_no s q hl (by simpa using hb)] at h3; omega
    · rw [skipTo_end s q (by omega)] at h3; omega
  | succ n ih =>
    intro a q h1 h2 h3
    by_cases hl : a < s.size
    · by_cases hb : blankI (bt s a) = true
      · rw [skipTo_yes s a hl hb] at h3
        exact ih (a + 1) q (by omega) (by omega) h3
      · rw [skipTo_no s a hl (by simpa using hb)] at h3; omega
    · rw [skipTo_end s a (by omega)] at h3; omega
theorem word_inner (s : ByteArray) : ∀ (n a q : Nat), q - a = n → a ≤ q → q < wordTo s a → innerI (bt s q) = true ∧ q < s.size := by
  intro n
  induction n with
  | zero =>
    intro a q h1 h2 h3
    obtain rfl : q = a := by omega
    by_cases hl : q < s.size
    · refine ⟨?_, hl⟩
      by_cases hb : innerI (bt s q) = true
      · exact hb
      · rw [wordTo_no s q hl (by simpa using hb)] at h3; omega
    · rw [wordTo_end s q (by omega)] at h3; omega
  | succ n ih =>
    intro a q h1 h2 h3
    by_cases hl : a < s.size
    · by_cases hb : innerI (bt s a) = true
      · rw [wordTo_yes s a hl hb] at h3
        exact ih (a + 1) q (by omega) (by omega) h3
      · rw [wordTo_no s a hl (by simpa using hb)] at h3; omega
    · rw [wordTo_end s a (by omega)] at h3; omega
theorem word_max (s : ByteArray) : ∀ (n a : Nat), s.size - a = n → wordTo s a < s.size → innerI (bt s (wordTo s a)) = false := by
  intro n
  induction n with
  | zero => intro a h h2; rw [wordTo_end s a (by omega)] at h2; omega
  | succ n ih =>
    intro a h h2
    have hl : a < s.size := by omega
    by_cases hb : innerI (bt s a) = true
    · rw [wordTo_yes s a hl hb] at h2 ⊢; exact ih (a + 1) (by omega) h2
    · rw [wordTo_no s a hl (by simpa using hb)]; simpa using hb
theorem wordTo_all (s : ByteArray) : ∀ (n a : Nat), s.size - a = n → a ≤ s.size → (∀ q, a ≤ q → q < s.size → innerI (bt s q) = true) → wordTo s a = s.size := by
  intro n
  induction n with
  | zero => intro a h h2 _; rw [wordTo_end s a (by omega)]; omega
  | succ n ih =>
    intro a h h2 h3
    rw [wordTo_yes s a (by omega) (h3 a (by omega) (by omega))]
    exact ih (a + 1) (by omega) (by omega) (fun q h4 h5 => h3 q (by omega) h5)
theorem bt_extract (s : ByteArray) (p e q : Nat) (he : e ≤ s.size) (hq : p + q < e) : bt (s.extract p e) q = bt s (p + q) := by
  have h1 : q < (s.extract p e).size := by rw [ByteArray.size_extract]; omega
  rw [← bt_get _ q h1, ← bt_get s (p + q) (by omega)]
  congr 2
  exact ByteArray.getElem_extract ..
/-- what is known of a mark that stands behind a place -/
structure MFacts (s : ByteArray) (a : Nat) (m : Mk) : Prop where
  ge : a ≤ m.p
  one : 1 ≤ m.t.size
  le : m.p + m.t.size ≤ s.size
  piece : s.extract m.p (m.p + m.t.size) = m.t
  blanks : ∀ q, a ≤ q → q < m.p → blankI (bt s q) = true
  first : kindI (bt s m.p) = m.k
  kind : kindM m.t = (m.k, true)
  lo : 1 ≤ m.k
  hi : m.k ≤ 12
  sign : 3 < m.k → m.t.size = 1
  word : m.k ≤ 3 → ∀ q, q < m.t.size → innerI (bt m.t q) = true
  wordF : m.k ≤ 3 ↔ innerI (bt s m.p) = true
  bts : ∀ q, q < m.t.size → bt m.t q = bt s (m.p + q)
  max : m.k ≤ 3 → m.p + m.t.size < s.size → innerI (bt s (m.p + m.t.size)) = false
  lastB : 3 < m.k → innerI (bt s (m.p + m.t.size - 1)) = false
theorem mfacts (s : ByteArray) (a : Nat) (h : (nextM s a).k ≠ 0) : MFacts s a (nextM s a) := by
  have hp : (nextM s a).p = skipTo s a := nextM_p s a
  have h2 : skipTo s a < s.size ∧ kindI (bt s (skipTo s a)) ≠ 0 := by
    unfold nextM markAt at h; split at h
    · assumption
    · exact absurd rfl h
  have e : nextM s a = ⟨kindI (bt s (skipTo s a)), skipTo s a, s.extract (skipTo s a) (endM s (skipTo s a))⟩ := by
    unfold nextM markAt endM; rw [if_pos h2]
  have hE := endM_b s (skipTo s a) h2.1
  have hsz : (s.extract (skipTo s a) (endM s (skipTo s a))).size = endM s (skipTo s a) - skipTo s a := by rw [ByteArray.size_extract]; omega
  have hr := kindI_range (bt s (skipTo s a))
  rw [e]
  have hge := skipTo_ge s a
  have hbts : ∀ q, q < (s.extract (skipTo s a) (endM s (skipTo s a))).size → bt (s.extract (skipTo s a) (endM s (skipTo s a))) q = bt s (skipTo s a + q) :=
    fun q hq => bt_extract s _ _ q hE.2 (by omega)
  have hword : kindI (bt s (skipTo s a)) ≤ 3 → ∀ q, q < (s.extract (skipTo s a) (endM s (skipTo s a))).size → innerI (bt (s.extract (skipTo s a) (endM s (skipTo s a))) q) = true := by
    intro hk q hq
    rw [hbts q hq]
    by_cases h0 : q = 0
    · subst h0; exact (kindI_word s _ h2.2).1 hk
    · refine (word_inner s _ (skipTo s a + 1) (skipTo s a + q) rfl (by omega) ?_).1
      have : endM s (skipTo s a) = wordTo s (skipTo s a + 1) := by unfold endM; rw [if_pos hk]
      omega
  have hsign : 3 < kindI (bt s (skipTo s a)) → endM s (skipTo s a) = skipTo s a + 1 := by
    intro hk; unfold endM; rw [if_neg (by omega)]
  refine ⟨hge, by simp only; omega, by simp only; omega, ?_, fun q q1 q2 => (skip_blank s _ a q rfl q1 q2).1, rfl, ?_, by simp only; omega, hr.2, ?_, hword, kindI_word s _ h2.2, hbts, ?_, ?_⟩
  · simp only; rw [hsz]; congr 1; omega
  · simp only
    generalize ht : s.extract (skipTo s a) (endM s (skipTo s a)) = t at *
    have b0 : bt t 0 = bt s (skipTo s a) := hbts 0 (by omega)
    have k0 : skipTo t 0 = 0 := skipTo_no t 0 (by omega) (by rw [b0]; exact kindI_blank _ h2.2)
    have en : endM t 0 = t.size := by
      by_cases hk : kindI (bt s (skipTo s a)) ≤ 3
      · unfold endM; rw [b0, if_pos hk]
        exact wordTo_all t _ 1 rfl (by omega) (fun q q1 q2 => hword hk q q2)
      · unfold endM; rw [b0, if_neg hk]
        have := hsign (by omega); omega
    have en2 : nextM t 0 = ⟨kindI (bt s (skipTo s a)), 0, t.extract 0 (endM t 0)⟩ := by
      unfold nextM markAt; rw [k0, if_pos ⟨by omega, by rw [b0]; exact h2.2⟩, b0]
      congr 1
      unfold endM; rw [b0]
    unfold kindM
    rw [en2, if_pos ⟨h2.2, by simp only; rw [ByteArray.size_extract]; omega⟩]
  · intro hk; simp only at hk ⊢; have := hsign hk; omega
  · intro hk hl
    simp only at hk hl ⊢
    have hE2 : endM s (skipTo s a) = wordTo s (skipTo s a + 1) := by unfold endM; rw [if_pos hk]
    have e3 : skipTo s a + (s.extract (skipTo s a) (endM s (skipTo s a))).size = wordTo s (skipTo s a + 1) := by omega
    rw [e3] at hl ⊢
    exact word_max s _ _ rfl hl
  · intro hk
    simp only at hk ⊢
    have := hsign hk
    rw [show skipTo s a + (s.extract (skipTo s a) (endM s (skipTo s a))).size - 1 = skipTo s a from by omega]
    by_cases hi : innerI (bt s (skipTo s a)) = true
    · have := (kindI_word s _ h2.2).2 hi; omega
    · simpa using hi
end Go.Proofs.YtkmjmfcanlknjaaGreat
namespace Go.Proofs.YtkmjmfcanlknjaaGreat
open Go.RowKit

/-! ### the reference's marks -/
def upperI (c : Int) : Bool := 65 ≤ c && c ≤ 90
def lowerI (c : Int) : Bool := 97 ≤ c && c ≤ 122
def signI (c : Int) : Bool := c == 61 || c == 59 || c == 124 || c == 42 || c == 43 || c == 63 || c == 40 || c == 41 || c == 37
/-- the byte by which the reference tells a mark's kind -/
def tkB (k : Int) : Int := if k = 1 then 85 else if k = 2 then 76 else if k = 3 then 79 else if k = 4 then 61 else if k = 5 then 59 else if k = 6 then 124 else if k = 7 then 42 else if k = 8 then 43 else if k = 9 then 63 else if k = 10 then 40 else if k = 11 then 41 else if k = 12 then 37 else 0
theorem byte1 : ∀ n : Fin 256, signI (n.val : Int) = true → 3 < kindI (n.val : Int) ∧ tkB (kindI (n.val : Int)) = (n.val : Int) := by decide +kernel
theorem byte2 : ∀ n : Fin 256, signI (n.val : Int) = false → innerI (n.val : Int) = false → kindI (n.val : Int) = 0 := by decide +kernel
theorem byte3 : ∀ n : Fin 256, signI (n.val : Int) = false → innerI (n.val : Int) = true → kindI (n.val : Int) ≠ 0 ∧ kindI (n.val : Int) ≤ 3 := by decide +kernel
theorem byte4 : ∀ n : Fin 256, signI (n.val : Int) = false → innerI (n.val : Int) = true → upperI (n.val : Int) = true → kindI (n.val : Int) = 1 := by decide +kernel
theorem byte5 : ∀ n : Fin 256, signI (n.val : Int) = false → innerI (n.val : Int) = true → lowerI (n.val : Int) = true → kindI (n.val : Int) = 2 := by decide +kernel
theorem byte6 : ∀ n : Fin 256, signI (n.val : Int) = false → innerI (n.val : Int) = true → upperI (n.val : Int) = false → lowerI (n.val : Int) = false → kindI (n.val : Int) = 3 := by decide +kernel
theorem byte7 : ∀ n : Fin 256, upperI (n.val : Int) = true → lowerI (n.val : Int) = false := by decide +kernel
theorem byte_facts : ∀ n : Fin 256, (signI (n.val : Int) = true → 3 < kindI (n.val : Int) ∧ tkB (kindI (n.val : Int)) = (n.val : Int)) ∧
    (signI (n.val : Int) = false → innerI (n.val : Int) = false → kindI (n.val : Int) = 0) ∧
    (signI (n.val : Int) = false → innerI (n.val : Int) = true → kindI (n.val : Int) ≠ 0 ∧ kindI (n.val : Int) ≤ 3 ∧ (upperI (n.val : Int) = true → kindI (n.val : Int) = 1) ∧ (lowerI (n.val : Int) = true → kindI (n.val : Int) = 2) ∧ (upperI (n.val : Int) = false → lowerI (n.val : Int) = false → kindI (n.val : Int) = 3)) ∧
    (upperI (n.val : Int) = true → lowerI (n.val : Int) = false) := fun n => ⟨byte1 n, byte2 n, fun h1 h2 => ⟨(byte3 n h1 h2).1, (byte3 n h1 h2).2, byte4 n h1 h2, byte5 n h1 h2, byte6 n h1 h2⟩, byte7 n⟩
theorem byte_bt (s : ByteArray) (k : Nat) : ∃ n : Fin 256, (n.val : Int) = bt s k := by
  refine ⟨⟨(s.data.toList.getD k 0).toNat, (s.data.toList.getD k 0).toNat_lt⟩, rfl⟩
def Mk.tcells (m : Mk) : List Value := [.int .u8 (tkB m.k), .int .i64 m.p, .string m.t]
def flatTk (l : List Mk) : List Value := l.flatMap Mk.tcells
theorem elemTk : ElemOK Tryz.prog 70 112 3 32 :=
  ElemOK.mk' (z := .agg #[.int .u8 0, .int .i64 0, .string ⟨#[]⟩]) Tryz.underlying70 (by kernel_rfl) rfl (by decide)
theorem flatTk_snoc (l : List Mk) (m : Mk) : flatTk (l ++ [m]) = flatTk l ++ m.tcells := by simp [flatTk]
def OwnTk (w : World) (B : Nat) (v : Value) (l : List Mk) : Prop := w.ownsRow B 112 3 v l.length (flatTk l)
theorem OwnTk.snoc {w : World} {B : Nat} {v : Value} {l : List Mk} {m : Mk} (h : w.ownsRow B 112 3 v (l.length + 1) (flatTk l ++ m.tcells)) : OwnTk w B v (l ++ [m]) := by
  unfold OwnTk; rw [flatTk_snoc, List.length_append]; exact h

set_option maxHeartbeats 400000 in
theorem rBlank_any (c : Int) (w : World) :
    Calls Tryz.prog 83 #[.int .u8 c] w fun e w' => e = .returned (.bool (blankI c)) ∧ w = w' := by
  go_enter Tryz.func83, Tryz.ntmps83
  go_wp2
  all_goals go_ret
  all_goals refine ⟨?_, rfl⟩
  all_goals simp [blankI, *]
set_option maxHeartbeats 400000 in
theorem rUpper_any (c : Int) (w : World) :
    Calls Tryz.prog 86 #[.int .u8 c] w fun e w' => e = .returned (.bool (upperI c)) ∧ w = w' := by
  go_enter Tryz.func86, Tryz.ntmps86
  go_wp2
  all_goals go_ret
  all_goals refine ⟨congrArg (fun b => Ending.returned (.bool b)) ?_, rfl⟩
  all_goals (rw [Bool.eq_iff_iff]; simp [upperI]; omega)
set_option maxHeartbeats 400000 in
theorem rLower_any (c : Int) (w : World) :
    Calls Tryz.prog 87 #[.int .u8 c] w fun e w' => e = .returned (.bool (lowerI c)) ∧ w = w' := by
  go_enter Tryz.func87, Tryz.ntmps87
  go_wp2
  all_goals go_ret
  all_goals refine ⟨congrArg (fun b => Ending.returned (.bool b)) ?_, rfl⟩
  all_goals (rw [Bool.eq_iff_iff]; simp [lowerI]; omega)
set_option maxHeartbeats 800000 in
theorem rSign_any (c : Int) (w : World) :
    Calls Tryz.prog 84 #[.int .u8 c] w fun e w' => e = .returned (.bool (signI c)) ∧ w = w' := by
  go_enter Tryz.func84, Tryz.ntmps84
  go_wp2
  all_goals go_ret
  all_goals refine ⟨?_, rfl⟩
  all_goals simp [signI, *]
theorem inner_of (c : Int) : innerI c = (upperI c || lowerI c || (48 ≤ c && c ≤ 57) || c == 95) := by
  rw [Bool.eq_iff_iff]; simp [innerI, upperI, lowerI]; omega
set_option maxHeartbeats 400000 in
theorem rInner_any (c : Int) (w : World) :
    Calls Tryz.prog 85 #[.int .u8 c] w fun e w' => e = .returned (.bool (innerI c)) ∧ w = w' := by
  have HU := Lib.hid (rUpper_any c)
  have HL := Lib.hid (rLower_any c)
  rw [inner_of]
  generalize upperI c = u at *
  generalize lowerI c = l at *
  go_enter Tryz.func85, Tryz.ntmps85
  cases u <;> cases l
  all_goals
    go_wp2_with (first | (go_at_call 86; refine (HU.out _).mono ?_; rintro e w' ⟨rfl, rfl⟩) | (go_at_call 87; refine (HL.out _).mono ?_; rintro e w' ⟨rfl, rfl⟩))
  all_goals go_ret
  all_goals refine ⟨congrArg (fun b => Ending.returned (.bool b)) ?_, rfl⟩
  all_goals first | rfl | (rw [Bool.eq_iff_iff]; simp; omega)

set_option maxHeartbeats 400000 in
theorem rWordEnd_any (s : ByteArray) (k : Nat) (w : World) (hs : s.size ≤ 16777216) (hk : k ≤ s.size) :
    Calls Tryz.prog 88 #[.string s, .int .i64 k] w fun e w' => e = .returned (.int .i64 (wordTo s k)) ∧ w = w' := by
  go_enter Tryz.func88, Tryz.ntmps88
  go_wp2
  go_loop [1] (fun i => ∃ j : Nat, k ≤ j ∧ j ≤ s.size ∧ i = .int .i64 j ∧ Hid (wordTo s j = wordTo s k)) (fun i => s.size - (intOf i).toNat)
  case atStart => exact ⟨k, Nat.le_refl _, hk, rfl, rfl⟩
  case round =>
    obtain ⟨j, hj1, hj2, rfl, HS⟩ := hrel
    by_cases hlt : j < s.size
    · have hbg := Lib.hid (bt_get s j hlt)
      cases hb : innerI (bt s j) with
      | true =>
        have HB : Hid (∀ w, Calls Tryz.prog 85 #[.int .u8 (s[j].toNat : Int)] w fun e w' => e = .returned (.bool true) ∧ w = w') := by
          intro w; rw [← hb, ← hbg.out]; exact rInner_any _ _
        have HN : Hid (wordTo s (j + 1) = wordTo s k) := by unfold Hid; rw [← HS.out]; exact (wordTo_yes s j hlt hb).symm
        clear hb
        go_wp2_with (go_at_call 85; refine (HB.out _).mono ?_; rintro e w' ⟨rfl, rfl⟩)
        go_round
        case rel => exact ⟨j + 1, by omega, by omega, by go_num, HN.out⟩
        case measure => simp [intOf]; omega
      | false =>
        have HB : Hid (∀ w, Calls Tryz.prog 85 #[.int .u8 (s[j].toNat : Int)] w fun e w' => e = .returned (.bool false) ∧ w = w') := by
          intro w; rw [← hb, ← hbg.out]; exact rInner_any _ _
        have HN : Hid (wordTo s k = j) := by unfold Hid; rw [← HS.out]; exact wordTo_no s j hlt hb
        clear hb
        go_wp2_with (go_at_call 85; refine (HB.out _).mono ?_; rintro e w' ⟨rfl, rfl⟩)
        go_ret
        exact ⟨congrArg (fun b : Nat => Ending.returned (.int .i64 (b : Int))) HN.out.symm, rfl⟩
    · have HN : Hid (wordTo s k = j) := by unfold Hid; rw [← HS.out]; exact wordTo_end s j (by omega)
      go_wp2
      go_ret
      exact ⟨congrArg (fun b : Nat => Ending.returned (.int .i64 (b : Int))) (by rw [HN.out]), rfl⟩
/-- what Toks tells of the first bad byte -/
def badI (s : ByteArray) : Int := if (cut s 0).2 < s.size then ((cut s 0).2 : Nat) else -1

set_option maxRecDepth 100000 in
set_option maxHeartbeats 1600000 in
theorem rToks_any (s : ByteArray) (w : World) (hs : s.size ≤ 16777216) :
    Calls Tryz.prog 41 #[.string s] w fun e w' => ∃ v, e = .returned (.tuple #[v, .int .i64 (badI s)]) ∧ OwnTk w' w.heap.size v (cut s 0).1 ∧ Below w.heap.size w w' := by
  go_enter Tryz.func41, Tryz.ntmps41
  go_wp2
  go_loopw [4, 5] (fun v i wr => ∃ (j : Nat) (l : List Mk), j ≤ s.size ∧ l.length ≤ j ∧ i = .int .i64 j ∧ OwnTk wr w.heap.size v l ∧ Below w.heap.size w wr ∧ Hid (cut s 0 = (l ++ (cut s j).1, (cut s j).2))) (fun _ i _ => s.size - (intOf i).toNat)
  case atStart => exact ⟨0, [], by omega, by simp, rfl, World.ownsRow_nil _ _ _ _, Below.refl _ _, rfl⟩
  case round =>
    obtain ⟨j, l, hj, hl, rfl, hown, hbel, HC⟩ := hrel
    by_cases hlt : j < s.size
    · have hbg := Lib.hid (bt_get s j hlt)
      have HB : Hid (∀ w, Calls Tryz.prog 83 #[.int .u8 (s[j].toNat : Int)] w fun e w' => e = .returned (.bool (blankI (bt s j))) ∧ w = w') := by
        intro w; rw [← hbg.out]; exact rBlank_any _ _
      have HSg : Hid (∀ w, Calls Tryz.prog 84 #[.int .u8 (s[j].toNat : Int)] w fun e w' => e = .returned (.bool (signI (bt s j))) ∧ w = w') := by
        intro w; rw [← hbg.out]; exact rSign_any _ _
      have HI : Hid (∀ w, Calls Tryz.prog 85 #[.int .u8 (s[j].toNat : Int)] w fun e w' => e = .returned (.bool (innerI (bt s j))) ∧ w = w') := by
        intro w; rw [← hbg.out]; exact rInner_any _ _
      have HU : Hid (∀ w, Calls Tryz.prog 86 #[.int .u8 (s[j].toNat : Int)] w fun e w' => e = .returned (.bool (upperI (bt s j))) ∧ w = w') := by
        intro w; rw [← hbg.out]; exact rUpper_any _ _
      have HL : Hid (∀ w, Calls Tryz.prog 87 #[.int .u8 (s[j].toNat : Int)] w fun e w' => e = .returned (.bool (lowerI (bt s j))) ∧ w = w') := by
        intro w; rw [← hbg.out]; exact rLower_any _ _
      obtain ⟨n, hn⟩ := byte_bt s j
      have hf := byte_facts n
      rw [hn] at hf
      have HF := Lib.hid hf
      clear hn hf
      cases hb : blankI (bt s j) with
      | true =>
        have HC2 : Hid (cut s 0 = (l ++ (cut s (j + 1)).1, (cut s (j + 1)).2)) := by unfold Hid; rw [HC.out, cut_blank s j hlt hb]
        rw [hb] at HB
        clear hb
        go_wp2_with (go_at_call 83; refine (HB.out _).mono ?_; rintro e w' ⟨rfl, rfl⟩)
        go_roundw
        case rel => exact ⟨j + 1, l, by omega, by omega, by go_num, hown, hbel, HC2⟩
        case measure => simp [intOf]; omega
      | false =>
        rw [hb] at HB
        cases hsg : signI (bt s j) with
        | true =>
          rw [hsg] at HSg
          obtain ⟨hk3, htk⟩ := HF.out.1 hsg
          have HC2 : Hid (cut s 0 = ((l ++ [⟨kindI (bt s j), j, s.extract j (j + 1)⟩]) ++ (cut s (j + 1)).1, (cut s (j + 1)).2)) := by
            unfold Hid
            have e : endM s j = j + 1 := by unfold endM; rw [if_neg (by omega)]
            rw [HC.out, cut_good s j hlt hb (by omega), e]; simp
          rw [← bt_get s j hlt] at htk
          have hto : tkB (kindI (bt s j)) = s[j].toNat := by rw [← hbg.out]; exact htk
          have HT := Lib.hid hto
          have hll : l.length + 1 ≤ 16777217 := by omega
          clear hb hsg hk3 htk hto
          generalize kindI (bt s j) = kk at *
          go_wp2_with (first | (go_at_call 83; refine (HB.out _).mono ?_; rintro e w' ⟨rfl, rfl⟩) | (go_at_call 84; refine (HSg.out _).mono ?_; rintro e w' ⟨rfl, rfl⟩) | (at_builtin; go_must (refine wpList_app1 elemTk rfl _ _ rfl hown rfl (news := [.int .u8 (s[j].toNat : Int), .int .i64 j, .string (s.extract j (j + 1))]) rfl rfl (by intro u hu; simp at hu; rcases hu with rfl | rfl | rfl <;> rfl) (by omega) (by decide) hbel (Nat.le_refl _) ?_); intro v' w1 hown1 hbel1 _))
          go_roundw
          case rel => exact ⟨j + 1, _, by omega, by simp; omega, by go_num, OwnTk.snoc (m := ⟨kk, j, s.extract j (j + 1)⟩) (by unfold Mk.tcells; simp only; rw [HT.out]; exact hown1), hbel1, HC2⟩
          case measure => simp [intOf]; omega
        | false =>
          rw [hsg] at HSg
          cases hi : innerI (bt s j) with
          | false =>
            rw [hi] at HI
            have hk0 := HF.out.2.1 hsg hi
            have HC2 : Hid (cut s 0 = (l, j)) := by unfold Hid; rw [HC.out, cut_bad s j hlt hb hk0]; simp
            have HBd : Hid (badI s = j) := by unfold Hid badI; rw [HC2.out, if_pos hlt]
            clear hb hsg hi hk0
            obtain ⟨_, ao, cp, rfl, -⟩ := Rd.of_owns hown
            go_wp2_with (first | (go_at_call 83; refine (HB.out _).mono ?_; rintro e w' ⟨rfl, rfl⟩) | (go_at_call 84; refine (HSg.out _).mono ?_; rintro e w' ⟨rfl, rfl⟩) | (go_at_call 85; refine (HI.out _).mono ?_; rintro e w' ⟨rfl, rfl⟩))
            go_ret2
            exact ⟨_, by rw [HBd.out]; rfl, by rw [HC2.out]; exact hown, hbel⟩
          | true =>
            rw [hi] at HI
            obtain ⟨hk0, hk3, hku, hkl, hko⟩ := HF.out.2.2.1 hsg hi
            have hul := HF.out.2.2.2
            have e : endM s j = wordTo s j := by unfold endM; rw [if_pos hk3, wordTo_yes s j hlt hi]
            have hEb := endM_b s j hlt
            rw [e] at hEb
            have HC2 : Hid (cut s 0 = ((l ++ [⟨kindI (bt s j), j, s.extract j (wordTo s j)⟩]) ++ (cut s (wordTo s j)).1, (cut s (wordTo s j)).2)) := by
              unfold Hid
              rw [HC.out, cut_good s j hlt hb hk0, e]; simp
            have HW := Lib.hid (fun w => rWordEnd_any s j w hs (by omega))
            have hcase : (upperI (bt s j) = true ∧ lowerI (bt s j) = false ∧ kindI (bt s j) = 1) ∨ (upperI (bt s j) = false ∧ lowerI (bt s j) = true ∧ kindI (bt s j) = 2) ∨ (upperI (bt s j) = false ∧ lowerI (bt s j) = false ∧ kindI (bt s j) = 3) := by
              cases h1 : upperI (bt s j) with
              | true => exact .inl ⟨rfl, hul h1, hku h1⟩
              | false => cases h2 : lowerI (bt s j) with
                | true => exact .inr (.inl ⟨rfl, rfl, hkl h2⟩)
                | false => exact .inr (.inr ⟨rfl, rfl, hko h1 h2⟩)
            clear hb hsg hi hk0 hk3 hku hkl hko hul e
            have hll : l.length + 1 ≤ 16777217 := by omega
            generalize wordTo s j = en at *
            rcases hcase with ⟨h1, h2, h3⟩ | ⟨h1, h2, h3⟩ | ⟨h1, h2, h3⟩
            all_goals
              rw [h1] at HU
              rw [h2] at HL
              rw [h3] at HC2
              clear h1 h2 h3
              go_wp2_with (first | (go_at_call 83; refine (HB.out _).mono ?_; rintro e w' ⟨rfl, rfl⟩) | (go_at_call 84; refine (HSg.out _).mono ?_; rintro e w' ⟨rfl, rfl⟩) | (go_at_call 85; refine (HI.out _).mono ?_; rintro e w' ⟨rfl, rfl⟩) | (go_at_call 86; refine (HU.out _).mono ?_; rintro e w' ⟨rfl, rfl⟩) | (go_at_call 87; refine (HL.out _).mono ?_; rintro e w' ⟨rfl, rfl⟩) | (go_at_call 88; refine (HW.out _).mono ?_; rintro e w' ⟨rfl, rfl⟩) | (at_builtin; go_must (refine wpList_app1 elemTk rfl _ _ rfl hown rfl (news := [.int .u8 _, .int .i64 j, .string (s.extract j en)]) rfl rfl (by intro u hu; simp at hu; rcases hu with rfl | rfl | rfl <;> rfl) (by omega) (by decide) hbel (Nat.le_refl _) ?_); intro v' w1 hown1 hbel1 _))
              go_roundw
              case rel => exact ⟨en, _, by omega, by simp; omega, rfl, OwnTk.snoc (m := ⟨_, j, s.extract j en⟩) hown1, hbel1, HC2⟩
              case measure => simp [intOf]; omega
    · obtain rfl : j = s.size := by omega
      have HC2 : Hid (cut s 0 = (l, s.size)) := by unfold Hid; rw [HC.out, cut_end]; simp
      have HBd : Hid (badI s = -1) := by unfold Hid badI; rw [HC2.out, if_neg (by omega)]
      obtain ⟨_, ao, cp, rfl, -⟩ := Rd.of_owns hown
      go_wp2
      go_ret2
      exact ⟨_, by rw [HBd.out]; rfl, by rw [HC2.out]; exact hown, hbel⟩
end Go.Proofs.YtkmjmfcanlknjaaGreat
namespace Go.Proofs.YtkmjmfcanlknjaaGreat
open Go.RowKit

def nextS (o : Int) (w : Bool) (k : Int) : Int × Bool × Bool :=
  if beginsI k = true then (if k = 10 then (o + 1, true, true) else (o, false, true))
  else if w = true then (o, w, false)
  else if k = 6 then (o, true, true)
  else if k = 11 then (o - 1, false, decide (0 < o))
  else (o, w, k == 7 || k == 8 || k == 9)

set_option maxHeartbeats 400000 in
theorem rBegins_any (k : Int) (w : World) (h1 : 1 ≤ k) (h2 : k ≤ 12) :
    Calls Tryz.prog 130 #[.int .u8 (tkB k)] w fun e w' => e = .returned (.bool (beginsI k)) ∧ w = w' := by
  obtain rfl | rfl | rfl | rfl | rfl | rfl | rfl | rfl | rfl | rfl | rfl | rfl : k = 1 ∨ k = 2 ∨ k = 3 ∨ k = 4 ∨ k = 5 ∨ k = 6 ∨ k = 7 ∨ k = 8 ∨ k = 9 ∨ k = 10 ∨ k = 11 ∨ k = 12 := by omega
  all_goals
    simp only [tkB]
    go_enter Tryz.func130, Tryz.ntmps130
    go_wp2
    go_ret
    exact ⟨rfl, rfl⟩

set_option maxHeartbeats 4000000 in
theorem rNext_any (o : Int) (b : Bool) (k : Int) (w : World) (h1 : 1 ≤ k) (h2 : k ≤ 12) (ho : 0 ≤ o) (ho2 : o ≤ 4294967296) :
    Calls Tryz.prog 115 #[.agg #[.int .i64 o, .bool b], .int .u8 (tkB k)] w fun e w' => e = .returned (.tuple #[.agg #[.int .i64 (nextS o b k).1, .bool (nextS o b k).2.1], .bool (nextS o b k).2.2]) ∧ Below w.heap.size w w' := by
  have HB := Lib.hid (fun w => rBegins_any k w h1 h2)
  by_cases hk : k = 11 ∧ b = false
  · obtain ⟨rfl, rfl⟩ := hk
    have hN : nextS o false 11 = (o - 1, false, decide (0 < o)) := rfl
    rw [hN]
    clear hN h1 h2
    simp only [tkB, beginsI] at *
    go_enter Tryz.func115, Tryz.ntmps115
    go_wp2_with (go_at_call 130; refine (HB.out _).mono ?_; rintro e w' ⟨rfl, rfl⟩)
    go_region
    go_wp2
    refine bodyPost_ret (v := .tuple #[.agg #[.int .i64 (o - 1), .bool false], .bool (decide (0 < o))]) (by simp [results, Tryz.results115, go_sem]) rfl ⟨rfl, (below2 _ _ _).drew⟩
  · obtain rfl | rfl | rfl | rfl | rfl | rfl | rfl | rfl | rfl | rfl | rfl | rfl : k = 1 ∨ k = 2 ∨ k = 3 ∨ k = 4 ∨ k = 5 ∨ k = 6 ∨ k = 7 ∨ k = 8 ∨ k = 9 ∨ k = 10 ∨ k = 11 ∨ k = 12 := by omega
    all_goals cases b
    all_goals try (exfalso; exact hk ⟨rfl, rfl⟩)
    all_goals
      clear h1 h2 hk
      simp only [tkB, beginsI] at *
      go_enter Tryz.func115, Tryz.ntmps115
      go_wp2_with (go_at_call 130; refine (HB.out _).mono ?_; rintro e w' ⟨rfl, rfl⟩)
      refine bodyPost_ret (v := .tuple #[.agg #[.int .i64 (nextS o _ _).1, .bool (nextS o _ _).2.1], .bool (nextS o _ _).2.2]) (by simp [results, Tryz.results115, go_sem, nextS, beginsI]) rfl ⟨rfl, below2 _ _ _⟩
end Go.Proofs.YtkmjmfcanlknjaaGreat
namespace Go.Proofs.YtkmjmfcanlknjaaGreat
open Go.RowKit Go.Shelf

theorem grown_of_below {w w' : World} (h : Below w.heap.size w w') : w.grownBy w' none := ⟨h.os, h.tape, h.output, h.size, fun k hk _ => h.block k hk⟩

/-- each block of one element of type e (a loop variable's box) lies as it lay -/
def KeepsOnes (e size : Nat) (W W' : World) : Prop := ∀ (b : Nat) (c : Array Value) (fr : Nat × Nat), W.heap[b]? = some (Obj.cells c e fr) → c.size = size → W'.heap[b]? = W.heap[b]?
theorem KeepsOnes.refl (e size : Nat) (W : World) : KeepsOnes e size W W := fun _ _ _ _ _ => rfl
theorem KeepsOnes.trans {e size : Nat} {A B C : World} (h : KeepsOnes e size A B) (k : KeepsOnes e size B C) : KeepsOnes e size A C :=
  fun b c fr hb hc => by rw [k b c fr (by rw [h b c fr hb hc]; exact hb) hc, h b c fr hb hc]
theorem KeepsOnes.of_below {e size : Nat} {A B : World} (h : Below A.heap.size A B) : KeepsOnes e size A B :=
  fun b _ _ hb _ => h.block b (Array.getElem?_eq_some_iff.1 hb).1
theorem KeepsOnes.alloc (e size : Nat) (W : World) (o : Obj) : KeepsOnes e size W (W.alloc o) := .of_below (below1 W o)
/-- a store into a box of another type -/
theorem KeepsOnes.setCell {e size t : Nat} {W : World} {B : Nat} {v : Value} (h : Boxed W B t v) (hne : t ≠ e) (o : Nat) (u : Value) : KeepsOnes e size W (W.setCell ⟨B, o, none⟩ u) := by
  intro b c fr hb hc
  by_cases hB : b = B
  · subst hB; have := (show W.heap[b]? = _ from h).symm.trans hb; simp at this; exact absurd this.2.1 hne
  · exact Below.heap_setCell _ _ _ _ hB
theorem KeepsOnes.putObj {e size : Nat} {W : World} {l : Nat} {o : Obj} (h : W.heap[l]? = some o) (ho : o.isCells = false) (o' : Obj) : KeepsOnes e size W (W.putObj l o') := by
  intro b c fr hb hc
  by_cases hB : b = l
  · subst hB; rw [h] at hb; cases hb; simp [Obj.isCells] at ho
  · exact World.putObj_heap_other hB

/-- append of one element to an owned row: what is kept -/
theorem run_app1 {P : Program} {t e : TypeId} {size bytes : Nat} (hE : ElemOK P t e size bytes) (hs2 : 1 ≤ size) {B : Nat} {w : World} (ty : TypeId) {v : Value} {n : Nat} {xs : List Value} (hown : w.ownsRow B e size v n xs) (hnil : n = 0 → v = .slice none 0 0)
    (ad : Addr) {news : List Value} (hl : news.length = size) (hnews : ∀ j u, news[j]? = some u → w.cell? (ad.add j) = some u) (h1 : ∀ u ∈ news, u.oneCell' = true) (c : Nat)
    (hn : n < 4294967296) (hby : bytes ≤ 16384) (hB : B ≤ w.heap.size) :
    ∃ v' w', (Builtin.append_ #[t, t] ty #[v, .slice (some ad) 1 c]).run P w = .ok v' w' ∧ w'.ownsRow B e size v' (n + 1) (xs ++ news) ∧ w.grownBy w' v.ownBlock ∧ KeepsOnes e size w w' ∧ (∃ g cap, v' = .slice (some ⟨g, 0, none⟩) (n + 1) cap) := by
  obtain ⟨i, z, ht, hi, hz, hz1, hz2, hz3, hz4⟩ := hE.ex
  have hb : (n + 1) * bytes ≤ 140737488355328 := by
    have : (n + 1) * bytes ≤ 4294967296 * 16384 := Nat.mul_le_mul (by omega) hby
    omega
  have shape : ∀ {w' : World} {v' : Value}, w'.ownsRow B e size v' (n + 1) (xs ++ news) → ∃ g cap, v' = .slice (some ⟨g, 0, none⟩) (n + 1) cap := by
    intro w' v' h
    rcases h.2 with ⟨h, h'⟩ | ⟨g, cap, _, h, _⟩
    · omega
    · exact ⟨g, cap, h⟩
  rcases hown.2 with ⟨hv, hn0⟩ | ⟨g, cap, cur, hv, hBg, hg, hnc, hcm, hcs, htk⟩
  · obtain ⟨v', w', hr, h2, h3, _⟩ := run_append_own (P := P) w B t ty e i z size bytes ht hi hz hz1 hz2 hz3 hz4 v n xs hown ad 1 c news (by omega) hnews h1 (by unfold maxLen; omega) hb hB
    refine ⟨v', w', hr, h2, h3, ?_, shape h2⟩
    intro b cc fr hbb _
    exact h3.block b (Array.getElem?_eq_some_iff.1 hbb).1 (by rw [hv]; simp [Value.ownBlock])
  · subst hv
    have hn1 : 1 ≤ n := by
      rcases Nat.eq_zero_or_pos n with h | h
      · have := hnil h; simp at this
      · exact h
    by_cases hroom : n + 1 ≤ cap
    · obtain ⟨w', hr, h2, h3⟩ := run_append_fits (P := P) w B t ty e i size ht hi hz1 g n cap xs hown ad 1 c news (by omega) hnews h1 hroom
      refine ⟨_, w', hr, h2, h3, ?_, ⟨g, cap, rfl⟩⟩
      intro b cc fr hbb hcc
      refine h3.block b (Array.getElem?_eq_some_iff.1 hbb).1 ?_
      intro e'
      obtain rfl : b = g := by simpa using e'
      rw [hg] at hbb
      simp at hbb
      rw [← hbb.1, hcs] at hcc
      have : 2 * size ≤ cap * size := Nat.mul_le_mul_right _ (by omega)
      omega
    · obtain ⟨v', w', hr, h2, h3⟩ := run_append_arg_grows (P := P) w t ty e i z size bytes ht hi hz hz1 hz2 hz3 hz4 ⟨g, 0, none⟩ n cap xs hown.1 (fun j u hj => hown.cells rfl j u hj) ad 1 c news (by omega) hnews (by omega) (by unfold maxLen; omega) hb
      have h2' : w'.ownsRow B e size v' (n + 1) (xs ++ news) := by
        refine ⟨h2.1, ?_⟩
        rcases h2.2 with ⟨_, h'⟩ | ⟨g2, cap2, cur2, k1, k2, k3⟩
        · omega
        · exact .inr ⟨g2, cap2, cur2, k1, by omega, k3⟩
      refine ⟨v', w', hr, h2', ⟨h3.os, h3.tape, h3.output, h3.size, fun k hk _ => h3.block k hk (by simp)⟩, ?_, shape h2'⟩
      intro b cc fr hbb _
      exact h3.block b (Array.getElem?_eq_some_iff.1 hbb).1 (by simp)

/-- the fenced law: 'x = append(x, m)', x in a box Bx, one new element -/
theorem wpListIn_app1 {F : Fence} {n' : Nat} {P : Program} {t e : TypeId} {size bytes : Nat} (hE : ElemOK P t e size bytes) (hs2 : 1 ≤ size) {B : Nat} {wr : World} {ops : Array Oper} {rest : List Oper} {o : Oper} {a : Act} {Q : Exit → Act → World → Prop} (hgd : o.guard = none) (s x : Operand)
    (ho : o.op = .call { callee := .builtin .append, args := #[s, x], argTypes := #[t, t] })
    {v : Value} {n : Nat} {xs : List Value} (hown : wr.ownsRow B e size v n xs) (hnil : n = 0 → v = .slice none 0 0) (hs : a.eval s = v)
    {news : List Value} (hx : a.eval x = .slice (some ⟨wr.heap.size, 0, none⟩) 1 1) (hl : news.length = size) (h1 : ∀ u ∈ news, u.oneCell' = true)
    (hn : n < 4294967296) (hby : bytes ≤ 16384) (hB : B ≤ wr.heap.size)
    (h : ∀ v' w', w'.ownsRow B e size v' (n + 1) (xs ++ news) → (wr.alloc (.cells news.toArray e)).grownBy w' v.ownBlock → KeepsOnes e size (wr.alloc (.cells news.toArray e)) w' → (∃ g cap, v' = .slice (some ⟨g, 0, none⟩) (n + 1) cap) → wpListIn F n' P ops Q rest (a.put o.dst v') w') :
    wpListIn F n' P ops Q (o :: rest) a (wr.alloc (.cells news.toArray e)) := by
  refine wpListIn_plain hgd fun K hK' => ?_
  obtain ⟨v', w', hrun, r1, r2, r3, r4⟩ := run_app1 (P := P) hE hs2 o.type (hown.alloc (.cells news.toArray e)) hnil ⟨wr.heap.size, 0, none⟩ hl (cells_new wr news e) h1 1 hn hby (by simp; omega)
  unfold Oper.wpIn
  refine ⟨?_, ?_⟩
  · simp [Oper.about, ho, resolve, Target.leads, Sem.run_pure]
  · rw [Oper.semAt_plain F _ _ (by rw [ho]; intro c hc'; cases hc')]
    simp [execOp, ho, resolve, invoke, builtin, hs, hx, hrun, Result.andThen]
    exact hK' _ _ (h v' w' r1 r2 r3 r4)

/-- a range over a function whose one loop variable lies in a box (slot q), laid anew each round -/
theorem wpIn_rangeFunc_boxed {F : Fence} {n : Nat} {P : Program} {α : Type} {g : Operand} {p q : Tmp} {assign body : Code} {Q : Exit → Act → World → Prop} {a : Act} {w : World}
    (hro : F.round = none) (h1 : 1 ≤ n) {gf : Nat} {lb : Array Value} (hg : a.eval g = .func (.func gf) #[] lb) (hFg : F.fn gf) (eg : ∀ args w, (callFunc gf args).run P w = .ok (.enter gf args) w)
    {enc1 : α → Value} {Kp : World → World → Prop} {S Sp : List α → Prop} {N : Nat} {w0 : World} (hseq : SeqStopsK F (n - 1) P gf lb (fun x => #[enc1 x]) Kp S Sp N w0)
    (hKt : ∀ {A B C : World}, Kp A B → Kp B C → Kp A C) (hKb : ∀ (W : World) (l : Nat) (o o' : Obj), w.heap.size ≤ l → W.heap[l]? = some o → o.isCells = false → o.isWalk = false → Kp W (W.putObj l o')) (hb0 : Below w0.heap.size w0 w)
    (cellsOf : α → Array Value) (e : TypeId) (I : List α → World → Prop) (Ix : Code → List α → World → Prop) (hI : OwnFrom w.heap.size I) (hIx : ∀ c, OwnFrom w.heap.size (Ix c)) (h0 : I [] w)
    (hle : ∀ pre W, I pre W → w.heap.size ≤ W.heap.size) (hKa : ∀ pre W o, I pre W → Kp W (W.alloc o))
    (hassign : ∀ (l : Nat) (x : α) (W : World) (K : Act → World → Prop), K { tmps := (a.tmps.setIfInBounds p (enc1 x)).setIfInBounds q (.pointer (some ⟨W.heap.size, 0, none⟩)), defers := [] } (W.alloc (.cells (cellsOf x) e)) →
      assign.wpIn (F.inRound l) (n - 1 - 1) P (Exit.then K (fun _ _ _ => False)) { tmps := a.tmps.setIfInBounds p (enc1 x), defers := [] } W)
    (hbody : ∀ (l : Nat) (pre : List α) (x : α) (Bx : Nat) (W : World), I pre W → w.heap.size ≤ Bx → W.heap[Bx]? = some (.cells (cellsOf x) e (0, 0)) → pre.length < N →
      body.wpIn (F.inRound l) (n - 1 - 1) P (ownPostG w.heap.size Kp I Ix (pre ++ [x]) W) { tmps := (a.tmps.setIfInBounds p (enc1 x)).setIfInBounds q (.pointer (some ⟨Bx, 0, none⟩)), defers := [] } W)
    (hdone : ∀ (D : Nat) (xs : List α) (W : World), w.heap.size ≤ D → S xs → I xs W → W.heap[D]? = some (.deferred (some [])) → Q .normal { a with defers := { target := .collected D, args := #[] } :: a.defers } W)
    (hstop : ∀ (D : Nat) (c : Code) (pre : List α) (W : World), w.heap.size ≤ D → Sp pre → Ix c pre W → W.heap[D]? = some (.deferred (some [])) → c.wpIn F n P Q { a with defers := { target := .collected D, args := #[] } :: a.defers } W) :
    (Code.rangeFunc g #[p] assign body).wpIn F n P Q a w := by
  refine wpIn_rangeFunc_ownH hro h1 hg hFg eg hseq hKt hKb hb0 (fun _ => rfl) I Ix hI hIx h0
    (fun x a' W => ∃ Bx, w.heap.size ≤ Bx ∧ W.heap[Bx]? = some (.cells (cellsOf x) e (0, 0)) ∧ a' = { tmps := (a.tmps.setIfInBounds p (enc1 x)).setIfInBounds q (.pointer (some ⟨Bx, 0, none⟩)), defers := [] }) ?_ ?_ ?_ hdone hstop
  · intro x a' _ X Y row h hg hr
    obtain ⟨Bx, k1, k2, k3⟩ := h
    refine ⟨Bx, k1, (hg.block Bx (Array.getElem?_eq_some_iff.1 k2).1 ?_).trans k2, k3⟩
    intro ee
    obtain ⟨_, o, ho, hc⟩ := hr Bx ee.symm
    rw [k2] at ho; cases ho; simp [Obj.isCells] at hc
  · intro l pre x W K hi hK
    have e1 : ∀ (f : Array Value → Tmp × Value → Array Value), (#[p].zip #[enc1 x]).foldl f a.tmps = f a.tmps (p, enc1 x) := by intro f; simp
    rw [e1]
    refine hassign l x W K ?_
    exact hK _ _ ((KeepsOthers.alloc W _).from _) (hKa pre W _ hi) (hI.alloc _ hi) ⟨W.heap.size, hle pre W hi, World.alloc_heap_new W _, rfl⟩
  · rintro l pre x a' W _ _ hi ⟨Bx, k1, k2, rfl⟩ hlt
    exact hbody l pre x Bx W hi k1 k2 hlt

/-! ### a region that draws its order and only reads, within a round -/
theorem wpOpIn_inRound {F : Fence} {n : Nat} {P : Program} {ops : Array Oper} {Q : Exit → Act → World → Prop} {l i : Nat} {K K' : Act → World → Prop} {a : Act} {w : World}
    (hnd : ∀ (i : Nat) (o : Oper) c, ops[i]? = some o → o.op ≠ .defer c) (hk : ∀ a w, K a w → K' a w) (h : wpOpIn F n P ops Q i K a w) : wpOpIn (F.inRound l) n P ops Q i K' a w := by
  unfold wpOpIn at h ⊢
  cases ho : ops[i]? with
  | none => rw [ho] at h; exact hk _ _ h
  | some o =>
    rw [ho] at h
    dsimp only at h ⊢
    split
    · rename_i hw
      rw [if_pos hw] at h
      have h2 := Oper.wpIn_mono hk h
      unfold Oper.wpIn at h2 ⊢
      rw [Oper.semAt_eq _ _ _ (hnd i o · ho)] at h2 ⊢
      exact h2
    · rename_i hw
      rw [if_neg hw] at h
      exact ⟨h.1, hk _ _ h.2⟩
theorem wpAnyIn_inRound {F : Fence} {n : Nat} {P : Program} {md : Region.Mode} {ops : Array Oper} {Q : Exit → Act → World → Prop} {l : Nat} (hnd : ∀ (i : Nat) (o : Oper) c, ops[i]? = some o → o.op ≠ .defer c) :
    ∀ (fuel : Nat) (listed : Array Bool) (a : Act) (w : World), wpAnyIn F n P md ops Q fuel listed a w → wpAnyIn (F.inRound l) n P md ops Q fuel listed a w
  | 0, _, _, _, h => h
  | fuel + 1, _, _, _, h => ⟨h.1, fun i hi => wpOpIn_inRound hnd (wpAnyIn_inRound hnd fuel _) (h.2 i hi)⟩
def noDefer (ops : Array Oper) : Bool := ops.all fun o => match o.op with | .defer _ => false | _ => true
theorem noDefer_spec {ops : Array Oper} (h : noDefer ops = true) (i : Nat) (o : Oper) (c : Call) (ho : ops[i]? = some o) : o.op ≠ .defer c := by
  intro e
  have hm : o ∈ ops := Array.mem_of_getElem? ho
  have := Array.all_eq_true'.1 h o hm
  rw [e] at this
  simp at this
/-- a region that draws its order and only reads, within a round: one walk, in the text's order -/
theorem wpIn_quietR {F : Fence} {n l : Nat} {P : Program} {id : Nat} {Q : Exit → Act → World → Prop} {a : Act} {w : World} {ls : List Oper} (hro : F.round = none) (hm : P.follows .mixedOrders = true) (hB : Region.lexB .any ls.toArray = true) (hnd : noDefer ls.toArray = true)
    (h : wpQuietIn F n P ls.toArray (fun w' => ∃ n, w' = w.drewN n) (fun a' => ∀ w', (∃ n, w' = w.drewN n) → Q .normal a' w') ls a) : (Code.region id ls.toArray true).wpIn (F.inRound l) n P Q a w := by
  simp only [Region.lexB, Bool.and_eq_true] at hB
  refine wpIn_region_any hm (wpAnyIn_inRound (noDefer_spec hnd) _ _ _ _ (wpAnyIn_of_quiet (C := fun w' => ∃ n, w' = w.drewN n) (Q := fun a' => ∀ w', (∃ n, w' = w.drewN n) → Q .normal a' w') hro (fun _ w' hw' h => h w' hw') _ _ _ _ ⟨1, rfl⟩ ?_))
  have := wpAnyQIn_lex (F := F) (n := n) (C := fun w' => ∃ n, w' = w.drewN n) (md := .any) hB.1 ls 0 (Array.replicate ls.toArray.size false) a (by simp) (by simpa using hB.2) h
  simpa using this

/-- the same, where the loop is left by 'break' alone (or not at all): what stands behind it is walked once -/
theorem wpIn_rangeFunc_boxedB {F : Fence} {n : Nat} {P : Program} {α : Type} {g : Operand} {p q : Tmp} {assign body : Code} {id : Nat} {Q : Exit → Act → World → Prop} {a : Act} {w : World}
    (hro : F.round = none) (h1 : 1 ≤ n) {gf : Nat} {lb : Array Value} (hg : a.eval g = .func (.func gf) #[] lb) (hFg : F.fn gf) (eg : ∀ args w, (callFunc gf args).run P w = .ok (.enter gf args) w)
    {enc1 : α → Value} {Kp : World → World → Prop} {S Sp : List α → Prop} {N : Nat} {w0 : World} (hseq : SeqStopsK F (n - 1) P gf lb (fun x => #[enc1 x]) Kp S Sp N w0)
    (hKt : ∀ {A B C : World}, Kp A B → Kp B C → Kp A C) (hKb : ∀ (W : World) (l : Nat) (o o' : Obj), w.heap.size ≤ l → W.heap[l]? = some o → o.isCells = false → o.isWalk = false → Kp W (W.putObj l o')) (hb0 : Below w0.heap.size w0 w)
    (cellsOf : α → Array Value) (e : TypeId) (I : List α → World → Prop) (Ix : Code → List α → World → Prop) (J : World → Prop) (hI : OwnFrom w.heap.size I) (hIx : ∀ c, OwnFrom w.heap.size (Ix c)) (h0 : I [] w)
    (hle : ∀ pre W, I pre W → w.heap.size ≤ W.heap.size) (hKa : ∀ pre W o, I pre W → Kp W (W.alloc o))
    (hassign : ∀ (l : Nat) (x : α) (W : World) (K : Act → World → Prop), K { tmps := (a.tmps.setIfInBounds p (enc1 x)).setIfInBounds q (.pointer (some ⟨W.heap.size, 0, none⟩)), defers := [] } (W.alloc (.cells (cellsOf x) e)) →
      assign.wpIn (F.inRound l) (n - 1 - 1) P (Exit.then K (fun _ _ _ => False)) { tmps := a.tmps.setIfInBounds p (enc1 x), defers := [] } W)
    (hbody : ∀ (l : Nat) (pre : List α) (x : α) (Bx : Nat) (W : World), I pre W → w.heap.size ≤ Bx → W.heap[Bx]? = some (.cells (cellsOf x) e (0, 0)) → pre.length < N →
      body.wpIn (F.inRound l) (n - 1 - 1) P (ownPostG w.heap.size Kp I Ix (pre ++ [x]) W) { tmps := (a.tmps.setIfInBounds p (enc1 x)).setIfInBounds q (.pointer (some ⟨Bx, 0, none⟩)), defers := [] } W)
    (hdone : ∀ (xs : List α) (W : World), S xs → I xs W → J W)
    (hstop : ∀ (c : Code) (pre : List α) (W : World), Sp pre → Ix c pre W → c = .exit id ∧ J W)
    (hfin : ∀ (D : Nat) (W : World), w.heap.size ≤ D → J W → W.heap[D]? = some (.deferred (some [])) → Q .normal { a with defers := { target := .collected D, args := #[] } :: a.defers } W) :
    (Code.rangeFunc g #[p] assign body).wpIn F n P (Exit.inBlock id Q) a w := by
  refine wpIn_rangeFunc_boxed hro h1 hg hFg eg hseq hKt hKb hb0 cellsOf e I Ix hI hIx h0 hle hKa hassign hbody ?_ ?_
  · intro D xs W hD hS hi hK
    exact hfin D W hD (hdone xs W hS hi) hK
  · intro D c pre W hD hS hi hK
    obtain ⟨rfl, hj⟩ := hstop c pre W hS hi
    refine wpIn_exit ?_
    simp only [Exit.inBlock, if_true]
    exact hfin D W hD hj hK
end Go.Proofs.YtkmjmfcanlknjaaGreat
namespace Go.Proofs.YtkmjmfcanlknjaaGreat
open Go.RowKit Go.Shelf

theorem new_late {wr w2 : World} (hb : Below wr.drew.heap.size wr.drew w2) (c : Array Value) (t : TypeId) : (w2.alloc (.cells c t)).heap[w2.heap.size]? = some (.cells c t (0, 0)) ∧ wr.heap.size ≤ w2.heap.size ∧ wr.grownBy (w2.alloc (.cells c t)) none :=
  ⟨World.alloc_heap_new w2 _, hb.size, grown_then (grown_then (grown_drewN wr 1 none) (grown_below (a := wr.drew) hb) (by simp)) (World.grownBy_alloc _ _ none) (by simp)⟩
theorem new_early2 {wr w2 : World} {z0 z1 : Value} {t : TypeId} (hb : Below (wr.alloc (.cells #[z0, z1] t)).drew.heap.size (wr.alloc (.cells #[z0, z1] t)).drew w2) (v0 v1 : Value) :
    ((w2.setCell ⟨wr.heap.size, 0, none⟩ v0).setCell ⟨wr.heap.size, 1, none⟩ v1).heap[wr.heap.size]? = some (.cells #[v0, v1] t (0, 0)) ∧ wr.heap.size ≤ wr.heap.size ∧ wr.grownBy ((w2.setCell ⟨wr.heap.size, 0, none⟩ v0).setCell ⟨wr.heap.size, 1, none⟩ v1) none := by
  have h0 : (wr.alloc (.cells #[z0, z1] t)).drew.heap[wr.heap.size]? = some (.cells #[z0, z1] t (0, 0)) := World.alloc_heap_new wr _
  have h1 : w2.heap[wr.heap.size]? = some (.cells #[z0, z1] t (0, 0)) := (hb.block _ (Array.getElem?_eq_some_iff.1 h0).1).trans h0
  have g1 : wr.grownBy w2 none := grown_then (grown_then (World.grownBy_alloc wr _ none) (grown_drewN _ 1 none) (by simp)) (grown_below hb) (by simp)
  refine ⟨?_, Nat.le_refl _, grown_then (grown_then g1 (grown_set w2 wr.heap.size 0 v0) (by simp)) (grown_set _ wr.heap.size 1 v1) (by simp)⟩
  simp only [World.setCell]
  rw [Array.getElem?_modify, if_pos rfl, Array.getElem?_modify, if_pos rfl, h1]
  rfl
theorem cut_facts (s : ByteArray) : ∀ n k, k ≤ s.size → s.size - k ≤ n → ∀ m ∈ (cut s k).1, ∃ a, k ≤ a ∧ MFacts s a m := by
  intro n
  induction n with
  | zero =>
    intro k h hn m hm
    obtain rfl : k = s.size := by omega
    rw [cut_end] at hm; cases hm
  | succ n ih =>
    intro k h hn m hm
    by_cases hz : (nextM s k).k = 0
    · rw [cut_none s k h hz] at hm; cases hm
    · rw [cut_some s k h hz] at hm
      have M := mfacts s k hz
      have h1 := M.one
      have h2 := M.le
      have h3 := M.ge
      rcases List.mem_cons.1 hm with rfl | hm
      · exact ⟨k, Nat.le_refl _, M⟩
      · obtain ⟨a, ha, hx⟩ := ih ((nextM s k).p + (nextM s k).t.size) h2 (by omega) m hm
        exact ⟨a, by omega, hx⟩
theorem cut_kinds (s : ByteArray) (m : Mk) (hm : m ∈ (cut s 0).1) : 1 ≤ m.k ∧ m.k ≤ 12 := by
  obtain ⟨a, _, M⟩ := cut_facts s s.size 0 (by omega) (by omega) m hm
  exact ⟨M.lo, M.hi⟩
/-- marks as the reference's tokens, read -/
def RdTk (w : World) (v : Value) (l : List Mk) : Prop := Rd w v l.length 3 (flatTk l)
theorem flatTk_at (l : List Mk) (i : Nat) (m : Mk) (h : l[i]? = some m) : (flatTk l)[3 * i]? = some (.int .u8 (tkB m.k)) ∧ (flatTk l)[3 * i + 1]? = some (.int .i64 m.p) ∧ (flatTk l)[3 * i + 2]? = some (.string m.t) := by
  induction l generalizing i with
  | nil => simp at h
  | cons x r ih =>
    have e : flatTk (x :: r) = .int .u8 (tkB x.k) :: .int .i64 x.p :: .string x.t :: flatTk r := rfl
    cases i with
    | zero => simp at h; subst h; rw [e]; simp
    | succ i =>
      have h2 := ih i (by simpa using h)
      rw [e, show 3 * (i + 1) = 3 * i + 1 + 1 + 1 from by omega]
      simpa using h2
theorem RdTk.at {w : World} {v : Value} {l : List Mk} (h : RdTk w v l) {i : Nat} {m : Mk} (hm : l[i]? = some m) :
    ∃ b off cap, v = .slice (some ⟨b, off, none⟩) l.length cap ∧ b < w.heap.size ∧ l.length ≤ cap ∧
      w.cell? ⟨b, off + i * 3, none⟩ = some (.int .u8 (tkB m.k)) ∧ w.cell? ⟨b, off + i * 3 + 1, none⟩ = some (.int .i64 m.p) ∧ w.cell? ⟨b, off + i * 3 + 2, none⟩ = some (.string m.t) := by
  have hi : i < l.length := (List.getElem?_eq_some_iff.1 hm).1
  obtain ⟨b, off, cap, h1, h2, h3, h4⟩ := Rd.at h hi
  obtain ⟨q0, q1, q2⟩ := flatTk_at l i m hm
  rw [show 3 * i = i * 3 from by omega] at q0 q1 q2
  exact ⟨b, off, cap, h1, h2, h3, h4 _ _ q0, h4 _ _ q1, h4 _ _ q2⟩

def plcR (L : List Mk) (en : Int) (p : Nat) : Int := match L[p]? with | some m => (m.p : Int) | none => en
def placeF (L : List Mk) (en : Int) (bad : Bool) : Nat → Nat → Int → Bool → Int
  | 0, _, o, w => if bad = true ∨ w = true ∨ 0 < o then en else -1
  | m + 1, p, o, w => if (nextS o w (kd L p)).2.2 = true then placeF L en bad m (p + 1) (nextS o w (kd L p)).1 (nextS o w (kd L p)).2.1 else plcR L en p
theorem nextS_lo {o : Int} {w : Bool} {k : Int} (ho : 0 ≤ o) (h : (nextS o w k).2.2 = true) : 0 ≤ (nextS o w k).1 ∧ (nextS o w k).1 ≤ o + 1 := by
  unfold nextS at h ⊢
  split
  · split <;> simp only <;> omega
  · split
    · simp only; omega
    · split
      · simp only; omega
      · split
        · rename_i h1 h2 h3 h4
          rw [if_neg h1, if_neg h2, if_neg h3, if_pos h4] at h
          simp at h
          simp only; omega
        · simp only; omega

end Go.Proofs.YtkmjmfcanlknjaaGreat
namespace Go.Proofs.YtkmjmfcanlknjaaGreat
open Go.RowKit

/-! ### plain: the walk over the marks stops where the reader stops -/
def pl (L : List Mk) (en : Int) (b : Bool) (p : Nat) (o : Int) (w : Bool) : Int := placeF L en b (L.length - p) p o w
theorem pl_step {L : List Mk} {en : Int} {b : Bool} {p : Nat} {o o' : Int} {w w' : Bool} (hp : p < L.length) (h : nextS o w (kd L p) = (o', w', true)) : pl L en b p o w = pl L en b (p + 1) o' w' := by
  unfold pl
  rw [show L.length - p = (L.length - (p + 1)) + 1 from by omega]
  conv => lhs; unfold placeF
  rw [h, if_pos rfl]
theorem plcR_end (L : List Mk) (en : Int) : plcR L en L.length = en := by unfold plcR; rw [List.getElem?_eq_none (Nat.le_refl _)]
theorem pl_stuck {L : List Mk} {en : Int} {b : Bool} {p : Nat} {o : Int} {w : Bool} (hp : p ≤ L.length) (h1 : p < L.length → (nextS o w (kd L p)).2.2 = false) (h2 : p = L.length → w = true ∨ 0 < o) : pl L en b p o w = plcR L en p := by
  unfold pl
  by_cases hlt : p < L.length
  · rw [show L.length - p = (L.length - (p + 1)) + 1 from by omega]
    unfold placeF
    rw [h1 hlt, if_neg (by simp)]
  · obtain rfl : p = L.length := by omega
    rw [Nat.sub_self]
    unfold placeF
    rw [if_pos (.inr (h2 rfl)), plcR_end]
structure Au (L : List Mk) (p : Nat) (r : PR) (fol : Int → Prop) : Prop where
  good : r.ok = true → ∀ en b o, 0 ≤ o → pl L en b p o true = pl L en b r.p o false
  bad : r.ok = false → ∀ en b o, 0 ≤ o → pl L en b p o true = plcR L en r.p
  fol : r.ok = true → fol (kd L r.p)
def folU (k : Int) : Prop := sufK k = 0
def folP (k : Int) : Prop := sufK k = 0 ∧ beginsI k = false
def folE (k : Int) : Prop := sufK k = 0 ∧ beginsI k = false ∧ k ≠ 6
theorem suf_cases {k : Int} (h : sufK k ≠ 0) : k = 7 ∨ k = 8 ∨ k = 9 := by
  unfold sufK at h
  split at h
  · exact .inl ‹_›
  · split at h
    · exact .inr (.inl ‹_›)
    · split at h
      · exact .inr (.inr ‹_›)
      · exact absurd rfl h
theorem suf_not {k : Int} (h : sufK k = 0) : k ≠ 7 ∧ k ≠ 8 ∧ k ≠ 9 := by
  refine ⟨?_, ?_, ?_⟩ <;> (rintro rfl; revert h; decide)
theorem next_begin {o : Int} {w : Bool} {k : Int} (h : beginsI k = true) (h10 : k ≠ 10) : nextS o w k = (o, false, true) := by
  unfold nextS; rw [if_pos h, if_neg h10]
theorem next_open (o : Int) (w : Bool) : nextS o w 10 = (o + 1, true, true) := rfl
theorem next_close {o : Int} (h : 0 < o) : nextS o false 11 = (o - 1, false, true) := by
  unfold nextS; rw [if_neg (by decide), if_neg (by decide), if_neg (by decide), if_pos rfl]; simp [h]
theorem next_bar (o : Int) : nextS o false 6 = (o, true, true) := rfl
theorem next_suf {o : Int} {k : Int} (h : sufK k ≠ 0) : nextS o false k = (o, false, true) := by
  rcases suf_cases h with rfl | rfl | rfl <;> rfl
theorem next_want {o : Int} {k : Int} (h : beginsI k = false) : (nextS o true k).2.2 = false := by
  unfold nextS; rw [if_neg (by simp [h]), if_pos rfl]
theorem next_fol {o : Int} {k : Int} (h : folE k) (h11 : k = 11 → ¬ 0 < o) : (nextS o false k).2.2 = false := by
  obtain ⟨h1, h2, h3⟩ := h
  obtain ⟨s1, s2, s3⟩ := suf_not h1
  unfold nextS
  rw [if_neg (by simp [h2]), if_neg (by decide), if_neg h3]
  split
  · rename_i h; simpa using h11 h
  · simp [s1, s2, s3]
theorem pl_begin {L : List Mk} {en : Int} {b : Bool} {p : Nat} {o : Int} (h : beginsI (kd L p) = true) : pl L en b p o false = pl L en b p o true := by
  have hp := begins_lt h
  by_cases h10 : kd L p = 10
  · rw [pl_step hp (by rw [h10]; exact next_open o false), pl_step hp (by rw [h10]; exact next_open o true)]
  · rw [pl_step hp (next_begin h h10), pl_step hp (next_begin h h10)]

theorem sufK_lt' {L : List Mk} {p : Nat} (h : ¬ sufK (kd L p) = 0) : p < L.length := by
  refine kd_lt ?_
  intro h0; rw [h0] at h; exact h rfl
theorem pAtom_no' {E : Nat → PR} {L : List Mk} {p : Nat} (h : beginsI (kd L p) = false) : pAtom E L p = ⟨false, .nil, p⟩ := by unfold pAtom; rw [if_neg (by simp [h])]
theorem pAtom_op' {E : Nat → PR} {L : List Mk} {p : Nat} (h : kd L p = 10) : pAtom E L p = if (E (p + 1)).ok then (if kd L (E (p + 1)).p = 11 then ⟨true, (E (p + 1)).f, (E (p + 1)).p + 1⟩ else ⟨false, .nil, (E (p + 1)).p⟩) else E (p + 1) := by unfold pAtom; rw [h]; rfl
theorem pAtom_leaf {E : Nat → PR} {L : List Mk} {p : Nat} (h : beginsI (kd L p) = true) (h10 : kd L p ≠ 10) : ∃ f, pAtom E L p = ⟨true, f, p + 1⟩ := by
  unfold pAtom
  rw [if_pos h]
  rcases begins_cases h with h1 | h1 | h1 | h1
  · rw [if_pos h1]; exact ⟨_, rfl⟩
  · rw [if_neg (by omega), if_pos h1]; exact ⟨_, rfl⟩
  · rw [if_neg (by omega), if_neg (by omega), if_pos h1]; exact ⟨_, rfl⟩
  · exact absurd h1 h10
theorem pAtom_au {E : Nat → PR} {L : List Mk} {p : Nat} (hp : p ≤ L.length) (hB : p + 1 ≤ L.length → PB L (p + 1) (E (p + 1))) (hE : p + 1 ≤ L.length → Au L (p + 1) (E (p + 1)) folE) : Au L p (pAtom E L p) (fun _ => True) := by
  cases hb : beginsI (kd L p) with
  | false =>
    rw [pAtom_no' hb]
    exact ⟨fun h => by simp at h, fun _ en b o _ => pl_stuck hp (fun _ => next_want hb) (fun _ => .inl rfl), fun _ => trivial⟩
  | true =>
    have hlt := begins_lt hb
    by_cases h10 : kd L p = 10
    · have H := hE hlt
      have HB := hB hlt
      rw [pAtom_op' h10]
      have s0 : ∀ en b o, pl L en b p o true = pl L en b (p + 1) (o + 1) true := fun en b o => pl_step hlt (by rw [h10]; exact next_open o true)
      generalize E (p + 1) = r at *
      obtain ⟨ok, f, q⟩ := r
      cases ok with
      | false => exact ⟨fun h => by simp at h, fun _ en b o ho => by simp only [Bool.false_eq_true, if_false]; rw [s0, H.bad rfl en b _ (by omega)], fun h => by simp at h⟩
      | true =>
        simp only [if_true]
        have hq := HB.le
        simp only at hq
        by_cases hc : kd L q = 11
        · rw [if_pos hc]
          have hql := kd_lt (L := L) (p := q) (by omega)
          refine ⟨fun _ en b o ho => ?_, fun h => by simp at h, fun _ => trivial⟩
          rw [s0, H.good rfl en b _ (by omega)]
          simp only
          rw [pl_step hql (by rw [hc]; exact next_close (by omega)), show o + 1 - 1 = o from by omega]
        · rw [if_neg hc]
          refine ⟨fun h => by simp at h, fun _ en b o ho => ?_, fun h => by simp at h⟩
          rw [s0, H.good rfl en b _ (by omega)]
          exact pl_stuck hq (fun _ => next_fol (H.fol rfl) (fun h => absurd h hc)) (fun _ => .inr (by omega))
    · obtain ⟨f, hf⟩ := pAtom_leaf (E := E) hb h10
      rw [hf]
      exact ⟨fun _ en b o _ => pl_step hlt (next_begin hb h10), fun h => by simp at h, fun _ => trivial⟩
theorem pSuf_au {L : List Mk} {p0 : Nat} : ∀ (m p : Nat) (f : Fo), L.length - p ≤ m → Au L p0 ⟨true, f, p⟩ (fun _ => True) → Au L p0 (pSuf L m p f) folU
  | 0, p, f, hm, h => ⟨h.good, h.bad, fun _ => by
      have : kd L p = 0 := kd_none (by omega)
      show sufK (kd L p) = 0
      rw [this]; rfl⟩
  | m + 1, p, f, hm, h => by
    unfold pSuf
    split
    · rename_i hs
      exact ⟨h.good, h.bad, fun _ => hs⟩
    · rename_i hs
      have hlt := sufK_lt' hs
      refine pSuf_au m (p + 1) _ (by omega) ⟨fun _ en b o ho => ?_, fun h => by simp at h, fun _ => trivial⟩
      rw [h.good rfl en b o ho]
      exact pl_step hlt (next_suf hs)
theorem pUnit_au {E : Nat → PR} {L : List Mk} {p : Nat} (h : Au L p (pAtom E L p) (fun _ => True)) : Au L p (pUnit E L p) folU := by
  unfold pUnit
  generalize pAtom E L p = r at *
  obtain ⟨ok, f, q⟩ := r
  cases ok with
  | false => exact ⟨fun h => by simp at h, h.bad, fun h => by simp at h⟩
  | true => simp only [if_true]; exact pSuf_au _ _ _ (Nat.le_refl _) h
theorem pMany_au' {L : List Mk} {p0 lo : Nat} {S : Nat → Option PR} {k : Int} {f0 f1 : Int → Prop} (hSb : ∀ p r, lo ≤ p → p ≤ L.length → S p = some r → p < L.length ∧ (r.ok = true → p < r.p ∧ r.p ≤ L.length)) (hSg : ∀ p r, lo ≤ p → p ≤ L.length → f0 (kd L p) → S p = some r → (r.ok = true → ∀ en b o, 0 ≤ o → pl L en b p o false = pl L en b r.p o false) ∧ (r.ok = false → ∀ en b o, 0 ≤ o → pl L en b p o false = plcR L en r.p) ∧ (r.ok = true → f0 (kd L r.p)))
    (hn : ∀ p, p ≤ L.length → f0 (kd L p) → S p = none → f1 (kd L p)) :
    ∀ (m p : Nat) (f : Fo) (n : Nat), lo ≤ p → p ≤ L.length → L.length - p ≤ m → Au L p0 ⟨true, f, p⟩ f0 → Au L p0 (pMany S k m p f n) f1
  | 0, p, f, n, hlo, hp, hm, h => by
    unfold pMany
    refine ⟨h.good, fun h => by simp at h, fun _ => hn p hp (h.fol rfl) ?_⟩
    cases hs : S p with
    | none => rfl
    | some r => have := (hSb p r hlo hp hs).1; omega
  | m + 1, p, f, n, hlo, hp, hm, h => by
    unfold pMany
    cases hs : S p with
    | none => exact ⟨h.good, fun h => by simp at h, fun _ => hn p hp (h.fol rfl) hs⟩
    | some r =>
      obtain ⟨g1, g2, g3⟩ := hSg p r hlo hp (h.fol rfl) hs
      obtain ⟨b1, b2⟩ := hSb p r hlo hp hs
      simp only
      cases hok : r.ok with
      | true =>
        rw [if_pos rfl]
        have b3 := b2 hok
        refine pMany_au' hSb hSg hn m r.p _ _ (by omega) b3.2 (by omega) ⟨fun _ en b o ho => ?_, fun h => by simp at h, fun _ => g3 hok⟩
        rw [h.good rfl en b o ho]
        exact g1 hok en b o ho
      | false =>
        rw [if_neg (by simp)]
        refine ⟨fun h => absurd h (by simp [hok]), fun _ en b o ho => ?_, fun h => absurd h (by simp [hok])⟩
        rw [h.good rfl en b o ho]
        exact g2 hok en b o ho
theorem pPart_au {E : Nat → PR} {L : List Mk} {p : Nat} (hp : p ≤ L.length) (hB : ∀ q, q ≤ L.length → PB L q (E q)) (hU : ∀ q, p ≤ q → q ≤ L.length → Au L q (pUnit E L q) folU) : Au L p (pPart E L p) folP := by
  have H := hU p (Nat.le_refl _) hp
  have HB := pUnit_b (E := E) hp (fun h => hB _ h)
  unfold pPart
  have hS : ∀ q r, q ≤ L.length → sPart E L q = some r → beginsI (kd L q) = true ∧ r = pUnit E L q := by
    intro q r _ hs
    unfold sPart at hs
    split at hs
    · rename_i hb; simp only [Option.some.injEq] at hs; exact ⟨hb, hs.symm⟩
    · cases hs
  generalize hr : pUnit E L p = r at *
  obtain ⟨ok, f, q⟩ := r
  cases ok with
  | false => exact ⟨fun h => by simp at h, H.bad, fun h => by simp at h⟩
  | true =>
    simp only [if_true]
    have hq := HB.le
    have hpq := HB.ge
    simp only at hq hpq
    refine pMany_au' (lo := p) (f0 := folU) ?_ ?_ ?_ _ _ _ _ hpq hq (Nat.le_refl _) H
    · intro q r _ hql hs
      obtain ⟨hb, rfl⟩ := hS q r hql hs
      have G := pUnit_b (E := E) (p := q) hql (fun h => hB _ h)
      exact ⟨begins_lt hb, fun h => ⟨G.lt h, G.le⟩⟩
    · intro q r hlo hql _ hs
      obtain ⟨hb, rfl⟩ := hS q r hql hs
      have G := hU q hlo hql
      exact ⟨fun h en b o ho => by rw [pl_begin hb]; exact G.good h en b o ho, fun h en b o ho => by rw [pl_begin hb]; exact G.bad h en b o ho, G.fol⟩
    · intro q hql hf hs
      refine ⟨hf, ?_⟩
      unfold sPart at hs
      split at hs
      · cases hs
      · rename_i hb; simpa using hb
theorem pExprS_au {E : Nat → PR} {L : List Mk} {p : Nat} (hp : p ≤ L.length) (hB : ∀ q, q ≤ L.length → PB L q (E q)) (hU : ∀ q, p ≤ q → q ≤ L.length → Au L q (pPart E L q) folP) : Au L p (pExprS E L p) folE := by
  have H := hU p (Nat.le_refl _) hp
  have HB := pPart_b (E := E) hp (fun q _ h => hB q h)
  unfold pExprS
  have hS : ∀ q r, q ≤ L.length → sExpr E L q = some r → kd L q = 6 ∧ r = pPart E L (q + 1) := by
    intro q r _ hs
    unfold sExpr at hs
    split at hs
    · rename_i hb; simp only [Option.some.injEq] at hs; exact ⟨hb, hs.symm⟩
    · cases hs
  generalize hr : pPart E L p = r at *
  obtain ⟨ok, f, q⟩ := r
  cases ok with
  | false => exact ⟨fun h => by simp at h, H.bad, fun h => by simp at h⟩
  | true =>
    simp only [if_true]
    have hq := HB.le
    have hpq := HB.ge
    simp only at hq hpq
    refine pMany_au' (lo := p) (f0 := folP) ?_ ?_ ?_ _ _ _ _ hpq hq (Nat.le_refl _) H
    · intro q r _ hql hs
      obtain ⟨hb, rfl⟩ := hS q r hql hs
      have hlt := kd_lt (L := L) (p := q) (by omega)
      have G := pPart_b (E := E) (p := q + 1) hlt (fun x _ h => hB x h)
      exact ⟨hlt, fun h => ⟨by have := G.lt h; omega, G.le⟩⟩
    · intro q r hlo hql _ hs
      obtain ⟨hb, rfl⟩ := hS q r hql hs
      have hlt := kd_lt (L := L) (p := q) (by omega)
      have G := hU (q + 1) (by omega) hlt
      have st : ∀ en b o, pl L en b q o false = pl L en b (q + 1) o true := fun en b o => pl_step hlt (by rw [hb]; exact next_bar o)
      exact ⟨fun h en b o ho => by rw [st]; exact G.good h en b o ho, fun h en b o ho => by rw [st]; exact G.bad h en b o ho, G.fol⟩
    · intro q hql hf hs
      refine ⟨hf.1, hf.2, ?_⟩
      unfold sExpr at hs
      split at hs
      · cases hs
      · assumption
theorem pExpr_au (L : List Mk) : ∀ (n p : Nat), p ≤ L.length → L.length - p < n → Au L p (pExpr L n p) folE
  | 0, p, _, h => by omega
  | n + 1, p, hp, h => by
    have hB : ∀ q, q ≤ L.length → PB L q (pExpr L n q) := fun q hq => pExpr_b L n q hq
    have hU : ∀ q, p ≤ q → q ≤ L.length → Au L q (pUnit (pExpr L n) L q) folU := fun q hpq hq =>
      pUnit_au (pAtom_au hq (fun h => hB _ h) (fun h2 => pExpr_au L n (q + 1) h2 (by omega)))
    exact pExprS_au hp hB (fun q hpq hq => pPart_au hq hB (fun x hx hx2 => hU x (by omega) hx2))
theorem place_parsed (L : List Mk) (en : Int) (b : Bool) : placeF L en b L.length 0 0 true =
    if (pExpr L (L.length + 1) 0).ok = true ∧ (pExpr L (L.length + 1) 0).p = L.length ∧ b = false then -1 else plcR L en (pExpr L (L.length + 1) 0).p := by
  have H := pExpr_au L (L.length + 1) 0 (by omega) (by omega)
  have HB := (pExpr_b L (L.length + 1) 0 (by omega)).le
  have e : placeF L en b L.length 0 0 true = pl L en b 0 0 true := rfl
  rw [e]
  generalize pExpr L (L.length + 1) 0 = r at *
  obtain ⟨ok, f, q⟩ := r
  cases ok with
  | false => rw [if_neg (by simp), H.bad rfl en b 0 (by omega)]
  | true =>
    rw [H.good rfl en b 0 (by omega)]
    simp only at HB ⊢
    by_cases hq : q = L.length
    · subst hq
      cases b with
      | false => rw [if_pos (by simp)]; unfold pl; rw [Nat.sub_self]; unfold placeF; rw [if_neg (by simp)]
      | true => rw [if_neg (by simp)]; unfold pl; rw [Nat.sub_self]; unfold placeF; rw [if_pos (.inl rfl), plcR_end]
    · rw [if_neg (by simp [hq])]
      exact pl_stuck HB (fun _ => next_fol (H.fol rfl) (fun _ => by omega)) (fun h => absurd h hq)
end Go.Proofs.YtkmjmfcanlknjaaGreat
namespace Go.Proofs.YtkmjmfcanlknjaaGreat
open Go.RowKit

/-! ### plain: brackets -/
/-- from place i on, with so many brackets open, the outermost one closes at j -/
inductive Cl (L : List Mk) : Nat → Nat → Nat → Prop where
  | here {i : Nat} : kd L i = 11 → Cl L i 1 i
  | down {i o j : Nat} : kd L i = 11 → Cl L (i + 1) (o + 1) j → Cl L i (o + 2) j
  | up {i o j : Nat} : kd L i = 10 → Cl L (i + 1) (o + 2) j → Cl L i (o + 1) j
  | other {i o j : Nat} : kd L i ≠ 10 → kd L i ≠ 11 → i < L.length → Cl L (i + 1) (o + 1) j → Cl L i (o + 1) j
theorem Cl.le {L : List Mk} {i o j : Nat} (h : Cl L i o j) : i ≤ j ∧ j < L.length ∧ 1 ≤ o := by
  induction h with
  | here h => exact ⟨Nat.le_refl _, kd_lt (by omega), Nat.le_refl _⟩
  | down _ _ ih => omega
  | up _ _ ih => omega
  | other _ _ _ _ ih => omega
def Ne (L : List Mk) (p q : Nat) : Prop := ∀ o j, Cl L q (o + 1) j → Cl L p (o + 1) j
theorem Ne.refl (L : List Mk) (p : Nat) : Ne L p p := fun _ _ h => h
theorem Ne.trans {L : List Mk} {p q r : Nat} (h : Ne L p q) (k : Ne L q r) : Ne L p r := fun o j hc => h o j (k o j hc)
theorem Ne.step {L : List Mk} {p : Nat} (h1 : kd L p ≠ 10) (h2 : kd L p ≠ 11) (h3 : p < L.length) : Ne L p (p + 1) := fun _ _ hc => .other h1 h2 h3 hc
/-- from i to q there is no bar outside brackets -/
inductive Scn (L : List Mk) : Nat → Nat → Prop where
  | refl (i : Nat) : Scn L i i
  | step {i q : Nat} : kd L i ≠ 6 → kd L i ≠ 10 → i < L.length → Scn L (i + 1) q → Scn L i q
  | jump {i j q : Nat} : kd L i = 10 → Cl L (i + 1) 1 j → Scn L (j + 1) q → Scn L i q
theorem Scn.le {L : List Mk} {i q : Nat} (h : Scn L i q) : i ≤ q := by
  induction h with
  | refl => exact Nat.le_refl _
  | step _ _ _ _ ih => omega
  | jump _ hc _ ih => have := hc.le; omega
theorem Scn.trans {L : List Mk} {a b c : Nat} (h : Scn L a b) (k : Scn L b c) : Scn L a c := by
  induction h with
  | refl => exact k
  | step h1 h2 h3 _ ih => exact .step h1 h2 h3 (ih k)
  | jump h1 h2 _ ih => exact .jump h1 h2 (ih k)
theorem Scn.one {L : List Mk} {i : Nat} (h1 : kd L i ≠ 6) (h2 : kd L i ≠ 10) (h3 : i < L.length) : Scn L i (i + 1) := .step h1 h2 h3 (.refl _)

/-! ### plain: a unit -/
def sufN (L : List Mk) (p : Nat) : Nat → List Nd
  | 0 => []
  | c + 1 => ⟨sufK (kd L (p + c)), ⟨#[]⟩, 1⟩ :: sufN L p c
theorem sufN_snoc (L : List Mk) (p : Nat) : ∀ c, sufN L (p + 1) c ++ [⟨sufK (kd L p), ⟨#[]⟩, 1⟩] = sufN L p (c + 1)
  | 0 => rfl
  | c + 1 => by
    have ih := sufN_snoc L p c
    show _ :: (sufN L (p + 1) c ++ _) = _ :: sufN L p (c + 1)
    rw [ih, show p + 1 + c = p + (c + 1) from by omega]
theorem sufN_len (L : List Mk) (p : Nat) : ∀ c, (sufN L p c).length = c
  | 0 => rfl
  | c + 1 => by simp [sufN, sufN_len L p c]
theorem pSuf_spec {L : List Mk} : ∀ (m p : Nat) (f : Fo), L.length - p ≤ m → p ≤ L.length → ∃ fu q, pSuf L m p f = ⟨true, fu, q⟩ ∧ p ≤ q ∧ q ≤ L.length ∧ (∀ x, p ≤ x → x < q → sufK (kd L x) ≠ 0) ∧ fu.flat = sufN L p (q - p) ++ f.flat ∧ sufK (kd L q) = 0
  | 0, p, f, hm, hp => ⟨f, p, rfl, Nat.le_refl _, hp, fun x h1 h2 => by omega, by rw [Nat.sub_self]; rfl, by rw [kd_none (by omega)]; rfl⟩
  | m + 1, p, f, hm, hp => by
    unfold pSuf
    by_cases hs : sufK (kd L p) = 0
    · rw [if_pos hs]
      exact ⟨f, p, rfl, Nat.le_refl _, hp, fun x h1 h2 => by omega, by rw [Nat.sub_self]; rfl, hs⟩
    · rw [if_neg hs]
      have hlt := sufK_lt' hs
      obtain ⟨fu, q, h1, h2, h2', h3, h4, h5⟩ := pSuf_spec m (p + 1) (.cons ⟨sufK (kd L p), ⟨#[]⟩, 1⟩ f .nil) (by omega) hlt
      refine ⟨fu, q, h1, by omega, h2', fun x hx1 hx2 => ?_, ?_, h5⟩
      · by_cases hx : x = p
        · subst hx; exact hs
        · exact h3 x (by omega) hx2
      · rw [h4, show q - p = (q - (p + 1)) + 1 from by omega, ← sufN_snoc]
        simp [Fo.flat]
/-- what is known of a unit that is read -/
structure UF (E : Nat → PR) (L : List Mk) (i : Nat) (fu : Fo) (qu : Nat) (fa : Fo) (pa : Nat) : Prop where
  atom : pAtom E L i = ⟨true, fa, pa⟩
  lt : i < pa
  le : pa ≤ qu
  lel : qu ≤ L.length
  suf : ∀ x, pa ≤ x → x < qu → sufK (kd L x) ≠ 0
  stop : sufK (kd L qu) = 0
  flat : fu.flat = sufN L pa (qu - pa) ++ fa.flat
  beg : beginsI (kd L i) = true
  leaf : kd L i ≠ 10 → pa = i + 1
  brk : kd L i = 10 → E (i + 1) = ⟨true, fa, pa - 1⟩ ∧ i + 2 < pa ∧ kd L (pa - 1) = 11 ∧ pa - 1 < L.length
  lf1 : kd L i = 1 → fa.flat = [⟨2, tx L i, 0⟩]
  lf2 : kd L i = 2 → fa.flat = [⟨3, tx L i, 0⟩]
  lf3 : kd L i = 12 → fa.flat = [⟨1, ⟨#[]⟩, 0⟩]
theorem unit_uf {E : Nat → PR} {L : List Mk} {i : Nat} {fu : Fo} {qu : Nat} (hi : i ≤ L.length) (hB : ∀ q, q ≤ L.length → PB L q (E q)) (h : pUnit E L i = ⟨true, fu, qu⟩) : ∃ fa pa, UF E L i fu qu fa pa := by
  unfold pUnit at h
  have HA := pAtom_b (E := E) hi (fun h => hB _ h)
  cases hb : beginsI (kd L i) with
  | false => rw [pAtom_no' hb] at h; simp at h
  | true =>
    have hlt := begins_lt hb
    generalize hr : pAtom E L i = r at *
    obtain ⟨ok, fa, pa⟩ := r
    cases ok with
    | false => simp at h
    | true =>
      simp only [if_true] at h
      have h1 := HA.lt rfl
      have h2 := HA.le
      simp only at h1 h2
      obtain ⟨fu', qu', e1, e2, e2', e3, e4, e5⟩ := pSuf_spec (L.length - pa) pa fa (Nat.le_refl _) h2
      rw [h] at e1
      simp only [PR.mk.injEq, true_and] at e1
      obtain ⟨rfl, rfl⟩ := e1
      refine ⟨fa, pa, hr, h1, e2, e2', e3, e5, e4, hb, ?_, ?_, ?_, ?_, ?_⟩
      · intro h10
        obtain ⟨f, hf⟩ := pAtom_leaf (E := E) hb h10
        rw [hr] at hf
        simp only [PR.mk.injEq, true_and] at hf
        exact hf.2
      · intro h10
        rw [pAtom_op' h10] at hr
        have HB := hB (i + 1) hlt
        generalize E (i + 1) = r2 at *
        obtain ⟨ok2, f2, q2⟩ := r2
        cases ok2 with
        | false => simp at hr
        | true =>
          simp only [if_true] at hr
          by_cases hc : kd L q2 = 11
          · rw [if_pos hc] at hr
            simp only [PR.mk.injEq, true_and] at hr
            obtain ⟨rfl, rfl⟩ := hr
            have := HB.lt rfl
            simp only at this
            exact ⟨by simp, by omega, by simpa using hc, by have := kd_lt (L := L) (p := q2) (by omega); omega⟩
          · rw [if_neg hc] at hr; simp at hr
      · intro h1
        rw [show pAtom E L i = ⟨true, leafF 2 (tx L i), i + 1⟩ from by unfold pAtom; rw [h1]; rfl] at hr
        simp only [PR.mk.injEq, true_and] at hr
        rw [← hr.1]; rfl
      · intro h1
        rw [show pAtom E L i = ⟨true, leafF 3 (tx L i), i + 1⟩ from by unfold pAtom; rw [h1]; rfl] at hr
        simp only [PR.mk.injEq, true_and] at hr
        rw [← hr.1]; rfl
      · intro h1
        rw [show pAtom E L i = ⟨true, leafF 1 ⟨#[]⟩, i + 1⟩ from by unfold pAtom; rw [h1]; rfl] at hr
        simp only [PR.mk.injEq, true_and] at hr
        rw [← hr.1]; rfl
/-- what is known of what is read: brackets pair, and no bar stands outside them -/
structure NS (L : List Mk) (p : Nat) (r : PR) : Prop where
  ne : r.ok = true → Ne L p r.p
theorem suf_k {k : Int} (h : sufK k ≠ 0) : k ≠ 6 ∧ k ≠ 10 ∧ k ≠ 11 ∧ beginsI k = false := by
  rcases suf_cases h with rfl | rfl | rfl <;> refine ⟨by decide, by decide, by decide, rfl⟩
theorem ne_suf {L : List Mk} {p : Nat} : ∀ (c : Nat), (∀ x, p ≤ x → x < p + c → sufK (kd L x) ≠ 0) → Ne L p (p + c) ∧ Scn L p (p + c)
  | 0, _ => ⟨Ne.refl _ _, .refl _⟩
  | c + 1, h => by
    obtain ⟨h1, h2⟩ := ne_suf c (fun x hx hx2 => h x hx (by omega))
    have hs := h (p + c) (by omega) (by omega)
    obtain ⟨s1, s2, s3, _⟩ := suf_k hs
    have hlt := sufK_lt' hs
    exact ⟨h1.trans (Ne.step s2 s3 hlt), h2.trans (.one s1 s2 hlt)⟩
theorem UF.cl {E : Nat → PR} {L : List Mk} {i : Nat} {fu : Fo} {qu : Nat} {fa : Fo} {pa : Nat} (U : UF E L i fu qu fa pa) (hE : NS L (i + 1) (E (i + 1))) (h : kd L i = 10) : Cl L (i + 1) 1 (pa - 1) := by
  obtain ⟨h1, h2, h3, h4⟩ := U.brk h
  have := hE.ne (by rw [h1])
  rw [h1] at this
  exact this 0 _ (.here h3)
theorem UF.ne {E : Nat → PR} {L : List Mk} {i : Nat} {fu : Fo} {qu : Nat} {fa : Fo} {pa : Nat} (U : UF E L i fu qu fa pa) (hE : NS L (i + 1) (E (i + 1))) : Ne L i qu ∧ Scn L i qu := by
  have hsuf := ne_suf (L := L) (p := pa) (qu - pa) (fun x h1 h2 => U.suf x h1 (by omega))
  rw [show pa + (qu - pa) = qu from by have := U.le; omega] at hsuf
  have hlt := begins_lt U.beg
  by_cases h10 : kd L i = 10
  · obtain ⟨h1, h2, h3, h4⟩ := U.brk h10
    have hc := U.cl hE h10
    have hne := hE.ne (by rw [h1])
    rw [h1] at hne
    simp only at hne
    have e : pa - 1 + 1 = pa := by omega
    refine ⟨?_, ?_⟩
    · intro o j hcl
      have q1 := hsuf.1 o j hcl
      refine .up h10 (hne (o + 1) j ?_)
      refine .down h3 ?_
      rw [e]; exact q1
    · refine .jump h10 hc ?_
      rw [e]; exact hsuf.2
  · have hpa := U.leaf h10
    subst hpa
    have h11 : kd L i ≠ 11 := by intro h; have := U.beg; rw [h] at this; simp [beginsI] at this
    have h6 : kd L i ≠ 6 := by intro h; have := U.beg; rw [h] at this; simp [beginsI] at this
    exact ⟨(Ne.step h10 h11 hlt).trans hsuf.1, (Scn.one h6 h10 hlt).trans hsuf.2⟩

/-! ### plain: several joined -/
theorem pMany_ge {L : List Mk} {S : Nat → Option PR} {k : Int} (hS : ∀ p r, p ≤ L.length → S p = some r → r.ok = true → p ≤ r.p ∧ r.p ≤ L.length) : ∀ (m p : Nat) (f : Fo) (n : Nat), p ≤ L.length → (pMany S k m p f n).ok = true → p ≤ (pMany S k m p f n).p ∧ (pMany S k m p f n).p ≤ L.length
  | 0, p, f, n, hp, _ => ⟨Nat.le_refl _, hp⟩
  | m + 1, p, f, n, hp, h => by
    unfold pMany at h ⊢
    cases hs : S p with
    | none => exact ⟨Nat.le_refl _, hp⟩
    | some r =>
      rw [hs] at h
      simp only at h ⊢
      cases hok : r.ok with
      | false => rw [hok, if_neg (by simp)] at h; rw [hok] at h; cases h
      | true =>
        rw [hok, if_pos rfl] at h
        rw [if_pos rfl]
        have h1 := hS p r hp hs hok
        have h2 := pMany_ge hS m r.p (f.app r.f) (n + 1) h1.2 h
        exact ⟨by omega, h2.2⟩
/-- the state of a loop that joins what S reads: done, or at one more -/
structure MS (S : Nat → Option PR) (k : Int) (L : List Mk) (q : Nat) (f : Fo) (i : Nat) (g : Fo) (n : Nat) (r : PR) : Prop where
  ok : r.ok = true
  ge : i ≤ r.p
  le : r.p ≤ q
  more : ∃ m, L.length - r.p ≤ m ∧ pMany S k m r.p (g.app r.f) (n + 1) = ⟨true, f, q⟩
theorem MS.next {S : Nat → Option PR} {k : Int} {L : List Mk} {q : Nat} {f : Fo} {i : Nat} {g : Fo} {n : Nat} {r : PR} (h : MS S k L q f i g n r) (hq : q ≤ L.length) (hS : ∀ p r, p ≤ L.length → S p = some r → p < L.length ∧ (r.ok = true → p < r.p ∧ r.p ≤ L.length)) :
    (S r.p = none ∧ r.p = q ∧ f = wrapF k (n + 1) (g.app r.f)) ∨ (∃ r2, S r.p = some r2 ∧ r.p < q ∧ MS S k L q f r.p (g.app r.f) (n + 1) r2) := by
  obtain ⟨m, hm, e⟩ := h.more
  have hrl : r.p ≤ L.length := Nat.le_trans h.le hq
  cases hs : S r.p with
  | none =>
    left
    rw [show pMany S k m r.p (g.app r.f) (n + 1) = ⟨true, wrapF k (n + 1) (g.app r.f), r.p⟩ from by cases m with | zero => rfl | succ m => unfold pMany; rw [hs]] at e
    simp only [PR.mk.injEq, true_and] at e
    exact ⟨rfl, e.2, e.1.symm⟩
  | some r2 =>
    right
    obtain ⟨hlt, hge⟩ := hS _ _ hrl hs
    obtain ⟨m', rfl⟩ : ∃ m', m = m' + 1 := ⟨m - 1, by omega⟩
    unfold pMany at e
    rw [hs] at e
    simp only at e
    cases hok : r2.ok with
    | false => rw [hok, if_neg (by simp)] at e; rw [e] at hok; cases hok
    | true =>
      rw [hok, if_pos rfl] at e
      have h1 := hge hok
      have h2 := pMany_ge (k := k) (fun p r hp hs hok => ⟨Nat.le_of_lt ((hS p r hp hs).2 hok).1, ((hS p r hp hs).2 hok).2⟩) m' r2.p ((g.app r.f).app r2.f) (n + 1 + 1) h1.2 (by rw [e])
      rw [e] at h2
      simp only at h2
      refine ⟨r2, rfl, by omega, ⟨hok, Nat.le_of_lt h1.1, h2.1, m', by omega, e⟩⟩
end Go.Proofs.YtkmjmfcanlknjaaGreat
namespace Go.Proofs.YtkmjmfcanlknjaaGreat
open Go.RowKit Go.Shelf
attribute [local go_sem] Oper.semAt_some

/-- what a loop over All must keep: the text's box and its own mark's -/
structure KpBox (Bn : Nat) (W W' : World) : Prop where
  size : W.heap.size ≤ W'.heap.size
  box : W'.heap[Bn]? = W.heap[Bn]?
  ones : KeepsOnes 99 3 W W'
theorem KpBox.trans {Bn : Nat} {A B C : World} (h : KpBox Bn A B) (k : KpBox Bn B C) : KpBox Bn A C := ⟨Nat.le_trans h.size k.size, k.box.trans h.box, h.ones.trans k.ones⟩
theorem KpBox.of_below {Bn : Nat} {A B : World} (h : Below A.heap.size A B) (hB : Bn < A.heap.size) : KpBox Bn A B := ⟨h.size, h.block Bn hB, .of_below h⟩
theorem KpBox.putObj {Bn : Nat} {w : World} (hB : Bn < w.heap.size) (W : World) (l : Nat) (o o' : Obj) (hl : w.heap.size ≤ l) (h : W.heap[l]? = some o) (ho : o.isCells = false) (_ : o.isWalk = false) : KpBox Bn W (W.putObj l o') :=
  ⟨by simp, World.putObj_heap_other (by omega), .putObj h ho o'⟩

set_option maxRecDepth 100000 in
set_option maxHeartbeats 1600000 in
theorem all1_in (n : Nat) (hn : 3 ≤ n) (l Bn : Nat) (s : ByteArray) (hs : s.size ≤ 16777216) (J Jx : List Mk → World → Prop) (B0 : Nat)
    (hY : ∀ pre x W, J pre W → pre.length < (cut s 0).1.length → YieldAt Fence.wide (n - 1) Tryz.prog l #[x.val] W fun e W' =>
      (e = .returned (.bool true) ∧ J (pre ++ [x]) W' ∧ KpBox Bn W W') ∨ (e = .returned (.bool false) ∧ Jx (pre ++ [x]) W'))
    (hJ : AbidesFrom B0 J) (W : World) (_hB0 : B0 ≤ W.heap.size) (hBn : W.cell? ⟨Bn, 0, none⟩ = some (.string s)) (h0 : J [] W) :
    CallsIn Fence.wide n Tryz.prog 108 #[.func (.yield l) #[] #[], .pointer (some ⟨Bn, 0, none⟩)] W fun e W' => (∃ v, e = .returned v) ∧
      ((∃ ys, ys = (cut s 0).1 ∧ J ys W') ∨ (∃ pre, (pre ≠ [] ∧ pre <+: (cut s 0).1) ∧ Jx pre W')) := by
  refine callsIn_of_wp Tryz.func108 rfl trivial ?_ rfl
  simp only [Tryz.ntmps108, List.size_toArray, List.length_cons, List.length_nil, Nat.reduceAdd, Nat.reduceSub, Array.replicate_succ, Array.replicate_zero, List.push_toArray, List.append_toArray, List.nil_append, List.cons_append]
  gi_wp2
  gi_loopw [3] (fun i wr => ∃ (k : Nat) (pre : List Mk), i = .int .i64 k ∧ k ≤ s.size ∧ Hid ((cut s 0).1 = pre ++ (cut s k).1) ∧ J pre wr ∧ wr.cell? ⟨Bn, 0, none⟩ = some (.string s) ∧ W.heap.size ≤ wr.heap.size)
    (fun i _ => s.size - (intOf i).toNat)
  case atStart => exact ⟨0, [], rfl, by omega, rfl, h0, hBn, Nat.le_refl _⟩
  case round =>
    obtain ⟨k, pre, rfl, hk, HC, hJs, hbox, hsz⟩ := hrel
    obtain ⟨m, hm⟩ : ∃ m, m = nextM s k := ⟨_, rfl⟩
    have HN : ∀ w, Calls Tryz.prog 76 #[.string s, .int .i64 k] w fun e w' => e = .returned (.agg #[.int .i64 m.k, .int .i64 m.p, .string m.t]) ∧ Below w.heap.size w w' := by
      intro w; rw [hm]; exact next_any s k w (by unfold maxLen; omega) hk
    have Hm := Lib.hid hm
    have HN' := Lib.hid HN
    have HY := Lib.hid hY
    have HJ := Lib.hid hJ
    clear hm HN hY hJ
    obtain ⟨mk, mp, mt⟩ := m
    gi_wp2_with fail
    refine ⟨trivial, (by intro h; cases h), (callsIn_wide.2 (HN'.out _)).mono ?_⟩
    rintro e w1 ⟨rfl, hb1⟩
    have hb2 : Below wr.heap.size wr (w1.alloc (.cells #[.int .i64 mk, .int .i64 mp, .string mt] 99)) := hb1.alloc hb1.size _
    have hJ2 := HJ.out pre _ _ none hJs (grown_of_below hb2) (by intro r e; cases e)
    have hBlt : Bn < wr.heap.size := World.block_lt_of_cell? wr ⟨Bn, 0, none⟩ hbox
    have hbox2 := (hb2.cell (p := ⟨Bn, 0, none⟩) hBlt).trans hbox
    by_cases hk0 : mk = 0
    · subst hk0
      gi_wp2
      refine ⟨fun _ h => (by cases h), ?_⟩
      gi_wp2
      refine bodyPost_ret (results_none rfl _ _ _) rfl ?_
      refine ⟨⟨_, rfl⟩, .inl ⟨(cut s 0).1, rfl, ?_⟩⟩
      have e : (cut s k).1 = [] := by rw [cut_none s k hk (by rw [← Hm.out])]
      rw [HC.out, e, List.append_nil]
      exact hJ2
    · have hk0' : (mk == 0) = false := by simpa using hk0
      have e : (cut s k).1 = nextM s k :: (cut s ((nextM s k).p + (nextM s k).t.size)).1 := by rw [cut_some s k hk (by rw [← Hm.out]; exact hk0)]
      have hz := nextM_size s k (by rw [← Hm.out]; exact hk0)
      rw [← Hm.out] at e hz
      have hlen : pre.length < (cut s 0).1.length := by rw [HC.out, e]; simp
      obtain ⟨fn, tmps, assign, body, hy, hR⟩ := HY.out pre ⟨mk, mp, mt⟩ _ hJ2 hlen
      have HE := Lib.hid e
      clear e
      dsimp only [Mk.val] at hy
      gi_wp2
      refine ⟨fun _ => by omega, hR.mono ?_⟩
      rintro e W3 (⟨rfl, hJ3, hk3⟩ | ⟨rfl, hJx3⟩)
      · have hw1 : (w1.alloc (.cells #[.int .i64 mk, .int .i64 mp, .string mt] 99)).heap[w1.heap.size]? = some (.cells #[.int .i64 mk, .int .i64 mp, .string mt] 99 (0, 0)) := World.alloc_heap_new w1 _
        have h3 := (hk3.ones _ _ _ hw1 rfl).trans hw1
        have c1 : W3.cell? ⟨w1.heap.size, 1, none⟩ = some (.int .i64 mp) := by simp [World.cell?, h3]
        have c2 : W3.cell? ⟨w1.heap.size, 2, none⟩ = some (.string mt) := by simp [World.cell?, h3]
        have hsz3 : W.heap.size ≤ W3.heap.size := by have := hk3.size; have := hb2.size; omega
        have hbox3 : W3.cell? ⟨Bn, 0, none⟩ = some (.string s) := (World.cell?_of_block (a := ⟨Bn, 0, none⟩) hk3.box).trans hbox2
        clear h3 hw1 hk3 hbox2 hbox hJ2 hb2 hb1 hy hR
        gi_wp2
        go_roundw
        case rel => exact ⟨mp + mt.size, pre ++ [⟨mk, mp, mt⟩], by go_num, hz.2.1, by unfold Hid; rw [HC.out, HE.out]; simp, hJ3, hbox3, hsz3⟩
        case measure => simp [intOf]; omega
      · gi_wp2
        refine bodyPost_ret (results_none rfl _ _ _) rfl ?_
        exact ⟨⟨_, rfl⟩, .inr ⟨pre ++ [⟨mk, mp, mt⟩], ⟨by simp, by rw [HC.out, HE.out]; exact ⟨_, by rw [List.append_assoc]; rfl⟩⟩, hJx3⟩⟩

theorem all_in (n : Nat) (s : ByteArray) (w : World) :
    CallsIn Fence.wide n Tryz.prog 75 #[.string s] w fun e w' => e = .returned (.func (.func 108) #[] #[.pointer (some ⟨w.heap.size, 0, none⟩)]) ∧ w' = w.alloc (.cells #[.string s] 9) := by
  refine callsIn_of_wp Tryz.func75 rfl trivial ?_ rfl
  simp only [Tryz.ntmps75, List.size_toArray, List.length_cons, List.length_nil, Nat.reduceAdd, Nat.reduceSub, Array.replicate_succ, Array.replicate_zero, List.push_toArray, List.append_toArray, List.nil_append, List.cons_append]
  gi_wp2
  go_ret
  exact ⟨rfl, rfl⟩

theorem all_stops (n : Nat) (hn : 3 ≤ n) (Bn : Nat) (s : ByteArray) (hs : s.size ≤ 16777216) (w : World) (hc : w.cell? ⟨Bn, 0, none⟩ = some (.string s)) :
    SeqStopsK Fence.wide n Tryz.prog 108 #[.pointer (some ⟨Bn, 0, none⟩)] (fun x : Mk => #[x.val]) (KpBox Bn) (fun ys => ys = (cut s 0).1) (fun pre => pre ≠ [] ∧ pre <+: (cut s 0).1) (cut s 0).1.length w :=
  fun l J Jx W hW hJ _ hY h0 => all1_in n hn l Bn s hs J Jx W.heap.size hY hJ W (Nat.le_refl _) ((hW.cell (p := ⟨Bn, 0, none⟩) (World.block_lt_of_cell? w ⟨Bn, 0, none⟩ hc)).trans hc) h0
end Go.Proofs.YtkmjmfcanlknjaaGreat
namespace Go.Proofs.YtkmjmfcanlknjaaGreat
open Go.RowKit Go.Shelf
attribute [local go_sem] Oper.semAt_some

/-! ### plain: where the last mark ends -/
def lastEnd : Nat → List Mk → Nat
  | k, [] => k
  | _, m :: r => lastEnd (m.p + m.t.size) r
def endI (l : List Mk) : Int := l.foldl (fun _ m => wrap64 ((m.p : Int) + m.t.size)) 0
theorem endI_snoc (l : List Mk) (m : Mk) : endI (l ++ [m]) = wrap64 ((m.p : Int) + m.t.size) := by
  unfold endI; rw [List.foldl_append, List.foldl_cons, List.foldl_nil]
theorem wrap_sum (m : Mk) (hm : m.p + m.t.size ≤ 16777216) : wrap64 ((m.p : Int) + m.t.size) = ((m.p + m.t.size : Nat) : Int) := by
  rw [wrap64_small _ (by omega) (by omega)]; omega
theorem endI_from (l : List Mk) (h : ∀ m ∈ l, m.p + m.t.size ≤ 16777216) : ∀ (k : Nat) (a : Int), a = k → l.foldl (fun _ m => wrap64 ((m.p : Int) + m.t.size)) a = (lastEnd k l : Nat) := by
  induction l with
  | nil => intro k a ha; exact ha
  | cons m r ih =>
    intro k a ha
    have hm := wrap_sum m (h m (List.mem_cons_self ..))
    exact ih (fun x hx => h x (List.mem_cons_of_mem _ hx)) _ _ hm
theorem cut_last (s : ByteArray) : ∀ (n k : Nat), k ≤ s.size → s.size - k ≤ n →
    lastEnd k (cut s k).1 ≤ s.size ∧ (nextM s (lastEnd k (cut s k).1)).k = 0 ∧ (nextM s (lastEnd k (cut s k).1)).p = (cut s k).2 ∧ ∀ m ∈ (cut s k).1, m.p + m.t.size ≤ s.size := by
  intro n
  induction n with
  | zero =>
    intro k h hn
    by_cases hz : (nextM s k).k = 0
    · rw [cut_none s k h hz]; simp [lastEnd, h, hz]
    · have := nextM_size s k hz; omega
  | succ n ih =>
    intro k h hn
    by_cases hz : (nextM s k).k = 0
    · rw [cut_none s k h hz]; simp [lastEnd, h, hz]
    · have h1 := nextM_size s k hz
      have h2 := ih ((nextM s k).p + (nextM s k).t.size) (by omega) (by omega)
      rw [cut_some s k h hz]
      refine ⟨h2.1, h2.2.1, h2.2.2.1, ?_⟩
      intro m hm
      rcases List.mem_cons.1 hm with rfl | hm
      · exact h1.2.1
      · exact h2.2.2.2 m hm
def scanM (s : ByteArray) : List Mk × Int × Int := if (cut s 0).2 < s.size then ([], (cut s 0).2, 160) else ((cut s 0).1, 0, 0)

/-! ### Scan -/
def ScanI (s : ByteArray) (B : Nat) (pre : List Mk) (W : World) : Prop :=
  (∃ v, Boxed W B 62 v ∧ W.ownsRow B 99 3 v pre.length (flatMk pre) ∧ (pre.length = 0 → v = .slice none 0 0)) ∧ Boxed W (B + 1) 3 (.int .i64 (endI pre)) ∧ Boxed W (B + 1 + 1) 9 (.string s)
theorem scanI_own (s : ByteArray) (B : Nat) : Own (ScanI s B) := by
  intro p X Y row h hg hr
  exact ⟨holdsRow_own B B 62 99 3 (fun pre : List Mk => pre.length) flatMk (fun pre v => pre.length = 0 → v = .slice none 0 0) p X Y row h.1 hg hr,
    boxed_own (B + 1) 3 (fun pre : List Mk => .int .i64 (endI pre)) p X Y row h.2.1 hg hr, boxed_own (B + 1 + 1) 9 (fun _ : List Mk => .string s) p X Y row h.2.2 hg hr⟩
theorem scanI_alloc {s : ByteArray} {B : Nat} {pre : List Mk} {W : World} (h : ScanI s B pre W) (o : Obj) : ScanI s B pre (W.alloc o) :=
  scanI_own s B pre W _ none h (World.grownBy_alloc W o none) (by intro r e; cases e)

theorem scan_facts {B Bx : Nat} {s : ByteArray} {x : Mk} {c : Int} {W w1 : World} {v : Value} {n : Nat} {xs : List Value} {tmp : Obj}
    (hv : Boxed W B 62 v) (hrow : W.ownsRow B 99 3 v n xs) (hat : Boxed W (B + 1) 3 (.int .i64 c)) (hT : Boxed W (B + 1 + 1) 9 (.string s))
    (hX : W.heap[Bx]? = some (.cells #[.int .i64 x.k, .int .i64 x.p, .string x.t] 99 (0, 0)))
    (hgrow : (W.alloc tmp).grownBy w1 v.ownBlock) (hones : KeepsOnes 99 3 (W.alloc tmp) w1) :
    Boxed w1 B 62 v ∧ Boxed w1 (B + 1) 3 (.int .i64 c) ∧ Boxed w1 (B + 1 + 1) 9 (.string s) ∧ w1.heap[Bx]? = some (.cells #[.int .i64 x.k, .int .i64 x.p, .string x.t] 99 (0, 0)) := by
  refine ⟨(hv.alloc _).kept hgrow (hv.not_row (by decide) hrow), (hat.alloc _).kept hgrow (hat.not_row (by decide) hrow), (hT.alloc _).kept hgrow (hT.not_row (by decide) hrow), ?_⟩
  have h := (Below.heap_alloc W tmp Bx (Array.getElem?_eq_some_iff.1 hX).1).trans hX
  exact (hones _ _ _ h rfl).trans h

theorem scan_step {B : Nat} {s : ByteArray} {pre : List Mk} {x : Mk} {c d : Int} {w0 W w1 : World} {v v' : Value} {tmp : Obj}
    (hbel : Below B w0 W) (hB : B ≤ W.heap.size) (hrow : W.ownsRow B 99 3 v pre.length (flatMk pre))
    (bL : Boxed w1 B 62 v) (bA : Boxed w1 (B + 1) 3 (.int .i64 c)) (hT : Boxed W (B + 1 + 1) 9 (.string s)) (bT : Boxed w1 (B + 1 + 1) 9 (.string s))
    (hown : w1.ownsRow B 99 3 v' (pre.length + 1) (flatMk pre ++ [.int .i64 x.k, .int .i64 x.p, .string x.t]))
    (hgrow : (W.alloc tmp).grownBy w1 v.ownBlock) (hones : KeepsOnes 99 3 (W.alloc tmp) w1) (hd : d = endI (pre ++ [x])) :
    KeepsOthers W ((w1.setCell ⟨B, 0, none⟩ v').setCell ⟨B + 1, 0, none⟩ (.int .i64 d)) ∧ KpBox (B + 1 + 1) W ((w1.setCell ⟨B, 0, none⟩ v').setCell ⟨B + 1, 0, none⟩ (.int .i64 d)) ∧
    ScanI s B (pre ++ [x]) ((w1.setCell ⟨B, 0, none⟩ v').setCell ⟨B + 1, 0, none⟩ (.int .i64 d)) ∧ Below B w0 ((w1.setCell ⟨B, 0, none⟩ v').setCell ⟨B + 1, 0, none⟩ (.int .i64 d)) := by
  have hrowlt := hrow.lt
  have k1 : KeepsOthers (W.alloc tmp) w1 := KeepsOthers.of_grownBy hgrow fun j o ej hj => by
    rcases (hrow.alloc tmp).2 with ⟨rfl, _⟩ | ⟨g, cap, cur, rfl, _, hgb, _⟩
    · simp [Value.ownBlock] at ej
    · obtain rfl : g = j := by simpa [Value.ownBlock] using ej
      rw [hgb] at hj; cases hj; rfl
  have b1 : Below B w0 w1 := (hbel.alloc hB tmp).grown hgrow (by simp; omega) (fun k hk => (hrowlt k hk).1)
  have bA' : Boxed (w1.setCell ⟨B, 0, none⟩ v') (B + 1) 3 (.int .i64 c) := bA.other (by omega) v'
  have bL' : Boxed (w1.setCell ⟨B, 0, none⟩ v') B 62 v' := bL.set v'
  have bT' : Boxed (w1.setCell ⟨B, 0, none⟩ v') (B + 1 + 1) 9 (.string s) := bT.other (by omega) v'
  have bT2 := bT'.other (B' := B + 1) (by omega) (.int .i64 d)
  refine ⟨(((KeepsOthers.alloc W tmp).trans k1).trans (KeepsOthers.setCell _ _ _)).trans (KeepsOthers.setCell _ _ _), ⟨?_, ?_, ?_⟩, ⟨⟨v', bL'.other (by omega) _, ?_, ?_⟩, ?_, bT2⟩, (b1.setCell (p := ⟨B, 0, none⟩) (Nat.le_refl _) _).setCell (p := ⟨B + 1, 0, none⟩) (by simp) _⟩
  · have := hgrow.size
    simp at this
    simp only [World.setCell, Array.size_modify]; omega
  · rw [show _ = _ from bT2, show _ = _ from hT]
  · exact (((KeepsOnes.alloc _ _ W tmp).trans hones).trans (KeepsOnes.setCell bL (by decide) 0 v')).trans (KeepsOnes.setCell bA' (by decide) 0 _)
  · have h1 := hown.kept (grownBy_setCell' w1 B v') (.inr (bL.not_row (by decide) hown).symm)
    have h2 := h1.kept (grownBy_setCell' _ (B + 1) (.int .i64 d)) (.inr (bA'.not_row (by decide) h1).symm)
    have h3 := OwnMk.snoc (l := pre) (m := x) h2
    exact h3
  · intro h; simp at h
  · rw [← hd]; exact bA'.set _

set_option maxRecDepth 100000 in
set_option maxHeartbeats 1600000 in
theorem mScan_in (n : Nat) (hn : 6 ≤ n) (s : ByteArray) (hs : s.size ≤ 16777216) (w : World) :
    CallsIn Fence.wide n Tryz.prog 37 #[.string s] w fun e w' => ∃ v, e = .returned (.tuple #[v, .int .i64 (scanM s).2.1, .int .i64 (scanM s).2.2]) ∧ OwnMk w' w.heap.size v (scanM s).1 ∧ Below w.heap.size w w' := by
  have h1 : 1 ≤ n := by omega
  refine callsIn_of_wp_marks Tryz.func37 rfl trivial ?_ rfl
  simp only [Tryz.ntmps37, List.size_toArray, List.length_cons, List.length_nil, Nat.reduceAdd, Nat.reduceSub, Array.replicate_succ, Array.replicate_zero, List.push_toArray, List.append_toArray, List.nil_append, List.cons_append]
  gi_wp2_with (refine ⟨trivial, ?_⟩; gi_at_call 75; refine (all_in (n - 1) s _).mono ?_; rintro e w' ⟨rfl, rfl⟩)
  have bL := ((Boxed.new w 62 (.slice none 0 0)).alloc (.cells #[.int .i64 0] 3)).alloc (.cells #[.string s] 9)
  have bA := (Boxed.new (w.alloc (.cells #[.slice none 0 0] 62)) 3 (.int .i64 0)).alloc (.cells #[.string s] 9)
  have bT := Boxed.new ((w.alloc (.cells #[.slice none 0 0] 62)).alloc (.cells #[.int .i64 0] 3)) 9 (.string s)
  simp only [World.size_alloc] at bA bT
  have hB0 : Below w.heap.size w (((w.alloc (.cells #[.slice none 0 0] 62)).alloc (.cells #[.int .i64 0] 3)).alloc (.cells #[.string s] 9)) := below3 _ _ _ _
  have hsz : (((w.alloc (.cells #[.slice none 0 0] 62)).alloc (.cells #[.int .i64 0] 3)).alloc (.cells #[.string s] 9)).heap.size = w.heap.size + 3 := by simp
  obtain ⟨W0, hW0⟩ : ∃ W0, ((w.alloc (.cells #[.slice none 0 0] 62)).alloc (.cells #[.int .i64 0] 3)).alloc (.cells #[.string s] 9) = W0 := ⟨_, rfl⟩
  rw [hW0] at bL bA bT hB0 hsz ⊢
  clear hW0
  refine wpIn_rangeFunc_ownH rfl h1 (gf := 108) (lb := #[.pointer (some ⟨w.heap.size + 1 + 1, 0, none⟩)]) rfl trivial (enters_of Tryz.func108 (by kernel_rfl) rfl)
    (all_stops (n - 1) (by omega) (w.heap.size + 1 + 1) s hs W0 bT.cell) KpBox.trans (KpBox.putObj bT.lt) (Below.refl _ _) (fun _ => rfl)
    (fun pre W => ScanI s w.heap.size pre W ∧ Below w.heap.size w W)
    (fun _ _ _ => False) ?hI (fun _ _ _ _ _ hs _ _ => hs) ?h0
    (fun x a' W => ∃ Bx, w.heap.size + 3 ≤ Bx ∧ W.heap[Bx]? = some (.cells #[.int .i64 x.k, .int .i64 x.p, .string x.t] 99 (0, 0)) ∧ a' = { tmps := #[.string s, undef, .slice none 0 0, .int .i64 0, .int .i64 0, .pointer (some ⟨w.heap.size, 0, none⟩), .pointer (some ⟨w.heap.size + 1, 0, none⟩), .pointer (some ⟨Bx, 0, none⟩), undef, .string s, .func (.func 108) #[] #[.pointer (some ⟨w.heap.size + 1 + 1, 0, none⟩)], .agg #[.int .i64 x.k, .int .i64 x.p, .string x.t], undef, undef, undef, undef, undef, undef, undef, undef, undef, undef, undef, undef, undef, undef, undef, undef, undef, undef, undef, undef, undef], defers := [] }) ?hAx ?assign ?body ?done ?stop
  case hI => exact OwnFrom.and ((scanI_own _ _).from _) (ownFrom_below (Nat.le_refl _) (by omega))
  case hAx =>
    intro x a' _ X Y row h hg hr
    obtain ⟨Bx, h1, h2, h3⟩ := h
    refine ⟨Bx, h1, (hg.block Bx (Array.getElem?_eq_some_iff.1 h2).1 ?_).trans h2, h3⟩
    intro e
    obtain ⟨_, o, ho, hc⟩ := hr Bx e.symm
    rw [h2] at ho; cases ho; simp [Obj.isCells] at hc
  case h0 => exact ⟨⟨⟨_, bL, World.ownsRow_nil _ _ _ _, fun _ => rfl⟩, bA, bT⟩, hB0⟩
  case assign =>
    intro l pre x W K hi hK
    dsimp only [Mk.val]
    gi_wp2
    have hlt := hi.1.2.2.lt
    exact hK _ _ ((KeepsOthers.alloc W _).from _) (KpBox.of_below (below1 W _) hlt) ⟨scanI_alloc hi.1 _, hi.2.alloc (hi.2.size) _⟩ ⟨W.heap.size, by omega, World.alloc_heap_new W _, rfl⟩
  case body =>
    rintro l pre x a' W hl ⟨r, hr⟩ ⟨⟨⟨v, hv, hrow, hnil⟩, hat, hT⟩, hbel⟩ ⟨Bx, hBx, hX, rfl⟩ hlt
    have cL := hv.cell
    have c0 : W.cell? ⟨Bx, 0, none⟩ = some (.int .i64 x.k) := by simp [World.cell?, hX]
    have c1 : W.cell? ⟨Bx, 1, none⟩ = some (.int .i64 x.p) := by simp [World.cell?, hX]
    have c2 : W.cell? ⟨Bx, 2, none⟩ = some (.string x.t) := by simp [World.cell?, hX]
    have hsz2 := hbel.size
    have hl2 : pre.length < 16777217 := by have := cut_len s s.size 0 (by omega) (by omega); omega
    have HV := Lib.hid hv
    have HAT := Lib.hid hat
    have HTT := Lib.hid hT
    have HX := Lib.hid hX
    clear hv hat hT hX
    gi_wp2_with (gi_at_builtin; go_must (refine wpListIn_app1 elemMk (by decide) rfl _ _ rfl hrow hnil rfl (news := [.int .i64 x.k, .int .i64 x.p, .string x.t]) rfl rfl (by intro u hu; simp at hu; rcases hu with rfl | rfl | rfl <;> rfl) (by omega) (by decide) hbel.size ?_); intro v' w1 hown1 hgrow1 hones1 hshape; obtain ⟨g', cap', rfl⟩ := hshape; obtain ⟨b1, b2, b3, b4⟩ := scan_facts HV.out hrow HAT.out HTT.out HX.out hgrow1 hones1; have d1 := b1.cell; have d2 := b1.frozen; have d3 := b2.cell; have d4 := b2.frozen; have d5 : w1.cell? ⟨Bx, 1, none⟩ = some (.int .i64 x.p) := (by simp [World.cell?, b4]); have d6 : w1.cell? ⟨Bx, 2, none⟩ = some (.string x.t) := (by simp [World.cell?, b4]); have B1 := Lib.hid b1; have B2 := Lib.hid b2; have B3 := Lib.hid b3; clear b1 b2 b3 b4)
    obtain ⟨k1, k2, k3, k4⟩ := scan_step hbel hbel.size hrow B1.out B2.out HTT.out B3.out hown1 hgrow1 hones1 (endI_snoc pre x).symm
    exact ⟨k1.from _, k2, k3, k4⟩
  case stop =>
    rintro D c pre W _ _ h _
    exact h.elim
  case done =>
    rintro D xs W hD rfl ⟨⟨⟨v, hv, hrow, hnil⟩, hat, hT⟩, hbel⟩ hK
    have cL := hv.cell
    have cA := hat.cell
    obtain ⟨q1, q2, q3, q4⟩ := cut_last s s.size 0 (by omega) (by omega)
    have he : endI (cut s 0).1 = (lastEnd 0 (cut s 0).1 : Nat) := endI_from _ (fun m hm => by have := q4 m hm; omega) 0 0 rfl
    rw [he] at cA
    have HN : ∀ w, Calls Tryz.prog 76 #[.string s, .int .i64 (lastEnd 0 (cut s 0).1 : Nat)] w fun e w' => e = .returned (.agg #[.int .i64 0, .int .i64 (cut s 0).2, .string (nextM s (lastEnd 0 (cut s 0).1)).t]) ∧ Below w.heap.size w w' := by
      intro w
      have := next_any s (lastEnd 0 (cut s 0).1) w (by unfold maxLen; omega) q1
      rw [Mk.val, q2, q3] at this
      exact this
    have HK := Lib.hid hK
    have HV := Lib.hid hv
    have HN' := Lib.hid HN
    clear hv hat hT hK HN q2 q3 he
    generalize lastEnd 0 (cut s 0).1 = le at *
    generalize (nextM s le).t = nt at *
    have hce := cut_len s s.size 0 (by omega) (by omega)
    have hDlt : D < W.heap.size := (Array.getElem?_eq_some_iff.1 HK.out).1
    have hbsz := hbel.size
    have hVlt := HV.out.lt
    by_cases hc : (cut s 0).2 < s.size
    · have HE : Hid (scanM s = ([], (((cut s 0).2 : Nat) : Int), 160)) := by unfold Hid scanM; rw [if_pos hc]
      gi_wp2_with (refine ⟨trivial, ?_⟩; gi_at_call 76; refine (callsIn_wide.2 (HN'.out _)).mono ?_; rintro e w2 ⟨rfl, hb2⟩)
      gi_region
      gi_wp2
      have hK2 : (w2.alloc (.cells #[.int .i64 0, .int .i64 (cut s 0).2, .string nt] 99)).drew.heap[D]? = some (.deferred (some [])) := by
        have hsz2 := hb2.size
        exact (Below.heap_alloc w2 _ D (by omega)).trans ((hb2.block D hDlt).trans HK.out)
      have hbel2 : Below w.heap.size w (w2.alloc (.cells #[.int .i64 0, .int .i64 (cut s 0).2, .string nt] 99)).drew :=
        ((hbel.trans (hb2.mono hbsz)).alloc (by have := hb2.size; omega) _).drew
      refine ⟨by simp, .inl ⟨_, _, rfl, run_takeDeferred hK2, ?_⟩⟩
      refine ⟨_, results_tmp3 rfl _ _ _, .slice none 0 0, by rw [HE.out]; rfl, by rw [HE.out]; exact World.ownsRow_nil _ _ _ _, hbel2.trans (belowK_b (w := w) (Nat.le_refl _) _ D _ _ (by omega) hK2 rfl rfl)⟩
    · have HE : Hid (scanM s = ((cut s 0).1, 0, 0)) := by unfold Hid scanM; rw [if_neg hc]
      gi_wp2_with (refine ⟨trivial, ?_⟩; gi_at_call 76; refine (callsIn_wide.2 (HN'.out _)).mono ?_; rintro e w2 ⟨rfl, hb2⟩; have cL2 := (hb2.cell (p := ⟨w.heap.size, 0, none⟩) hVlt).trans cL; have hsz2 := hb2.size; have hlt2 : w.heap.size < w2.heap.size := (by omega))
      have hK2 : (w2.alloc (.cells #[.int .i64 0, .int .i64 (cut s 0).2, .string nt] 99)).heap[D]? = some (.deferred (some [])) :=
        (Below.heap_alloc w2 _ D (by omega)).trans ((hb2.block D hDlt).trans HK.out)
      have hbel2 : Below w.heap.size w (w2.alloc (.cells #[.int .i64 0, .int .i64 (cut s 0).2, .string nt] 99)) :=
        (hbel.trans (hb2.mono hbsz)).alloc (by omega) _
      have hrow2 : w2.ownsRow w.heap.size 99 3 v (cut s 0).1.length (flatMk (cut s 0).1) := hrow.kept (grown_of_below hb2) (by rcases hrow.2 with ⟨rfl, _⟩ | ⟨g, cap, cur, rfl, _⟩ <;> simp [Value.ownBlock])
      refine ⟨by simp, .inl ⟨_, _, rfl, run_takeDeferred hK2, ?_⟩⟩
      refine ⟨_, results_tmp3 rfl _ _ _, v, by rw [HE.out]; rfl, by rw [HE.out]; exact ownsRow_putObj (hrow2.alloc _) _ hK2 rfl, hbel2.trans (belowK_b (w := w) (Nat.le_refl _) _ D _ _ (by omega) hK2 rfl rfl)⟩

theorem scan_any (s : ByteArray) (hs : s.size ≤ 16777216) (w : World) :
    Calls Tryz.prog 37 #[.string s] w fun e w' => ∃ v, e = .returned (.tuple #[v, .int .i64 (scanM s).2.1, .int .i64 (scanM s).2.2]) ∧ OwnMk w' w.heap.size v (scanM s).1 ∧ Below w.heap.size w w' :=
  callsIn_wide.1 (mScan_in 10 (by omega) s hs w)
end Go.Proofs.YtkmjmfcanlknjaaGreat
namespace Go.Proofs.YtkmjmfcanlknjaaGreat
open Go.RowKit

def RdMk (w : World) (v : Value) (l : List Mk) : Prop := Rd w v l.length 3 (flatMk l)
theorem RdMk.of_own {w : World} {B : Nat} {v : Value} {l : List Mk} (h : OwnMk w B v l) : RdMk w v l := Rd.of_owns h
theorem flatMk_len (l : List Mk) : (flatMk l).length = 3 * l.length := by
  induction l with
  | nil => rfl
  | cons m r ih => have : flatMk (m :: r) = m.cells ++ flatMk r := rfl
                   rw [this, List.length_append, ih]; simp [Mk.cells]; omega
theorem flatMk_at (l : List Mk) (i : Nat) (m : Mk) (h : l[i]? = some m) : (flatMk l)[3 * i]? = some (.int .i64 m.k) ∧ (flatMk l)[3 * i + 1]? = some (.int .i64 m.p) ∧ (flatMk l)[3 * i + 2]? = some (.string m.t) := by
  induction l generalizing i with
  | nil => simp at h
  | cons x r ih =>
    have e : flatMk (x :: r) = .int .i64 x.k :: .int .i64 x.p :: .string x.t :: flatMk r := rfl
    cases i with
    | zero => simp at h; subst h; rw [e]; simp
    | succ i =>
      have h2 := ih i (by simpa using h)
      rw [e, show 3 * (i + 1) = 3 * i + 1 + 1 + 1 from by omega]
      simpa using h2
/-- the cells of the i-th mark -/
theorem RdMk.at {w : World} {v : Value} {l : List Mk} (h : RdMk w v l) {i : Nat} {m : Mk} (hm : l[i]? = some m) :
    ∃ b off cap, v = .slice (some ⟨b, off, none⟩) l.length cap ∧ b < w.heap.size ∧ l.length ≤ cap ∧
      w.cell? ⟨b, off + i * 3, none⟩ = some (.int .i64 m.k) ∧ w.cell? ⟨b, off + i * 3 + 1, none⟩ = some (.int .i64 m.p) ∧ w.cell? ⟨b, off + i * 3 + 2, none⟩ = some (.string m.t) := by
  have hi : i < l.length := (List.getElem?_eq_some_iff.1 hm).1
  obtain ⟨b, off, cap, h1, h2, h3, h4⟩ := Rd.at h hi
  obtain ⟨q0, q1, q2⟩ := flatMk_at l i m hm
  rw [show 3 * i = i * 3 from by omega] at q0 q1 q2
  exact ⟨b, off, cap, h1, h2, h3, h4 _ _ q0, h4 _ _ q1, h4 _ _ q2⟩

end Go.Proofs.YtkmjmfcanlknjaaGreat
namespace Go.Proofs.YtkmjmfcanlknjaaGreat
open Go.RowKit

/-! ### the reader -/
/-- where a text goes wrong at the p-th mark -/
def plc (L : List Mk) (en : Int) (p : Nat) : Int := match L[p]? with | some m => (m.p : Int) | none => en
structure Rdr (w : World) (Br : Nat) (vl : Value) (L : List Mk) (p : Nat) (en : Int) : Prop where
  box : w.heap[Br]? = some (.cells #[vl, .int .i64 p, .int .i64 en] 159 (0, 0))
  rd : RdMk w vl L
  apart : ∀ a n c, vl = .slice (some a) n c → a.block ≠ Br
theorem Rdr.kept {w w' : World} {Br : Nat} {vl : Value} {L : List Mk} {p : Nat} {en : Int} (h : Rdr w Br vl L p en) (hg : w.grownBy w' none) : Rdr w' Br vl L p en :=
  ⟨(hg.block Br (Array.getElem?_eq_some_iff.1 h.box).1 (by simp)).trans h.box,
   Rd.mono h.rd (fun b o hb => World.cell?_of_block (a := ⟨b, o, none⟩) (hg.block b hb (by simp))) hg.size, h.apart⟩
theorem Rdr.cells {w : World} {Br : Nat} {vl : Value} {L : List Mk} {p : Nat} {en : Int} (h : Rdr w Br vl L p en) :
    w.cell? ⟨Br, 0, none⟩ = some vl ∧ w.cell? ⟨Br, 1, none⟩ = some (.int .i64 p) ∧ w.cell? ⟨Br, 2, none⟩ = some (.int .i64 en) ∧ w.frozen? ⟨Br, 1, none⟩ = false := by
  have := h.box
  refine ⟨by simp [World.cell?, this], by simp [World.cell?, this], by simp [World.cell?, this], by simp [World.frozen?, this]⟩
theorem Rdr.lt {w : World} {Br : Nat} {vl : Value} {L : List Mk} {p : Nat} {en : Int} (h : Rdr w Br vl L p en) : Br < w.heap.size := (Array.getElem?_eq_some_iff.1 h.box).1
/-- the next mark -/
theorem Rdr.step {w : World} {Br : Nat} {vl : Value} {L : List Mk} {p : Nat} {en : Int} (h : Rdr w Br vl L p en) (q : Nat) : Rdr (w.setCell ⟨Br, 1, none⟩ (.int .i64 q)) Br vl L q en := by
  refine ⟨?_, ?_, h.apart⟩
  · have hb := h.box
    have hl := h.lt
    simp only [World.setCell]
    rw [Array.getElem?_modify, if_pos rfl, hb]
    rfl
  · obtain ⟨h1, ao, cap, h2, h3, h4, h5⟩ := h.rd
    refine ⟨h1, ao, cap, h2, h3, h4, h5.imp id ?_⟩
    rintro ⟨b, off, h6, h7, h8⟩
    have hne : b ≠ Br := h.apart ⟨b, off, none⟩ _ _ (by rw [h2, h6])
    refine ⟨b, off, h6, by simpa [World.setCell] using h7, fun j u hj => ?_⟩
    rw [World.cell?_of_block (a := ⟨b, off + j, none⟩) (w := w) (Below.heap_setCell _ _ _ _ hne)]
    exact h8 j u hj
set_option maxHeartbeats 400000 in
theorem xBegins_any (k : Int) (w : World) :
    Calls Tryz.prog 163 #[.int .i64 k] w fun e w' => e = .returned (.bool (beginsI k)) ∧ w = w' := by
  go_enter Tryz.func163, Tryz.ntmps163
  go_wp2
  all_goals go_ret
  all_goals refine ⟨?_, rfl⟩
  all_goals simp [beginsI, *]

theorem lit_i64 {a b : Int} (h : a = b) : Ending.returned (.int .i64 a) = .returned (.int .i64 b) := by rw [h]

set_option maxHeartbeats 800000 in
theorem xKind_any (Br : Nat) (vl : Value) (L : List Mk) (p : Nat) (en : Int) (w : World) (h : Rdr w Br vl L p en) (hp : p ≤ L.length) :
    Calls Tryz.prog 153 #[.pointer (some ⟨Br, 0, none⟩)] w fun e w' => e = .returned (.int .i64 (kd L p)) ∧ Rdr w' Br vl L p en ∧ w.grownBy w' none := by
  have HR := Lib.hid h
  obtain ⟨c0, c1, c2, c3⟩ := h.cells
  obtain ⟨_, ao, cap, rfl, -⟩ := h.rd
  clear h
  by_cases hlt : p < L.length
  · obtain ⟨m, hm⟩ : ∃ m, L[p]? = some m := ⟨_, List.getElem?_eq_getElem hlt⟩
    obtain ⟨b, off, cp, e1, l1, k1, x0, x1, x2⟩ := RdMk.at HR.out.rd hm
    simp only [Value.slice.injEq] at e1
    obtain ⟨rfl, -, rfl⟩ := e1
    have HK : Hid (kd L p = m.k) := kd_some hm
    have hne : ((p : Int) == L.length) = false := by simp; omega
    clear hm x1 x2
    go_enter Tryz.func153, Tryz.ntmps153
    go_wp2
    go_quiet (fail)
    go_wp2
    go_quiet (fail)
    go_wp2
    go_ret
    exact ⟨lit_i64 HK.out.symm, HR.out.kept (grown_then (grown_drewN _ _ _) (grown_drewN _ _ none) (by simp)), grown_then (grown_drewN _ _ _) (grown_drewN _ _ none) (by simp)⟩
  · obtain rfl : p = L.length := by omega
    have HK : Hid (kd L L.length = 0) := kd_none (Nat.le_refl _)
    go_enter Tryz.func153, Tryz.ntmps153
    go_wp2
    go_quiet (fail)
    go_wp2
    go_ret
    exact ⟨lit_i64 HK.out.symm, HR.out.kept (grown_drewN _ _ _), grown_drewN _ _ _⟩

def wrongV (x : Int) : List PanicEntry := [{ v := .iface 155 (.agg #[.int .i64 x]), recovered := false }]
set_option maxRecDepth 100000 in
set_option maxHeartbeats 800000 in
theorem xFail_any (Br : Nat) (vl : Value) (L : List Mk) (p : Nat) (en : Int) (w : World) (h : Rdr w Br vl L p en) (hp : p ≤ L.length) :
    Calls Tryz.prog 129 #[.pointer (some ⟨Br, 0, none⟩)] w fun e w' => e = .panicked (wrongV (plc L en p)) ∧ w.grownBy w' none := by
  have HR := Lib.hid h
  obtain ⟨c0, c1, c2, c3⟩ := h.cells
  obtain ⟨_, ao, cap, rfl, -⟩ := h.rd
  clear h
  by_cases hlt : p < L.length
  · obtain ⟨m, hm⟩ : ∃ m, L[p]? = some m := ⟨_, List.getElem?_eq_getElem hlt⟩
    obtain ⟨b, off, cp, e1, l1, k1, x0, x1, x2⟩ := RdMk.at HR.out.rd hm
    simp only [Value.slice.injEq] at e1
    obtain ⟨rfl, -, rfl⟩ := e1
    have HK : Hid (plc L en p = m.p) := by unfold Hid plc; rw [hm]
    have hne : ((p : Int) == L.length) = false := by simp; omega
    clear hm x0 x2
    go_enter Tryz.func129, Tryz.ntmps129
    go_wp2
    go_quiet (fail)
    go_wp2
    have HG := Lib.hid (grown_drewN w nq none)
    have d0 : (w.drewN nq).cell? ⟨Br, 0, none⟩ = _ := c0
    have d1 : (w.drewN nq).cell? ⟨Br, 1, none⟩ = _ := c1
    have d2 : (w.drewN nq).cell? ⟨b, off + p * 3 + 1, none⟩ = _ := x1
    clear c0 c1 c2 c3 x1
    generalize w.drewN nq = w2 at *
    go_still_tail 13, (by kernel_rfl)
    go_wp2
    exact ⟨rfl, by rw [HK.out]; rfl, grown_then HG.out (grown_drewN _ 1 none) (by simp)⟩
  · obtain rfl : p = L.length := by omega
    have HK : Hid (plc L en L.length = en) := by unfold Hid plc; rw [List.getElem?_eq_none (Nat.le_refl _)]
    go_enter Tryz.func129, Tryz.ntmps129
    go_wp2
    go_quiet (fail)
    go_wp2
    exact ⟨rfl, by rw [HK.out]; rfl, grown_drewN _ _ _⟩
end Go.Proofs.YtkmjmfcanlknjaaGreat
namespace Go.Proofs.YtkmjmfcanlknjaaGreat
open Go.RowKit

theorem elemNd : ElemOK Tryz.prog 45 57 3 32 :=
  ElemOK.mk' (z := .agg #[.int .i64 0, .string ⟨#[]⟩, .int .i64 0]) Tryz.underlying45 (by kernel_rfl) rfl (by decide)
def OwnNd (w : World) (B : Nat) (v : Value) (l : List Nd) : Prop := w.ownsRow B 57 3 v l.length (flatNd l)
theorem flatNd_app (a b : List Nd) : flatNd (a ++ b) = flatNd a ++ flatNd b := by simp [flatNd]
theorem flatNd_len (l : List Nd) : (flatNd l).length = l.length * 3 := by
  induction l with
  | nil => rfl
  | cons x r ih => have : flatNd (x :: r) = x.cells ++ flatNd r := rfl
                   rw [this, List.length_append, ih]; simp [Nd.cells]; omega
theorem flatNd_one (l : List Nd) : ∀ u ∈ flatNd l, u.oneCell' = true := by
  intro u hu
  unfold flatNd at hu
  rw [List.mem_flatMap] at hu
  obtain ⟨m, _, hm⟩ := hu
  simp [Nd.cells] at hm
  rcases hm with rfl | rfl | rfl <;> rfl
/-- a new list of one node -/
theorem OwnNd.one (w : World) (B : Nat) (hB : B ≤ w.heap.size) (x : Nd) : OwnNd (w.alloc (.cells #[.int .i64 x.k, .string x.n, .int .i64 x.c] 57)) B (.slice (some ⟨w.heap.size, 0, none⟩) 1 1) [x] :=
  ⟨rfl, .inr ⟨w.heap.size, 1, _, rfl, hB, World.alloc_heap_new w _, Nat.le_refl _, by unfold maxLen; omega, rfl, rfl⟩⟩
theorem OwnNd.lower {w : World} {B C : Nat} {v : Value} {l : List Nd} (h : OwnNd w B v l) (hC : C ≤ B) : OwnNd w C v l := by
  refine ⟨h.1, ?_⟩
  rcases h.2 with h | ⟨g, cap, cur, h2, h3, h4⟩
  · exact .inl h
  · exact .inr ⟨g, cap, cur, h2, by omega, h4⟩
theorem OwnNd.grown {w w' : World} {B : Nat} {v : Value} {l : List Nd} {row : Option Nat} (h : OwnNd w B v l) (hg : w.grownBy w' row) (hr : ∀ j, row = some j → j < B) : OwnNd w' B v l := by
  refine World.ownsRow.kept h hg ?_
  rcases h.2 with ⟨rfl, _⟩ | ⟨g, cap, cur, rfl, hB, _⟩
  · exact .inl rfl
  · right
    intro e
    have := hr g e.symm
    omega

/-- what a reading function leaves -/
def PRet (Br : Nat) (vl : Value) (L : List Mk) (en : Int) (w : World) (r : PR) (e : Ending) (w' : World) : Prop :=
  w.grownBy w' (some Br) ∧ ((r.ok = true ∧ ∃ v, e = .returned v ∧ OwnNd w' w.heap.size v r.f.flat ∧ Rdr w' Br vl L r.p en) ∨ (r.ok = false ∧ e = .panicked (wrongV (plc L en r.p))))
theorem PRet.good {Br : Nat} {vl : Value} {L : List Mk} {en : Int} {w w' : World} {f : Fo} {p : Nat} {v : Value} (hg : w.grownBy w' (some Br)) (ho : OwnNd w' w.heap.size v f.flat) (hr : Rdr w' Br vl L p en) : PRet Br vl L en w ⟨true, f, p⟩ (.returned v) w' := ⟨hg, .inl ⟨rfl, v, rfl, ho, hr⟩⟩
theorem PRet.bad {Br : Nat} {vl : Value} {L : List Mk} {en : Int} {w w' : World} {f : Fo} {p : Nat} (hg : w.grownBy w' (some Br)) : PRet Br vl L en w ⟨false, f, p⟩ (.panicked (wrongV (plc L en p))) w' := ⟨hg, .inr ⟨rfl, rfl⟩⟩

theorem pAtom_no {E : Nat → PR} {L : List Mk} {p : Nat} (h : beginsI (kd L p) = false) : pAtom E L p = ⟨false, .nil, p⟩ := by unfold pAtom; rw [if_neg (by simp [h])]
theorem pAtom_up {E : Nat → PR} {L : List Mk} {p : Nat} (h : kd L p = 1) : pAtom E L p = ⟨true, leafF 2 (tx L p), p + 1⟩ := by unfold pAtom; rw [h]; rfl
theorem pAtom_lo {E : Nat → PR} {L : List Mk} {p : Nat} (h : kd L p = 2) : pAtom E L p = ⟨true, leafF 3 (tx L p), p + 1⟩ := by unfold pAtom; rw [h]; rfl
theorem pAtom_em {E : Nat → PR} {L : List Mk} {p : Nat} (h : kd L p = 12) : pAtom E L p = ⟨true, leafF 1 ⟨#[]⟩, p + 1⟩ := by unfold pAtom; rw [h]; rfl
theorem pAtom_op {E : Nat → PR} {L : List Mk} {p : Nat} (h : kd L p = 10) : pAtom E L p = if (E (p + 1)).ok then (if kd L (E (p + 1)).p = 11 then ⟨true, (E (p + 1)).f, (E (p + 1)).p + 1⟩ else ⟨false, .nil, (E (p + 1)).p⟩) else E (p + 1) := by unfold pAtom; rw [h]; rfl

theorem atom_leaf {Br : Nat} {vl : Value} {L : List Mk} {p : Nat} {en : Int} {w w2 : World} (hg : w.grownBy w2 none) (hr : Rdr w2 Br vl L p en) (x : Nd) :
    w.grownBy ((w2.setCell ⟨Br, 1, none⟩ (.int .i64 ((p : Int) + 1))).alloc (.cells #[.int .i64 x.k, .string x.n, .int .i64 x.c] 57)) (some Br) ∧
    OwnNd ((w2.setCell ⟨Br, 1, none⟩ (.int .i64 ((p : Int) + 1))).alloc (.cells #[.int .i64 x.k, .string x.n, .int .i64 x.c] 57)) w.heap.size (.slice (some ⟨w2.heap.size, 0, none⟩) 1 1) [x] ∧
    Rdr ((w2.setCell ⟨Br, 1, none⟩ (.int .i64 ((p : Int) + 1))).alloc (.cells #[.int .i64 x.k, .string x.n, .int .i64 x.c] 57)) Br vl L (p + 1) en := by
  have e : (w2.setCell ⟨Br, 1, none⟩ (.int .i64 ((p : Int) + 1))).heap.size = w2.heap.size := by simp [World.setCell]
  refine ⟨grown_then (grown_then (grown_none hg) (grown_set w2 Br 1 _) (by simp)) (World.grownBy_alloc _ _ none) (by simp), ?_, ?_⟩
  · have := OwnNd.one (w2.setCell ⟨Br, 1, none⟩ (.int .i64 ((p : Int) + 1))) w.heap.size (by rw [e]; exact hg.size) x
    rw [e] at this
    exact this
  · exact (hr.step (p + 1)).kept (World.grownBy_alloc _ _ none)

set_option maxRecDepth 100000 in
set_option maxHeartbeats 3200000 in
theorem xAtom_any (Br : Nat) (vl : Value) (L : List Mk) (p : Nat) (en : Int) (E : Nat → PR) (w : World) (h : Rdr w Br vl L p en) (hp : p ≤ L.length) (hl : L.length < 4294967296)
    (HE : ∀ w, Rdr w Br vl L (p + 1) en → p + 1 ≤ L.length → Calls Tryz.prog 128 #[.pointer (some ⟨Br, 0, none⟩)] w (PRet Br vl L en w (E (p + 1)))) (hE : p + 1 ≤ L.length → (E (p + 1)).p ≤ L.length) :
    Calls Tryz.prog 166 #[.pointer (some ⟨Br, 0, none⟩)] w (PRet Br vl L en w (pAtom E L p)) := by
  have HEh := Lib.hid HE
  have HK := Lib.hid (xKind_any Br vl L p en w h hp)
  have HR := Lib.hid h
  clear HE h
  by_cases hb : beginsI (kd L p) = true
  · have hlt := begins_lt hb
    obtain ⟨m, hm⟩ : ∃ m, L[p]? = some m := ⟨_, List.getElem?_eq_getElem hlt⟩
    have HB : Hid (∀ w, Calls Tryz.prog 163 #[.int .i64 (kd L p)] w fun e w' => e = .returned (.bool true) ∧ w = w') := by
      intro w; rw [← hb]; exact xBegins_any _ _
    have hmk : kd L p = m.k := kd_some hm
    have hmt : tx L p = m.t := tx_some hm
    have HM := Lib.hid hm
    have hcase := begins_cases hb
    rw [hmk] at hcase
    have HMK := Lib.hid hmk
    have HMT := Lib.hid hmt
    clear hb hm hmt hmk
    rcases hcase with hk | hk | hk | hk
    · have HQ : Hid (pAtom E L p = ⟨true, leafF 2 m.t, p + 1⟩) := by rw [← HMT.out]; exact pAtom_up (by rw [HMK.out]; exact hk)
      have HKK := Lib.hid hk
      clear hk
      go_enter Tryz.func166, Tryz.ntmps166
      go_wp2_with (first | (go_at_call 153; refine (HK.out).mono ?_; rintro e w1 ⟨rfl, hr1, hg1⟩; have HR1 := Lib.hid hr1; have HG1 := Lib.hid hg1; clear hr1 hg1) | (go_at_call 163; refine (HB.out _).mono ?_; rintro e w' ⟨rfl, rfl⟩))
      obtain ⟨c0, c1, c2, c3⟩ := HR1.out.cells
      obtain ⟨b, off, cp, e1, l1, k1, x0, x1, x2⟩ := RdMk.at HR1.out.rd HM.out
      have hbl := HR1.out.lt
      subst e1
      go_region
      have hg2 := grown_then (grown_then HG1.out (World.grownBy_alloc w1 (.cells #[.int .i64 m.k, .int .i64 m.p, .string m.t] 99) none) (by simp)) (grown_drewN _ 1 none) (by simp)
      have hr2 := (HR1.out.kept (World.grownBy_alloc w1 (.cells #[.int .i64 m.k, .int .i64 m.p, .string m.t] 99) none)).kept (grown_drewN _ 1 none)
      have hb2 : ((w1.alloc (.cells #[.int .i64 m.k, .int .i64 m.p, .string m.t] 99)).drewN 1).heap[w1.heap.size]? = some (.cells #[.int .i64 m.k, .int .i64 m.p, .string m.t] 99 (0, 0)) := World.alloc_heap_new w1 _
      rw [show (w1.alloc (.cells #[.int .i64 m.k, .int .i64 m.p, .string m.t] 99)).drew = (w1.alloc (.cells #[.int .i64 m.k, .int .i64 m.p, .string m.t] 99)).drewN 1 from rfl]
      have HG2 := Lib.hid hg2
      have HR2 := Lib.hid hr2
      have HB2 := Lib.hid hb2
      clear hg2 hr2 hb2 c0 c1 c2 c3 x0 x1 x2
      generalize (w1.alloc (.cells #[.int .i64 m.k, .int .i64 m.p, .string m.t] 99)).drewN 1 = w2 at *
      obtain ⟨c0, c1, c2, c3⟩ := HR2.out.cells
      have D0 : w2.cell? ⟨w1.heap.size, 0, none⟩ = some (.int .i64 m.k) := by have := HB2.out; simp [World.cell?, this]
      have D2 : w2.cell? ⟨w1.heap.size, 2, none⟩ = some (.string m.t) := by have := HB2.out; simp [World.cell?, this]
      rw [HKK.out] at D0
      go_wp2
      go_ret
      rw [HQ.out]
      obtain ⟨q1, q2, q3⟩ := atom_leaf HG2.out HR2.out ⟨2, m.t, 0⟩
      exact PRet.good q1 q2 q3
    · have HQ : Hid (pAtom E L p = ⟨true, leafF 3 m.t, p + 1⟩) := by rw [← HMT.out]; exact pAtom_lo (by rw [HMK.out]; exact hk)
      have HKK := Lib.hid hk
      clear hk
      go_enter Tryz.func166, Tryz.ntmps166
      go_wp2_with (first | (go_at_call 153; refine (HK.out).mono ?_; rintro e w1 ⟨rfl, hr1, hg1⟩; have HR1 := Lib.hid hr1; have HG1 := Lib.hid hg1; clear hr1 hg1) | (go_at_call 163; refine (HB.out _).mono ?_; rintro e w' ⟨rfl, rfl⟩))
      obtain ⟨c0, c1, c2, c3⟩ := HR1.out.cells
      obtain ⟨b, off, cp, e1, l1, k1, x0, x1, x2⟩ := RdMk.at HR1.out.rd HM.out
      have hbl := HR1.out.lt
      subst e1
      go_region
      have hg2 := grown_then (grown_then HG1.out (World.grownBy_alloc w1 (.cells #[.int .i64 m.k, .int .i64 m.p, .string m.t] 99) none) (by simp)) (grown_drewN _ 1 none) (by simp)
      have hr2 := (HR1.out.kept (World.grownBy_alloc w1 (.cells #[.int .i64 m.k, .int .i64 m.p, .string m.t] 99) none)).kept (grown_drewN _ 1 none)
      have hb2 : ((w1.alloc (.cells #[.int .i64 m.k, .int .i64 m.p, .string m.t] 99)).drewN 1).heap[w1.heap.size]? = some (.cells #[.int .i64 m.k, .int .i64 m.p, .string m.t] 99 (0, 0)) := World.alloc_heap_new w1 _
      rw [show (w1.alloc (.cells #[.int .i64 m.k, .int .i64 m.p, .string m.t] 99)).drew = (w1.alloc (.cells #[.int .i64 m.k, .int .i64 m.p, .string m.t] 99)).drewN 1 from rfl]
      have HG2 := Lib.hid hg2
      have HR2 := Lib.hid hr2
      have HB2 := Lib.hid hb2
      clear hg2 hr2 hb2 c0 c1 c2 c3 x0 x1 x2
      generalize (w1.alloc (.cells #[.int .i64 m.k, .int .i64 m.p, .string m.t] 99)).drewN 1 = w2 at *
      obtain ⟨c0, c1, c2, c3⟩ := HR2.out.cells
      have D0 : w2.cell? ⟨w1.heap.size, 0, none⟩ = some (.int .i64 m.k) := by have := HB2.out; simp [World.cell?, this]
      have D2 : w2.cell? ⟨w1.heap.size, 2, none⟩ = some (.string m.t) := by have := HB2.out; simp [World.cell?, this]
      rw [HKK.out] at D0
      go_wp2
      go_ret
      rw [HQ.out]
      obtain ⟨q1, q2, q3⟩ := atom_leaf HG2.out HR2.out ⟨3, m.t, 0⟩
      exact PRet.good q1 q2 q3
    · have HQ : Hid (pAtom E L p = ⟨true, leafF 1 ⟨#[]⟩, p + 1⟩) := by exact pAtom_em (by rw [HMK.out]; exact hk)
      have HKK := Lib.hid hk
      clear hk
      go_enter Tryz.func166, Tryz.ntmps166
      go_wp2_with (first | (go_at_call 153; refine (HK.out).mono ?_; rintro e w1 ⟨rfl, hr1, hg1⟩; have HR1 := Lib.hid hr1; have HG1 := Lib.hid hg1; clear hr1 hg1) | (go_at_call 163; refine (HB.out _).mono ?_; rintro e w' ⟨rfl, rfl⟩))
      obtain ⟨c0, c1, c2, c3⟩ := HR1.out.cells
      obtain ⟨b, off, cp, e1, l1, k1, x0, x1, x2⟩ := RdMk.at HR1.out.rd HM.out
      have hbl := HR1.out.lt
      subst e1
      go_region
      have hg2 := grown_then (grown_then HG1.out (World.grownBy_alloc w1 (.cells #[.int .i64 m.k, .int .i64 m.p, .string m.t] 99) none) (by simp)) (grown_drewN _ 1 none) (by simp)
      have hr2 := (HR1.out.kept (World.grownBy_alloc w1 (.cells #[.int .i64 m.k, .int .i64 m.p, .string m.t] 99) none)).kept (grown_drewN _ 1 none)
      have hb2 : ((w1.alloc (.cells #[.int .i64 m.k, .int .i64 m.p, .string m.t] 99)).drewN 1).heap[w1.heap.size]? = some (.cells #[.int .i64 m.k, .int .i64 m.p, .string m.t] 99 (0, 0)) := World.alloc_heap_new w1 _
      rw [show (w1.alloc (.cells #[.int .i64 m.k, .int .i64 m.p, .string m.t] 99)).drew = (w1.alloc (.cells #[.int .i64 m.k, .int .i64 m.p, .string m.t] 99)).drewN 1 from rfl]
      have HG2 := Lib.hid hg2
      have HR2 := Lib.hid hr2
      have HB2 := Lib.hid hb2
      clear hg2 hr2 hb2 c0 c1 c2 c3 x0 x1 x2
      generalize (w1.alloc (.cells #[.int .i64 m.k, .int .i64 m.p, .string m.t] 99)).drewN 1 = w2 at *
      obtain ⟨c0, c1, c2, c3⟩ := HR2.out.cells
      have D0 : w2.cell? ⟨w1.heap.size, 0, none⟩ = some (.int .i64 m.k) := by have := HB2.out; simp [World.cell?, this]
      have D2 : w2.cell? ⟨w1.heap.size, 2, none⟩ = some (.string m.t) := by have := HB2.out; simp [World.cell?, this]
      rw [HKK.out] at D0
      go_wp2
      go_ret
      rw [HQ.out]
      obtain ⟨q1, q2, q3⟩ := atom_leaf HG2.out HR2.out ⟨1, ⟨#[]⟩, 0⟩
      exact PRet.good q1 q2 q3
    · have HQ : Hid _ := pAtom_op (E := E) (L := L) (p := p) (by rw [HMK.out]; exact hk)
      have HKK := Lib.hid hk
      clear hk
      go_enter Tryz.func166, Tryz.ntmps166
      go_wp2_with (first | (go_at_call 153; refine (HK.out).mono ?_; rintro e w1 ⟨rfl, hr1, hg1⟩; have HR1 := Lib.hid hr1; have HG1 := Lib.hid hg1; clear hr1 hg1) | (go_at_call 163; refine (HB.out _).mono ?_; rintro e w' ⟨rfl, rfl⟩))
      obtain ⟨c0, c1, c2, c3⟩ := HR1.out.cells
      obtain ⟨b, off, cp, e1, l1, k1, x0, x1, x2⟩ := RdMk.at HR1.out.rd HM.out
      have hbl := HR1.out.lt
      subst e1
      go_region
      have hg2 := grown_then (grown_then HG1.out (World.grownBy_alloc w1 (.cells #[.int .i64 m.k, .int .i64 m.p, .string m.t] 99) none) (by simp)) (grown_drewN _ 1 none) (by simp)
      have hr2 := (HR1.out.kept (World.grownBy_alloc w1 (.cells #[.int .i64 m.k, .int .i64 m.p, .string m.t] 99) none)).kept (grown_drewN _ 1 none)
      have hb2 : ((w1.alloc (.cells #[.int .i64 m.k, .int .i64 m.p, .string m.t] 99)).drewN 1).heap[w1.heap.size]? = some (.cells #[.int .i64 m.k, .int .i64 m.p, .string m.t] 99 (0, 0)) := World.alloc_heap_new w1 _
      rw [show (w1.alloc (.cells #[.int .i64 m.k, .int .i64 m.p, .string m.t] 99)).drew = (w1.alloc (.cells #[.int .i64 m.k, .int .i64 m.p, .string m.t] 99)).drewN 1 from rfl]
      have HG2 := Lib.hid hg2
      have HR2 := Lib.hid hr2
      have HB2 := Lib.hid hb2
      clear hg2 hr2 hb2 c0 c1 c2 c3 x0 x1 x2
      generalize (w1.alloc (.cells #[.int .i64 m.k, .int .i64 m.p, .string m.t] 99)).drewN 1 = w2 at *
      obtain ⟨c0, c1, c2, c3⟩ := HR2.out.cells
      have D0 : w2.cell? ⟨w1.heap.size, 0, none⟩ = some (.int .i64 m.k) := by have := HB2.out; simp [World.cell?, this]
      have D2 : w2.cell? ⟨w1.heap.size, 2, none⟩ = some (.string m.t) := by have := HB2.out; simp [World.cell?, this]
      rw [HKK.out] at D0
      go_wp2_with fail
      have hr3 := HR2.out.step (p + 1)
      have hg3 := grown_then (grown_none (row := some Br) HG2.out) (grown_set w2 Br 1 (.int .i64 ((p + 1 : Nat) : Int))) (by simp)
      rw [show ((p : Int) + 1) = ((p + 1 : Nat) : Int) from by omega]
      have HR3 := Lib.hid hr3
      have HG3 := Lib.hid hg3
      have hq := hE (by omega)
      clear hr3 hg3 c0 c1 c2 c3 D0 D2 HB2 HG2 HR2
      generalize w2.setCell ⟨Br, 1, none⟩ (.int .i64 ((p + 1 : Nat) : Int)) = w3 at *
      refine (HEh.out w3 HR3.out (by omega)).mono ?_
      generalize E (p + 1) = r at *
      obtain ⟨ok, f, q⟩ := r
      rintro e w4 ⟨hg4, ⟨hok, v, rfl, ho, hr4⟩ | ⟨hok, rfl⟩⟩
      · simp only at hok ho hr4 hq
        subst hok
        have HG4 := Lib.hid (HG3.out.trans hg4)
        have HO := Lib.hid (ho.lower HG3.out.size)
        have HK4 := Lib.hid (xKind_any Br _ L q en w4 hr4 hq)
        have HR4 := Lib.hid hr4
        clear hg4 ho hr4
        by_cases hc : kd L q = 11
        · have hql := kd_lt (L := L) (p := q) (by omega)
          have HQ2 : Hid (pAtom E L p = ⟨true, f, q + 1⟩) := by unfold Hid; rw [HQ.out]; simp [hc]
          rw [hc] at HK4
          clear HQ hc
          go_wp2_with (go_at_call 153; refine (HK4.out).mono ?_; rintro e w5 ⟨rfl, hr5, hg5⟩; have HR5 := Lib.hid hr5; have HG5 := Lib.hid hg5; clear hr5 hg5; obtain ⟨c0, c1, c2, c3⟩ := HR5.out.cells)
          go_ret
          rw [HQ2.out]
          refine PRet.good (grown_then (grown_then HG4.out HG5.out (by simp)) (grown_set w5 Br 1 _) (by simp)) ?_ (HR5.out.step (q + 1))
          exact (HO.out.grown HG5.out (by simp)).grown (grown_set w5 Br 1 _) (fun j hj => by simp at hj; subst hj; exact HR.out.lt)
        · have HQ2 : Hid (pAtom E L p = ⟨false, .nil, q⟩) := by unfold Hid; rw [HQ.out]; simp [hc]
          have hc' : (kd L q != 11) = true := by simpa using hc
          clear HQ hc
          generalize kd L q = k2 at *
          go_wp2_with (first | (go_at_call 153; refine (HK4.out).mono ?_; rintro e w5 ⟨rfl, hr5, hg5⟩; have HR5 := Lib.hid hr5; have HG5 := Lib.hid hg5; clear hr5 hg5) | (go_at_call 129; refine (xFail_any Br _ L q en _ HR5.out hq).mono ?_; rintro e w6 ⟨rfl, hg6⟩))
          refine ⟨rfl, ?_⟩
          rw [HQ2.out]
          exact PRet.bad (grown_then (grown_then HG4.out HG5.out (by simp)) hg6 (by simp))
      · simp only at hok
        subst hok
        have HQ2 : Hid (pAtom E L p = ⟨false, f, q⟩) := by unfold Hid; rw [HQ.out]; simp
        go_wp2_with fail
        refine ⟨rfl, ?_⟩
        rw [HQ2.out]
        exact PRet.bad (HG3.out.trans hg4)
  · have hb' : beginsI (kd L p) = false := by simpa using hb
    rw [pAtom_no hb']
    have HB : Hid (∀ w, Calls Tryz.prog 163 #[.int .i64 (kd L p)] w fun e w' => e = .returned (.bool false) ∧ w = w') := by
      intro w; rw [← hb']; exact xBegins_any _ _
    clear hb hb'
    generalize kd L p = k at *
    go_enter Tryz.func166, Tryz.ntmps166
    go_wp2_with (first | (go_at_call 153; refine (HK.out).mono ?_; rintro e w1 ⟨rfl, hr1, hg1⟩; have HR1 := Lib.hid hr1; have HG1 := Lib.hid hg1; clear hr1 hg1) | (go_at_call 163; refine (HB.out _).mono ?_; rintro e w' ⟨rfl, rfl⟩) | (go_at_call 129; refine (xFail_any Br vl L p en _ HR1.out hp).mono ?_; rintro e w2 ⟨rfl, hg2⟩))
    exact ⟨rfl, PRet.bad (grown_then (grown_none HG1.out) hg2 (by simp))⟩
end Go.Proofs.YtkmjmfcanlknjaaGreat
namespace Go.Proofs.YtkmjmfcanlknjaaGreat
open Go.RowKit Go.Shelf

theorem pMany_rel {L : List Mk} {S : Nat → Option PR} {k : Int} {R : Nat → Nat → Prop} (hr : ∀ p, R p p) (ht : ∀ a b c, R a b → R b c → R a c) (hS : ∀ p r, p ≤ L.length → S p = some r → r.ok = true → R p r.p ∧ r.p ≤ L.length) :
    ∀ (m p : Nat) (f : Fo) (n : Nat), p ≤ L.length → (pMany S k m p f n).ok = true → R p (pMany S k m p f n).p
  | 0, p, f, n, hp, _ => hr p
  | m + 1, p, f, n, hp, h => by
    unfold pMany at h ⊢
    cases hs : S p with
    | none => exact hr p
    | some r =>
      rw [hs] at h
      simp only at h ⊢
      cases hok : r.ok with
      | false => rw [hok, if_neg (by simp)] at h; rw [hok] at h; cases h
      | true =>
        rw [hok, if_pos rfl] at h
        rw [if_pos rfl]
        have h1 := hS p r hp hs hok
        exact ht _ _ _ h1.1 (pMany_rel hr ht hS m r.p (f.app r.f) (n + 1) h1.2 h)
theorem sPart_some {E : Nat → PR} {L : List Mk} {q : Nat} {r : PR} (h : sPart E L q = some r) : beginsI (kd L q) = true ∧ r = pUnit E L q := by
  unfold sPart at h
  split at h
  · rename_i hb; simp only [Option.some.injEq] at h; exact ⟨hb, h.symm⟩
  · cases h
theorem sExpr_some {E : Nat → PR} {L : List Mk} {q : Nat} {r : PR} (h : sExpr E L q = some r) : kd L q = 6 ∧ r = pPart E L (q + 1) := by
  unfold sExpr at h
  split at h
  · rename_i hb; simp only [Option.some.injEq] at h; exact ⟨hb, h.symm⟩
  · cases h
theorem unit_ns {E : Nat → PR} {L : List Mk} {i : Nat} {fu : Fo} {qu : Nat} (hi : i ≤ L.length) (hB : ∀ q, q ≤ L.length → PB L q (E q)) (hE : ∀ q, NS L q (E q)) (h : pUnit E L i = ⟨true, fu, qu⟩) : Ne L i qu ∧ Scn L i qu := by
  obtain ⟨fa, pa, U⟩ := unit_uf hi hB h
  exact U.ne (hE _)
theorem part_ns {E : Nat → PR} {L : List Mk} {i : Nat} {f : Fo} {q : Nat} (hi : i ≤ L.length) (hB : ∀ q, q ≤ L.length → PB L q (E q)) (hE : ∀ q, NS L q (E q)) (h : pPart E L i = ⟨true, f, q⟩) : Ne L i q ∧ Scn L i q := by
  unfold pPart at h
  have HU := pUnit_b (E := E) hi (fun h => hB _ h)
  generalize hr : pUnit E L i = r at *
  obtain ⟨ok, f0, q0⟩ := r
  cases ok with
  | false => simp at h
  | true =>
    simp only [if_true] at h
    have h0 := unit_ns hi hB hE hr
    have := pMany_rel (L := L) (S := sPart E L) (k := 4) (R := fun a b => Ne L a b ∧ Scn L a b) (fun p => ⟨Ne.refl _ _, .refl _⟩) (fun a b c h k => ⟨h.1.trans k.1, h.2.trans k.2⟩) (fun p r hp hs hok => by
      obtain ⟨_, rfl⟩ := sPart_some hs
      have G := pUnit_b (E := E) hp (fun h => hB _ h)
      refine ⟨?_, G.le⟩
      refine unit_ns hp hB hE (fu := (pUnit E L p).f) ?_
      generalize pUnit E L p = r2 at *
      obtain ⟨o2, f2, q2⟩ := r2
      simp only at hok; subst hok; rfl) (L.length - q0) q0 f0 1 HU.le (by rw [h])
    rw [h] at this
    exact ⟨h0.1.trans this.1, h0.2.trans this.2⟩
theorem exprS_ns {E : Nat → PR} {L : List Mk} {i : Nat} (hi : i ≤ L.length) (hB : ∀ q, q ≤ L.length → PB L q (E q)) (hE : ∀ q, NS L q (E q)) : NS L i (pExprS E L i) := by
  refine ⟨fun hok => ?_⟩
  unfold pExprS at hok ⊢
  have HU := pPart_b (E := E) hi (fun q _ h => hB q h)
  generalize hr : pPart E L i = r at *
  obtain ⟨ok, f0, q0⟩ := r
  cases ok with
  | false => simp at hok
  | true =>
    simp only [if_true] at hok ⊢
    have h0 := part_ns hi hB hE hr
    refine h0.1.trans (pMany_rel (L := L) (S := sExpr E L) (k := 5) (R := fun a b => Ne L a b) (fun p => Ne.refl _ _) (fun a b c h k => h.trans k) (fun p r hp hs hok => ?_) (L.length - q0) q0 f0 1 HU.le hok)
    obtain ⟨h6, rfl⟩ := sExpr_some hs
    have hlt := kd_lt (L := L) (p := p) (by omega)
    have G := pPart_b (E := E) (p := p + 1) hlt (fun q _ h => hB q h)
    refine ⟨(Ne.step (by omega) (by omega) hlt).trans ?_, G.le⟩
    refine (part_ns hlt hB hE (f := (pPart E L (p + 1)).f) ?_).1
    generalize pPart E L (p + 1) = r2 at *
    obtain ⟨o2, f2, q2⟩ := r2
    simp only at hok; subst hok; rfl
theorem pExpr_ns (L : List Mk) : ∀ (n p : Nat), NS L p (pExpr L n p)
  | 0, p => ⟨fun h => by simp [pExpr] at h⟩
  | n + 1, p => by
    by_cases hp : p ≤ L.length
    · exact exprS_ns hp (fun q hq => pExpr_b L n q hq) (fun q => pExpr_ns L n q)
    · -- behind all marks nothing is read
      refine ⟨fun h => ?_⟩
      have hk : kd L p = 0 := kd_none (by omega)
      have e : pExpr L (n + 1) p = ⟨false, .nil, p⟩ := by
        show pExprS _ _ _ = _
        unfold pExprS pPart pUnit pAtom
        rw [hk]; simp [beginsI]
      rw [e] at h; cases h

/-- a piece of the tokens, read -/
structure TkS (w : World) (v : Value) (L : List Mk) (p q : Nat) : Prop where
  lt : p < q
  le : q ≤ L.length
  ex : ∃ b off cap, v = .slice (some ⟨b, off, none⟩) (q - p) cap ∧ q - p ≤ cap ∧ b < w.heap.size ∧ ∀ i m, p + i < q → L[p + i]? = some m → w.cell? ⟨b, off + i * 3, none⟩ = some (.int .u8 (tkB m.k)) ∧ w.cell? ⟨b, off + i * 3 + 2, none⟩ = some (.string m.t)
theorem TkS.below {w w' : World} {v : Value} {L : List Mk} {p q : Nat} (h : TkS w v L p q) (hb : Below w.heap.size w w') : TkS w' v L p q := by
  obtain ⟨b, off, cap, e, h1, h2, h3⟩ := h.ex
  refine ⟨h.lt, h.le, b, off, cap, e, h1, by have := hb.size; omega, fun i m hi hm => ?_⟩
  obtain ⟨k1, k2⟩ := h3 i m hi hm
  exact ⟨(hb.cell (p := ⟨b, _, none⟩) h2).trans k1, (hb.cell (p := ⟨b, _, none⟩) h2).trans k2⟩
theorem TkS.sub {w : World} {b off cap n : Nat} {L : List Mk} {p q : Nat} (h : TkS w (.slice (some ⟨b, off, none⟩) n cap) L p q) (i j : Nat) (hij : i < j) (hj : p + j ≤ q) : TkS w (.slice (some ⟨b, off + i * 3, none⟩) (j - i) (cap - i)) L (p + i) (p + j) := by
  obtain ⟨b', off', cap', e, h1, h2, h3⟩ := h.ex
  simp only [Value.slice.injEq, Option.some.injEq, Addr.mk.injEq] at e
  obtain ⟨⟨rfl, rfl, -⟩, rfl, rfl⟩ := e
  have := h.le
  refine ⟨by omega, by omega, b, off + i * 3, cap - i, by rw [show p + j - (p + i) = j - i from by omega], by omega, h2, fun x m hx hm => ?_⟩
  obtain ⟨k1, k2⟩ := h3 (i + x) m (by omega) (by rw [show p + (i + x) = p + i + x from by omega]; exact hm)
  rw [show off + i * 3 + x * 3 = off + (i + x) * 3 from by omega]
  exact ⟨k1, k2⟩
theorem tk_ne (k c d : Int) (h1 : 1 ≤ k) (h2 : k ≤ 12) (hd : tkB d = c) (hd1 : 1 ≤ d) (hd2 : d ≤ 12) (hk : k ≠ d) : (tkB k == c) = false := by
  subst hd
  obtain rfl | rfl | rfl | rfl | rfl | rfl | rfl | rfl | rfl | rfl | rfl | rfl : k = 1 ∨ k = 2 ∨ k = 3 ∨ k = 4 ∨ k = 5 ∨ k = 6 ∨ k = 7 ∨ k = 8 ∨ k = 9 ∨ k = 10 ∨ k = 11 ∨ k = 12 := by omega
  all_goals
    obtain rfl | rfl | rfl | rfl | rfl | rfl | rfl | rfl | rfl | rfl | rfl | rfl : d = 1 ∨ d = 2 ∨ d = 3 ∨ d = 4 ∨ d = 5 ∨ d = 6 ∨ d = 7 ∨ d = 8 ∨ d = 9 ∨ d = 10 ∨ d = 11 ∨ d = 12 := by omega
    all_goals first | rfl | exact absurd rfl hk
theorem tk40 : tkB 10 = 40 := rfl
theorem tk41 : tkB 11 = 41 := rfl

set_option maxRecDepth 100000 in
set_option maxHeartbeats 1600000 in
theorem rClose_any (v : Value) (L : List Mk) (p q a j : Nat) (w : World) (h : TkS w v L p q) (hK : ∀ m ∈ L, 1 ≤ m.k ∧ m.k ≤ 12) (hl : L.length < 4294967296) (ha : kd L (p + a) = 10) (hc : Cl L (p + a + 1) 1 (p + j)) (hj : p + j < q) :
    Calls Tryz.prog 116 #[v, .int .i64 a] w fun e w' => e = .returned (.int .i64 j) ∧ w = w' := by
  obtain ⟨b, off, cap, rfl, hcap, hb, hcs⟩ := h.ex
  have hlt := h.lt
  have hle := h.le
  have HCS := Lib.hid hcs
  have HK := Lib.hid hK
  have hcl := hc.le
  have HC := Lib.hid hc
  have HA := Lib.hid ha
  clear hcs hK hc ha h
  go_enter Tryz.func116, Tryz.ntmps116
  go_wp2
  go_loop [5, 6] (fun o i => ∃ (n x : Nat), o = .int .i64 n ∧ i = .int .i64 x ∧ x ≤ j ∧ a ≤ x ∧ n ≤ x ∧ Hid ((x = a ∧ n = 0) ∨ Cl L (p + x) n (p + j))) (fun _ i => j + 1 - (intOf i).toNat)
  case atStart => exact ⟨0, a, rfl, rfl, by omega, Nat.le_refl _, by omega, .inl ⟨rfl, rfl⟩⟩
  case round =>
    obtain ⟨n, x, rfl, rfl, hxj, hax, hnx, HX⟩ := hrel
    have hxl : p + x < L.length := by omega
    obtain ⟨m, hm⟩ : ∃ m, L[p + x]? = some m := ⟨_, List.getElem?_eq_getElem hxl⟩
    obtain ⟨X0, -⟩ := HCS.out x m (by omega) hm
    have hk := HK.out m (List.mem_of_getElem? hm)
    have HKd : Hid (kd L (p + x) = m.k) := kd_some hm
    clear hm
    have hcase : Hid ((m.k = 10 ∧ Cl L (p + x + 1) (n + 1) (p + j)) ∨ (m.k = 11 ∧ n = 1 ∧ x = j) ∨ (∃ n', m.k = 11 ∧ n = n' + 2 ∧ Cl L (p + x + 1) (n' + 1) (p + j)) ∨ (m.k ≠ 10 ∧ m.k ≠ 11 ∧ 1 ≤ n ∧ Cl L (p + x + 1) n (p + j))) := by
      rcases HX.out with ⟨rfl, rfl⟩ | hcx
      · exact .inl ⟨by rw [← HKd.out]; exact HA.out, HC.out⟩
      · generalize hi : p + x = i at *
        generalize hy : p + j = y at *
        cases hcx with
        | here h => exact .inr (.inl ⟨by rw [← HKd.out]; exact h, rfl, by omega⟩)
        | down h h2 => exact .inr (.inr (.inl ⟨_, by rw [← HKd.out]; exact h, rfl, h2⟩))
        | up h h2 => exact .inl ⟨by rw [← HKd.out]; exact h, h2⟩
        | other h1 h2 h3 h4 => exact .inr (.inr (.inr ⟨by rw [← HKd.out]; exact h1, by rw [← HKd.out]; exact h2, by omega, h4⟩))
    clear HX HKd
    rcases hcase.out with ⟨h1, h2⟩ | ⟨h1, h2, h3⟩ | ⟨n', h1, h2, h3⟩ | ⟨h1, h2, h3, h4⟩
    · rw [h1, tk40] at X0
      have H2 := Lib.hid h2
      have hl2 := h2.le
      clear hcase h1 h2 hk
      go_wp2
      go_round
      case rel => exact ⟨n + 1, x + 1, by go_num, by go_num, by omega, by omega, by omega, .inr H2.out⟩
      case measure => simp [intOf]; omega
    · subst h2
      subst h3
      rw [h1, tk41] at X0
      clear hcase h1 hk
      go_wp2
      go_ret
      exact ⟨rfl, rfl⟩
    · rw [h1, tk41] at X0
      subst h2
      have H2 := Lib.hid h3
      have hl2 := h3.le
      clear hcase h1 h3 hk
      have hn0 : (((n' + 2 : Nat) : Int) - 1 == 0) = false := by simp; omega
      go_wp2
      go_round
      case rel => exact ⟨n' + 1, x + 1, by go_num, by go_num, by omega, by omega, by omega, .inr H2.out⟩
      case measure => simp [intOf]; omega
    · have t1 := tk_ne m.k 40 10 hk.1 hk.2 rfl (by decide) (by decide) h1
      have t2 := tk_ne m.k 41 11 hk.1 hk.2 rfl (by decide) (by decide) h2
      have H2 := Lib.hid h4
      have hl2 := h4.le
      clear hcase h1 h2 h4 hk
      generalize tkB m.k = c at *
      go_wp2
      go_round
      case rel => exact ⟨n, x + 1, rfl, by go_num, by omega, by omega, by omega, .inr H2.out⟩
      case measure => simp [intOf]; omega
end Go.Proofs.YtkmjmfcanlknjaaGreat
namespace Go.Proofs.YtkmjmfcanlknjaaGreat
open Go.RowKit Go.Shelf

theorem own_below {w w' : World} {B : Nat} {v : Value} {l : List Nd} (h : OwnNd w B v l) (hb : Below w.heap.size w w') : OwnNd w' B v l := h.grown (grown_below hb) (by simp)
/-- what a function leaves that makes a list of nodes -/
def ERet (w : World) (l : List Nd) (e : Ending) (w' : World) : Prop := ∃ v, e = .returned v ∧ OwnNd w' w.heap.size v l ∧ Below w.heap.size w w'
theorem OwnNd.snoc {w : World} {B : Nat} {v : Value} {l : List Nd} {x : Nd} (h : w.ownsRow B 57 3 v (l.length + 1) (flatNd l ++ [.int .i64 x.k, .string x.n, .int .i64 x.c])) : OwnNd w B v (l ++ [x]) := by
  unfold OwnNd; rw [flatNd_app, List.length_append]; exact h
theorem nd_one {a b c : Value} (ha : a.oneCell' = true) (hb : b.oneCell' = true) (hc : c.oneCell' = true) : ∀ u ∈ [a, b, c], u.oneCell' = true := by
  intro u hu
  simp at hu
  rcases hu with rfl | rfl | rfl <;> assumption
theorem own_blk {w : World} {B : Nat} {v : Value} {l : List Nd} (h : OwnNd w B v l) {j : Nat} (hj : v.ownBlock = some j) : B ≤ j := own_block h j hj
theorem tk_suf {k : Int} (h : sufK k ≠ 0) : (k = 7 ∧ tkB k = 42 ∧ sufK k = 6) ∨ (k = 8 ∧ tkB k = 43 ∧ sufK k = 7) ∨ (k = 9 ∧ tkB k = 63 ∧ sufK k = 8) := by
  rcases suf_cases h with rfl | rfl | rfl
  · exact .inl ⟨rfl, rfl, rfl⟩
  · exact .inr (.inl ⟨rfl, rfl, rfl⟩)
  · exact .inr (.inr ⟨rfl, rfl, rfl⟩)

set_option maxRecDepth 100000 in
set_option maxHeartbeats 3200000 in
theorem rUnit_any (E : Nat → PR) (v : Value) (L : List Mk) (p q pa : Nat) (fu fa : Fo) (w : World) (h : TkS w v L p q) (U : UF E L p fu q fa pa) (hl : L.length < 16777216) (hfs : fa.flat.length ≤ 33554432) (hf1 : 0 < fa.flat.length)
    (HT : kd L p = 10 → ∀ v w, TkS w v L (p + 1) (pa - 1) → Calls Tryz.prog 89 #[v] w (ERet w fa.flat)) :
    Calls Tryz.prog 131 #[v, .int .i64 ((pa - p : Nat) : Int)] w (ERet w fu.flat) := by
  have HS := Lib.hid h
  obtain ⟨b, off, cap, rfl, hcap, hb, hcs⟩ := h.ex
  have hlt := h.lt
  have hle := h.le
  have h1 := U.lt
  have h2 := U.le
  have HU := Lib.hid U
  have HCS := Lib.hid hcs
  have HTr := Lib.hid HT
  obtain ⟨n, hn⟩ : ∃ n, n = q - p := ⟨_, rfl⟩
  obtain ⟨a, ha⟩ : ∃ a, a = pa - p := ⟨_, rfl⟩
  rw [← hn] at HS hcap ⊢
  rw [← ha]
  have hna : a ≤ n := by omega
  have ha1 : 1 ≤ a := by omega
  have hnl : n < 16777216 := by omega
  have HN : Hid (n = q - p) := hn
  have HAa : Hid (a = pa - p) := ha
  have hpn : p + n = q := by omega
  have hpa : p + a = pa := by omega
  clear hcs HT U h hn ha
  have hn1 : ((n : Int) - 1) = ((n - 1 : Nat) : Int) := by omega
  have HN1 := Lib.hid hn1
  clear hn1
  have hd : decide (n < a) = false := by simp; omega
  go_enter Tryz.func131, Tryz.ntmps131
  go_wp2
  rw [HN1.out]
  go_loopw [5, 6] (fun o i wr => ∃ (y : Nat) (lo : List Nd), i = .int .i64 y ∧ a ≤ y + 1 ∧ y + 1 ≤ n ∧ OwnNd wr w.heap.size o lo ∧ Hid (lo.length ≤ n) ∧ Hid (Below w.heap.size w wr) ∧ Hid (sufN L pa (n - a) = lo ++ sufN L pa (y + 1 - a) ∧ lo.length + (y + 1 - a) = n - a)) (fun _ i _ => (intOf i).toNat + 1 - a)
  case atStart => exact ⟨n - 1, [], rfl, by omega, by omega, World.ownsRow_nil _ _ _ _, by simp [Hid], Below.refl _ _, by rw [show n - 1 + 1 - a = n - a from by omega]; exact ⟨rfl, by simp⟩⟩
  case round =>
    obtain ⟨y, lo, rfl, hy1, hy2, hown, HLn, HBel, HSuf⟩ := hrel
    have hlo : lo.length ≤ n := HLn.out
    by_cases hay : a ≤ y
    · have hxl : p + y < L.length := by omega
      obtain ⟨m, hm⟩ : ∃ m, L[p + y]? = some m := ⟨_, List.getElem?_eq_getElem hxl⟩
      obtain ⟨x0, -⟩ := HCS.out y m (by omega) hm
      have X0 := (HBel.out.cell (p := ⟨b, _, none⟩) hb).trans x0
      have hk := HU.out.suf (p + y) (by omega) (by omega)
      have hkd : kd L (p + y) = m.k := kd_some hm
      rw [hkd] at hk
      obtain ⟨c, hc⟩ : ∃ c, c = sufK m.k := ⟨_, rfl⟩
      have HSuf2 : Hid (sufN L pa (n - a) = (lo ++ [⟨c, ⟨#[]⟩, 1⟩]) ++ sufN L pa (y - 1 + 1 - a) ∧ (lo ++ [(⟨c, ⟨#[]⟩, 1⟩ : Nd)]).length + (y - 1 + 1 - a) = n - a) := by
        have e : y + 1 - a = (y - a) + 1 := by omega
        obtain ⟨s1, s2⟩ := HSuf.out
        rw [e] at s1
        refine ⟨?_, by simp; omega⟩
        rw [s1]
        show lo ++ (⟨sufK (kd L (pa + (y - a))), ⟨#[]⟩, 1⟩ :: sufN L pa (y - a)) = _
        rw [show pa + (y - a) = p + y from by omega, hkd, ← hc, show y - 1 + 1 - a = y - a from by omega]
        simp
      have hy3 : ((y : Int) - 1) = ((y - 1 : Nat) : Int) := by omega
      have HY3 := Lib.hid hy3
      clear x0 hm hkd HSuf hy3
      have hws := HBel.out.size
      rcases tk_suf hk with ⟨-, t1, t2⟩ | ⟨-, t1, t2⟩ | ⟨-, t1, t2⟩
      all_goals
        rw [t1] at X0
        rw [t2] at hc
        subst hc
        clear hk t1 t2
        go_wp2_with (at_builtin; go_must (refine wpList_appG1 elemNd rfl _ _ rfl hown rfl (news := [.int .i64 _, .string ⟨#[]⟩, .int .i64 1]) rfl rfl (nd_one rfl rfl rfl) (by unfold maxLen; omega) (by omega) hws ?_); intro v' w3 hown3 hg3)
        have HO3 := Lib.hid (OwnNd.snoc (l := lo) (x := ⟨_, ⟨#[]⟩, 1⟩) hown3)
        have HB3 : Hid (Below w.heap.size w w3) := HBel.out.grown hg3 hws (fun j hj => own_blk hown hj)
        clear hown3 hg3
        rw [HY3.out]
        go_roundw
        case rel => exact ⟨y - 1, _, rfl, by omega, by omega, HO3.out, by unfold Hid; rw [List.length_append]; simp; have := HSuf2.out.2; simp at this; omega, HB3.out, HSuf2.out⟩
        case measure => simp [intOf]; omega
    · have hya : y + 1 - a = 0 := by omega
      have HSuf2 : Hid (fu.flat = lo ++ fa.flat) := by
        obtain ⟨s1, s2⟩ := HSuf.out
        unfold Hid
        rw [HU.out.flat, show q - pa = n - a from by omega, s1, hya]
        simp [sufN]
      have h0l : p < L.length := by omega
      obtain ⟨m, hm⟩ : ∃ m, L[p]? = some m := ⟨_, List.getElem?_eq_getElem h0l⟩
      obtain ⟨x0, x2⟩ := HCS.out 0 m (by omega) hm
      rw [Nat.zero_mul, Nat.add_zero] at x0 x2
      have X0 := (HBel.out.cell (p := ⟨b, _, none⟩) hb).trans x0
      have X2 := (HBel.out.cell (p := ⟨b, _, none⟩) hb).trans x2
      have hkd : kd L p = m.k := kd_some hm
      have htx : tx L p = m.t := tx_some hm
      have hws := HBel.out.size
      have hcase := begins_cases HU.out.beg
      rw [hkd] at hcase
      have HKd := Lib.hid hkd
      have HTx := Lib.hid htx
      clear x0 x2 hm HSuf hkd htx hya
      rcases hcase with hk | hk | hk | hk
      · have HF : Hid (fu.flat = lo ++ [⟨2, m.t, 0⟩]) := by unfold Hid; rw [HSuf2.out, HU.out.lf1 (by rw [HKd.out]; exact hk), HTx.out]
        rw [hk, show tkB 1 = 85 from rfl] at X0
        clear hk HSuf2
        go_wp2_with (at_builtin; go_must (refine wpList_appG1 elemNd rfl _ _ rfl hown rfl (news := [.int .i64 2, .string m.t, .int .i64 0]) rfl rfl (nd_one rfl rfl rfl) (by unfold maxLen; omega) (by omega) hws ?_); intro v' w3 hown3 hg3)
        go_ret
        rw [HF.out]
        exact ⟨v', rfl, OwnNd.snoc hown3, HBel.out.grown hg3 hws (fun j hj => own_blk hown hj)⟩
      · have HF : Hid (fu.flat = lo ++ [⟨3, m.t, 0⟩]) := by unfold Hid; rw [HSuf2.out, HU.out.lf2 (by rw [HKd.out]; exact hk), HTx.out]
        rw [hk, show tkB 2 = 76 from rfl] at X0
        clear hk HSuf2
        go_wp2_with (at_builtin; go_must (refine wpList_appG1 elemNd rfl _ _ rfl hown rfl (news := [.int .i64 3, .string m.t, .int .i64 0]) rfl rfl (nd_one rfl rfl rfl) (by unfold maxLen; omega) (by omega) hws ?_); intro v' w3 hown3 hg3)
        go_ret
        rw [HF.out]
        exact ⟨v', rfl, OwnNd.snoc hown3, HBel.out.grown hg3 hws (fun j hj => own_blk hown hj)⟩
      · have HF : Hid (fu.flat = lo ++ [⟨1, ⟨#[]⟩, 0⟩]) := by unfold Hid; rw [HSuf2.out, HU.out.lf3 (by rw [HKd.out]; exact hk)]
        rw [hk, show tkB 12 = 37 from rfl] at X0
        clear hk HSuf2
        go_wp2_with (at_builtin; go_must (refine wpList_appG1 elemNd rfl _ _ rfl hown rfl (news := [.int .i64 1, .string ⟨#[]⟩, .int .i64 0]) rfl rfl (nd_one rfl rfl rfl) (by unfold maxLen; omega) (by omega) hws ?_); intro v' w3 hown3 hg3)
        go_ret
        rw [HF.out]
        exact ⟨v', rfl, OwnNd.snoc hown3, HBel.out.grown hg3 hws (fun j hj => own_blk hown hj)⟩
      · obtain ⟨u1, u2, u3, u4⟩ := HU.out.brk (by rw [HKd.out]; exact hk)
        rw [hk, show tkB 10 = 40 from rfl] at X0
        have HS3 : Hid (∀ wx, Below w.heap.size w wx → TkS wx (.slice (some ⟨b, off + 3, none⟩) (a - 1 - 1) (cap - 1)) L (p + 1) (pa - 1)) := by
          intro wx hbx
          have := (HS.out.below hbx).sub 1 (a - 1) (by omega) (by omega)
          rw [show p + (a - 1) = pa - 1 from by omega, Nat.one_mul] at this
          exact this
        have HT2 := Lib.hid (HTr.out (by rw [HKd.out]; exact hk) _ _ (HS3.out _ HBel.out))
        have ha2 : 3 ≤ a := by omega
        clear hk u1 u2 u3 u4
        go_wp2_with fail
        refine (HT2.out).mono ?_
        rintro e w3 ⟨v3, rfl, ho3, hb3⟩
        obtain ⟨gb, gc, rfl, hgB, hgl, hgc, hcs3⟩ := own_src ho3 hf1
        have HCS3 := Lib.hid hcs3
        have hown3 := own_below hown hb3
        have HB3 : Hid (Below w.heap.size w w3) := HBel.out.trans (hb3.mono hws)
        have hws3 : w.heap.size ≤ w3.heap.size := HB3.out.size
        clear hcs3 ho3 hb3 HCS
        go_wp2_with (at_builtin; go_must (refine wpList_appG elemNd rfl _ _ rfl hown3 rfl (news := flatNd fa.flat) rfl (flatNd_len _) HCS3.out (flatNd_one _) (by unfold maxLen; omega) (by omega) hws3 ?_); intro v' w4 hown4 hg4)
        go_ret
        rw [HSuf2.out]
        refine ⟨v', rfl, ?_, HB3.out.grown hg4 hws3 (fun j hj => own_blk hown3 hj)⟩
        show World.ownsRow _ _ _ _ _ _ _
        rw [flatNd_app, List.length_append]; exact hown4
end Go.Proofs.YtkmjmfcanlknjaaGreat
