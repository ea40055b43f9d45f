/- The walks and facts that the laws lean on, part 1. No condition of its own: each theorem tells its own. -/
import Derived.Test.YtfmcbpnhpckmjaaGreatProg
import Derived.WalkKit
import Derived.WalkSpells
import Derived.WalkLawsBesides
import Derived.BigQuiet
import Derived.Deep.QuietTactic
import Derived.Lib.Hide
import Derived.WalkMore
import Derived.Deep.DeepMust
import Derived.Deep.DeepFit
import Derived.Deep.Upon
import Derived.Maps.AppendAt
import Derived.StillTailTactics
import Derived.RangeFuncNested
import Derived.RangeFuncBound
import Derived.RangeFuncCalls
import Derived.RangeFuncLeaves
import Derived.Shelf.Abstract
import Derived.Shelf.RegionOpen
import Derived.OwnWalkIn
import Derived.TacticsInMore
import Derived.LoopNIn
import Derived.LoopIn
import Derived.Laws.OwnMore
import Derived.ArgAppend
import Derived.Sort.QuietIn
import Derived.Deep.RegionHeld3
import Derived.Deep.DeepCutAuto
import Derived.RangeFuncBox
import Derived.Defers
import Derived.Recover
import Derived.Lib.Join
namespace Go.Proofs.YtfmcbpnhpckmjaaGreat
open Go.RowKit

def blankI (c : Int) : Bool := c == 32 || c == 9 || c == 10 || c == 13
def innerI (c : Int) : Bool := (97 ≤ c && c ≤ 122) || (65 ≤ c && c ≤ 90) || (48 ≤ c && c ≤ 57) || c == 95
def kindI (c : Int) : Int :=
  if c == 61 then 4 else if c == 59 then 5 else if c == 124 then 6 else if c == 42 then 7 else if c == 43 then 8 else if c == 63 then 9
  else if c == 40 then 10 else if c == 41 then 11 else if c == 37 then 12
  else if 65 ≤ c && c ≤ 90 then 1 else if 97 ≤ c && c ≤ 122 then 2 else if innerI c then 3 else 0

/-- the byte at a place -/
def bt (s : ByteArray) (k : Nat) : Int := ((s.data.toList.getD k 0).toNat : Int)
theorem bt_get (s : ByteArray) (k : Nat) (h : k < s.size) : ((s[k].toNat : Nat) : Int) = bt s k := by
  have h2 : k < s.data.toList.length := by simpa using h
  unfold bt
  rw [List.getD_eq_getElem?_getD, List.getElem?_eq_getElem h2]; rfl
def skipL (l : List UInt8) : Nat := (l.takeWhile fun c => blankI c.toNat).length
def wordL (l : List UInt8) : Nat := (l.takeWhile fun c => innerI c.toNat).length
/-- the first place from k on that holds no blank -/
def skipTo (s : ByteArray) (k : Nat) : Nat := k + skipL (s.data.toList.drop k)
def wordTo (s : ByteArray) (k : Nat) : Nat := k + wordL (s.data.toList.drop k)
theorem tw_le {α} (p : α → Bool) (l : List α) : (l.takeWhile p).length ≤ l.length := (List.takeWhile_sublist p).length_le
theorem skipTo_le (s : ByteArray) (k : Nat) (h : k ≤ s.size) : skipTo s k ≤ s.size := by
  have := tw_le (fun c : UInt8 => blankI c.toNat) (s.data.toList.drop k)
  have e : s.data.toList.length = s.size := by simp
  unfold skipTo skipL; rw [List.length_drop] at this; omega
theorem wordTo_le (s : ByteArray) (k : Nat) (h : k ≤ s.size) : wordTo s k ≤ s.size := by
  have := tw_le (fun c : UInt8 => innerI c.toNat) (s.data.toList.drop k)
  have e : s.data.toList.length = s.size := by simp
  unfold wordTo wordL; rw [List.length_drop] at this; omega
theorem drop_cons (s : ByteArray) (k : Nat) (h : k < s.size) : s.data.toList.drop k = s[k] :: s.data.toList.drop (k + 1) := by
  have h2 : k < s.data.toList.length := by simpa using h
  rw [List.drop_eq_getElem_cons h2]; rfl
theorem skipTo_yes (s : ByteArray) (k : Nat) (h : k < s.size) (hb : blankI (bt s k) = true) : skipTo s k = skipTo s (k + 1) := by
  rw [← bt_get s k h] at hb
  unfold skipTo skipL; rw [drop_cons s k h, List.takeWhile_cons_of_pos (by simpa using hb)]; simp; omega
theorem skipTo_no (s : ByteArray) (k : Nat) (h : k < s.size) (hb : blankI (bt s k) = false) : skipTo s k = k := by
  rw [← bt_get s k h] at hb
  unfold skipTo skipL; rw [drop_cons s k h, List.takeWhile_cons_of_neg (by simpa using hb)]; simp
theorem skipTo_end (s : ByteArray) (k : Nat) (h : s.size ≤ k) : skipTo s k = k := by
  unfold skipTo skipL; rw [List.drop_eq_nil_of_le (by simpa using h)]; simp
theorem wordTo_yes (s : ByteArray) (k : Nat) (h : k < s.size) (hb : innerI (bt s k) = true) : wordTo s k = wordTo s (k + 1) := by
  rw [← bt_get s k h] at hb
  unfold wordTo wordL; rw [drop_cons s k h, List.takeWhile_cons_of_pos (by simpa using hb)]; simp; omega
theorem wordTo_no (s : ByteArray) (k : Nat) (h : k < s.size) (hb : innerI (bt s k) = false) : wordTo s k = k := by
  rw [← bt_get s k h] at hb
  unfold wordTo wordL; rw [drop_cons s k h, List.takeWhile_cons_of_neg (by simpa using hb)]; simp
theorem wordTo_end (s : ByteArray) (k : Nat) (h : s.size ≤ k) : wordTo s k = k := by
  unfold wordTo wordL; rw [List.drop_eq_nil_of_le (by simpa using h)]; simp

structure Mk where
  k : Int
  p : Nat
  t : ByteArray
  deriving DecidableEq
def Mk.cells (m : Mk) : List Value := [.int .i64 m.k, .int .i64 m.p, .string m.t]
def Mk.val (m : Mk) : Value := .agg #[.int .i64 m.k, .int .i64 m.p, .string m.t]
/-- the mark that begins at a place that holds no blank -/
def markAt (s : ByteArray) (a : Nat) : Mk :=
  if a < s.size ∧ kindI (bt s a) ≠ 0 then
    ⟨kindI (bt s a), a, s.extract a (if kindI (bt s a) ≤ 3 then wordTo s (a + 1) else a + 1)⟩
  else ⟨0, a, ByteArray.empty⟩
def nextM (s : ByteArray) (k : Nat) : Mk := markAt s (skipTo s k)


theorem bt_lt (s : ByteArray) (k : Nat) : 0 ≤ bt s k ∧ bt s k < 256 := by
  unfold bt; have := (s.data.toList.getD k 0).toNat_lt; omega

def cutF : Nat → ByteArray → Nat → List Mk × Nat
  | 0, _, k => ([], k)
  | n + 1, s, k =>
    if (nextM s k).k = 0 then ([], (nextM s k).p)
    else ((nextM s k) :: (cutF n s ((nextM s k).p + (nextM s k).t.size)).1, (cutF n s ((nextM s k).p + (nextM s k).t.size)).2)
def cut (s : ByteArray) (k : Nat) : List Mk × Nat := cutF (s.size + 1 - k) s k

theorem nextM_p (s : ByteArray) (k : Nat) : (nextM s k).p = skipTo s k := by
  unfold nextM markAt; split <;> rfl
theorem skipTo_ge (s : ByteArray) (k : Nat) : k ≤ skipTo s k := by unfold skipTo; omega
theorem wordTo_ge (s : ByteArray) (k : Nat) : k ≤ wordTo s k := by unfold wordTo; omega
theorem markAt_size (s : ByteArray) (a : Nat) (h : (markAt s a).k ≠ 0) : 1 ≤ (markAt s a).t.size ∧ a + (markAt s a).t.size ≤ s.size ∧ a < s.size := by
  unfold markAt at h ⊢
  split at h
  · rename_i hc
    rw [if_pos hc]
    have h1 := wordTo_ge s (a + 1)
    have h2 := wordTo_le s (a + 1) (by omega)
    show 1 ≤ (s.extract a _).size ∧ a + (s.extract a _).size ≤ _ ∧ _
    rw [ByteArray.size_extract]
    split <;> omega
  · exact absurd rfl h
theorem nextM_size (s : ByteArray) (k : Nat) (h : (nextM s k).k ≠ 0) :
    1 ≤ (nextM s k).t.size ∧ (nextM s k).p + (nextM s k).t.size ≤ s.size ∧ k ≤ (nextM s k).p := by
  have := markAt_size s (skipTo s k) h
  have h2 := skipTo_ge s k
  rw [nextM_p]; unfold nextM; omega
theorem cutF_more (s : ByteArray) : ∀ (n m k : Nat), k ≤ s.size → s.size + 1 - k ≤ n → s.size + 1 - k ≤ m → cutF n s k = cutF m s k
  | 0, _, k, h, h1, _ => by omega
  | _, 0, k, h, _, h1 => by omega
  | n + 1, m + 1, k, h, h1, h2 => by
    unfold cutF
    split
    · rfl
    · rename_i hk
      have hz := nextM_size s k hk
      rw [cutF_more s n m _ hz.2.1 (by omega) (by omega)]
theorem cut_none (s : ByteArray) (k : Nat) (hk : k ≤ s.size) (h : (nextM s k).k = 0) : cut s k = ([], (nextM s k).p) := by
  unfold cut; rw [show s.size + 1 - k = (s.size - k) + 1 from by omega]; unfold cutF; rw [if_pos h]
theorem cut_some (s : ByteArray) (k : Nat) (hk : k ≤ s.size) (h : (nextM s k).k ≠ 0) :
    cut s k = (nextM s k :: (cut s ((nextM s k).p + (nextM s k).t.size)).1, (cut s ((nextM s k).p + (nextM s k).t.size)).2) := by
  have hz := nextM_size s k h
  have e : cutF (s.size - k) s ((nextM s k).p + (nextM s k).t.size) = cut s ((nextM s k).p + (nextM s k).t.size) :=
    cutF_more s _ _ _ hz.2.1 (by omega) (Nat.le_refl _)
  show cutF (s.size + 1 - k) s k = _
  rw [show s.size + 1 - k = (s.size - k) + 1 from by omega]; unfold cutF; rw [if_neg h, e]
theorem nextM_blank (s : ByteArray) (k : Nat) (h : k < s.size) (hb : blankI (bt s k) = true) : nextM s k = nextM s (k + 1) := by
  unfold nextM; rw [skipTo_yes s k h hb]
theorem cut_blank (s : ByteArray) (k : Nat) (h : k < s.size) (hb : blankI (bt s k) = true) : cut s k = cut s (k + 1) := by
  have e := nextM_blank s k h hb
  by_cases hz : (nextM s k).k = 0
  · rw [cut_none s k (by omega) hz, cut_none s (k + 1) (by omega) (by rw [← e]; exact hz), e]
  · rw [cut_some s k (by omega) hz, cut_some s (k + 1) (by omega) (by rw [← e]; exact hz), e]
theorem cut_end (s : ByteArray) : cut s s.size = ([], s.size) := by
  have e : nextM s s.size = ⟨0, s.size, ByteArray.empty⟩ := by unfold nextM markAt; rw [skipTo_end s _ (Nat.le_refl _), if_neg (by omega)]
  rw [cut_none s _ (Nat.le_refl _) (by rw [e]), e]
theorem cut_bad (s : ByteArray) (k : Nat) (h : k < s.size) (hb : blankI (bt s k) = false) (hk : kindI (bt s k) = 0) : cut s k = ([], k) := by
  have e : nextM s k = ⟨0, k, ByteArray.empty⟩ := by unfold nextM markAt; rw [skipTo_no s _ h hb, if_neg (by simp [hk])]
  rw [cut_none s _ (by omega) (by rw [e]), e]
/-- where a mark ends that begins at a place -/
def endM (s : ByteArray) (k : Nat) : Nat := if kindI (bt s k) ≤ 3 then wordTo s (k + 1) else k + 1
theorem endM_b (s : ByteArray) (k : Nat) (h : k < s.size) : k < endM s k ∧ endM s k ≤ s.size := by
  have h1 := wordTo_ge s (k + 1)
  have h2 := wordTo_le s (k + 1) (by omega)
  unfold endM; split <;> omega
theorem cut_good (s : ByteArray) (k : Nat) (h : k < s.size) (hb : blankI (bt s k) = false) (hk : kindI (bt s k) ≠ 0) :
    cut s k = (⟨kindI (bt s k), k, s.extract k (endM s k)⟩ :: (cut s (endM s k)).1, (cut s (endM s k)).2) := by
  have e : nextM s k = ⟨kindI (bt s k), k, s.extract k (endM s k)⟩ := by unfold nextM markAt endM; rw [skipTo_no s _ h hb, if_pos ⟨h, hk⟩]
  have hz := endM_b s k h
  have e2 : (nextM s k).p + (nextM s k).t.size = endM s k := by
    rw [e]; show k + (s.extract k _).size = _; rw [ByteArray.size_extract]; omega
  rw [cut_some s k (by omega) (by rw [e]; exact hk), e2, e]
theorem cut_len (s : ByteArray) : ∀ (n k : Nat), k ≤ s.size → s.size - k ≤ n → (cut s k).1.length ≤ s.size - k ∧ k ≤ (cut s k).2 ∧ (cut s k).2 ≤ s.size
  | n, k, h, hn => by
    by_cases hz : (nextM s k).k = 0
    · rw [cut_none s k h hz, nextM_p]; simp; exact ⟨skipTo_ge s k, skipTo_le s k h⟩
    · have h1 := nextM_size s k hz
      cases n with
      | zero => omega
      | succ n =>
        have := cut_len s n ((nextM s k).p + (nextM s k).t.size) (by omega) (by omega)
        rw [cut_some s k h hz]; simp; omega

end Go.Proofs.YtfmcbpnhpckmjaaGreat
namespace Go.Proofs.YtfmcbpnhpckmjaaGreat
open Go.RowKit

theorem wrap64_small (x : Int) (h0 : 0 ≤ x) (h : x ≤ 4294967296) : wrap64 x = x := by
  refine IntWalk.wrap64_in x ⟨?_, ?_⟩ <;> omega

/-! ### blocks -/
theorem below1 (w : World) (o : Obj) : Below w.heap.size w (w.alloc o) := (Below.refl _ _).alloc (Nat.le_refl _) o
theorem below2 (w : World) (o o' : Obj) : Below w.heap.size w ((w.alloc o).alloc o') := (below1 w o).alloc (by simp) o'
theorem below3 (w : World) (o o' o'' : Obj) : Below w.heap.size w (((w.alloc o).alloc o').alloc o'') := (below2 w o o').alloc (by simp; omega) o''
theorem below4 (w : World) (o o' o'' p : Obj) : Below w.heap.size w ((((w.alloc o).alloc o').alloc o'').alloc p) := (below3 w o o' o'').alloc (by simp; omega) p

theorem cells_new (w : World) (xs : List Value) (t : TypeId) : ∀ j u, xs[j]? = some u → (w.alloc (.cells xs.toArray t)).cell? ((⟨w.heap.size, 0, none⟩ : Addr).add j) = some u := by
  intro j u h
  rw [Addr.add_lit, Nat.zero_add, World.cell?_alloc_at _ _ _ _ rfl]
  simpa using h

/-- what append asks of the program's tables -/
structure ElemOK (P : Program) (t e : TypeId) (size bytes : Nat) : Prop where
  ex : ∃ i z, P.underlying t = some (.slice e) ∧ P.info? e = some i ∧ i.zero = some z ∧ i.size = size ∧ i.bytes = bytes ∧ z.cells.size = size ∧ 0 < size

theorem ElemOK.mk' {P : Program} {t e : TypeId} {z : Value} {size bytes : Nat} (ht : P.underlying t = some (.slice e)) (h : (P.info? e).map (fun i => (i.zero, i.size, i.bytes)) = some (some z, size, bytes))
    (hz : z.cells.size = size) (hs : 0 < size) : ElemOK P t e size bytes := by
  obtain ⟨i, hi, h1, h2, h3⟩ := info_parts h
  exact ⟨i, z, ht, hi, h1, h2, h3, hz, hs⟩

/-- 'append(out, x)' of one new element to a row of the call's own -/
theorem wpList_app1 {P : Program} {t e : TypeId} {size bytes : Nat} (hE : ElemOK P t e size bytes) {B : Nat} {w0 wr : World} {ops : Array Oper} {rest : List Oper} {o : Oper} {a : Act} {Q : Exit → Act → World → Prop} (hgd : o.guard = none) (s x : Operand)
    (ho : o.op = .call { callee := .builtin .append, args := #[s, x], argTypes := #[t, t] })
    {v : Value} {n : Nat} {xs : List Value} (hown : wr.ownsRow B e size v n xs) (hs : a.eval s = v)
    {news : List Value} (hx : a.eval x = .slice (some ⟨wr.heap.size, 0, none⟩) 1 1) (hl : news.length = size) (h1 : ∀ u ∈ news, u.oneCell' = true)
    (hn : n < 4294967296) (hby : bytes ≤ 16384) (hb : Below B w0 wr) (hB : B ≤ w0.heap.size)
    (h : ∀ v' w', w'.ownsRow B e size v' (n + 1) (xs ++ news) → Below B w0 w' → (∃ g cap, v' = .slice (some ⟨g, 0, none⟩) (n + 1) cap) → wpList P ops Q rest (a.put o.dst v') w') :
    wpList P ops Q (o :: rest) a (wr.alloc (.cells news.toArray e)) := by
  obtain ⟨i, z, ht, hi, hz, hz1, hz2, hz3, hz4⟩ := hE.ex
  have hbs := hb.size
  refine wpList_append_own (P := P) _ hgd s x t ho B e i z size bytes ht hi hz hz1 hz2 hz3 hz4 v n xs hs (hown.alloc _) ⟨wr.heap.size, 0, none⟩ 1 1 news hx (by omega) (cells_new wr news e) h1 (by unfold maxLen; omega) ?_ (by simp; omega) ?_
  · have : (n + 1) * bytes ≤ 4294967296 * 16384 := Nat.mul_le_mul (by omega) hby
    omega
  · intro v' w' hown' hg hnil
    refine h v' w' hown' ((hb.alloc (by omega) _).grown hg (by simp; omega) (fun k hk => (hown.lt k hk).1)) ?_
    rcases hown'.2 with ⟨h, h'⟩ | ⟨g, cap, _, h, _⟩
    · omega
    · exact ⟨g, cap, h⟩

/-! ### a slice's elements, read -/
/-- the slice value v reads as n elements of size cells each, whose cells are xs -/
def Rd (w : World) (v : Value) (n size : Nat) (xs : List Value) : Prop :=
  xs.length = n * size ∧ ∃ ao cap, v = .slice ao n cap ∧ n ≤ cap ∧ cap ≤ maxLen ∧
    (n = 0 ∨ ∃ b off, ao = some ⟨b, off, none⟩ ∧ b < w.heap.size ∧ ∀ j u, xs[j]? = some u → w.cell? ⟨b, off + j, none⟩ = some u)

theorem Rd.nil (w : World) (size : Nat) : Rd w (.slice none 0 0) 0 size [] := ⟨by simp, none, 0, rfl, by omega, by simp, .inl rfl⟩

theorem Rd.mono {w w' : World} {v : Value} {n size : Nat} {xs : List Value} (h : Rd w v n size xs) (hk : ∀ b o, b < w.heap.size → w'.cell? ⟨b, o, none⟩ = w.cell? ⟨b, o, none⟩) (hs : w.heap.size ≤ w'.heap.size) : Rd w' v n size xs := by
  obtain ⟨h1, ao, cap, h2, h3, h4, h5⟩ := h
  refine ⟨h1, ao, cap, h2, h3, h4, h5.imp id ?_⟩
  rintro ⟨b, off, h6, h7, h8⟩
  exact ⟨b, off, h6, by omega, fun j u hj => by rw [hk _ _ h7]; exact h8 j u hj⟩

theorem Rd.below {w w' : World} {v : Value} {n size : Nat} {xs : List Value} (h : Rd w v n size xs) (hb : Below w.heap.size w w') : Rd w' v n size xs :=
  h.mono (fun _ _ hlt => hb.cell (p := ⟨_, _, none⟩) hlt) hb.size

theorem Rd.alloc {w : World} {v : Value} {n size : Nat} {xs : List Value} (h : Rd w v n size xs) (o : Obj) : Rd (w.alloc o) v n size xs := h.below (below1 w o)

theorem Rd.of_owns {w : World} {B : Nat} {e : TypeId} {v : Value} {n size : Nat} {xs : List Value} (h : w.ownsRow B e size v n xs) : Rd w v n size xs := by
  refine ⟨h.1, ?_⟩
  rcases h.2 with ⟨h2, h3⟩ | ⟨g, cap, cur, h2, h3, h4, h5, h6, h7, h8⟩
  · subst h3; exact ⟨none, 0, h2, by omega, by simp, .inl rfl⟩
  · refine ⟨some ⟨g, 0, none⟩, cap, h2, h5, h6, .inr ⟨g, 0, rfl, ?_, ?_⟩⟩
    · exact (Array.getElem?_eq_some_iff.1 h4).1
    · intro j u hj
      have := h.cells (g := g) (by rw [h2]; rfl) j u hj
      simpa [Addr.add_lit] using this

/-- the cells of element i -/
theorem Rd.at {w : World} {v : Value} {n size : Nat} {xs : List Value} (h : Rd w v n size xs) {i : Nat} (hi : i < n) :
    ∃ b off cap, v = .slice (some ⟨b, off, none⟩) n cap ∧ b < w.heap.size ∧ n ≤ cap ∧ ∀ j u, xs[j]? = some u → w.cell? ⟨b, off + j, none⟩ = some u := by
  obtain ⟨_, ao, cap, h2, h3, h4, h5⟩ := h
  rcases h5 with h5 | ⟨b, off, h6, h7, h8⟩
  · omega
  · exact ⟨b, off, cap, by rw [h2, h6], h7, h3, h8⟩

end Go.Proofs.YtfmcbpnhpckmjaaGreat
namespace Go.Proofs.YtfmcbpnhpckmjaaGreat
open Go.RowKit
end Go.Proofs.YtfmcbpnhpckmjaaGreat
namespace Go.Proofs.YtfmcbpnhpckmjaaGreat
open Go.RowKit
def flatMk (l : List Mk) : List Value := l.flatMap Mk.cells
theorem flatMk_snoc (l : List Mk) (m : Mk) : flatMk (l ++ [m]) = flatMk l ++ m.cells := by simp [flatMk]
end Go.Proofs.YtfmcbpnhpckmjaaGreat
namespace Go.Proofs.YtfmcbpnhpckmjaaGreat
open Go.RowKit

/-! ### plain: nodes, forests -/
structure Nd where
  k : Int
  n : ByteArray
  c : Int
  deriving DecidableEq
def Nd.cells (x : Nd) : List Value := [.int .i64 x.k, .string x.n, .int .i64 x.c]
def Nd.val (x : Nd) : Value := .agg #[.int .i64 x.k, .string x.n, .int .i64 x.c]
def flatNd (l : List Nd) : List Value := l.flatMap Nd.cells
/-- a list of trees: a node, its kids, the trees behind it -/
inductive Fo where
  | nil : Fo
  | cons (x : Nd) (kids rest : Fo) : Fo
def Fo.flat : Fo → List Nd
  | .nil => []
  | .cons x k r => x :: (k.flat ++ r.flat)
def Fo.len : Fo → Nat
  | .nil => 0
  | .cons _ _ r => r.len + 1
def Fo.size : Fo → Nat
  | .nil => 0
  | .cons _ k r => k.size + r.size + 1
def Fo.app : Fo → Fo → Fo
  | .nil, g => g
  | .cons x k r, g => .cons x k (r.app g)
def Fo.wf : Fo → Prop
  | .nil => True
  | .cons x k r => x.c = k.len ∧ k.wf ∧ r.wf
theorem Fo.flat_app (f g : Fo) : (f.app g).flat = f.flat ++ g.flat := by
  induction f with
  | nil => rfl
  | cons x k r _ ih => simp [Fo.app, Fo.flat, ih]
theorem Fo.len_app (f g : Fo) : (f.app g).len = f.len + g.len := by
  induction f with
  | nil => simp [Fo.app, Fo.len]
  | cons x k r _ ih => simp [Fo.app, Fo.len, ih]; omega
theorem Fo.size_app (f g : Fo) : (f.app g).size = f.size + g.size := by
  induction f with
  | nil => simp [Fo.app, Fo.size]
  | cons x k r _ ih => simp [Fo.app, Fo.size, ih]; omega
theorem Fo.flat_len (f : Fo) : f.flat.length = f.size := by
  induction f with
  | nil => rfl
  | cons x k r ih1 ih2 => simp [Fo.flat, Fo.size, ih1, ih2]
theorem Fo.wf_app (f g : Fo) (hf : f.wf) (hg : g.wf) : (f.app g).wf := by
  induction f with
  | nil => exact hg
  | cons x k r _ ih => exact ⟨hf.1, hf.2.1, ih hf.2.2⟩
theorem Fo.len_le (f : Fo) : f.len ≤ f.size := by
  induction f with
  | nil => simp [Fo.len, Fo.size]
  | cons x k r _ ih => simp [Fo.len, Fo.size]; omega
def leafF (k : Int) (t : ByteArray) : Fo := .cons ⟨k, t, 0⟩ .nil .nil
def wrapF (k : Int) (n : Nat) (f : Fo) : Fo := if n = 1 then f else .cons ⟨k, ⟨#[]⟩, n⟩ f .nil

/-! ### plain: reading an expression out of marks -/
def kd (L : List Mk) (p : Nat) : Int := match L[p]? with | some m => m.k | none => 0
def tx (L : List Mk) (p : Nat) : ByteArray := match L[p]? with | some m => m.t | none => ⟨#[]⟩
theorem kd_some {L : List Mk} {p : Nat} {m : Mk} (h : L[p]? = some m) : kd L p = m.k := by unfold kd; rw [h]
theorem tx_some {L : List Mk} {p : Nat} {m : Mk} (h : L[p]? = some m) : tx L p = m.t := by unfold tx; rw [h]
theorem kd_none {L : List Mk} {p : Nat} (h : L.length ≤ p) : kd L p = 0 := by unfold kd; rw [List.getElem?_eq_none h]
theorem kd_lt {L : List Mk} {p : Nat} (h : kd L p ≠ 0) : p < L.length := by
  rcases Nat.lt_or_ge p L.length with h1 | h1
  · exact h1
  · exact absurd (kd_none h1) h
def beginsI (k : Int) : Bool := k == 1 || k == 2 || k == 12 || k == 10
theorem begins_cases {k : Int} (h : beginsI k = true) : k = 1 ∨ k = 2 ∨ k = 12 ∨ k = 10 := by
  simp [beginsI] at h; omega
theorem begins_lt {L : List Mk} {p : Nat} (h : beginsI (kd L p) = true) : p < L.length := by
  refine kd_lt ?_
  rcases begins_cases h with h | h | h | h <;> omega
/-- what is read: a tree and the place behind it; or the place where it goes wrong -/
structure PR where
  ok : Bool
  f : Fo
  p : Nat
def pAtom (E : Nat → PR) (L : List Mk) (p : Nat) : PR :=
  if beginsI (kd L p) then
    if kd L p = 1 then ⟨true, leafF 2 (tx L p), p + 1⟩
    else if kd L p = 2 then ⟨true, leafF 3 (tx L p), p + 1⟩
    else if kd L p = 12 then ⟨true, leafF 1 ⟨#[]⟩, p + 1⟩
    else if (E (p + 1)).ok then (if kd L (E (p + 1)).p = 11 then ⟨true, (E (p + 1)).f, (E (p + 1)).p + 1⟩ else ⟨false, .nil, (E (p + 1)).p⟩)
    else E (p + 1)
  else ⟨false, .nil, p⟩
def sufK (k : Int) : Int := if k = 7 then 6 else if k = 8 then 7 else if k = 9 then 8 else 0
def pSuf (L : List Mk) : Nat → Nat → Fo → PR
  | 0, p, f => ⟨true, f, p⟩
  | m + 1, p, f => if sufK (kd L p) = 0 then ⟨true, f, p⟩ else pSuf L m (p + 1) (.cons ⟨sufK (kd L p), ⟨#[]⟩, 1⟩ f .nil)
def pUnit (E : Nat → PR) (L : List Mk) (p : Nat) : PR :=
  if (pAtom E L p).ok then pSuf L (L.length - (pAtom E L p).p) (pAtom E L p).p (pAtom E L p).f else pAtom E L p
def pMany (S : Nat → Option PR) (k : Int) : Nat → Nat → Fo → Nat → PR
  | 0, p, f, n => ⟨true, wrapF k n f, p⟩
  | m + 1, p, f, n =>
    match S p with
    | none => ⟨true, wrapF k n f, p⟩
    | some r => if r.ok then pMany S k m r.p (f.app r.f) (n + 1) else r
def sPart (E : Nat → PR) (L : List Mk) (q : Nat) : Option PR := if beginsI (kd L q) then some (pUnit E L q) else none
def pPart (E : Nat → PR) (L : List Mk) (p : Nat) : PR :=
  if (pUnit E L p).ok then pMany (sPart E L) 4 (L.length - (pUnit E L p).p) (pUnit E L p).p (pUnit E L p).f 1 else pUnit E L p
def sExpr (E : Nat → PR) (L : List Mk) (q : Nat) : Option PR := if kd L q = 6 then some (pPart E L (q + 1)) else none
def pExprS (E : Nat → PR) (L : List Mk) (p : Nat) : PR :=
  if (pPart E L p).ok then pMany (sExpr E L) 5 (L.length - (pPart E L p).p) (pPart E L p).p (pPart E L p).f 1 else pPart E L p
def pExpr (L : List Mk) : Nat → Nat → PR
  | 0, p => ⟨false, .nil, p⟩
  | n + 1, p => pExprS (pExpr L n) L p

/-- the bounds of what is read from p on -/
structure PB (L : List Mk) (p : Nat) (r : PR) : Prop where
  le : r.p ≤ L.length
  ge : p ≤ r.p
  lt : r.ok = true → p < r.p
  size : r.ok = true → r.f.size + 1 ≤ 2 * (r.p - p)
  one : r.ok = true → r.f.len = 1
  wf : r.ok = true → r.f.wf
theorem wrap_ok (k : Int) (n : Nat) (f : Fo) (hn : f.len = n) (hf : f.wf) : (wrapF k n f).len = 1 ∧ (wrapF k n f).wf ∧ (wrapF k n f).size ≤ f.size + (if n = 1 then 0 else 1) := by
  unfold wrapF
  split
  · rename_i h; subst h; exact ⟨hn, hf, by simp⟩
  · exact ⟨rfl, ⟨by simp [hn], hf, trivial⟩, by simp [Fo.size]⟩
theorem leaf_ok (k : Int) (t : ByteArray) : (leafF k t).len = 1 ∧ (leafF k t).wf ∧ (leafF k t).size = 1 := ⟨rfl, ⟨rfl, trivial, trivial⟩, rfl⟩
theorem pAtom_b {E : Nat → PR} {L : List Mk} {p : Nat} (hp : p ≤ L.length) (hE : p + 1 ≤ L.length → PB L (p + 1) (E (p + 1))) : PB L p (pAtom E L p) := by
  unfold pAtom
  split
  · rename_i hb
    have hlt := begins_lt hb
    have leaf : ∀ k t, PB L p ⟨true, leafF k t, p + 1⟩ := fun k t => ⟨by simp; omega, by simp, by simp, by simp [leaf_ok], fun _ => rfl, fun _ => (leaf_ok k t).2.1⟩
    split
    · exact leaf _ _
    · split
      · exact leaf _ _
      · split
        · exact leaf _ _
        · have H := hE (by omega)
          have h1 := H.le
          have h2 := H.ge
          split
          · rename_i hok
            have h3 := H.lt hok
            have h4 := H.size hok
            split
            · rename_i hc
              have := kd_lt (L := L) (p := (E (p + 1)).p) (by omega)
              exact ⟨by simp only; omega, by simp only; omega, by simp only; omega, by simp only; omega, fun _ => H.one hok, fun _ => H.wf hok⟩
            · exact ⟨h1, by simp only; omega, by simp, by simp, by simp, by simp⟩
          · rename_i hok
            exact ⟨h1, by omega, fun h => absurd h hok, fun h => absurd h hok, fun h => absurd h hok, fun h => absurd h hok⟩
  · exact ⟨hp, Nat.le_refl _, by simp, by simp, by simp, by simp⟩
theorem sufK_lt {L : List Mk} {p : Nat} (h : sufK (kd L p) ≠ 0) : p < L.length := by
  refine kd_lt ?_
  intro h0; rw [h0] at h; exact h rfl
theorem pSuf_b {L : List Mk} {p0 : Nat} : ∀ (m p : Nat) (f : Fo), PB L p0 ⟨true, f, p⟩ → PB L p0 (pSuf L m p f)
  | 0, p, f, h => h
  | m + 1, p, f, h => by
    unfold pSuf
    split
    · exact h
    · rename_i hs
      have hlt := sufK_lt hs
      have h3 := h.lt rfl
      have h4 := h.size rfl
      have h5 := h.one rfl
      simp only at h3 h4
      refine pSuf_b m (p + 1) _ ⟨hlt, by simp only; omega, fun _ => by simp only; omega, fun _ => ?_, fun _ => rfl, fun _ => ⟨by simp [h5], h.wf rfl, trivial⟩⟩
      simp only [Fo.size]; omega
theorem pUnit_b {E : Nat → PR} {L : List Mk} {p : Nat} (hp : p ≤ L.length) (hE : p + 1 ≤ L.length → PB L (p + 1) (E (p + 1))) : PB L p (pUnit E L p) := by
  have H := pAtom_b hp hE
  unfold pUnit
  split
  · rename_i hok
    refine pSuf_b _ _ _ ?_
    generalize pAtom E L p = r at *
    obtain ⟨o, f, q⟩ := r
    simp only at hok; subst hok; exact H
  · exact H
theorem pMany_b {L : List Mk} {p0 : Nat} {S : Nat → Option PR} {k : Int} (hS : ∀ p r, p0 < p → p ≤ L.length → S p = some r → ∃ q, p ≤ q ∧ (r.ok = false → PB L p0 r) ∧ (r.ok = true → PB L q r)) :
    ∀ (m p : Nat) (f : Fo) (n : Nat), p ≤ L.length → p0 < p → f.len = n → 1 ≤ n → f.wf → f.size + (if n = 1 then 1 else 2) ≤ 2 * (p - p0) → PB L p0 (pMany S k m p f n)
  | 0, p, f, n, h1, h2, h3, _, h4, h5 => by
    have W := wrap_ok k n f h3 h4
    unfold pMany
    refine ⟨h1, by simp only; omega, fun _ => h2, fun _ => ?_, fun _ => W.1, fun _ => W.2.1⟩
    have := W.2.2
    simp only; split at this <;> split at h5 <;> omega
  | m + 1, p, f, n, h1, h2, h3, h0, h4, h5 => by
    have W := wrap_ok k n f h3 h4
    unfold pMany
    cases hs : S p with
    | none =>
      refine ⟨h1, by simp only; omega, fun _ => h2, fun _ => ?_, fun _ => W.1, fun _ => W.2.1⟩
      have := W.2.2
      simp only; split at this <;> split at h5 <;> omega
    | some r =>
      obtain ⟨q, hq, hbad, hgood⟩ := hS p r h2 h1 hs
      simp only
      cases hok : r.ok with
      | false => rw [if_neg (by simp)]; exact hbad hok
      | true =>
        rw [if_pos rfl]
        have G := hgood hok
        have g1 := G.lt hok
        have g2 := G.size hok
        have g3 := G.one hok
        refine pMany_b hS m r.p _ (n + 1) G.le (by omega) (by rw [Fo.len_app, h3, g3]) (by omega) (Fo.wf_app _ _ h4 (G.wf hok)) ?_
        rw [Fo.size_app, if_neg (by omega)]
        split at h5 <;> omega
theorem pPart_b {E : Nat → PR} {L : List Mk} {p : Nat} (hp : p ≤ L.length) (hE : ∀ q, p < q → q ≤ L.length → PB L q (E q)) : PB L p (pPart E L p) := by
  have H := pUnit_b (E := E) hp (fun h => hE _ (by omega) h)
  unfold pPart
  split
  · rename_i hok
    have h1 := H.lt hok
    refine pMany_b ?_ _ _ _ _ H.le h1 (H.one hok) (Nat.le_refl _) (H.wf hok) (by rw [if_pos rfl]; exact H.size hok)
    intro q r hq hq2 hs
    unfold sPart at hs
    split at hs
    · simp only [Option.some.injEq] at hs
      subst hs
      have G := pUnit_b (E := E) (p := q) hq2 (fun h => hE _ (by omega) h)
      refine ⟨q, Nat.le_refl _, fun hb => ⟨G.le, by have := G.ge; omega, ?_, ?_, ?_, ?_⟩, fun _ => G⟩ <;> (intro h; rw [hb] at h; cases h)
    · cases hs
  · exact H
theorem pExprS_b {E : Nat → PR} {L : List Mk} {p : Nat} (hp : p ≤ L.length) (hE : ∀ q, p < q → q ≤ L.length → PB L q (E q)) : PB L p (pExprS E L p) := by
  have H := pPart_b hp hE
  unfold pExprS
  split
  · rename_i hok
    have h1 := H.lt hok
    refine pMany_b ?_ _ _ _ _ H.le h1 (H.one hok) (Nat.le_refl _) (H.wf hok) (by rw [if_pos rfl]; exact H.size hok)
    intro q r hq hq2 hs
    unfold sExpr at hs
    split at hs
    · rename_i h6
      simp only [Option.some.injEq] at hs
      subst hs
      have hlt := kd_lt (L := L) (p := q) (by omega)
      have G := pPart_b (E := E) (p := q + 1) hlt (fun x hx h => hE x (by omega) h)
      refine ⟨q + 1, by omega, fun hb => ⟨G.le, by have := G.ge; omega, ?_, ?_, ?_, ?_⟩, fun _ => G⟩ <;> (intro h; rw [hb] at h; cases h)
    · cases hs
  · exact H
theorem pExpr_b (L : List Mk) : ∀ (n p : Nat), p ≤ L.length → PB L p (pExpr L n p)
  | 0, p, h => ⟨h, Nat.le_refl _, by simp [pExpr], by simp [pExpr], by simp [pExpr], by simp [pExpr]⟩
  | n + 1, p, h => pExprS_b h (fun q _ hq => pExpr_b L n q hq)
end Go.Proofs.YtfmcbpnhpckmjaaGreat
namespace Go.Proofs.YtfmcbpnhpckmjaaGreat
open Go.RowKit

/-- 'append(out, l...)' to a row of the call's own -/
theorem wpList_appAll {P : Program} {t e : TypeId} {size bytes : Nat} (hE : ElemOK P t e size bytes) {B : Nat} {w0 wr : World} {ops : Array Oper} {rest : List Oper} {o : Oper} {a : Act} {Q : Exit → Act → World → Prop} (hgd : o.guard = none) (s x : Operand)
    (ho : o.op = .call { callee := .builtin .append, args := #[s, x], argTypes := #[t, t] })
    {v : Value} {n : Nat} {xs : List Value} (hown : wr.ownsRow B e size v n xs) (hs : a.eval s = v)
    {ad : Addr} {m c : Nat} {news : List Value} (hx : a.eval x = .slice (some ad) m c) (hl : news.length = m * size) (hnews : ∀ j u, news[j]? = some u → wr.cell? (ad.add j) = some u) (h1 : ∀ u ∈ news, u.oneCell' = true)
    (hn : n + m < 4294967296) (hby : bytes ≤ 16384) (hb : Below B w0 wr) (hB : B ≤ w0.heap.size)
    (h : ∀ v' w', w'.ownsRow B e size v' (n + m) (xs ++ news) → Below B w0 w' → wpList P ops Q rest (a.put o.dst v') w') :
    wpList P ops Q (o :: rest) a wr := by
  obtain ⟨i, z, ht, hi, hz, hz1, hz2, hz3, hz4⟩ := hE.ex
  have hbs := hb.size
  refine wpList_append_own (P := P) _ hgd s x t ho B e i z size bytes ht hi hz hz1 hz2 hz3 hz4 v n xs hs hown ad m c news hx hl hnews h1 (by unfold maxLen; omega) ?_ (by omega) ?_
  · have : (n + m) * bytes ≤ 4294967296 * 16384 := Nat.mul_le_mul (by omega) hby
    omega
  · intro v' w' hown' hg _
    exact h v' w' hown' (hb.grown hg (by omega) (fun k hk => (hown.lt k hk).1))
/-- 'append(out, l...)' of nothing -/
theorem wpList_app0 {P : Program} {t e : TypeId} {size bytes : Nat} (hE : ElemOK P t e size bytes) {w : World} {ops : Array Oper} {rest : List Oper} {o : Oper} {a : Act} {Q : Exit → Act → World → Prop} (hgd : o.guard = none) (s x : Operand)
    (ho : o.op = .call { callee := .builtin .append, args := #[s, x], argTypes := #[t, t] })
    {base : Option Addr} {n c : Nat} (hs : a.eval s = .slice base n c) (hle : n ≤ c) {ao : Option Addr} {c2 : Nat} (hx : a.eval x = .slice ao 0 c2)
    (h : wpList P ops Q rest (a.put o.dst (.slice base n c)) w) : wpList P ops Q (o :: rest) a w := by
  obtain ⟨i, z, ht, hi, hz, hz1, hz2, hz3, hz4⟩ := hE.ex
  refine wpList_plain hgd fun K hK' => ?_
  have hsrc : Src P i.size t (.slice ao 0 c2) 0 [] w := by
    cases ao with
    | none => exact Src.ofNil w ht c2
    | some ad => exact Src.ofSlice w ht ad 0 c2 [] (by simp) (by simp) (by simp)
  have hrun := run_append_nothing w t t o.type e i ht hi base n c hle _ hsrc
  unfold Oper.wp
  simp [execOp, ho, resolve, invoke, builtin, hs, hx, hrun, Result.andThen]
  exact hK' _ _ h


theorem grown_drewN (w : World) (n : Nat) (row : Option Nat) : w.grownBy (w.drewN n) row := ⟨rfl, rfl, rfl, Nat.le_refl _, fun _ _ _ => rfl⟩
theorem grown_set (w : World) (b o : Nat) (v : Value) : w.grownBy (w.setCell ⟨b, o, none⟩ v) (some b) :=
  ⟨rfl, rfl, rfl, by simp [World.setCell], fun k _ hne => Below.heap_setCell _ _ _ _ (by simpa using hne)⟩
theorem grown_then {a b c : World} {row row' : Option Nat} (h : a.grownBy b row) (k : b.grownBy c row') (hr : ∀ j, row' = some j → a.heap.size ≤ j ∨ row = some j) : a.grownBy c row := by
  refine ⟨k.os.trans h.os, k.tape.trans h.tape, k.output.trans h.output, Nat.le_trans h.size k.size, fun i hi hne => ?_⟩
  rw [k.block i (Nat.lt_of_lt_of_le hi h.size) ?_, h.block i hi hne]
  intro e
  rcases hr i e.symm with h1 | h1
  · omega
  · exact hne h1.symm
theorem grown_none {a b : World} {row : Option Nat} (h : a.grownBy b none) : a.grownBy b row := ⟨h.os, h.tape, h.output, h.size, fun i hi _ => h.block i hi (by simp)⟩
theorem grown_below {a b : World} (h : Below a.heap.size a b) : a.grownBy b none := ⟨h.os, h.tape, h.output, h.size, fun i hi _ => h.block i hi⟩
theorem below_grown {a b : World} (h : a.grownBy b none) : Below a.heap.size a b := ⟨h.os, h.tape, h.output, h.size, fun i hi => h.block i hi (by simp)⟩
theorem bcell {W w1 : World} (hb : Below W.heap.size W w1) : (∀ b o, b < W.heap.size → w1.cell? ⟨b, o, none⟩ = W.cell? ⟨b, o, none⟩) ∧ (∀ b o, b < W.heap.size → w1.frozen? ⟨b, o, none⟩ = W.frozen? ⟨b, o, none⟩) :=
  ⟨fun b o h => hb.cell (p := ⟨b, o, none⟩) h, fun b o h => hb.frozen (p := ⟨b, o, none⟩) h⟩
/-- a row that the call owns, by its elements' cells -/
theorem own_src {w : World} {B : Nat} {e : TypeId} {size : Nat} {v : Value} {n : Nat} {xs : List Value} (h : w.ownsRow B e size v n xs) (hn : 0 < n) :
    ∃ g cap, v = .slice (some ⟨g, 0, none⟩) n cap ∧ B ≤ g ∧ g < w.heap.size ∧ n ≤ cap ∧ ∀ j u, xs[j]? = some u → w.cell? ((⟨g, 0, none⟩ : Addr).add j) = some u := by
  rcases h.2 with ⟨_, h2⟩ | ⟨g, cap, cur, h2, h3, h4, h5, h6, h7, h8⟩
  · omega
  · exact ⟨g, cap, h2, h3, (Array.getElem?_eq_some_iff.1 h4).1, h5, h.cells (g := g) (by rw [h2]; rfl)⟩
theorem own_block {w : World} {B : Nat} {e : TypeId} {size : Nat} {v : Value} {n : Nat} {xs : List Value} (h : w.ownsRow B e size v n xs) (j : Nat) (hj : v.ownBlock = some j) : B ≤ j := by
  rcases h.2 with ⟨rfl, _⟩ | ⟨g, cap, cur, rfl, h3, _⟩
  · simp [Value.ownBlock] at hj
  · simp [Value.ownBlock] at hj; omega
theorem own_lower {w : World} {B C : Nat} {e : TypeId} {size : Nat} {v : Value} {n : Nat} {xs : List Value} (h : w.ownsRow B e size v n xs) (hC : C ≤ B) : w.ownsRow C e size v n xs := by
  refine ⟨h.1, ?_⟩
  rcases h.2 with h | ⟨g, cap, cur, h2, h3, h4⟩
  · exact .inl h
  · exact .inr ⟨g, cap, cur, h2, by omega, h4⟩
/-- what is owned stays where only older blocks, or another row, are written -/
theorem own_grown {w w' : World} {B : Nat} {e : TypeId} {size : Nat} {v : Value} {n : Nat} {xs : List Value} {row : Option Nat} (h : w.ownsRow B e size v n xs) (hg : w.grownBy w' row) (hr : ∀ j, row = some j → j < B ∨ v.ownBlock ≠ some j) : w'.ownsRow B e size v n xs := by
  refine World.ownsRow.kept h hg ?_
  cases row with
  | none => cases hv : v.ownBlock <;> simp
  | some j =>
    right
    intro e
    rcases hr j rfl with h1 | h1
    · have := own_block h j e; omega
    · exact h1 e
/-- 'append(out, l...)' to a row of the call's own, of a row that reads -/
theorem wpList_appG {P : Program} {t e : TypeId} {size bytes : Nat} (hE : ElemOK P t e size bytes) {B : Nat} {wr : World} {ops : Array Oper} {rest : List Oper} {o : Oper} {a : Act} {Q : Exit → Act → World → Prop} (hgd : o.guard = none) (s x : Operand)
    (ho : o.op = .call { callee := .builtin .append, args := #[s, x], argTypes := #[t, t] })
    {v : Value} {n : Nat} {xs : List Value} (hown : wr.ownsRow B e size v n xs) (hs : a.eval s = v)
    {ad : Addr} {m c : Nat} {news : List Value} (hx : a.eval x = .slice (some ad) m c) (hl : news.length = m * size) (hnews : ∀ j u, news[j]? = some u → wr.cell? (ad.add j) = some u) (h1 : ∀ u ∈ news, u.oneCell' = true)
    (hm : n + m ≤ maxLen) (hn : (n + m) * bytes ≤ 140737488355328) (hB : B ≤ wr.heap.size)
    (h : ∀ v' w', w'.ownsRow B e size v' (n + m) (xs ++ news) → wr.grownBy w' v.ownBlock → wpList P ops Q rest (a.put o.dst v') w') :
    wpList P ops Q (o :: rest) a wr := by
  obtain ⟨i, z, ht, hi, hz, hz1, hz2, hz3, hz4⟩ := hE.ex
  exact wpList_append_own (P := P) _ hgd s x t ho B e i z size bytes ht hi hz hz1 hz2 hz3 hz4 v n xs hs hown ad m c news hx hl hnews h1 hm hn hB (fun v' w' hown' hg _ => h v' w' hown' hg)
/-- 'append(out, x)' of one new element -/
theorem wpList_appG1 {P : Program} {t e : TypeId} {size bytes : Nat} (hE : ElemOK P t e size bytes) {B : Nat} {wr : World} {ops : Array Oper} {rest : List Oper} {o : Oper} {a : Act} {Q : Exit → Act → World → Prop} (hgd : o.guard = none) (s x : Operand)
    (ho : o.op = .call { callee := .builtin .append, args := #[s, x], argTypes := #[t, t] })
    {v : Value} {n : Nat} {xs : List Value} (hown : wr.ownsRow B e size v n xs) (hs : a.eval s = v)
    {news : List Value} (hx : a.eval x = .slice (some ⟨wr.heap.size, 0, none⟩) 1 1) (hl : news.length = size) (h1 : ∀ u ∈ news, u.oneCell' = true)
    (hm : n + 1 ≤ maxLen) (hn : (n + 1) * bytes ≤ 140737488355328) (hB : B ≤ wr.heap.size)
    (h : ∀ v' w', w'.ownsRow B e size v' (n + 1) (xs ++ news) → wr.grownBy w' v.ownBlock → wpList P ops Q rest (a.put o.dst v') w') :
    wpList P ops Q (o :: rest) a (wr.alloc (.cells news.toArray e)) := by
  refine wpList_appG hE hgd s x ho (hown.alloc _) hs (ad := ⟨wr.heap.size, 0, none⟩) (m := 1) (c := 1) (news := news) hx (by omega) (cells_new wr news e) h1 hm hn (by simp; omega) fun v' w' h2 h3 => h v' w' h2 ?_
  exact ⟨h3.os, h3.tape, h3.output, Nat.le_trans (by simp) h3.size, fun k hk hne => (h3.block k (by simp; omega) hne).trans (Below.heap_alloc wr _ k hk)⟩
end Go.Proofs.YtfmcbpnhpckmjaaGreat
namespace Go.Proofs.YtfmcbpnhpckmjaaGreat
open Go.RowKit

/-! ### plain: Kind -/
def kindM (s : ByteArray) : Int × Bool := if (nextM s 0).k ≠ 0 ∧ (nextM s 0).t.size = s.size then ((nextM s 0).k, true) else (0, false)
theorem extract_all (s : ByteArray) (a b : Nat) (h : (s.extract a b).size = s.size) : s.extract a b = s := by
  rw [ByteArray.size_extract] at h
  by_cases hs : s.size = 0
  · apply ByteArray.ext; apply Array.ext
    · simp; have : s.data.size = 0 := hs; omega
    · intro i h1 h2; have : s.data.size = 0 := hs; omega
  · have ha : a = 0 := by omega
    have hb : s.size ≤ b := by omega
    subst ha
    apply ByteArray.ext
    rw [ByteArray.data_extract]
    exact Array.extract_eq_self_of_le hb
theorem nextM_t (s : ByteArray) (k : Nat) (h : (nextM s k).k ≠ 0) : ∃ a b, (nextM s k).t = s.extract a b := by
  unfold nextM markAt at h ⊢
  split at h
  · rename_i hc; rw [if_pos hc]; exact ⟨_, _, rfl⟩
  · exact absurd rfl h
theorem nextM_all (s : ByteArray) (h : (nextM s 0).k ≠ 0) : (nextM s 0).t = s ↔ (nextM s 0).t.size = s.size := by
  obtain ⟨a, b, e⟩ := nextM_t s 0 h
  constructor
  · intro h; rw [h]
  · intro h2; rw [e] at h2 ⊢; exact extract_all s a b h2
theorem kindM_bad (s : ByteArray) (h : (cut s 0).2 < s.size ∨ (cut s 0).1.length ≠ 1 ∨ ∃ m, (cut s 0).1[0]? = some m ∧ m.t.size ≠ s.size) : kindM s = (0, false) := by
  unfold kindM
  split
  · rename_i hc
    obtain ⟨hz, ht⟩ := hc
    exfalso
    have h1 := nextM_size s 0 hz
    have e2 : (nextM s 0).p + (nextM s 0).t.size = s.size := by omega
    rw [cut_some s 0 (by omega) hz, e2, cut_end] at h
    simp at h
    exact h ht
  · rfl
theorem kindM_good (s : ByteArray) (m : Mk) (_h1 : ¬ (cut s 0).2 < s.size) (h2 : (cut s 0).1.length = 1) (h3 : (cut s 0).1[0]? = some m) (h4 : m.t.size = s.size) : kindM s = (m.k, true) := by
  by_cases hz : (nextM s 0).k = 0
  · rw [cut_none s 0 (by omega) hz] at h2; simp at h2
  · rw [cut_some s 0 (by omega) hz] at h3
    simp at h3
    subst h3
    unfold kindM; rw [if_pos ⟨hz, h4⟩]

end Go.Proofs.YtfmcbpnhpckmjaaGreat
namespace Go.Proofs.YtfmcbpnhpckmjaaGreat
open Go.RowKit

/-! ### plain: pieces of a text -/
theorem kindI_range (c : Int) : 0 ≤ kindI c ∧ kindI c ≤ 12 := by
  unfold kindI
  repeat' split
  all_goals omega
theorem kindI_blank (c : Int) (h : kindI c ≠ 0) : blankI c = false := by
  by_cases hb : blankI c = true
  · exfalso
    simp [blankI] at hb
    apply h
    rcases hb with ((rfl | rfl) | rfl) | rfl <;> decide
  · simpa using hb
theorem kindI_word256 : ∀ n : Fin 256, kindI (n.val : Int) ≠ 0 → (kindI (n.val : Int) ≤ 3 ↔ innerI (n.val : Int) = true) := by decide +kernel
theorem kindI_word (s : ByteArray) (k : Nat) (h : kindI (bt s k) ≠ 0) : kindI (bt s k) ≤ 3 ↔ innerI (bt s k) = true := by
  have hb := bt_lt s k
  have := kindI_word256 ⟨(bt s k).toNat, by omega⟩
  simp only [show (((bt s k).toNat : Nat) : Int) = bt s k from by omega] at this
  exact this h
theorem skip_blank (s : ByteArray) : ∀ (n a q : Nat), q - a = n → a ≤ q → q < skipTo s a → blankI (bt s q) = true ∧ q < s.size := by
  intro n
  induction n with
  | zero =>
    intro a q h1 h2 h3
    obtain rfl : q = a := by omega
    by_cases hl : q < s.size
    · refine ⟨?_, hl⟩
      by_cases hb : blankI (bt s q) = true
      · exact hb
      · rw [skipTo_no s q hl (by simpa using hb)] at h3; omega
    · rw [skipTo_end s q (by omega)] at h3; omega
  | succ n ih =>
    intro a q h1 h2 h3
    by_cases hl : a < s.size
    · by_cases hb : blankI (bt s a) = true
      · rw [skipTo_yes s a hl hb] at h3
        exact ih (a + 1) q (by omega) (by omega) h3
      · rw [skipTo_no s a hl (by simpa using hb)] at h3; omega
    · rw [skipTo_end s a (by omega)] at h3; omega
theorem word_inner (s : ByteArray) : ∀ (n a q : Nat), q - a = n → a ≤ q → q < wordTo s a → innerI (bt s q) = true ∧ q < s.size := by
  intro n
  induction n with
  | zero =>
    intro a q h1 h2 h3
    obtain rfl : q = a := by omega
    by_cases hl : q < s.size
    · refine ⟨?_, hl⟩
      by_cases hb : innerI (bt s q) = true
      · exact hb
      · rw [wordTo_no s q hl (by simpa using hb)] at h3; omega
    · rw [wordTo_end s q (by omega)] at h3; omega
  | succ n ih =>
    intro a q h1 h2 h3
    by_cases hl : a < s.size
    · by_cases hb : innerI (bt s a) = true
      · rw [wordTo_yes s a hl hb] at h3
        exact ih (a + 1) q (by omega) (by omega) h3
      · rw [wordTo_no s a hl (by simpa using hb)] at h3; omega
    · rw [wordTo_end s a (by omega)] at h3; omega
theorem word_max (s : ByteArray) : ∀ (n a : Nat), s.size - a = n → wordTo s a < s.size → innerI (bt s (wordTo s a)) = false := by
  intro n
  induction n with
  | zero => intro a h h2; rw [wordTo_end s a (by omega)] at h2; omega
  | succ n ih =>
    intro a h h2
    have hl : a < s.size := by omega
    by_cases hb : innerI (bt s a) = true
    · rw [wordTo_yes s a hl hb] at h2 ⊢; exact ih (a + 1) (by omega) h2
    · rw [wordTo_no s a hl (by simpa using hb)]; simpa using hb
theorem wordTo_all (s : ByteArray) : ∀ (n a : Nat), s.size - a = n → a ≤ s.size → (∀ q, a ≤ q → q < s.size → innerI (bt s q) = true) → wordTo s a = s.size := by
  intro n
  induction n with
  | zero => intro a h h2 _; rw [wordTo_end s a (by omega)]; omega
  | succ n ih =>
    intro a h h2 h3
    rw [wordTo_yes s a (by omega) (h3 a (by omega) (by omega))]
    exact ih (a + 1) (by omega) (by omega) (fun q h4 h5 => h3 q (by omega) h5)
theorem bt_extract (s : ByteArray) (p e q : Nat) (he : e ≤ s.size) (hq : p + q < e) : bt (s.extract p e) q = bt s (p + q) := by
  have h1 : q < (s.extract p e).size := by rw [ByteArray.size_extract]; omega
  rw [← bt_get _ q h1, ← bt_get s (p + q) (by omega)]
  congr 2
  exact ByteArray.getElem_extract ..
/-- what is known of a mark that stands behind a place -/
structure MFacts (s : ByteArray) (a : Nat) (m : Mk) : Prop where
  ge : a ≤ m.p
  one : 1 ≤ m.t.size
  le : m.p + m.t.size ≤ s.size
  piece : s.extract m.p (m.p + m.t.size) = m.t
  blanks : ∀ q, a ≤ q → q < m.p → blankI (bt s q) = true
  first : kindI (bt s m.p) = m.k
  kind : kindM m.t = (m.k, true)
  lo : 1 ≤ m.k
  hi : m.k ≤ 12
  sign : 3 < m.k → m.t.size = 1
  word : m.k ≤ 3 → ∀ q, q < m.t.size → innerI (bt m.t q) = true
  wordF : m.k ≤ 3 ↔ innerI (bt s m.p) = true
  bts : ∀ q, q < m.t.size → bt m.t q = bt s (m.p + q)
  max : m.k ≤ 3 → m.p + m.t.size < s.size → innerI (bt s (m.p + m.t.size)) = false
  lastB : 3 < m.k → innerI (bt s (m.p + m.t.size - 1)) = false
theorem mfacts (s : ByteArray) (a : Nat) (h : (nextM s a).k ≠ 0) : MFacts s a (nextM s a) := by
  have hp : (nextM s a).p = skipTo s a := nextM_p s a
  have h2 : skipTo s a < s.size ∧ kindI (bt s (skipTo s a)) ≠ 0 := by
    unfold nextM markAt at h; split at h
    · assumption
    · exact absurd rfl h
  have e : nextM s a = ⟨kindI (bt s (skipTo s a)), skipTo s a, s.extract (skipTo s a) (endM s (skipTo s a))⟩ := by
    unfold nextM markAt endM; rw [if_pos h2]
  have hE := endM_b s (skipTo s a) h2.1
  have hsz : (s.extract (skipTo s a) (endM s (skipTo s a))).size = endM s (skipTo s a) - skipTo s a := by rw [ByteArray.size_extract]; omega
  have hr := kindI_range (bt s (skipTo s a))
  rw [e]
  have hge := skipTo_ge s a
  have hbts : ∀ q, q < (s.extract (skipTo s a) (endM s (skipTo s a))).size → bt (s.extract (skipTo s a) (endM s (skipTo s a))) q = bt s (skipTo s a + q) :=
    fun q hq => bt_extract s _ _ q hE.2 (by omega)
  have hword : kindI (bt s (skipTo s a)) ≤ 3 → ∀ q, q < (s.extract (skipTo s a) (endM s (skipTo s a))).size → innerI (bt (s.extract (skipTo s a) (endM s (skipTo s a))) q) = true := by
    intro hk q hq
    rw [hbts q hq]
    by_cases h0 : q = 0
    · subst h0; exact (kindI_word s _ h2.2).1 hk
    · refine (word_inner s _ (skipTo s a + 1) (skipTo s a + q) rfl (by omega) ?_).1
      have : endM s (skipTo s a) = wordTo s (skipTo s a + 1) := by unfold endM; rw [if_pos hk]
      omega
  have hsign : 3 < kindI (bt s (skipTo s a)) → endM s (skipTo s a) = skipTo s a + 1 := by
    intro hk; unfold endM; rw [if_neg (by omega)]
  refine ⟨hge, by simp only; omega, by simp only; omega, ?_, fun q q1 q2 => (skip_blank s _ a q rfl q1 q2).1, rfl, ?_, by simp only; omega, hr.2, ?_, hword, kindI_word s _ h2.2, hbts, ?_, ?_⟩
  · simp only; rw [hsz]; congr 1; omega
  · simp only
    generalize ht : s.extract (skipTo s a) (endM s (skipTo s a)) = t at *
    have b0 : bt t 0 = bt s (skipTo s a) := hbts 0 (by omega)
    have k0 : skipTo t 0 = 0 := skipTo_no t 0 (by omega) (by rw [b0]; exact kindI_blank _ h2.2)
    have en : endM t 0 = t.size := by
      by_cases hk : kindI (bt s (skipTo s a)) ≤ 3
      · unfold endM; rw [b0, if_pos hk]
        exact wordTo_all t _ 1 rfl (by omega) (fun q q1 q2 => hword hk q q2)
      · unfold endM; rw [b0, if_neg hk]
        have := hsign (by omega); omega
    have en2 : nextM t 0 = ⟨kindI (bt s (skipTo s a)), 0, t.extract 0 (endM t 0)⟩ := by
      unfold nextM markAt; rw [k0, if_pos ⟨by omega, by rw [b0]; exact h2.2⟩, b0]
      congr 1
      unfold endM; rw [b0]
    unfold kindM
    rw [en2, if_pos ⟨h2.2, by simp only; rw [ByteArray.size_extract]; omega⟩]
  · intro hk; simp only at hk ⊢; have := hsign hk; omega
  · intro hk hl
    simp only at hk hl ⊢
    have hE2 : endM s (skipTo s a) = wordTo s (skipTo s a + 1) := by unfold endM; rw [if_pos hk]
    have e3 : skipTo s a + (s.extract (skipTo s a) (endM s (skipTo s a))).size = wordTo s (skipTo s a + 1) := by omega
    rw [e3] at hl ⊢
    exact word_max s _ _ rfl hl
  · intro hk
    simp only at hk ⊢
    have := hsign hk
    rw [show skipTo s a + (s.extract (skipTo s a) (endM s (skipTo s a))).size - 1 = skipTo s a from by omega]
    by_cases hi : innerI (bt s (skipTo s a)) = true
    · have := (kindI_word s _ h2.2).2 hi; omega
    · simpa using hi
end Go.Proofs.YtfmcbpnhpckmjaaGreat
namespace Go.Proofs.YtfmcbpnhpckmjaaGreat
open Go.RowKit

/-! ### the reference's marks -/
def upperI (c : Int) : Bool := 65 ≤ c && c ≤ 90
def lowerI (c : Int) : Bool := 97 ≤ c && c ≤ 122
def signI (c : Int) : Bool := c == 61 || c == 59 || c == 124 || c == 42 || c == 43 || c == 63 || c == 40 || c == 41 || c == 37
/-- the byte by which the reference tells a mark's kind -/
def tkB (k : Int) : Int := if k = 1 then 85 else if k = 2 then 76 else if k = 3 then 79 else if k = 4 then 61 else if k = 5 then 59 else if k = 6 then 124 else if k = 7 then 42 else if k = 8 then 43 else if k = 9 then 63 else if k = 10 then 40 else if k = 11 then 41 else if k = 12 then 37 else 0
theorem byte1 : ∀ n : Fin 256, signI (n.val : Int) = true → 3 < kindI (n.val : Int) ∧ tkB (kindI (n.val : Int)) = (n.val : Int) := by decide +kernel
theorem byte2 : ∀ n : Fin 256, signI (n.val : Int) = false → innerI (n.val : Int) = false → kindI (n.val : Int) = 0 := by decide +kernel
theorem byte3 : ∀ n : Fin 256, signI (n.val : Int) = false → innerI (n.val : Int) = true → kindI (n.val : Int) ≠ 0 ∧ kindI (n.val : Int) ≤ 3 := by decide +kernel
theorem byte4 : ∀ n : Fin 256, signI (n.val : Int) = false → innerI (n.val : Int) = true → upperI (n.val : Int) = true → kindI (n.val : Int) = 1 := by decide +kernel
theorem byte5 : ∀ n : Fin 256, signI (n.val : Int) = false → innerI (n.val : Int) = true → lowerI (n.val : Int) = true → kindI (n.val : Int) = 2 := by decide +kernel
theorem byte6 : ∀ n : Fin 256, signI (n.val : Int) = false → innerI (n.val : Int) = true → upperI (n.val : Int) = false → lowerI (n.val : Int) = false → kindI (n.val : Int) = 3 := by decide +kernel
theorem byte7 : ∀ n : Fin 256, upperI (n.val : Int) = true → lowerI (n.val : Int) = false := by decide +kernel
theorem byte_facts : ∀ n : Fin 256, (signI (n.val : Int) = true → 3 < kindI (n.val : Int) ∧ tkB (kindI (n.val : Int)) = (n.val : Int)) ∧
    (signI (n.val : Int) = false → innerI (n.val : Int) = false → kindI (n.val : Int) = 0) ∧
    (signI (n.val : Int) = false → innerI (n.val : Int) = true → kindI (n.val : Int) ≠ 0 ∧ kindI (n.val : Int) ≤ 3 ∧ (upperI (n.val : Int) = true → kindI (n.val : Int) = 1) ∧ (lowerI (n.val : Int) = true → kindI (n.val : Int) = 2) ∧ (upperI (n.val : Int) = false → lowerI (n.val : Int) = false → kindI (n.val : Int) = 3)) ∧
    (upperI (n.val : Int) = true → lowerI (n.val : Int) = false) := fun n => ⟨byte1 n, byte2 n, fun h1 h2 => ⟨(byte3 n h1 h2).1, (byte3 n h1 h2).2, byte4 n h1 h2, byte5 n h1 h2, byte6 n h1 h2⟩, byte7 n⟩
theorem byte_bt (s : ByteArray) (k : Nat) : ∃ n : Fin 256, (n.val : Int) = bt s k := by
  refine ⟨⟨(s.data.toList.getD k 0).toNat, (s.data.toList.getD k 0).toNat_lt⟩, rfl⟩
def Mk.tcells (m : Mk) : List Value := [.int .u8 (tkB m.k), .int .i64 m.p, .string m.t]
def flatTk (l : List Mk) : List Value := l.flatMap Mk.tcells
theorem flatTk_snoc (l : List Mk) (m : Mk) : flatTk (l ++ [m]) = flatTk l ++ m.tcells := by simp [flatTk]
set_option maxHeartbeats 400000 in
theorem rUpper_any (c : Int) (w : World) :
    Calls Tryz.prog 79 #[.int .u8 c] w fun e w' => e = .returned (.bool (upperI c)) ∧ w = w' := by
  go_enter Tryz.func79, Tryz.ntmps79
  go_wp2
  all_goals go_ret
  all_goals refine ⟨congrArg (fun b => Ending.returned (.bool b)) ?_, rfl⟩
  all_goals (rw [Bool.eq_iff_iff]; simp [upperI]; omega)
set_option maxHeartbeats 400000 in
theorem rLower_any (c : Int) (w : World) :
    Calls Tryz.prog 80 #[.int .u8 c] w fun e w' => e = .returned (.bool (lowerI c)) ∧ w = w' := by
  go_enter Tryz.func80, Tryz.ntmps80
  go_wp2
  all_goals go_ret
  all_goals refine ⟨congrArg (fun b => Ending.returned (.bool b)) ?_, rfl⟩
  all_goals (rw [Bool.eq_iff_iff]; simp [lowerI]; omega)
theorem inner_of (c : Int) : innerI c = (upperI c || lowerI c || (48 ≤ c && c ≤ 57) || c == 95) := by
  rw [Bool.eq_iff_iff]; simp [innerI, upperI, lowerI]; omega
set_option maxHeartbeats 400000 in
theorem rInner_any (c : Int) (w : World) :
    Calls Tryz.prog 78 #[.int .u8 c] w fun e w' => e = .returned (.bool (innerI c)) ∧ w = w' := by
  have HU := Lib.hid (rUpper_any c)
  have HL := Lib.hid (rLower_any c)
  rw [inner_of]
  generalize upperI c = u at *
  generalize lowerI c = l at *
  go_enter Tryz.func78, Tryz.ntmps78
  cases u <;> cases l
  all_goals
    go_wp2_with (first | (go_at_call 79; refine (HU.out _).mono ?_; rintro e w' ⟨rfl, rfl⟩) | (go_at_call 80; refine (HL.out _).mono ?_; rintro e w' ⟨rfl, rfl⟩))
  all_goals go_ret
  all_goals refine ⟨congrArg (fun b => Ending.returned (.bool b)) ?_, rfl⟩
  all_goals first | rfl | (rw [Bool.eq_iff_iff]; simp; omega)

/-- what Toks tells of the first bad byte -/
def badI (s : ByteArray) : Int := if (cut s 0).2 < s.size then ((cut s 0).2 : Nat) else -1

end Go.Proofs.YtfmcbpnhpckmjaaGreat
namespace Go.Proofs.YtfmcbpnhpckmjaaGreat
open Go.RowKit

def nextS (o : Int) (w : Bool) (k : Int) : Int × Bool × Bool :=
  if beginsI k = true then (if k = 10 then (o + 1, true, true) else (o, false, true))
  else if w = true then (o, w, false)
  else if k = 6 then (o, true, true)
  else if k = 11 then (o - 1, false, decide (0 < o))
  else (o, w, k == 7 || k == 8 || k == 9)

end Go.Proofs.YtfmcbpnhpckmjaaGreat
namespace Go.Proofs.YtfmcbpnhpckmjaaGreat
open Go.RowKit Go.Shelf

theorem grown_of_below {w w' : World} (h : Below w.heap.size w w') : w.grownBy w' none := ⟨h.os, h.tape, h.output, h.size, fun k hk _ => h.block k hk⟩

/-- each block of one element of type e (a loop variable's box) lies as it lay -/
def KeepsOnes (e size : Nat) (W W' : World) : Prop := ∀ (b : Nat) (c : Array Value) (fr : Nat × Nat), W.heap[b]? = some (Obj.cells c e fr) → c.size = size → W'.heap[b]? = W.heap[b]?
theorem KeepsOnes.refl (e size : Nat) (W : World) : KeepsOnes e size W W := fun _ _ _ _ _ => rfl
theorem KeepsOnes.trans {e size : Nat} {A B C : World} (h : KeepsOnes e size A B) (k : KeepsOnes e size B C) : KeepsOnes e size A C :=
  fun b c fr hb hc => by rw [k b c fr (by rw [h b c fr hb hc]; exact hb) hc, h b c fr hb hc]
theorem KeepsOnes.of_below {e size : Nat} {A B : World} (h : Below A.heap.size A B) : KeepsOnes e size A B :=
  fun b _ _ hb _ => h.block b (Array.getElem?_eq_some_iff.1 hb).1
theorem KeepsOnes.alloc (e size : Nat) (W : World) (o : Obj) : KeepsOnes e size W (W.alloc o) := .of_below (below1 W o)
/-- a store into a box of another type -/
theorem KeepsOnes.setCell {e size t : Nat} {W : World} {B : Nat} {v : Value} (h : Boxed W B t v) (hne : t ≠ e) (o : Nat) (u : Value) : KeepsOnes e size W (W.setCell ⟨B, o, none⟩ u) := by
  intro b c fr hb hc
  by_cases hB : b = B
  · subst hB; have := (show W.heap[b]? = _ from h).symm.trans hb; simp at this; exact absurd this.2.1 hne
  · exact Below.heap_setCell _ _ _ _ hB
theorem KeepsOnes.putObj {e size : Nat} {W : World} {l : Nat} {o : Obj} (h : W.heap[l]? = some o) (ho : o.isCells = false) (o' : Obj) : KeepsOnes e size W (W.putObj l o') := by
  intro b c fr hb hc
  by_cases hB : b = l
  · subst hB; rw [h] at hb; cases hb; simp [Obj.isCells] at ho
  · exact World.putObj_heap_other hB

/-- append of one element to an owned row: what is kept -/
theorem run_app1 {P : Program} {t e : TypeId} {size bytes : Nat} (hE : ElemOK P t e size bytes) (hs2 : 1 ≤ size) {B : Nat} {w : World} (ty : TypeId) {v : Value} {n : Nat} {xs : List Value} (hown : w.ownsRow B e size v n xs) (hnil : n = 0 → v = .slice none 0 0)
    (ad : Addr) {news : List Value} (hl : news.length = size) (hnews : ∀ j u, news[j]? = some u → w.cell? (ad.add j) = some u) (h1 : ∀ u ∈ news, u.oneCell' = true) (c : Nat)
    (hn : n < 4294967296) (hby : bytes ≤ 16384) (hB : B ≤ w.heap.size) :
    ∃ v' w', (Builtin.append_ #[t, t] ty #[v, .slice (some ad) 1 c]).run P w = .ok v' w' ∧ w'.ownsRow B e size v' (n + 1) (xs ++ news) ∧ w.grownBy w' v.ownBlock ∧ KeepsOnes e size w w' ∧ (∃ g cap, v' = .slice (some ⟨g, 0, none⟩) (n + 1) cap) := by
  obtain ⟨i, z, ht, hi, hz, hz1, hz2, hz3, hz4⟩ := hE.ex
  have hb : (n + 1) * bytes ≤ 140737488355328 := by
    have : (n + 1) * bytes ≤ 4294967296 * 16384 := Nat.mul_le_mul (by omega) hby
    omega
  have shape : ∀ {w' : World} {v' : Value}, w'.ownsRow B e size v' (n + 1) (xs ++ news) → ∃ g cap, v' = .slice (some ⟨g, 0, none⟩) (n + 1) cap := by
    intro w' v' h
    rcases h.2 with ⟨h, h'⟩ | ⟨g, cap, _, h, _⟩
    · omega
    · exact ⟨g, cap, h⟩
  rcases hown.2 with ⟨hv, hn0⟩ | ⟨g, cap, cur, hv, hBg, hg, hnc, hcm, hcs, htk⟩
  · obtain ⟨v', w', hr, h2, h3, _⟩ := run_append_own (P := P) w B t ty e i z size bytes ht hi hz hz1 hz2 hz3 hz4 v n xs hown ad 1 c news (by omega) hnews h1 (by unfold maxLen; omega) hb hB
    refine ⟨v', w', hr, h2, h3, ?_, shape h2⟩
    intro b cc fr hbb _
    exact h3.block b (Array.getElem?_eq_some_iff.1 hbb).1 (by rw [hv]; simp [Value.ownBlock])
  · subst hv
    have hn1 : 1 ≤ n := by
      rcases Nat.eq_zero_or_pos n with h | h
      · have := hnil h; simp at this
      · exact h
    by_cases hroom : n + 1 ≤ cap
    · obtain ⟨w', hr, h2, h3⟩ := run_append_fits (P := P) w B t ty e i size ht hi hz1 g n cap xs hown ad 1 c news (by omega) hnews h1 hroom
      refine ⟨_, w', hr, h2, h3, ?_, ⟨g, cap, rfl⟩⟩
      intro b cc fr hbb hcc
      refine h3.block b (Array.getElem?_eq_some_iff.1 hbb).1 ?_
      intro e'
      obtain rfl : b = g := by simpa using e'
      rw [hg] at hbb
      simp at hbb
      rw [← hbb.1, hcs] at hcc
      have : 2 * size ≤ cap * size := Nat.mul_le_mul_right _ (by omega)
      omega
    · obtain ⟨v', w', hr, h2, h3⟩ := run_append_arg_grows (P := P) w t ty e i z size bytes ht hi hz hz1 hz2 hz3 hz4 ⟨g, 0, none⟩ n cap xs hown.1 (fun j u hj => hown.cells rfl j u hj) ad 1 c news (by omega) hnews (by omega) (by unfold maxLen; omega) hb
      have h2' : w'.ownsRow B e size v' (n + 1) (xs ++ news) := by
        refine ⟨h2.1, ?_⟩
        rcases h2.2 with ⟨_, h'⟩ | ⟨g2, cap2, cur2, k1, k2, k3⟩
        · omega
        · exact .inr ⟨g2, cap2, cur2, k1, by omega, k3⟩
      refine ⟨v', w', hr, h2', ⟨h3.os, h3.tape, h3.output, h3.size, fun k hk _ => h3.block k hk (by simp)⟩, ?_, shape h2'⟩
      intro b cc fr hbb _
      exact h3.block b (Array.getElem?_eq_some_iff.1 hbb).1 (by simp)

/-- the fenced law: 'x = append(x, m)', x in a box Bx, one new element -/
theorem wpListIn_app1 {F : Fence} {n' : Nat} {P : Program} {t e : TypeId} {size bytes : Nat} (hE : ElemOK P t e size bytes) (hs2 : 1 ≤ size) {B : Nat} {wr : World} {ops : Array Oper} {rest : List Oper} {o : Oper} {a : Act} {Q : Exit → Act → World → Prop} (hgd : o.guard = none) (s x : Operand)
    (ho : o.op = .call { callee := .builtin .append, args := #[s, x], argTypes := #[t, t] })
    {v : Value} {n : Nat} {xs : List Value} (hown : wr.ownsRow B e size v n xs) (hnil : n = 0 → v = .slice none 0 0) (hs : a.eval s = v)
    {news : List Value} (hx : a.eval x = .slice (some ⟨wr.heap.size, 0, none⟩) 1 1) (hl : news.length = size) (h1 : ∀ u ∈ news, u.oneCell' = true)
    (hn : n < 4294967296) (hby : bytes ≤ 16384) (hB : B ≤ wr.heap.size)
    (h : ∀ v' w', w'.ownsRow B e size v' (n + 1) (xs ++ news) → (wr.alloc (.cells news.toArray e)).grownBy w' v.ownBlock → KeepsOnes e size (wr.alloc (.cells news.toArray e)) w' → (∃ g cap, v' = .slice (some ⟨g, 0, none⟩) (n + 1) cap) → wpListIn F n' P ops Q rest (a.put o.dst v') w') :
    wpListIn F n' P ops Q (o :: rest) a (wr.alloc (.cells news.toArray e)) := by
  refine wpListIn_plain hgd fun K hK' => ?_
  obtain ⟨v', w', hrun, r1, r2, r3, r4⟩ := run_app1 (P := P) hE hs2 o.type (hown.alloc (.cells news.toArray e)) hnil ⟨wr.heap.size, 0, none⟩ hl (cells_new wr news e) h1 1 hn hby (by simp; omega)
  unfold Oper.wpIn
  refine ⟨?_, ?_⟩
  · simp [Oper.about, ho, resolve, Target.leads, Sem.run_pure]
  · rw [Oper.semAt_plain F _ _ (by rw [ho]; intro c hc'; cases hc')]
    simp [execOp, ho, resolve, invoke, builtin, hs, hx, hrun, Result.andThen]
    exact hK' _ _ (h v' w' r1 r2 r3 r4)

/-- a range over a function whose one loop variable lies in a box (slot q), laid anew each round -/
theorem wpIn_rangeFunc_boxed {F : Fence} {n : Nat} {P : Program} {α : Type} {g : Operand} {p q : Tmp} {assign body : Code} {Q : Exit → Act → World → Prop} {a : Act} {w : World}
    (hro : F.round = none) (h1 : 1 ≤ n) {gf : Nat} {lb : Array Value} (hg : a.eval g = .func (.func gf) #[] lb) (hFg : F.fn gf) (eg : ∀ args w, (callFunc gf args).run P w = .ok (.enter gf args) w)
    {enc1 : α → Value} {Kp : World → World → Prop} {S Sp : List α → Prop} {N : Nat} {w0 : World} (hseq : SeqStopsK F (n - 1) P gf lb (fun x => #[enc1 x]) Kp S Sp N w0)
    (hKt : ∀ {A B C : World}, Kp A B → Kp B C → Kp A C) (hKb : ∀ (W : World) (l : Nat) (o o' : Obj), w.heap.size ≤ l → W.heap[l]? = some o → o.isCells = false → o.isWalk = false → Kp W (W.putObj l o')) (hb0 : Below w0.heap.size w0 w)
    (cellsOf : α → Array Value) (e : TypeId) (I : List α → World → Prop) (Ix : Code → List α → World → Prop) (hI : OwnFrom w.heap.size I) (hIx : ∀ c, OwnFrom w.heap.size (Ix c)) (h0 : I [] w)
    (hle : ∀ pre W, I pre W → w.heap.size ≤ W.heap.size) (hKa : ∀ pre W o, I pre W → Kp W (W.alloc o))
    (hassign : ∀ (l : Nat) (x : α) (W : World) (K : Act → World → Prop), K { tmps := (a.tmps.setIfInBounds p (enc1 x)).setIfInBounds q (.pointer (some ⟨W.heap.size, 0, none⟩)), defers := [] } (W.alloc (.cells (cellsOf x) e)) →
      assign.wpIn (F.inRound l) (n - 1 - 1) P (Exit.then K (fun _ _ _ => False)) { tmps := a.tmps.setIfInBounds p (enc1 x), defers := [] } W)
    (hbody : ∀ (l : Nat) (pre : List α) (x : α) (Bx : Nat) (W : World), I pre W → w.heap.size ≤ Bx → W.heap[Bx]? = some (.cells (cellsOf x) e (0, 0)) → pre.length < N →
      body.wpIn (F.inRound l) (n - 1 - 1) P (ownPostG w.heap.size Kp I Ix (pre ++ [x]) W) { tmps := (a.tmps.setIfInBounds p (enc1 x)).setIfInBounds q (.pointer (some ⟨Bx, 0, none⟩)), defers := [] } W)
    (hdone : ∀ (D : Nat) (xs : List α) (W : World), w.heap.size ≤ D → S xs → I xs W → W.heap[D]? = some (.deferred (some [])) → Q .normal { a with defers := { target := .collected D, args := #[] } :: a.defers } W)
    (hstop : ∀ (D : Nat) (c : Code) (pre : List α) (W : World), w.heap.size ≤ D → Sp pre → Ix c pre W → W.heap[D]? = some (.deferred (some [])) → c.wpIn F n P Q { a with defers := { target := .collected D, args := #[] } :: a.defers } W) :
    (Code.rangeFunc g #[p] assign body).wpIn F n P Q a w := by
  refine wpIn_rangeFunc_ownH hro h1 hg hFg eg hseq hKt hKb hb0 (fun _ => rfl) I Ix hI hIx h0
    (fun x a' W => ∃ Bx, w.heap.size ≤ Bx ∧ W.heap[Bx]? = some (.cells (cellsOf x) e (0, 0)) ∧ a' = { tmps := (a.tmps.setIfInBounds p (enc1 x)).setIfInBounds q (.pointer (some ⟨Bx, 0, none⟩)), defers := [] }) ?_ ?_ ?_ hdone hstop
  · intro x a' _ X Y row h hg hr
    obtain ⟨Bx, k1, k2, k3⟩ := h
    refine ⟨Bx, k1, (hg.block Bx (Array.getElem?_eq_some_iff.1 k2).1 ?_).trans k2, k3⟩
    intro ee
    obtain ⟨_, o, ho, hc⟩ := hr Bx ee.symm
    rw [k2] at ho; cases ho; simp [Obj.isCells] at hc
  · intro l pre x W K hi hK
    have e1 : ∀ (f : Array Value → Tmp × Value → Array Value), (#[p].zip #[enc1 x]).foldl f a.tmps = f a.tmps (p, enc1 x) := by intro f; simp
    rw [e1]
    refine hassign l x W K ?_
    exact hK _ _ ((KeepsOthers.alloc W _).from _) (hKa pre W _ hi) (hI.alloc _ hi) ⟨W.heap.size, hle pre W hi, World.alloc_heap_new W _, rfl⟩
  · rintro l pre x a' W _ _ hi ⟨Bx, k1, k2, rfl⟩ hlt
    exact hbody l pre x Bx W hi k1 k2 hlt

/-! ### a region that draws its order and only reads, within a round -/
theorem wpOpIn_inRound {F : Fence} {n : Nat} {P : Program} {ops : Array Oper} {Q : Exit → Act → World → Prop} {l i : Nat} {K K' : Act → World → Prop} {a : Act} {w : World}
    (hnd : ∀ (i : Nat) (o : Oper) c, ops[i]? = some o → o.op ≠ .defer c) (hk : ∀ a w, K a w → K' a w) (h : wpOpIn F n P ops Q i K a w) : wpOpIn (F.inRound l) n P ops Q i K' a w := by
  unfold wpOpIn at h ⊢
  cases ho : ops[i]? with
  | none => rw [ho] at h; exact hk _ _ h
  | some o =>
    rw [ho] at h
    dsimp only at h ⊢
    split
    · rename_i hw
      rw [if_pos hw] at h
      have h2 := Oper.wpIn_mono hk h
      unfold Oper.wpIn at h2 ⊢
      rw [Oper.semAt_eq _ _ _ (hnd i o · ho)] at h2 ⊢
      exact h2
    · rename_i hw
      rw [if_neg hw] at h
      exact ⟨h.1, hk _ _ h.2⟩
theorem wpAnyIn_inRound {F : Fence} {n : Nat} {P : Program} {md : Region.Mode} {ops : Array Oper} {Q : Exit → Act → World → Prop} {l : Nat} (hnd : ∀ (i : Nat) (o : Oper) c, ops[i]? = some o → o.op ≠ .defer c) :
    ∀ (fuel : Nat) (listed : Array Bool) (a : Act) (w : World), wpAnyIn F n P md ops Q fuel listed a w → wpAnyIn (F.inRound l) n P md ops Q fuel listed a w
  | 0, _, _, _, h => h
  | fuel + 1, _, _, _, h => ⟨h.1, fun i hi => wpOpIn_inRound hnd (wpAnyIn_inRound hnd fuel _) (h.2 i hi)⟩
def noDefer (ops : Array Oper) : Bool := ops.all fun o => match o.op with | .defer _ => false | _ => true
theorem noDefer_spec {ops : Array Oper} (h : noDefer ops = true) (i : Nat) (o : Oper) (c : Call) (ho : ops[i]? = some o) : o.op ≠ .defer c := by
  intro e
  have hm : o ∈ ops := Array.mem_of_getElem? ho
  have := Array.all_eq_true'.1 h o hm
  rw [e] at this
  simp at this
/-- a region that draws its order and only reads, within a round: one walk, in the text's order -/
theorem wpIn_quietR {F : Fence} {n l : Nat} {P : Program} {id : Nat} {Q : Exit → Act → World → Prop} {a : Act} {w : World} {ls : List Oper} (hro : F.round = none) (hm : P.follows .mixedOrders = true) (hB : Region.lexB .any ls.toArray = true) (hnd : noDefer ls.toArray = true)
    (h : wpQuietIn F n P ls.toArray (fun w' => ∃ n, w' = w.drewN n) (fun a' => ∀ w', (∃ n, w' = w.drewN n) → Q .normal a' w') ls a) : (Code.region id ls.toArray true).wpIn (F.inRound l) n P Q a w := by
  simp only [Region.lexB, Bool.and_eq_true] at hB
  refine wpIn_region_any hm (wpAnyIn_inRound (noDefer_spec hnd) _ _ _ _ (wpAnyIn_of_quiet (C := fun w' => ∃ n, w' = w.drewN n) (Q := fun a' => ∀ w', (∃ n, w' = w.drewN n) → Q .normal a' w') hro (fun _ w' hw' h => h w' hw') _ _ _ _ ⟨1, rfl⟩ ?_))
  have := wpAnyQIn_lex (F := F) (n := n) (C := fun w' => ∃ n, w' = w.drewN n) (md := .any) hB.1 ls 0 (Array.replicate ls.toArray.size false) a (by simp) (by simpa using hB.2) h
  simpa using this

/-- the same, where the loop is left by 'break' alone (or not at all): what stands behind it is walked once -/
theorem wpIn_rangeFunc_boxedB {F : Fence} {n : Nat} {P : Program} {α : Type} {g : Operand} {p q : Tmp} {assign body : Code} {id : Nat} {Q : Exit → Act → World → Prop} {a : Act} {w : World}
    (hro : F.round = none) (h1 : 1 ≤ n) {gf : Nat} {lb : Array Value} (hg : a.eval g = .func (.func gf) #[] lb) (hFg : F.fn gf) (eg : ∀ args w, (callFunc gf args).run P w = .ok (.enter gf args) w)
    {enc1 : α → Value} {Kp : World → World → Prop} {S Sp : List α → Prop} {N : Nat} {w0 : World} (hseq : SeqStopsK F (n - 1) P gf lb (fun x => #[enc1 x]) Kp S Sp N w0)
    (hKt : ∀ {A B C : World}, Kp A B → Kp B C → Kp A C) (hKb : ∀ (W : World) (l : Nat) (o o' : Obj), w.heap.size ≤ l → W.heap[l]? = some o → o.isCells = false → o.isWalk = false → Kp W (W.putObj l o')) (hb0 : Below w0.heap.size w0 w)
    (cellsOf : α → Array Value) (e : TypeId) (I : List α → World → Prop) (Ix : Code → List α → World → Prop) (J : World → Prop) (hI : OwnFrom w.heap.size I) (hIx : ∀ c, OwnFrom w.heap.size (Ix c)) (h0 : I [] w)
    (hle : ∀ pre W, I pre W → w.heap.size ≤ W.heap.size) (hKa : ∀ pre W o, I pre W → Kp W (W.alloc o))
    (hassign : ∀ (l : Nat) (x : α) (W : World) (K : Act → World → Prop), K { tmps := (a.tmps.setIfInBounds p (enc1 x)).setIfInBounds q (.pointer (some ⟨W.heap.size, 0, none⟩)), defers := [] } (W.alloc (.cells (cellsOf x) e)) →
      assign.wpIn (F.inRound l) (n - 1 - 1) P (Exit.then K (fun _ _ _ => False)) { tmps := a.tmps.setIfInBounds p (enc1 x), defers := [] } W)
    (hbody : ∀ (l : Nat) (pre : List α) (x : α) (Bx : Nat) (W : World), I pre W → w.heap.size ≤ Bx → W.heap[Bx]? = some (.cells (cellsOf x) e (0, 0)) → pre.length < N →
      body.wpIn (F.inRound l) (n - 1 - 1) P (ownPostG w.heap.size Kp I Ix (pre ++ [x]) W) { tmps := (a.tmps.setIfInBounds p (enc1 x)).setIfInBounds q (.pointer (some ⟨Bx, 0, none⟩)), defers := [] } W)
    (hdone : ∀ (xs : List α) (W : World), S xs → I xs W → J W)
    (hstop : ∀ (c : Code) (pre : List α) (W : World), Sp pre → Ix c pre W → c = .exit id ∧ J W)
    (hfin : ∀ (D : Nat) (W : World), w.heap.size ≤ D → J W → W.heap[D]? = some (.deferred (some [])) → Q .normal { a with defers := { target := .collected D, args := #[] } :: a.defers } W) :
    (Code.rangeFunc g #[p] assign body).wpIn F n P (Exit.inBlock id Q) a w := by
  refine wpIn_rangeFunc_boxed hro h1 hg hFg eg hseq hKt hKb hb0 cellsOf e I Ix hI hIx h0 hle hKa hassign hbody ?_ ?_
  · intro D xs W hD hS hi hK
    exact hfin D W hD (hdone xs W hS hi) hK
  · intro D c pre W hD hS hi hK
    obtain ⟨rfl, hj⟩ := hstop c pre W hS hi
    refine wpIn_exit ?_
    simp only [Exit.inBlock, if_true]
    exact hfin D W hD hj hK
end Go.Proofs.YtfmcbpnhpckmjaaGreat
namespace Go.Proofs.YtfmcbpnhpckmjaaGreat
open Go.RowKit Go.Shelf

theorem new_late {wr w2 : World} (hb : Below wr.drew.heap.size wr.drew w2) (c : Array Value) (t : TypeId) : (w2.alloc (.cells c t)).heap[w2.heap.size]? = some (.cells c t (0, 0)) ∧ wr.heap.size ≤ w2.heap.size ∧ wr.grownBy (w2.alloc (.cells c t)) none :=
  ⟨World.alloc_heap_new w2 _, hb.size, grown_then (grown_then (grown_drewN wr 1 none) (grown_below (a := wr.drew) hb) (by simp)) (World.grownBy_alloc _ _ none) (by simp)⟩
theorem new_early2 {wr w2 : World} {z0 z1 : Value} {t : TypeId} (hb : Below (wr.alloc (.cells #[z0, z1] t)).drew.heap.size (wr.alloc (.cells #[z0, z1] t)).drew w2) (v0 v1 : Value) :
    ((w2.setCell ⟨wr.heap.size, 0, none⟩ v0).setCell ⟨wr.heap.size, 1, none⟩ v1).heap[wr.heap.size]? = some (.cells #[v0, v1] t (0, 0)) ∧ wr.heap.size ≤ wr.heap.size ∧ wr.grownBy ((w2.setCell ⟨wr.heap.size, 0, none⟩ v0).setCell ⟨wr.heap.size, 1, none⟩ v1) none := by
  have h0 : (wr.alloc (.cells #[z0, z1] t)).drew.heap[wr.heap.size]? = some (.cells #[z0, z1] t (0, 0)) := World.alloc_heap_new wr _
  have h1 : w2.heap[wr.heap.size]? = some (.cells #[z0, z1] t (0, 0)) := (hb.block _ (Array.getElem?_eq_some_iff.1 h0).1).trans h0
  have g1 : wr.grownBy w2 none := grown_then (grown_then (World.grownBy_alloc wr _ none) (grown_drewN _ 1 none) (by simp)) (grown_below hb) (by simp)
  refine ⟨?_, Nat.le_refl _, grown_then (grown_then g1 (grown_set w2 wr.heap.size 0 v0) (by simp)) (grown_set _ wr.heap.size 1 v1) (by simp)⟩
  simp only [World.setCell]
  rw [Array.getElem?_modify, if_pos rfl, Array.getElem?_modify, if_pos rfl, h1]
  rfl
theorem cut_facts (s : ByteArray) : ∀ n k, k ≤ s.size → s.size - k ≤ n → ∀ m ∈ (cut s k).1, ∃ a, k ≤ a ∧ MFacts s a m := by
  intro n
  induction n with
  | zero =>
    intro k h hn m hm
    obtain rfl : k = s.size := by omega
    rw [cut_end] at hm; cases hm
  | succ n ih =>
    intro k h hn m hm
    by_cases hz : (nextM s k).k = 0
    · rw [cut_none s k h hz] at hm; cases hm
    · rw [cut_some s k h hz] at hm
      have M := mfacts s k hz
      have h1 := M.one
      have h2 := M.le
      have h3 := M.ge
      rcases List.mem_cons.1 hm with rfl | hm
      · exact ⟨k, Nat.le_refl _, M⟩
      · obtain ⟨a, ha, hx⟩ := ih ((nextM s k).p + (nextM s k).t.size) h2 (by omega) m hm
        exact ⟨a, by omega, hx⟩
theorem cut_kinds (s : ByteArray) (m : Mk) (hm : m ∈ (cut s 0).1) : 1 ≤ m.k ∧ m.k ≤ 12 := by
  obtain ⟨a, _, M⟩ := cut_facts s s.size 0 (by omega) (by omega) m hm
  exact ⟨M.lo, M.hi⟩
/-- marks as the reference's tokens, read -/
def RdTk (w : World) (v : Value) (l : List Mk) : Prop := Rd w v l.length 3 (flatTk l)
theorem flatTk_at (l : List Mk) (i : Nat) (m : Mk) (h : l[i]? = some m) : (flatTk l)[3 * i]? = some (.int .u8 (tkB m.k)) ∧ (flatTk l)[3 * i + 1]? = some (.int .i64 m.p) ∧ (flatTk l)[3 * i + 2]? = some (.string m.t) := by
  induction l generalizing i with
  | nil => simp at h
  | cons x r ih =>
    have e : flatTk (x :: r) = .int .u8 (tkB x.k) :: .int .i64 x.p :: .string x.t :: flatTk r := rfl
    cases i with
    | zero => simp at h; subst h; rw [e]; simp
    | succ i =>
      have h2 := ih i (by simpa using h)
      rw [e, show 3 * (i + 1) = 3 * i + 1 + 1 + 1 from by omega]
      simpa using h2
theorem RdTk.at {w : World} {v : Value} {l : List Mk} (h : RdTk w v l) {i : Nat} {m : Mk} (hm : l[i]? = some m) :
    ∃ b off cap, v = .slice (some ⟨b, off, none⟩) l.length cap ∧ b < w.heap.size ∧ l.length ≤ cap ∧
      w.cell? ⟨b, off + i * 3, none⟩ = some (.int .u8 (tkB m.k)) ∧ w.cell? ⟨b, off + i * 3 + 1, none⟩ = some (.int .i64 m.p) ∧ w.cell? ⟨b, off + i * 3 + 2, none⟩ = some (.string m.t) := by
  have hi : i < l.length := (List.getElem?_eq_some_iff.1 hm).1
  obtain ⟨b, off, cap, h1, h2, h3, h4⟩ := Rd.at h hi
  obtain ⟨q0, q1, q2⟩ := flatTk_at l i m hm
  rw [show 3 * i = i * 3 from by omega] at q0 q1 q2
  exact ⟨b, off, cap, h1, h2, h3, h4 _ _ q0, h4 _ _ q1, h4 _ _ q2⟩

def plcR (L : List Mk) (en : Int) (p : Nat) : Int := match L[p]? with | some m => (m.p : Int) | none => en
def placeF (L : List Mk) (en : Int) (bad : Bool) : Nat → Nat → Int → Bool → Int
  | 0, _, o, w => if bad = true ∨ w = true ∨ 0 < o then en else -1
  | m + 1, p, o, w => if (nextS o w (kd L p)).2.2 = true then placeF L en bad m (p + 1) (nextS o w (kd L p)).1 (nextS o w (kd L p)).2.1 else plcR L en p
theorem nextS_lo {o : Int} {w : Bool} {k : Int} (ho : 0 ≤ o) (h : (nextS o w k).2.2 = true) : 0 ≤ (nextS o w k).1 ∧ (nextS o w k).1 ≤ o + 1 := by
  unfold nextS at h ⊢
  split
  · split <;> simp only <;> omega
  · split
    · simp only; omega
    · split
      · simp only; omega
      · split
        · rename_i h1 h2 h3 h4
          rw [if_neg h1, if_neg h2, if_neg h3, if_pos h4] at h
          simp at h
          simp only; omega
        · simp only; omega

end Go.Proofs.YtfmcbpnhpckmjaaGreat
namespace Go.Proofs.YtfmcbpnhpckmjaaGreat
open Go.RowKit

/-! ### plain: the walk over the marks stops where the reader stops -/
def pl (L : List Mk) (en : Int) (b : Bool) (p : Nat) (o : Int) (w : Bool) : Int := placeF L en b (L.length - p) p o w
theorem pl_step {L : List Mk} {en : Int} {b : Bool} {p : Nat} {o o' : Int} {w w' : Bool} (hp : p < L.length) (h : nextS o w (kd L p) = (o', w', true)) : pl L en b p o w = pl L en b (p + 1) o' w' := by
  unfold pl
  rw [show L.length - p = (L.length - (p + 1)) + 1 from by omega]
  conv => lhs; unfold placeF
  rw [h, if_pos rfl]
theorem plcR_end (L : List Mk) (en : Int) : plcR L en L.length = en := by unfold plcR; rw [List.getElem?_eq_none (Nat.le_refl _)]
theorem pl_stuck {L : List Mk} {en : Int} {b : Bool} {p : Nat} {o : Int} {w : Bool} (hp : p ≤ L.length) (h1 : p < L.length → (nextS o w (kd L p)).2.2 = false) (h2 : p = L.length → w = true ∨ 0 < o) : pl L en b p o w = plcR L en p := by
  unfold pl
  by_cases hlt : p < L.length
  · rw [show L.length - p = (L.length - (p + 1)) + 1 from by omega]
    unfold placeF
    rw [h1 hlt, if_neg (by simp)]
  · obtain rfl : p = L.length := by omega
    rw [Nat.sub_self]
    unfold placeF
    rw [if_pos (.inr (h2 rfl)), plcR_end]
structure Au (L : List Mk) (p : Nat) (r : PR) (fol : Int → Prop) : Prop where
  good : r.ok = true → ∀ en b o, 0 ≤ o → pl L en b p o true = pl L en b r.p o false
  bad : r.ok = false → ∀ en b o, 0 ≤ o → pl L en b p o true = plcR L en r.p
  fol : r.ok = true → fol (kd L r.p)
def folU (k : Int) : Prop := sufK k = 0
def folP (k : Int) : Prop := sufK k = 0 ∧ beginsI k = false
def folE (k : Int) : Prop := sufK k = 0 ∧ beginsI k = false ∧ k ≠ 6
theorem suf_cases {k : Int} (h : sufK k ≠ 0) : k = 7 ∨ k = 8 ∨ k = 9 := by
  unfold sufK at h
  split at h
  · exact .inl ‹_›
  · split at h
    · exact .inr (.inl ‹_›)
    · split at h
      · exact .inr (.inr ‹_›)
      · exact absurd rfl h
theorem suf_not {k : Int} (h : sufK k = 0) : k ≠ 7 ∧ k ≠ 8 ∧ k ≠ 9 := by
  refine ⟨?_, ?_, ?_⟩ <;> (rintro rfl; revert h; decide)
theorem next_begin {o : Int} {w : Bool} {k : Int} (h : beginsI k = true) (h10 : k ≠ 10) : nextS o w k = (o, false, true) := by
  unfold nextS; rw [if_pos h, if_neg h10]
theorem next_open (o : Int) (w : Bool) : nextS o w 10 = (o + 1, true, true) := rfl
theorem next_close {o : Int} (h : 0 < o) : nextS o false 11 = (o - 1, false, true) := by
  unfold nextS; rw [if_neg (by decide), if_neg (by decide), if_neg (by decide), if_pos rfl]; simp [h]
theorem next_bar (o : Int) : nextS o false 6 = (o, true, true) := rfl
theorem next_suf {o : Int} {k : Int} (h : sufK k ≠ 0) : nextS o false k = (o, false, true) := by
  rcases suf_cases h with rfl | rfl | rfl <;> rfl
theorem next_want {o : Int} {k : Int} (h : beginsI k = false) : (nextS o true k).2.2 = false := by
  unfold nextS; rw [if_neg (by simp [h]), if_pos rfl]
theorem next_fol {o : Int} {k : Int} (h : folE k) (h11 : k = 11 → ¬ 0 < o) : (nextS o false k).2.2 = false := by
  obtain ⟨h1, h2, h3⟩ := h
  obtain ⟨s1, s2, s3⟩ := suf_not h1
  unfold nextS
  rw [if_neg (by simp [h2]), if_neg (by decide), if_neg h3]
  split
  · rename_i h; simpa using h11 h
  · simp [s1, s2, s3]
theorem pl_begin {L : List Mk} {en : Int} {b : Bool} {p : Nat} {o : Int} (h : beginsI (kd L p) = true) : pl L en b p o false = pl L en b p o true := by
  have hp := begins_lt h
  by_cases h10 : kd L p = 10
  · rw [pl_step hp (by rw [h10]; exact next_open o false), pl_step hp (by rw [h10]; exact next_open o true)]
  · rw [pl_step hp (next_begin h h10), pl_step hp (next_begin h h10)]

theorem sufK_lt' {L : List Mk} {p : Nat} (h : ¬ sufK (kd L p) = 0) : p < L.length := by
  refine kd_lt ?_
  intro h0; rw [h0] at h; exact h rfl
theorem pAtom_no' {E : Nat → PR} {L : List Mk} {p : Nat} (h : beginsI (kd L p) = false) : pAtom E L p = ⟨false, .nil, p⟩ := by unfold pAtom; rw [if_neg (by simp [h])]
theorem pAtom_op' {E : Nat → PR} {L : List Mk} {p : Nat} (h : kd L p = 10) : pAtom E L p = if (E (p + 1)).ok then (if kd L (E (p + 1)).p = 11 then ⟨true, (E (p + 1)).f, (E (p + 1)).p + 1⟩ else ⟨false, .nil, (E (p + 1)).p⟩) else E (p + 1) := by unfold pAtom; rw [h]; rfl
theorem pAtom_leaf {E : Nat → PR} {L : List Mk} {p : Nat} (h : beginsI (kd L p) = true) (h10 : kd L p ≠ 10) : ∃ f, pAtom E L p = ⟨true, f, p + 1⟩ := by
  unfold pAtom
  rw [if_pos h]
  rcases begins_cases h with h1 | h1 | h1 | h1
  · rw [if_pos h1]; exact ⟨_, rfl⟩
  · rw [if_neg (by omega), if_pos h1]; exact ⟨_, rfl⟩
  · rw [if_neg (by omega), if_neg (by omega), if_pos h1]; exact ⟨_, rfl⟩
  · exact absurd h1 h10
theorem pAtom_au {E : Nat → PR} {L : List Mk} {p : Nat} (hp : p ≤ L.length) (hB : p + 1 ≤ L.length → PB L (p + 1) (E (p + 1))) (hE : p + 1 ≤ L.length → Au L (p + 1) (E (p + 1)) folE) : Au L p (pAtom E L p) (fun _ => True) := by
  cases hb : beginsI (kd L p) with
  | false =>
    rw [pAtom_no' hb]
    exact ⟨fun h => by simp at h, fun _ en b o _ => pl_stuck hp (fun _ => next_want hb) (fun _ => .inl rfl), fun _ => trivial⟩
  | true =>
    have hlt := begins_lt hb
    by_cases h10 : kd L p = 10
    · have H := hE hlt
      have HB := hB hlt
      rw [pAtom_op' h10]
      have s0 : ∀ en b o, pl L en b p o true = pl L en b (p + 1) (o + 1) true := fun en b o => pl_step hlt (by rw [h10]; exact next_open o true)
      generalize E (p + 1) = r at *
      obtain ⟨ok, f, q⟩ := r
      cases ok with
      | false => exact ⟨fun h => by simp at h, fun _ en b o ho => by simp only [Bool.false_eq_true, if_false]; rw [s0, H.bad rfl en b _ (by omega)], fun h => by simp at h⟩
      | true =>
        simp only [if_true]
        have hq := HB.le
        simp only at hq
        by_cases hc : kd L q = 11
        · rw [if_pos hc]
          have hql := kd_lt (L := L) (p := q) (by omega)
          refine ⟨fun _ en b o ho => ?_, fun h => by simp at h, fun _ => trivial⟩
          rw [s0, H.good rfl en b _ (by omega)]
          simp only
          rw [pl_step hql (by rw [hc]; exact next_close (by omega)), show o + 1 - 1 = o from by omega]
        · rw [if_neg hc]
          refine ⟨fun h => by simp at h, fun _ en b o ho => ?_, fun h => by simp at h⟩
          rw [s0, H.good rfl en b _ (by omega)]
          exact pl_stuck hq (fun _ => next_fol (H.fol rfl) (fun h => absurd h hc)) (fun _ => .inr (by omega))
    · obtain ⟨f, hf⟩ := pAtom_leaf (E := E) hb h10
      rw [hf]
      exact ⟨fun _ en b o _ => pl_step hlt (next_begin hb h10), fun h => by simp at h, fun _ => trivial⟩
theorem pSuf_au {L : List Mk} {p0 : Nat} : ∀ (m p : Nat) (f : Fo), L.length - p ≤ m → Au L p0 ⟨true, f, p⟩ (fun _ => True) → Au L p0 (pSuf L m p f) folU
  | 0, p, f, hm, h => ⟨h.good, h.bad, fun _ => by
      have : kd L p = 0 := kd_none (by omega)
      show sufK (kd L p) = 0
      rw [this]; rfl⟩
  | m + 1, p, f, hm, h => by
    unfold pSuf
    split
    · rename_i hs
      exact ⟨h.good, h.bad, fun _ => hs⟩
    · rename_i hs
      have hlt := sufK_lt' hs
      refine pSuf_au m (p + 1) _ (by omega) ⟨fun _ en b o ho => ?_, fun h => by simp at h, fun _ => trivial⟩
      rw [h.good rfl en b o ho]
      exact pl_step hlt (next_suf hs)
theorem pUnit_au {E : Nat → PR} {L : List Mk} {p : Nat} (h : Au L p (pAtom E L p) (fun _ => True)) : Au L p (pUnit E L p) folU := by
  unfold pUnit
  generalize pAtom E L p = r at *
  obtain ⟨ok, f, q⟩ := r
  cases ok with
  | false => exact ⟨fun h => by simp at h, h.bad, fun h => by simp at h⟩
  | true => simp only [if_true]; exact pSuf_au _ _ _ (Nat.le_refl _) h
theorem pMany_au' {L : List Mk} {p0 lo : Nat} {S : Nat → Option PR} {k : Int} {f0 f1 : Int → Prop} (hSb : ∀ p r, lo ≤ p → p ≤ L.length → S p = some r → p < L.length ∧ (r.ok = true → p < r.p ∧ r.p ≤ L.length)) (hSg : ∀ p r, lo ≤ p → p ≤ L.length → f0 (kd L p) → S p = some r → (r.ok = true → ∀ en b o, 0 ≤ o → pl L en b p o false = pl L en b r.p o false) ∧ (r.ok = false → ∀ en b o, 0 ≤ o → pl L en b p o false = plcR L en r.p) ∧ (r.ok = true → f0 (kd L r.p)))
    (hn : ∀ p, p ≤ L.length → f0 (kd L p) → S p = none → f1 (kd L p)) :
    ∀ (m p : Nat) (f : Fo) (n : Nat), lo ≤ p → p ≤ L.length → L.length - p ≤ m → Au L p0 ⟨true, f, p⟩ f0 → Au L p0 (pMany S k m p f n) f1
  | 0, p, f, n, hlo, hp, hm, h => by
    unfold pMany
    refine ⟨h.good, fun h => by simp at h, fun _ => hn p hp (h.fol rfl) ?_⟩
    cases hs : S p with
    | none => rfl
    | some r => have := (hSb p r hlo hp hs).1; omega
  | m + 1, p, f, n, hlo, hp, hm, h => by
    unfold pMany
    cases hs : S p with
    | none => exact ⟨h.good, fun h => by simp at h, fun _ => hn p hp (h.fol rfl) hs⟩
    | some r =>
      obtain ⟨g1, g2, g3⟩ := hSg p r hlo hp (h.fol rfl) hs
      obtain ⟨b1, b2⟩ := hSb p r hlo hp hs
      simp only
      cases hok : r.ok with
      | true =>
        rw [if_pos rfl]
        have b3 := b2 hok
        refine pMany_au' hSb hSg hn m r.p _ _ (by omega) b3.2 (by omega) ⟨fun _ en b o ho => ?_, fun h => by simp at h, fun _ => g3 hok⟩
        rw [h.good rfl en b o ho]
        exact g1 hok en b o ho
      | false =>
        rw [if_neg (by simp)]
        refine ⟨fun h => absurd h (by simp [hok]), fun _ en b o ho => ?_, fun h => absurd h (by simp [hok])⟩
        rw [h.good rfl en b o ho]
        exact g2 hok en b o ho
theorem pPart_au {E : Nat → PR} {L : List Mk} {p : Nat} (hp : p ≤ L.length) (hB : ∀ q, q ≤ L.length → PB L q (E q)) (hU : ∀ q, p ≤ q → q ≤ L.length → Au L q (pUnit E L q) folU) : Au L p (pPart E L p) folP := by
  have H := hU p (Nat.le_refl _) hp
  have HB := pUnit_b (E := E) hp (fun h => hB _ h)
  unfold pPart
  have hS : ∀ q r, q ≤ L.length → sPart E L q = some r → beginsI (kd L q) = true ∧ r = pUnit E L q := by
    intro q r _ hs
    unfold sPart at hs
    split at hs
    · rename_i hb; simp only [Option.some.injEq] at hs; exact ⟨hb, hs.symm⟩
    · cases hs
  generalize hr : pUnit E L p = r at *
  obtain ⟨ok, f, q⟩ := r
  cases ok with
  | false => exact ⟨fun h => by simp at h, H.bad, fun h => by simp at h⟩
  | true =>
    simp only [if_true]
    have hq := HB.le
    have hpq := HB.ge
    simp only at hq hpq
    refine pMany_au' (lo := p) (f0 := folU) ?_ ?_ ?_ _ _ _ _ hpq hq (Nat.le_refl _) H
    · intro q r _ hql hs
      obtain ⟨hb, rfl⟩ := hS q r hql hs
      have G := pUnit_b (E := E) (p := q) hql (fun h => hB _ h)
      exact ⟨begins_lt hb, fun h => ⟨G.lt h, G.le⟩⟩
    · intro q r hlo hql _ hs
      obtain ⟨hb, rfl⟩ := hS q r hql hs
      have G := hU q hlo hql
      exact ⟨fun h en b o ho => by rw [pl_begin hb]; exact G.good h en b o ho, fun h en b o ho => by rw [pl_begin hb]; exact G.bad h en b o ho, G.fol⟩
    · intro q hql hf hs
      refine ⟨hf, ?_⟩
      unfold sPart at hs
      split at hs
      · cases hs
      · rename_i hb; simpa using hb
theorem pExprS_au {E : Nat → PR} {L : List Mk} {p : Nat} (hp : p ≤ L.length) (hB : ∀ q, q ≤ L.length → PB L q (E q)) (hU : ∀ q, p ≤ q → q ≤ L.length → Au L q (pPart E L q) folP) : Au L p (pExprS E L p) folE := by
  have H := hU p (Nat.le_refl _) hp
  have HB := pPart_b (E := E) hp (fun q _ h => hB q h)
  unfold pExprS
  have hS : ∀ q r, q ≤ L.length → sExpr E L q = some r → kd L q = 6 ∧ r = pPart E L (q + 1) := by
    intro q r _ hs
    unfold sExpr at hs
    split at hs
    · rename_i hb; simp only [Option.some.injEq] at hs; exact ⟨hb, hs.symm⟩
    · cases hs
  generalize hr : pPart E L p = r at *
  obtain ⟨ok, f, q⟩ := r
  cases ok with
  | false => exact ⟨fun h => by simp at h, H.bad, fun h => by simp at h⟩
  | true =>
    simp only [if_true]
    have hq := HB.le
    have hpq := HB.ge
    simp only at hq hpq
    refine pMany_au' (lo := p) (f0 := folP) ?_ ?_ ?_ _ _ _ _ hpq hq (Nat.le_refl _) H
    · intro q r _ hql hs
      obtain ⟨hb, rfl⟩ := hS q r hql hs
      have hlt := kd_lt (L := L) (p := q) (by omega)
      have G := pPart_b (E := E) (p := q + 1) hlt (fun x _ h => hB x h)
      exact ⟨hlt, fun h => ⟨by have := G.lt h; omega, G.le⟩⟩
    · intro q r hlo hql _ hs
      obtain ⟨hb, rfl⟩ := hS q r hql hs
      have hlt := kd_lt (L := L) (p := q) (by omega)
      have G := hU (q + 1) (by omega) hlt
      have st : ∀ en b o, pl L en b q o false = pl L en b (q + 1) o true := fun en b o => pl_step hlt (by rw [hb]; exact next_bar o)
      exact ⟨fun h en b o ho => by rw [st]; exact G.good h en b o ho, fun h en b o ho => by rw [st]; exact G.bad h en b o ho, G.fol⟩
    · intro q hql hf hs
      refine ⟨hf.1, hf.2, ?_⟩
      unfold sExpr at hs
      split at hs
      · cases hs
      · assumption
theorem pExpr_au (L : List Mk) : ∀ (n p : Nat), p ≤ L.length → L.length - p < n → Au L p (pExpr L n p) folE
  | 0, p, _, h => by omega
  | n + 1, p, hp, h => by
    have hB : ∀ q, q ≤ L.length → PB L q (pExpr L n q) := fun q hq => pExpr_b L n q hq
    have hU : ∀ q, p ≤ q → q ≤ L.length → Au L q (pUnit (pExpr L n) L q) folU := fun q hpq hq =>
      pUnit_au (pAtom_au hq (fun h => hB _ h) (fun h2 => pExpr_au L n (q + 1) h2 (by omega)))
    exact pExprS_au hp hB (fun q hpq hq => pPart_au hq hB (fun x hx hx2 => hU x (by omega) hx2))
theorem place_parsed (L : List Mk) (en : Int) (b : Bool) : placeF L en b L.length 0 0 true =
    if (pExpr L (L.length + 1) 0).ok = true ∧ (pExpr L (L.length + 1) 0).p = L.length ∧ b = false then -1 else plcR L en (pExpr L (L.length + 1) 0).p := by
  have H := pExpr_au L (L.length + 1) 0 (by omega) (by omega)
  have HB := (pExpr_b L (L.length + 1) 0 (by omega)).le
  have e : placeF L en b L.length 0 0 true = pl L en b 0 0 true := rfl
  rw [e]
  generalize pExpr L (L.length + 1) 0 = r at *
  obtain ⟨ok, f, q⟩ := r
  cases ok with
  | false => rw [if_neg (by simp), H.bad rfl en b 0 (by omega)]
  | true =>
    rw [H.good rfl en b 0 (by omega)]
    simp only at HB ⊢
    by_cases hq : q = L.length
    · subst hq
      cases b with
      | false => rw [if_pos (by simp)]; unfold pl; rw [Nat.sub_self]; unfold placeF; rw [if_neg (by simp)]
      | true => rw [if_neg (by simp)]; unfold pl; rw [Nat.sub_self]; unfold placeF; rw [if_pos (.inl rfl), plcR_end]
    · rw [if_neg (by simp [hq])]
      exact pl_stuck HB (fun _ => next_fol (H.fol rfl) (fun _ => by omega)) (fun h => absurd h hq)
end Go.Proofs.YtfmcbpnhpckmjaaGreat
namespace Go.Proofs.YtfmcbpnhpckmjaaGreat
open Go.RowKit

/-! ### plain: brackets -/
/-- from place i on, with so many brackets open, the outermost one closes at j -/
inductive Cl (L : List Mk) : Nat → Nat → Nat → Prop where
  | here {i : Nat} : kd L i = 11 → Cl L i 1 i
  | down {i o j : Nat} : kd L i = 11 → Cl L (i + 1) (o + 1) j → Cl L i (o + 2) j
  | up {i o j : Nat} : kd L i = 10 → Cl L (i + 1) (o + 2) j → Cl L i (o + 1) j
  | other {i o j : Nat} : kd L i ≠ 10 → kd L i ≠ 11 → i < L.length → Cl L (i + 1) (o + 1) j → Cl L i (o + 1) j
theorem Cl.le {L : List Mk} {i o j : Nat} (h : Cl L i o j) : i ≤ j ∧ j < L.length ∧ 1 ≤ o := by
  induction h with
  | here h => exact ⟨Nat.le_refl _, kd_lt (by omega), Nat.le_refl _⟩
  | down _ _ ih => omega
  | up _ _ ih => omega
  | other _ _ _ _ ih => omega
def Ne (L : List Mk) (p q : Nat) : Prop := ∀ o j, Cl L q (o + 1) j → Cl L p (o + 1) j
theorem Ne.refl (L : List Mk) (p : Nat) : Ne L p p := fun _ _ h => h
theorem Ne.trans {L : List Mk} {p q r : Nat} (h : Ne L p q) (k : Ne L q r) : Ne L p r := fun o j hc => h o j (k o j hc)
theorem Ne.step {L : List Mk} {p : Nat} (h1 : kd L p ≠ 10) (h2 : kd L p ≠ 11) (h3 : p < L.length) : Ne L p (p + 1) := fun _ _ hc => .other h1 h2 h3 hc
/-- from i to q there is no bar outside brackets -/
inductive Scn (L : List Mk) : Nat → Nat → Prop where
  | refl (i : Nat) : Scn L i i
  | step {i q : Nat} : kd L i ≠ 6 → kd L i ≠ 10 → i < L.length → Scn L (i + 1) q → Scn L i q
  | jump {i j q : Nat} : kd L i = 10 → Cl L (i + 1) 1 j → Scn L (j + 1) q → Scn L i q
theorem Scn.le {L : List Mk} {i q : Nat} (h : Scn L i q) : i ≤ q := by
  induction h with
  | refl => exact Nat.le_refl _
  | step _ _ _ _ ih => omega
  | jump _ hc _ ih => have := hc.le; omega
theorem Scn.trans {L : List Mk} {a b c : Nat} (h : Scn L a b) (k : Scn L b c) : Scn L a c := by
  induction h with
  | refl => exact k
  | step h1 h2 h3 _ ih => exact .step h1 h2 h3 (ih k)
  | jump h1 h2 _ ih => exact .jump h1 h2 (ih k)
theorem Scn.one {L : List Mk} {i : Nat} (h1 : kd L i ≠ 6) (h2 : kd L i ≠ 10) (h3 : i < L.length) : Scn L i (i + 1) := .step h1 h2 h3 (.refl _)

/-! ### plain: a unit -/
def sufN (L : List Mk) (p : Nat) : Nat → List Nd
  | 0 => []
  | c + 1 => ⟨sufK (kd L (p + c)), ⟨#[]⟩, 1⟩ :: sufN L p c
theorem sufN_snoc (L : List Mk) (p : Nat) : ∀ c, sufN L (p + 1) c ++ [⟨sufK (kd L p), ⟨#[]⟩, 1⟩] = sufN L p (c + 1)
  | 0 => rfl
  | c + 1 => by
    have ih := sufN_snoc L p c
    show _ :: (sufN L (p + 1) c ++ _) = _ :: sufN L p (c + 1)
    rw [ih, show p + 1 + c = p + (c + 1) from by omega]
theorem sufN_len (L : List Mk) (p : Nat) : ∀ c, (sufN L p c).length = c
  | 0 => rfl
  | c + 1 => by simp [sufN, sufN_len L p c]
theorem pSuf_spec {L : List Mk} : ∀ (m p : Nat) (f : Fo), L.length - p ≤ m → p ≤ L.length → ∃ fu q, pSuf L m p f = ⟨true, fu, q⟩ ∧ p ≤ q ∧ q ≤ L.length ∧ (∀ x, p ≤ x → x < q → sufK (kd L x) ≠ 0) ∧ fu.flat = sufN L p (q - p) ++ f.flat ∧ sufK (kd L q) = 0
  | 0, p, f, hm, hp => ⟨f, p, rfl, Nat.le_refl _, hp, fun x h1 h2 => by omega, by rw [Nat.sub_self]; rfl, by rw [kd_none (by omega)]; rfl⟩
  | m + 1, p, f, hm, hp => by
    unfold pSuf
    by_cases hs : sufK (kd L p) = 0
    · rw [if_pos hs]
      exact ⟨f, p, rfl, Nat.le_refl _, hp, fun x h1 h2 => by omega, by rw [Nat.sub_self]; rfl, hs⟩
    · rw [if_neg hs]
      have hlt := sufK_lt' hs
      obtain ⟨fu, q, h1, h2, h2', h3, h4, h5⟩ := pSuf_spec m (p + 1) (.cons ⟨sufK (kd L p), ⟨#[]⟩, 1⟩ f .nil) (by omega) hlt
      refine ⟨fu, q, h1, by omega, h2', fun x hx1 hx2 => ?_, ?_, h5⟩
      · by_cases hx : x = p
        · subst hx; exact hs
        · exact h3 x (by omega) hx2
      · rw [h4, show q - p = (q - (p + 1)) + 1 from by omega, ← sufN_snoc]
        simp [Fo.flat]
/-- what is known of a unit that is read -/
structure UF (E : Nat → PR) (L : List Mk) (i : Nat) (fu : Fo) (qu : Nat) (fa : Fo) (pa : Nat) : Prop where
  atom : pAtom E L i = ⟨true, fa, pa⟩
  lt : i < pa
  le : pa ≤ qu
  lel : qu ≤ L.length
  suf : ∀ x, pa ≤ x → x < qu → sufK (kd L x) ≠ 0
  stop : sufK (kd L qu) = 0
  flat : fu.flat = sufN L pa (qu - pa) ++ fa.flat
  beg : beginsI (kd L i) = true
  leaf : kd L i ≠ 10 → pa = i + 1
  brk : kd L i = 10 → E (i + 1) = ⟨true, fa, pa - 1⟩ ∧ i + 2 < pa ∧ kd L (pa - 1) = 11 ∧ pa - 1 < L.length
  lf1 : kd L i = 1 → fa.flat = [⟨2, tx L i, 0⟩]
  lf2 : kd L i = 2 → fa.flat = [⟨3, tx L i, 0⟩]
  lf3 : kd L i = 12 → fa.flat = [⟨1, ⟨#[]⟩, 0⟩]
theorem unit_uf {E : Nat → PR} {L : List Mk} {i : Nat} {fu : Fo} {qu : Nat} (hi : i ≤ L.length) (hB : ∀ q, q ≤ L.length → PB L q (E q)) (h : pUnit E L i = ⟨true, fu, qu⟩) : ∃ fa pa, UF E L i fu qu fa pa := by
  unfold pUnit at h
  have HA := pAtom_b (E := E) hi (fun h => hB _ h)
  cases hb : beginsI (kd L i) with
  | false => rw [pAtom_no' hb] at h; simp at h
  | true =>
    have hlt := begins_lt hb
    generalize hr : pAtom E L i = r at *
    obtain ⟨ok, fa, pa⟩ := r
    cases ok with
    | false => simp at h
    | true =>
      simp only [if_true] at h
      have h1 := HA.lt rfl
      have h2 := HA.le
      simp only at h1 h2
      obtain ⟨fu', qu', e1, e2, e2', e3, e4, e5⟩ := pSuf_spec (L.length - pa) pa fa (Nat.le_refl _) h2
      rw [h] at e1
      simp only [PR.mk.injEq, true_and] at e1
      obtain ⟨rfl, rfl⟩ := e1
      refine ⟨fa, pa, hr, h1, e2, e2', e3, e5, e4, hb, ?_, ?_, ?_, ?_, ?_⟩
      · intro h10
        obtain ⟨f, hf⟩ := pAtom_leaf (E := E) hb h10
        rw [hr] at hf
        simp only [PR.mk.injEq, true_and] at hf
        exact hf.2
      · intro h10
        rw [pAtom_op' h10] at hr
        have HB := hB (i + 1) hlt
        generalize E (i + 1) = r2 at *
        obtain ⟨ok2, f2, q2⟩ := r2
        cases ok2 with
        | false => simp at hr
        | true =>
          simp only [if_true] at hr
          by_cases hc : kd L q2 = 11
          · rw [if_pos hc] at hr
            simp only [PR.mk.injEq, true_and] at hr
            obtain ⟨rfl, rfl⟩ := hr
            have := HB.lt rfl
            simp only at this
            exact ⟨by simp, by omega, by simpa using hc, by have := kd_lt (L := L) (p := q2) (by omega); omega⟩
          · rw [if_neg hc] at hr; simp at hr
      · intro h1
        rw [show pAtom E L i = ⟨true, leafF 2 (tx L i), i + 1⟩ from by unfold pAtom; rw [h1]; rfl] at hr
        simp only [PR.mk.injEq, true_and] at hr
        rw [← hr.1]; rfl
      · intro h1
        rw [show pAtom E L i = ⟨true, leafF 3 (tx L i), i + 1⟩ from by unfold pAtom; rw [h1]; rfl] at hr
        simp only [PR.mk.injEq, true_and] at hr
        rw [← hr.1]; rfl
      · intro h1
        rw [show pAtom E L i = ⟨true, leafF 1 ⟨#[]⟩, i + 1⟩ from by unfold pAtom; rw [h1]; rfl] at hr
        simp only [PR.mk.injEq, true_and] at hr
        rw [← hr.1]; rfl
/-- what is known of what is read: brackets pair, and no bar stands outside them -/
structure NS (L : List Mk) (p : Nat) (r : PR) : Prop where
  ne : r.ok = true → Ne L p r.p
theorem suf_k {k : Int} (h : sufK k ≠ 0) : k ≠ 6 ∧ k ≠ 10 ∧ k ≠ 11 ∧ beginsI k = false := by
  rcases suf_cases h with rfl | rfl | rfl <;> refine ⟨by decide, by decide, by decide, rfl⟩
theorem ne_suf {L : List Mk} {p : Nat} : ∀ (c : Nat), (∀ x, p ≤ x → x < p + c → sufK (kd L x) ≠ 0) → Ne L p (p + c) ∧ Scn L p (p + c)
  | 0, _ => ⟨Ne.refl _ _, .refl _⟩
  | c + 1, h => by
    obtain ⟨h1, h2⟩ := ne_suf c (fun x hx hx2 => h x hx (by omega))
    have hs := h (p + c) (by omega) (by omega)
    obtain ⟨s1, s2, s3, _⟩ := suf_k hs
    have hlt := sufK_lt' hs
    exact ⟨h1.trans (Ne.step s2 s3 hlt), h2.trans (.one s1 s2 hlt)⟩
theorem UF.cl {E : Nat → PR} {L : List Mk} {i : Nat} {fu : Fo} {qu : Nat} {fa : Fo} {pa : Nat} (U : UF E L i fu qu fa pa) (hE : NS L (i + 1) (E (i + 1))) (h : kd L i = 10) : Cl L (i + 1) 1 (pa - 1) := by
  obtain ⟨h1, h2, h3, h4⟩ := U.brk h
  have := hE.ne (by rw [h1])
  rw [h1] at this
  exact this 0 _ (.here h3)
theorem UF.ne {E : Nat → PR} {L : List Mk} {i : Nat} {fu : Fo} {qu : Nat} {fa : Fo} {pa : Nat} (U : UF E L i fu qu fa pa) (hE : NS L (i + 1) (E (i + 1))) : Ne L i qu ∧ Scn L i qu := by
  have hsuf := ne_suf (L := L) (p := pa) (qu - pa) (fun x h1 h2 => U.suf x h1 (by omega))
  rw [show pa + (qu - pa) = qu from by have := U.le; omega] at hsuf
  have hlt := begins_lt U.beg
  by_cases h10 : kd L i = 10
  · obtain ⟨h1, h2, h3, h4⟩ := U.brk h10
    have hc := U.cl hE h10
    have hne := hE.ne (by rw [h1])
    rw [h1] at hne
    simp only at hne
    have e : pa - 1 + 1 = pa := by omega
    refine ⟨?_, ?_⟩
    · intro o j hcl
      have q1 := hsuf.1 o j hcl
      refine .up h10 (hne (o + 1) j ?_)
      refine .down h3 ?_
      rw [e]; exact q1
    · refine .jump h10 hc ?_
      rw [e]; exact hsuf.2
  · have hpa := U.leaf h10
    subst hpa
    have h11 : kd L i ≠ 11 := by intro h; have := U.beg; rw [h] at this; simp [beginsI] at this
    have h6 : kd L i ≠ 6 := by intro h; have := U.beg; rw [h] at this; simp [beginsI] at this
    exact ⟨(Ne.step h10 h11 hlt).trans hsuf.1, (Scn.one h6 h10 hlt).trans hsuf.2⟩

/-! ### plain: several joined -/
theorem pMany_ge {L : List Mk} {S : Nat → Option PR} {k : Int} (hS : ∀ p r, p ≤ L.length → S p = some r → r.ok = true → p ≤ r.p ∧ r.p ≤ L.length) : ∀ (m p : Nat) (f : Fo) (n : Nat), p ≤ L.length → (pMany S k m p f n).ok = true → p ≤ (pMany S k m p f n).p ∧ (pMany S k m p f n).p ≤ L.length
  | 0, p, f, n, hp, _ => ⟨Nat.le_refl _, hp⟩
  | m + 1, p, f, n, hp, h => by
    unfold pMany at h ⊢
    cases hs : S p with
    | none => exact ⟨Nat.le_refl _, hp⟩
    | some r =>
      rw [hs] at h
      simp only at h ⊢
      cases hok : r.ok with
      | false => rw [hok, if_neg (by simp)] at h; rw [hok] at h; cases h
      | true =>
        rw [hok, if_pos rfl] at h
        rw [if_pos rfl]
        have h1 := hS p r hp hs hok
        have h2 := pMany_ge hS m r.p (f.app r.f) (n + 1) h1.2 h
        exact ⟨by omega, h2.2⟩
/-- the state of a loop that joins what S reads: done, or at one more -/
structure MS (S : Nat → Option PR) (k : Int) (L : List Mk) (q : Nat) (f : Fo) (i : Nat) (g : Fo) (n : Nat) (r : PR) : Prop where
  ok : r.ok = true
  ge : i ≤ r.p
  le : r.p ≤ q
  more : ∃ m, L.length - r.p ≤ m ∧ pMany S k m r.p (g.app r.f) (n + 1) = ⟨true, f, q⟩
theorem MS.next {S : Nat → Option PR} {k : Int} {L : List Mk} {q : Nat} {f : Fo} {i : Nat} {g : Fo} {n : Nat} {r : PR} (h : MS S k L q f i g n r) (hq : q ≤ L.length) (hS : ∀ p r, p ≤ L.length → S p = some r → p < L.length ∧ (r.ok = true → p < r.p ∧ r.p ≤ L.length)) :
    (S r.p = none ∧ r.p = q ∧ f = wrapF k (n + 1) (g.app r.f)) ∨ (∃ r2, S r.p = some r2 ∧ r.p < q ∧ MS S k L q f r.p (g.app r.f) (n + 1) r2) := by
  obtain ⟨m, hm, e⟩ := h.more
  have hrl : r.p ≤ L.length := Nat.le_trans h.le hq
  cases hs : S r.p with
  | none =>
    left
    rw [show pMany S k m r.p (g.app r.f) (n + 1) = ⟨true, wrapF k (n + 1) (g.app r.f), r.p⟩ from by cases m with | zero => rfl | succ m => unfold pMany; rw [hs]] at e
    simp only [PR.mk.injEq, true_and] at e
    exact ⟨rfl, e.2, e.1.symm⟩
  | some r2 =>
    right
    obtain ⟨hlt, hge⟩ := hS _ _ hrl hs
    obtain ⟨m', rfl⟩ : ∃ m', m = m' + 1 := ⟨m - 1, by omega⟩
    unfold pMany at e
    rw [hs] at e
    simp only at e
    cases hok : r2.ok with
    | false => rw [hok, if_neg (by simp)] at e; rw [e] at hok; cases hok
    | true =>
      rw [hok, if_pos rfl] at e
      have h1 := hge hok
      have h2 := pMany_ge (k := k) (fun p r hp hs hok => ⟨Nat.le_of_lt ((hS p r hp hs).2 hok).1, ((hS p r hp hs).2 hok).2⟩) m' r2.p ((g.app r.f).app r2.f) (n + 1 + 1) h1.2 (by rw [e])
      rw [e] at h2
      simp only at h2
      refine ⟨r2, rfl, by omega, ⟨hok, Nat.le_of_lt h1.1, h2.1, m', by omega, e⟩⟩
end Go.Proofs.YtfmcbpnhpckmjaaGreat
namespace Go.Proofs.YtfmcbpnhpckmjaaGreat
open Go.RowKit Go.Shelf
end Go.Proofs.YtfmcbpnhpckmjaaGreat
namespace Go.Proofs.YtfmcbpnhpckmjaaGreat
open Go.RowKit Go.Shelf
attribute [local go_sem] Oper.semAt_some

/-! ### plain: where the last mark ends -/
def lastEnd : Nat → List Mk → Nat
  | k, [] => k
  | _, m :: r => lastEnd (m.p + m.t.size) r
def endI (l : List Mk) : Int := l.foldl (fun _ m => wrap64 ((m.p : Int) + m.t.size)) 0
theorem endI_snoc (l : List Mk) (m : Mk) : endI (l ++ [m]) = wrap64 ((m.p : Int) + m.t.size) := by
  unfold endI; rw [List.foldl_append, List.foldl_cons, List.foldl_nil]
theorem wrap_sum (m : Mk) (hm : m.p + m.t.size ≤ 16777216) : wrap64 ((m.p : Int) + m.t.size) = ((m.p + m.t.size : Nat) : Int) := by
  rw [wrap64_small _ (by omega) (by omega)]; omega
theorem endI_from (l : List Mk) (h : ∀ m ∈ l, m.p + m.t.size ≤ 16777216) : ∀ (k : Nat) (a : Int), a = k → l.foldl (fun _ m => wrap64 ((m.p : Int) + m.t.size)) a = (lastEnd k l : Nat) := by
  induction l with
  | nil => intro k a ha; exact ha
  | cons m r ih =>
    intro k a ha
    have hm := wrap_sum m (h m (List.mem_cons_self ..))
    exact ih (fun x hx => h x (List.mem_cons_of_mem _ hx)) _ _ hm
theorem cut_last (s : ByteArray) : ∀ (n k : Nat), k ≤ s.size → s.size - k ≤ n →
    lastEnd k (cut s k).1 ≤ s.size ∧ (nextM s (lastEnd k (cut s k).1)).k = 0 ∧ (nextM s (lastEnd k (cut s k).1)).p = (cut s k).2 ∧ ∀ m ∈ (cut s k).1, m.p + m.t.size ≤ s.size := by
  intro n
  induction n with
  | zero =>
    intro k h hn
    by_cases hz : (nextM s k).k = 0
    · rw [cut_none s k h hz]; simp [lastEnd, h, hz]
    · have := nextM_size s k hz; omega
  | succ n ih =>
    intro k h hn
    by_cases hz : (nextM s k).k = 0
    · rw [cut_none s k h hz]; simp [lastEnd, h, hz]
    · have h1 := nextM_size s k hz
      have h2 := ih ((nextM s k).p + (nextM s k).t.size) (by omega) (by omega)
      rw [cut_some s k h hz]
      refine ⟨h2.1, h2.2.1, h2.2.2.1, ?_⟩
      intro m hm
      rcases List.mem_cons.1 hm with rfl | hm
      · exact h1.2.1
      · exact h2.2.2.2 m hm
def scanM (s : ByteArray) : List Mk × Int × Int := if (cut s 0).2 < s.size then ([], (cut s 0).2, 160) else ((cut s 0).1, 0, 0)

/-! ### Scan -/
end Go.Proofs.YtfmcbpnhpckmjaaGreat
namespace Go.Proofs.YtfmcbpnhpckmjaaGreat
open Go.RowKit

def RdMk (w : World) (v : Value) (l : List Mk) : Prop := Rd w v l.length 3 (flatMk l)
theorem flatMk_len (l : List Mk) : (flatMk l).length = 3 * l.length := by
  induction l with
  | nil => rfl
  | cons m r ih => have : flatMk (m :: r) = m.cells ++ flatMk r := rfl
                   rw [this, List.length_append, ih]; simp [Mk.cells]; omega
theorem flatMk_at (l : List Mk) (i : Nat) (m : Mk) (h : l[i]? = some m) : (flatMk l)[3 * i]? = some (.int .i64 m.k) ∧ (flatMk l)[3 * i + 1]? = some (.int .i64 m.p) ∧ (flatMk l)[3 * i + 2]? = some (.string m.t) := by
  induction l generalizing i with
  | nil => simp at h
  | cons x r ih =>
    have e : flatMk (x :: r) = .int .i64 x.k :: .int .i64 x.p :: .string x.t :: flatMk r := rfl
    cases i with
    | zero => simp at h; subst h; rw [e]; simp
    | succ i =>
      have h2 := ih i (by simpa using h)
      rw [e, show 3 * (i + 1) = 3 * i + 1 + 1 + 1 from by omega]
      simpa using h2
/-- the cells of the i-th mark -/
theorem RdMk.at {w : World} {v : Value} {l : List Mk} (h : RdMk w v l) {i : Nat} {m : Mk} (hm : l[i]? = some m) :
    ∃ b off cap, v = .slice (some ⟨b, off, none⟩) l.length cap ∧ b < w.heap.size ∧ l.length ≤ cap ∧
      w.cell? ⟨b, off + i * 3, none⟩ = some (.int .i64 m.k) ∧ w.cell? ⟨b, off + i * 3 + 1, none⟩ = some (.int .i64 m.p) ∧ w.cell? ⟨b, off + i * 3 + 2, none⟩ = some (.string m.t) := by
  have hi : i < l.length := (List.getElem?_eq_some_iff.1 hm).1
  obtain ⟨b, off, cap, h1, h2, h3, h4⟩ := Rd.at h hi
  obtain ⟨q0, q1, q2⟩ := flatMk_at l i m hm
  rw [show 3 * i = i * 3 from by omega] at q0 q1 q2
  exact ⟨b, off, cap, h1, h2, h3, h4 _ _ q0, h4 _ _ q1, h4 _ _ q2⟩

end Go.Proofs.YtfmcbpnhpckmjaaGreat
namespace Go.Proofs.YtfmcbpnhpckmjaaGreat
open Go.RowKit

/-! ### the reader -/
/-- where a text goes wrong at the p-th mark -/
def plc (L : List Mk) (en : Int) (p : Nat) : Int := match L[p]? with | some m => (m.p : Int) | none => en
theorem lit_i64 {a b : Int} (h : a = b) : Ending.returned (.int .i64 a) = .returned (.int .i64 b) := by rw [h]

end Go.Proofs.YtfmcbpnhpckmjaaGreat
namespace Go.Proofs.YtfmcbpnhpckmjaaGreat
open Go.RowKit

theorem elemNd : ElemOK Tryz.prog 36 41 3 32 :=
  ElemOK.mk' (z := .agg #[.int .i64 0, .string ⟨#[]⟩, .int .i64 0]) Tryz.underlying36 (by kernel_rfl) rfl (by decide)
def OwnNd (w : World) (B : Nat) (v : Value) (l : List Nd) : Prop := w.ownsRow B 41 3 v l.length (flatNd l)
theorem flatNd_app (a b : List Nd) : flatNd (a ++ b) = flatNd a ++ flatNd b := by simp [flatNd]
theorem flatNd_len (l : List Nd) : (flatNd l).length = l.length * 3 := by
  induction l with
  | nil => rfl
  | cons x r ih => have : flatNd (x :: r) = x.cells ++ flatNd r := rfl
                   rw [this, List.length_append, ih]; simp [Nd.cells]; omega
theorem flatNd_one (l : List Nd) : ∀ u ∈ flatNd l, u.oneCell' = true := by
  intro u hu
  unfold flatNd at hu
  rw [List.mem_flatMap] at hu
  obtain ⟨m, _, hm⟩ := hu
  simp [Nd.cells] at hm
  rcases hm with rfl | rfl | rfl <;> rfl
/-- a new list of one node -/
theorem OwnNd.one (w : World) (B : Nat) (hB : B ≤ w.heap.size) (x : Nd) : OwnNd (w.alloc (.cells #[.int .i64 x.k, .string x.n, .int .i64 x.c] 41)) B (.slice (some ⟨w.heap.size, 0, none⟩) 1 1) [x] :=
  ⟨rfl, .inr ⟨w.heap.size, 1, _, rfl, hB, World.alloc_heap_new w _, Nat.le_refl _, by unfold maxLen; omega, rfl, rfl⟩⟩
theorem OwnNd.lower {w : World} {B C : Nat} {v : Value} {l : List Nd} (h : OwnNd w B v l) (hC : C ≤ B) : OwnNd w C v l := by
  refine ⟨h.1, ?_⟩
  rcases h.2 with h | ⟨g, cap, cur, h2, h3, h4⟩
  · exact .inl h
  · exact .inr ⟨g, cap, cur, h2, by omega, h4⟩
theorem OwnNd.grown {w w' : World} {B : Nat} {v : Value} {l : List Nd} {row : Option Nat} (h : OwnNd w B v l) (hg : w.grownBy w' row) (hr : ∀ j, row = some j → j < B) : OwnNd w' B v l := by
  refine World.ownsRow.kept h hg ?_
  rcases h.2 with ⟨rfl, _⟩ | ⟨g, cap, cur, rfl, hB, _⟩
  · exact .inl rfl
  · right
    intro e
    have := hr g e.symm
    omega

theorem pAtom_no {E : Nat → PR} {L : List Mk} {p : Nat} (h : beginsI (kd L p) = false) : pAtom E L p = ⟨false, .nil, p⟩ := by unfold pAtom; rw [if_neg (by simp [h])]
theorem pAtom_up {E : Nat → PR} {L : List Mk} {p : Nat} (h : kd L p = 1) : pAtom E L p = ⟨true, leafF 2 (tx L p), p + 1⟩ := by unfold pAtom; rw [h]; rfl
theorem pAtom_lo {E : Nat → PR} {L : List Mk} {p : Nat} (h : kd L p = 2) : pAtom E L p = ⟨true, leafF 3 (tx L p), p + 1⟩ := by unfold pAtom; rw [h]; rfl
theorem pAtom_em {E : Nat → PR} {L : List Mk} {p : Nat} (h : kd L p = 12) : pAtom E L p = ⟨true, leafF 1 ⟨#[]⟩, p + 1⟩ := by unfold pAtom; rw [h]; rfl
theorem pAtom_op {E : Nat → PR} {L : List Mk} {p : Nat} (h : kd L p = 10) : pAtom E L p = if (E (p + 1)).ok then (if kd L (E (p + 1)).p = 11 then ⟨true, (E (p + 1)).f, (E (p + 1)).p + 1⟩ else ⟨false, .nil, (E (p + 1)).p⟩) else E (p + 1) := by unfold pAtom; rw [h]; rfl

end Go.Proofs.YtfmcbpnhpckmjaaGreat
namespace Go.Proofs.YtfmcbpnhpckmjaaGreat
open Go.RowKit Go.Shelf

theorem pMany_rel {L : List Mk} {S : Nat → Option PR} {k : Int} {R : Nat → Nat → Prop} (hr : ∀ p, R p p) (ht : ∀ a b c, R a b → R b c → R a c) (hS : ∀ p r, p ≤ L.length → S p = some r → r.ok = true → R p r.p ∧ r.p ≤ L.length) :
    ∀ (m p : Nat) (f : Fo) (n : Nat), p ≤ L.length → (pMany S k m p f n).ok = true → R p (pMany S k m p f n).p
  | 0, p, f, n, hp, _ => hr p
  | m + 1, p, f, n, hp, h => by
    unfold pMany at h ⊢
    cases hs : S p with
    | none => exact hr p
    | some r =>
      rw [hs] at h
      simp only at h ⊢
      cases hok : r.ok with
      | false => rw [hok, if_neg (by simp)] at h; rw [hok] at h; cases h
      | true =>
        rw [hok, if_pos rfl] at h
        rw [if_pos rfl]
        have h1 := hS p r hp hs hok
        exact ht _ _ _ h1.1 (pMany_rel hr ht hS m r.p (f.app r.f) (n + 1) h1.2 h)
theorem sPart_some {E : Nat → PR} {L : List Mk} {q : Nat} {r : PR} (h : sPart E L q = some r) : beginsI (kd L q) = true ∧ r = pUnit E L q := by
  unfold sPart at h
  split at h
  · rename_i hb; simp only [Option.some.injEq] at h; exact ⟨hb, h.symm⟩
  · cases h
theorem sExpr_some {E : Nat → PR} {L : List Mk} {q : Nat} {r : PR} (h : sExpr E L q = some r) : kd L q = 6 ∧ r = pPart E L (q + 1) := by
  unfold sExpr at h
  split at h
  · rename_i hb; simp only [Option.some.injEq] at h; exact ⟨hb, h.symm⟩
  · cases h
theorem unit_ns {E : Nat → PR} {L : List Mk} {i : Nat} {fu : Fo} {qu : Nat} (hi : i ≤ L.length) (hB : ∀ q, q ≤ L.length → PB L q (E q)) (hE : ∀ q, NS L q (E q)) (h : pUnit E L i = ⟨true, fu, qu⟩) : Ne L i qu ∧ Scn L i qu := by
  obtain ⟨fa, pa, U⟩ := unit_uf hi hB h
  exact U.ne (hE _)
theorem part_ns {E : Nat → PR} {L : List Mk} {i : Nat} {f : Fo} {q : Nat} (hi : i ≤ L.length) (hB : ∀ q, q ≤ L.length → PB L q (E q)) (hE : ∀ q, NS L q (E q)) (h : pPart E L i = ⟨true, f, q⟩) : Ne L i q ∧ Scn L i q := by
  unfold pPart at h
  have HU := pUnit_b (E := E) hi (fun h => hB _ h)
  generalize hr : pUnit E L i = r at *
  obtain ⟨ok, f0, q0⟩ := r
  cases ok with
  | false => simp at h
  | true =>
    simp only [if_true] at h
    have h0 := unit_ns hi hB hE hr
    have := pMany_rel (L := L) (S := sPart E L) (k := 4) (R := fun a b => Ne L a b ∧ Scn L a b) (fun p => ⟨Ne.refl _ _, .refl _⟩) (fun a b c h k => ⟨h.1.trans k.1, h.2.trans k.2⟩) (fun p r hp hs hok => by
      obtain ⟨_, rfl⟩ := sPart_some hs
      have G := pUnit_b (E := E) hp (fun h => hB _ h)
      refine ⟨?_, G.le⟩
      refine unit_ns hp hB hE (fu := (pUnit E L p).f) ?_
      generalize pUnit E L p = r2 at *
      obtain ⟨o2, f2, q2⟩ := r2
      simp only at hok; subst hok; rfl) (L.length - q0) q0 f0 1 HU.le (by rw [h])
    rw [h] at this
    exact ⟨h0.1.trans this.1, h0.2.trans this.2⟩
theorem exprS_ns {E : Nat → PR} {L : List Mk} {i : Nat} (hi : i ≤ L.length) (hB : ∀ q, q ≤ L.length → PB L q (E q)) (hE : ∀ q, NS L q (E q)) : NS L i (pExprS E L i) := by
  refine ⟨fun hok => ?_⟩
  unfold pExprS at hok ⊢
  have HU := pPart_b (E := E) hi (fun q _ h => hB q h)
  generalize hr : pPart E L i = r at *
  obtain ⟨ok, f0, q0⟩ := r
  cases ok with
  | false => simp at hok
  | true =>
    simp only [if_true] at hok ⊢
    have h0 := part_ns hi hB hE hr
    refine h0.1.trans (pMany_rel (L := L) (S := sExpr E L) (k := 5) (R := fun a b => Ne L a b) (fun p => Ne.refl _ _) (fun a b c h k => h.trans k) (fun p r hp hs hok => ?_) (L.length - q0) q0 f0 1 HU.le hok)
    obtain ⟨h6, rfl⟩ := sExpr_some hs
    have hlt := kd_lt (L := L) (p := p) (by omega)
    have G := pPart_b (E := E) (p := p + 1) hlt (fun q _ h => hB q h)
    refine ⟨(Ne.step (by omega) (by omega) hlt).trans ?_, G.le⟩
    refine (part_ns hlt hB hE (f := (pPart E L (p + 1)).f) ?_).1
    generalize pPart E L (p + 1) = r2 at *
    obtain ⟨o2, f2, q2⟩ := r2
    simp only at hok; subst hok; rfl
theorem pExpr_ns (L : List Mk) : ∀ (n p : Nat), NS L p (pExpr L n p)
  | 0, p => ⟨fun h => by simp [pExpr] at h⟩
  | n + 1, p => by
    by_cases hp : p ≤ L.length
    · exact exprS_ns hp (fun q hq => pExpr_b L n q hq) (fun q => pExpr_ns L n q)
    · -- behind all marks nothing is read
      refine ⟨fun h => ?_⟩
      have hk : kd L p = 0 := kd_none (by omega)
      have e : pExpr L (n + 1) p = ⟨false, .nil, p⟩ := by
        show pExprS _ _ _ = _
        unfold pExprS pPart pUnit pAtom
        rw [hk]; simp [beginsI]
      rw [e] at h; cases h

/-- a piece of the tokens, read -/
structure TkS (w : World) (v : Value) (L : List Mk) (p q : Nat) : Prop where
  lt : p < q
  le : q ≤ L.length
  ex : ∃ b off cap, v = .slice (some ⟨b, off, none⟩) (q - p) cap ∧ q - p ≤ cap ∧ b < w.heap.size ∧ ∀ i m, p + i < q → L[p + i]? = some m → w.cell? ⟨b, off + i * 3, none⟩ = some (.int .u8 (tkB m.k)) ∧ w.cell? ⟨b, off + i * 3 + 2, none⟩ = some (.string m.t)
theorem TkS.below {w w' : World} {v : Value} {L : List Mk} {p q : Nat} (h : TkS w v L p q) (hb : Below w.heap.size w w') : TkS w' v L p q := by
  obtain ⟨b, off, cap, e, h1, h2, h3⟩ := h.ex
  refine ⟨h.lt, h.le, b, off, cap, e, h1, by have := hb.size; omega, fun i m hi hm => ?_⟩
  obtain ⟨k1, k2⟩ := h3 i m hi hm
  exact ⟨(hb.cell (p := ⟨b, _, none⟩) h2).trans k1, (hb.cell (p := ⟨b, _, none⟩) h2).trans k2⟩
theorem TkS.sub {w : World} {b off cap n : Nat} {L : List Mk} {p q : Nat} (h : TkS w (.slice (some ⟨b, off, none⟩) n cap) L p q) (i j : Nat) (hij : i < j) (hj : p + j ≤ q) : TkS w (.slice (some ⟨b, off + i * 3, none⟩) (j - i) (cap - i)) L (p + i) (p + j) := by
  obtain ⟨b', off', cap', e, h1, h2, h3⟩ := h.ex
  simp only [Value.slice.injEq, Option.some.injEq, Addr.mk.injEq] at e
  obtain ⟨⟨rfl, rfl, -⟩, rfl, rfl⟩ := e
  have := h.le
  refine ⟨by omega, by omega, b, off + i * 3, cap - i, by rw [show p + j - (p + i) = j - i from by omega], by omega, h2, fun x m hx hm => ?_⟩
  obtain ⟨k1, k2⟩ := h3 (i + x) m (by omega) (by rw [show p + (i + x) = p + i + x from by omega]; exact hm)
  rw [show off + i * 3 + x * 3 = off + (i + x) * 3 from by omega]
  exact ⟨k1, k2⟩
theorem tk_ne (k c d : Int) (h1 : 1 ≤ k) (h2 : k ≤ 12) (hd : tkB d = c) (hd1 : 1 ≤ d) (hd2 : d ≤ 12) (hk : k ≠ d) : (tkB k == c) = false := by
  subst hd
  obtain rfl | rfl | rfl | rfl | rfl | rfl | rfl | rfl | rfl | rfl | rfl | rfl : k = 1 ∨ k = 2 ∨ k = 3 ∨ k = 4 ∨ k = 5 ∨ k = 6 ∨ k = 7 ∨ k = 8 ∨ k = 9 ∨ k = 10 ∨ k = 11 ∨ k = 12 := by omega
  all_goals
    obtain rfl | rfl | rfl | rfl | rfl | rfl | rfl | rfl | rfl | rfl | rfl | rfl : d = 1 ∨ d = 2 ∨ d = 3 ∨ d = 4 ∨ d = 5 ∨ d = 6 ∨ d = 7 ∨ d = 8 ∨ d = 9 ∨ d = 10 ∨ d = 11 ∨ d = 12 := by omega
    all_goals first | rfl | exact absurd rfl hk
theorem tk40 : tkB 10 = 40 := rfl
theorem tk41 : tkB 11 = 41 := rfl

end Go.Proofs.YtfmcbpnhpckmjaaGreat
namespace Go.Proofs.YtfmcbpnhpckmjaaGreat
open Go.RowKit Go.Shelf

theorem own_below {w w' : World} {B : Nat} {v : Value} {l : List Nd} (h : OwnNd w B v l) (hb : Below w.heap.size w w') : OwnNd w' B v l := h.grown (grown_below hb) (by simp)
/-- what a function leaves that makes a list of nodes -/
def ERet (w : World) (l : List Nd) (e : Ending) (w' : World) : Prop := ∃ v, e = .returned v ∧ OwnNd w' w.heap.size v l ∧ Below w.heap.size w w'
theorem OwnNd.snoc {w : World} {B : Nat} {v : Value} {l : List Nd} {x : Nd} (h : w.ownsRow B 41 3 v (l.length + 1) (flatNd l ++ [.int .i64 x.k, .string x.n, .int .i64 x.c])) : OwnNd w B v (l ++ [x]) := by
  unfold OwnNd; rw [flatNd_app, List.length_append]; exact h
theorem nd_one {a b c : Value} (ha : a.oneCell' = true) (hb : b.oneCell' = true) (hc : c.oneCell' = true) : ∀ u ∈ [a, b, c], u.oneCell' = true := by
  intro u hu
  simp at hu
  rcases hu with rfl | rfl | rfl <;> assumption
theorem own_blk {w : World} {B : Nat} {v : Value} {l : List Nd} (h : OwnNd w B v l) {j : Nat} (hj : v.ownBlock = some j) : B ≤ j := own_block h j hj
theorem tk_suf {k : Int} (h : sufK k ≠ 0) : (k = 7 ∧ tkB k = 42 ∧ sufK k = 6) ∨ (k = 8 ∧ tkB k = 43 ∧ sufK k = 7) ∨ (k = 9 ∧ tkB k = 63 ∧ sufK k = 8) := by
  rcases suf_cases h with rfl | rfl | rfl
  · exact .inl ⟨rfl, rfl, rfl⟩
  · exact .inr (.inl ⟨rfl, rfl, rfl⟩)
  · exact .inr (.inr ⟨rfl, rfl, rfl⟩)

end Go.Proofs.YtfmcbpnhpckmjaaGreat
namespace Go.Proofs.YtfmcbpnhpckmjaaGreat
open Go.RowKit

/-- the reader's place -/
def posOf (w : World) (Br : Nat) : Nat := match w.cell? ⟨Br, 1, none⟩ with | some (.int _ n) => n.toNat | _ => 0
theorem sufK_cases (k : Int) : (k = 7 ∧ sufK k = 6) ∨ (k = 8 ∧ sufK k = 7) ∨ (k = 9 ∧ sufK k = 8) ∨ (¬ k = 7 ∧ ¬ k = 8 ∧ ¬ k = 9 ∧ sufK k = 0) := by
  unfold sufK
  by_cases h1 : k = 7
  · simp [h1]
  · by_cases h2 : k = 8
    · simp [h2]
    · by_cases h3 : k = 9
      · simp [h3]
      · simp [h1, h2, h3]
theorem pSuf_step {L : List Mk} {m p : Nat} {f : Fo} {c : Int} (hp : p < L.length) (hm : L.length - p = m) (hc : sufK (kd L p) = c) (h0 : c ≠ 0) : pSuf L m p f = pSuf L (L.length - (p + 1)) (p + 1) (.cons ⟨c, ⟨#[]⟩, 1⟩ f .nil) := by
  obtain ⟨m', rfl⟩ : ∃ m', m = m' + 1 := ⟨m - 1, by omega⟩
  rw [show L.length - (p + 1) = m' from by omega]
  conv => lhs; unfold pSuf
  rw [hc, if_neg h0]
theorem pSuf_stop {L : List Mk} {m p : Nat} {f : Fo} (hc : sufK (kd L p) = 0) : pSuf L m p f = ⟨true, f, p⟩ := by
  cases m with
  | zero => rfl
  | succ m => unfold pSuf; rw [if_pos hc]
theorem flat_pos {f : Fo} (h : f.len = 1) : 0 < f.flat.length := by
  cases f with
  | nil => simp [Fo.len] at h
  | cons x k r => simp [Fo.flat]
/-- a node laid ahead of a list -/
theorem cons_flat (x : Nd) (f : Fo) : [x] ++ f.flat = (Fo.cons x f .nil).flat := by simp [Fo.flat]

theorem cells_kept {w w' : World} {row : Option Nat} {g : Nat} {xs : List Value} (h : ∀ j u, xs[j]? = some u → w.cell? ((⟨g, 0, none⟩ : Addr).add j) = some u) (hg : w.grownBy w' row) (hne : some g ≠ row) :
    ∀ j u, xs[j]? = some u → w'.cell? ((⟨g, 0, none⟩ : Addr).add j) = some u := by
  intro j u hj
  refine hg.cell (h j u hj) ?_
  rw [Addr.add_lit]; exact hne

end Go.Proofs.YtfmcbpnhpckmjaaGreat
namespace Go.Proofs.YtfmcbpnhpckmjaaGreat
open Go.RowKit Go.Shelf

theorem sPart_step {E : Nat → PR} {L : List Mk} (hB : ∀ q, q ≤ L.length → PB L q (E q)) : ∀ p r, p ≤ L.length → sPart E L p = some r → p < L.length ∧ (r.ok = true → p < r.p ∧ r.p ≤ L.length) := by
  intro p r hp hs
  obtain ⟨hb, rfl⟩ := sPart_some hs
  have G := pUnit_b (E := E) hp (fun h => hB _ h)
  exact ⟨begins_lt hb, fun h => ⟨G.lt h, G.le⟩⟩
theorem sExpr_step {E : Nat → PR} {L : List Mk} (hB : ∀ q, q ≤ L.length → PB L q (E q)) : ∀ p r, p ≤ L.length → sExpr E L p = some r → p < L.length ∧ (r.ok = true → p < r.p ∧ r.p ≤ L.length) := by
  intro p r hp hs
  obtain ⟨hb, rfl⟩ := sExpr_some hs
  have hlt := kd_lt (L := L) (p := p) (by omega)
  have G := pPart_b (E := E) (p := p + 1) hlt (fun q _ h => hB q h)
  exact ⟨hlt, fun h => ⟨by have := G.lt h; omega, G.le⟩⟩
/-- where the loop over units stands -/
def PSt (E : Nat → PR) (L : List Mk) (q : Nat) (f : Fo) (i : Nat) (g : Fo) (n : Nat) : Prop :=
  (i = q ∧ 1 ≤ n ∧ f = wrapF 4 n g) ∨ (i < q ∧ MS (sPart E L) 4 L q f i g n (pUnit E L i))
theorem part_start {E : Nat → PR} {L : List Mk} {p q : Nat} {f : Fo} (hp : p ≤ L.length) (hB : ∀ q, q ≤ L.length → PB L q (E q)) (h : pPart E L p = ⟨true, f, q⟩) : PSt E L q f p .nil 0 := by
  right
  unfold pPart at h
  have G := pUnit_b (E := E) hp (fun h => hB _ h)
  generalize pUnit E L p = r at *
  obtain ⟨ok, f0, q0⟩ := r
  cases ok with
  | false => simp at h
  | true =>
    simp only [if_true] at h
    have h1 := G.lt rfl
    have h2 := G.le
    simp only at h1 h2
    have h3 := pMany_ge (k := 4) (fun p r hp hs hok => ⟨Nat.le_of_lt ((sPart_step hB p r hp hs).2 hok).1, ((sPart_step hB p r hp hs).2 hok).2⟩) (L.length - q0) q0 f0 1 h2 (by rw [h])
    rw [h] at h3
    simp only at h3
    exact ⟨by omega, rfl, by simp only; omega, h3.1, L.length - q0, Nat.le_refl _, h⟩
theorem part_next {E : Nat → PR} {L : List Mk} {q i n : Nat} {f g fu : Fo} {qu : Nat} (hq : q ≤ L.length) (hB : ∀ q, q ≤ L.length → PB L q (E q)) (h : MS (sPart E L) 4 L q f i g n ⟨true, fu, qu⟩) : PSt E L q f qu (g.app fu) (n + 1) ∧ (qu = q ∨ (qu < q ∧ beginsI (kd L qu) = true)) := by
  rcases h.next hq (sPart_step hB) with ⟨_, h2, h3⟩ | ⟨r2, h1, h2, h3⟩
  · exact ⟨.inl ⟨h2, by omega, h3⟩, .inl h2⟩
  · obtain ⟨hb, rfl⟩ := sPart_some h1
    exact ⟨.inr ⟨h2, h3⟩, .inr ⟨h2, hb⟩⟩
theorem wrap_one (k : Int) (g : Fo) : wrapF k 1 g = g := rfl
theorem wrap_flat {k : Int} {n : Nat} {g : Fo} (h : n ≠ 1) : (wrapF k n g).flat = [⟨k, ⟨#[]⟩, n⟩] ++ g.flat := by unfold wrapF; rw [if_neg h]; simp [Fo.flat]

end Go.Proofs.YtfmcbpnhpckmjaaGreat
namespace Go.Proofs.YtfmcbpnhpckmjaaGreat
open Go.RowKit Go.Shelf

/-- where the loop over the tokens of an expression stands: within a part that begins at fr -/
structure TSt (E : Nat → PR) (L : List Mk) (q : Nat) (f : Fo) (fr i : Nat) (g : Fo) (n : Nat) (fp : Fo) (qp : Nat) : Prop where
  part : pPart E L fr = ⟨true, fp, qp⟩
  more : MS (sExpr E L) 5 L q f fr g n ⟨true, fp, qp⟩
  ge : fr ≤ i
  lt : fr < qp
  scn : Scn L i qp
  size : fp.size + 1 ≤ 2 * (qp - fr)
  one : fp.len = 1
theorem TSt.begin {E : Nat → PR} {L : List Mk} {q : Nat} {f : Fo} {fr : Nat} {g : Fo} {n : Nat} (hf : fr ≤ L.length) (hB : ∀ q, q ≤ L.length → PB L q (E q)) (hE : ∀ q, NS L q (E q)) (h : MS (sExpr E L) 5 L q f fr g n (pPart E L fr)) : ∃ fp qp, TSt E L q f fr fr g n fp qp := by
  have G := pPart_b (E := E) hf (fun q _ h => hB q h)
  have hok := h.ok
  generalize hr : pPart E L fr = r at *
  obtain ⟨ok, fp, qp⟩ := r
  simp only at hok
  subst hok
  exact ⟨fp, qp, hr, h, Nat.le_refl _, G.lt rfl, (part_ns hf hB hE hr).2, G.size rfl, G.one rfl⟩
theorem tree_start {E : Nat → PR} {L : List Mk} {p q : Nat} {f : Fo} (hp : p ≤ L.length) (hB : ∀ q, q ≤ L.length → PB L q (E q)) (hE : ∀ q, NS L q (E q)) (h : pExprS E L p = ⟨true, f, q⟩) : ∃ fp qp, TSt E L q f p p .nil 0 fp qp := by
  refine TSt.begin hp hB hE ?_
  unfold pExprS at h
  have G := pPart_b (E := E) hp (fun q _ h => hB q h)
  generalize pPart E L p = r at *
  obtain ⟨ok, f0, q0⟩ := r
  cases ok with
  | false => simp at h
  | true =>
    simp only [if_true] at h
    have h1 := G.lt rfl
    have h2 := G.le
    simp only at h1 h2
    have h3 := pMany_ge (k := 5) (fun p r hp hs hok => ⟨Nat.le_of_lt ((sExpr_step hB p r hp hs).2 hok).1, ((sExpr_step hB p r hp hs).2 hok).2⟩) (L.length - q0) q0 f0 1 h2 (by rw [h])
    rw [h] at h3
    simp only at h3
    exact ⟨rfl, by simp only; omega, h3.1, L.length - q0, Nat.le_refl _, h⟩
theorem TSt.next {E : Nat → PR} {L : List Mk} {q : Nat} {f : Fo} {fr i : Nat} {g : Fo} {n : Nat} {fp : Fo} {qp : Nat} (h : TSt E L q f fr i g n fp qp) (hq : q ≤ L.length) (hB : ∀ q, q ≤ L.length → PB L q (E q)) (hE : ∀ q, NS L q (E q)) :
    (qp = q ∧ f = wrapF 5 (n + 1) (g.app fp)) ∨ (qp < q ∧ kd L qp = 6 ∧ ∃ fp' qp', TSt E L q f (qp + 1) (qp + 1) (g.app fp) (n + 1) fp' qp') := by
  rcases h.more.next hq (sExpr_step hB) with ⟨_, h2, h3⟩ | ⟨r2, h1, h2, h3⟩
  · exact .inl ⟨h2, h3⟩
  · obtain ⟨hb, rfl⟩ := sExpr_some h1
    simp only at hb h2
    have hlt := kd_lt (L := L) (p := qp) (by omega)
    have G := pPart_b (E := E) (p := qp + 1) hlt (fun q _ h => hB q h)
    exact .inr ⟨h2, hb, TSt.begin hlt hB hE ⟨h3.ok, G.ge, h3.le, h3.more⟩⟩

end Go.Proofs.YtfmcbpnhpckmjaaGreat
namespace Go.Proofs.YtfmcbpnhpckmjaaGreat
open Go.RowKit Go.Shelf
/-- what one more that is read must be -/
structure SB (L : List Mk) (q : Nat) (r : PR) : Prop where
  le : r.p ≤ L.length
  lt : r.ok = true → q < r.p
  size : r.ok = true → r.f.size ≤ 2 * (r.p - q)
  one : r.ok = true → r.f.len = 1
theorem pMany_none {S : Nat → Option PR} {k : Int} {m p : Nat} {f : Fo} {n : Nat} (h : S p = none) : pMany S k m p f n = ⟨true, wrapF k n f, p⟩ := by
  cases m with
  | zero => rfl
  | succ m => unfold pMany; rw [h]
theorem pMany_good {S : Nat → Option PR} {k : Int} {m p : Nat} {f : Fo} {n : Nat} {r : PR} (h : S p = some r) (hok : r.ok = true) : pMany S k (m + 1) p f n = pMany S k m r.p (f.app r.f) (n + 1) := by
  conv => lhs; unfold pMany
  rw [h]
  simp only [hok, if_true]
theorem pMany_bad {S : Nat → Option PR} {k : Int} {m p : Nat} {f : Fo} {n : Nat} {r : PR} (h : S p = some r) (hok : r.ok = false) : pMany S k (m + 1) p f n = r := by
  conv => lhs; unfold pMany
  rw [h]; simp [hok]

end Go.Proofs.YtfmcbpnhpckmjaaGreat
namespace Go.Proofs.YtfmcbpnhpckmjaaGreat
open Go.RowKit Go.Shelf
end Go.Proofs.YtfmcbpnhpckmjaaGreat
namespace Go.Proofs.YtfmcbpnhpckmjaaGreat
open Go.RowKit Go.Shelf

theorem sPart_b {E : Nat → PR} {L : List Mk} {q : Nat} {r : PR} (hq : q ≤ L.length) (hE : ∀ x, q < x → x ≤ L.length → PB L x (E x)) (h : sPart E L q = some r) : SB L q r ∧ (r.ok = false → q < L.length) := by
  unfold sPart at h
  split at h
  · rename_i hb
    simp only [Option.some.injEq] at h
    subst h
    have G := pUnit_b (E := E) hq (fun h => hE _ (by omega) h)
    exact ⟨⟨G.le, G.lt, fun h => by have := G.size h; omega, G.one⟩, fun _ => begins_lt hb⟩
  · cases h
theorem sExpr_b {E : Nat → PR} {L : List Mk} {q : Nat} {r : PR} (hE : ∀ x, q < x → x ≤ L.length → PB L x (E x)) (h : sExpr E L q = some r) : SB L q r ∧ (r.ok = false → q < L.length) := by
  unfold sExpr at h
  split at h
  · rename_i hb
    simp only [Option.some.injEq] at h
    subst h
    have hlt := kd_lt (L := L) (p := q) (by omega)
    have G := pPart_b (E := E) (p := q + 1) hlt (fun x hx h => hE x (by omega) h)
    exact ⟨⟨G.le, fun h => by have := G.lt h; omega, fun h => by have := G.size h; have := G.lt h; omega, G.one⟩, fun _ => hlt⟩
  · cases h
end Go.Proofs.YtfmcbpnhpckmjaaGreat
namespace Go.Proofs.YtfmcbpnhpckmjaaGreat
open Go.RowKit Go.Shelf
end Go.Proofs.YtfmcbpnhpckmjaaGreat
namespace Go.Proofs.YtfmcbpnhpckmjaaGreat
open Go.RowKit

/-! ### plain: a text cut off where its marks end -/
theorem skipTo_run (s : ByteArray) (a : Nat) : ∀ n, a + n ≤ s.size → (∀ j, j < n → blankI (bt s (a + j)) = true) → skipTo s a = skipTo s (a + n) := by
  intro n
  induction n with
  | zero => intro _ _; rfl
  | succ n ih =>
    intro h hb
    rw [ih (by omega) (fun j hj => hb j (by omega)), skipTo_yes s (a + n) (by omega) (hb n (by omega))]
    rfl
theorem wordTo_run' (s : ByteArray) (a : Nat) : ∀ n, a + n ≤ s.size → (∀ j, j < n → innerI (bt s (a + j)) = true) → wordTo s a = wordTo s (a + n) := by
  intro n
  induction n with
  | zero => intro _ _; rfl
  | succ n ih =>
    intro h hb
    rw [ih (by omega) (fun j hj => hb j (by omega)), wordTo_yes s (a + n) (by omega) (hb n (by omega))]
    rfl
theorem extract_pre (s : ByteArray) (q a b : Nat) (hb : b ≤ q) : (s.extract 0 q).extract a b = s.extract a b := by
  apply ByteArray.ext
  simp only [ByteArray.data_extract, Array.extract_extract, Nat.zero_add]
  congr 1
  omega
theorem cut_pre (s : ByteArray) : ∀ (n k q : Nat), k ≤ s.size → s.size - k ≤ n → (cut s k).2 = q → cut (s.extract 0 q) k = ((cut s k).1, q)
  | n, k, q, hk, hn, hq => by
    have hql : q ≤ s.size := by rw [← hq]; exact (cut_len s s.size k hk (by omega)).2.2
    have hkq : k ≤ q := by rw [← hq]; exact (cut_len s s.size k hk (by omega)).2.1
    have hts : (s.extract 0 q).size = q := by rw [ByteArray.size_extract]; omega
    have hbt : ∀ i, i < q → bt (s.extract 0 q) i = bt s i := fun i hi => by
      have := bt_extract s 0 q i hql (by omega)
      rwa [Nat.zero_add] at this
    by_cases hz : (nextM s k).k = 0
    · rw [cut_none s k hk hz] at hq ⊢
      rw [nextM_p] at hq
      simp only at hq
      have h1 : skipTo (s.extract 0 q) k = q := by
        rw [skipTo_run (s.extract 0 q) k (q - k) (by omega) (fun j hj => by
          rw [hbt _ (by omega)]
          exact (skip_blank s _ k (k + j) rfl (by omega) (by omega)).1), show k + (q - k) = q from by omega]
        exact skipTo_end _ _ (by omega)
      have h2 : (nextM (s.extract 0 q) k).k = 0 := by
        unfold nextM markAt; rw [h1, if_neg (by omega)]
      rw [cut_none _ k (by omega) h2, nextM_p, h1]
    · have M := mfacts s k hz
      have h1 := M.one
      have h2 := M.le
      have h3 := M.ge
      rw [cut_some s k hk hz] at hq ⊢
      simp only at hq
      have hE : (nextM s k).p + (nextM s k).t.size ≤ q := by rw [← hq]; exact (cut_len s s.size _ h2 (by omega)).2.1
      have hp : (nextM s k).p = skipTo s k := nextM_p s k
      have hsk : skipTo (s.extract 0 q) k = (nextM s k).p := by
        have e1 : skipTo (s.extract 0 q) k = skipTo (s.extract 0 q) (nextM s k).p := by
          rw [skipTo_run (s.extract 0 q) k ((nextM s k).p - k) (by omega) (fun j hj => by
            rw [hbt _ (by omega)]
            exact (skip_blank s _ k (k + j) rfl (by omega) (by omega)).1), show k + ((nextM s k).p - k) = (nextM s k).p from by omega]
        rw [e1]
        refine skipTo_no _ _ (by omega) ?_
        rw [hbt _ (by omega)]
        refine kindI_blank _ ?_
        rw [M.first]; exact hz
      have hnm : nextM (s.extract 0 q) k = nextM s k := by
        have e2 : nextM s k = ⟨kindI (bt s (nextM s k).p), (nextM s k).p, s.extract (nextM s k).p (endM s (nextM s k).p)⟩ := by
          conv => lhs; unfold nextM markAt
          rw [← hp, if_pos ⟨by omega, by rw [M.first]; exact hz⟩]; rfl
        have e3 : (nextM s k).p + (nextM s k).t.size = endM s (nextM s k).p := by
          have hb := endM_b s (nextM s k).p (by omega)
          have := congrArg (fun m : Mk => m.t.size) e2
          simp only [ByteArray.size_extract] at this
          omega
        have e4 : endM (s.extract 0 q) (nextM s k).p = endM s (nextM s k).p := by
          unfold endM
          rw [hbt _ (by omega)]
          by_cases h4 : kindI (bt s (nextM s k).p) ≤ 3
          · rw [if_pos h4, if_pos h4]
            have e5 : endM s (nextM s k).p = wordTo s ((nextM s k).p + 1) := by unfold endM; rw [if_pos h4]
            have hr := wordTo_run' (s.extract 0 q) ((nextM s k).p + 1) ((nextM s k).t.size - 1) (by omega) (fun j hj => by
              rw [hbt _ (by omega)]
              exact (word_inner s _ ((nextM s k).p + 1) _ rfl (by omega) (by rw [← e5, ← e3]; omega)).1)
            rw [hr, show (nextM s k).p + 1 + ((nextM s k).t.size - 1) = (nextM s k).p + (nextM s k).t.size from by omega, ← e5, e3]
            by_cases hq2 : endM s (nextM s k).p < q
            · refine wordTo_no _ _ (by omega) ?_
              rw [hbt _ hq2, e5]
              exact word_max s _ _ rfl (by rw [← e5]; omega)
            · exact wordTo_end _ _ (by omega)
          · rw [if_neg h4, if_neg h4]
        have e6 : nextM (s.extract 0 q) k = ⟨kindI (bt (s.extract 0 q) (nextM s k).p), (nextM s k).p, (s.extract 0 q).extract (nextM s k).p (endM (s.extract 0 q) (nextM s k).p)⟩ := by
          conv => lhs; unfold nextM markAt
          rw [hsk, if_pos ⟨by omega, by rw [hbt _ (by omega), M.first]; exact hz⟩]; rfl
        rw [e6, e4, hbt _ (by omega), extract_pre s q _ _ (by omega)]
        exact e2.symm
      have hnz : (nextM (s.extract 0 q) k).k ≠ 0 := by rw [hnm]; exact hz
      cases n with
      | zero => omega
      | succ n =>
        have ih := cut_pre s n ((nextM s k).p + (nextM s k).t.size) q h2 (by omega) hq
        rw [cut_some _ k (by omega) hnz, hnm, ih]
end Go.Proofs.YtfmcbpnhpckmjaaGreat
namespace Go.Proofs.YtfmcbpnhpckmjaaGreat
open Go.RowKit Go.Shelf

def parsed (s : ByteArray) : PR := pExpr (cut s 0).1 ((cut s 0).1.length + 1) 0
def readS (s : ByteArray) : List Nd × Int × Int :=
  if 2048 < s.size then ([], 0, 3)
  else if (parsed s).ok = true ∧ (parsed s).p = (cut s 0).1.length ∧ (cut s 0).2 = s.size then ((parsed s).f.flat, 0, 0)
  else ([], plc (cut s 0).1 (cut s 0).2 (parsed s).p, 172)
/-- what Read leaves -/
def RRet (w : World) (x : List Nd × Int × Int) (e : Ending) (w' : World) : Prop :=
  ∃ v, e = .returned (.tuple #[v, .int .i64 x.2.1, .int .i64 x.2.2]) ∧ OwnNd w' w.heap.size v x.1 ∧ Below w.heap.size w w'

/-- the world in which Read begins to read -/
structure RdBase (w w4 : World) (b1 b2 b3 : Nat) : Prop where
  below : Below w.heap.size w w4
  k2 : Boxed w4 w.heap.size 36 (.slice none 0 0)
  k3 : Boxed w4 b1 3 (.int .i64 0)
  k4 : Boxed w4 b2 32 (.int .i64 0)
  lt : b3 < w4.heap.size
  e1 : b1 = w.heap.size + 1
  e2 : b2 = w.heap.size + 1 + 1
  e3 : b3 = w.heap.size + 1 + 1 + 1
end Go.Proofs.YtfmcbpnhpckmjaaGreat
namespace Go.Proofs.YtfmcbpnhpckmjaaGreat
open Go.RowKit Go.Shelf
end Go.Proofs.YtfmcbpnhpckmjaaGreat
namespace Go.Proofs.YtfmcbpnhpckmjaaGreat
open Go.RowKit Go.Shelf

/-! ### lists of nodes, read -/
def RdNd (w : World) (v : Value) (l : List Nd) : Prop := Rd w v l.length 3 (flatNd l)
theorem RdNd.of_own {w : World} {B : Nat} {v : Value} {l : List Nd} (h : OwnNd w B v l) : RdNd w v l := Rd.of_owns h
theorem RdNd.below {w w' : World} {v : Value} {l : List Nd} (h : RdNd w v l) (hb : Below w.heap.size w w') : RdNd w' v l := Rd.below h hb
theorem flatNd_at (l : List Nd) (i : Nat) (x : Nd) (h : l[i]? = some x) : (flatNd l)[3 * i]? = some (.int .i64 x.k) ∧ (flatNd l)[3 * i + 1]? = some (.string x.n) ∧ (flatNd l)[3 * i + 2]? = some (.int .i64 x.c) := by
  induction l generalizing i with
  | nil => simp at h
  | cons y r ih =>
    have e : flatNd (y :: r) = .int .i64 y.k :: .string y.n :: .int .i64 y.c :: flatNd r := rfl
    cases i with
    | zero => simp at h; subst h; rw [e]; simp
    | succ i =>
      have h2 := ih i (by simpa using h)
      rw [e, show 3 * (i + 1) = 3 * i + 1 + 1 + 1 from by omega]
      simpa using h2
theorem RdNd.at {w : World} {v : Value} {l : List Nd} (h : RdNd w v l) {i : Nat} {x : Nd} (hx : l[i]? = some x) :
    ∃ b off cap, v = .slice (some ⟨b, off, none⟩) l.length cap ∧ b < w.heap.size ∧ l.length ≤ cap ∧
      w.cell? ⟨b, off + i * 3, none⟩ = some (.int .i64 x.k) ∧ w.cell? ⟨b, off + i * 3 + 1, none⟩ = some (.string x.n) ∧ w.cell? ⟨b, off + i * 3 + 2, none⟩ = some (.int .i64 x.c) := by
  have hi : i < l.length := (List.getElem?_eq_some_iff.1 hx).1
  obtain ⟨b, off, cap, h1, h2, h3, h4⟩ := Rd.at h hi
  obtain ⟨q0, q1, q2⟩ := flatNd_at l i x hx
  rw [show 3 * i = i * 3 from by omega] at q0 q1 q2
  exact ⟨b, off, cap, h1, h2, h3, h4 _ _ q0, h4 _ _ q1, h4 _ _ q2⟩
theorem stoodNd : Tryz.prog.stoodInHeld 41 = false := by kernel_rfl
theorem guardNd : Tryz.prog.eqGuardType Tryz.prog.depth 41 = false := by kernel_rfl
theorem toList_inj (a b : ByteArray) : a.toList = b.toList ↔ a = b := by
  rw [ByteArray.toList_eq, ByteArray.toList_eq]
  constructor
  · intro h; exact ByteArray.ext (Array.toList_inj.1 h)
  · intro h; rw [h]
theorem neqNd (a b : Nd) (w : World) : (binOp .neq 41 (.agg #[.int .i64 a.k, .string a.n, .int .i64 a.c]) (.agg #[.int .i64 b.k, .string b.n, .int .i64 b.c])).run Tryz.prog w = .ok (.bool (!decide (a = b))) w := by
  have hp := stoodNd
  rw [run_neq_struct, run_equalIn_struct _ _ _ _ _ (by kernel_rfl) hp]
  go_simp
  obtain ⟨ak, an, ac⟩ := a
  obtain ⟨bk, bn, bc⟩ := b
  by_cases h1 : ak = bk <;> by_cases h2 : an = bn <;> by_cases h3 : ac = bc <;> simp [h1, h2, h3, toList_inj] <;> omega

/-! ### Read -/
theorem plc_plcR (L : List Mk) (en : Int) (p : Nat) : plc L en p = plcR L en p := by unfold plc plcR; rfl
theorem plcR_lo (L : List Mk) (en : Int) (p : Nat) (h : 0 ≤ en) : 0 ≤ plcR L en p := by
  unfold plcR; split
  · omega
  · exact h
end Go.Proofs.YtfmcbpnhpckmjaaGreat
namespace Go.Proofs.YtfmcbpnhpckmjaaGreat
open Go.RowKit

/-! ### plain: heights, texts, pieces of a forest -/
def Fo.height : Fo → Nat
  | .nil => 0
  | .cons _ k r => max (k.height + 1) r.height
def joinS (sep : ByteArray) (l : List ByteArray) : ByteArray := ⟨(Lib.join (l.map (·.data.toList)) sep.data.toList).toArray⟩
def sepK (k : Int) : ByteArray := if k = 5 then ⟨#[32, 124, 32]⟩ else if k = 4 then ⟨#[32]⟩ else ⟨#[]⟩
def signK (k : Int) : ByteArray := if k = 6 then ⟨#[42]⟩ else if k = 7 then ⟨#[43]⟩ else if k = 8 then ⟨#[63]⟩ else ⟨#[]⟩
def brkB (pk k : Int) : Bool := k == 5 || (k == 4 && pk != 5)
def brk (pk k : Int) (t : ByteArray) : ByteArray := if brkB pk k = true then (⟨#[40]⟩ : ByteArray) ++ t ++ (⟨#[41]⟩ : ByteArray) else t
def txN (x : Nd) (ks : List (Int × ByteArray)) : ByteArray :=
  if x.k = 1 then ⟨#[37]⟩ else if x.k = 2 ∨ x.k = 3 then x.n else joinS (sepK x.k) (ks.map fun p => brk x.k p.1 p.2) ++ signK x.k
/-- of each tree its kind and its text -/
def Fo.tx : Fo → List (Int × ByteArray)
  | .nil => []
  | .cons x k r => (x.k, txN x k.tx) :: r.tx
theorem Fo.tx_len (f : Fo) : f.tx.length = f.len := by
  induction f with
  | nil => rfl
  | cons x k r _ ih => simp [Fo.tx, Fo.len, ih]
/-- where the trees begin, and how many nodes each has -/
def Fo.pieces : Fo → Nat → List (Nat × Nat)
  | .nil, _ => []
  | .cons _ k r, s => (s, k.size + 1) :: r.pieces (s + k.size + 1)
theorem Fo.pieces_len (f : Fo) : ∀ s, (f.pieces s).length = f.len := by
  induction f with
  | nil => intro s; rfl
  | cons x k r _ ih => intro s; simp [Fo.pieces, Fo.len, ih]
/-- the i-th tree -/
def Fo.get : Fo → Nat → Fo
  | .nil, _ => .nil
  | .cons x k _, 0 => .cons x k .nil
  | .cons _ _ r, i + 1 => r.get i
theorem Fo.flat_get (f : Fo) : ∀ (i s : Nat) (p : Nat × Nat), (f.pieces s)[i]? = some p → s ≤ p.1 ∧ ∃ a b, f.flat = a ++ ((f.get i).flat ++ b) ∧ a.length = p.1 - s ∧ (f.get i).flat.length = p.2 ∧ 0 < p.2 ∧ p.1 - s + p.2 ≤ f.size := by
  induction f with
  | nil => intro i s p h; simp [Fo.pieces] at h
  | cons x k r _ ih =>
    intro i s p h
    cases i with
    | zero =>
      simp only [Fo.pieces, List.getElem?_cons_zero, Option.some.injEq] at h
      subst h
      refine ⟨Nat.le_refl _, [], r.flat, by simp [Fo.get, Fo.flat], by simp, by simp [Fo.get, Fo.flat, Fo.flat_len], by simp, by simp only [Fo.size]; omega⟩
    | succ i =>
      simp only [Fo.pieces, List.getElem?_cons_succ] at h
      obtain ⟨h1, a, b, h2, h3, h4, h5, h6⟩ := ih i _ p h
      refine ⟨by omega, x :: (k.flat ++ a), b, ?_, ?_, h4, h5, ?_⟩
      · simp only [Fo.get, Fo.flat]
        rw [h2]; simp
      · simp [Fo.flat_len, h3]; omega
      · simp only [Fo.size]; omega
theorem Fo.get_cons (f : Fo) : ∀ i, i < f.len → ∃ x k, f.get i = .cons x k .nil ∧ f.tx[i]? = some (x.k, txN x k.tx) ∧ k.size + 1 ≤ f.size ∧ (f.wf → x.c = k.len ∧ k.wf) ∧ k.height + 1 ≤ f.height := by
  induction f with
  | nil => intro i h; simp [Fo.len] at h
  | cons x k r _ ih =>
    intro i h
    cases i with
    | zero => exact ⟨x, k, rfl, rfl, by simp only [Fo.size]; omega, fun h => ⟨h.1, h.2.1⟩, by simp only [Fo.height]; omega⟩
    | succ i =>
      obtain ⟨y, j, h1, h2, h3, h4, h5⟩ := ih i (by simp [Fo.len] at h; omega)
      exact ⟨y, j, h1, by simpa [Fo.tx] using h2, by simp only [Fo.size]; omega, fun h => h4 h.2.2, by simp only [Fo.height]; omega⟩
/-- every node is as f says -/
def Fo.all (P : Nd → Prop) : Fo → Prop
  | .nil => True
  | .cons x k r => P x ∧ k.all P ∧ r.all P
theorem Fo.all_get {P : Nd → Prop} (f : Fo) (h : f.all P) : ∀ i, (f.get i).all P := by
  induction f with
  | nil => intro i; trivial
  | cons x k r _ ih =>
    intro i
    cases i with
    | zero => exact ⟨h.1, h.2.1, trivial⟩
    | succ i => exact ih h.2.2 i
theorem Fo.all_app {P : Nd → Prop} (f g : Fo) (hf : f.all P) (hg : g.all P) : (f.app g).all P := by
  induction f with
  | nil => exact hg
  | cons x k r _ ih => exact ⟨hf.1, hf.2.1, ih hf.2.2⟩
theorem Fo.all_flat {P : Nd → Prop} (f : Fo) : f.all P ↔ ∀ x ∈ f.flat, P x := by
  induction f with
  | nil => simp [Fo.all, Fo.flat]
  | cons x k r ih1 ih2 =>
    simp only [Fo.all, Fo.flat, ih1, ih2, List.mem_cons, List.mem_append]
    constructor
    · rintro ⟨h1, h2, h3⟩ y (rfl | h | h)
      · exact h1
      · exact h2 y h
      · exact h3 y h
    · intro h
      exact ⟨h x (.inl rfl), fun y hy => h y (.inr (.inl hy)), fun y hy => h y (.inr (.inr hy))⟩
/-! ### plain: which node may be -/
def nameOk (t : ByteArray) (k : Int) : Prop := 1 ≤ t.size ∧ t.size ≤ 16 ∧ kindI (bt t 0) = k ∧ ∀ q, q < t.size → innerI (bt t q) = true
def mayN (x : Nd) : Prop :=
  (x.k = 1 ∧ x.n = ⟨#[]⟩ ∧ x.c = 0) ∨ (x.k = 2 ∧ x.c = 0 ∧ nameOk x.n 1) ∨ (x.k = 3 ∧ x.c = 0 ∧ nameOk x.n 2) ∨
  ((x.k = 4 ∨ x.k = 5) ∧ x.n = ⟨#[]⟩ ∧ 2 ≤ x.c) ∨ ((x.k = 6 ∨ x.k = 7 ∨ x.k = 8) ∧ x.n = ⟨#[]⟩ ∧ x.c = 1)
theorem mayN.c {x : Nd} (h : mayN x) : 0 ≤ x.c := by rcases h with h | h | h | h | h <;> omega
theorem mayN.k {x : Nd} (h : mayN x) : 1 ≤ x.k ∧ x.k ≤ 8 := by rcases h with h | h | h | h | h <;> omega
theorem mayN.size {x : Nd} (h : mayN x) : x.n.size ≤ 16 := by
  rcases h with h | h | h | h | h
  · rw [h.2.1]; exact Nat.zero_le _
  · exact h.2.2.2.1
  · exact h.2.2.2.1
  · rw [h.2.1]; exact Nat.zero_le _
  · rw [h.2.1]; exact Nat.zero_le _
/-! ### plain: the size of a text -/
theorem join_len (sep : List UInt8) : ∀ l : List (List UInt8), (Lib.join l sep).length ≤ (l.map fun x => x.length + sep.length).sum
  | [] => by simp [Lib.join_nil]
  | x :: r => by
    have key : ∀ r : List (List UInt8), (Lib.joinTail sep r).length = (r.map fun x => x.length + sep.length).sum := by
      intro r
      induction r with
      | nil => simp [Lib.joinTail]
      | cons y r ih => simp [Lib.joinTail] at ih ⊢; omega
    rw [Lib.join_cons, List.length_append, key]
    simp
theorem joinS_size (sep : ByteArray) (l : List ByteArray) : (joinS sep l).size ≤ (l.map fun x => x.size + sep.size).sum := by
  have h := join_len sep.data.toList (l.map (·.data.toList))
  have e : (joinS sep l).size = (Lib.join (l.map (·.data.toList)) sep.data.toList).length := by unfold joinS; simp [ByteArray.size]
  have e2 : ((l.map (·.data.toList)).map fun x => x.length + sep.data.toList.length) = l.map fun x => x.size + sep.size := by
    rw [List.map_map]; rfl
  rw [e]; rw [e2] at h; exact h
theorem sepK_size (k : Int) : (sepK k).size ≤ 3 := by 
  unfold sepK
  split
  · decide
  · split <;> decide
theorem signK_size (k : Int) : (signK k).size ≤ 1 := by
  unfold signK
  split
  · decide
  · split
    · decide
    · split <;> decide
theorem brk_size (pk k : Int) (t : ByteArray) : (brk pk k t).size ≤ t.size + 2 := by
  unfold brk; split
  · rw [ByteArray.size_append, ByteArray.size_append]
    have e1 : (⟨#[40]⟩ : ByteArray).size = 1 := rfl
    have e2 : (⟨#[41]⟩ : ByteArray).size = 1 := rfl
    omega
  · omega
theorem Fo.tx_size (f : Fo) (h : f.all fun x => x.n.size ≤ 16) : (f.tx.map fun p => p.2.size + 5).sum ≤ 32 * f.size := by
  induction f with
  | nil => simp [Fo.tx, Fo.size]
  | cons x k r ih1 ih2 =>
    have i1 := ih1 h.2.1
    have i2 := ih2 h.2.2
    have hx : (txN x k.tx).size + 5 ≤ 32 * k.size + 32 := by
      unfold txN
      split
      · have : (⟨#[37]⟩ : ByteArray).size = 1 := rfl
        omega
      · split
        · have := h.1; simp only at this; omega
        · rw [ByteArray.size_append]
          have h1 := joinS_size (sepK x.k) (k.tx.map fun p => brk x.k p.1 p.2)
          have h2 := signK_size x.k
          have h3 := sepK_size x.k
          rw [List.map_map] at h1
          have h4 : (k.tx.map ((fun x_1 => x_1.size + (sepK x.k).size) ∘ fun p => brk x.k p.1 p.2)).sum ≤ (k.tx.map fun p => p.2.size + 5).sum := by
            generalize k.tx = l
            induction l with
            | nil => simp
            | cons p l ih =>
              have := brk_size x.k p.1 p.2
              simp only [List.map_cons, List.sum_cons, Function.comp] at ih ⊢
              omega
          omega
    simp only [Fo.tx, Fo.size, List.map_cons, List.sum_cons]
    omega
end Go.Proofs.YtfmcbpnhpckmjaaGreat
namespace Go.Proofs.YtfmcbpnhpckmjaaGreat
open Go.RowKit Go.Shelf

/-- a list of nodes lies at a place -/
structure NdAt (w : World) (b off : Nat) (N : List Nd) : Prop where
  lt : b < w.heap.size
  cell : ∀ i x, N[i]? = some x → w.cell? ⟨b, off + i * 3, none⟩ = some (.int .i64 x.k) ∧ w.cell? ⟨b, off + i * 3 + 1, none⟩ = some (.string x.n) ∧ w.cell? ⟨b, off + i * 3 + 2, none⟩ = some (.int .i64 x.c)
theorem NdAt.below {w w' : World} {b off : Nat} {N : List Nd} (h : NdAt w b off N) (hb : Below w.heap.size w w') : NdAt w' b off N := by
  refine ⟨by have := hb.size; have := h.lt; omega, fun i x hx => ?_⟩
  obtain ⟨h1, h2, h3⟩ := h.cell i x hx
  exact ⟨(hb.cell (p := ⟨b, _, none⟩) h.lt).trans h1, (hb.cell (p := ⟨b, _, none⟩) h.lt).trans h2, (hb.cell (p := ⟨b, _, none⟩) h.lt).trans h3⟩
theorem NdAt.below' {w w0 w' : World} {b off : Nat} {N : List Nd} (h : NdAt w b off N) (hb : Below w0.heap.size w w') (hlt : b < w0.heap.size) (_ : w0.heap.size ≤ w.heap.size) : NdAt w' b off N := by
  refine ⟨by have := hb.size; have := h.lt; omega, fun i x hx => ?_⟩
  obtain ⟨h1, h2, h3⟩ := h.cell i x hx
  exact ⟨(hb.cell (p := ⟨b, _, none⟩) hlt).trans h1, (hb.cell (p := ⟨b, _, none⟩) hlt).trans h2, (hb.cell (p := ⟨b, _, none⟩) hlt).trans h3⟩
theorem NdAt.of_rd {w : World} {v : Value} {N : List Nd} (h : RdNd w v N) (h0 : 0 < N.length) : ∃ b off cap, v = .slice (some ⟨b, off, none⟩) N.length cap ∧ N.length ≤ cap ∧ NdAt w b off N := by
  obtain ⟨x, hx⟩ : ∃ x, N[0]? = some x := ⟨_, List.getElem?_eq_getElem h0⟩
  obtain ⟨b, off, cap, e, h1, h2, _⟩ := RdNd.at h hx
  refine ⟨b, off, cap, e, h2, h1, fun i x hx => ?_⟩
  obtain ⟨b', off', cap', e', _, _, c⟩ := RdNd.at h hx
  rw [e] at e'
  simp only [Value.slice.injEq, Option.some.injEq, Addr.mk.injEq] at e'
  obtain ⟨⟨rfl, rfl, -⟩, -, rfl⟩ := e'
  exact c
/-- a piece of the list -/
theorem NdAt.piece {w : World} {b off : Nat} {N : List Nd} (h : NdAt w b off N) (a m c : List Nd) (e : N = a ++ (m ++ c)) : NdAt w b (off + a.length * 3) m := by
  refine ⟨h.lt, fun i x hx => ?_⟩
  have hN : N[a.length + i]? = some x := by
    rw [e, List.getElem?_append_right (by omega), show a.length + i - a.length = i from by omega, List.getElem?_append_left (List.getElem?_eq_some_iff.1 hx).1]
    exact hx
  have := h.cell _ _ hN
  rw [show off + (a.length + i) * 3 = off + a.length * 3 + i * 3 from by omega] at this
  exact this
theorem elemNds : ElemOK Tryz.prog 151 36 1 24 :=
  ElemOK.mk' (z := .slice none 0 0) Tryz.underlying151 (by kernel_rfl) rfl (by decide)
def pieceV (b off : Nat) (p : Nat × Nat) : Value := .slice (some ⟨b, off + p.1 * 3, none⟩) p.2 p.2
/-- what kids leaves -/
def KRet (b off : Nat) (k : Fo) (w : World) (e : Ending) (w' : World) : Prop := ∃ v, e = .returned v ∧ w'.ownsRow w.heap.size 36 1 v k.len ((k.pieces 1).map (pieceV b off)) ∧ Below w.heap.size w w'
theorem drop_head {N : List Nd} {t : Nat} {x : Nd} {l : List Nd} (h : N.drop t = x :: l) : N[t]? = some x ∧ N.drop (t + 1) = l ∧ t < N.length := by
  have hlt : t < N.length := by
    rcases Nat.lt_or_ge t N.length with h1 | h1
    · exact h1
    · rw [List.drop_eq_nil_of_le h1] at h; cases h
  rw [List.drop_eq_getElem_cons hlt] at h
  simp only [List.cons.injEq] at h
  exact ⟨by rw [List.getElem?_eq_getElem hlt, h.1], h.2, hlt⟩

set_option maxRecDepth 100000 in
set_option maxHeartbeats 3200000 in
theorem xKids_any (b off cap : Nat) (x : Nd) (k : Fo) (N : List Nd) (w : World) (h : NdAt w b off N) (hN : N = (Fo.cons x k .nil).flat) (hc : x.c = k.len) (hwf : k.wf) (hcap : N.length ≤ cap) (hl : N.length ≤ 1099511627776) :
    Calls Tryz.prog 119 #[.slice (some ⟨b, off, none⟩) N.length cap] w (KRet b off k w) := by
  have hb := h.lt
  have HC := Lib.hid h.cell
  have h0 : N[0]? = some x := by rw [hN]; rfl
  have hlen : N.length = k.size + 1 := by rw [hN, Fo.flat_len]; simp [Fo.size]
  obtain ⟨-, -, c2⟩ := h.cell 0 x h0
  rw [hc, Nat.zero_mul, Nat.add_zero] at c2
  have hd1 : N.drop 1 = k.flat := by rw [hN]; simp [Fo.flat]
  have HD1 := Lib.hid hd1
  have HLen := Lib.hid hlen
  have HWf := Lib.hid hwf
  have hpos : 0 < N.length := by omega
  have hkl : k.len ≤ N.length := by have := Fo.len_le k; omega
  generalize N.length = n at *
  clear h hN hc hwf h0 hlen hd1
  go_enter Tryz.func119, Tryz.ntmps119
  go_wp2
  go_loopw [3, 4, 11] (fun o a i wr => ∃ (j s : Nat) (r : Fo) (done : List (Nat × Nat)), i = .int .i64 j ∧ a = .int .i64 s ∧ wr.ownsRow w.heap.size 36 1 o done.length (done.map (pieceV b off)) ∧ done.length = j ∧ j + r.len = k.len ∧ s + r.size = n ∧ Hid (Below w.heap.size w wr) ∧
    Hid (k.pieces 1 = done ++ r.pieces s ∧ N.drop s = r.flat ∧ r.wf)) (fun _ _ i _ => k.len - (intOf i).toNat)
  case atStart => exact ⟨0, 1, k, [], rfl, rfl, World.ownsRow_nil _ _ _ _, rfl, by omega, by have := HLen.out; omega, Below.refl _ _, rfl, HD1.out, HWf.out⟩
  case round =>
    obtain ⟨j, s, r, done, rfl, rfl, hown, hdj, hjr, hsr, HBel, HR⟩ := hrel
    have hws := HBel.out.size
    by_cases hlt : j < k.len
    · obtain ⟨y, kk, r', rfl⟩ : ∃ y kk r', r = Fo.cons y kk r' := by
        cases r with
        | nil => simp [Fo.len] at hjr; omega
        | cons y kk r' => exact ⟨y, kk, r', rfl⟩
      simp only [Fo.len, Fo.size] at hjr hsr
      have HDJ := Lib.hid hdj
      have HJR := Lib.hid hjr
      have HSR := Lib.hid hsr
      have hss : s + kk.size + 1 ≤ n := by omega
      clear hdj hjr hsr
      go_wp2
      go_loop [4, 6] (fun a o => ∃ (t : Nat) (F : Fo), a = .int .i64 t ∧ o = .int .i64 F.len ∧ s ≤ t ∧ t + F.size ≤ n ∧ F.size ≤ n ∧ Hid (N.drop t = F.flat ++ r'.flat ∧ F.wf ∧ t + F.size = s + kk.size + 1)) (fun a _ => n - (intOf a).toNat)
      case atStart => exact ⟨s, .cons y kk .nil, rfl, rfl, Nat.le_refl _, by simp only [Fo.size]; omega, by simp only [Fo.size]; omega, by rw [HR.out.2.1]; simp [Fo.flat], ⟨HR.out.2.2.1, HR.out.2.2.2.1, trivial⟩, by simp only [Fo.size]; omega⟩
      case round =>
        obtain ⟨t, F, rfl, rfl, hst, htn, hFn, HF⟩ := hrel
        cases F with
        | nil =>
          have ht : t = s + kk.size + 1 := by have := HF.out.2.2; simp [Fo.size] at this; omega
          have htI : Hid (t = s + (kk.size + 1)) := by unfold Hid; omega
          have hsl : s < t := by omega
          have hlj : done.length + 1 ≤ 1099511627777 := by have := HDJ.out; omega
          clear ht
          go_wp2_with (at_builtin; go_must (refine wpList_appG1 elemNds rfl _ _ rfl hown rfl (news := [.slice (some ⟨b, off + s * 3, none⟩) (t - s) (t - s)]) rfl rfl (by intro u hu; simp at hu; subst hu; rfl) (by unfold maxLen; omega) (by omega) hws ?_); intro v' w3 hown3 hg3)
          have HB3 : Hid (Below w.heap.size w w3) := HBel.out.grown hg3 hws (fun j hj => own_block hown j hj)
          have HO3 : Hid (w3.ownsRow w.heap.size 36 1 v' (done ++ [(s, kk.size + 1)]).length ((done ++ [(s, kk.size + 1)]).map (pieceV b off))) := by
            rw [List.length_append, List.map_append]
            have : t - s = kk.size + 1 := by have := htI.out; omega
            rw [this] at hown3
            exact hown3
          clear hown3 hg3
          go_roundw
          case rel =>
            refine ⟨j + 1, t, r', done ++ [(s, kk.size + 1)], by go_num, rfl, HO3.out, by rw [List.length_append, HDJ.out]; rfl, by have := HJR.out; omega, by have := HSR.out; have := htI.out; omega, HB3.out, ?_, ?_, HR.out.2.2.2.2⟩
            · rw [HR.out.1, htI.out]; simp [Fo.pieces, Nat.add_assoc]
            · rw [HF.out.1]; rfl
          case measure => simp [intOf]; omega
        | cons z a b2 =>
          have hfl := HF.out.1
          obtain ⟨g1, g2, g3⟩ := drop_head (by simpa [Fo.flat] using hfl)
          obtain ⟨-, -, z2⟩ := HC.out t z g1
          have Z2 := (HBel.out.cell (p := ⟨b, _, none⟩) hb).trans z2
          rw [HF.out.2.1.1] at Z2
          have htl : t < n := by simp only [Fo.size] at htn; omega
          have hal := Fo.len_le a
          have hbl := Fo.len_le b2
          simp only [Fo.size] at htn hFn
          have HG2 := Lib.hid g2
          have e1 : (Fo.cons z a b2).len = b2.len + 1 := rfl
          rw [e1]
          clear hfl g1 g2 g3 z2 e1
          go_wp2
          go_round
          case rel => exact ⟨t + 1, a.app b2, by go_num, by rw [Fo.len_app]; go_num, by omega, by rw [Fo.size_app]; omega, by rw [Fo.size_app]; omega, by rw [HG2.out, Fo.flat_app]; simp, Fo.wf_app _ _ HF.out.2.1.2.1 HF.out.2.1.2.2, by rw [Fo.size_app]; have := HF.out.2.2; simp only [Fo.size] at this; omega⟩
          case measure => simp [intOf]; omega
    · have hr0 : r = .nil := by
        cases r with
        | nil => rfl
        | cons y kk r' => simp [Fo.len] at hjr; omega
      have HE : Hid (k.pieces 1 = done ∧ k.len = done.length) := by
        obtain ⟨q1, q2, q3⟩ := HR.out
        rw [hr0] at q1
        refine ⟨by rw [q1]; simp [Fo.pieces], ?_⟩
        rw [hr0] at hjr; simp [Fo.len] at hjr; omega
      clear hr0 hjr hdj
      obtain ⟨_, ao, cp, rfl, -⟩ := Rd.of_owns hown
      go_wp2
      go_ret
      exact ⟨_, rfl, by rw [HE.out.1, HE.out.2]; exact hown, HBel.out⟩
end Go.Proofs.YtfmcbpnhpckmjaaGreat
namespace Go.Proofs.YtfmcbpnhpckmjaaGreat
open Go.RowKit Go.Shelf

/-! ### plain: a stack of what is still wanted; the last one lies below all -/
def stkF : List Fo → List Nd
  | [] => []
  | F :: r => F.flat ++ stkF r
def stkH : List Fo → Nat
  | [] => 0
  | F :: r => max (if F.height = 0 then 0 else r.length + F.height) (stkH r)
/-- how many are wanted, of each node above the top, from the bottom on -/
def stkL : List Fo → List Nat
  | [] => []
  | [_] => []
  | R :: S :: r => stkL (S :: r) ++ [R.len + 1]
def stkO : List Fo → List Nat
  | [] => []
  | [_] => []
  | R :: S :: r => stkL (S :: r) ++ [R.len]
def stkW : List Fo → Prop
  | [] => True
  | F :: r => F.wf ∧ stkW r
theorem stkL_len : ∀ S : List Fo, (stkL S).length = S.length - 1
  | [] => rfl
  | [_] => rfl
  | R :: S :: r => by simp [stkL, stkL_len (S :: r)]
theorem stkO_len : ∀ S : List Fo, (stkO S).length = S.length - 1
  | [] => rfl
  | [_] => rfl
  | R :: S :: r => by simp [stkO, stkL_len (S :: r)]
theorem nil_height {F : Fo} (h : F.len = 0) : F = .nil := by
  cases F with
  | nil => rfl
  | cons x k r => simp [Fo.len] at h
theorem stk_pop {F R : Fo} {r : List Fo} (h : F.len = 0) : stkH (F :: R :: r) = stkH (R :: r) ∧ stkF (F :: R :: r) = stkF (R :: r) := by
  obtain rfl := nil_height h
  constructor
  · simp [stkH, Fo.height]
  · rfl
theorem stk_push (x : Nd) (k r0 : Fo) (r : List Fo) (most : Nat) : max (max most (r.length + 1)) (stkH (k :: r0 :: r)) = max most (stkH (Fo.cons x k r0 :: r)) := by
  have e : (Fo.cons x k r0).height = max (k.height + 1) r0.height := rfl
  simp only [stkH, e, List.length_cons]
  have : ¬ max (k.height + 1) r0.height = 0 := by omega
  rw [if_neg this]
  by_cases h1 : k.height = 0 <;> by_cases h2 : r0.height = 0
  · rw [if_pos h1, if_pos h2]; omega
  · rw [if_pos h1, if_neg h2]; omega
  · rw [if_neg h1, if_pos h2]; omega
  · rw [if_neg h1, if_neg h2]; omega

def intsV (l : List Nat) : List Value := l.map fun n : Nat => .int .i64 (n : Int)
def OwnI (w : World) (B : Nat) (v : Value) (l : List Nat) : Prop := w.ownsRow B 3 1 v l.length (intsV l)
theorem elemInt : ElemOK Tryz.prog 61 3 1 8 :=
  ElemOK.mk' (z := .int .i64 0) Tryz.underlying61 (by kernel_rfl) rfl (by decide)
theorem OwnI.snoc {w : World} {B : Nat} {v : Value} {l : List Nat} {m : Nat} (h : w.ownsRow B 3 1 v (l.length + 1) (intsV l ++ [.int .i64 m])) : OwnI w B v (l ++ [m]) := by
  unfold OwnI intsV at *; rw [List.map_append, List.length_append]; exact h
theorem OwnI.front {w : World} {B g c : Nat} {l : List Nat} {m : Nat} (h : OwnI w B (.slice (some ⟨g, 0, none⟩) (l.length + 1) c) (l ++ [m])) : OwnI w B (.slice (some ⟨g, 0, none⟩) l.length c) l := by
  refine ⟨by unfold intsV; simp, ?_⟩
  rcases h.2 with ⟨h', _⟩ | ⟨g', cap', cur, h', hb, hg, hnc, hcm, hcs, htake⟩
  · simp at h'
  · simp only [Value.slice.injEq, Option.some.injEq, Addr.mk.injEq, and_true] at h'
    obtain ⟨rfl, -, rfl⟩ := h'
    refine .inr ⟨g, c, cur, rfl, hb, hg, by simp at hnc; omega, hcm, hcs, ?_⟩
    have e : (l ++ [m]).length = l.length + 1 := by simp
    rw [e] at htake
    have : (cur.toList.take ((l.length + 1) * 1)).take l.length = (intsV (l ++ [m])).take l.length := by rw [htake]
    rw [List.take_take, show min l.length ((l.length + 1) * 1) = l.length * 1 from by omega] at this
    rw [this]
    unfold intsV
    rw [List.map_append, List.take_append_of_le_length (by simp)]
    rw [List.take_of_length_le (by simp)]
theorem OwnI.last {w : World} {B g c : Nat} {l : List Nat} {m : Nat} (h : OwnI w B (.slice (some ⟨g, 0, none⟩) (l.length + 1) c) (l ++ [m])) : w.cell? ⟨g, l.length, none⟩ = some (.int .i64 m) ∧ w.frozen? ⟨g, l.length, none⟩ = false := by
  have h' : w.ownsRow B 3 1 (.slice (some ⟨g, 0, none⟩) (l.length + 1) c) (l.length + 1) (intsV (l ++ [m])) := by
    have := h; unfold OwnI at this; simpa using this
  refine ⟨?_, h'.frozenAt _⟩
  rw [h'.cellAt l.length (by omega)]
  unfold intsV
  rw [List.map_append, List.getElem?_append_right (by simp)]
  simp
theorem OwnI.setLast {w : World} {B g c : Nat} {l : List Nat} {m : Nat} (h : OwnI w B (.slice (some ⟨g, 0, none⟩) (l.length + 1) c) (l ++ [m])) (m' : Nat) :
    OwnI (w.setCell ⟨g, l.length, none⟩ (.int .i64 m')) B (.slice (some ⟨g, 0, none⟩) (l.length + 1) c) (l ++ [m']) := by
  have h' : w.ownsRow B 3 1 (.slice (some ⟨g, 0, none⟩) (l.length + 1) c) (l.length + 1) (intsV (l ++ [m])) := by
    have := h; unfold OwnI at this; simpa using this
  have := (h'.stored l.length (.int .i64 m')).1
  unfold OwnI
  rw [List.length_append]
  have e : (intsV (l ++ [m])).set l.length (.int .i64 m') = intsV (l ++ [m']) := by
    unfold intsV
    rw [List.map_append, List.map_append, List.set_append_right _ _ (by simp)]
    simp
  rw [e] at this
  exact this
theorem OwnI.shape {w : World} {B : Nat} {v : Value} {l : List Nat} (h : OwnI w B v l) : ∃ ao c, v = .slice ao l.length c ∧ l.length ≤ c := by
  obtain ⟨_, ao, c, e, h1, _⟩ := Rd.of_owns h
  exact ⟨ao, c, e, h1⟩
theorem OwnI.blk {w : World} {B : Nat} {ao : Option Addr} {c : Nat} {l : List Nat} {m : Nat} (h : OwnI w B (.slice ao (l ++ [m]).length c) (l ++ [m])) : ∃ g, ao = some ⟨g, 0, none⟩ ∧ B ≤ g ∧ g < w.heap.size ∧ l.length + 1 ≤ c := by
  obtain ⟨g, c', e, h1, h2, h3, _⟩ := own_src h (by simp)
  simp only [Value.slice.injEq] at e
  obtain ⟨rfl, -, rfl⟩ := e
  exact ⟨g, rfl, h1, h2, by simpa using h3⟩

def sliceLen (v : Value) : Nat := match v with | .slice _ n _ => n | _ => 0
theorem stk_len1 (R T : Fo) (S : List Fo) : stkL (R :: T :: S) = stkL (T :: S) ++ [R.len + 1] := rfl
set_option maxRecDepth 100000 in
set_option maxHeartbeats 6400000 in
theorem xHeight_any (b off cap : Nat) (T : Fo) (w : World) (h : NdAt w b off T.flat) (hwf : T.wf) (hcap : T.flat.length ≤ cap) (hl : T.flat.length ≤ 1099511627776) :
    Calls Tryz.prog 88 #[.slice (some ⟨b, off, none⟩) T.flat.length cap] w fun e w' => e = .returned (.int .i64 T.height) ∧ Below w.heap.size w w' := by
  have hb := h.lt
  have HC := Lib.hid h.cell
  obtain ⟨N, hN⟩ : ∃ N, N = T.flat := ⟨_, rfl⟩
  have HN := Lib.hid hN
  rw [← hN] at HC hcap hl ⊢
  have HW := Lib.hid hwf
  obtain ⟨n, hn⟩ : ∃ n, n = N.length := ⟨_, rfl⟩
  rw [← hn] at hcap hl ⊢
  have HNl := Lib.hid hn
  clear h hwf hN hn
  go_enter Tryz.func88, Tryz.ntmps88
  go_wp2
  go_loopw [3, 4, 9] (fun mv ov i wr => ∃ (t most : Nat) (F : Fo) (S : List Fo), i = .int .i64 t ∧ mv = .int .i64 most ∧ t ≤ n ∧ most ≤ n ∧ Hid (OwnI wr w.heap.size ov (stkO (F :: S))) ∧ S.length ≤ t ∧ Hid (Below w.heap.size w wr) ∧
    Hid (N.drop t = stkF (F :: S) ∧ stkW (F :: S) ∧ (F.len ≠ 0 ∨ S = []) ∧ max most (stkH (F :: S)) = T.height)) (fun _ _ i _ => n - (intOf i).toNat)
  case atStart => exact ⟨0, 0, T, [], rfl, rfl, by omega, by omega, World.ownsRow_nil _ _ _ _, by simp, Below.refl _ _, by rw [HN.out]; simp [stkF], ⟨HW.out, trivial⟩, .inr rfl, by simp only [stkH, List.length_nil]; split <;> omega⟩
  case round =>
    obtain ⟨t, most, F, S, rfl, rfl, ht, hm, HO, hS, HBel, HF⟩ := hrel
    have hws := HBel.out.size
    by_cases hlt : t < n
    · obtain ⟨x, k, r0, hF⟩ : ∃ x k r0, F = Fo.cons x k r0 := by
        cases hF : F with
        | nil =>
          exfalso
          rcases HF.out.2.2.1 with h | h
          · rw [hF] at h; simp [Fo.len] at h
          · have h2 := HF.out.1
            rw [hF, h] at h2
            have := congrArg List.length h2
            rw [List.length_drop] at this
            have := HNl.out
            simp [stkF, Fo.flat] at *
            omega
        | cons x k r0 => exact ⟨x, k, r0, rfl⟩
      subst hF
      obtain ⟨g1, g2, -⟩ := drop_head (show N.drop t = x :: (k.flat ++ r0.flat ++ stkF S) from by rw [HF.out.1]; simp [stkF, Fo.flat])
      obtain ⟨z0, z1, z2⟩ := HC.out t x g1
      have Z0 := (HBel.out.cell (p := ⟨b, _, none⟩) hb).trans z0
      have Z1 := (HBel.out.cell (p := ⟨b, _, none⟩) hb).trans z1
      have Z2 := (HBel.out.cell (p := ⟨b, _, none⟩) hb).trans z2
      rw [HF.out.2.1.1.1] at Z2
      have hsl := stkO_len (Fo.cons x k r0 :: S)
      rw [List.length_cons, Nat.add_sub_cancel] at hsl
      have HSt : Hid (N.drop (t + 1) = stkF (k :: r0 :: S) ∧ stkW (k :: r0 :: S) ∧ max (max most (S.length + 1)) (stkH (k :: r0 :: S)) = T.height ∧ stkL (r0 :: S) = (if S = [] then [] else stkL (r0 :: S))) := by
        refine ⟨by rw [g2]; simp [stkF], ⟨HF.out.2.1.1.2.1, HF.out.2.1.1.2.2, HF.out.2.1.2⟩, by rw [stk_push x]; exact HF.out.2.2.2, ?_⟩
        split
        · rename_i h; subst h; rfl
        · rfl
      have HOv : Hid (stkO (Fo.cons x k r0 :: S) = stkL (r0 :: S)) := by
        cases S with
        | nil => rfl
        | cons R S => rfl
      rw [HOv.out] at HO hsl
      obtain ⟨ao, oc, rfl, hoc⟩ := HO.out.shape
      rw [hsl] at hoc ⊢
      have HSl := Lib.hid hsl
      clear z0 z1 z2 g1 g2 HF hsl
      obtain ⟨L, hL⟩ : ∃ L, L = stkL (r0 :: S) := ⟨_, rfl⟩
      have hOL : OwnI wr w.heap.size (.slice ao S.length oc) L := by have := HO.out; rw [HSl.out, ← hL] at this; exact this
      have hLl : L.length = S.length := by rw [hL]; exact HSl.out
      have HLd := Lib.hid hL
      have HLl := Lib.hid hLl
      have hown0 : (wr.alloc (.cells #[.int .i64 x.k, .string x.n, .int .i64 k.len] 41)).ownsRow w.heap.size 3 1 (.slice ao S.length oc) S.length (intsV L) := by
        have := World.ownsRow.alloc hOL (.cells #[.int .i64 x.k, .string x.n, .int .i64 k.len] 41)
        rw [hLl] at this; exact this
      have hsz0 : w.heap.size ≤ (wr.alloc (.cells #[.int .i64 x.k, .string x.n, .int .i64 k.len] 41)).heap.size := by simp; omega
      have hbel0 : Below w.heap.size w (wr.alloc (.cells #[.int .i64 x.k, .string x.n, .int .i64 k.len] 41)) := HBel.out.alloc hws _
      have HBl0 := Lib.hid hbel0
      clear hL hLl hOL HO hbel0 HOv
      rcases Nat.lt_or_ge most (S.length + 1) with hmx | hmx
      · have HMx : Hid (max most (S.length + 1) = S.length + 1) := by unfold Hid; omega
        have hmI : (most : Int) < (S.length : Int) + 1 := by omega
        go_wp2_with (at_builtin; go_must (refine wpList_appG1 elemInt rfl _ _ rfl hown0 rfl (news := [.int .i64 k.len]) (by have e : ∀ o, (wr.alloc o).heap.size = wr.heap.size + 1 := (fun o => by simp); rw [e]; rfl) rfl (by intro u hu; simp at hu; subst hu; rfl) (by unfold maxLen; omega) (by omega) hsz0 ?_); intro v' w3 hown3 hg3)
        have HO3 : Hid (OwnI w3 w.heap.size v' (stkO (k :: r0 :: S))) := by
          have := OwnI.snoc (l := L) (by rw [HLl.out]; exact hown3)
          rw [HLd.out] at this
          exact this
        have HB3 : Hid (Below w.heap.size w w3) := HBl0.out.grown hg3 hsz0 (fun j hj => own_block hown0 j hj)
        clear hown3 hg3 hown0
        go_loopw [4] (fun ov wr => ∃ (F : Fo) (Q : List Fo), Hid (OwnI wr w.heap.size ov (stkO (F :: Q))) ∧ Q.length ≤ S.length + 1 ∧ Hid (Below w.heap.size w wr) ∧ Hid (stkF (F :: Q) = stkF (k :: r0 :: S) ∧ stkW (F :: Q) ∧ stkH (F :: Q) = stkH (k :: r0 :: S))) (fun ov _ => sliceLen ov)
        case atStart => exact ⟨k, r0 :: S, HO3.out, by simp, HB3.out, rfl, HSt.out.2.1, rfl⟩
        case round =>
          obtain ⟨F, Q, HO, hQ, HB, HQ⟩ := hrel
          cases Q with
          | nil =>
            obtain ⟨ao4, oc4, rfl, -⟩ := HO.out.shape
            have e0 : (stkO [F]).length = 0 := rfl
            rw [e0] at HO ⊢
            go_wp2_with fail
            go_roundw
            case rel => exact ⟨t + 1, S.length + 1, F, [], by go_num, by go_num, by omega, by omega, by unfold OwnI at HO; exact HO.out, by simp, HB.out, by rw [HSt.out.1]; exact HQ.out.1.symm, HQ.out.2.1, .inr rfl, by rw [HQ.out.2.2, ← HMx.out]; exact HSt.out.2.2.1⟩
            case measure => simp [intOf]; omega
          | cons R Q =>
            obtain ⟨L2, hL2⟩ : ∃ L2, L2 = stkL (R :: Q) := ⟨_, rfl⟩
            have e1 : stkO (F :: R :: Q) = L2 ++ [F.len] := by rw [hL2]; rfl
            have hO := HO.out
            rw [e1] at hO
            obtain ⟨ao4, oc4, rfl, hoc4⟩ := hO.shape
            obtain ⟨g, rfl, hg1, hg2, hg3⟩ := hO.blk
            have hL2l : L2.length = Q.length := by rw [hL2, stkL_len]; rfl
            have hO' : OwnI wr w.heap.size (.slice (some ⟨g, 0, none⟩) (L2.length + 1) oc4) (L2 ++ [F.len]) := by
              have := hO; rw [List.length_append] at this; exact this
            obtain ⟨q0, q1⟩ := hO'.last
            have hfr := hO'.front
            have HO4 := Lib.hid hO
            have HO5 := Lib.hid hO'
            have HFr := Lib.hid hfr
            have HL2 := Lib.hid hL2
            rw [show (L2 ++ [F.len]).length = L2.length + 1 from by simp] at hO ⊢
            rw [hL2l] at q0 q1 hg3 ⊢
            have HL2l := Lib.hid hL2l
            clear e1 hO hO' hfr hL2 hL2l HO
            simp only [List.length_cons] at hQ
            by_cases hF0 : F.len = 0
            · obtain ⟨p1, p2⟩ := stk_pop (R := R) (r := Q) hF0
              have HP := Lib.hid (And.intro p1 p2)
              rw [hF0] at q0
              clear p1 p2 hF0
              cases Q with
              | nil =>
                have HE2 : Hid (L2 = []) := by unfold Hid; rw [HL2.out]; rfl
                simp only [List.length_nil] at q0 q1 hg3 hQ ⊢
                go_wp2_with fail
                go_roundw
                case rel => exact ⟨R, [], by have := HFr.out; rw [HE2.out] at this; exact this, by simp, HB.out, by rw [← HP.out.2]; exact HQ.out.1, HQ.out.2.1.2, by rw [← HP.out.1]; exact HQ.out.2.2⟩
                case measure => simp [sliceLen]
              | cons T2 Q =>
                obtain ⟨L3, hL3⟩ : ∃ L3, L3 = stkL (T2 :: Q) := ⟨_, rfl⟩
                have hL23 : L2 = L3 ++ [R.len + 1] := by rw [HL2.out, hL3]; rfl
                have hL3l : L3.length = Q.length := by rw [hL3, stkL_len]; rfl
                have hfr2 : OwnI wr w.heap.size (.slice (some ⟨g, 0, none⟩) (L3.length + 1) oc4) (L3 ++ [R.len + 1]) := by
                  have := HFr.out; rw [hL23, List.length_append] at this; exact this
                obtain ⟨q2, q3⟩ := hfr2.last
                have hRl : R.len ≤ 1099511627776 := by
                  have h1 := congrArg List.length (HQ.out.1.trans HSt.out.1.symm)
                  simp only [stkF, List.length_append, Fo.flat_len, List.length_drop] at h1
                  have h2 := Fo.len_le R
                  have := HNl.out
                  omega
                have HSet := Lib.hid (hfr2.setLast R.len)
                have HL3 := Lib.hid hL3
                have HL3l := Lib.hid hL3l
                rw [hL3l] at q2 q3
                simp only [List.length_cons] at q0 q1 hg3 hQ ⊢
                clear hL3 hL23 hL3l hfr2
                go_wp2_with fail
                have HB5 : Hid (Below w.heap.size w (wr.setCell ⟨g, Q.length, none⟩ (.int .i64 R.len))) := HB.out.setCell (p := ⟨g, Q.length, none⟩) hg1 _
                go_roundw
                case rel => exact ⟨R, T2 :: Q, by have := HSet.out; rw [HL3l.out] at this; show OwnI _ _ _ (stkL (T2 :: Q) ++ [R.len]); rw [← HL3.out]; exact this, by simp; omega, HB5.out, by rw [← HP.out.2]; exact HQ.out.1, HQ.out.2.1.2, by rw [← HP.out.1]; exact HQ.out.2.2⟩
                case measure => simp [sliceLen]
            · have hF0' : ((F.len : Int) == 0) = false := by simp; omega
              go_wp2_with fail
              go_roundw
              case rel => exact ⟨t + 1, S.length + 1, F, R :: Q, by go_num, by go_num, by omega, by omega, by have := HO5.out; rw [HL2l.out] at this; show OwnI _ _ _ (stkL (R :: Q) ++ [F.len]); rw [← HL2.out]; exact this, by simp; omega, HB.out, by rw [HSt.out.1]; exact HQ.out.1.symm, HQ.out.2.1, .inl hF0, by rw [HQ.out.2.2, ← HMx.out]; exact HSt.out.2.2.1⟩
              case measure => simp [intOf]; omega
      · have HMx : Hid (max most (S.length + 1) = most) := by unfold Hid; omega
        have hmI : (S.length : Int) + 1 ≤ most := by omega
        go_wp2_with (at_builtin; go_must (refine wpList_appG1 elemInt rfl _ _ rfl hown0 rfl (news := [.int .i64 k.len]) (by have e : ∀ o, (wr.alloc o).heap.size = wr.heap.size + 1 := (fun o => by simp); rw [e]; rfl) rfl (by intro u hu; simp at hu; subst hu; rfl) (by unfold maxLen; omega) (by omega) hsz0 ?_); intro v' w3 hown3 hg3)
        have HO3 : Hid (OwnI w3 w.heap.size v' (stkO (k :: r0 :: S))) := by
          have := OwnI.snoc (l := L) (by rw [HLl.out]; exact hown3)
          rw [HLd.out] at this
          exact this
        have HB3 : Hid (Below w.heap.size w w3) := HBl0.out.grown hg3 hsz0 (fun j hj => own_block hown0 j hj)
        clear hown3 hg3 hown0
        go_loopw [4] (fun ov wr => ∃ (F : Fo) (Q : List Fo), Hid (OwnI wr w.heap.size ov (stkO (F :: Q))) ∧ Q.length ≤ S.length + 1 ∧ Hid (Below w.heap.size w wr) ∧ Hid (stkF (F :: Q) = stkF (k :: r0 :: S) ∧ stkW (F :: Q) ∧ stkH (F :: Q) = stkH (k :: r0 :: S))) (fun ov _ => sliceLen ov)
        case atStart => exact ⟨k, r0 :: S, HO3.out, by simp, HB3.out, rfl, HSt.out.2.1, rfl⟩
        case round =>
          obtain ⟨F, Q, HO, hQ, HB, HQ⟩ := hrel
          cases Q with
          | nil =>
            obtain ⟨ao4, oc4, rfl, -⟩ := HO.out.shape
            have e0 : (stkO [F]).length = 0 := rfl
            rw [e0] at HO ⊢
            go_wp2_with fail
            go_roundw
            case rel => exact ⟨t + 1, most, F, [], by go_num, rfl, by omega, by omega, by unfold OwnI at HO; exact HO.out, by simp, HB.out, by rw [HSt.out.1]; exact HQ.out.1.symm, HQ.out.2.1, .inr rfl, by rw [HQ.out.2.2, ← HMx.out]; exact HSt.out.2.2.1⟩
            case measure => simp [intOf]; omega
          | cons R Q =>
            obtain ⟨L2, hL2⟩ : ∃ L2, L2 = stkL (R :: Q) := ⟨_, rfl⟩
            have e1 : stkO (F :: R :: Q) = L2 ++ [F.len] := by rw [hL2]; rfl
            have hO := HO.out
            rw [e1] at hO
            obtain ⟨ao4, oc4, rfl, hoc4⟩ := hO.shape
            obtain ⟨g, rfl, hg1, hg2, hg3⟩ := hO.blk
            have hL2l : L2.length = Q.length := by rw [hL2, stkL_len]; rfl
            have hO' : OwnI wr w.heap.size (.slice (some ⟨g, 0, none⟩) (L2.length + 1) oc4) (L2 ++ [F.len]) := by
              have := hO; rw [List.length_append] at this; exact this
            obtain ⟨q0, q1⟩ := hO'.last
            have hfr := hO'.front
            have HO4 := Lib.hid hO
            have HO5 := Lib.hid hO'
            have HFr := Lib.hid hfr
            have HL2 := Lib.hid hL2
            rw [show (L2 ++ [F.len]).length = L2.length + 1 from by simp] at hO ⊢
            rw [hL2l] at q0 q1 hg3 ⊢
            have HL2l := Lib.hid hL2l
            clear e1 hO hO' hfr hL2 hL2l HO
            simp only [List.length_cons] at hQ
            by_cases hF0 : F.len = 0
            · obtain ⟨p1, p2⟩ := stk_pop (R := R) (r := Q) hF0
              have HP := Lib.hid (And.intro p1 p2)
              rw [hF0] at q0
              clear p1 p2 hF0
              cases Q with
              | nil =>
                have HE2 : Hid (L2 = []) := by unfold Hid; rw [HL2.out]; rfl
                simp only [List.length_nil] at q0 q1 hg3 hQ ⊢
                go_wp2_with fail
                go_roundw
                case rel => exact ⟨R, [], by have := HFr.out; rw [HE2.out] at this; exact this, by simp, HB.out, by rw [← HP.out.2]; exact HQ.out.1, HQ.out.2.1.2, by rw [← HP.out.1]; exact HQ.out.2.2⟩
                case measure => simp [sliceLen]
              | cons T2 Q =>
                obtain ⟨L3, hL3⟩ : ∃ L3, L3 = stkL (T2 :: Q) := ⟨_, rfl⟩
                have hL23 : L2 = L3 ++ [R.len + 1] := by rw [HL2.out, hL3]; rfl
                have hL3l : L3.length = Q.length := by rw [hL3, stkL_len]; rfl
                have hfr2 : OwnI wr w.heap.size (.slice (some ⟨g, 0, none⟩) (L3.length + 1) oc4) (L3 ++ [R.len + 1]) := by
                  have := HFr.out; rw [hL23, List.length_append] at this; exact this
                obtain ⟨q2, q3⟩ := hfr2.last
                have hRl : R.len ≤ 1099511627776 := by
                  have h1 := congrArg List.length (HQ.out.1.trans HSt.out.1.symm)
                  simp only [stkF, List.length_append, Fo.flat_len, List.length_drop] at h1
                  have h2 := Fo.len_le R
                  have := HNl.out
                  omega
                have HSet := Lib.hid (hfr2.setLast R.len)
                have HL3 := Lib.hid hL3
                have HL3l := Lib.hid hL3l
                rw [hL3l] at q2 q3
                simp only [List.length_cons] at q0 q1 hg3 hQ ⊢
                clear hL3 hL23 hL3l hfr2
                go_wp2_with fail
                have HB5 : Hid (Below w.heap.size w (wr.setCell ⟨g, Q.length, none⟩ (.int .i64 R.len))) := HB.out.setCell (p := ⟨g, Q.length, none⟩) hg1 _
                go_roundw
                case rel => exact ⟨R, T2 :: Q, by have := HSet.out; rw [HL3l.out] at this; show OwnI _ _ _ (stkL (T2 :: Q) ++ [R.len]); rw [← HL3.out]; exact this, by simp; omega, HB5.out, by rw [← HP.out.2]; exact HQ.out.1, HQ.out.2.1.2, by rw [← HP.out.1]; exact HQ.out.2.2⟩
                case measure => simp [sliceLen]
            · have hF0' : ((F.len : Int) == 0) = false := by simp; omega
              go_wp2_with fail
              go_roundw
              case rel => exact ⟨t + 1, most, F, R :: Q, by go_num, rfl, by omega, by omega, by have := HO5.out; rw [HL2l.out] at this; show OwnI _ _ _ (stkL (R :: Q) ++ [F.len]); rw [← HL2.out]; exact this, by simp; omega, HB.out, by rw [HSt.out.1]; exact HQ.out.1.symm, HQ.out.2.1, .inl hF0, by rw [HQ.out.2.2, ← HMx.out]; exact HSt.out.2.2.1⟩
              case measure => simp [intOf]; omega
    · obtain rfl : t = n := by omega
      have HE : Hid (most = T.height) := by
        have h1 := HF.out.1
        have h2 := HF.out.2.2.2
        have h3 := HF.out.2.2.1
        rw [List.drop_eq_nil_of_le (by have := HNl.out; omega)] at h1
        have hF : F = .nil := by
          cases F with
          | nil => rfl
          | cons x k r => simp [stkF, Fo.flat] at h1
        have hS0 : S = [] := by
          rcases h3 with h3 | h3
          · rw [hF] at h3; exact absurd rfl h3
          · exact h3
        rw [hF, hS0] at h2
        unfold Hid
        simpa [stkH, Fo.height] using h2
      go_wp2_with fail
      go_ret
      exact ⟨congrArg (fun h : Nat => Ending.returned (.int .i64 (h : Int))) HE.out, HBel.out⟩
end Go.Proofs.YtfmcbpnhpckmjaaGreat
namespace Go.Proofs.YtfmcbpnhpckmjaaGreat
open Go.RowKit Go.Shelf

def nameB (t : ByteArray) (k : Int) : Bool := decide (1 ≤ t.size) && (decide (t.size ≤ 16) && (t.data.toList.all (fun c => innerI c.toNat) && kindI (bt t 0) == k))
def mayB (x : Nd) : Bool :=
  if x.k = 1 then x.n.toList.isEmpty && x.c == 0 else if x.k = 2 then nameB x.n 1 && x.c == 0 else if x.k = 3 then nameB x.n 2 && x.c == 0
  else if x.k = 4 ∨ x.k = 5 then x.n.toList.isEmpty && decide (2 ≤ x.c) else if x.k = 6 ∨ x.k = 7 ∨ x.k = 8 then x.n.toList.isEmpty && x.c == 1 else false
theorem empty_iff (t : ByteArray) : t.toList.isEmpty = true ↔ t = ⟨#[]⟩ := by
  rw [ByteArray.toList_eq]
  constructor
  · intro h
    apply ByteArray.ext
    apply Array.toList_inj.1
    simpa using h
  · rintro rfl; rfl
theorem all_inner (t : ByteArray) : t.data.toList.all (fun c => innerI c.toNat) = true ↔ ∀ q, q < t.size → innerI (bt t q) = true := by
  rw [List.all_eq_true]
  have hz : t.data.toList.length = t.size := by rw [Array.length_toList]; rfl
  constructor
  · intro h q hq
    have hq2 : q < t.data.toList.length := by omega
    have := h _ (List.getElem_mem hq2)
    unfold bt
    rw [List.getD_eq_getElem?_getD, List.getElem?_eq_getElem hq2]
    exact this
  · intro h c hc
    obtain ⟨q, hq⟩ := List.getElem?_of_mem hc
    have hq2 : q < t.data.toList.length := (List.getElem?_eq_some_iff.1 hq).1
    have := h q (by omega)
    unfold bt at this
    rw [List.getD_eq_getElem?_getD, hq] at this
    exact this
theorem nameB_iff (t : ByteArray) (k : Int) : nameB t k = true ↔ nameOk t k := by
  unfold nameB nameOk
  rw [Bool.and_eq_true, Bool.and_eq_true, Bool.and_eq_true, all_inner, decide_eq_true_eq, decide_eq_true_eq, beq_iff_eq]
  constructor
  · rintro ⟨h1, h2, h3, h4⟩; exact ⟨h1, h2, h4, h3⟩
  · rintro ⟨h1, h2, h4, h3⟩; exact ⟨h1, h2, h3, h4⟩
theorem mayB_iff (x : Nd) : mayB x = true ↔ mayN x := by
  unfold mayB mayN
  by_cases h1 : x.k = 1
  · rw [if_pos h1, Bool.and_eq_true, empty_iff, beq_iff_eq]
    constructor
    · intro h; exact .inl ⟨h1, h⟩
    · rintro (h | h | h | h | h)
      · exact h.2
      all_goals omega
  · rw [if_neg h1]
    by_cases h2 : x.k = 2
    · rw [if_pos h2, Bool.and_eq_true, nameB_iff, beq_iff_eq]
      constructor
      · intro h; exact .inr (.inl ⟨h2, h.2, h.1⟩)
      · rintro (h | h | h | h | h)
        · omega
        · exact ⟨h.2.2, h.2.1⟩
        all_goals omega
    · rw [if_neg h2]
      by_cases h3 : x.k = 3
      · rw [if_pos h3, Bool.and_eq_true, nameB_iff, beq_iff_eq]
        constructor
        · intro h; exact .inr (.inr (.inl ⟨h3, h.2, h.1⟩))
        · rintro (h | h | h | h | h)
          · omega
          · omega
          · exact ⟨h.2.2, h.2.1⟩
          all_goals omega
      · rw [if_neg h3]
        by_cases h4 : x.k = 4 ∨ x.k = 5
        · rw [if_pos h4]
          simp only [Bool.and_eq_true, empty_iff, decide_eq_true_eq]
          constructor
          · rintro ⟨h5, h6⟩; exact .inr (.inr (.inr (.inl ⟨h4, h5, h6⟩)))
          · rintro (h | h | h | h | h)
            · exact absurd h.1 h1
            · exact absurd h.1 h2
            · exact absurd h.1 h3
            · exact h.2
            · omega
        · rw [if_neg h4]
          by_cases h6 : x.k = 6 ∨ x.k = 7 ∨ x.k = 8
          · rw [if_pos h6]
            simp only [Bool.and_eq_true, empty_iff, beq_iff_eq]
            constructor
            · rintro ⟨h5, h7⟩; exact .inr (.inr (.inr (.inr ⟨h6, h5, h7⟩)))
            · rintro (h | h | h | h | h)
              · exact absurd h.1 h1
              · exact absurd h.1 h2
              · exact absurd h.1 h3
              · exact absurd h.1 h4
              · exact h.2
          · rw [if_neg h6]
            constructor
            · intro h; cases h
            · rintro (h | h | h | h | h)
              · exact absurd h.1 h1
              · exact absurd h.1 h2
              · exact absurd h.1 h3
              · exact absurd h.1 h4
              · exact absurd h.1 h6
theorem byte8 : ∀ n : Fin 256, (upperI (n.val : Int) = (kindI (n.val : Int) == 1)) ∧ (lowerI (n.val : Int) = (kindI (n.val : Int) == 2)) := by decide +kernel
theorem upper_kind (s : ByteArray) (k : Nat) : upperI (bt s k) = (kindI (bt s k) == 1) ∧ lowerI (bt s k) = (kindI (bt s k) == 2) := by
  obtain ⟨n, hn⟩ := byte_bt s k
  rw [← hn]; exact byte8 n

set_option maxRecDepth 100000 in
set_option maxHeartbeats 1600000 in
theorem rName_any (s : ByteArray) (c k : Int) (w : World) (hc : (c = 85 ∧ k = 1) ∨ (c = 76 ∧ k = 2)) :
    Calls Tryz.prog 53 #[.string s, .int .u8 c] w fun e w' => e = .returned (.bool (nameB s k)) ∧ w = w' := by
  by_cases h1 : s.size < 1
  · have HN : Hid (nameB s k = false) := by unfold Hid nameB; rw [decide_eq_false (by omega)]; rfl
    go_enter Tryz.func53, Tryz.ntmps53
    go_wp2_with fail
    go_ret
    exact ⟨by rw [HN.out]; rfl, rfl⟩
  · by_cases h2 : 16 < s.size
    · have HN : Hid (nameB s k = false) := by unfold Hid nameB; rw [decide_eq_true (by omega), decide_eq_false (by omega)]; rfl
      go_enter Tryz.func53, Tryz.ntmps53
      go_wp2_with fail
      go_ret
      exact ⟨by rw [HN.out]; rfl, rfl⟩
    · have HN : Hid (nameB s k = (s.data.toList.all (fun c => innerI c.toNat) && kindI (bt s 0) == k)) := by
        unfold Hid nameB; rw [decide_eq_true (by omega), decide_eq_true (by omega)]; rfl
      have h0 : 0 < s.size := by omega
      have HU : Hid (∀ w, Calls Tryz.prog 79 #[.int .u8 (s[0].toNat : Int)] w fun e w' => e = .returned (.bool (kindI (bt s 0) == 1)) ∧ w = w') := by
        intro w; rw [← (upper_kind s 0).1, ← bt_get s 0 h0]; exact rUpper_any _ _
      have HL : Hid (∀ w, Calls Tryz.prog 80 #[.int .u8 (s[0].toNat : Int)] w fun e w' => e = .returned (.bool (kindI (bt s 0) == 2)) ∧ w = w') := by
        intro w; rw [← (upper_kind s 0).2, ← bt_get s 0 h0]; exact rLower_any _ _
      have HAll := Lib.hid (all_inner s)
      go_enter Tryz.func53, Tryz.ntmps53
      go_wp2_with fail
      go_loop [5] (fun i => ∃ j : Nat, j ≤ s.size ∧ i = .int .i64 j ∧ Hid (∀ q, q < j → innerI (bt s q) = true)) (fun i => s.size - (intOf i).toNat)
      case atStart => exact ⟨0, by omega, rfl, fun q h => by omega⟩
      case round =>
        obtain ⟨j, hj, rfl, HQ⟩ := hrel
        by_cases hlt : j < s.size
        · have HI : Hid (∀ w, Calls Tryz.prog 78 #[.int .u8 (s[j].toNat : Int)] w fun e w' => e = .returned (.bool (innerI (bt s j))) ∧ w = w') := by
            intro w; rw [← bt_get s j hlt]; exact rInner_any _ _
          cases hi : innerI (bt s j) with
          | true =>
            rw [hi] at HI
            have HQ2 : Hid (∀ q, q < j + 1 → innerI (bt s q) = true) := fun q hq => by
              by_cases h : q = j
              · subst h; exact hi
              · exact HQ.out q (by omega)
            clear hi
            go_wp2_with (go_at_call 78; refine (HI.out _).mono ?_; rintro e w' ⟨rfl, rfl⟩)
            go_round
            case rel => exact ⟨j + 1, by omega, by go_num, HQ2.out⟩
            case measure => simp [intOf]; omega
          | false =>
            rw [hi] at HI
            have HF : Hid (nameB s k = false) := by
              unfold Hid
              rw [HN.out]
              have : s.data.toList.all (fun c => innerI c.toNat) = false := by
                rw [Bool.eq_false_iff]
                intro h
                have := HAll.out.1 h j hlt
                rw [hi] at this; cases this
              rw [this]; rfl
            clear hi
            go_wp2_with (go_at_call 78; refine (HI.out _).mono ?_; rintro e w' ⟨rfl, rfl⟩)
            go_ret
            exact ⟨by rw [HF.out]; rfl, rfl⟩
        · have HF : Hid (nameB s k = (kindI (bt s 0) == k)) := by
            unfold Hid
            rw [HN.out, HAll.out.2 (fun q hq => HQ.out q (by omega))]; rfl
          rcases hc with ⟨rfl, rfl⟩ | ⟨rfl, rfl⟩
          · generalize (kindI (bt s 0) == 1) = b1 at *
            cases b1
            all_goals
              go_wp2_with (first | (go_at_call 79; refine (HU.out _).mono ?_; rintro e w' ⟨rfl, rfl⟩) | (go_at_call 80; refine (HL.out _).mono ?_; rintro e w' ⟨rfl, rfl⟩))
              go_ret
              exact ⟨by rw [HF.out]; rfl, rfl⟩
          · generalize (kindI (bt s 0) == 2) = b1 at *
            cases b1
            all_goals
              go_wp2_with (first | (go_at_call 79; refine (HU.out _).mono ?_; rintro e w' ⟨rfl, rfl⟩) | (go_at_call 80; refine (HL.out _).mono ?_; rintro e w' ⟨rfl, rfl⟩))
              go_ret
              exact ⟨by rw [HF.out]; rfl, rfl⟩

set_option maxRecDepth 100000 in
set_option maxHeartbeats 3200000 in
theorem rMay_any (x : Nd) (w : World) :
    Calls Tryz.prog 97 #[.agg #[.int .i64 x.k, .string x.n, .int .i64 x.c]] w fun e w' => e = .returned (.bool (mayB x)) ∧ Below w.heap.size w w' := by
  have HU := Lib.hid (fun w => rName_any x.n 85 1 w (.inl ⟨rfl, rfl⟩))
  have HL := Lib.hid (fun w => rName_any x.n 76 2 w (.inr ⟨rfl, rfl⟩))
  have hcase : x.k = 1 ∨ x.k = 2 ∨ x.k = 3 ∨ x.k = 4 ∨ x.k = 5 ∨ x.k = 6 ∨ x.k = 7 ∨ x.k = 8 ∨ (x.k ≠ 1 ∧ x.k ≠ 2 ∧ x.k ≠ 3 ∧ x.k ≠ 4 ∧ x.k ≠ 5 ∧ x.k ≠ 6 ∧ x.k ≠ 7 ∧ x.k ≠ 8) := by omega
  obtain ⟨k, t, c⟩ := x
  simp only at hcase HU HL ⊢
  rcases hcase with rfl | rfl | rfl | rfl | rfl | rfl | rfl | rfl | h
  · have HM : Hid (mayB ⟨1, t, c⟩ = (t.toList.isEmpty && c == 0)) := rfl
    cases h1 : t.toList.isEmpty <;> cases h2 : (c == 0)
    all_goals
      have h1' := h1
      rw [h1, h2] at HM
      go_enter Tryz.func97, Tryz.ntmps97
      go_wp2_with fail
      go_ret
      exact ⟨by rw [HM.out]; rfl, below1 _ _⟩
  · have HM : Hid (mayB ⟨2, t, c⟩ = (nameB t 1 && c == 0)) := rfl
    generalize nameB t 1 = n1 at *
    cases n1 <;> cases h2 : (c == 0)
    all_goals
      rw [h2] at HM
      go_enter Tryz.func97, Tryz.ntmps97
      go_wp2_with (go_at_call 53; refine (HU.out _).mono ?_; rintro e w' ⟨rfl, rfl⟩)
      go_ret
      exact ⟨by rw [HM.out]; rfl, below1 _ _⟩
  · have HM : Hid (mayB ⟨3, t, c⟩ = (nameB t 2 && c == 0)) := rfl
    generalize nameB t 2 = n1 at *
    cases n1 <;> cases h2 : (c == 0)
    all_goals
      rw [h2] at HM
      go_enter Tryz.func97, Tryz.ntmps97
      go_wp2_with (go_at_call 53; refine (HL.out _).mono ?_; rintro e w' ⟨rfl, rfl⟩)
      go_ret
      exact ⟨by rw [HM.out]; rfl, below1 _ _⟩
  · have HM : Hid (mayB ⟨4, t, c⟩ = (t.toList.isEmpty && decide (2 ≤ c))) := rfl
    cases h1 : t.toList.isEmpty <;> cases h2 : decide (2 ≤ c)
    all_goals
      rw [h1, h2] at HM
      go_enter Tryz.func97, Tryz.ntmps97
      go_wp2_with fail
      go_ret
      exact ⟨by rw [HM.out]; rfl, below1 _ _⟩
  · have HM : Hid (mayB ⟨5, t, c⟩ = (t.toList.isEmpty && decide (2 ≤ c))) := rfl
    cases h1 : t.toList.isEmpty <;> cases h2 : decide (2 ≤ c)
    all_goals
      rw [h1, h2] at HM
      go_enter Tryz.func97, Tryz.ntmps97
      go_wp2_with fail
      go_ret
      exact ⟨by rw [HM.out]; rfl, below1 _ _⟩
  · have HM : Hid (mayB ⟨6, t, c⟩ = (t.toList.isEmpty && c == 1)) := rfl
    cases h1 : t.toList.isEmpty <;> cases h2 : (c == 1)
    all_goals
      rw [h1, h2] at HM
      go_enter Tryz.func97, Tryz.ntmps97
      go_wp2_with fail
      go_ret
      exact ⟨by rw [HM.out]; rfl, below1 _ _⟩
  · have HM : Hid (mayB ⟨7, t, c⟩ = (t.toList.isEmpty && c == 1)) := rfl
    cases h1 : t.toList.isEmpty <;> cases h2 : (c == 1)
    all_goals
      rw [h1, h2] at HM
      go_enter Tryz.func97, Tryz.ntmps97
      go_wp2_with fail
      go_ret
      exact ⟨by rw [HM.out]; rfl, below1 _ _⟩
  · have HM : Hid (mayB ⟨8, t, c⟩ = (t.toList.isEmpty && c == 1)) := rfl
    cases h1 : t.toList.isEmpty <;> cases h2 : (c == 1)
    all_goals
      rw [h1, h2] at HM
      go_enter Tryz.func97, Tryz.ntmps97
      go_wp2_with fail
      go_ret
      exact ⟨by rw [HM.out]; rfl, below1 _ _⟩
  · obtain ⟨a1, a2, a3, a4, a5, a6, a7, a8⟩ := h
    have HM : Hid (mayB ⟨k, t, c⟩ = false) := by
      unfold Hid mayB
      simp only
      rw [if_neg a1, if_neg a2, if_neg a3, if_neg (by omega), if_neg (by omega)]
    have b1 : (k == 1) = false := by simpa using a1
    have b2 : (k == 2) = false := by simpa using a2
    have b3 : (k == 3) = false := by simpa using a3
    have b4 : (k == 4) = false := by simpa using a4
    have b5 : (k == 5) = false := by simpa using a5
    have b6 : (k == 6) = false := by simpa using a6
    have b7 : (k == 7) = false := by simpa using a7
    have b8 : (k == 8) = false := by simpa using a8
    clear a1 a2 a3 a4 a5 a6 a7 a8
    go_enter Tryz.func97, Tryz.ntmps97
    go_wp2_with fail
    go_ret
    exact ⟨by rw [HM.out]; rfl, below1 _ _⟩
end Go.Proofs.YtfmcbpnhpckmjaaGreat
namespace Go.Proofs.YtfmcbpnhpckmjaaGreat
open Go.RowKit Go.Shelf

def endL (lim : Nat) : List Nd → Nat → Option Nat
  | [], w => if w = 0 then some 0 else none
  | x :: l, w => if w = 0 then some 0 else if mayB x = true ∧ x.c ≤ lim then (endL lim l (w - 1 + x.c.toNat)).map (· + 1) else none
def endR (t : Nat) (o : Option Nat) : Int := match o with | some k => ((t + k : Nat) : Int) | none => -1
theorem endL_zero (lim : Nat) (l : List Nd) : endL lim l 0 = some 0 := by cases l <;> simp [endL]
theorem endR_map (t : Nat) (o : Option Nat) : endR t (o.map (· + 1)) = endR (t + 1) o := by
  cases o with
  | none => rfl
  | some k => simp only [endR, Option.map]; omega
theorem end_forest {lim : Nat} (F : Fo) : ∀ (w : Nat) (R : List Nd), F.wf → F.all mayN → F.size ≤ lim → endL lim (F.flat ++ R) (F.len + w) = (endL lim R w).map (· + F.size) := by
  induction F with
  | nil => intro w R _ _ _; simp [Fo.flat, Fo.len, Fo.size]
  | cons x k r ih1 ih2 =>
    intro w R hwf hall hs
    simp only [Fo.size] at hs
    have e : (Fo.cons x k r).flat ++ R = x :: (k.flat ++ (r.flat ++ R)) := by simp [Fo.flat]
    have hk := Fo.len_le k
    have e2 : (Fo.cons x k r).len + w = r.len + 1 + w := rfl
    rw [e, e2]
    conv => lhs; unfold endL
    rw [if_neg (by omega), if_pos ⟨(mayB_iff x).2 hall.1, by rw [hwf.1]; omega⟩, hwf.1]
    rw [show r.len + 1 + w - 1 + (k.len : Int).toNat = k.len + (r.len + w) from by omega]
    rw [ih1 _ _ hwf.2.1 hall.2.1 (by omega), ih2 _ _ hwf.2.2 hall.2.2 (by omega)]
    cases endL lim R w with
    | none => rfl
    | some m => simp [Fo.size]; omega

set_option maxRecDepth 100000 in
set_option maxHeartbeats 3200000 in
theorem rEnd_any (v : Value) (N : List Nd) (p : Nat) (w : World) (h : RdNd w v N) (hl : N.length ≤ 16777216) (hp : p ≤ N.length) :
    Calls Tryz.prog 81 #[v, .int .i64 p] w fun e w' => e = .returned (.int .i64 (endR p (endL N.length (N.drop p) 1))) ∧ Below w.heap.size w w' := by
  have HR := Lib.hid h
  obtain ⟨_, ao, cap, rfl, -⟩ := id h
  obtain ⟨n, hn⟩ : ∃ n, n = N.length := ⟨_, rfl⟩
  have HN := Lib.hid hn
  rw [← hn] at hl hp HR ⊢
  clear h hn
  obtain ⟨tg, htg⟩ : ∃ tg, tg = endR p (endL n (N.drop p) 1) := ⟨_, rfl⟩
  rw [← htg]
  have HT := Lib.hid htg
  clear htg
  go_enter Tryz.func81, Tryz.ntmps81
  go_wp2_with fail
  go_loopw [1, 5] (fun a o wr => ∃ (t want : Nat), a = .int .i64 t ∧ o = .int .i64 want ∧ t ≤ n ∧ want ≤ 1 + t * 16777216 ∧ Hid (Below w.heap.size w wr) ∧ Hid (tg = endR t (endL n (N.drop t) want))) (fun a _ _ => n - (intOf a).toNat)
  case atStart => exact ⟨p, 1, rfl, rfl, hp, by omega, Below.refl _ _, HT.out⟩
  case round =>
    obtain ⟨t, want, rfl, rfl, ht, hw, HBel, HE⟩ := hrel
    have hws := HBel.out.size
    by_cases hw0 : want = 0
    · subst hw0
      have HE2 : Hid (tg = (t : Int)) := by unfold Hid; rw [HE.out, endL_zero]; simp [endR]
      go_wp2_with fail
      go_ret
      exact ⟨congrArg (fun x : Int => Ending.returned (.int .i64 x)) HE2.out.symm, HBel.out⟩
    · have hwp : 0 < want := by omega
      by_cases hlt : t < n
      · obtain ⟨x, hx⟩ : ∃ x, N[t]? = some x := ⟨_, List.getElem?_eq_getElem (by have := HN.out; omega)⟩
        obtain ⟨b, off, cp, e1, hb, hc, x0, x1, x2⟩ := RdNd.at (l := N) (by have := HR.out; rw [HN.out] at this; exact this) hx
        rw [← HN.out] at e1
        simp only [Value.slice.injEq] at e1
        obtain ⟨rfl, -, rfl⟩ := e1
        have X0 := (HBel.out.cell (p := ⟨b, _, none⟩) hb).trans x0
        have X1 := (HBel.out.cell (p := ⟨b, _, none⟩) hb).trans x1
        have X2 := (HBel.out.cell (p := ⟨b, _, none⟩) hb).trans x2
        have hd : N.drop t = x :: N.drop (t + 1) := by
          have hlt2 : t < N.length := by have := HN.out; omega
          rw [List.drop_eq_getElem_cons hlt2]
          have := List.getElem?_eq_getElem hlt2
          rw [hx] at this
          simp only [Option.some.injEq] at this
          rw [← this]
        have HE2 : Hid (tg = if mayB x = true ∧ x.c ≤ n then endR (t + 1) (endL n (N.drop (t + 1)) (want - 1 + x.c.toNat)) else -1) := by
          unfold Hid
          rw [HE.out, hd]
          conv => lhs; unfold endL
          rw [if_neg hw0]
          split
          · rw [endR_map]
          · rfl
        have HM := Lib.hid (fun w => rMay_any x w)
        have hbw : b < wr.heap.size := by omega
        clear x0 x1 x2 hx hd hw0
        cases hmb : mayB x with
        | false =>
          rw [hmb] at HM
          have HE3 : Hid (tg = -1) := by unfold Hid; rw [HE2.out, if_neg (by rw [hmb]; simp)]
          clear hmb
          go_wp2_with (go_at_call 97; refine (HM.out _).mono ?_; rintro e w2 ⟨rfl, hb2⟩)
          go_ret
          exact ⟨congrArg (fun x : Int => Ending.returned (.int .i64 x)) HE3.out.symm, HBel.out.trans (hb2.mono hws)⟩
        | true =>
          rw [hmb] at HM
          have hc0 := ((mayB_iff x).1 hmb).c
          by_cases hcl : x.c ≤ n
          · have HE3 : Hid (tg = endR (t + 1) (endL n (N.drop (t + 1)) (want - 1 + x.c.toNat))) := by unfold Hid; rw [HE2.out, if_pos ⟨hmb, hcl⟩]
            obtain ⟨c, hc⟩ : ∃ c : Nat, x.c = c := ⟨x.c.toNat, by omega⟩
            rw [hc] at X2 HE3 hcl HM
            have hcn : c ≤ n := by omega
            clear hmb HE2
            have HX1 := Lib.hid X1
            go_wp2_with (go_at_call 97; refine (HM.out _).mono ?_; rintro e w2 ⟨rfl, hb2⟩; have HB2 := Lib.hid hb2; have X2' := (hb2.cell (p := ⟨b, _, none⟩) hbw).trans X2; clear hb2)
            have HB3 : Hid (Below w.heap.size w w2) := HBel.out.trans (HB2.out.mono hws)
            clear X2 X2' X0 X1
            go_roundw
            case rel => exact ⟨t + 1, want - 1 + c, by go_num, by go_num, by omega, by omega, HB3.out, by unfold Hid; have := HE3.out; simpa using this⟩
            case measure => simp [intOf]; omega
          · have HE3 : Hid (tg = -1) := by unfold Hid; rw [HE2.out, if_neg (by rintro ⟨_, h⟩; exact hcl h)]
            have hcl' : (n : Int) < x.c := by omega
            clear hmb HE2
            go_wp2_with (go_at_call 97; refine (HM.out _).mono ?_; rintro e w2 ⟨rfl, hb2⟩; have HB2 := Lib.hid hb2; have X2' := (hb2.cell (p := ⟨b, _, none⟩) hbw).trans X2; clear hb2)
            go_ret
            exact ⟨congrArg (fun x : Int => Ending.returned (.int .i64 x)) HE3.out.symm, HBel.out.trans (HB2.out.mono hws)⟩
      · obtain rfl : t = n := by omega
        have HE3 : Hid (tg = -1) := by
          unfold Hid
          rw [HE.out, List.drop_eq_nil_of_le (by have := HN.out; omega)]
          simp only [endL]; rw [if_neg hw0]; rfl
        clear hw0
        go_wp2_with fail
        go_ret
        exact ⟨congrArg (fun x : Int => Ending.returned (.int .i64 x)) HE3.out.symm, HBel.out⟩
end Go.Proofs.YtfmcbpnhpckmjaaGreat
