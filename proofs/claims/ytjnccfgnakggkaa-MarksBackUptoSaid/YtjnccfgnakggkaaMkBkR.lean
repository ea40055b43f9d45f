import Derived.Test.YtjnccfgnakggkaaMkBkQ
namespace Go.Proofs.Ytjnccfgnakggkaa
open Go.RowKit

/-! ### plain: the wide text, built up -/
def sepB (c : UInt8) : UInt8 := if c &&& 3 = 0 then 32 else if c &&& 3 = 1 then 9 else if c &&& 3 = 2 then 10 else 13
def exL (bs : List UInt8) : List UInt8 := (bs.take 5).map sepB
def exB (bs : List UInt8) (j : Nat) : ByteArray := ⟨((exL bs).take j).toArray⟩
def wideB (ex : List UInt8) (l : List Mk) : ByteArray := ⟨(layL (chW ex l)).toArray⟩
theorem sepB_blank (c : UInt8) : blankI ((sepB c).toNat : Int) = true := by
  unfold sepB; repeat' split
  all_goals rfl
theorem exL_blank (bs : List UInt8) : ∀ x ∈ exL bs, blankI (x.toNat : Int) = true := by
  intro x hx
  obtain ⟨c, _, rfl⟩ := List.mem_map.1 hx
  exact sepB_blank c
theorem exL_len (bs : List UInt8) : (exL bs).length ≤ 5 := by unfold exL; simp; omega
theorem exB_size (bs : List UInt8) (j : Nat) : (exB bs j).size ≤ 5 := by
  have := exL_len bs
  show ((exL bs).take j).toArray.size ≤ 5
  simp; omega
theorem exB_step (bs : List UInt8) (j : Nat) (c : UInt8) (h : bs[j]? = some c) (h5 : j < 5) : exB bs (j + 1) = exB bs j ++ (⟨#[sepB c]⟩ : ByteArray) := by
  unfold exB
  have e : (exL bs)[j]? = some (sepB c) := by
    unfold exL
    rw [List.getElem?_map, List.getElem?_take, if_pos h5, h]; rfl
  rw [List.take_add_one, e]
  apply ByteArray.ext
  simp [ByteArray.data_append]
theorem exB_all (bs : List UInt8) (j : Nat) (h : bs.length ≤ j ∨ 5 ≤ j) : exB bs j = ⟨(exL bs).toArray⟩ := by
  unfold exB
  rw [List.take_of_length_le]
  unfold exL; simp; omega
theorem wideB_step (ex : List UInt8) (l : List Mk) (i : Nat) (m : Mk) (h : l[i]? = some m) : wideB ex (l.take (i + 1)) = wideB ex (l.take i) ++ (⟨#[32]⟩ : ByteArray) ++ (⟨ex.toArray⟩ : ByteArray) ++ m.t := by
  unfold wideB
  rw [take_snoc l i m h]
  apply ByteArray.ext
  simp [ByteArray.data_append, layL, chW, chM]
theorem layW_len (ex : List UInt8) (l : List Mk) : (layL (chW ex l)).length = (ex.length + 1) * l.length + (l.map (fun m => m.t.size)).sum := by
  induction l with
  | nil => rfl
  | cons m r ih =>
    have e : layL (chW ex (m :: r)) = (32 :: ex) ++ m.t.data.toList ++ layL (chW ex r) := by simp [layL, chW, chM]
    have ht : m.t.data.toList.length = m.t.size := by rw [Array.length_toList]; rfl
    rw [e, List.length_append, List.length_append, ih, ht]
    simp only [List.length_cons, List.map_cons, List.sum_cons, Nat.mul_add]
    omega
theorem sum_take (l : List Mk) (i : Nat) : ((l.take i).map (fun m => m.t.size)).sum ≤ (l.map (fun m => m.t.size)).sum := by
  conv => rhs; rw [← List.take_append_drop i l, List.map_append, List.sum_append]
  omega
theorem wideB_size (ex : List UInt8) (l : List Mk) (h : ex.length ≤ 5) (i : Nat) : (wideB ex (l.take i)).size ≤ 6 * l.length + (l.map (fun m => m.t.size)).sum := by
  have e : (wideB ex (l.take i)).size = (layL (chW ex (l.take i))).length := by simp [wideB, ByteArray.size]
  rw [e, layW_len]
  have h1 := sum_take l i
  have h2 : (ex.length + 1) * (l.take i).length ≤ 6 * l.length := Nat.mul_le_mul (by omega) (by simp; omega)
  omega
/-- what the function makes of a text's marks -/
structure BackF (s : ByteArray) (bs : List UInt8) (L K W : List Mk) (t : ByteArray) : Prop where
  len : L.length ≤ s.size
  klen : K.length = L.length
  wlen : W.length = L.length
  at1 : ∀ (i : Nat) m, L[i]? = some m → ∃ p, K[i]? = some ⟨m.k, p, m.t⟩
  at2 : ∀ (i : Nat) m, L[i]? = some m → ∃ p, W[i]? = some ⟨m.k, p, m.t⟩
  place : ∀ (i : Nat) m, L[i]? = some m → m.p ≤ s.size
  one : textM (L.map Mk.i) = (t, 0)
  two : textM (K.map Mk.i) = (t, 0)
  tot1 : tot (L.map Mk.i) ≤ 2 * s.size
  tot2 : tot (K.map Mk.i) ≤ 2 * s.size
  scan1 : scanM t = (K, 0, 0)
  scan2 : scanM (wideB (exL bs) L) = (W, 0, 0)
  tsize : t.size ≤ 2 * s.size
  wsize : ∀ i, (wideB (exL bs) (L.take i)).size ≤ 7 * s.size
theorem back_facts (s : ByteArray) (bs : List UInt8) (h : ¬ (cut s 0).2 < s.size) : ∃ K W t, BackF s bs (cut s 0).1 K W t := by
  have hg := cut_good_all s s.size 0 (by omega) (by omega)
  have hlen := (cut_len s s.size 0 (by omega) (by omega)).1
  generalize (cut s 0).1 = L at *
  obtain ⟨hg1, hg2⟩ := hg
  have hl : ∀ m ∈ L, kindM m.t = (m.k, true) := fun m hm => (hg1 m hm).1
  have k1 : (placed (chT L) 0).map (fun m => (m.k, m.t)) = L.map (fun m => (m.k, m.t)) := by rw [placed_t, chT_kt]
  have k2 : (placed (chW (exL bs) L) 0).map (fun m => (m.k, m.t)) = L.map (fun m => (m.k, m.t)) := by rw [placed_t, chW_kt]
  have t1 := tot_mk L
  have z := joinM_size (L.map Mk.i)
  have ez : (L.map Mk.i).map (·.t) = L.map (·.t) := by simp [Mk.i]
  rw [ez] at z
  have s1 : scanM (joinM (L.map (·.t))) = (placed (chT L) 0, 0, 0) := scan_chT L hl
  have s2 : scanM (wideB (exL bs) L) = (placed (chW (exL bs) L) 0, 0, 0) := scan_chW _ (exL bs) L (by unfold wideB; rw [List.toList_toArray]) hl (exL_blank bs)
  have o1 : textM (L.map Mk.i) = (joinM (L.map (·.t)), 0) := textM_mk L L rfl hl
  have o2 : textM ((placed (chT L) 0).map Mk.i) = (joinM (L.map (·.t)), 0) := textM_mk _ L k1 hl
  have l1 : (placed (chT L) 0).length = L.length := by rw [placed_len, chT_len]
  have l2 : (placed (chW (exL bs) L) 0).length = L.length := by rw [placed_len]; unfold chW; rw [List.length_map]
  have t2 := tot_kt _ L k1
  have ws : ∀ i, (wideB (exL bs) (L.take i)).size ≤ 7 * s.size := by
    intro i
    have := wideB_size (exL bs) L (exL_len bs) i
    omega
  generalize placed (chT L) 0 = K at *
  generalize placed (chW (exL bs) L) 0 = W at *
  generalize joinM (L.map (·.t)) = t at *
  exact ⟨K, W, t, { len := by omega, klen := l1, wlen := l2, at1 := fun i m hm => at_kt _ _ k1 i m hm, at2 := fun i m hm => at_kt _ _ k2 i m hm, place := fun i m hm => (hg1 m (List.mem_of_getElem? hm)).2, one := o1, two := o2, tot1 := by omega, tot2 := by omega, scan1 := s1, scan2 := s2, tsize := by omega, wsize := ws }⟩
/-- a slice of bytes that reads -/
def RdB (w : World) (v : Value) (l : List UInt8) : Prop := Rd w v l.length 1 (l.map fun b => .int .u8 b.toNat)
theorem RdB.at {w : World} {v : Value} {l : List UInt8} (h : RdB w v l) {i : Nat} {c : UInt8} (hm : l[i]? = some c) :
    ∃ b off cap, v = .slice (some ⟨b, off, none⟩) l.length cap ∧ b < w.heap.size ∧ l.length ≤ cap ∧ w.cell? ⟨b, off + i, none⟩ = some (.int .u8 c.toNat) := by
  have hi : i < l.length := (List.getElem?_eq_some_iff.1 hm).1
  obtain ⟨b, off, cap, h1, h2, h3, h4⟩ := Rd.at h hi
  exact ⟨b, off, cap, h1, h2, h3, h4 i _ (by rw [List.getElem?_map, hm]; rfl)⟩
end Go.Proofs.Ytjnccfgnakggkaa
