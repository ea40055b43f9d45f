import Derived.Test.YtjnccfgnakggkaaMkE
namespace Go.Proofs.Ytjnccfgnakggkaa
open Go.RowKit

def RdMk (w : World) (v : Value) (l : List Mk) : Prop := Rd w v l.length 3 (flatMk l)
theorem RdMk.of_own {w : World} {B : Nat} {v : Value} {l : List Mk} (h : OwnMk w B v l) : RdMk w v l := Rd.of_owns h
theorem flatMk_len (l : List Mk) : (flatMk l).length = 3 * l.length := by
  induction l with
  | nil => rfl
  | cons m r ih => have : flatMk (m :: r) = m.cells ++ flatMk r := rfl
                   rw [this, List.length_append, ih]; simp [Mk.cells]; omega
theorem flatMk_at (l : List Mk) (i : Nat) (m : Mk) (h : l[i]? = some m) : (flatMk l)[3 * i]? = some (.int .i64 m.k) ∧ (flatMk l)[3 * i + 1]? = some (.int .i64 m.p) ∧ (flatMk l)[3 * i + 2]? = some (.string m.t) := by
  induction l generalizing i with
  | nil => simp at h
  | cons x r ih =>
    have e : flatMk (x :: r) = .int .i64 x.k :: .int .i64 x.p :: .string x.t :: flatMk r := rfl
    cases i with
    | zero => simp at h; subst h; rw [e]; simp
    | succ i =>
      have h2 := ih i (by simpa using h)
      rw [e, show 3 * (i + 1) = 3 * i + 1 + 1 + 1 from by omega]
      simpa using h2
/-- the cells of the i-th mark -/
theorem RdMk.at {w : World} {v : Value} {l : List Mk} (h : RdMk w v l) {i : Nat} {m : Mk} (hm : l[i]? = some m) :
    ∃ b off cap, v = .slice (some ⟨b, off, none⟩) l.length cap ∧ b < w.heap.size ∧ l.length ≤ cap ∧
      w.cell? ⟨b, off + i * 3, none⟩ = some (.int .i64 m.k) ∧ w.cell? ⟨b, off + i * 3 + 1, none⟩ = some (.int .i64 m.p) ∧ w.cell? ⟨b, off + i * 3 + 2, none⟩ = some (.string m.t) := by
  have hi : i < l.length := (List.getElem?_eq_some_iff.1 hm).1
  obtain ⟨b, off, cap, h1, h2, h3, h4⟩ := Rd.at h hi
  obtain ⟨q0, q1, q2⟩ := flatMk_at l i m hm
  rw [show 3 * i = i * 3 from by omega] at q0 q1 q2
  exact ⟨b, off, cap, h1, h2, h3, h4 _ _ q0, h4 _ _ q1, h4 _ _ q2⟩

theorem stood29 : Try.prog.stoodInHeld 29 = false := by kernel_rfl
theorem guard29 : Try.prog.eqGuardType Try.prog.depth 29 = false := by kernel_rfl
theorem toList_inj (a b : ByteArray) : a.toList = b.toList ↔ a = b := by
  rw [ByteArray.toList_eq, ByteArray.toList_eq]
  constructor
  · intro h; exact ByteArray.ext (Array.toList_inj.1 h)
  · intro h; rw [h]
theorem neqMk (a b : Mk) (w : World) : (binOp .neq 29 (.agg #[.int .i64 a.k, .int .i64 a.p, .string a.t]) (.agg #[.int .i64 b.k, .int .i64 b.p, .string b.t])).run Try.prog w = .ok (.bool (!decide (a = b))) w := by
  have hp := stood29
  rw [run_neq_struct, run_equalIn_struct _ _ _ _ _ (by kernel_rfl) hp]
  go_simp
  obtain ⟨ak, ap, at'⟩ := a
  obtain ⟨bk, bp, bt'⟩ := b
  by_cases h1 : ak = bk <;> by_cases h2 : ap = bp <;> by_cases h3 : at' = bt' <;> simp [h1, h2, h3, toList_inj] <;> omega

set_option maxHeartbeats 800000 in
theorem list_any (va vb : Value) (la lb : List Mk) (w : World) (ha : RdMk w va la) (hb : RdMk w vb lb) (hla : la.length < 4294967296) (hlb : lb.length < 4294967296) :
    Calls Try.prog 11 #[va, vb] w fun e w' => e = .returned (.bool (decide (la = lb))) ∧ Below w.heap.size w w' := by
  obtain ⟨hal, ao, ac, rfl, ha2⟩ := id ha
  obtain ⟨hbl, bo, bc, rfl, hb2⟩ := id hb
  have HA := Lib.hid ha
  have HB := Lib.hid hb
  clear ha hb ha2 hb2 hal hbl
  by_cases hlen : la.length = lb.length
  · have hlen' : ((la.length : Int) != lb.length) = false := by rw [hlen]; simp
    have HL := Lib.hid hlen
    clear hlen
    go_enter Try.func11, Try.ntmps11
    go_wp2
    go_loopw [5] (fun i wr => ∃ j : Nat, j ≤ la.length ∧ i = .int .i64 j ∧ Hid (∀ q, q < j → la[q]? = lb[q]?) ∧ Below w.heap.size w wr) (fun i _ => la.length - (intOf i).toNat)
    case atStart => exact ⟨0, by omega, rfl, fun q h => by omega, Below.refl _ _⟩
    case round =>
      obtain ⟨j, hj, rfl, HQ, hbel⟩ := hrel
      by_cases hlt : j < la.length
      · obtain ⟨ma, hma⟩ : ∃ m, la[j]? = some m := ⟨_, List.getElem?_eq_getElem hlt⟩
        obtain ⟨mb, hmb⟩ : ∃ m, lb[j]? = some m := ⟨_, List.getElem?_eq_getElem (by rw [← HL.out]; exact hlt)⟩
        obtain ⟨b1, o1, c1, e1, l1, k1, x0, x1, x2⟩ := (HA.out).at hma
        obtain ⟨b2, o2, c2, e2, l2, k2, y0, y1, y2⟩ := (HB.out).at hmb
        simp only [Value.slice.injEq] at e1 e2
        obtain ⟨rfl, -, rfl⟩ := e1
        obtain ⟨rfl, -, rfl⟩ := e2
        have X0 := (hbel.cell (p := ⟨b1, _, none⟩) l1).trans x0
        have X1 := (hbel.cell (p := ⟨b1, _, none⟩) l1).trans x1
        have X2 := (hbel.cell (p := ⟨b1, _, none⟩) l1).trans x2
        have Y0 := (hbel.cell (p := ⟨b2, _, none⟩) l2).trans y0
        have Y1 := (hbel.cell (p := ⟨b2, _, none⟩) l2).trans y1
        have Y2 := (hbel.cell (p := ⟨b2, _, none⟩) l2).trans y2
        clear x0 x1 x2 y0 y1 y2
        have hltb : j < lb.length := by rw [← HL.out]; exact hlt
        have H1 := Lib.hid hma
        have H2 := Lib.hid hmb
        clear hma hmb
        have hm := guard29
        have hne := neqMk ma mb
        go_wp2
        go_quiet (fail)
        go_wp2
        · have hd : (!decide (ma = mb)) = true := by assumption
          go_ret
          refine ⟨?_, below_drewN hbel _⟩
          have : la ≠ lb := by rintro rfl; have e := H1.out.symm.trans H2.out; simp at e; simp [e] at hd
          rw [decide_eq_false this]; rfl
        · have hd : (!decide (ma = mb)) = false := by assumption
          go_roundw
          case rel =>
            refine ⟨j + 1, by omega, by go_num, ?_, below_drewN hbel _⟩
            intro q hq
            by_cases h : q = j
            · subst h; rw [H1.out, H2.out]; simpa using hd
            · exact HQ.out q (by omega)
          case measure => simp [intOf]; omega
      · go_wp2
        go_ret
        refine ⟨?_, hbel⟩
        have : la = lb := by
          apply List.ext_getElem?
          intro q
          by_cases h : q < j
          · exact HQ.out q h
          · rw [List.getElem?_eq_none (by omega), List.getElem?_eq_none (by have := HL.out; omega)]
        rw [decide_eq_true this]; rfl
  · have hlen' : ((la.length : Int) != lb.length) = true := by rw [bne_iff_ne]; omega
    go_enter Try.func11, Try.ntmps11
    go_wp2
    go_ret
    exact ⟨by rw [decide_eq_false (fun h => hlen (by rw [h]))]; rfl, Below.refl _ _⟩
end Go.Proofs.Ytjnccfgnakggkaa
