import Derived.Test.YtbpipnjdfmpbdaaRxP
import Derived.Test.YtbpipnjdfmpbdaaLib2
import Derived.Test.YtbpipnjdfmpbdaaMkF0
import Derived.StillTailTactics
namespace Go.Proofs.Ytbpipnjdfmpbdaa
open Go.RowKit

/-! ### the reader -/
/-- where a text goes wrong at the p-th mark -/
def plc (L : List Mk) (en : Int) (p : Nat) : Int := match L[p]? with | some m => (m.p : Int) | none => en
structure Rdr (w : World) (Br : Nat) (vl : Value) (L : List Mk) (p : Nat) (en : Int) : Prop where
  box : w.heap[Br]? = some (.cells #[vl, .int .i64 p, .int .i64 en] 74 (0, 0))
  rd : RdMk w vl L
  apart : ∀ a n c, vl = .slice (some a) n c → a.block ≠ Br
theorem Rdr.kept {w w' : World} {Br : Nat} {vl : Value} {L : List Mk} {p : Nat} {en : Int} (h : Rdr w Br vl L p en) (hg : w.grownBy w' none) : Rdr w' Br vl L p en :=
  ⟨(hg.block Br (Array.getElem?_eq_some_iff.1 h.box).1 (by simp)).trans h.box,
   Rd.mono h.rd (fun b o hb => World.cell?_of_block (a := ⟨b, o, none⟩) (hg.block b hb (by simp))) hg.size, h.apart⟩
theorem Rdr.cells {w : World} {Br : Nat} {vl : Value} {L : List Mk} {p : Nat} {en : Int} (h : Rdr w Br vl L p en) :
    w.cell? ⟨Br, 0, none⟩ = some vl ∧ w.cell? ⟨Br, 1, none⟩ = some (.int .i64 p) ∧ w.cell? ⟨Br, 2, none⟩ = some (.int .i64 en) ∧ w.frozen? ⟨Br, 1, none⟩ = false := by
  have := h.box
  refine ⟨by simp [World.cell?, this], by simp [World.cell?, this], by simp [World.cell?, this], by simp [World.frozen?, this]⟩
theorem Rdr.lt {w : World} {Br : Nat} {vl : Value} {L : List Mk} {p : Nat} {en : Int} (h : Rdr w Br vl L p en) : Br < w.heap.size := (Array.getElem?_eq_some_iff.1 h.box).1
/-- the next mark -/
theorem Rdr.step {w : World} {Br : Nat} {vl : Value} {L : List Mk} {p : Nat} {en : Int} (h : Rdr w Br vl L p en) (q : Nat) : Rdr (w.setCell ⟨Br, 1, none⟩ (.int .i64 q)) Br vl L q en := by
  refine ⟨?_, ?_, h.apart⟩
  · have hb := h.box
    have hl := h.lt
    simp only [World.setCell]
    rw [Array.getElem?_modify, if_pos rfl, hb]
    rfl
  · obtain ⟨h1, ao, cap, h2, h3, h4, h5⟩ := h.rd
    refine ⟨h1, ao, cap, h2, h3, h4, h5.imp id ?_⟩
    rintro ⟨b, off, h6, h7, h8⟩
    have hne : b ≠ Br := h.apart ⟨b, off, none⟩ _ _ (by rw [h2, h6])
    refine ⟨b, off, h6, by simpa [World.setCell] using h7, fun j u hj => ?_⟩
    rw [World.cell?_of_block (a := ⟨b, off + j, none⟩) (w := w) (Below.heap_setCell _ _ _ _ hne)]
    exact h8 j u hj
set_option maxHeartbeats 400000 in
theorem xBegins_any (k : Int) (w : World) :
    Calls Try.prog 101 #[.int .i64 k] w fun e w' => e = .returned (.bool (beginsI k)) ∧ w = w' := by
  go_enter Try.func101, Try.ntmps101
  go_wp2
  all_goals go_ret
  all_goals refine ⟨?_, rfl⟩
  all_goals simp [beginsI, *]

theorem lit_i64 {a b : Int} (h : a = b) : Ending.returned (.int .i64 a) = .returned (.int .i64 b) := by rw [h]

set_option maxHeartbeats 800000 in
theorem xKind_any (Br : Nat) (vl : Value) (L : List Mk) (p : Nat) (en : Int) (w : World) (h : Rdr w Br vl L p en) (hp : p ≤ L.length) :
    Calls Try.prog 77 #[.pointer (some ⟨Br, 0, none⟩)] w fun e w' => e = .returned (.int .i64 (kd L p)) ∧ Rdr w' Br vl L p en ∧ w.grownBy w' none := by
  have HR := Lib.hid h
  obtain ⟨c0, c1, c2, c3⟩ := h.cells
  obtain ⟨_, ao, cap, rfl, -⟩ := h.rd
  clear h
  by_cases hlt : p < L.length
  · obtain ⟨m, hm⟩ : ∃ m, L[p]? = some m := ⟨_, List.getElem?_eq_getElem hlt⟩
    obtain ⟨b, off, cp, e1, l1, k1, x0, x1, x2⟩ := RdMk.at HR.out.rd hm
    simp only [Value.slice.injEq] at e1
    obtain ⟨rfl, -, rfl⟩ := e1
    have HK : Hid (kd L p = m.k) := kd_some hm
    have hne : ((p : Int) == L.length) = false := by simp; omega
    clear hm x1 x2
    go_enter Try.func77, Try.ntmps77
    go_wp2
    go_quiet (fail)
    go_wp2
    go_quiet (fail)
    go_wp2
    go_ret
    exact ⟨lit_i64 HK.out.symm, HR.out.kept (grown_then (grown_drewN _ _ _) (grown_drewN _ _ none) (by simp)), grown_then (grown_drewN _ _ _) (grown_drewN _ _ none) (by simp)⟩
  · obtain rfl : p = L.length := by omega
    have HK : Hid (kd L L.length = 0) := kd_none (Nat.le_refl _)
    go_enter Try.func77, Try.ntmps77
    go_wp2
    go_quiet (fail)
    go_wp2
    go_ret
    exact ⟨lit_i64 HK.out.symm, HR.out.kept (grown_drewN _ _ _), grown_drewN _ _ _⟩

def wrongV (x : Int) : List PanicEntry := [{ v := .iface 69 (.agg #[.int .i64 x]), recovered := false }]
set_option maxRecDepth 100000 in
set_option maxHeartbeats 800000 in
theorem xFail_any (Br : Nat) (vl : Value) (L : List Mk) (p : Nat) (en : Int) (w : World) (h : Rdr w Br vl L p en) (hp : p ≤ L.length) :
    Calls Try.prog 48 #[.pointer (some ⟨Br, 0, none⟩)] w fun e w' => e = .panicked (wrongV (plc L en p)) ∧ w.grownBy w' none := by
  have HR := Lib.hid h
  obtain ⟨c0, c1, c2, c3⟩ := h.cells
  obtain ⟨_, ao, cap, rfl, -⟩ := h.rd
  clear h
  by_cases hlt : p < L.length
  · obtain ⟨m, hm⟩ : ∃ m, L[p]? = some m := ⟨_, List.getElem?_eq_getElem hlt⟩
    obtain ⟨b, off, cp, e1, l1, k1, x0, x1, x2⟩ := RdMk.at HR.out.rd hm
    simp only [Value.slice.injEq] at e1
    obtain ⟨rfl, -, rfl⟩ := e1
    have HK : Hid (plc L en p = m.p) := by unfold Hid plc; rw [hm]
    have hne : ((p : Int) == L.length) = false := by simp; omega
    clear hm x0 x2
    go_enter Try.func48, Try.ntmps48
    go_wp2
    go_quiet (fail)
    go_wp2
    have HG := Lib.hid (grown_drewN w nq none)
    have d0 : (w.drewN nq).cell? ⟨Br, 0, none⟩ = _ := c0
    have d1 : (w.drewN nq).cell? ⟨Br, 1, none⟩ = _ := c1
    have d2 : (w.drewN nq).cell? ⟨b, off + p * 3 + 1, none⟩ = _ := x1
    clear c0 c1 c2 c3 x1
    generalize w.drewN nq = w2 at *
    go_still_tail 13, (by kernel_rfl)
    go_wp2
    exact ⟨rfl, by rw [HK.out]; rfl, grown_then HG.out (grown_drewN _ 1 none) (by simp)⟩
  · obtain rfl : p = L.length := by omega
    have HK : Hid (plc L en L.length = en) := by unfold Hid plc; rw [List.getElem?_eq_none (Nat.le_refl _)]
    go_enter Try.func48, Try.ntmps48
    go_wp2
    go_quiet (fail)
    go_wp2
    exact ⟨rfl, by rw [HK.out]; rfl, grown_drewN _ _ _⟩
end Go.Proofs.Ytbpipnjdfmpbdaa
