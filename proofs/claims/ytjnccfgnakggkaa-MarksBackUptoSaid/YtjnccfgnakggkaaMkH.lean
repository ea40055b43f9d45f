import Derived.Test.YtjnccfgnakggkaaMkG
namespace Go.Proofs.Ytjnccfgnakggkaa
open Go.RowKit

theorem below_then {w w1 w2 : World} (h : Below w.heap.size w w1) (k : Below w1.heap.size w1 w2) : Below w.heap.size w w2 := h.trans (k.mono h.size)

theorem aw1 : scanM ⟨#[83, 32, 61, 32, 97, 95, 49]⟩ = ([⟨1, 0, ⟨#[83]⟩⟩, ⟨4, 2, ⟨#[61]⟩⟩, ⟨2, 4, ⟨#[97, 95, 49]⟩⟩], 0, 0) := by decide +kernel
theorem aw2 : scanM ⟨#[97, 45, 98]⟩ = ([], 1, 160) := by decide +kernel
theorem aw3 : kindM ⟨#[42]⟩ = (7, true) := by decide +kernel

set_option maxHeartbeats 800000 in
theorem awake_any (w : World) : Calls Try.prog 14 #[] w fun e w' => e = .returned (.bool true) ∧ Below w.heap.size w w' := by
  have H1 : Hid (∀ w, Calls Try.prog 9 #[.string ⟨#[83, 32, 61, 32, 97, 95, 49]⟩] w fun e w' => ∃ b off cap, e = .returned (.tuple #[.slice (some ⟨b, off, none⟩) 3 cap, .int .i64 0, .int .i64 0]) ∧
      3 ≤ cap ∧ b < w'.heap.size ∧ w'.cell? ⟨b, off + 6, none⟩ = some (.int .i64 2) ∧ w'.cell? ⟨b, off + 6 + 1, none⟩ = some (.int .i64 4) ∧ w'.cell? ⟨b, off + 6 + 2, none⟩ = some (.string ⟨#[97, 95, 49]⟩) ∧ Below w.heap.size w w') := by
    intro w
    refine (scan_any ⟨#[83, 32, 61, 32, 97, 95, 49]⟩ (by decide) w).mono ?_
    rintro e w' ⟨v, he, ho, hb⟩
    rw [aw1] at he ho
    obtain ⟨b, off, cap, h1, h2, h3, h4, h5, h6⟩ := RdMk.at (i := 2) (m := ⟨2, 4, ⟨#[97, 95, 49]⟩⟩) (RdMk.of_own ho) rfl
    exact ⟨b, off, cap, by rw [he, h1]; rfl, h3, h2, h4, h5, h6, hb⟩
  have H2 : Hid (∀ w, Calls Try.prog 9 #[.string ⟨#[97, 45, 98]⟩] w fun e w' => ∃ v, e = .returned (.tuple #[v, .int .i64 1, .int .i64 160]) ∧ Below w.heap.size w w') := by
    intro w
    refine (scan_any ⟨#[97, 45, 98]⟩ (by decide) w).mono ?_
    rintro e w' ⟨v, he, ho, hb⟩
    rw [aw2] at he
    exact ⟨v, he, hb⟩
  have H3 : Hid (∀ w, Calls Try.prog 17 #[.string ⟨#[42]⟩] w fun e w' => e = .returned (.tuple #[.int .i64 7, .bool true]) ∧ Below w.heap.size w w') := by
    intro w
    have := kind_walk ⟨#[42]⟩ w (by decide)
    rw [aw3] at this
    exact this
  go_enter Try.func14, Try.ntmps14
  go_wp2_with fail
  refine (H1.out _).mono ?_
  rintro e w1 ⟨b, off, cap, rfl, hcap, hlt, c0, c1, c2, hb1⟩
  go_wp2_with fail
  refine (H2.out _).mono ?_
  rintro e w2 ⟨v2, rfl, hb2⟩
  have C0 := (hb2.cell (p := ⟨b, _, none⟩) hlt).trans c0
  have C1 := (hb2.cell (p := ⟨b, _, none⟩) hlt).trans c1
  have C2 := (hb2.cell (p := ⟨b, _, none⟩) hlt).trans c2
  clear c0 c1 c2
  go_wp2_with fail
  refine (H3.out _).mono ?_
  rintro e w3 ⟨rfl, hb3⟩
  have hlt2 : b < w2.heap.size := by have := hb2.size; omega
  have D0 := (hb3.cell (p := ⟨b, _, none⟩) hlt2).trans C0
  have D1 := (hb3.cell (p := ⟨b, _, none⟩) hlt2).trans C1
  have D2 := (hb3.cell (p := ⟨b, _, none⟩) hlt2).trans C2
  clear C0 C1 C2
  have hm := guard29
  have hp := stood29
  go_wp2
  go_ret
  exact ⟨rfl, below_then (below_then hb1 hb2) hb3⟩
end Go.Proofs.Ytjnccfgnakggkaa
