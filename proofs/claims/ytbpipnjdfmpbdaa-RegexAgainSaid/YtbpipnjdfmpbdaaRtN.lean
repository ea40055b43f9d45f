import Derived.Test.YtbpipnjdfmpbdaaRtM2
import Derived.Test.YtbpipnjdfmpbdaaRrH
namespace Go.Proofs.Ytbpipnjdfmpbdaa
open Go.RowKit Go.Shelf

set_option maxRecDepth 100000 in
set_option maxHeartbeats 1600000 in
theorem xCheck_any (v : Value) (N : List Nd) (e : Int) (w : World) (h : RdNd w v N) (hS : ChkS N e) (hl : N.length ≤ 4398046511104) :
    Calls Try.prog 25 #[v] w fun en w' => en = .returned (.int .i64 e) ∧ Below w.heap.size w w' := by
  rcases hS with ⟨h1, rfl⟩ | ⟨h1, h2, rfl⟩ | ⟨h1, x, k, hG, rfl⟩
  · obtain ⟨_, ao, cap, rfl, -⟩ := h
    generalize N.length = n at *
    go_enter Try.func25, Try.ntmps25
    go_wp2_with fail
    go_ret
    exact ⟨rfl, Below.refl _ _⟩
  · have HW := Lib.hid (xWhole_any v N w h (by omega))
    rw [h2] at HW
    obtain ⟨_, ao, cap, rfl, -⟩ := h
    generalize N.length = n at *
    clear h2
    go_enter Try.func25, Try.ntmps25
    go_wp2_with (go_at_call 55; refine (HW.out).mono ?_; rintro en w2 ⟨rfl, hb2⟩)
    go_ret
    exact ⟨rfl, hb2⟩
  · have HW := Lib.hid (xWhole_any v N w h (by omega))
    rw [hG.tree] at HW
    have HBd : Hid (∀ wx, Below w.heap.size w wx → Calls Try.prog 41 #[v] wx fun e w' => e = .returned (.int .i64 (boundsF x k)) ∧ Below wx.heap.size wx w') := by
      intro wx hb
      have h2 := h.below hb
      have hln := hG.len
      obtain ⟨b, off, cap, rfl, hc, hat⟩ := NdAt.of_rd h2 (by omega)
      rw [hln] at hc ⊢
      rw [hG.flat] at hat
      exact xBounded_any b off cap x k wx hat hG.wf hG.all hc (by omega)
    clear hG
    obtain ⟨_, ao, cap, rfl, -⟩ := h
    generalize N.length = n at *
    generalize boundsF x k = bd at *
    go_enter Try.func25, Try.ntmps25
    go_wp2_with (first | (go_at_call 55; refine (HW.out).mono ?_; rintro en w2 ⟨rfl, hb2⟩; have HB2 := Lib.hid hb2; clear hb2) | (go_at_call 41; refine (HBd.out _ HB2.out).mono ?_; rintro en w3 ⟨rfl, hb3⟩))
    go_ret
    exact ⟨rfl, HB2.out.trans (hb3.mono HB2.out.size)⟩

set_option maxRecDepth 100000 in
set_option maxHeartbeats 1600000 in
theorem rCheck_any (v : Value) (N : List Nd) (e : Int) (w : World) (h : RdNd w v N) (hS : ChkS N e) (hl : N.length ≤ 4398046511104) :
    Calls Try.prog 31 #[v] w fun en w' => en = .returned (.int .i64 e) ∧ Below w.heap.size w w' := by
  rcases hS with ⟨h1, rfl⟩ | ⟨h1, h2, rfl⟩ | ⟨h1, x, k, hG, rfl⟩
  · obtain ⟨_, ao, cap, rfl, -⟩ := h
    generalize N.length = n at *
    go_enter Try.func31, Try.ntmps31
    go_wp2_with fail
    go_ret
    exact ⟨rfl, Below.refl _ _⟩
  · have HW := Lib.hid (rIsTree_any v N w h (by omega))
    rw [h2] at HW
    obtain ⟨_, ao, cap, rfl, -⟩ := h
    generalize N.length = n at *
    clear h2
    go_enter Try.func31, Try.ntmps31
    go_wp2_with (go_at_call 60; refine (HW.out).mono ?_; rintro en w2 ⟨rfl, hb2⟩)
    go_ret
    exact ⟨rfl, hb2⟩
  · have HW := Lib.hid (rIsTree_any v N w h (by omega))
    rw [hG.tree] at HW
    have HBd : Hid (∀ wx, Below w.heap.size w wx → Calls Try.prog 44 #[v] wx fun e w' => e = .returned (.int .i64 (boundsF x k)) ∧ Below wx.heap.size wx w') := by
      intro wx hb
      have h2 := h.below hb
      have hln := hG.len
      exact rBounds_any v _ x k [] wx h2 (by omega) ⟨by rw [List.drop_zero, List.append_nil]; exact hG.flat, hG.wf, hG.all⟩
    clear hG
    obtain ⟨_, ao, cap, rfl, -⟩ := h
    generalize N.length = n at *
    generalize boundsF x k = bd at *
    go_enter Try.func31, Try.ntmps31
    go_wp2_with (first | (go_at_call 60; refine (HW.out).mono ?_; rintro en w2 ⟨rfl, hb2⟩; have HB2 := Lib.hid hb2; clear hb2) | (go_at_call 44; refine (HBd.out _ HB2.out).mono ?_; rintro en w3 ⟨rfl, hb3⟩))
    go_ret
    exact ⟨rfl, HB2.out.trans (hb3.mono HB2.out.size)⟩

set_option maxRecDepth 100000 in
set_option maxHeartbeats 1600000 in
theorem xPrint_any (v : Value) (N : List Nd) (t : ByteArray) (e : Int) (w : World) (h : RdNd w v N) (hS : PrS N t e) (hl : N.length ≤ 4398046511104) :
    Calls Try.prog 22 #[v] w fun en w' => en = .returned (.tuple #[.string t, .int .i64 e]) ∧ Below w.heap.size w w' := by
  have HC := Lib.hid (xCheck_any v N e w h hS.chk hl)
  rcases hS with ⟨h1, -, rfl⟩ | ⟨rfl, h1, x, k, hG, -, rfl⟩
  · obtain ⟨_, ao, cap, rfl, -⟩ := h
    generalize N.length = n at *
    have he : (e != 0) = true := by simpa using h1
    clear h1
    go_enter Try.func22, Try.ntmps22
    go_wp2_with (go_at_call 25; refine (HC.out).mono ?_; rintro en w2 ⟨rfl, hb2⟩)
    go_ret2
    exact ⟨rfl, hb2⟩
  · have HT : Hid (∀ wx, Below w.heap.size w wx → Calls Try.prog 53 #[v] wx fun en w' => en = .returned (.string (txN x k.tx)) ∧ Below wx.heap.size wx w') := by
      intro wx hb
      have h2 := h.below hb
      have hln := hG.len
      obtain ⟨b, off, cap, rfl, hc, hat⟩ := NdAt.of_rd h2 (by omega)
      rw [hln] at hc ⊢
      rw [hG.flat] at hat
      exact text_all 16777216 (Nat.le_refl _) x k wx b off cap (by omega) hG.all hG.wf hat hc
    clear hG
    obtain ⟨_, ao, cap, rfl, -⟩ := h
    generalize N.length = n at *
    generalize txN x k.tx = t at *
    go_enter Try.func22, Try.ntmps22
    go_wp2_with (first | (go_at_call 25; refine (HC.out).mono ?_; rintro en w2 ⟨rfl, hb2⟩; have HB2 := Lib.hid hb2; clear hb2) | (go_at_call 53; refine (HT.out _ HB2.out).mono ?_; rintro en w3 ⟨rfl, hb3⟩))
    go_ret2
    exact ⟨rfl, HB2.out.trans (hb3.mono HB2.out.size)⟩

set_option maxRecDepth 100000 in
set_option maxHeartbeats 1600000 in
theorem rPrint_any (v : Value) (N : List Nd) (t : ByteArray) (e : Int) (w : World) (h : RdNd w v N) (hS : PrS N t e) (hl : N.length ≤ 4398046511104) :
    Calls Try.prog 24 #[v] w fun en w' => en = .returned (.tuple #[.string t, .int .i64 e]) ∧ Below w.heap.size w w' := by
  have HC := Lib.hid (rCheck_any v N e w h hS.chk hl)
  rcases hS with ⟨h1, -, rfl⟩ | ⟨rfl, h1, x, k, hG, -, rfl⟩
  · obtain ⟨_, ao, cap, rfl, -⟩ := h
    generalize N.length = n at *
    have he : (e != 0) = true := by simpa using h1
    clear h1
    go_enter Try.func24, Try.ntmps24
    go_wp2_with (go_at_call 31; refine (HC.out).mono ?_; rintro en w2 ⟨rfl, hb2⟩)
    go_ret2
    exact ⟨rfl, hb2⟩
  · have HT : Hid (∀ wx, Below w.heap.size w wx → Calls Try.prog 54 #[v, .int .i64 0] wx fun en w' => en = .returned (.string (txN x k.tx)) ∧ Below wx.heap.size wx w') := by
      intro wx hb
      have h2 := h.below hb
      have hln := hG.len
      exact rText_all (k.size + 1) v N 0 x k [] wx (Nat.le_refl _) h2 (by omega) ⟨by rw [List.drop_zero, List.append_nil]; exact hG.flat, hG.wf, hG.all⟩
    clear hG
    obtain ⟨_, ao, cap, rfl, -⟩ := h
    generalize N.length = n at *
    generalize txN x k.tx = t at *
    go_enter Try.func24, Try.ntmps24
    go_wp2_with (first | (go_at_call 31; refine (HC.out).mono ?_; rintro en w2 ⟨rfl, hb2⟩; have HB2 := Lib.hid hb2; clear hb2) | (go_at_call 54; refine (HT.out _ HB2.out).mono ?_; rintro en w3 ⟨rfl, hb3⟩))
    go_ret2
    exact ⟨rfl, HB2.out.trans (hb3.mono HB2.out.size)⟩

set_option maxRecDepth 100000 in
set_option maxHeartbeats 1600000 in
theorem rCopy_any (v : Value) (N : List Nd) (w : World) (h : RdNd w v N) (hl : N.length ≤ 4398046511104) :
    Calls Try.prog 23 #[v] w fun en w' => ∃ v', en = .returned v' ∧ OwnNd w' w.heap.size v' N ∧ Below w.heap.size w w' := by
  by_cases h0 : N.length = 0
  · obtain ⟨_, ao, cap, rfl, -⟩ := h
    obtain rfl : N = [] := List.length_eq_zero_iff.1 h0
    go_enter Try.func23, Try.ntmps23
    go_wp2_with (at_builtin; go_must (refine wpList_app0 elemNd rfl _ _ rfl rfl (Nat.le_refl _) rfl ?_))
    go_ret
    exact ⟨_, rfl, World.ownsRow_nil _ _ _ _, Below.refl _ _⟩
  · obtain ⟨b, off, cap, rfl, hc, hat⟩ := NdAt.of_rd h (by omega)
    have hsrc : Hid (∀ j u, (flatNd N)[j]? = some u → w.cell? ((⟨b, off, none⟩ : Addr).add j) = some u) := by
      obtain ⟨_, ao2, cap2, e2, _, _, h5⟩ := id h
      simp only [Value.slice.injEq] at e2
      obtain ⟨rfl, -, -⟩ := e2
      rcases h5 with h5 | ⟨b2, off2, h6, h7, h8⟩
      · omega
      · simp only [Option.some.injEq, Addr.mk.injEq] at h6
        obtain ⟨rfl, rfl, -⟩ := h6
        intro j u hj
        rw [Addr.add_lit]
        exact h8 j u hj
    clear h hat hc
    have hown0 := World.ownsRow_nil w w.heap.size 39 3
    go_enter Try.func23, Try.ntmps23
    go_wp2_with (at_builtin; go_must (refine wpList_appG elemNd rfl _ _ rfl hown0 rfl (news := flatNd N) rfl (flatNd_len _) hsrc.out (flatNd_one _) (by unfold maxLen; omega) (by omega) (Nat.le_refl _) ?_); intro v' w4 hown4 hg4)
    go_ret
    refine ⟨_, rfl, by have := hown4; simp only [Nat.zero_add, List.nil_append] at this; exact this, ?_⟩
    exact below_grown (by simpa [Value.ownBlock] using hg4)
end Go.Proofs.Ytbpipnjdfmpbdaa
