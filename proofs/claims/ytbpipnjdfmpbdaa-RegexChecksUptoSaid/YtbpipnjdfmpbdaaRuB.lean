import Derived.Test.YtbpipnjdfmpbdaaRuA
import Derived.Test.YtbpipnjdfmpbdaaRtX
namespace Go.Proofs.Ytbpipnjdfmpbdaa
open Go.RowKit Go.Shelf

def TreeS (N : List Nd) (hh : Int) (em : Bool) : Prop := (treeB N = false ∧ hh = 0 ∧ em = false) ∨ ∃ x k, GoodT N x k ∧ hh = ((k.height + 1 : Nat) : Int) ∧ em = empN x k.emp
theorem treeS_ex (N : List Nd) : ∃ hh em, TreeS N hh em := by
  cases ht : treeB N with
  | false => exact ⟨0, false, .inl ⟨ht, rfl, rfl⟩⟩
  | true =>
    obtain ⟨x, k, h1, h2, h3⟩ := tree_sound ht
    exact ⟨_, _, .inr ⟨x, k, ⟨h1, h2, h3⟩, rfl, rfl⟩⟩

set_option maxRecDepth 100000 in
set_option maxHeartbeats 1600000 in
theorem xHeightT_any (v : Value) (N : List Nd) (hh : Int) (em : Bool) (w : World) (h : RdNd w v N) (hS : TreeS N hh em) (hl : N.length ≤ 16777216) :
    Calls Try.prog 29 #[v] w fun e w' => e = .returned (.int .i64 hh) ∧ Below w.heap.size w w' := by
  have HW := Lib.hid (xWhole_any v N w h hl)
  rcases hS with ⟨h1, rfl, -⟩ | ⟨x, k, hG, rfl, -⟩
  · obtain ⟨_, ao, cap, rfl, -⟩ := h
    rw [h1] at HW
    generalize N.length = n at *
    clear h1
    go_enter Try.func29, Try.ntmps29
    go_wp2_with (go_at_call 55; refine (HW.out).mono ?_; rintro en w2 ⟨rfl, hb2⟩)
    go_ret
    exact ⟨rfl, hb2⟩
  · rw [hG.tree] at HW
    have HT : Hid (∀ wx, Below w.heap.size w wx → Calls Try.prog 58 #[v] wx fun e w' => e = .returned (.int .i64 ((k.height + 1 : Nat) : Int)) ∧ Below wx.heap.size wx w') := by
      intro wx hb
      have h2 := h.below hb
      have hln := hG.len
      obtain ⟨b, off, cap, rfl, hc, hat⟩ := NdAt.of_rd h2 (by omega)
      rw [hG.flat] at hat hc hl ⊢
      have hht : (Fo.cons x k .nil).height = k.height + 1 := by simp [Fo.height]
      have := xHeight_any b off cap (Fo.cons x k .nil) wx hat hG.wf hc (by omega)
      rw [hht] at this
      exact this
    clear hG
    obtain ⟨_, ao, cap, rfl, -⟩ := h
    generalize N.length = n at *
    generalize (k.height + 1) = q at *
    go_enter Try.func29, Try.ntmps29
    go_wp2_with (first | (go_at_call 55; refine (HW.out).mono ?_; rintro en w2 ⟨rfl, hb2⟩; have HB2 := Lib.hid hb2; clear hb2) | (go_at_call 58; refine (HT.out _ HB2.out).mono ?_; rintro en w3 ⟨rfl, hb3⟩))
    go_ret
    exact ⟨rfl, HB2.out.trans (hb3.mono HB2.out.size)⟩

set_option maxRecDepth 100000 in
set_option maxHeartbeats 1600000 in
theorem rHeightT_any (v : Value) (N : List Nd) (hh : Int) (em : Bool) (w : World) (h : RdNd w v N) (hS : TreeS N hh em) (hl : N.length ≤ 16777216) :
    Calls Try.prog 33 #[v] w fun e w' => e = .returned (.int .i64 hh) ∧ Below w.heap.size w w' := by
  have HW := Lib.hid (rIsTree_any v N w h hl)
  rcases hS with ⟨h1, rfl, -⟩ | ⟨x, k, hG, rfl, -⟩
  · obtain ⟨_, ao, cap, rfl, -⟩ := h
    rw [h1] at HW
    generalize N.length = n at *
    clear h1
    go_enter Try.func33, Try.ntmps33
    go_wp2_with (go_at_call 60; refine (HW.out).mono ?_; rintro en w2 ⟨rfl, hb2⟩)
    go_ret
    exact ⟨rfl, hb2⟩
  · rw [hG.tree] at HW
    have HT : Hid (∀ wx, Below w.heap.size w wx → Calls Try.prog 61 #[v, .int .i64 0] wx fun e w' => e = .returned (.int .i64 ((k.height + 1 : Nat) : Int)) ∧ Below wx.heap.size wx w') := by
      intro wx hb
      have h2 := h.below hb
      have hln := hG.len
      exact rHeight_all (k.size + 1) v N 0 x k [] wx (Nat.le_refl _) h2 hl ⟨by rw [List.drop_zero, List.append_nil]; exact hG.flat, hG.wf, hG.all⟩
    clear hG
    obtain ⟨_, ao, cap, rfl, -⟩ := h
    generalize N.length = n at *
    generalize (k.height + 1) = q at *
    go_enter Try.func33, Try.ntmps33
    go_wp2_with (first | (go_at_call 60; refine (HW.out).mono ?_; rintro en w2 ⟨rfl, hb2⟩; have HB2 := Lib.hid hb2; clear hb2) | (go_at_call 61; refine (HT.out _ HB2.out).mono ?_; rintro en w3 ⟨rfl, hb3⟩))
    go_ret
    exact ⟨rfl, HB2.out.trans (hb3.mono HB2.out.size)⟩

set_option maxRecDepth 100000 in
set_option maxHeartbeats 1600000 in
theorem xEmptyT_any (v : Value) (N : List Nd) (hh : Int) (em : Bool) (w : World) (h : RdNd w v N) (hS : TreeS N hh em) (hl : N.length ≤ 16777216) :
    Calls Try.prog 30 #[v] w fun e w' => e = .returned (.bool em) ∧ Below w.heap.size w w' := by
  have HW := Lib.hid (xWhole_any v N w h hl)
  rcases hS with ⟨h1, -, rfl⟩ | ⟨x, k, hG, -, rfl⟩
  · obtain ⟨_, ao, cap, rfl, -⟩ := h
    rw [h1] at HW
    generalize N.length = n at *
    clear h1
    go_enter Try.func30, Try.ntmps30
    go_wp2_with (go_at_call 55; refine (HW.out).mono ?_; rintro en w2 ⟨rfl, hb2⟩)
    go_ret
    exact ⟨rfl, hb2⟩
  · rw [hG.tree] at HW
    have HT : Hid (∀ wx, Below w.heap.size w wx → Calls Try.prog 59 #[v] wx fun e w' => e = .returned (.bool (empN x k.emp)) ∧ Below wx.heap.size wx w') := by
      intro wx hb
      have h2 := h.below hb
      have hln := hG.len
      obtain ⟨b, off, cap, rfl, hc, hat⟩ := NdAt.of_rd h2 (by omega)
      rw [hln] at hc ⊢
      rw [hG.flat] at hat
      exact xEmpty_all (k.size + 1) (by omega) x k wx b off cap (Nat.le_refl _) hG.wf hG.all hat hc
    clear hG
    obtain ⟨_, ao, cap, rfl, -⟩ := h
    generalize N.length = n at *
    generalize empN x k.emp = q at *
    go_enter Try.func30, Try.ntmps30
    go_wp2_with (first | (go_at_call 55; refine (HW.out).mono ?_; rintro en w2 ⟨rfl, hb2⟩; have HB2 := Lib.hid hb2; clear hb2) | (go_at_call 59; refine (HT.out _ HB2.out).mono ?_; rintro en w3 ⟨rfl, hb3⟩))
    go_ret
    exact ⟨rfl, HB2.out.trans (hb3.mono HB2.out.size)⟩

set_option maxRecDepth 100000 in
set_option maxHeartbeats 1600000 in
theorem rEmptyT_any (v : Value) (N : List Nd) (hh : Int) (em : Bool) (w : World) (h : RdNd w v N) (hS : TreeS N hh em) (hl : N.length ≤ 16777216) :
    Calls Try.prog 34 #[v] w fun e w' => e = .returned (.bool em) ∧ Below w.heap.size w w' := by
  have HW := Lib.hid (rIsTree_any v N w h hl)
  rcases hS with ⟨h1, -, rfl⟩ | ⟨x, k, hG, -, rfl⟩
  · obtain ⟨_, ao, cap, rfl, -⟩ := h
    rw [h1] at HW
    generalize N.length = n at *
    clear h1
    go_enter Try.func34, Try.ntmps34
    go_wp2_with (go_at_call 60; refine (HW.out).mono ?_; rintro en w2 ⟨rfl, hb2⟩)
    go_ret
    exact ⟨rfl, hb2⟩
  · rw [hG.tree] at HW
    have HT : Hid (∀ wx, Below w.heap.size w wx → Calls Try.prog 62 #[v, .int .i64 0] wx fun e w' => e = .returned (.bool (empN x k.emp)) ∧ Below wx.heap.size wx w') := by
      intro wx hb
      have h2 := h.below hb
      have hln := hG.len
      exact rEmpty_all (k.size + 1) v N 0 x k [] wx (Nat.le_refl _) h2 hl ⟨by rw [List.drop_zero, List.append_nil]; exact hG.flat, hG.wf, hG.all⟩
    clear hG
    obtain ⟨_, ao, cap, rfl, -⟩ := h
    generalize N.length = n at *
    generalize empN x k.emp = q at *
    go_enter Try.func34, Try.ntmps34
    go_wp2_with (first | (go_at_call 60; refine (HW.out).mono ?_; rintro en w2 ⟨rfl, hb2⟩; have HB2 := Lib.hid hb2; clear hb2) | (go_at_call 62; refine (HT.out _ HB2.out).mono ?_; rintro en w3 ⟨rfl, hb3⟩))
    go_ret
    exact ⟨rfl, HB2.out.trans (hb3.mono HB2.out.size)⟩

set_option maxRecDepth 100000 in
set_option maxHeartbeats 1600000 in
theorem regexChecks_any (v : Value) (N : List Nd) (w : World) (h : RdNd w v N) (hl : N.length ≤ 1048576) :
    Calls Try.prog 11 #[v] w fun e w' => e = .returned (.bool true) ∧ Below w.heap.size w w' := by
  obtain ⟨e, hE⟩ := chkS_ex N
  obtain ⟨hh, em, hT⟩ := treeS_ex N
  have HC := Lib.hid (fun w h => rCopy_any v N w h (by omega))
  have H1 := Lib.hid (fun v w h => xCheck_any v N e w h hE (by omega))
  have H2 := Lib.hid (fun v w h => xOcc_any v N w h (by omega))
  have H3 := Lib.hid (fun v w h => xHeightT_any v N hh em w h hT (by omega))
  have H4 := Lib.hid (fun v w h => xEmptyT_any v N hh em w h hT (by omega))
  have R1 := Lib.hid (fun v w h => rCheck_any v N e w h hE (by omega))
  have R2 := Lib.hid (fun v w h => rOcc_any v N w h (by omega))
  have R3 := Lib.hid (fun v w h => rHeightT_any v N hh em w h hT (by omega))
  have R4 := Lib.hid (fun v w h => rEmptyT_any v N hh em w h hT (by omega))
  have HV := Lib.hid h
  obtain ⟨_, ao, cap, rfl, -⟩ := id h
  clear h hE hT
  generalize (nmF N 0).length = oc at *
  have HB0 : Hid (Below w.heap.size w w) := Below.refl _ _
  go_enter Try.func11, Try.ntmps11
  go_wp2_with fail
  refine (HC.out _ (RdNd.below HV.out HB0.out)).mono ?_
  rintro en w1 ⟨v1, rfl, ho1, hb1⟩
  have HO1 := Lib.hid ho1
  have HB1 := Lib.hid (HB0.out.trans (hb1.mono HB0.out.size))
  clear ho1 hb1
  go_wp2_with fail
  refine (H1.out _ _ (RdNd.of_own HO1.out)).mono ?_
  rintro en w2 ⟨rfl, hb2⟩
  have HB2 := Lib.hid (HB1.out.trans (hb2.mono HB1.out.size))
  clear hb2
  go_wp2_with fail
  refine (HC.out _ (RdNd.below HV.out HB2.out)).mono ?_
  rintro en w3 ⟨v3, rfl, ho3, hb3⟩
  have HO3 := Lib.hid ho3
  have HB3 := Lib.hid (HB2.out.trans (hb3.mono HB2.out.size))
  clear ho3 hb3
  go_wp2_with fail
  refine (H2.out _ _ (RdNd.of_own HO3.out)).mono ?_
  rintro en w4 ⟨rfl, hb4⟩
  have HB4 := Lib.hid (HB3.out.trans (hb4.mono HB3.out.size))
  clear hb4
  go_wp2_with fail
  refine (HC.out _ (RdNd.below HV.out HB4.out)).mono ?_
  rintro en w5 ⟨v5, rfl, ho5, hb5⟩
  have HO5 := Lib.hid ho5
  have HB5 := Lib.hid (HB4.out.trans (hb5.mono HB4.out.size))
  clear ho5 hb5
  go_wp2_with fail
  refine (H3.out _ _ (RdNd.of_own HO5.out)).mono ?_
  rintro en w6 ⟨rfl, hb6⟩
  have HB6 := Lib.hid (HB5.out.trans (hb6.mono HB5.out.size))
  clear hb6
  go_wp2_with fail
  refine (HC.out _ (RdNd.below HV.out HB6.out)).mono ?_
  rintro en w7 ⟨v7, rfl, ho7, hb7⟩
  have HO7 := Lib.hid ho7
  have HB7 := Lib.hid (HB6.out.trans (hb7.mono HB6.out.size))
  clear ho7 hb7
  go_wp2_with fail
  refine (H4.out _ _ (RdNd.of_own HO7.out)).mono ?_
  rintro en w8 ⟨rfl, hb8⟩
  have HB8 := Lib.hid (HB7.out.trans (hb8.mono HB7.out.size))
  clear hb8
  go_wp2_with fail
  refine (head_any _).mono ?_
  rintro en w9 ⟨rfl, hb9⟩
  have HB9 := Lib.hid (HB8.out.trans (hb9.mono HB8.out.size))
  clear hb9
  go_wp2_with fail
  refine (R1.out _ _ (RdNd.below HV.out HB9.out)).mono ?_
  rintro en w10 ⟨rfl, hb10⟩
  have HB10 := Lib.hid (HB9.out.trans (hb10.mono HB9.out.size))
  clear hb10
  go_wp2_with fail
  refine (R2.out _ _ (RdNd.below HV.out HB10.out)).mono ?_
  rintro en w11 ⟨rfl, hb11⟩
  have HB11 := Lib.hid (HB10.out.trans (hb11.mono HB10.out.size))
  clear hb11
  go_wp2_with fail
  refine (R3.out _ _ (RdNd.below HV.out HB11.out)).mono ?_
  rintro en w12 ⟨rfl, hb12⟩
  have HB12 := Lib.hid (HB11.out.trans (hb12.mono HB11.out.size))
  clear hb12
  go_wp2_with fail
  refine (R4.out _ _ (RdNd.below HV.out HB12.out)).mono ?_
  rintro en w13 ⟨rfl, hb13⟩
  have HB13 := Lib.hid (HB12.out.trans (hb13.mono HB12.out.size))
  clear hb13
  go_wp2_with fail
  go_ret
  exact ⟨by simp, HB13.out⟩
end Go.Proofs.Ytbpipnjdfmpbdaa
