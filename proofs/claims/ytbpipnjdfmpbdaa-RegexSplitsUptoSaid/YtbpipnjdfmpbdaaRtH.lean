import Derived.Test.YtbpipnjdfmpbdaaRtG
import Derived.Test.YtbpipnjdfmpbdaaRtB
import Derived.Test.YtbpipnjdfmpbdaaRtV
namespace Go.Proofs.Ytbpipnjdfmpbdaa
open Go.RowKit Go.Shelf

def boundsF (x : Nd) (k : Fo) : Int := if 16 < k.height + 1 then 171 else if 2048 < (txN x k.tx).size then 174 else 0

set_option maxRecDepth 100000 in
set_option maxHeartbeats 1600000 in
theorem xBounded_any (b off cap : Nat) (x : Nd) (k : Fo) (w : World) (h : NdAt w b off (Fo.cons x k .nil).flat) (hwf : (Fo.cons x k .nil).wf) (hall : (Fo.cons x k .nil).all mayN) (hcap : k.size + 1 ≤ cap) (hl : k.size + 1 ≤ 16777216) :
    Calls Try.prog 41 #[.slice (some ⟨b, off, none⟩) (k.size + 1) cap] w fun e w' => e = .returned (.int .i64 (boundsF x k)) ∧ Below w.heap.size w w' := by
  have hfl : (Fo.cons x k .nil).flat.length = k.size + 1 := by rw [Fo.flat_len]; simp [Fo.size]
  have hht : (Fo.cons x k .nil).height = k.height + 1 := by simp [Fo.height]
  have HH := Lib.hid (xHeight_any b off cap (Fo.cons x k .nil) w h hwf (by rw [hfl]; exact hcap) (by rw [hfl]; omega))
  rw [hfl, hht] at HH
  have HT : Hid (∀ wx, Below w.heap.size w wx → Calls Try.prog 53 #[.slice (some ⟨b, off, none⟩) (k.size + 1) cap] wx (TRet wx (txN x k.tx))) :=
    fun wx hb => text_all 16777216 (Nat.le_refl _) x k wx b off cap hl hall hwf (h.below hb) hcap
  have hts : (txN x k.tx).size ≤ 32 * 16777216 := by
    have key : ∀ f : Fo, f.all mayN → f.all fun x => x.n.size ≤ 16 := by
      intro f
      induction f with
      | nil => intro _; trivial
      | cons y a b2 i1 i2 => intro h; exact ⟨h.1.size, i1 h.2.1, i2 h.2.2⟩
    have := Fo.tx_size (Fo.cons x k .nil) (key _ hall)
    simp only [Fo.tx, Fo.size, List.map_cons, List.map_nil, List.sum_cons, List.sum_nil] at this
    omega
  have HB : Hid (boundsF x k = if 16 < k.height + 1 then 171 else if 2048 < (txN x k.tx).size then 174 else 0) := rfl
  generalize txN x k.tx = t at *
  generalize k.height = hh at *
  generalize k.size + 1 = n at *
  generalize boundsF x k = bd at *
  clear h hwf hall hfl hht
  by_cases h1 : 16 < hh + 1
  · have HE : Hid (bd = 171) := by unfold Hid; rw [HB.out, if_pos h1]
    go_enter Try.func41, Try.ntmps41
    go_wp2_with (go_at_call 58; refine (HH.out).mono ?_; rintro e w1 ⟨rfl, hb1⟩)
    go_ret
    exact ⟨congrArg (fun z : Int => Ending.returned (.int .i64 z)) HE.out.symm, hb1⟩
  · by_cases h2 : 2048 < t.size
    · have HE : Hid (bd = 174) := by unfold Hid; rw [HB.out, if_neg h1, if_pos h2]
      go_enter Try.func41, Try.ntmps41
      go_wp2_with (first | (go_at_call 58; refine (HH.out).mono ?_; rintro e w1 ⟨rfl, hb1⟩; have HB1 := Lib.hid hb1; clear hb1) | (go_at_call 53; refine (HT.out _ HB1.out).mono ?_; rintro e w2 ⟨rfl, hb2⟩))
      go_ret
      exact ⟨congrArg (fun z : Int => Ending.returned (.int .i64 z)) HE.out.symm, HB1.out.trans (hb2.mono HB1.out.size)⟩
    · have HE : Hid (bd = 0) := by unfold Hid; rw [HB.out, if_neg h1, if_neg h2]
      go_enter Try.func41, Try.ntmps41
      go_wp2_with (first | (go_at_call 58; refine (HH.out).mono ?_; rintro e w1 ⟨rfl, hb1⟩; have HB1 := Lib.hid hb1; clear hb1) | (go_at_call 53; refine (HT.out _ HB1.out).mono ?_; rintro e w2 ⟨rfl, hb2⟩))
      go_ret
      exact ⟨congrArg (fun z : Int => Ending.returned (.int .i64 z)) HE.out.symm, HB1.out.trans (hb2.mono HB1.out.size)⟩

set_option maxRecDepth 100000 in
set_option maxHeartbeats 1600000 in
theorem rBounds_any (v : Value) (N : List Nd) (x : Nd) (k : Fo) (R : List Nd) (w : World) (h : RdNd w v N) (hl : N.length ≤ 16777216) (hT : TreeAt N 0 x k R) :
    Calls Try.prog 44 #[v] w fun e w' => e = .returned (.int .i64 (boundsF x k)) ∧ Below w.heap.size w w' := by
  have HH := Lib.hid (rHeight_all (k.size + 1) v N 0 x k R w (Nat.le_refl _) h hl hT)
  have HT : Hid (∀ wx, Below w.heap.size w wx → Calls Try.prog 54 #[v, .int .i64 ((0 : Nat) : Int)] wx fun e w' => e = .returned (.string (txN x k.tx)) ∧ Below wx.heap.size wx w') :=
    fun wx hb => rText_all (k.size + 1) v N 0 x k R wx (Nat.le_refl _) (h.below hb) hl hT
  have hts : (txN x k.tx).size ≤ 32 * 16777216 := by
    have key : ∀ f : Fo, f.all mayN → f.all fun x => x.n.size ≤ 16 := by
      intro f
      induction f with
      | nil => intro _; trivial
      | cons y a b2 i1 i2 => intro h; exact ⟨h.1.size, i1 h.2.1, i2 h.2.2⟩
    have := Fo.tx_size (Fo.cons x k .nil) (key _ hT.all)
    simp only [Fo.tx, Fo.size, List.map_cons, List.map_nil, List.sum_cons, List.sum_nil] at this
    have := hT.head.2.2
    omega
  have hhs := height_le k
  have hks := hT.head.2.2
  have HB : Hid (boundsF x k = if 16 < k.height + 1 then 171 else if 2048 < (txN x k.tx).size then 174 else 0) := rfl
  obtain ⟨_, ao, cap, rfl, -⟩ := h
  generalize txN x k.tx = t at *
  generalize k.height = hh at *
  generalize boundsF x k = bd at *
  clear hT
  rw [show ((0 : Nat) : Int) = 0 from rfl] at HH HT
  by_cases h1 : 16 < hh + 1
  · have HE : Hid (bd = 171) := by unfold Hid; rw [HB.out, if_pos h1]
    go_enter Try.func44, Try.ntmps44
    go_wp2_with (go_at_call 61; refine (HH.out).mono ?_; rintro e w1 ⟨rfl, hb1⟩)
    go_ret
    exact ⟨congrArg (fun z : Int => Ending.returned (.int .i64 z)) HE.out.symm, hb1⟩
  · by_cases h2 : 2048 < t.size
    · have HE : Hid (bd = 174) := by unfold Hid; rw [HB.out, if_neg h1, if_pos h2]
      go_enter Try.func44, Try.ntmps44
      go_wp2_with (first | (go_at_call 61; refine (HH.out).mono ?_; rintro e w1 ⟨rfl, hb1⟩; have HB1 := Lib.hid hb1; clear hb1) | (go_at_call 54; refine (HT.out _ HB1.out).mono ?_; rintro e w2 ⟨rfl, hb2⟩))
      go_ret
      exact ⟨congrArg (fun z : Int => Ending.returned (.int .i64 z)) HE.out.symm, HB1.out.trans (hb2.mono HB1.out.size)⟩
    · have HE : Hid (bd = 0) := by unfold Hid; rw [HB.out, if_neg h1, if_neg h2]
      go_enter Try.func44, Try.ntmps44
      go_wp2_with (first | (go_at_call 61; refine (HH.out).mono ?_; rintro e w1 ⟨rfl, hb1⟩; have HB1 := Lib.hid hb1; clear hb1) | (go_at_call 54; refine (HT.out _ HB1.out).mono ?_; rintro e w2 ⟨rfl, hb2⟩))
      go_ret
      exact ⟨congrArg (fun z : Int => Ending.returned (.int .i64 z)) HE.out.symm, HB1.out.trans (hb2.mono HB1.out.size)⟩

theorem xLong_any (x : Nd) (w : World) :
    Calls Try.prog 40 #[.agg #[.int .i64 x.k, .string x.n, .int .i64 x.c]] w fun e w' => e = .returned (.bool (decide (16 < x.n.size))) ∧ Below w.heap.size w w' := by
  by_cases h : 16 < x.n.size
  · have HD : Hid (decide (16 < x.n.size) = true) := by unfold Hid; simpa using h
    go_enter Try.func40, Try.ntmps40
    go_wp2_with fail
    go_ret
    exact ⟨by first | (rw [HD.out]; rfl) | (simp; omega) | (simp [h]; omega), below1 _ _⟩
  · have HD : Hid (decide (16 < x.n.size) = false) := by unfold Hid; simpa using h
    go_enter Try.func40, Try.ntmps40
    go_wp2_with fail
    go_ret
    exact ⟨by first | (rw [HD.out]; rfl) | (simp; omega) | (simp [h]; omega), below1 _ _⟩
/-- where the first long name stands; -1: nowhere -/
def LongIx (l : List Nd) (r : Int) : Prop := (r = -1 ∧ longN l = false) ∨ (0 ≤ r ∧ longN l = true)
set_option maxRecDepth 100000 in
set_option maxHeartbeats 1600000 in
theorem xIndex_any (v : Value) (l : List Nd) (w : World) (h : RdNd w v l) (hl : l.length ≤ 140737488355328) :
    Calls Try.prog 65 #[v, .func (.func 40) #[] #[]] w fun e w' => ∃ r, e = .returned (.int .i64 r) ∧ Hid (LongIx l r) ∧ Below w.heap.size w w' := by
  have HR := Lib.hid h
  obtain ⟨_, ao, cap, rfl, -⟩ := h
  go_enter Try.func65, Try.ntmps65
  go_wp2_with fail
  go_loopw [8] (fun i wr => ∃ j : Nat, j ≤ l.length ∧ i = .int .i64 j ∧ Hid (∀ q x, q < j → l[q]? = some x → ¬ 16 < x.n.size) ∧ Hid (Below w.heap.size w wr)) (fun i _ => l.length - (intOf i).toNat)
  case atStart => exact ⟨0, by omega, rfl, fun q x h => by omega, Below.refl _ _⟩
  case round =>
    obtain ⟨j, hj, rfl, HQ, HBel⟩ := hrel
    by_cases hlt : j < l.length
    · obtain ⟨x, hx⟩ : ∃ x, l[j]? = some x := ⟨_, List.getElem?_eq_getElem hlt⟩
      obtain ⟨b, off, cp, e1, hb, hc, x0, x1, x2⟩ := RdNd.at HR.out hx
      simp only [Value.slice.injEq] at e1
      obtain ⟨rfl, -, rfl⟩ := e1
      have X0 := (HBel.out.cell (p := ⟨b, _, none⟩) hb).trans x0
      have X1 := (HBel.out.cell (p := ⟨b, _, none⟩) hb).trans x1
      have X2 := (HBel.out.cell (p := ⟨b, _, none⟩) hb).trans x2
      have HL := Lib.hid (fun w => xLong_any x w)
      have HX := Lib.hid hx
      have hws := HBel.out.size
      clear x0 x1 x2 hx
      cases hd : decide (16 < x.n.size) with
      | true =>
        rw [hd] at HL
        have HLg : Hid (LongIx l j) := .inr ⟨by omega, by unfold longN; rw [List.any_eq_true]; exact ⟨x, List.mem_of_getElem? HX.out, hd⟩⟩
        clear hd
        go_wp2_with (go_at_call 40; refine (HL.out _).mono ?_; rintro e w2 ⟨rfl, hb2⟩)
        go_ret
        exact ⟨_, rfl, HLg.out, HBel.out.trans (hb2.mono hws)⟩
      | false =>
        rw [hd] at HL
        have HQ2 : Hid (∀ q y, q < j + 1 → l[q]? = some y → ¬ 16 < y.n.size) := fun q y hq hy => by
          by_cases h : q = j
          · subst h; rw [HX.out] at hy; injection hy with hy; subst hy; simpa using hd
          · exact HQ.out q y (by omega) hy
        clear hd
        go_wp2_with (go_at_call 40; refine (HL.out _).mono ?_; rintro e w2 ⟨rfl, hb2⟩; have HB2 := Lib.hid hb2; clear hb2)
        go_roundw
        case rel => exact ⟨j + 1, by omega, by go_num, HQ2.out, HBel.out.trans (HB2.out.mono hws)⟩
        case measure => simp [intOf]; omega
    · have HLg : Hid (LongIx l (-1)) := by
        refine .inl ⟨rfl, ?_⟩
        unfold longN
        rw [List.any_eq_false]
        intro x hx
        obtain ⟨q, hq⟩ := List.getElem?_of_mem hx
        have := HQ.out q x (by have := (List.getElem?_eq_some_iff.1 hq).1; omega) hq
        simpa using this
      go_wp2_with fail
      go_ret
      exact ⟨_, rfl, HLg.out, HBel.out⟩
set_option maxHeartbeats 1600000 in
theorem xContains_any (v : Value) (l : List Nd) (w : World) (h : RdNd w v l) (hl : l.length ≤ 140737488355328) :
    Calls Try.prog 39 #[v, .func (.func 40) #[] #[]] w fun e w' => e = .returned (.bool (longN l)) ∧ Below w.heap.size w w' := by
  have HI := Lib.hid (xIndex_any v l w h hl)
  obtain ⟨_, ao, cap, rfl, -⟩ := h
  go_enter Try.func39, Try.ntmps39
  go_wp2_with fail
  refine (HI.out).mono ?_
  rintro e w1 ⟨r, rfl, HL, hb1⟩
  rcases HL.out with ⟨rfl, h2⟩ | ⟨h1, h2⟩
  · have H2 := Lib.hid h2
    clear h2 HL HI
    go_wp2_with fail
    go_ret
    exact ⟨by rw [H2.out]; rfl, hb1⟩
  · have H2 := Lib.hid h2
    clear h2 HL HI
    go_wp2_with fail
    go_ret
    exact ⟨by rw [H2.out]; rfl, hb1⟩
set_option maxRecDepth 100000 in
set_option maxHeartbeats 1600000 in
theorem rTooLong_any (v : Value) (l : List Mk) (w : World) (h : RdTk w v l) (hl : l.length ≤ 16777216) :
    Calls Try.prog 43 #[v] w fun e w' => e = .returned (.bool (longM l)) ∧ w = w' := by
  have HR := Lib.hid h
  obtain ⟨_, ao, cap, rfl, -⟩ := h
  go_enter Try.func43, Try.ntmps43
  go_wp2_with fail
  go_loop [3] (fun i => ∃ j : Nat, j ≤ l.length ∧ i = .int .i64 j ∧ Hid (∀ q x, q < j → l[q]? = some x → ¬ 16 < x.t.size)) (fun i => l.length - (intOf i).toNat)
  case atStart => exact ⟨0, by omega, rfl, fun q x h => by omega⟩
  case round =>
    obtain ⟨j, hj, rfl, HQ⟩ := hrel
    by_cases hlt : j < l.length
    · obtain ⟨x, hx⟩ : ∃ x, l[j]? = some x := ⟨_, List.getElem?_eq_getElem hlt⟩
      obtain ⟨b, off, cp, e1, hb, hc, x0, x1, x2⟩ := RdTk.at HR.out hx
      simp only [Value.slice.injEq] at e1
      obtain ⟨rfl, -, rfl⟩ := e1
      have HX := Lib.hid hx
      clear x0 x1 hx
      by_cases hd : 16 < x.t.size
      · have HLg : Hid (longM l = true) := by unfold Hid longM; rw [List.any_eq_true]; exact ⟨x, List.mem_of_getElem? HX.out, by simpa using hd⟩
        go_wp2_with fail
        go_ret
        exact ⟨by rw [HLg.out]; rfl, rfl⟩
      · have HQ2 : Hid (∀ q (y : Mk), q < j + 1 → l[q]? = some y → ¬ 16 < y.t.size) := fun q y hq hy => by
          by_cases h : q = j
          · subst h; rw [HX.out] at hy; injection hy with hy; subst hy; exact hd
          · exact HQ.out q y (by omega) hy
        go_wp2_with fail
        go_round
        case rel => exact ⟨j + 1, by omega, by go_num, HQ2.out⟩
        case measure => simp [intOf]; omega
    · have HLg : Hid (longM l = false) := by
        unfold Hid longM
        rw [List.any_eq_false]
        intro x hx
        obtain ⟨q, hq⟩ := List.getElem?_of_mem hx
        have := HQ.out q x (by have := (List.getElem?_eq_some_iff.1 hq).1; omega) hq
        simpa using this
      go_wp2_with fail
      go_ret
      exact ⟨by rw [HLg.out]; rfl, rfl⟩
end Go.Proofs.Ytbpipnjdfmpbdaa
