import Derived.Test.YtbpipnjdfmpbdaaRxE
namespace Go.Proofs.Ytbpipnjdfmpbdaa
open Go.RowKit Go.Shelf

/-- a reading function reads as said, wherever the reader stands -/
def Reads (fn : Nat) (Br : Nat) (vl : Value) (L : List Mk) (en : Int) (q : Nat) (r : PR) : Prop :=
  ∀ w, Rdr w Br vl L q en → q ≤ L.length → Calls Try.prog fn #[.pointer (some ⟨Br, 0, none⟩)] w (PRet Br vl L en w r)

set_option maxRecDepth 100000 in
set_option maxHeartbeats 1600000 in
theorem xPartMore_any (Br Bx : Nat) (vl : Value) (L : List Mk) (q : Nat) (en : Int) (E : Nat → PR) (w : World) (hx : BoxR w Bx Br) (h : Rdr w Br vl L q en) (hq : q ≤ L.length)
    (HU : Reads 99 Br vl L en q (pUnit E L q)) :
    Calls Try.prog 100 #[.pointer (some ⟨Bx, 0, none⟩)] w (MRet Br vl L en w q (sPart E L q)) := by
  have HUh := Lib.hid HU
  have HK := Lib.hid (xKind_any Br vl L q en w h hq)
  have hxc := hx.1.cell
  have HX := Lib.hid hx
  have HR := Lib.hid h
  clear hx h HU
  cases hb : beginsI (kd L q) with
  | false =>
    have HB : Hid (∀ w, Calls Try.prog 101 #[.int .i64 (kd L q)] w fun e w' => e = .returned (.bool false) ∧ w = w') := by
      intro w; rw [← hb]; exact xBegins_any _ _
    have HS : Hid (sPart E L q = none) := by unfold Hid sPart; rw [hb]; rfl
    clear hb
    generalize kd L q = k at *
    go_enter Try.func100, Try.ntmps100
    go_wp2_with (first | (go_at_call 77; refine (HK.out).mono ?_; rintro e w1 ⟨rfl, hr1, hg1⟩; have HR1 := Lib.hid hr1; have HG1 := Lib.hid hg1; clear hr1 hg1) | (go_at_call 101; refine (HB.out _).mono ?_; rintro e w' ⟨rfl, rfl⟩))
    go_ret2
    exact ⟨grown_none HG1.out, .inl ⟨HS.out, rfl, HR1.out⟩⟩
  | true =>
    have HB : Hid (∀ w, Calls Try.prog 101 #[.int .i64 (kd L q)] w fun e w' => e = .returned (.bool true) ∧ w = w') := by
      intro w; rw [← hb]; exact xBegins_any _ _
    have HS : Hid (sPart E L q = some (pUnit E L q)) := by unfold Hid sPart; rw [hb]; rfl
    clear hb
    generalize kd L q = k at *
    generalize pUnit E L q = r at *
    obtain ⟨ok, f, q2⟩ := r
    go_enter Try.func100, Try.ntmps100
    go_wp2_with (first | (go_at_call 77; refine (HK.out).mono ?_; rintro e w1 ⟨rfl, hr1, hg1⟩; have HR1 := Lib.hid hr1; have HG1 := Lib.hid hg1; have hx1 := (HX.out.kept (grown_none hg1)).1.cell; clear hr1 hg1) | (go_at_call 101; refine (HB.out _).mono ?_; rintro e w' ⟨rfl, rfl⟩))
    refine (HUh.out _ HR1.out hq).mono ?_
    rintro e w2 ⟨hg2, ⟨hok, v, rfl, ho, hr2⟩ | ⟨hok, rfl⟩⟩
    · simp only at hok; subst hok
      have HO := Lib.hid ho
      have HR2 := Lib.hid hr2
      have HG2 := Lib.hid hg2
      clear ho hr2 hg2
      go_wp2_with fail
      go_ret2
      exact ⟨(grown_none HG1.out).trans HG2.out, .inr ⟨_, HS.out, .inl ⟨rfl, v, rfl, own_lower HO.out HG1.out.size, HR2.out⟩⟩⟩
    · simp only at hok; subst hok
      go_wp2_with fail
      refine ⟨rfl, ?_⟩
      exact ⟨(grown_none HG1.out).trans hg2, .inr ⟨_, HS.out, .inr ⟨rfl, rfl⟩⟩⟩

set_option maxRecDepth 100000 in
set_option maxHeartbeats 1600000 in
theorem xExprMore_any (Br Bx : Nat) (vl : Value) (L : List Mk) (q : Nat) (en : Int) (E : Nat → PR) (w : World) (hx : BoxR w Bx Br) (h : Rdr w Br vl L q en) (hq : q ≤ L.length) (hl : L.length < 4294967296)
    (HU : Reads 75 Br vl L en (q + 1) (pPart E L (q + 1))) :
    Calls Try.prog 76 #[.pointer (some ⟨Bx, 0, none⟩)] w (MRet Br vl L en w q (sExpr E L q)) := by
  have HUh := Lib.hid HU
  have HK := Lib.hid (xKind_any Br vl L q en w h hq)
  have hxc := hx.1.cell
  have HX := Lib.hid hx
  have HR := Lib.hid h
  clear hx h HU
  by_cases hb : kd L q = 6
  · have hql := kd_lt (L := L) (p := q) (by omega)
    have HS : Hid (sExpr E L q = some (pPart E L (q + 1))) := by unfold Hid sExpr; rw [if_pos hb]
    rw [hb] at HK
    clear hb
    generalize pPart E L (q + 1) = r at *
    obtain ⟨ok, f, q2⟩ := r
    go_enter Try.func76, Try.ntmps76
    go_wp2_with (go_at_call 77; refine (HK.out).mono ?_; rintro e w1 ⟨rfl, hr1, hg1⟩; have HR1 := Lib.hid hr1; have HG1 := Lib.hid hg1; have hx1 := (HX.out.kept (grown_none hg1)).1.cell; obtain ⟨c0, c1, c2, c3⟩ := hr1.cells; have hne := HX.out.2; clear hr1 hg1)
    have hr3 := HR1.out.step (q + 1)
    have hg3 := grown_then (grown_none (row := some Br) HG1.out) (grown_set w1 Br 1 (.int .i64 ((q + 1 : Nat) : Int))) (by simp)
    rw [show ((q : Int) + 1) = ((q + 1 : Nat) : Int) from by omega]
    have HR3 := Lib.hid hr3
    have HG3 := Lib.hid hg3
    clear hr3 hg3 c0 c1 c2 c3 HG1 HR1 hx1
    generalize w1.setCell ⟨Br, 1, none⟩ (.int .i64 ((q + 1 : Nat) : Int)) = w3 at *
    refine (HUh.out _ HR3.out (by omega)).mono ?_
    rintro e w2 ⟨hg2, ⟨hok, v, rfl, ho, hr2⟩ | ⟨hok, rfl⟩⟩
    · simp only at hok; subst hok
      have HO := Lib.hid ho
      have HR2 := Lib.hid hr2
      have HG2 := Lib.hid hg2
      clear ho hr2 hg2
      go_wp2_with fail
      go_ret2
      exact ⟨HG3.out.trans HG2.out, .inr ⟨_, HS.out, .inl ⟨rfl, v, rfl, own_lower HO.out HG3.out.size, HR2.out⟩⟩⟩
    · simp only at hok; subst hok
      go_wp2_with fail
      refine ⟨rfl, ?_⟩
      exact ⟨HG3.out.trans hg2, .inr ⟨_, HS.out, .inr ⟨rfl, rfl⟩⟩⟩
  · have HS : Hid (sExpr E L q = none) := by unfold Hid sExpr; rw [if_neg hb]
    have hb' : (kd L q != 6) = true := by simpa using hb
    clear hb
    generalize kd L q = k at *
    go_enter Try.func76, Try.ntmps76
    go_wp2_with (go_at_call 77; refine (HK.out).mono ?_; rintro e w1 ⟨rfl, hr1, hg1⟩; have HR1 := Lib.hid hr1; have HG1 := Lib.hid hg1; clear hr1 hg1)
    go_ret2
    exact ⟨grown_none HG1.out, .inl ⟨HS.out, rfl, HR1.out⟩⟩

set_option maxRecDepth 100000 in
set_option maxHeartbeats 1600000 in
theorem xPart_any (Br : Nat) (vl : Value) (L : List Mk) (p : Nat) (en : Int) (E : Nat → PR) (w : World) (h : Rdr w Br vl L p en) (hp : p ≤ L.length) (hl : L.length < 4294967296)
    (HU : ∀ q, p ≤ q → Reads 99 Br vl L en q (pUnit E L q)) (hU : PB L p (pUnit E L p)) (hS : ∀ q r, p ≤ q → q ≤ L.length → sPart E L q = some r → SB L q r ∧ (r.ok = false → q < L.length)) :
    Calls Try.prog 75 #[.pointer (some ⟨Br, 0, none⟩)] w (PRet Br vl L en w (pPart E L p)) := by
  have HUh := Lib.hid HU
  have HS := Lib.hid hS
  have HB := Lib.hid hU
  have HR := Lib.hid h
  have hb0 := h.lt
  clear HU hS hU h
  have HT : Hid (pPart E L p = if (pUnit E L p).ok then pMany (sPart E L) 4 (L.length - (pUnit E L p).p) (pUnit E L p).p (pUnit E L p).f 1 else pUnit E L p) := rfl
  have hg1 : w.grownBy (w.alloc (.cells #[.pointer (some ⟨Br, 0, none⟩)] 71)) none := World.grownBy_alloc _ _ _
  have HR1 : Hid (Rdr (w.alloc (.cells #[.pointer (some ⟨Br, 0, none⟩)] 71)) Br vl L p en) := HR.out.kept hg1
  have HX1 : Hid (BoxR (w.alloc (.cells #[.pointer (some ⟨Br, 0, none⟩)] 71)) w.heap.size Br) := ⟨Boxed.new w _ _, by omega⟩
  have HG1 := Lib.hid hg1
  clear hg1
  have heg : ∀ args w, (callFunc 100 args).run Try.prog w = .ok (.enter 100 args) w := fun _ _ => rfl
  have HEG := Lib.hid heg
  clear heg
  go_enter Try.func75, Try.ntmps75
  go_wp2_with fail
  refine (HUh.out p (Nat.le_refl _) _ HR1.out hp).mono ?_
  have HU2 : Hid (∀ q, p ≤ q → Reads 99 Br vl L en q (pUnit E L q)) := HUh.out
  generalize hr : pUnit E L p = r at *
  have HRR := Lib.hid hr
  clear hr
  obtain ⟨ok, f, q⟩ := r
  rintro e w2 ⟨hg2, ⟨hok, v, rfl, ho, hr2⟩ | ⟨hok, rfl⟩⟩
  · simp only at hok; subst hok
    have h1 := HB.out.le
    have h2 := HB.out.lt rfl
    have h3 := HB.out.size rfl
    have h4 := HB.out.one rfl
    simp only at h1 h2 h3 h4
    have HX2 := Lib.hid (HX1.out.kept hg2)
    have HR2 := Lib.hid hr2
    have HG2 : Hid (w.grownBy w2 (some Br)) := grown_then (grown_none HG1.out) hg2 (by simp)
    have HO2 : Hid (OwnNd w2 w.heap.size v f.flat) := own_lower ho HG1.out.size
    have HM := Lib.hid (xMany_any Br w.heap.size vl L q en 4 (sPart E L) 100 f v w w2 p HR.out HG2.out HX2.out HR2.out HO2.out h1 hl h4 (by omega) HEG.out (by intro q2 wq hpq hx hr hq; exact xPartMore_any Br _ vl L q2 en E wq hx hr hq (fun w2 h2 h3 => HU2.out q2 (by omega) w2 h2 h3)) (fun q2 r2 hq2 => HS.out q2 r2 (by omega)))
    clear hg2 hr2 ho h1 h2 h3 h4
    go_wp2_with fail
    refine (HM.out).mono ?_
    rintro e w3 ⟨hg3, ⟨hok, v3, rfl, ho3, hr3⟩ | ⟨hok, rfl⟩⟩
    · have HP : Hid (PRet Br vl L en w (pPart E L p) (.returned v3) w3) := by
        unfold Hid; rw [HT.out]; first | rw [if_pos rfl] | rw [if_pos trivial]
        exact ⟨hg3, .inl ⟨hok, v3, rfl, ho3, hr3⟩⟩
      clear hg3 ho3 hr3 hok
      go_wp2_with fail
      go_ret
      exact HP.out
    · have HP : Hid (PRet Br vl L en w (pPart E L p) (.panicked (wrongV (plc L en (pMany (sPart E L) 4 (L.length - q) q f 1).p))) w3) := by
        unfold Hid; rw [HT.out]; first | rw [if_pos rfl] | rw [if_pos trivial]
        exact ⟨hg3, .inr ⟨hok, rfl⟩⟩
      go_wp2_with fail
      exact ⟨rfl, HP.out⟩
  · simp only at hok; subst hok
    go_wp2_with fail
    refine ⟨rfl, ?_⟩
    rw [HT.out]
    exact PRet.bad (grown_then (grown_none HG1.out) hg2 (by simp))

set_option maxRecDepth 100000 in
set_option maxHeartbeats 1600000 in
theorem xExpr_any (Br : Nat) (vl : Value) (L : List Mk) (p : Nat) (en : Int) (E : Nat → PR) (w : World) (h : Rdr w Br vl L p en) (hp : p ≤ L.length) (hl : L.length < 4294967296)
    (HU : ∀ q, p ≤ q → Reads 75 Br vl L en q (pPart E L q)) (hU : PB L p (pPart E L p)) (hS : ∀ q r, p ≤ q → q ≤ L.length → sExpr E L q = some r → SB L q r ∧ (r.ok = false → q < L.length)) :
    Calls Try.prog 47 #[.pointer (some ⟨Br, 0, none⟩)] w (PRet Br vl L en w (pExprS E L p)) := by
  have HUh := Lib.hid HU
  have HS := Lib.hid hS
  have HB := Lib.hid hU
  have HR := Lib.hid h
  have hb0 := h.lt
  clear HU hS hU h
  have HT : Hid (pExprS E L p = if (pPart E L p).ok then pMany (sExpr E L) 5 (L.length - (pPart E L p).p) (pPart E L p).p (pPart E L p).f 1 else pPart E L p) := rfl
  have hg1 : w.grownBy (w.alloc (.cells #[.pointer (some ⟨Br, 0, none⟩)] 71)) none := World.grownBy_alloc _ _ _
  have HR1 : Hid (Rdr (w.alloc (.cells #[.pointer (some ⟨Br, 0, none⟩)] 71)) Br vl L p en) := HR.out.kept hg1
  have HX1 : Hid (BoxR (w.alloc (.cells #[.pointer (some ⟨Br, 0, none⟩)] 71)) w.heap.size Br) := ⟨Boxed.new w _ _, by omega⟩
  have HG1 := Lib.hid hg1
  clear hg1
  have heg : ∀ args w, (callFunc 76 args).run Try.prog w = .ok (.enter 76 args) w := fun _ _ => rfl
  have HEG := Lib.hid heg
  clear heg
  go_enter Try.func47, Try.ntmps47
  go_wp2_with fail
  refine (HUh.out p (Nat.le_refl _) _ HR1.out hp).mono ?_
  have HU2 : Hid (∀ q, p ≤ q → Reads 75 Br vl L en q (pPart E L q)) := HUh.out
  generalize hr : pPart E L p = r at *
  have HRR := Lib.hid hr
  clear hr
  obtain ⟨ok, f, q⟩ := r
  rintro e w2 ⟨hg2, ⟨hok, v, rfl, ho, hr2⟩ | ⟨hok, rfl⟩⟩
  · simp only at hok; subst hok
    have h1 := HB.out.le
    have h2 := HB.out.lt rfl
    have h3 := HB.out.size rfl
    have h4 := HB.out.one rfl
    simp only at h1 h2 h3 h4
    have HX2 := Lib.hid (HX1.out.kept hg2)
    have HR2 := Lib.hid hr2
    have HG2 : Hid (w.grownBy w2 (some Br)) := grown_then (grown_none HG1.out) hg2 (by simp)
    have HO2 : Hid (OwnNd w2 w.heap.size v f.flat) := own_lower ho HG1.out.size
    have HM := Lib.hid (xMany_any Br w.heap.size vl L q en 5 (sExpr E L) 76 f v w w2 p HR.out HG2.out HX2.out HR2.out HO2.out h1 hl h4 (by omega) HEG.out (by intro q2 wq hpq hx hr hq; exact xExprMore_any Br _ vl L q2 en E wq hx hr hq hl (fun w2 h2 h3 => HU2.out (q2 + 1) (by omega) w2 h2 h3)) (fun q2 r2 hq2 => HS.out q2 r2 (by omega)))
    clear hg2 hr2 ho h1 h2 h3 h4
    go_wp2_with fail
    refine (HM.out).mono ?_
    rintro e w3 ⟨hg3, ⟨hok, v3, rfl, ho3, hr3⟩ | ⟨hok, rfl⟩⟩
    · have HP : Hid (PRet Br vl L en w (pExprS E L p) (.returned v3) w3) := by
        unfold Hid; rw [HT.out]; first | rw [if_pos rfl] | rw [if_pos trivial]
        exact ⟨hg3, .inl ⟨hok, v3, rfl, ho3, hr3⟩⟩
      clear hg3 ho3 hr3 hok
      go_wp2_with fail
      go_ret
      exact HP.out
    · have HP : Hid (PRet Br vl L en w (pExprS E L p) (.panicked (wrongV (plc L en (pMany (sExpr E L) 5 (L.length - q) q f 1).p))) w3) := by
        unfold Hid; rw [HT.out]; first | rw [if_pos rfl] | rw [if_pos trivial]
        exact ⟨hg3, .inr ⟨hok, rfl⟩⟩
      go_wp2_with fail
      exact ⟨rfl, HP.out⟩
  · simp only at hok; subst hok
    go_wp2_with fail
    refine ⟨rfl, ?_⟩
    rw [HT.out]
    exact PRet.bad (grown_then (grown_none HG1.out) hg2 (by simp))
end Go.Proofs.Ytbpipnjdfmpbdaa
