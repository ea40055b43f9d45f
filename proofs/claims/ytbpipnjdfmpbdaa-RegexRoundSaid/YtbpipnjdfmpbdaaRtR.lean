import Derived.Test.YtbpipnjdfmpbdaaRtM
import Derived.Test.YtbpipnjdfmpbdaaRtJ
import Derived.Test.YtbpipnjdfmpbdaaRxR
namespace Go.Proofs.Ytbpipnjdfmpbdaa
open Go.RowKit Go.Shelf

set_option maxRecDepth 100000 in
set_option maxHeartbeats 1600000 in
theorem regexPrints_any (v : Value) (N : List Nd) (w : World) (h : RdNd w v N) (hl : N.length ≤ 4398046511104) :
    Calls Try.prog 7 #[v] w fun e w' => e = .returned (.bool true) ∧ Below w.heap.size w w' := by
  obtain ⟨t, e, hP⟩ := prS_ex N
  have HC := Lib.hid (rCopy_any v N w h hl)
  have HX := Lib.hid (fun v w h => xPrint_any v N t e w h hP hl)
  have HR := Lib.hid (fun v w h => rPrint_any v N t e w h hP hl)
  have HV := Lib.hid h
  obtain ⟨_, ao, cap, rfl, -⟩ := id h
  clear h hP
  go_enter Try.func7, Try.ntmps7
  go_wp2_with fail
  refine (HC.out).mono ?_
  rintro en w1 ⟨v1, rfl, ho1, hb1⟩
  have HO1 := Lib.hid ho1
  have HB1 := Lib.hid hb1
  clear ho1 hb1
  go_wp2_with fail
  refine (HX.out _ _ (RdNd.of_own HO1.out)).mono ?_
  rintro en w2 ⟨rfl, hb2⟩
  have HB2 := Lib.hid (HB1.out.trans (hb2.mono HB1.out.size))
  clear hb2
  go_wp2_with fail
  refine (HR.out _ _ (RdNd.below HV.out HB2.out)).mono ?_
  rintro en w3 ⟨rfl, hb3⟩
  have HB3 := Lib.hid (HB2.out.trans (hb3.mono HB2.out.size))
  clear hb3
  go_wp2_with fail
  refine (head_any _).mono ?_
  rintro en w4 ⟨rfl, hb4⟩
  have HB4 := Lib.hid (HB3.out.trans (hb4.mono HB3.out.size))
  clear hb4
  go_wp2_with fail
  go_ret
  exact ⟨rfl, HB4.out⟩
end Go.Proofs.Ytbpipnjdfmpbdaa
namespace Go.Proofs.Ytbpipnjdfmpbdaa
open Go.RowKit Go.Shelf

set_option maxRecDepth 100000 in
set_option maxHeartbeats 1600000 in
theorem regexRound_any (v : Value) (N : List Nd) (w : World) (h : RdNd w v N) (hl : N.length ≤ 4398046511104) :
    Calls Try.prog 8 #[v] w fun e w' => e = .returned (.bool true) ∧ Below w.heap.size w w' := by
  obtain ⟨t, e, hP⟩ := prS_ex N
  have HC := Lib.hid (fun w h => rCopy_any v N w h hl)
  have HX := Lib.hid (fun v w h => xPrint_any v N t e w h hP hl)
  have HK := Lib.hid (fun v w h => xCheck_any v N e w h hP.chk hl)
  have HV := Lib.hid h
  obtain ⟨_, ao, cap, rfl, -⟩ := id h
  clear h
  rcases hP with ⟨he, _, _⟩ | ⟨rfl, h20, x, k, hG, hb, rfl⟩
  · have hen : (e != 0) = true := by simpa using he
    clear he
    go_enter Try.func8, Try.ntmps8
    go_wp2_with fail
    refine (HC.out _ HV.out).mono ?_
    rintro en w1 ⟨v1, rfl, ho1, hb1⟩
    have HO1 := Lib.hid ho1
    have HB1 := Lib.hid hb1
    clear ho1 hb1
    go_wp2_with fail
    refine (HX.out _ _ (RdNd.of_own HO1.out)).mono ?_
    rintro en w2 ⟨rfl, hb2⟩
    have HB2 := Lib.hid (HB1.out.trans (hb2.mono HB1.out.size))
    clear hb2
    go_wp2_with fail
    refine (head_any _).mono ?_
    rintro en w3 ⟨rfl, hb3⟩
    have HB3 := Lib.hid (HB2.out.trans (hb3.mono HB2.out.size))
    clear hb3
    go_wp2_with fail
    refine (HC.out _ (RdNd.below HV.out HB3.out)).mono ?_
    rintro en w4 ⟨v4, rfl, ho4, hb4⟩
    have HO4 := Lib.hid ho4
    have HB4 := Lib.hid (HB3.out.trans (hb4.mono HB3.out.size))
    clear ho4 hb4
    go_wp2_with fail
    refine (HK.out _ _ (RdNd.of_own HO4.out)).mono ?_
    rintro en w5 ⟨rfl, hb5⟩
    have HB5 := Lib.hid (HB4.out.trans (hb5.mono HB4.out.size))
    clear hb5
    go_wp2_with fail
    go_ret
    exact ⟨by simp, HB5.out⟩
  · have HPa := Lib.hid (fun w => xParse_any (txN x k.tx) w)
    rw [parse_print hG hb] at HPa
    have HSame : Hid (∀ va vb w, RdNd w va N → RdNd w vb N → Calls Try.prog 16 #[va, vb] w fun e w' => e = .returned (.bool true) ∧ Below w.heap.size w w') := by
      intro va vb w ha hb
      have := rSame_any va vb N N w ha hb (by omega) (by omega)
      rwa [decide_eq_true (rfl : N = N)] at this
    clear hG hb
    generalize txN x k.tx = t at *
    go_enter Try.func8, Try.ntmps8
    go_wp2_with fail
    refine (HC.out _ HV.out).mono ?_
    rintro en w1 ⟨v1, rfl, ho1, hb1⟩
    have HO1 := Lib.hid ho1
    have HB1 := Lib.hid hb1
    clear ho1 hb1
    go_wp2_with fail
    refine (HX.out _ _ (RdNd.of_own HO1.out)).mono ?_
    rintro en w2 ⟨rfl, hb2⟩
    have HB2 := Lib.hid (HB1.out.trans (hb2.mono HB1.out.size))
    clear hb2
    go_wp2_with fail
    refine (head_any _).mono ?_
    rintro en w3 ⟨rfl, hb3⟩
    have HB3 := Lib.hid (HB2.out.trans (hb3.mono HB2.out.size))
    clear hb3
    go_wp2_with fail
    refine (HPa.out _).mono ?_
    rintro en w4 ⟨v4, rfl, ho4, hb4⟩
    have HO4 := Lib.hid ho4
    have HB4 := Lib.hid (HB3.out.trans (hb4.mono HB3.out.size))
    clear ho4 hb4
    go_wp2_with fail
    refine (HSame.out _ _ _ (RdNd.of_own HO4.out) (RdNd.below HV.out HB4.out)).mono ?_
    rintro en w5 ⟨rfl, hb5⟩
    have HB5 := Lib.hid (HB4.out.trans (hb5.mono HB4.out.size))
    clear hb5
    go_wp2_with fail
    go_ret
    exact ⟨rfl, HB5.out⟩

set_option maxRecDepth 100000 in
set_option maxHeartbeats 1600000 in
theorem regexAgain_any (s : ByteArray) (w : World) :
    Calls Try.prog 9 #[.string s] w fun e w' => e = .returned (.bool true) ∧ Below w.heap.size w w' := by
  have HP1 := Lib.hid (xParse_any s w)
  by_cases he : (parseS s).2.2 = 0
  · obtain ⟨x, k, hG, hb, h0, h20⟩ := parse_ok s he
    have hR : parseS s = ((parseS s).1, 0, 0) := Prod.ext rfl (Prod.ext h0 he)
    rw [hR] at HP1
    generalize (parseS s).1 = N at *
    have hP : PrS N (txN x k.tx) 0 := .inr ⟨rfl, h20, x, k, hG, hb, rfl⟩
    have HX := Lib.hid (fun v w h => xPrint_any v N _ 0 w h hP (by omega))
    have HPa := Lib.hid (fun w => xParse_any (txN x k.tx) w)
    rw [parse_print hG hb] at HPa
    have HSame : Hid (∀ va vb w, RdNd w va N → RdNd w vb N → Calls Try.prog 16 #[va, vb] w fun e w' => e = .returned (.bool true) ∧ Below w.heap.size w w') := by
      intro va vb w ha hb
      have := rSame_any va vb N N w ha hb (by omega) (by omega)
      rwa [decide_eq_true (rfl : N = N)] at this
    clear hG hb hP hR he h0
    generalize txN x k.tx = t at *
    go_enter Try.func9, Try.ntmps9
    go_wp2_with fail
    refine (HP1.out).mono ?_
    rintro en w1 ⟨v1, rfl, ho1, hb1⟩
    have HO1 := Lib.hid ho1
    have HB1 := Lib.hid hb1
    clear ho1 hb1
    go_wp2_with fail
    refine (head_any _).mono ?_
    rintro en w2 ⟨rfl, hb2⟩
    have HV2 := Lib.hid (RdNd.below (RdNd.of_own HO1.out) hb2)
    have HB2 := Lib.hid (HB1.out.trans (hb2.mono HB1.out.size))
    clear hb2
    go_wp2_with fail
    refine (HX.out _ _ HV2.out).mono ?_
    rintro en w3 ⟨rfl, hb3⟩
    have HV3 := Lib.hid (RdNd.below HV2.out hb3)
    have HB3 := Lib.hid (HB2.out.trans (hb3.mono HB2.out.size))
    clear hb3
    go_wp2_with fail
    refine (HPa.out _).mono ?_
    rintro en w4 ⟨v4, rfl, ho4, hb4⟩
    have HV4 := Lib.hid (RdNd.below HV3.out hb4)
    have HU4 := Lib.hid (RdNd.of_own ho4)
    have HB4 := Lib.hid (HB3.out.trans (hb4.mono HB3.out.size))
    clear ho4 hb4
    go_wp2_with fail
    refine (HX.out _ _ HU4.out).mono ?_
    rintro en w5 ⟨rfl, hb5⟩
    have HV5 := Lib.hid (RdNd.below HV4.out hb5)
    have HU5 := Lib.hid (RdNd.below HU4.out hb5)
    have HB5 := Lib.hid (HB4.out.trans (hb5.mono HB4.out.size))
    clear hb5
    go_wp2_with fail
    refine (HSame.out _ _ _ HV5.out HU5.out).mono ?_
    rintro en w6 ⟨rfl, hb6⟩
    have HB6 := Lib.hid (HB5.out.trans (hb6.mono HB5.out.size))
    clear hb6
    go_wp2_with fail
    go_ret
    exact ⟨rfl, HB6.out⟩
  · have hen : ((parseS s).2.2 != 0) = true := by simpa using he
    generalize parseS s = r at *
    obtain ⟨l, a, e⟩ := r
    simp only at hen
    clear he
    go_enter Try.func9, Try.ntmps9
    go_wp2_with fail
    refine (HP1.out).mono ?_
    rintro en w1 ⟨v1, rfl, ho1, hb1⟩
    have HB1 := Lib.hid hb1
    clear ho1 hb1
    go_wp2_with fail
    refine (head_any _).mono ?_
    rintro en w2 ⟨rfl, hb2⟩
    have HB2 := Lib.hid (HB1.out.trans (hb2.mono HB1.out.size))
    clear hb2
    go_wp2_with fail
    go_ret
    exact ⟨rfl, HB2.out⟩
end Go.Proofs.Ytbpipnjdfmpbdaa
