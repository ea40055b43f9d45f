import Derived.Test.YtbpipnjdfmpbdaaRtN
import Derived.Test.YtbpipnjdfmpbdaaRtJ
namespace Go.Proofs.Ytbpipnjdfmpbdaa
open Go.RowKit Go.Shelf

set_option maxRecDepth 100000 in
set_option maxHeartbeats 1600000 in
theorem regexPrints_any (v : Value) (N : List Nd) (w : World) (h : RdNd w v N) (hl : N.length ≤ 4398046511104) :
    Calls Try.prog 7 #[v] w fun e w' => e = .returned (.bool true) ∧ Below w.heap.size w w' := by
  obtain ⟨t, e, hP⟩ := prS_ex N
  have HC := Lib.hid (rCopy_any v N w h hl)
  have HX := Lib.hid (fun v w h => xPrint_any v N t e w h hP hl)
  have HR := Lib.hid (fun v w h => rPrint_any v N t e w h hP hl)
  have HV := Lib.hid h
  obtain ⟨_, ao, cap, rfl, -⟩ := id h
  clear h hP
  go_enter Try.func7, Try.ntmps7
  go_wp2_with fail
  refine (HC.out).mono ?_
  rintro en w1 ⟨v1, rfl, ho1, hb1⟩
  have HO1 := Lib.hid ho1
  have HB1 := Lib.hid hb1
  clear ho1 hb1
  go_wp2_with fail
  refine (HX.out _ _ (RdNd.of_own HO1.out)).mono ?_
  rintro en w2 ⟨rfl, hb2⟩
  have HB2 := Lib.hid (HB1.out.trans (hb2.mono HB1.out.size))
  clear hb2
  go_wp2_with fail
  refine (HR.out _ _ (RdNd.below HV.out HB2.out)).mono ?_
  rintro en w3 ⟨rfl, hb3⟩
  have HB3 := Lib.hid (HB2.out.trans (hb3.mono HB2.out.size))
  clear hb3
  go_wp2_with fail
  refine (head_any _).mono ?_
  rintro en w4 ⟨rfl, hb4⟩
  have HB4 := Lib.hid (HB3.out.trans (hb4.mono HB3.out.size))
  clear hb4
  go_wp2_with fail
  go_ret
  exact ⟨rfl, HB4.out⟩
end Go.Proofs.Ytbpipnjdfmpbdaa
