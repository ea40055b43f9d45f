/- PROVED: CommandPrints returns true whatever its arguments; each argument reads behind the call as it read before. CONDITION: the arguments' bulk is at most 1048576 (the second form). -/
import Derived.Test.YtikkfbkpgejneaaDoorPk3
import Derived.Test.YtikkfbkpgejneaaDoorCards
import Derived.Test.YtikkfbkpgejneaaDoorTie
import Derived.Carry
import Derived.ProofKit
import Derived.OpenShut
import Derived.ShutString
import Derived.JoinedCond
import Derived.SizedLaws
import Derived.Deep.DeepHandedRow
import Derived.Deep.DeepWitnessRowRef
/- The reference's Line: a loop over the form. -/
namespace Go.Proofs.YtikkfbkpgejneaaDoor
open Go.RowKit Go.Shelf

structure SL where
  s : ByteArray
  i : Nat
  j : Nat
  h : Int
/-- the word that the reference takes for a form's code -/
def wordL (c : Cmd) (k i j : Nat) : ByteArray :=
  if k = 0 then howW c.h else if k = 1 then c.ns.getD i emptyB else match c.ks[j]? with | some n => if 0 ≤ n ∧ n ≤ 999999999 then mkB (Lib.itoa n) else emptyB | none => emptyB
def stepL (c : Cmd) (st : SL) (k : Nat) : Option SL :=
  if (words (wordL c k st.i st.j)).length = 1 ∧ wordL c k st.i st.j ≠ emptyB then some ⟨st.s ++ sp ++ wordL c k st.i st.j, if k = 1 then st.i + 1 else st.i, if k = 2 then st.j + 1 else st.j, if k = 0 then c.h else st.h⟩ else none
def endL (c : Cmd) : Option SL → ByteArray × Bool
  | none => (emptyB, false)
  | some st => (st.s, decide (c.t = emptyB) && decide (st.i = c.ns.length) && decide (st.j = c.ks.length) && decide (st.h = c.h))
def lineRX (c : Cmd) (x : Vb) : ByteArray × Bool :=
  if x.t then (x.s ++ sp ++ c.t, decide (c.h = 0) && decide (c.ns.length = 0) && ((c.ks.length : Int) == 0))
  else endL c (x.k.foldlM (stepL c) ⟨x.s, 0, 0, 0⟩)
def lineR (c : Cmd) : ByteArray × Bool :=
  if c.v < 1 ∨ 10 < c.v then (emptyB, false) else match VT[(c.v - 1).toNat]? with | none => (emptyB, false) | some x => lineRX c x
theorem wordI_out {v : Int} (h : v < 1 ∨ 10 < v) : wordI v = emptyB := by
  unfold wordI emptyB
  rw [if_neg (by omega), if_neg (by omega), if_neg (by omega), if_neg (by omega), if_neg (by omega), if_neg (by omega), if_neg (by omega), if_neg (by omega), if_neg (by omega), if_neg (by omega)]
theorem isEmpty_B (s : ByteArray) : s.toList.isEmpty = decide (s = emptyB) := by
  rw [Bool.eq_iff_iff, decide_eq_true_iff, List.isEmpty_iff]
  constructor
  · intro h; exact (toList_inj s emptyB).1 (by rw [h, ByteArray.toList_eq]; rfl)
  · intro h; rw [h, ByteArray.toList_eq]; rfl
theorem wordL_size {c : Cmd} (sm : SmC c) (k i j : Nat) : (wordL c k i j).size ≤ 1048576 := by
  unfold wordL
  split
  · unfold howW
    split
    · decide
    · split
      · decide
      · split <;> decide
  · split
    · rw [List.getD_eq_getElem?_getD]
      rcases h : c.ns[i]? with _ | m
      · exact Nat.zero_le _
      · exact sm.nm m (List.mem_of_getElem? h)
    · split
      · split
        · rw [mkB_size]
          exact Nat.le_trans (Lib.itoa_length_le _ (by omega) (by omega)) (by decide)
        · exact Nat.zero_le _
      · exact Nat.zero_le _
theorem foldl_snoc {c : Cmd} {ks : List Nat} {st0 st : SL} {q k : Nat} (h : (ks.take q).foldlM (stepL c) st0 = some st) (hk : ks[q]? = some k) : (ks.take (q + 1)).foldlM (stepL c) st0 = stepL c st k := by
  rw [List.take_add_one, hk, List.foldlM_append, h]
  show (stepL c st k).bind (fun s => some s) = _
  cases stepL c st k <;> rfl
theorem foldl_fail {c : Cmd} {ks : List Nat} {st0 : SL} {q : Nat} (h : (ks.take q).foldlM (stepL c) st0 = none) : ks.foldlM (stepL c) st0 = none := by
  have := List.take_append_drop q ks
  rw [← this, List.foldlM_append, h]; rfl
set_option maxRecDepth 100000 in
set_option maxHeartbeats 3000000 in
theorem rLine_any (va : Value) (c : Cmd) (w : World) (hg : Gb w) (hr : RdCm w va c) (sm : SmC c) :
    Calls Tryd.prog 36 #[va] w fun e w' => e = .returned (.tuple #[.string (lineR c).1, .bool (lineR c).2]) ∧ Below w.heap.size w w' := by
  obtain ⟨an, am, ak, al, rfl, a1, a2⟩ := hr
  have HA1 := Lib.hid a1
  have HA2 := Lib.hid a2
  have HSm := Lib.hid sm
  have HG := Lib.hid hg
  have h8 := hg.sz
  have HWd := Lib.hid (fun w => rWord_any c.v w)
  clear a1 a2 sm hg
  have hbx := heap_alloc_new w (.cells #[.int .i64 c.v, .int .i64 c.h, .slice an c.ns.length am, .slice ak c.ks.length al, .string c.t] 27)
  have HB1 := Lib.hid (below1 w (.cells #[.int .i64 c.v, .int .i64 c.h, .slice an c.ns.length am, .slice ak c.ks.length al, .string c.t] 27))
  have HBx := Lib.hid hbx
  clear hbx
  by_cases hv0 : c.v < 1 ∨ 10 < c.v
  · have HE : Hid (lineR c = (emptyB, false)) := by unfold Hid lineR; rw [if_pos hv0]
    rw [wordI_out hv0] at HWd
    have hee : emptyB.toList.isEmpty = true := by rw [isEmpty_B]; rfl
    clear hv0
    go_enter Tryd.func36, Tryd.ntmps36
    go_wp2_with fail
    refine (HWd.out _).mono ?_
    rintro e w3 ⟨rfl, rfl⟩
    go_wp2_with fail
    refine bodyPost_ret (results_tmp2 rfl _ _ _) rfl ?_
    exact ⟨by rw [HE.out]; rfl, HB1.out⟩
  obtain ⟨i0, hv⟩ : ∃ i : Nat, c.v = (i : Int) + 1 := ⟨(c.v - 1).toNat, by omega⟩
  have hi : i0 < 10 := by omega
  obtain ⟨x, hx⟩ : ∃ x, VT[i0]? = some x := ⟨_, List.getElem?_eq_getElem (by simpa [VT] using hi)⟩
  have hxm : x ∈ VT := List.mem_of_getElem? hx
  have hvn : c.v = x.n := by have := VT_num hx; omega
  have HE : Hid (lineR c = lineRX c x) := by
    unfold Hid lineR; rw [if_neg (by omega), show (c.v - 1).toNat = i0 from by omega, hx]
  have hws : wordI c.v = x.s := by rw [hvn]; exact (word_VT x hxm).1
  rw [hws] at HWd
  have hxe : x.s.toList.isEmpty = false := by
    rw [isEmpty_B, decide_eq_false_iff_not]
    have : ∀ x ∈ VT, x.s ≠ emptyB := by decide
    exact this x hxm
  have s1 : x.s.size ≤ 16 := VT_s x hxm
  have s2 : c.t.size ≤ 140737488355328 := HSm.out.tx
  have HTn := Lib.hid (form_VT x hxm).2
  have HFi := Lib.hid (form_VT x hxm).1
  obtain ⟨R, hR⟩ : ∃ R, R = lineR c := ⟨_, rfl⟩
  rw [← hR]
  rw [← hR] at HE
  have HCv : Hid (c.v = (x.n : Int)) := hvn
  clear hv0 hv hvn hws hx hR hi
  go_enter Tryd.func36, Tryd.ntmps36
  go_wp2_with fail
  generalize w.alloc (.cells #[.int .i64 c.v, .int .i64 c.h, .slice an c.ns.length am, .slice ak c.ks.length al, .string c.t] 27) = w1 at *
  have q1 : w1.cell? ⟨w.heap.size, 1, none⟩ = some (.int .i64 c.h) := by simp [World.cell?, HBx.out]
  have q2 : w1.cell? ⟨w.heap.size, 2, none⟩ = some (.slice an c.ns.length am) := by simp [World.cell?, HBx.out]
  have q3 : w1.cell? ⟨w.heap.size, 3, none⟩ = some (.slice ak c.ks.length al) := by simp [World.cell?, HBx.out]
  have q4 : w1.cell? ⟨w.heap.size, 4, none⟩ = some (.string c.t) := by simp [World.cell?, HBx.out]
  refine (HWd.out _).mono ?_
  rintro e w3 ⟨rfl, rfl⟩
  cases hxt : x.t with
  | true =>
    have hle : c.v ≤ 2 := by have := HTn.out.1 hxt; have := HCv.out; omega
    have HX2 : Hid (R = (x.s ++ sp ++ c.t, decide (c.h = 0) && decide (c.ns.length = 0) && ((c.ks.length : Int) == 0))) := by unfold Hid; rw [HE.out]; unfold lineRX; rw [hxt]; rfl
    by_cases h1 : c.h = 0
    · have e1 : (c.h == 0) = true := by simpa using h1
      by_cases h2 : c.ns.length = 0
      · have e2 : ((c.ns.length : Int) == 0) = true := beq_iff_eq.2 (by omega)
        have HX3 : Hid (R = (x.s ++ sp ++ c.t, ((c.ks.length : Int) == 0))) := by unfold Hid; rw [HX2.out, decide_eq_true h1, decide_eq_true h2]; rfl
        go_wp2_with fail
        go_quiet (fail)
        go_wp2
        refine bodyPost_ret (results_tmp2 rfl _ _ _) rfl ?_
        exact ⟨by rw [HX3.out]; rfl, below_drewN HB1.out _⟩
      · have e2 : ((c.ns.length : Int) == 0) = false := beq_eq_false_iff_ne.2 (by omega)
        have HX3 : Hid (R = (x.s ++ sp ++ c.t, false)) := by unfold Hid; rw [HX2.out, decide_eq_false h2]; simp
        go_wp2_with fail
        go_quiet (fail)
        go_wp2
        refine bodyPost_ret (results_tmp2 rfl _ _ _) rfl ?_
        exact ⟨by rw [HX3.out]; rfl, below_drewN HB1.out _⟩
    · have e1 : (c.h == 0) = false := by simpa using h1
      have HX3 : Hid (R = (x.s ++ sp ++ c.t, false)) := by unfold Hid; rw [HX2.out, decide_eq_false h1]; simp
      go_wp2_with fail
      go_quiet (fail)
      go_wp2
      refine bodyPost_ret (results_tmp2 rfl _ _ _) rfl ?_
      exact ⟨by rw [HX3.out]; rfl, below_drewN HB1.out _⟩
  | false =>
    have hle : ¬ c.v ≤ 2 := fun h => by have := HTn.out.2 (by have := HCv.out; omega); rw [hxt] at this; cases this
    have HX2 : Hid (R = endL c (x.k.foldlM (stepL c) ⟨x.s, 0, 0, 0⟩)) := by unfold Hid; rw [HE.out]; unfold lineRX; rw [hxt]; rfl
    have HFm := Lib.hid (fun w => rForm_any c.v w)
    rw [show formI c.v = mkB (x.k.map kB) from by rw [HCv.out, HFi.out]] at HFm
    have hFs : (mkB (x.k.map kB)).size = x.k.length := by rw [mkB_size, List.length_map]
    have hFb : ∀ j k, x.k[j]? = some k → ∃ h : j < (mkB (x.k.map kB)).size, (mkB (x.k.map kB))[j] = kB k := fun j k hk => by
      have hj := (List.getElem?_eq_some_iff.1 hk).1
      have h : j < (mkB (x.k.map kB)).size := by rw [hFs]; exact hj
      refine ⟨h, ?_⟩
      have := b_get _ j h
      rw [data_mkB, List.getElem?_map, hk] at this
      exact (Option.some.inj this).symm
    have HFb := Lib.hid hFb
    obtain ⟨hk10, hk2⟩ := VT_k hxm
    have HK2 := Lib.hid hk2
    generalize hF : mkB (x.k.map kB) = F at *
    have hF10 : F.size ≤ 10 := by omega
    clear HTn HFi HCv HE
    obtain ⟨xn, xs, xt, xk⟩ := x
    simp only at HX2 HFb HK2 hk10 hFs s1 hxe
    have HFs := Lib.hid hFs
    have HWs := Lib.hid (fun m w (h : m.size ≤ 1048576) => rWords_any m w (by omega))
    have HSz := Lib.hid (fun k i j => wordL_size HSm.out k i j)
    clear hFb hk2 hxm hxt hF hFs q1 q2 q3 q4
    go_wp2_with fail
    refine (HFm.out _).mono ?_
    rintro e w3 ⟨rfl, rfl⟩
    go_wp2_with fail
    go_loopw [5, 6, 7, 8, 10, 11] (fun s n6 n7 n8 i _ wr => ∃ (q : Nat) (st : SL), s = .string st.s ∧ n6 = .int .i64 st.i ∧ n7 = .int .i64 st.j ∧ n8 = .int .i64 st.h ∧ i = .int .i64 q ∧ q ≤ xk.length ∧ st.i ≤ q ∧ st.j ≤ q ∧ st.s.size ≤ 16 + q * 1048577 ∧ Hid ((xk.take q).foldlM (stepL c) ⟨xs, 0, 0, 0⟩ = some st) ∧ Hid (Below w.heap.size w wr) ∧ Hid (wr.heap[w.heap.size]? = some (.cells #[.int .i64 c.v, .int .i64 c.h, .slice an c.ns.length am, .slice ak c.ks.length al, .string c.t] 27 (0, 0)))) (fun _ _ _ _ i _ _ => xk.length - (intOf i).toNat)
    case atStart => exact ⟨0, ⟨xs, 0, 0, 0⟩, rfl, rfl, rfl, rfl, rfl, by omega, by simp, by simp, by simpa using s1, rfl, HB1.out, HBx.out⟩
    case round =>
      obtain ⟨q, ⟨s, ni, nj, nh⟩, rfl, rfl, rfl, rfl, rfl, hq, hi1, hj1, hss, HSt, HBw, HBk⟩ := hrel
      simp only at hi1 hj1 hss HSt
      have q1 : wr.cell? ⟨w.heap.size, 1, none⟩ = some (.int .i64 c.h) := by simp [World.cell?, HBk.out]
      have q2 : wr.cell? ⟨w.heap.size, 2, none⟩ = some (.slice an c.ns.length am) := by simp [World.cell?, HBk.out]
      have q3 : wr.cell? ⟨w.heap.size, 3, none⟩ = some (.slice ak c.ks.length al) := by simp [World.cell?, HBk.out]
      have q4 : wr.cell? ⟨w.heap.size, 4, none⟩ = some (.string c.t) := by simp [World.cell?, HBk.out]
      by_cases hlt : q < xk.length
      · obtain ⟨k, hk⟩ : ∃ k, xk[q]? = some k := ⟨_, List.getElem?_eq_getElem hlt⟩
        obtain ⟨hqF, hgF⟩ := HFb.out q k hk
        have HSn := Lib.hid (foldl_snoc HSt.out hk)
        have hk3 := HK2.out k (List.mem_of_getElem? hk)
        have HM : Hid ((xk.take (q + 1)).foldlM (stepL c) ⟨xs, 0, 0, 0⟩ = none → R = (emptyB, false)) := fun h => by rw [HX2.out, foldl_fail h]; rfl
        clear hk
        match k, hk3 with
        | 0, _ =>
          have hb : F[q] = 104 := hgF
          obtain ⟨m, hmm⟩ : ∃ m, m = howW c.h := ⟨_, rfl⟩
          have hwl : wordL c 0 ni nj = m := by rw [hmm]; rfl
          have hm : m.size ≤ 1048576 := by rw [← hwl]; exact HSz.out 0 ni nj
          have HStp : Hid (((words m).length = 1 ∧ m ≠ emptyB → stepL c ⟨s, ni, nj, nh⟩ 0 = some ⟨s ++ sp ++ m, ni, nj, c.h⟩) ∧ (¬ ((words m).length = 1 ∧ m ≠ emptyB) → stepL c ⟨s, ni, nj, nh⟩ 0 = none)) := by
            unfold Hid stepL
            simp only [hwl]
            exact ⟨fun h => by rw [if_pos h]; rfl, fun h => by rw [if_neg h]⟩
          have HHw := Lib.hid (fun w => rHow_any c.h w)
          rw [← hmm] at HHw
          clear hmm hwl hgF
          go_wp2_with fail
          refine (HHw.out _).mono ?_
          rintro e w4 ⟨rfl, rfl⟩
          go_wp2_with fail
          refine (HWs.out m _ hm).mono ?_
          rintro e w5 ⟨v, rfl, ho, hb⟩
          obtain ⟨_, ao, cp, rfl, -⟩ := id (Rd.of_owns ho)
          have HB5 := Lib.hid (HBw.out.trans (hb.mono HBw.out.size))
          have HBk5 := Lib.hid ((hb.block _ (Array.getElem?_eq_some_iff.1 HBk.out).1).trans HBk.out)
          clear ho hb q1 q2 q3 q4
          have hke := isEmpty_B m
          by_cases h1 : (words m).length = 1
          · have e1 : (((words m).length : Int) != 1) = false := by rw [h1]; rfl
            by_cases h2 : m = emptyB
            · rw [decide_eq_true h2] at hke
              have HF := HM.out (HSn.out.trans (HStp.out.2 (fun h => h.2 h2)))
              have HF := Lib.hid HF
              clear h1 h2
              generalize words m = W at *
              go_wp2_with fail
              refine bodyPost_ret (results_tmp2 rfl _ _ _) rfl ?_
              exact ⟨by rw [HF.out]; rfl, HB5.out⟩
            · rw [decide_eq_false h2] at hke
              have HF := Lib.hid (HSn.out.trans (HStp.out.1 ⟨h1, h2⟩))
              clear h1 h2
              generalize words m = W at *
              go_wp2_with fail
              go_roundw
              case rel => exact ⟨q + 1, ⟨s ++ sp ++ m, ni, nj, c.h⟩, rfl, by go_num, by go_num, rfl, by go_num, by omega, by simp only; omega, by simp only; omega, by simp only [ByteArray.size_append]; have : sp.size = 1 := rfl; omega, HF.out, HB5.out, HBk5.out⟩
              case measure => simp [intOf]; omega
          · have e1 : (((words m).length : Int) != 1) = true := by simp; omega
            have HF := Lib.hid (HM.out (HSn.out.trans (HStp.out.2 (fun h => h1 h.1))))
            clear h1
            generalize words m = W at *
            go_wp2_with fail
            refine bodyPost_ret (results_tmp2 rfl _ _ _) rfl ?_
            exact ⟨by rw [HF.out]; rfl, HB5.out⟩
        | 1, _ =>
          have hb : F[q] = 110 := hgF
          by_cases hn : ni < c.ns.length
          · obtain ⟨m, hmm⟩ : ∃ m, c.ns[ni]? = some m := ⟨_, List.getElem?_eq_getElem hn⟩
            have hwl : wordL c 1 ni nj = m := by unfold wordL; rw [if_neg (by decide), if_pos rfl, List.getD_eq_getElem?_getD, hmm]; rfl
            have hm : m.size ≤ 1048576 := by rw [← hwl]; exact HSz.out 1 ni nj
            have HStp : Hid (((words m).length = 1 ∧ m ≠ emptyB → stepL c ⟨s, ni, nj, nh⟩ 1 = some ⟨s ++ sp ++ m, ni + 1, nj, nh⟩) ∧ (¬ ((words m).length = 1 ∧ m ≠ emptyB) → stepL c ⟨s, ni, nj, nh⟩ 1 = none)) := by
              unfold Hid stepL
              simp only [hwl]
              exact ⟨fun h => by rw [if_pos h]; rfl, fun h => by rw [if_neg h]⟩
            obtain ⟨b', o', c', e1, l', k', x0⟩ := RdS.at (HA1.out.below HBw.out) hmm
            simp only [Value.slice.injEq] at e1
            obtain ⟨rfl, -, rfl⟩ := e1
            clear hmm hwl hgF
            go_wp2_with fail
            refine (HWs.out m _ hm).mono ?_
            rintro e w5 ⟨v, rfl, ho, hb⟩
            obtain ⟨_, ao, cp, rfl, -⟩ := id (Rd.of_owns ho)
            have HB5 := Lib.hid (HBw.out.trans (hb.mono HBw.out.size))
            have HBk5 := Lib.hid ((hb.block _ (Array.getElem?_eq_some_iff.1 HBk.out).1).trans HBk.out)
            clear ho hb q1 q2 q3 q4
            have hke := isEmpty_B m
            by_cases h1 : (words m).length = 1
            · have e1 : (((words m).length : Int) != 1) = false := by rw [h1]; rfl
              by_cases h2 : m = emptyB
              · rw [decide_eq_true h2] at hke
                have HF := HM.out (HSn.out.trans (HStp.out.2 (fun h => h.2 h2)))
                have HF := Lib.hid HF
                clear h1 h2
                generalize words m = W at *
                go_wp2_with fail
                refine bodyPost_ret (results_tmp2 rfl _ _ _) rfl ?_
                exact ⟨by rw [HF.out]; rfl, HB5.out⟩
              · rw [decide_eq_false h2] at hke
                have HF := Lib.hid (HSn.out.trans (HStp.out.1 ⟨h1, h2⟩))
                clear h1 h2
                generalize words m = W at *
                go_wp2_with fail
                go_roundw
                case rel => exact ⟨q + 1, ⟨s ++ sp ++ m, ni + 1, nj, nh⟩, rfl, by go_num, by go_num, rfl, by go_num, by omega, by simp only; omega, by simp only; omega, by simp only [ByteArray.size_append]; have : sp.size = 1 := rfl; omega, HF.out, HB5.out, HBk5.out⟩
                case measure => simp [intOf]; omega
            · have e1 : (((words m).length : Int) != 1) = true := by simp; omega
              have HF := Lib.hid (HM.out (HSn.out.trans (HStp.out.2 (fun h => h1 h.1))))
              clear h1
              generalize words m = W at *
              go_wp2_with fail
              refine bodyPost_ret (results_tmp2 rfl _ _ _) rfl ?_
              exact ⟨by rw [HF.out]; rfl, HB5.out⟩
          · have hwl : wordL c 1 ni nj = emptyB := by unfold wordL; rw [if_neg (by decide), if_pos rfl, List.getD_eq_getElem?_getD, List.getElem?_eq_none (by omega)]; rfl
            have HStp : Hid (stepL c ⟨s, ni, nj, nh⟩ 1 = none) := by unfold Hid stepL; simp only [hwl]; rw [if_neg (fun h => h.2 rfl)]
            clear hwl hgF
            have hwe : (words emptyB).length = 1 := by decide
            have HF := Lib.hid (HM.out (HSn.out.trans HStp.out))
            have hm : (emptyB).size ≤ 1048576 := by decide
            go_wp2_with fail
            refine (HWs.out emptyB _ hm).mono ?_
            rintro e w5 ⟨v, rfl, ho, hb⟩
            rw [hwe] at ho
            obtain ⟨_, ao, cp, rfl, -⟩ := id (Rd.of_owns ho)
            have HB5 := Lib.hid (HBw.out.trans (hb.mono HBw.out.size))
            clear ho hb
            go_wp2_with fail
            refine bodyPost_ret (results_tmp2 rfl _ _ _) rfl ?_
            exact ⟨by rw [HF.out]; rfl, HB5.out⟩
        | 2, _ =>
          have hb : F[q] = 107 := hgF
          by_cases hn : nj < c.ks.length
          · obtain ⟨z, hz⟩ : ∃ z, c.ks[nj]? = some z := ⟨_, List.getElem?_eq_getElem hn⟩
            obtain ⟨b', o', c', e1, l', k', x0⟩ := RdZ.at (HA2.out.below HBw.out) hz
            simp only [Value.slice.injEq] at e1
            obtain ⟨rfl, -, rfl⟩ := e1
            by_cases hz0 : 0 ≤ z
            · by_cases hz1 : z ≤ 999999999
              · obtain ⟨m, hmm⟩ : ∃ m, m = mkB (Lib.itoa z) := ⟨_, rfl⟩
                have hwl : wordL c 2 ni nj = m := by unfold wordL; rw [if_neg (by decide), if_neg (by decide), hz]; simp only; rw [if_pos ⟨hz0, hz1⟩, hmm]
                have hm : m.size ≤ 1048576 := by rw [← hwl]; exact HSz.out 2 ni nj
                have HStp : Hid (((words m).length = 1 ∧ m ≠ emptyB → stepL c ⟨s, ni, nj, nh⟩ 2 = some ⟨s ++ sp ++ m, ni, nj + 1, nh⟩) ∧ (¬ ((words m).length = 1 ∧ m ≠ emptyB) → stepL c ⟨s, ni, nj, nh⟩ 2 = none)) := by
                  unfold Hid stepL
                  simp only [hwl]
                  exact ⟨fun h => by rw [if_pos h]; rfl, fun h => by rw [if_neg h]⟩
                have HI := Lib.hid (fun w2 hg2 => Tryd.strconv_Itoa z (by omega) (by omega) w2 (Gb.tab hg2))
                rw [show (⟨(Lib.itoa z).toArray⟩ : ByteArray) = m from hmm.symm] at HI
                clear hmm hwl hgF hz
                go_wp2_with fail
                refine (HI.out _ (HG.out.below (B := w.heap.size) h8 HBw.out)).mono ?_
                rintro e w7 ⟨rfl, kk, os, rfl⟩
                have hb7 : Below wr.heap.size wr (Sort.grow (wr.drewN kk) os) := grow_below2 wr kk os (Nat.le_refl _)
                have zHBw := Lib.hid (HBw.out.trans (hb7.mono HBw.out.size))
                have zHBk := Lib.hid ((hb7.block _ (Array.getElem?_eq_some_iff.1 HBk.out).1).trans HBk.out)
                clear hb7
                generalize Sort.grow (wr.drewN kk) os = w7 at *
                go_wp2_with fail
                refine (HWs.out m _ hm).mono ?_
                rintro e w5 ⟨v, rfl, ho, hb⟩
                obtain ⟨_, ao, cp, rfl, -⟩ := id (Rd.of_owns ho)
                have HB5 := Lib.hid (zHBw.out.trans (hb.mono zHBw.out.size))
                have HBk5 := Lib.hid ((hb.block _ (Array.getElem?_eq_some_iff.1 zHBk.out).1).trans zHBk.out)
                clear ho hb q1 q2 q3 q4
                have hke := isEmpty_B m
                by_cases h1 : (words m).length = 1
                · have e1 : (((words m).length : Int) != 1) = false := by rw [h1]; rfl
                  by_cases h2 : m = emptyB
                  · rw [decide_eq_true h2] at hke
                    have HF := HM.out (HSn.out.trans (HStp.out.2 (fun h => h.2 h2)))
                    have HF := Lib.hid HF
                    clear h1 h2
                    generalize words m = W at *
                    go_wp2_with fail
                    refine bodyPost_ret (results_tmp2 rfl _ _ _) rfl ?_
                    exact ⟨by rw [HF.out]; rfl, HB5.out⟩
                  · rw [decide_eq_false h2] at hke
                    have HF := Lib.hid (HSn.out.trans (HStp.out.1 ⟨h1, h2⟩))
                    clear h1 h2
                    generalize words m = W at *
                    go_wp2_with fail
                    go_roundw
                    case rel => exact ⟨q + 1, ⟨s ++ sp ++ m, ni, nj + 1, nh⟩, rfl, by go_num, by go_num, rfl, by go_num, by omega, by simp only; omega, by simp only; omega, by simp only [ByteArray.size_append]; have : sp.size = 1 := rfl; omega, HF.out, HB5.out, HBk5.out⟩
                    case measure => simp [intOf]; omega
                · have e1 : (((words m).length : Int) != 1) = true := by simp; omega
                  have HF := Lib.hid (HM.out (HSn.out.trans (HStp.out.2 (fun h => h1 h.1))))
                  clear h1
                  generalize words m = W at *
                  go_wp2_with fail
                  refine bodyPost_ret (results_tmp2 rfl _ _ _) rfl ?_
                  exact ⟨by rw [HF.out]; rfl, HB5.out⟩
              · have hwl : wordL c 2 ni nj = emptyB := by unfold wordL; rw [if_neg (by decide), if_neg (by decide), hz]; simp only; rw [if_neg (fun h => hz1 h.2)]
                have HStp : Hid (stepL c ⟨s, ni, nj, nh⟩ 2 = none) := by unfold Hid stepL; simp only [hwl]; rw [if_neg (fun h => h.2 rfl)]
                clear hwl hgF hz
                have hwe : (words emptyB).length = 1 := by decide
                have HF := Lib.hid (HM.out (HSn.out.trans HStp.out))
                have hm : (emptyB).size ≤ 1048576 := by decide
                go_wp2_with fail
                refine (HWs.out emptyB _ hm).mono ?_
                rintro e w5 ⟨v, rfl, ho, hb⟩
                rw [hwe] at ho
                obtain ⟨_, ao, cp, rfl, -⟩ := id (Rd.of_owns ho)
                have HB5 := Lib.hid (HBw.out.trans (hb.mono HBw.out.size))
                clear ho hb
                go_wp2_with fail
                refine bodyPost_ret (results_tmp2 rfl _ _ _) rfl ?_
                exact ⟨by rw [HF.out]; rfl, HB5.out⟩
            · have hwl : wordL c 2 ni nj = emptyB := by unfold wordL; rw [if_neg (by decide), if_neg (by decide), hz]; simp only; rw [if_neg (fun h => hz0 h.1)]
              have HStp : Hid (stepL c ⟨s, ni, nj, nh⟩ 2 = none) := by unfold Hid stepL; simp only [hwl]; rw [if_neg (fun h => h.2 rfl)]
              clear hwl hgF hz
              have hwe : (words emptyB).length = 1 := by decide
              have HF := Lib.hid (HM.out (HSn.out.trans HStp.out))
              have hm : (emptyB).size ≤ 1048576 := by decide
              go_wp2_with fail
              refine (HWs.out emptyB _ hm).mono ?_
              rintro e w5 ⟨v, rfl, ho, hb⟩
              rw [hwe] at ho
              obtain ⟨_, ao, cp, rfl, -⟩ := id (Rd.of_owns ho)
              have HB5 := Lib.hid (HBw.out.trans (hb.mono HBw.out.size))
              clear ho hb
              go_wp2_with fail
              refine bodyPost_ret (results_tmp2 rfl _ _ _) rfl ?_
              exact ⟨by rw [HF.out]; rfl, HB5.out⟩
          · have hwl : wordL c 2 ni nj = emptyB := by unfold wordL; rw [if_neg (by decide), if_neg (by decide), List.getElem?_eq_none (by omega)]
            have HStp : Hid (stepL c ⟨s, ni, nj, nh⟩ 2 = none) := by unfold Hid stepL; simp only [hwl]; rw [if_neg (fun h => h.2 rfl)]
            clear hwl hgF
            have hwe : (words emptyB).length = 1 := by decide
            have HF := Lib.hid (HM.out (HSn.out.trans HStp.out))
            have hm : (emptyB).size ≤ 1048576 := by decide
            go_wp2_with fail
            refine (HWs.out emptyB _ hm).mono ?_
            rintro e w5 ⟨v, rfl, ho, hb⟩
            rw [hwe] at ho
            obtain ⟨_, ao, cp, rfl, -⟩ := id (Rd.of_owns ho)
            have HB5 := Lib.hid (HBw.out.trans (hb.mono HBw.out.size))
            clear ho hb
            go_wp2_with fail
            refine bodyPost_ret (results_tmp2 rfl _ _ _) rfl ?_
            exact ⟨by rw [HF.out]; rfl, HB5.out⟩
      · obtain rfl : q = xk.length := by omega
        have hqF : ¬ ((xk.length : Int) < F.size) := by rw [HFs.out]; omega
        rw [List.take_length] at HSt
        have HX3 : Hid (R = (s, decide (c.t = emptyB) && decide (ni = c.ns.length) && decide (nj = c.ks.length) && decide (nh = c.h))) := by
          unfold Hid; rw [HX2.out, HSt.out]; rfl
        have k1 := isEmpty_B c.t
        have hk10' := hk10
        by_cases g0 : c.t = emptyB
        · rw [decide_eq_true g0] at k1
          by_cases g1 : ni = c.ns.length
          · have e1 : ((ni : Int) == (c.ns.length : Int)) = true := beq_iff_eq.2 (by omega)
            by_cases g2 : nj = c.ks.length
            · have e2 : ((nj : Int) == (c.ks.length : Int)) = true := beq_iff_eq.2 (by omega)
              by_cases g3 : nh = c.h
              · have e3 : (nh == c.h) = true := beq_iff_eq.2 (by omega)
                have HX4 : Hid (R = (s, true)) := by unfold Hid; rw [HX3.out, decide_eq_true g0, decide_eq_true g1, decide_eq_true g2, decide_eq_true g3]; simp
                clear g0 g1 g2 g3
                go_wp2_with fail
                go_quiet (fail)
                go_wp2
                refine bodyPost_ret (results_tmp2 rfl _ _ _) rfl ?_
                exact ⟨by rw [HX4.out]; rfl, below_drewN HBw.out _⟩
              · have e3 : (nh == c.h) = false := beq_eq_false_iff_ne.2 (by omega)
                have HX4 : Hid (R = (s, false)) := by unfold Hid; rw [HX3.out, decide_eq_true g0, decide_eq_true g1, decide_eq_true g2, decide_eq_false g3]; simp
                clear g0 g1 g2 g3
                go_wp2_with fail
                go_quiet (fail)
                go_wp2
                refine bodyPost_ret (results_tmp2 rfl _ _ _) rfl ?_
                exact ⟨by rw [HX4.out]; rfl, below_drewN HBw.out _⟩
            · have e2 : ((nj : Int) == (c.ks.length : Int)) = false := beq_eq_false_iff_ne.2 (by omega)
              have HX4 : Hid (R = (s, false)) := by unfold Hid; rw [HX3.out, decide_eq_true g0, decide_eq_true g1, decide_eq_false g2]; simp
              clear g0 g1 g2
              go_wp2_with fail
              go_quiet (fail)
              go_wp2
              refine bodyPost_ret (results_tmp2 rfl _ _ _) rfl ?_
              exact ⟨by rw [HX4.out]; rfl, below_drewN HBw.out _⟩
          · have e1 : ((ni : Int) == (c.ns.length : Int)) = false := beq_eq_false_iff_ne.2 (by omega)
            have HX4 : Hid (R = (s, false)) := by unfold Hid; rw [HX3.out, decide_eq_true g0, decide_eq_false g1]; simp
            clear g0 g1
            go_wp2_with fail
            go_quiet (fail)
            go_wp2
            refine bodyPost_ret (results_tmp2 rfl _ _ _) rfl ?_
            exact ⟨by rw [HX4.out]; rfl, below_drewN HBw.out _⟩
        · rw [decide_eq_false g0] at k1
          have HX4 : Hid (R = (s, false)) := by unfold Hid; rw [HX3.out, decide_eq_false g0]; simp
          clear g0
          go_wp2_with fail
          go_quiet (fail)
          go_wp2
          refine bodyPost_ret (results_tmp2 rfl _ _ _) rfl ?_
          exact ⟨by rw [HX4.out]; rfl, below_drewN HBw.out _⟩
end Go.Proofs.YtikkfbkpgejneaaDoor
/- Plain: the reference's line, check and print are the program's. -/
namespace Go.Proofs.YtikkfbkpgejneaaDoor

def joinB (l : List ByteArray) : ByteArray := mkB (Lib.join (l.map (·.data.toList)) [32])
theorem joinB_one (x : ByteArray) : joinB [x] = x := by unfold joinB; simp only [List.map_cons, List.map_nil, Lib.join_one]; exact mkB_data x
theorem joinB_cons (x y : ByteArray) (r : List ByteArray) : joinB (x :: y :: r) = x ++ (sp ++ joinB (y :: r)) := by
  unfold joinB
  simp only [List.map_cons]
  apply ByteArray.ext
  apply Array.ext'
  rw [Lib.join_cons, Lib.join_cons]
  simp [mkB, sp, Lib.joinTail]
theorem words_one (m : ByteArray) : (words m).length = 1 ↔ (32 : UInt8) ∉ m.data.toList := by
  unfold words
  rw [List.length_map]
  constructor
  · intro h hm
    rcases sp_split m.data.toList with ⟨h1, -⟩ | ⟨x, r, h1, h2, -⟩
    · exact h1 hm
    · rw [h2, wds_app h1, List.length_cons] at h
      exact wds_ne r (List.length_eq_zero_iff.1 (by omega))
  · intro h; rw [wds_free h]; rfl
theorem good_iff (m : ByteArray) : ((words m).length = 1 ∧ m ≠ emptyB) ↔ GoodW m := by
  rw [words_one]; unfold GoodW; exact And.comm
theorem howW_eq (h : Int) : howW h = if 1 ≤ h ∧ h ≤ 3 then hows.getD (h - 1).toNat emptyB else emptyB := by
  by_cases h1 : 1 ≤ h ∧ h ≤ 3
  · rw [if_pos h1]
    obtain ⟨k, rfl⟩ : ∃ k : Nat, h = (k : Int) + 1 := ⟨(h - 1).toNat, by omega⟩
    have hk : k < 3 := by omega
    rw [show ((k : Int) + 1 - 1).toNat = k from by omega]
    match k, hk with
    | 0, _ => rfl
    | 1, _ => rfl
    | 2, _ => rfl
  · rw [if_neg h1]
    unfold howW
    rw [if_neg (by omega), if_neg (by omega), if_neg (by omega)]; rfl
theorem step_name (c : Cmd) (st st' : SL) : stepL c st 1 = some st' ↔ ∃ m, c.ns[st.i]? = some m ∧ GoodW m ∧ st' = ⟨st.s ++ sp ++ m, st.i + 1, st.j, st.h⟩ := by
  have hw : wordL c 1 st.i st.j = (c.ns[st.i]?).getD emptyB := by unfold wordL; rw [if_neg (by decide), if_pos rfl, List.getD_eq_getElem?_getD]
  unfold stepL
  rw [hw]
  rcases h : c.ns[st.i]? with _ | m
  · simp
  · simp only [Option.getD_some]
    constructor
    · intro h2
      split at h2
      · rename_i hg; simp only [if_true, Option.some.injEq] at h2; exact ⟨m, rfl, (good_iff m).1 hg, h2.symm⟩
      · cases h2
    · rintro ⟨m', e, hg, rfl⟩
      cases e
      rw [if_pos ((good_iff m).2 hg)]; rfl
theorem step_num (c : Cmd) (st st' : SL) : stepL c st 2 = some st' ↔ ∃ n, c.ks[st.j]? = some n ∧ (0 ≤ n ∧ n ≤ 999999999) ∧ st' = ⟨st.s ++ sp ++ mkB (Lib.itoa n), st.i, st.j + 1, st.h⟩ := by
  have hw : wordL c 2 st.i st.j = match c.ks[st.j]? with | some n => if 0 ≤ n ∧ n ≤ 999999999 then mkB (Lib.itoa n) else emptyB | none => emptyB := by
    unfold wordL; rw [if_neg (by decide), if_neg (by decide)]
    all_goals rfl
  unfold stepL
  rw [hw]
  rcases h : c.ks[st.j]? with _ | n
  · simp
  · simp only
    constructor
    · intro h2
      by_cases hn : 0 ≤ n ∧ n ≤ 999999999
      · rw [if_pos hn, if_pos ((good_iff _).2 (itoa_good hn.1))] at h2
        simp only [Option.some.injEq] at h2
        exact ⟨n, rfl, hn, h2.symm⟩
      · rw [if_neg hn, if_neg (fun h => h.2 rfl)] at h2; cases h2
    · rintro ⟨n', e, hn, rfl⟩
      cases e
      rw [if_pos hn, if_pos ((good_iff _).2 (itoa_good hn.1))]; rfl
theorem step_how (c : Cmd) (st st' : SL) : stepL c st 0 = some st' ↔ (1 ≤ c.h ∧ c.h ≤ 3) ∧ st' = ⟨st.s ++ sp ++ hows.getD (c.h - 1).toNat emptyB, st.i, st.j, c.h⟩ := by
  unfold stepL wordL
  rw [if_pos rfl, howW_eq]
  by_cases h : 1 ≤ c.h ∧ c.h ≤ 3
  · rw [if_pos h, if_pos ((good_iff _).2 (howI_of c.h h.1 h.2).2)]
    constructor
    · intro h2; simp only [Option.some.injEq] at h2; exact ⟨h, h2.symm⟩
    · rintro ⟨-, rfl⟩; rfl
  · rw [if_neg h, if_neg (fun hg => hg.2 rfl)]
    constructor
    · intro h2; cases h2
    · rintro ⟨h2, -⟩; exact absurd h2 h
theorem end_true (c : Cmd) (o : Option SL) (s : ByteArray) : endL c o = (s, true) ↔ ∃ st, o = some st ∧ s = st.s ∧ c.t = emptyB ∧ st.i = c.ns.length ∧ st.j = c.ks.length ∧ st.h = c.h := by
  unfold endL
  split
  · simp
  · rename_i st
    simp only [Prod.mk.injEq, Bool.and_eq_true, decide_eq_true_iff, Option.some.injEq]
    constructor
    · rintro ⟨h1, ⟨⟨h2, h3⟩, h4⟩, h5⟩; exact ⟨st, rfl, h1.symm, h2, h3, h4, h5⟩
    · rintro ⟨_, rfl, h1, h2, h3, h4, h5⟩; exact ⟨h1.symm, ⟨⟨h2, h3⟩, h4⟩, h5⟩
theorem get_all1 {α : Type} {l : List α} {a : α} (h : l.length = 1) (h0 : l[0]? = some a) : l = [a] := by
  obtain ⟨b, rfl⟩ := list_len1 h; simp at h0; rw [h0]
theorem get_all2 {α : Type} {l : List α} {a b : α} (h : l.length = 2) (h0 : l[0]? = some a) (h1 : l[1]? = some b) : l = [a, b] := by
  obtain ⟨x, y, rfl⟩ := list_len2 h; simp at h0 h1; rw [h0, h1]
theorem get_all3 {α : Type} {l : List α} {a b d : α} (h : l.length = 3) (h0 : l[0]? = some a) (h1 : l[1]? = some b) (h2 : l[2]? = some d) : l = [a, b, d] := by
  obtain ⟨x, y, z, rfl⟩ := list_len3 h; simp at h0 h1 h2; rw [h0, h1, h2]
theorem line_fit {c : Cmd} {x : Vb} (hx : x ∈ VT) (ht : x.t = false) {s : ByteArray} (h : endL c (x.k.foldlM (stepL c) ⟨x.s, 0, 0, 0⟩) = (s, true)) :
    FitW c x (wordsC c) ∧ (∀ m ∈ c.ns, GoodW m) ∧ s = joinB (x.s :: wordsC c) := by
  obtain ⟨v, hh, ns, ks, t⟩ := c
  rw [end_true] at h
  obtain ⟨st, h, rfl, hT, hi, hj, hhh⟩ := h
  simp only at hT hi hj hhh
  subst hT
  rcases VT_shape x hx with h1 | ⟨-, ⟨hn, hk | hk | hk | hk⟩ | ⟨hn, hk⟩⟩
  · rw [ht] at h1; cases h1
  all_goals rw [hk] at h
  all_goals simp only [List.foldlM_cons, List.foldlM_nil, Option.bind_eq_bind, Option.bind_eq_some_iff, Option.pure_def, Option.some.injEq] at h
  · subst h
    obtain rfl : ns = [] := List.length_eq_zero_iff.1 hi.symm
    obtain rfl : ks = [] := List.length_eq_zero_iff.1 hj.symm
    simp only at hhh
    subst hhh
    exact ⟨⟨rfl, rfl, by simp, by simp, by simp [hn], by rw [hk]; rfl, by rw [hk]; rfl, by simp, by simp⟩, by simp, (joinB_one _).symm⟩
  · obtain ⟨s1, h1, rfl⟩ := h
    obtain ⟨a, ha, ga, rfl⟩ := (step_name _ _ _).1 h1
    simp only at hi hj hhh ha
    obtain rfl := get_all1 hi.symm ha
    obtain rfl : ks = [] := List.length_eq_zero_iff.1 hj.symm
    subst hhh
    exact ⟨⟨rfl, rfl, by simp, by simp, by simp [hn], by rw [hk]; rfl, by rw [hk]; rfl, by simp [wordsC], by simp⟩, by simp [ga], by simp [wordsC, howL, joinB_cons, joinB_one, ByteArray.append_assoc]⟩
  · obtain ⟨s1, h1, s2, h2, s3, h3, rfl⟩ := h
    obtain ⟨a, ha, ga, rfl⟩ := (step_name _ _ _).1 h1
    obtain ⟨b, hb, gb, rfl⟩ := (step_name _ _ _).1 h2
    obtain ⟨d, hd, gd, rfl⟩ := (step_name _ _ _).1 h3
    simp only at hi hj hhh ha hb hd
    obtain rfl := get_all3 hi.symm ha hb hd
    obtain rfl : ks = [] := List.length_eq_zero_iff.1 hj.symm
    subst hhh
    exact ⟨⟨rfl, rfl, by simp, by simp, by simp [hn], by rw [hk]; rfl, by rw [hk]; rfl, by simp [wordsC], by simp⟩, by simp [ga, gb, gd], by simp [wordsC, howL, joinB_cons, joinB_one, ByteArray.append_assoc]⟩
  · obtain ⟨s1, h1, s2, h2, s3, h3, s4, h4, s5, h5, rfl⟩ := h
    obtain ⟨a, ha, ga, rfl⟩ := (step_name _ _ _).1 h1
    obtain ⟨b, hb, gb, rfl⟩ := (step_name _ _ _).1 h2
    obtain ⟨d, hd, gd, rfl⟩ := (step_name _ _ _).1 h3
    obtain ⟨p, hp, gp, rfl⟩ := (step_num _ _ _).1 h4
    obtain ⟨q, hq, gq, rfl⟩ := (step_num _ _ _).1 h5
    simp only at hi hj hhh ha hb hd hp hq
    obtain rfl := get_all3 hi.symm ha hb hd
    obtain rfl := get_all2 hj.symm hp hq
    subst hhh
    refine ⟨⟨rfl, rfl, by simp, by simp, by simp [hn], by rw [hk]; rfl, by rw [hk]; rfl, by simp [wordsC], ?_⟩, by simp [ga, gb, gd], by simp [wordsC, howL, joinB_cons, joinB_one, ByteArray.append_assoc]⟩
    intro n hn
    simp only [List.mem_cons, List.not_mem_nil, or_false] at hn
    rcases hn with rfl | rfl
    · exact gp
    · exact gq
  · obtain ⟨s1, h1, s2, h2, rfl⟩ := h
    obtain ⟨gh, rfl⟩ := (step_how _ _ _).1 h1
    obtain ⟨a, ha, ga, rfl⟩ := (step_name _ _ _).1 h2
    simp only at hi hj ha gh
    obtain rfl := get_all1 hi.symm ha
    obtain rfl : ks = [] := List.length_eq_zero_iff.1 hj.symm
    have h0 : hh ≠ 0 := by omega
    refine ⟨⟨rfl, rfl, by simp only; omega, by simp only; omega, by simp [hn, h0], by rw [hk]; rfl, by rw [hk]; rfl, by simp [wordsC], by simp⟩, by simp [ga], ?_⟩
    simp [wordsC, howL, h0, joinB_cons, joinB_one, ByteArray.append_assoc]
theorem fit_lineR {c : Cmd} {x : Vb} (hx : x ∈ VT) (ht : x.t = false) (h : FitW c x (wordsC c)) (hg : ∀ m ∈ c.ns, GoodW m) :
    endL c (x.k.foldlM (stepL c) ⟨x.s, 0, 0, 0⟩) = (joinB (x.s :: wordsC c), true) := by
  obtain ⟨v, hh, ns, ks, t⟩ := c
  have hhow := h.how
  have hns := h.ns
  have hks := h.ks
  have hkb := h.kb
  have hT := h.t
  have h0 := h.h0
  have h3 := h.h3
  simp only at hhow hns hks hkb hT h0 h3 hg
  subst hT
  rw [end_true]
  rcases VT_shape x hx with h1 | ⟨-, ⟨hn, hk | hk | hk | hk⟩ | ⟨hn, hk⟩⟩
  · rw [ht] at h1; cases h1
  all_goals rw [hk] at hns hks ⊢
  all_goals simp at hns hks
  all_goals simp only [List.foldlM_cons, List.foldlM_nil, Option.bind_eq_bind, Option.pure_def]
  · have h00 : hh = 0 := by rw [beq_eq_false_iff_ne.2 hn] at hhow; simpa using hhow
    subst hns hks h00
    exact ⟨_, rfl, joinB_one _, by trivial, rfl, rfl, rfl⟩
  · have h00 : hh = 0 := by rw [beq_eq_false_iff_ne.2 hn] at hhow; simpa using hhow
    obtain ⟨a, rfl⟩ := list_len1 hns
    subst hks h00
    rw [(step_name _ _ _).2 ⟨a, rfl, hg a (by simp), rfl⟩]
    exact ⟨_, rfl, by simp [wordsC, howL, joinB_cons, joinB_one, ByteArray.append_assoc], by trivial, rfl, rfl, rfl⟩
  · have h00 : hh = 0 := by rw [beq_eq_false_iff_ne.2 hn] at hhow; simpa using hhow
    obtain ⟨a, b, d, rfl⟩ := list_len3 hns
    subst hks h00
    rw [(step_name _ _ _).2 ⟨a, rfl, hg a (by simp), rfl⟩, Option.bind_some, (step_name _ _ _).2 ⟨b, rfl, hg b (by simp), rfl⟩, Option.bind_some, (step_name _ _ _).2 ⟨d, rfl, hg d (by simp), rfl⟩]
    exact ⟨_, rfl, by simp [wordsC, howL, joinB_cons, joinB_one, ByteArray.append_assoc], by trivial, rfl, rfl, rfl⟩
  · have h00 : hh = 0 := by rw [beq_eq_false_iff_ne.2 hn] at hhow; simpa using hhow
    obtain ⟨a, b, d, rfl⟩ := list_len3 hns
    obtain ⟨p, q, rfl⟩ := list_len2 hks
    subst h00
    rw [(step_name _ _ _).2 ⟨a, rfl, hg a (by simp), rfl⟩, Option.bind_some, (step_name _ _ _).2 ⟨b, rfl, hg b (by simp), rfl⟩, Option.bind_some, (step_name _ _ _).2 ⟨d, rfl, hg d (by simp), rfl⟩, Option.bind_some,
      (step_num _ _ _).2 ⟨p, rfl, hkb p (by simp), rfl⟩, Option.bind_some, (step_num _ _ _).2 ⟨q, rfl, hkb q (by simp), rfl⟩]
    exact ⟨_, rfl, by simp [wordsC, howL, joinB_cons, joinB_one, ByteArray.append_assoc], by trivial, rfl, rfl, rfl⟩
  · have h00 : hh ≠ 0 := by rw [beq_iff_eq.2 hn] at hhow; simpa using hhow
    obtain ⟨a, rfl⟩ := list_len1 hns
    subst hks
    rw [(step_how _ _ _).2 ⟨⟨by simp only; omega, h3⟩, rfl⟩, Option.bind_some, (step_name _ _ _).2 ⟨a, rfl, hg a (by simp), rfl⟩]
    exact ⟨_, rfl, by simp [wordsC, howL, h00, joinB_cons, joinB_one, ByteArray.append_assoc], by trivial, rfl, rfl, rfl⟩
def rCheckC (c : Cmd) : Int := if (lineR c).2 = false then 2 else if 2064 < (lineR c).1.size then 3 else 0
def rPrintC (c : Cmd) : ByteArray × Int := if rCheckC c ≠ 0 then (emptyB, rCheckC c) else ((lineR c).1, 0)
/-- what a command that may be has -/
theorem fits_fit {c : Cmd} {x : Vb} (ht : x.t = false) (hv : c.v = x.n) (h1 : (lineX c x).2 = true) (h2 : fitsC c x = true) : FitW c x (wordsC c) ∧ ∀ m ∈ c.ns, GoodW m := by
  unfold lineX at h1
  rw [ht, if_neg (by decide)] at h1
  by_cases hh3 : c.h < 0 ∨ 3 < c.h
  · rw [if_pos hh3] at h1; cases h1
  · rw [if_neg hh3] at h1
    have htt : c.t = emptyB := by simpa using h1
    unfold fitsC at h2
    rw [ht, Bool.false_or] at h2
    simp only [Bool.and_eq_true, Bool.not_eq_true'] at h2
    obtain ⟨⟨⟨⟨f1, f2⟩, f3⟩, f4⟩, f5⟩ := h2
    refine ⟨⟨rfl, htt, by omega, by omega, ?_, beq_iff_eq.1 f2, beq_iff_eq.1 f3, fun m hm => by unfold wordsC; simp [hm], fun n hn => ?_⟩, fun m hm => (badS_iff m).1 (by have := List.any_eq_false.1 f4 m hm; simpa using this)⟩
    · rw [beq_iff_eq.1 f1, hv, Bool.eq_iff_iff, beq_iff_eq, beq_iff_eq]; omega
    · have := List.any_eq_false.1 f5 n hn
      unfold badK at this
      simp at this
      omega
theorem check_out {c : Cmd} (h : c.v < 1 ∨ 10 < c.v) : checkC c = 2 ∧ rCheckC c = 2 := by
  have e1 : lineC c = (emptyB, false) := by unfold lineC; rw [if_pos h]
  have e2 : lineR c = (emptyB, false) := by unfold lineR; rw [if_pos h]
  exact ⟨by unfold checkC; rw [e1]; rfl, by unfold rCheckC; rw [e2]; rfl⟩
theorem prints_plain (c : Cmd) : rPrintC c = printC c := by
  by_cases hv0 : c.v < 1 ∨ 10 < c.v
  · obtain ⟨h1, h2⟩ := check_out hv0
    unfold rPrintC printC
    rw [h1, h2]; rfl
  · obtain ⟨x, hxi⟩ : ∃ x, VT[(c.v - 1).toNat]? = some x := ⟨_, List.getElem?_eq_getElem (by simp [VT]; omega)⟩
    have hx : x ∈ VT := List.mem_of_getElem? hxi
    have hv : c.v = x.n := by have := VT_num hxi; omega
    have hR : lineR c = lineRX c x := by unfold lineR; rw [if_neg hv0, hxi]
    have hC := lineC_of hx hv
    have key : rCheckC c = checkC c ∧ (checkC c = 0 → (lineR c).1 = (lineC c).1) := by
      rw [checkC_of hx hv, hC]
      unfold rCheckC
      rw [hR]
      cases ht : x.t with
      | true =>
        have e : lineRX c x = lineX c x := by unfold lineRX lineX; rw [ht]; rfl
        have hf : fitsC c x = true := by unfold fitsC; rw [ht]; rfl
        rw [e, hf]
        refine ⟨?_, fun _ => rfl⟩
        split
        · rfl
        · simp only [ite_self, Bool.true_eq_false, if_false]
      | false =>
        have eR : lineRX c x = endL c (x.k.foldlM (stepL c) ⟨x.s, 0, 0, 0⟩) := by unfold lineRX; rw [ht]; rfl
        cases hr : (lineRX c x).2 with
        | true =>
          have h1 : endL c (x.k.foldlM (stepL c) ⟨x.s, 0, 0, 0⟩) = ((lineRX c x).1, true) := by rw [← eR, ← hr]
          obtain ⟨hF, hg, hs⟩ := line_fit hx ht h1
          obtain ⟨h2, h3⟩ := fit_line ht hF hv hg
          have e : (lineRX c x).1 = (lineX c x).1 := by rw [hs, h2]; rfl
          rw [h3, e, h2, hF.t]
          exact ⟨by simp, fun _ => rfl⟩
        | false =>
          have hno : (lineX c x).2 = true → fitsC c x = true → False := fun a b => by
            obtain ⟨hF, hg⟩ := fits_fit ht hv a b
            have := fit_lineR hx ht hF hg
            rw [← eR] at this
            rw [this] at hr; cases hr
          cases hl : (lineX c x).2 with
          | false => exact ⟨rfl, fun h => by cases h⟩
          | true =>
            have htt : c.t = emptyB := by
              have h1 := hl
              unfold lineX at h1
              rw [ht, if_neg (by decide)] at h1
              split at h1
              · cases h1
              · simpa using h1
            cases hf : fitsC c x with
            | true => exact absurd (hno hl hf) id
            | false => rw [htt]; exact ⟨by simp, fun h => by simp at h⟩
    unfold rPrintC printC
    rw [key.1]
    split
    · rfl
    · rename_i h; rw [key.2 (by simpa using h)]
end Go.Proofs.YtikkfbkpgejneaaDoor
/- The reference's Check and Print; the law CommandPrints. -/
namespace Go.Proofs.YtikkfbkpgejneaaDoor
open Go.RowKit Go.Shelf
set_option maxRecDepth 100000 in
set_option maxHeartbeats 1600000 in
theorem rCheck_any (va : Value) (c : Cmd) (w : World) (hg : Gb w) (hr : RdCm w va c) (sm : SmC c) :
    Calls Tryd.prog 35 #[va] w fun e w' => e = .returned (.int .i64 (rCheckC c)) ∧ Below w.heap.size w w' := by
  obtain ⟨an, am, ak, al, rfl, a1, a2⟩ := hr
  have HA1 := Lib.hid a1
  have HA2 := Lib.hid a2
  have HG := Lib.hid hg
  have h8 := hg.sz
  have HL := Lib.hid (fun va w hg hr => rLine_any va c w hg hr sm)
  obtain ⟨R, hR⟩ : ∃ R, R = rCheckC c := ⟨_, rfl⟩
  rw [← hR]
  have HR : Hid (R = if (lineR c).2 = false then 2 else if 2064 < (lineR c).1.size then 3 else 0) := hR
  generalize lineR c = L at *
  obtain ⟨s, ok⟩ := L
  simp only at HR
  clear a1 a2 sm hg hR
  go_enter Tryd.func35, Tryd.ntmps35
  go_wp2_with fail
  have hbx := heap_alloc_new w (.cells #[.int .i64 c.v, .int .i64 c.h, .slice an c.ns.length am, .slice ak c.ks.length al, .string c.t] 27)
  have HB1 := Lib.hid (below1 w (.cells #[.int .i64 c.v, .int .i64 c.h, .slice an c.ns.length am, .slice ak c.ks.length al, .string c.t] 27))
  have HBx := Lib.hid hbx
  clear hbx
  change Calls _ _ _ (w.alloc (.cells #[.int .i64 c.v, .int .i64 c.h, .slice an c.ns.length am, .slice ak c.ks.length al, .string c.t] 27)) _
  generalize w.alloc (.cells #[.int .i64 c.v, .int .i64 c.h, .slice an c.ns.length am, .slice ak c.ks.length al, .string c.t] 27) = w1 at *
  have hA : RdCm w1 (.agg #[.int .i64 c.v, .int .i64 c.h, .slice an c.ns.length am, .slice ak c.ks.length al, .string c.t]) c := ⟨_, _, _, _, rfl, HA1.out.below HB1.out, HA2.out.below HB1.out⟩
  have HA := Lib.hid hA
  clear hA
  refine (HL.out _ w1 (HG.out.below (B := w.heap.size) h8 HB1.out) HA.out).mono ?_
  rintro e w2 ⟨rfl, hb⟩
  have HB2 := Lib.hid (HB1.out.trans (hb.mono HB1.out.size))
  clear hb
  cases ok with
  | false =>
    have HE : Hid (R = 2) := by unfold Hid; rw [HR.out]; rfl
    go_wp2_with fail
    go_ret
    exact ⟨by rw [HE.out]; rfl, HB2.out⟩
  | true =>
    by_cases hl : 2064 < s.size
    · have HE : Hid (R = 3) := by unfold Hid; rw [HR.out]; simp [hl]
      have hl2 : (2064 : Int) < s.size := by omega
      go_wp2_with fail
      go_ret
      exact ⟨by rw [HE.out]; rfl, HB2.out⟩
    · have HE : Hid (R = 0) := by unfold Hid; rw [HR.out]; simp [hl]
      have hl2 : ¬ (2064 : Int) < s.size := by omega
      go_wp2_with fail
      go_ret
      exact ⟨by rw [HE.out]; rfl, HB2.out⟩
set_option maxRecDepth 100000 in
set_option maxHeartbeats 1600000 in
theorem rPrint_any (va : Value) (c : Cmd) (w : World) (hg : Gb w) (hr : RdCm w va c) (sm : SmC c) :
    Calls Tryd.prog 19 #[va] w fun e w' => e = .returned (.tuple #[.string (rPrintC c).1, .int .i64 (rPrintC c).2]) ∧ Below w.heap.size w w' := by
  obtain ⟨an, am, ak, al, rfl, a1, a2⟩ := hr
  have HA1 := Lib.hid a1
  have HA2 := Lib.hid a2
  have HG := Lib.hid hg
  have h8 := hg.sz
  have HL := Lib.hid (fun va w hg hr => rLine_any va c w hg hr sm)
  have HC := Lib.hid (fun va w hg hr => rCheck_any va c w hg hr sm)
  obtain ⟨R, hR⟩ : ∃ R, R = rPrintC c := ⟨_, rfl⟩
  rw [← hR]
  have HR : Hid (R = if rCheckC c ≠ 0 then (emptyB, rCheckC c) else ((lineR c).1, 0)) := hR
  generalize lineR c = L at *
  obtain ⟨s, ok⟩ := L
  simp only at HR
  generalize rCheckC c = ck at *
  clear a1 a2 sm hg hR
  go_enter Tryd.func19, Tryd.ntmps19
  go_wp2_with fail
  have hbx := heap_alloc_new w (.cells #[.int .i64 c.v, .int .i64 c.h, .slice an c.ns.length am, .slice ak c.ks.length al, .string c.t] 27)
  have HB1 := Lib.hid (below1 w (.cells #[.int .i64 c.v, .int .i64 c.h, .slice an c.ns.length am, .slice ak c.ks.length al, .string c.t] 27))
  have HBx := Lib.hid hbx
  clear hbx
  change Calls _ _ _ (w.alloc (.cells #[.int .i64 c.v, .int .i64 c.h, .slice an c.ns.length am, .slice ak c.ks.length al, .string c.t] 27)) _
  generalize w.alloc (.cells #[.int .i64 c.v, .int .i64 c.h, .slice an c.ns.length am, .slice ak c.ks.length al, .string c.t] 27) = w1 at *
  have hA : RdCm w1 (.agg #[.int .i64 c.v, .int .i64 c.h, .slice an c.ns.length am, .slice ak c.ks.length al, .string c.t]) c := ⟨_, _, _, _, rfl, HA1.out.below HB1.out, HA2.out.below HB1.out⟩
  have HA := Lib.hid hA
  clear hA
  refine (HC.out _ w1 (HG.out.below (B := w.heap.size) h8 HB1.out) HA.out).mono ?_
  rintro e w2 ⟨rfl, hb⟩
  have HB2 := Lib.hid (HB1.out.trans (hb.mono HB1.out.size))
  have HAw := Lib.hid (HA.out.below hb)
  have hk := (hb.block _ (Array.getElem?_eq_some_iff.1 HBx.out).1).trans HBx.out
  have q0 : w2.cell? ⟨w.heap.size, 0, none⟩ = some (.int .i64 c.v) := by simp [World.cell?, hk]
  have q1 : w2.cell? ⟨w.heap.size, 1, none⟩ = some (.int .i64 c.h) := by simp [World.cell?, hk]
  have q2 : w2.cell? ⟨w.heap.size, 2, none⟩ = some (.slice an c.ns.length am) := by simp [World.cell?, hk]
  have q3 : w2.cell? ⟨w.heap.size, 3, none⟩ = some (.slice ak c.ks.length al) := by simp [World.cell?, hk]
  have q4 : w2.cell? ⟨w.heap.size, 4, none⟩ = some (.string c.t) := by simp [World.cell?, hk]
  clear hb hk
  by_cases h0 : ck = 0
  · subst h0
    have HE : Hid (R = (s, 0)) := by unfold Hid; rw [HR.out]; simp
    go_wp2_with fail
    refine (HL.out _ w2 (HG.out.below (B := w.heap.size) h8 HB2.out) HAw.out).mono ?_
    rintro e w3 ⟨rfl, hb⟩
    have HB3 := Lib.hid (HB2.out.trans (hb.mono HB2.out.size))
    clear hb
    go_wp2_with fail
    refine bodyPost_ret (results_tmp2 rfl _ _ _) rfl ?_
    exact ⟨by rw [HE.out]; rfl, HB3.out⟩
  · have HE : Hid (R = (emptyB, ck)) := by unfold Hid; rw [HR.out, if_pos h0]
    have e1 : (ck != 0) = true := by simpa using h0
    clear h0
    go_wp2_with fail
    refine bodyPost_ret (results_tmp2 rfl _ _ _) rfl ?_
    exact ⟨by rw [HE.out]; rfl, HB2.out⟩
theorem print_check (c : Cmd) : (printC c).2 = checkC c := by
  unfold printC
  by_cases h : checkC c = 0
  · rw [if_neg (by simp [h]), h]
  · rw [if_pos h]
set_option maxRecDepth 100000 in
set_option maxHeartbeats 3200000 in
theorem commandPrints_any (va : Value) (c : Cmd) (w : World) (hg : Gb w) (hr : RdCm w va c) (sm : SmC c) : Calls Tryd.prog 6 #[va] w fun e w' => e = .returned (.bool true) ∧ Below w.heap.size w w' := by
  have h8 := hg.sz
  have HG := Lib.hid hg
  obtain ⟨an, am, ak, al, rfl, a1, a2⟩ := hr
  have HA1 := Lib.hid a1
  have HA2 := Lib.hid a2
  have HPr := Lib.hid (fun va w hg hr => print_any va c w hg hr sm)
  have HCk := Lib.hid (fun va w hg hr => check_any va c w hg hr sm)
  have HRp := Lib.hid (fun va w hg hr => rPrint_any va c w hg hr sm)
  rw [← print_check c] at HCk
  rw [prints_plain c] at HRp
  have HHd := Lib.hid (fun w hg => head_any w hg)
  generalize printC c = P at *
  obtain ⟨s, er⟩ := P
  clear hg a1 a2 sm
  go_enter Tryd.func6, Tryd.ntmps6
  go_wp2_with fail
  have hbx := heap_alloc_new w (.cells #[.int .i64 c.v, .int .i64 c.h, .slice an c.ns.length am, .slice ak c.ks.length al, .string c.t] 27)
  have HB1 := Lib.hid (below1 w (.cells #[.int .i64 c.v, .int .i64 c.h, .slice an c.ns.length am, .slice ak c.ks.length al, .string c.t] 27))
  have HBx := Lib.hid hbx
  clear hbx
  change Calls _ _ _ (w.alloc (.cells #[.int .i64 c.v, .int .i64 c.h, .slice an c.ns.length am, .slice ak c.ks.length al, .string c.t] 27)) _
  generalize w.alloc (.cells #[.int .i64 c.v, .int .i64 c.h, .slice an c.ns.length am, .slice ak c.ks.length al, .string c.t] 27) = w1 at *
  have hA : RdCm w1 (.agg #[.int .i64 c.v, .int .i64 c.h, .slice an c.ns.length am, .slice ak c.ks.length al, .string c.t]) c := ⟨_, _, _, _, rfl, HA1.out.below HB1.out, HA2.out.below HB1.out⟩
  have HA := Lib.hid hA
  clear hA
  refine (HPr.out _ w1 (HG.out.below (B := w.heap.size) h8 HB1.out) HA.out).mono ?_
  rintro e w2 ⟨rfl, hb⟩
  have HB2 := Lib.hid (HB1.out.trans (hb.mono HB1.out.size))
  have HA2' := Lib.hid (HA.out.below hb)
  have hk := (hb.block _ (Array.getElem?_eq_some_iff.1 HBx.out).1).trans HBx.out
  have q0 : w2.cell? ⟨w.heap.size, 0, none⟩ = some (.int .i64 c.v) := by simp [World.cell?, hk]
  have q1 : w2.cell? ⟨w.heap.size, 1, none⟩ = some (.int .i64 c.h) := by simp [World.cell?, hk]
  have q2 : w2.cell? ⟨w.heap.size, 2, none⟩ = some (.slice an c.ns.length am) := by simp [World.cell?, hk]
  have q3 : w2.cell? ⟨w.heap.size, 3, none⟩ = some (.slice ak c.ks.length al) := by simp [World.cell?, hk]
  have q4 : w2.cell? ⟨w.heap.size, 4, none⟩ = some (.string c.t) := by simp [World.cell?, hk]
  have HK2 := Lib.hid hk
  clear hb hk
  go_wp2_with fail
  refine (HCk.out _ w2 (HG.out.below (B := w.heap.size) h8 HB2.out) HA2'.out).mono ?_
  rintro e w3 ⟨rfl, hb⟩
  have HB3 := Lib.hid (HB2.out.trans (hb.mono HB2.out.size))
  have HA3 := Lib.hid (HA2'.out.below hb)
  have hk := (hb.block _ (Array.getElem?_eq_some_iff.1 HK2.out).1).trans HK2.out
  clear q0 q1 q2 q3 q4
  have q0 : w3.cell? ⟨w.heap.size, 0, none⟩ = some (.int .i64 c.v) := by simp [World.cell?, hk]
  have q1 : w3.cell? ⟨w.heap.size, 1, none⟩ = some (.int .i64 c.h) := by simp [World.cell?, hk]
  have q2 : w3.cell? ⟨w.heap.size, 2, none⟩ = some (.slice an c.ns.length am) := by simp [World.cell?, hk]
  have q3 : w3.cell? ⟨w.heap.size, 3, none⟩ = some (.slice ak c.ks.length al) := by simp [World.cell?, hk]
  have q4 : w3.cell? ⟨w.heap.size, 4, none⟩ = some (.string c.t) := by simp [World.cell?, hk]
  clear hb hk
  go_wp2_with fail
  refine (HRp.out _ w3 (HG.out.below (B := w.heap.size) h8 HB3.out) HA3.out).mono ?_
  rintro e w4 ⟨rfl, hb⟩
  have HB4 := Lib.hid (HB3.out.trans (hb.mono HB3.out.size))
  clear hb q0 q1 q2 q3 q4
  have hss : (s.toList == s.toList) = true := by simp
  have hee : (er == er) = true := by simp
  go_wp2_with fail
  refine (HHd.out _ (HG.out.below (B := w.heap.size) h8 HB4.out)).mono ?_
  rintro e w5 ⟨rfl, hb⟩
  have HB5 := Lib.hid (HB4.out.trans (hb.mono HB4.out.size))
  clear hb
  go_wp2_with fail
  go_ret
  exact ⟨rfl, HB5.out⟩
end Go.Proofs.YtikkfbkpgejneaaDoor
namespace Go.Proofs.YtikkfbkpgejneaaDoor.commandPrints
open Go.ChangeShapes Go.WideShapes Go.ChangeAt Go.RowKit
open Go.ChangeMaps (open_string shut_string)

theorem laid : laidOutB Tryd.prog = true := by kernel_rfl
theorem own : ownKnob Tryd.prog.godebug = none := by kernel_rfl

set_option maxRecDepth 100000 in
theorem contract (H : Type) (enc : TypeId × Value → H) (W : World) (base : Nat) (args : Array Value) (ds gs : List (DataW H)) (before : List MemPlace)
    (hval : ∀ (j : Nat) t v, Tryd.f6.params[j]? = some t → args[j]? = some v → Value.okWide Tryd.prog W .any base t v)
    (hW : DataW.Whole enc Tryd.prog Tryd.f6.params.toList Rows.commandPrintsSpec.vars false W args.toList ds gs before) (hk : Rows.uptoSmall H (ds ++ gs) = true)
    (hsz : (DataW.weightsEach Tryd.prog (Tryd.f6.params.toList ++ Rows.commandPrintsSpec.plain.varTypes Tryd.prog) (ds ++ gs)).all (· ≤ reachBytes) = true)
    (hL : laidMetH Tryd.prog Rows.commandPrintsUptoRow.laid W) (hsh : W.ShapedOpen Tryd.prog) :
    Calls Tryd.prog 6 args W fun e W' => ∃ v, e = .returned v ∧ Rows.commandPrintsSpec.post enc Tryd.prog Tryd.f6 false true false false W args v W' := by
  have hW' := hW
  obtain ⟨p, q, hA0, hV, rfl, hfz, hnd⟩ := hW
  have hA : DataW.TrodAll enc Tryd.prog W 0 (fun _ => true) true Tryd.f6.params.toList args.toList ds p := hA0
  rw [Tryd.params6] at hA hval hsz
  obtain ⟨v0, vs0, d0, ds0, p0, q0, hargs, rfl, rfl, h0, r0⟩ := trodAll_cons hA
  obtain ⟨rfl, rfl, rfl⟩ := trodAll_nil r0
  obtain rfl : args = #[v0] := by cases args; simp_all
  obtain ⟨rfl, rfl⟩ := trodVars_none hV
  have hlt0 : ∀ x ∈ p0, x.block < W.heap.size := fun x hx => by simpa using hW'.lt x (by simp [hx])
  obtain ⟨a0, t0, u0, z0⟩ := open_cmd (hval 0 27 v0 rfl rfl) h0
  clear hA0
  simp only [List.append_nil] at hW'
  have hk2 : Rows.uptoBulkAll ([d0] : List (DataW H)) ≤ 1048576 := by simpa [Rows.uptoSmall] using hk
  simp only [Rows.uptoBulkAll] at hk2
  replace z0 := z0.mono (m := 1048576) (by omega)
  refine (commandPrints_any v0 a0 W (gb_of hL hsh) t0 (z0.sm u0)).mono fun e W' ⟨he, bel⟩ => ?_
  subst he
  exact ⟨_, rfl, _, _, _, [], _, [], hW', trodAll_mk1 (shut_bool Tryd.underlying4 _), (trodAll_cons_mk (Below.trod laid (by kernel_rfl) (of_decide_eq_true (by kernel_rfl)) h0 bel hlt0) trodAll_mk0), rfl, bel.frame _, fun h => by cases h⟩

theorem reads (os : Os) {H : Type} (enc : TypeId × Value → H) : ∃ places, DataW.whole enc Tryd.prog ((laidWorld os).forCall (fun _ _ => 0) ⟨#[], #[.agg #[.int .i64 0, .int .i64 0, .slice none 0 0, .slice none 0 0, .string .empty]], []⟩).memory Tryd.f6.params.toList Rows.commandPrintsSpec.vars false (#[.agg #[.int .i64 0, .int .i64 0, .slice none 0 0, .slice none 0 0, .string .empty]] : Array Value).toList 8 = some ([.agg [.lit (.int .i64 0), .lit (.int .i64 0), .nil, .nil, .lit (.string [])]], [], places) :=
  ⟨[], by kernel_rfl⟩

set_option maxRecDepth 100000 in
theorem lifted (os : Os) (started : os.Started) (H : Type) (enc : TypeId × Value → H) (F : Stop.Interp) :
    ReturnsInHanded {} Tryd.checked os 6 .any ((Rows.OpenSpec.upto Rows.commandPrintsSpec).preRow enc Tryd.prog Tryd.f6 Rows.commandPrintsUptoRow.domain false Rows.commandPrintsUptoRow.laid) (((Rows.OpenSpec.upto Rows.commandPrintsSpec).at F).post enc Tryd.prog Tryd.f6 false true false false) := by
  obtain ⟨places, hx⟩ := reads os enc
  refine returnsInHanded_of_row (C := Tryd.checked) (s := Rows.OpenSpec.upto Rows.commandPrintsSpec) own started (by kernel_rfl) Tryd.func6
    (witness_row_atRef (enc := enc) (C := Tryd.checked) false (laidWorld os) #[.agg #[.int .i64 0, .int .i64 0, .slice none 0 0, .slice none 0 0, .string .empty]] rfl (by kernel_rfl) (by kernel_rfl) (by kernel_rfl)
      (OpenSpec.preRow_of_cond 8 hx (by kernel_rfl) (fun k hk => by cases hk; kernel_rfl) (by kernel_rfl) (laidWorld_met os _))) ?_
  intro W base args ds gs before hval hW _ hcnd hsz hL hsh _
  exact contract H enc W base args ds gs before hval hW (hcnd _ rfl) hsz hL hsh

theorem said : Rows.CommandPrintsUptoSaid :=
  OpenClaim.holds_of_cond 6 Tryd.f6 rfl rfl rfl rfl rfl rfl rfl ⟨rfl, rfl, rfl, rfl, rfl⟩ rfl rfl rfl rfl rfl (by kernel_rfl) Tryd.func6 (by kernel_rfl)
    (of_decide_eq_true (by kernel_rfl)) (by unfold Func.isWrapper; first | (rw [if_pos (by decide +kernel)]; kernel_rfl) | (rw [if_neg (by decide +kernel)]; exact ⟨rfl, rfl⟩))
    (fun os started H enc _ F => by rw [OpenClaim.pre_eq_preRow]; exact lifted os started H enc F)

/-- No parameter wants a stand-in; the program's looks are on: what the card asks. -/
theorem plain (f : FuncId) (fn : Func) (hf : Tryd.pinned.checked.prog.funcNamed "byway/bywaylaw30.CommandPrints" = some f) (hfn : Tryd.pinned.checked.prog.funcs[f]? = some fn) :
    true = Tryd.pinned.checked.prog.looks [] ∧ ∀ (j : Nat) t, fn.params[j]? = some t → Tryd.pinned.checked.prog.wantsStandIn t = false := by
  obtain rfl : f = 6 := Option.some.inj ((show Tryd.prog.funcNamed "byway/bywaylaw30.CommandPrints" = some 6 by kernel_rfl).symm.trans hf) |>.symm
  obtain rfl : fn = Tryd.f6 := (Option.some.inj (Tryd.func6.symm.trans hfn)).symm
  refine ⟨by kernel_rfl, fun j t ht => ?_⟩
  rw [Tryd.params6] at ht
  obtain rfl : t = 27 := by simpa using Array.mem_of_getElem? ht
  exact (show Tryd.prog.wantsStandIn 27 = false by kernel_rfl)

theorem proved : Rows.CommandPrintsUptoCardSaid :=
  Claim7.holds_tied_plain_at .later [] _ _ _ _ said (fun _ h => by cases h) (by kernel_rfl) (fun _ h => by cases h) commandPrintsUpto_row_tie rfl ⟨rfl, rfl⟩ (by kernel_rfl) rfl plain (by kernel_rfl)
#print axioms proved
end Go.Proofs.YtikkfbkpgejneaaDoor.commandPrints
