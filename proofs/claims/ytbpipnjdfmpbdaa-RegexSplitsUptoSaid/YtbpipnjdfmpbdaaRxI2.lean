import Derived.Test.YtbpipnjdfmpbdaaRxI
namespace Go.Proofs.Ytbpipnjdfmpbdaa
open Go.RowKit Go.Shelf

set_option maxRecDepth 100000 in
set_option maxHeartbeats 3200000 in
theorem xRead_bad (s : ByteArray) (w : World) (hs : ¬ 2048 < s.size) (hq : (cut s 0).2 < s.size) :
    Calls Try.prog 17 #[.string s] w (RRet w (readS s)) := by
  have hmf : ∀ (fn : Fn) (first cap : Array Value) (w : World), (Instr.makeFunc fn first cap).run Try.prog w = .ok (.func fn first cap) w := fun _ _ _ _ => rfl
  have HS := Lib.hid (scan_any s (by omega))
  have HE : scanM s = ([], (((cut s 0).2 : Nat) : Int), 160) := by unfold scanM; rw [if_pos hq]
  rw [HE] at HS
  have hpre := cut_pre s s.size 0 _ (by omega) (by omega) rfl
  have hpz : (s.extract 0 (cut s 0).2).size = (cut s 0).2 := by rw [ByteArray.size_extract]; omega
  have HS2 := Lib.hid (scan_any (s.extract 0 (cut s 0).2) (by omega))
  have HE2 : scanM (s.extract 0 (cut s 0).2) = ((cut s 0).1, 0, 0) := by unfold scanM; rw [hpre, if_neg (by simp only; omega)]
  rw [HE2] at HS2
  clear HE HE2 hpre hpz
  have hlen := (cut_len s s.size 0 (by omega) (by omega)).1
  have HR : Hid (readS s = ([], plc (cut s 0).1 ((cut s 0).2 : Nat) (parsed s).p, 172)) := by
    unfold Hid readS; rw [if_neg hs, if_neg (by omega)]
  have HP : Hid (∀ Br vl w, Rdr w Br vl (cut s 0).1 0 ((cut s 0).2 : Nat) → Calls Try.prog 47 #[.pointer (some ⟨Br, 0, none⟩)] w (PRet Br vl (cut s 0).1 ((cut s 0).2 : Nat) w (parsed s))) :=
    fun Br vl w h => reads_expr Br vl _ _ (by omega) _ 0 (by omega) w h (by omega)
  have hpb := (pExpr_b (cut s 0).1 ((cut s 0).1.length + 1) 0 (by omega)).le
  change (parsed s).p ≤ _ at hpb
  generalize parsed s = r at *
  obtain ⟨ok, f, p⟩ := r
  generalize (cut s 0).1 = L at *
  generalize (cut s 0).2 = bad at *
  go_enter_defers Try.func17, Try.ntmps17
  go_wp2_with fail
  obtain ⟨hB, hbox⟩ := read_base w s.size
  generalize hb1 : w.heap.size + 1 = b1 at *
  generalize hb2 : b1 + 1 = b2 at *
  generalize hb3 : b2 + 1 = b3 at *
  clear hb1 hb2 hb3
  generalize (((w.alloc (.cells #[.slice none 0 0] 22)).alloc (.cells #[.int .i64 0] 3)).alloc (.cells #[.int .i64 0] 23)).alloc (.cells #[.slice none 0 0, .int .i64 0, .int .i64 s.size] 74) = w4 at *
  have HB := Lib.hid hB
  have HBox := Lib.hid hbox
  have hb3 := hB.lt
  clear hB hbox
  refine (HS.out _).mono ?_
  rintro e w5 ⟨v1, rfl, ho1, hbl1⟩
  obtain ⟨_, ao1, cap1, rfl, -⟩ := Rd.of_owns ho1
  have HG5a := Lib.hid (grown_below hbl1)
  have HBox5a : Hid (w5.heap[b3]? = some (.cells #[.slice none 0 0, .int .i64 0, .int .i64 s.size] 74 (0, 0))) := (hbl1.block b3 hb3).trans HBox.out
  have c0 : w5.cell? ⟨b3, 2, none⟩ = some (.int .i64 s.size) := by have := HBox5a.out; simp [World.cell?, this]
  have c1 : w5.frozen? ⟨b3, 2, none⟩ = false := by have := HBox5a.out; simp [World.frozen?, this]
  clear ho1 hbl1
  go_wp2_with fail
  clear c0 c1
  have hb3a : b3 < w5.heap.size := by have := HG5a.out.size; omega
  have HBox5b : Hid ((w5.setCell ⟨b3, 2, none⟩ (.int .i64 bad)).heap[b3]? = some (.cells #[.slice none 0 0, .int .i64 0, .int .i64 bad] 74 (0, 0))) := by
    unfold Hid
    simp only [World.setCell]
    rw [Array.getElem?_modify, if_pos rfl, HBox5a.out]
    rfl
  have HG5b := Lib.hid (grown_then (grown_none (row := some b3) HG5a.out) (grown_set w5 b3 2 (.int .i64 bad)) (by simp))
  have hb3b : b3 < (w5.setCell ⟨b3, 2, none⟩ (.int .i64 bad)).heap.size := by simpa [World.setCell] using hb3a
  clear HBox5a HBox HG5a
  generalize w5.setCell ⟨b3, 2, none⟩ (.int .i64 bad) = w5b at *
  refine (HS2.out _).mono ?_
  rintro e w6 ⟨v1, rfl, ho1, hbl1⟩
  have HO1 : Hid (OwnMk w6 w4.heap.size v1 L) := own_lower ho1 HG5b.out.size
  have HG5 := Lib.hid (HG5b.out.trans (grown_none (grown_below hbl1)))
  have HBox5 : Hid (w6.heap[b3]? = some (.cells #[.slice none 0 0, .int .i64 0, .int .i64 bad] 74 (0, 0))) := (hbl1.block b3 hb3b).trans HBox5b.out
  have c0 : w6.cell? ⟨b3, 0, none⟩ = some (.slice none 0 0) := by have := HBox5.out; simp [World.cell?, this]
  have c1 : w6.frozen? ⟨b3, 0, none⟩ = false := by have := HBox5.out; simp [World.frozen?, this]
  obtain ⟨_, ao, cap, rfl, -⟩ := Rd.of_owns ho1
  clear ho1 hbl1 HBox5b HG5b hb3a hb3b
  generalize w6 = w5 at *
  go_wp2_with fail
  have HR6 := Lib.hid (rdr_laid HBox5.out HO1.out hb3)
  have HM6 := Lib.hid (own_grown HO1.out (grown_set w5 b3 0 (.slice ao L.length cap)) (fun j hj => by simp at hj; subst hj; exact .inl hb3))
  have HG6 := Lib.hid (grown_then HG5.out (grown_set w5 b3 0 (.slice ao L.length cap)) (by simp))
  clear c0 c1 HBox5 HO1 HG5
  generalize w5.setCell ⟨b3, 0, none⟩ (.slice ao L.length cap) = w6 at *
  refine (HP.out _ _ _ HR6.out).mono ?_
  have e1 := HB.out.e1
  have e2 := HB.out.e2
  have e3 := HB.out.e3
  have hw4 := HB.out.below.size
  have HE := Lib.hid (show w.heap.size < b1 ∧ b1 < b2 ∧ b2 < b3 from by omega)
  rintro e w7 ⟨hg7, hcase⟩
  have HG7 := Lib.hid (HG6.out.trans hg7)
  have HB7 : Hid (Below w.heap.size w w7) := HB.out.below.trans ⟨HG7.out.os, HG7.out.tape, HG7.out.output, HG7.out.size, fun k hk => HG7.out.block k (by omega) (by simp; omega)⟩
  have K2 : Hid (Boxed w7 w.heap.size 22 (.slice none 0 0)) := HB.out.k2.kept HG7.out (by simp; omega)
  have K3 : Hid (Boxed w7 b1 3 (.int .i64 0)) := HB.out.k3.kept HG7.out (by simp; omega)
  have K4 : Hid (Boxed w7 b2 23 (.int .i64 0)) := HB.out.k4.kept HG7.out (by simp; omega)
  have HM7 : Hid (OwnMk w7 w4.heap.size (.slice ao L.length cap) L) := own_grown HM6.out hg7 (fun j hj => by simp at hj; subst hj; exact .inl hb3)
  have HSz : Hid (w.heap.size ≤ w6.heap.size) := by have := HG6.out.size; unfold Hid; omega
  clear hg7 e1 e2 e3 hw4
  rcases hcase with ⟨hok, v, rfl, ho7, hr7⟩ | ⟨hok, rfl⟩
  · simp only at hok
    subst hok
    have HO7 : Hid (OwnNd w7 w.heap.size v f.flat) := own_lower ho7 HSz.out
    have HR7 := Lib.hid hr7
    have c2 := K2.out.cell
    have f2 := K2.out.frozen
    clear ho7 hr7
    obtain ⟨_, ao2, cp2, rfl, -⟩ := Rd.of_owns HO7.out
    have HG8 := Lib.hid (grown_set w7 w.heap.size 0 (.slice ao2 f.flat.length cp2))
    have K2' : Hid (Boxed (w7.setCell ⟨w.heap.size, 0, none⟩ (.slice ao2 f.flat.length cp2)) w.heap.size 22 (.slice ao2 f.flat.length cp2)) := K2.out.set _
    have hE := HE.out
    have hw4 := HB.out.below.size
    have HR8 : Hid (Rdr (w7.setCell ⟨w.heap.size, 0, none⟩ (.slice ao2 f.flat.length cp2)) b3 (.slice ao L.length cap) L p (bad : Nat)) := by
      refine ⟨(HG8.out.block b3 HR7.out.lt (by simp; omega)).trans HR7.out.box, ?_, HR7.out.apart⟩
      exact RdMk.of_own (own_grown (B := w4.heap.size) HM7.out HG8.out (fun j hj => by simp at hj; subst hj; left; have := HB.out.lt; omega))
    have HO8 : Hid (OwnNd (w7.setCell ⟨w.heap.size, 0, none⟩ (.slice ao2 f.flat.length cp2)) w.heap.size (.slice ao2 f.flat.length cp2) f.flat) := own_grown HO7.out HG8.out (fun j hj => by
      simp at hj; subst hj
      exact .inr (fun e => K2.out.not_row (by decide) HO7.out e.symm))
    clear hE hw4
    by_cases hlt : p < L.length
    · have hcv : decide ((p : Int) < L.length) = true := by simp; omega
      go_wp2_with fail
      generalize w7.setCell ⟨w.heap.size, 0, none⟩ (.slice ao2 f.flat.length cp2) = w8 at *
      obtain ⟨d0, d1, d2, d3⟩ := HR8.out.cells
      clear c2 f2
      go_quiet (fail)
      clear d0 d1 d2 d3
      have HG9 := Lib.hid (grown_drewN w8 nq none)
      generalize w8.drewN nq = w9 at *
      have HR9 := Lib.hid (HR8.out.kept HG9.out)
      go_wp2_with (go_at_call 48; refine (xFail_any b3 _ L p _ _ HR9.out hpb).mono ?_; rintro e w10 ⟨rfl, hg10⟩; have HG10 := Lib.hid hg10; clear hg10)
      rw [HR.out]
      have hE := HE.out
      have hg : w7.grownBy w10 (some w.heap.size) := grown_then HG8.out (grown_then HG9.out HG10.out (by simp)) (by simp)
      have hg8 : w8.grownBy w10 none := grown_then HG9.out HG10.out (by simp)
      exact door_panic (by simp) (by simp) (by simp) (K2'.out.kept hg8 (by simp)) (K3.out.kept hg (by simp; omega)) (K4.out.kept hg (by simp; omega)) (by omega) (by omega) (by omega) (HB7.out.grown hg HB7.out.size (by simp)) (Nat.le_refl _) (by omega) (by omega)
    · have hcv : decide ((p : Int) < L.length) = false := by simp; omega
      go_wp2_with fail
      generalize w7.setCell ⟨w.heap.size, 0, none⟩ (.slice ao2 f.flat.length cp2) = w8 at *
      obtain ⟨d0, d1, d2, d3⟩ := HR8.out.cells
      clear c2 f2
      go_quiet (fail)
      clear d0 d1 d2 d3
      have HG9 := Lib.hid (grown_drewN w8 nq none)
      generalize w8.drewN nq = w9 at *
      have HR9 := Lib.hid (HR8.out.kept HG9.out)
      go_wp2_with (go_at_call 48; refine (xFail_any b3 _ L p _ _ HR9.out hpb).mono ?_; rintro e w10 ⟨rfl, hg10⟩; have HG10 := Lib.hid hg10; clear hg10)
      rw [HR.out]
      have hE := HE.out
      have hg : w7.grownBy w10 (some w.heap.size) := grown_then HG8.out (grown_then HG9.out HG10.out (by simp)) (by simp)
      have hg8 : w8.grownBy w10 none := grown_then HG9.out HG10.out (by simp)
      exact door_panic (by simp) (by simp) (by simp) (K2'.out.kept hg8 (by simp)) (K3.out.kept hg (by simp; omega)) (K4.out.kept hg (by simp; omega)) (by omega) (by omega) (by omega) (HB7.out.grown hg HB7.out.size (by simp)) (Nat.le_refl _) (by omega) (by omega)
  · simp only at hok
    subst hok
    go_wp2_with fail
    rw [HR.out]
    have hE := HE.out
    exact door_panic (by simp) (by simp) (by simp) K2.out K3.out K4.out (by omega) (by omega) (by omega) HB7.out (Nat.le_refl _) (by omega) (by omega)
end Go.Proofs.Ytbpipnjdfmpbdaa
