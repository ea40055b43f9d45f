import Derived.Test.YtjnccfgnakggkaaMkBkR
import Derived.Test.YtjnccfgnakggkaaMkTx
namespace Go.Proofs.Ytjnccfgnakggkaa
open Go.RowKit

theorem orB {a b : Bool} (h : a = b) : Ending.returned (.bool a) = .returned (.bool b) := by rw [h]
theorem toList_emp (t : ByteArray) : (t.toList != t.toList) = false := by simp

theorem sep_cases (c : UInt8) : (bits BinOp.and IntKind.u8 (c.toNat : Int) 3 = 0 ∧ sepB c = 32) ∨ (bits BinOp.and IntKind.u8 (c.toNat : Int) 3 = 1 ∧ sepB c = 9) ∨ (bits BinOp.and IntKind.u8 (c.toNat : Int) 3 = 2 ∧ sepB c = 10) ∨ (bits BinOp.and IntKind.u8 (c.toNat : Int) 3 = 3 ∧ sepB c = 13) := by
  have key : ∀ n : Fin 256, (bits BinOp.and IntKind.u8 ((UInt8.ofNat n.val).toNat : Int) 3 = 0 ∧ sepB (UInt8.ofNat n.val) = 32) ∨ (bits BinOp.and IntKind.u8 ((UInt8.ofNat n.val).toNat : Int) 3 = 1 ∧ sepB (UInt8.ofNat n.val) = 9) ∨ (bits BinOp.and IntKind.u8 ((UInt8.ofNat n.val).toNat : Int) 3 = 2 ∧ sepB (UInt8.ofNat n.val) = 10) ∨ (bits BinOp.and IntKind.u8 ((UInt8.ofNat n.val).toNat : Int) 3 = 3 ∧ sepB (UInt8.ofNat n.val) = 13) := by decide +kernel
  have h := key ⟨c.toNat, c.toNat_lt⟩
  simpa using h

set_option maxRecDepth 100000 in
set_option maxHeartbeats 3200000 in
theorem marksBack_any (s : ByteArray) (hs : s.size ≤ 1048576) (vb : Value) (bs : List UInt8) (w : World) (hr : RdB w vb bs) (hbl : bs.length ≤ 1048576) :
    Calls Try.prog 6 #[.string s, vb] w fun e w' => e = .returned (.bool true) ∧ Below w.heap.size w w' := by
  have HS := Lib.hid (scan_any s (by omega))
  by_cases hc : (cut s 0).2 < s.size
  · have HE : scanM s = ([], (((cut s 0).2 : Nat) : Int), 160) := by unfold scanM; rw [if_pos hc]
    rw [HE] at HS
    clear HE
    go_enter Try.func6, Try.ntmps6
    go_wp2_with (first | (go_at_call 9; refine (HS.out _).mono ?_; rintro e w1 ⟨v, rfl, ho, hb1⟩; obtain ⟨_, ao, cap, rfl, _, -⟩ := Rd.of_owns ho) | (go_at_call 14; refine (awake_any _).mono ?_; rintro e w2 ⟨rfl, hb2⟩))
    go_ret
    exact ⟨rfl, below_then hb1 hb2⟩
  · have HE : scanM s = ((cut s 0).1, 0, 0) := by unfold scanM; rw [if_neg hc]
    obtain ⟨K, W, t, F⟩ := back_facts s bs hc
    rw [HE] at HS
    clear HE hc
    generalize (cut s 0).1 = L at *
    have f1 := F.len
    have f2 := F.tsize
    have f3 := F.wsize L.length
    rw [List.take_length] at f3
    have HF := Lib.hid F
    have HT1 : Hid (∀ w v, RdMi w v (L.map Mk.i) → Calls Try.prog 18 #[v] w fun e w' => e = .returned (.tuple #[.string t, .int .i64 0]) ∧ Below w.heap.size w w') := fun w v h => by
      have := text_any v _ w h (by have := F.tot1; omega)
      rw [F.one] at this; exact this
    have HT2 : Hid (∀ w v, RdMi w v (K.map Mk.i) → Calls Try.prog 18 #[v] w fun e w' => e = .returned (.tuple #[.string t, .int .i64 0]) ∧ Below w.heap.size w w') := fun w v h => by
      have := text_any v _ w h (by have := F.tot2; omega)
      rw [F.two] at this; exact this
    have HS1 : Hid (∀ w, Calls Try.prog 9 #[.string t] w fun e w' => ∃ v, e = .returned (.tuple #[v, .int .i64 0, .int .i64 0]) ∧ OwnMk w' w.heap.size v K ∧ Below w.heap.size w w') := fun w => by
      have := scan_any t (by omega) w
      rw [F.scan1] at this; exact this
    have HS2 : Hid (∀ w, Calls Try.prog 9 #[.string (wideB (exL bs) L)] w fun e w' => ∃ v, e = .returned (.tuple #[v, .int .i64 0, .int .i64 0]) ∧ OwnMk w' w.heap.size v W ∧ Below w.heap.size w w') := fun w => by
      have := scan_any (wideB (exL bs) L) (by omega) w
      rw [F.scan2] at this; exact this
    have hkl := F.klen
    have hwl := F.wlen
    have HKL := Lib.hid hkl
    have HWL := Lib.hid hwl
    have HRb := Lib.hid hr
    obtain ⟨_, bo, bc, rfl, -⟩ := hr
    clear F f3 hkl hwl
    go_enter Try.func6, Try.ntmps6
    go_wp2_with fail
    refine (HS.out _).mono ?_
    rintro e w1 ⟨v1, rfl, ho1, hb1⟩
    have HR1 := Lib.hid (RdMk.of_own ho1)
    obtain ⟨_, ao1, cap1, rfl, -⟩ := Rd.of_owns ho1
    clear ho1
    go_wp2_with fail
    refine (HT1.out _ _ (RdMk.toI HR1.out)).mono ?_
    rintro e w2 ⟨rfl, hb2⟩
    go_wp2_with fail
    refine (HS1.out _).mono ?_
    rintro e w3 ⟨v3, rfl, ho3, hb3⟩
    have HR3 := Lib.hid (RdMk.of_own ho3)
    obtain ⟨_, ao3, cap3, rfl, -⟩ := Rd.of_owns ho3
    have HA1 : Hid (RdMk w3 (.slice ao1 L.length cap1) L) := Rd.below HR1.out (below_then hb2 hb3)
    have HBl : Hid (Below w.heap.size w w3) := below_then (below_then hb1 hb2) hb3
    have hz : w.heap.size ≤ w3.heap.size := HBl.out.size
    have hlen : (K.length != L.length) = false := by rw [HKL.out]; simp
    have hlen' : ((K.length : Int) != L.length) = false := by rw [HKL.out]; simp
    clear ho3 hb1 hb2 hb3 HR1 HS HT1 HS1
    go_wp2
    go_loopw [12, 13] (fun wd i wr => ∃ j : Nat, j ≤ L.length ∧ i = .int .i64 j ∧ wd = .string (wideB (exL bs) (L.take j)) ∧ Below w3.heap.size w3 wr) (fun _ i _ => L.length - (intOf i).toNat)
    case atStart => exact ⟨0, by omega, rfl, rfl, Below.refl _ _⟩
    case round =>
      obtain ⟨j, hj, rfl, rfl, hbel⟩ := hrel
      by_cases hlt : j < L.length
      · obtain ⟨m, hm⟩ : ∃ m, L[j]? = some m := ⟨_, List.getElem?_eq_getElem hlt⟩
        obtain ⟨p, hp⟩ := HF.out.at1 j m hm
        obtain ⟨b1, o1, c1, e1, l1, k1, x0, x1, x2⟩ := HA1.out.at hm
        obtain ⟨b3, o3, c3, e3, l3, k3, y0, y1, y2⟩ := HR3.out.at hp
        simp only [Value.slice.injEq] at e1 e3
        obtain ⟨rfl, -, rfl⟩ := e1
        obtain ⟨rfl, -, rfl⟩ := e3
        have X0 := (hbel.cell (p := ⟨b1, _, none⟩) l1).trans x0
        have X2 := (hbel.cell (p := ⟨b1, _, none⟩) l1).trans x2
        have Y0 := (hbel.cell (p := ⟨b3, _, none⟩) l3).trans y0
        have Y2 := (hbel.cell (p := ⟨b3, _, none⟩) l3).trans y2
        have hltk : j < K.length := by rw [HKL.out]; exact hlt
        have hws := HF.out.wsize j
        have hws2 := HF.out.wsize (j + 1)
        have hst := Lib.hid (wideB_step (exL bs) L j m hm)
        have hstz : (wideB (exL bs) (L.take (j + 1))).size = (wideB (exL bs) (L.take j)).size + 1 + (⟨(exL bs).toArray⟩ : ByteArray).size + m.t.size := by
          rw [hst.out, ByteArray.size_append, ByteArray.size_append, ByteArray.size_append]; rfl
        have HWS := Lib.hid hws2
        have HM := Lib.hid hm
        have HSTZ := Lib.hid hstz
        clear x0 x1 x2 y0 y1 y2 hm hp hws2 hstz
        go_wp2
        go_quiet (fail)
        go_wp2
        have hbl0 : Below w3.heap.size w3 (wr.drewN nq) := below_drewN hbel nq
        generalize wr.drewN nq = wq at *
        have hpre : (wideB (exL bs) (L.take j) ++ (⟨#[32]⟩ : ByteArray)).size ≤ 7 * s.size + 1 := by rw [ByteArray.size_append]; exact Nat.add_le_add_right hws 1
        have HPre : Hid (wideB (exL bs) (L.take (j + 1)) = (wideB (exL bs) (L.take j) ++ (⟨#[32]⟩ : ByteArray)) ++ (⟨(exL bs).toArray⟩ : ByteArray) ++ m.t) := hst.out
        clear hst hbel X0 X2 Y0 Y2 hws
        generalize wideB (exL bs) (L.take j) ++ (⟨#[32]⟩ : ByteArray) = pre at *
        have L1 := Lib.hid l1
        have L3 := Lib.hid l3
        go_loopw [12, 14] (fun wd i wr => ∃ n : Nat, n ≤ bs.length ∧ n ≤ 5 ∧ i = .int .i64 n ∧ wd = .string (pre ++ exB bs n) ∧ Below w3.heap.size w3 wr) (fun _ i _ => 5 - (intOf i).toNat)
        case atStart => exact ⟨0, by omega, by omega, rfl, by rw [show exB bs 0 = ByteArray.empty from rfl, ByteArray.append_empty], hbl0⟩
        case round =>
          obtain ⟨n, hn1, hn5, rfl, rfl, hbel⟩ := hrel
          by_cases hgo : n < bs.length ∧ n < 5
          · obtain ⟨g1, g2⟩ := hgo
            obtain ⟨c, hcc⟩ : ∃ c, bs[n]? = some c := ⟨_, List.getElem?_eq_getElem g1⟩
            obtain ⟨b5, o5, c5, e5, l5, k5, z0⟩ := HRb.out.at hcc
            simp only [Value.slice.injEq] at e5
            obtain ⟨rfl, -, rfl⟩ := e5
            have Z0 := (hbel.cell (p := ⟨b5, _, none⟩) (Nat.lt_of_lt_of_le l5 hz)).trans ((HBl.out.cell (p := ⟨b5, _, none⟩) l5).trans z0)
            clear z0
            have hb5 : b5 < wr.heap.size := by have := hbel.size; omega
            have HX := Lib.hid (exB_step bs n c hcc g2)
            have hxz := exB_size bs n
            have hxz2 := exB_size bs (n + 1)
            have hxb : (pre ++ exB bs n).size ≤ 7 * s.size + 6 := by rw [ByteArray.size_append]; omega
            have HXB : Hid (pre ++ exB bs (n + 1) = (pre ++ exB bs n) ++ (⟨#[sepB c]⟩ : ByteArray)) := by unfold Hid; rw [HX.out, ByteArray.append_assoc]
            clear hcc HX
            generalize pre ++ exB bs n = cur at *
            have hcase := sep_cases c
            generalize hr : bits BinOp.and IntKind.u8 (c.toNat : Int) 3 = r at hcase
            rcases hcase with ⟨rfl, hsp⟩ | ⟨rfl, hsp⟩ | ⟨rfl, hsp⟩ | ⟨rfl, hsp⟩
            all_goals
              rw [hsp] at HXB
              clear hsp
              go_wp2
              go_roundw
              case rel => exact ⟨n + 1, by omega, by omega, by go_num, by rw [HXB.out], hbel.alloc hbel.size _⟩
              case measure => simp [intOf]; omega
          · have hex : Hid (exB bs n = (⟨(exL bs).toArray⟩ : ByteArray)) := exB_all bs n (by omega)
            obtain ⟨b1', o1', c1', e1', l1', k1', x0', x1', x2'⟩ := HA1.out.at (i := j) (m := m) HM.out
            simp only [Value.slice.injEq, Option.some.injEq, Addr.mk.injEq] at e1'
            obtain ⟨⟨rfl, rfl, -⟩, -, rfl⟩ := e1'
            have X2 := (hbel.cell (p := ⟨b1, _, none⟩) l1').trans x2'
            clear x0' x1' x2'
            have hgo' : ¬ n < bs.length ∨ (n < bs.length ∧ ¬ n < 5) := by omega
            have hfin : (pre ++ exB bs n ++ m.t).size ≤ 7 * s.size := by have := HWS.out; rw [HPre.out, ← hex.out] at this; exact this
            rw [ByteArray.size_append] at hfin
            have HFin : Hid (wideB (exL bs) (L.take (j + 1)) = pre ++ exB bs n ++ m.t) := by unfold Hid; rw [HPre.out, ← hex.out]
            generalize pre ++ exB bs n = cur at *
            rcases hgo' with g | ⟨g, g'⟩
            all_goals
              go_wp2
              go_roundw
              case rel => exact ⟨j + 1, by omega, by go_num, by rw [HFin.out], hbel⟩
              case measure => simp [intOf]; omega
      · obtain rfl : j = L.length := by omega
        rw [List.take_length]
        have hw2 := HF.out.wsize L.length
        rw [List.take_length] at hw2
        have HB0 := Lib.hid hbel
        go_wp2_with fail
        refine (HT2.out _ _ (RdMk.toI (Rd.below HR3.out HB0.out))).mono ?_
        rintro e w4 ⟨rfl, hb4⟩
        go_wp2_with fail
        refine (HS2.out _).mono ?_
        rintro e w5 ⟨v5, rfl, ho5, hb5⟩
        have HR5 := Lib.hid (RdMk.of_own ho5)
        obtain ⟨_, ao5, cap5, rfl, -⟩ := Rd.of_owns ho5
        have HB5 : Hid (Below w3.heap.size w3 w5) := below_then (below_then HB0.out hb4) hb5
        have HA5 : Hid (RdMk w5 (.slice ao1 L.length cap1) L) := Rd.below HA1.out HB5.out
        have hlw : (W.length != L.length) = false := by rw [HWL.out]; simp
        have hlw' : ((W.length : Int) != L.length) = false := by rw [HWL.out]; simp
        have htt := toList_emp t
        clear ho5 hb4 hb5 hbel HT2 HS2 HA1 HR3 HB0
        go_wp2
        clear htt hlw hlw' hlen hlen'
        go_loopw [18] (fun i wr => ∃ j : Nat, j ≤ L.length ∧ i = .int .i64 j ∧ Below w5.heap.size w5 wr) (fun i _ => L.length - (intOf i).toNat)
        case atStart => exact ⟨0, by omega, rfl, Below.refl _ _⟩
        case round =>
          obtain ⟨j, hj, rfl, hbel⟩ := hrel
          by_cases hlt : j < L.length
          · obtain ⟨m, hm⟩ : ∃ m, L[j]? = some m := ⟨_, List.getElem?_eq_getElem hlt⟩
            obtain ⟨p, hp⟩ := HF.out.at2 j m hm
            obtain ⟨b1, o1, c1, e1, l1, k1, x0, x1, x2⟩ := HA5.out.at hm
            obtain ⟨b3, o3, c3, e3, l3, k3, y0, y1, y2⟩ := HR5.out.at hp
            simp only [Value.slice.injEq] at e1 e3
            obtain ⟨rfl, -, rfl⟩ := e1
            obtain ⟨rfl, -, rfl⟩ := e3
            have X0 := (hbel.cell (p := ⟨b1, _, none⟩) l1).trans x0
            have X1 := (hbel.cell (p := ⟨b1, _, none⟩) l1).trans x1
            have X2 := (hbel.cell (p := ⟨b1, _, none⟩) l1).trans x2
            have Y0 := (hbel.cell (p := ⟨b3, _, none⟩) l3).trans y0
            have Y1 := (hbel.cell (p := ⟨b3, _, none⟩) l3).trans y1
            have Y2 := (hbel.cell (p := ⟨b3, _, none⟩) l3).trans y2
            have hltk : j < W.length := by rw [HWL.out]; exact hlt
            have hmp := HF.out.place j m hm
            have d1 : IntKind.i64.wrap ((m.p : Int) - s.size) = (m.p : Int) - s.size := IntWalk.i64_in _ ⟨by omega, by omega⟩
            have d2 : decide ((p : Int) < (m.p : Int) - s.size) = false := by simp; omega
            clear x0 x1 x2 y0 y1 y2 hm hp
            go_wp2
            go_quiet (fail)
            go_wp2
            clear d1 d2
            go_roundw
            case rel => exact ⟨j + 1, by omega, by go_num, below_drewN hbel _⟩
            case measure => simp [intOf]; omega
          · go_wp2_with (go_at_call 14; refine (awake_any _).mono ?_; rintro e w2 ⟨rfl, hb2⟩)
            go_ret
            exact ⟨rfl, HBl.out.trans (Below.mono (below_then HB5.out (below_then hbel hb2)) hz)⟩
end Go.Proofs.Ytjnccfgnakggkaa
