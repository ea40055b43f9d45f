import Derived.Test.YtbpipnjdfmpbdaaRrB
import Derived.Deep.RegionHeld3
import Derived.Deep.DeepCutAuto
import Derived.Test.YtbpipnjdfmpbdaaLibIn
namespace Go.Proofs.Ytbpipnjdfmpbdaa
open Go.RowKit Go.Shelf

theorem new_late {wr w2 : World} (hb : Below wr.drew.heap.size wr.drew w2) (c : Array Value) (t : TypeId) : (w2.alloc (.cells c t)).heap[w2.heap.size]? = some (.cells c t (0, 0)) ∧ wr.heap.size ≤ w2.heap.size ∧ wr.grownBy (w2.alloc (.cells c t)) none :=
  ⟨World.alloc_heap_new w2 _, hb.size, grown_then (grown_then (grown_drewN wr 1 none) (grown_below (a := wr.drew) hb) (by simp)) (World.grownBy_alloc _ _ none) (by simp)⟩
theorem new_early2 {wr w2 : World} {z0 z1 : Value} {t : TypeId} (hb : Below (wr.alloc (.cells #[z0, z1] t)).drew.heap.size (wr.alloc (.cells #[z0, z1] t)).drew w2) (v0 v1 : Value) :
    ((w2.setCell ⟨wr.heap.size, 0, none⟩ v0).setCell ⟨wr.heap.size, 1, none⟩ v1).heap[wr.heap.size]? = some (.cells #[v0, v1] t (0, 0)) ∧ wr.heap.size ≤ wr.heap.size ∧ wr.grownBy ((w2.setCell ⟨wr.heap.size, 0, none⟩ v0).setCell ⟨wr.heap.size, 1, none⟩ v1) none := by
  have h0 : (wr.alloc (.cells #[z0, z1] t)).drew.heap[wr.heap.size]? = some (.cells #[z0, z1] t (0, 0)) := World.alloc_heap_new wr _
  have h1 : w2.heap[wr.heap.size]? = some (.cells #[z0, z1] t (0, 0)) := (hb.block _ (Array.getElem?_eq_some_iff.1 h0).1).trans h0
  have g1 : wr.grownBy w2 none := grown_then (grown_then (World.grownBy_alloc wr _ none) (grown_drewN _ 1 none) (by simp)) (grown_below hb) (by simp)
  refine ⟨?_, Nat.le_refl _, grown_then (grown_then g1 (grown_set w2 wr.heap.size 0 v0) (by simp)) (grown_set _ wr.heap.size 1 v1) (by simp)⟩
  simp only [World.setCell]
  rw [Array.getElem?_modify, if_pos rfl, Array.getElem?_modify, if_pos rfl, h1]
  rfl
theorem cut_facts (s : ByteArray) : ∀ n k, k ≤ s.size → s.size - k ≤ n → ∀ m ∈ (cut s k).1, ∃ a, k ≤ a ∧ MFacts s a m := by
  intro n
  induction n with
  | zero =>
    intro k h hn m hm
    obtain rfl : k = s.size := by omega
    rw [cut_end] at hm; cases hm
  | succ n ih =>
    intro k h hn m hm
    by_cases hz : (nextM s k).k = 0
    · rw [cut_none s k h hz] at hm; cases hm
    · rw [cut_some s k h hz] at hm
      have M := mfacts s k hz
      have h1 := M.one
      have h2 := M.le
      have h3 := M.ge
      rcases List.mem_cons.1 hm with rfl | hm
      · exact ⟨k, Nat.le_refl _, M⟩
      · obtain ⟨a, ha, hx⟩ := ih ((nextM s k).p + (nextM s k).t.size) h2 (by omega) m hm
        exact ⟨a, by omega, hx⟩
theorem cut_kinds (s : ByteArray) (m : Mk) (hm : m ∈ (cut s 0).1) : 1 ≤ m.k ∧ m.k ≤ 12 := by
  obtain ⟨a, _, M⟩ := cut_facts s s.size 0 (by omega) (by omega) m hm
  exact ⟨M.lo, M.hi⟩
/-- marks as the reference's tokens, read -/
def RdTk (w : World) (v : Value) (l : List Mk) : Prop := Rd w v l.length 3 (flatTk l)
theorem flatTk_at (l : List Mk) (i : Nat) (m : Mk) (h : l[i]? = some m) : (flatTk l)[3 * i]? = some (.int .u8 (tkB m.k)) ∧ (flatTk l)[3 * i + 1]? = some (.int .i64 m.p) ∧ (flatTk l)[3 * i + 2]? = some (.string m.t) := by
  induction l generalizing i with
  | nil => simp at h
  | cons x r ih =>
    have e : flatTk (x :: r) = .int .u8 (tkB x.k) :: .int .i64 x.p :: .string x.t :: flatTk r := rfl
    cases i with
    | zero => simp at h; subst h; rw [e]; simp
    | succ i =>
      have h2 := ih i (by simpa using h)
      rw [e, show 3 * (i + 1) = 3 * i + 1 + 1 + 1 from by omega]
      simpa using h2
theorem RdTk.at {w : World} {v : Value} {l : List Mk} (h : RdTk w v l) {i : Nat} {m : Mk} (hm : l[i]? = some m) :
    ∃ b off cap, v = .slice (some ⟨b, off, none⟩) l.length cap ∧ b < w.heap.size ∧ l.length ≤ cap ∧
      w.cell? ⟨b, off + i * 3, none⟩ = some (.int .u8 (tkB m.k)) ∧ w.cell? ⟨b, off + i * 3 + 1, none⟩ = some (.int .i64 m.p) ∧ w.cell? ⟨b, off + i * 3 + 2, none⟩ = some (.string m.t) := by
  have hi : i < l.length := (List.getElem?_eq_some_iff.1 hm).1
  obtain ⟨b, off, cap, h1, h2, h3, h4⟩ := Rd.at h hi
  obtain ⟨q0, q1, q2⟩ := flatTk_at l i m hm
  rw [show 3 * i = i * 3 from by omega] at q0 q1 q2
  exact ⟨b, off, cap, h1, h2, h3, h4 _ _ q0, h4 _ _ q1, h4 _ _ q2⟩

def plcR (L : List Mk) (en : Int) (p : Nat) : Int := match L[p]? with | some m => (m.p : Int) | none => en
def placeF (L : List Mk) (en : Int) (bad : Bool) : Nat → Nat → Int → Bool → Int
  | 0, _, o, w => if bad = true ∨ w = true ∨ 0 < o then en else -1
  | m + 1, p, o, w => if (nextS o w (kd L p)).2.2 = true then placeF L en bad m (p + 1) (nextS o w (kd L p)).1 (nextS o w (kd L p)).2.1 else plcR L en p
theorem nextS_lo {o : Int} {w : Bool} {k : Int} (ho : 0 ≤ o) (h : (nextS o w k).2.2 = true) : 0 ≤ (nextS o w k).1 ∧ (nextS o w k).1 ≤ o + 1 := by
  unfold nextS at h ⊢
  split
  · split <;> simp only <;> omega
  · split
    · simp only; omega
    · split
      · simp only; omega
      · split
        · rename_i h1 h2 h3 h4
          rw [if_neg h1, if_neg h2, if_neg h3, if_pos h4] at h
          simp at h
          simp only; omega
        · simp only; omega

set_option maxRecDepth 100000 in
set_option maxHeartbeats 3200000 in
theorem rPlace_any (s : ByteArray) (w : World) (hs : s.size ≤ 16777216) :
    Calls Try.prog 49 #[.string s] w fun e w' => e = .returned (.int .i64 (placeF (cut s 0).1 ((cut s 0).2 : Nat) (decide ((cut s 0).2 < s.size)) (cut s 0).1.length 0 0 true)) ∧ Below w.heap.size w w' := by
  have HT := Lib.hid (rToks_any s w hs)
  have HKs := Lib.hid (cut_kinds s)
  have hlen := cut_len s s.size 0 (by omega) (by omega)
  have hbad : Hid (badI s = if (cut s 0).2 < s.size then (((cut s 0).2 : Nat) : Int) else -1) := rfl
  generalize (cut s 0).1 = L at *
  generalize (cut s 0).2 = q at *
  generalize badI s = bd at *
  obtain ⟨tg, htg⟩ : ∃ tg, tg = placeF L q (decide (q < s.size)) L.length 0 0 true := ⟨_, rfl⟩
  rw [← htg]
  have HTg := Lib.hid htg
  clear htg
  go_enter Try.func49, Try.ntmps49
  go_wp2_with fail
  refine (HT.out).mono ?_
  rintro e w1 ⟨v, rfl, ho, hb1⟩
  have HR := Lib.hid (show RdTk w1 v L from Rd.of_owns ho)
  obtain ⟨_, ao, cap, rfl, -⟩ := Rd.of_owns ho
  clear ho
  go_wp2_with fail
  have hb2 : Below w.heap.size w (w1.alloc (.cells #[.int .i64 0, .bool true] 104)) := hb1.alloc hb1.size _
  have hbx : (w1.alloc (.cells #[.int .i64 0, .bool true] 104)).heap[w1.heap.size]? = some (.cells #[.int .i64 0, .bool true] 104 (0, 0)) := World.alloc_heap_new w1 _
  have HB2 := Lib.hid hb2
  have HBx := Lib.hid hbx
  have hw1 := hb1.size
  go_loopw [6] (fun i wr => ∃ (j : Nat) (o : Int) (b : Bool), j ≤ L.length ∧ i = .int .i64 j ∧ 0 ≤ o ∧ o ≤ j ∧ Hid (wr.heap[w1.heap.size]? = some (.cells #[.int .i64 o, .bool b] 104 (0, 0))) ∧ Hid (Below w.heap.size w wr) ∧ Hid (w1.grownBy wr none) ∧
    Hid (tg = placeF L q (decide (q < s.size)) (L.length - j) j o b)) (fun i _ => L.length - (intOf i).toNat)
  case atStart => exact ⟨0, 0, true, by omega, rfl, by omega, by omega, HBx.out, HB2.out, World.grownBy_alloc _ _ _, HTg.out⟩
  case round =>
    obtain ⟨j, o, b, hj, rfl, ho, ho2, HBox, HBel, HG, HE⟩ := hrel
    by_cases hlt : j < L.length
    · obtain ⟨m, hm⟩ : ∃ m, L[j]? = some m := ⟨_, List.getElem?_eq_getElem hlt⟩
      obtain ⟨b1, o1, c1, e1, l1, k1, x0, x1, x2⟩ := HR.out.at hm
      simp only [Value.slice.injEq] at e1
      obtain ⟨rfl, -, rfl⟩ := e1
      have X0 := (HG.out.cell x0 (by simp))
      have X1 := (HG.out.cell x1 (by simp))
      have hk := HKs.out m (List.mem_of_getElem? hm)
      have HN := Lib.hid (fun w => rNext_any o b m.k w hk.1 hk.2 ho (by omega))
      have c0 : wr.cell? ⟨w1.heap.size, 0, none⟩ = some (.int .i64 o) := by have := HBox.out; simp [World.cell?, this]
      have c1' : wr.cell? ⟨w1.heap.size, 1, none⟩ = some (.bool b) := by have := HBox.out; simp [World.cell?, this]
      clear x0 x1 x2
      have hwlt : w1.heap.size < wr.heap.size := (Array.getElem?_eq_some_iff.1 HBox.out).1
      have hblt : b1 < wr.heap.size := World.block_lt_of_cell? wr _ X0
      go_upto_region 6 with (fail)
      go_cut [7, 8] (fun p q wx => ∃ N : Nat, p = .pointer (some ⟨N, 0, none⟩) ∧ q = .bool (nextS o b m.k).2.2 ∧ Hid (wx.heap[N]? = some (.cells #[.int .i64 (nextS o b m.k).1, .bool (nextS o b m.k).2.1] 104 (0, 0)) ∧ wr.heap.size ≤ N ∧ wr.grownBy wx none))
      case first =>
        go_region_held3 (fun w' => w'.cell? ⟨w1.heap.size, 0, none⟩ = some (.int .i64 o) ∧ w'.cell? ⟨w1.heap.size, 1, none⟩ = some (.bool b) ∧ w'.cell? ⟨b1, o1 + j * 3, none⟩ = some (.int .u8 (tkB m.k)))
          (first | go_keep | (refine ⟨?_, ?_, ?_⟩ <;> first | assumption | (rw [World.cell?_of_block (a := ⟨_, _, none⟩) (Below.heap_setCell _ _ _ _ (by simp; omega)), World.cell?_of_block (a := ⟨_, _, none⟩) (Below.heap_setCell _ _ _ _ (by simp; omega))]; assumption)))
          ((go_at_call 78; refine (HN.out _).mono ?_; rintro e w2 ⟨rfl, hb2⟩; have hz2 : wr.heap.size ≤ w2.heap.size := Nat.le_trans (by simp) hb2.size
            have k0 : w2.cell? ⟨w1.heap.size, 0, none⟩ = some (.int .i64 o) := (by rw [hb2.cell (p := ⟨w1.heap.size, 0, none⟩) (Nat.lt_of_lt_of_le hwlt (by simp))]; exact And.left (by assumption))
            have k1 : w2.cell? ⟨w1.heap.size, 1, none⟩ = some (.bool b) := (by rw [hb2.cell (p := ⟨w1.heap.size, 1, none⟩) (Nat.lt_of_lt_of_le hwlt (by simp))]; exact And.left (And.right (by assumption)))
            have k2 : w2.cell? ⟨b1, o1 + j * 3, none⟩ = some (.int .u8 (tkB m.k)) := (by rw [hb2.cell (p := ⟨b1, o1 + j * 3, none⟩) (Nat.lt_of_lt_of_le hblt (by simp))]; exact And.right (And.right (by assumption)))
            obtain ⟨hc2, hf2⟩ := bcell hb2))
        all_goals go_wp2_with fail
        all_goals go_meet
        all_goals clear hc2 hf2
        · exact ⟨_, rfl, rfl, new_late hb2 _ _⟩
        · exact ⟨_, rfl, rfl, new_early2 hb2 _ _⟩
      case rest =>
        obtain ⟨N, rfl, rfl, HN2⟩ := hcut
        obtain ⟨hN1, hN2, hN3⟩ := HN2.out
        have HBox' : Hid (wc.heap[w1.heap.size]? = some (.cells #[.int .i64 o, .bool b] 104 (0, 0))) := (hN3.block _ hwlt (by simp)).trans HBox.out
        have X1' := (hN3.cell X1 (by simp))
        have HBel' : Hid (Below w.heap.size w wc) := HBel.out.grown hN3 HBel.out.size (by simp)
        have HG' : Hid (w1.grownBy wc none) := HG.out.trans hN3
        have d0 : wc.cell? ⟨N, 0, none⟩ = some (.int .i64 (nextS o b m.k).1) := by simp [World.cell?, hN1]
        have d1 : wc.cell? ⟨N, 1, none⟩ = some (.bool (nextS o b m.k).2.1) := by simp [World.cell?, hN1]
        have e0 : wc.cell? ⟨w1.heap.size, 0, none⟩ = some (.int .i64 o) := by have := HBox'.out; simp [World.cell?, this]
        have e1 : wc.cell? ⟨w1.heap.size, 1, none⟩ = some (.bool b) := by have := HBox'.out; simp [World.cell?, this]
        have f0 : wc.frozen? ⟨w1.heap.size, 0, none⟩ = false := by have := HBox'.out; simp [World.frozen?, this]
        have f1 : wc.frozen? ⟨w1.heap.size, 1, none⟩ = false := by have := HBox'.out; simp [World.frozen?, this]
        have hwx : w1.heap.size < wc.heap.size := (Array.getElem?_eq_some_iff.1 HBox'.out).1
        have HKd : Hid (kd L j = m.k) := kd_some hm
        have HPl : Hid (plcR L q j = m.p) := by unfold Hid plcR; rw [hm]
        have hns := nextS_lo (o := o) (w := b) (k := m.k) ho
        have HLo := Lib.hid hns
        have HJ : Hid (placeF L q (decide (q < s.size)) (L.length - j) j o b = if (nextS o b m.k).2.2 = true then placeF L q (decide (q < s.size)) (L.length - (j + 1)) (j + 1) (nextS o b m.k).1 (nextS o b m.k).2.1 else m.p) := by
          unfold Hid
          rw [show L.length - j = (L.length - (j + 1)) + 1 from by omega]
          conv => lhs; unfold placeF
          rw [HKd.out, HPl.out]
        clear hN1 hN3 hm hns X0 c0 c1' HN
        generalize (nextS o b m.k).1 = o2 at *
        generalize (nextS o b m.k).2.1 = b2 at *
        generalize (nextS o b m.k).2.2 = ok at *
        cases ok with
        | true =>
          have hl := HLo.out rfl
          clear HLo
          go_wp2_with fail
          have hb3 : Below w.heap.size w ((wc.setCell ⟨w1.heap.size, 0, none⟩ (.int .i64 o2)).setCell ⟨w1.heap.size, 1, none⟩ (.bool b2)) :=
            (HBel'.out.setCell (p := ⟨w1.heap.size, 0, none⟩) hw1 _).setCell (p := ⟨w1.heap.size, 1, none⟩) hw1 _
          have hbx3 : ((wc.setCell ⟨w1.heap.size, 0, none⟩ (.int .i64 o2)).setCell ⟨w1.heap.size, 1, none⟩ (.bool b2)).heap[w1.heap.size]? = some (.cells #[.int .i64 o2, .bool b2] 104 (0, 0)) := by
            simp only [World.setCell]
            rw [Array.getElem?_modify, if_pos rfl, Array.getElem?_modify, if_pos rfl, HBox'.out]
            rfl
          have hg3 : w1.grownBy ((wc.setCell ⟨w1.heap.size, 0, none⟩ (.int .i64 o2)).setCell ⟨w1.heap.size, 1, none⟩ (.bool b2)) none :=
            grown_then (grown_then HG'.out (grown_set wc w1.heap.size 0 _) (by simp)) (grown_set _ w1.heap.size 1 _) (by simp)
          go_roundw
          case rel => exact ⟨j + 1, o2, b2, by omega, by go_num, hl.1, by omega, hbx3, hb3, hg3, by unfold Hid; rw [HE.out, HJ.out]; simp⟩
          case measure => simp [intOf]; omega
        | false =>
          clear HLo
          go_wp2_with fail
          go_ret
          exact ⟨congrArg (fun x : Int => Ending.returned (.int .i64 x)) (by rw [HE.out, HJ.out]; simp), HBel'.out⟩
    · obtain rfl : j = L.length := by omega
      have HJ : Hid (tg = if decide (q < s.size) = true ∨ b = true ∨ 0 < o then (q : Int) else -1) := by
        unfold Hid; rw [HE.out, Nat.sub_self]; rfl
      have c0 : wr.cell? ⟨w1.heap.size, 0, none⟩ = some (.int .i64 o) := by have := HBox.out; simp [World.cell?, this]
      have c1' : wr.cell? ⟨w1.heap.size, 1, none⟩ = some (.bool b) := by have := HBox.out; simp [World.cell?, this]
      by_cases hq : q < s.size
      · obtain rfl : bd = (q : Int) := by rw [hbad.out, if_pos hq]
        have HJ2 : Hid (tg = q) := by unfold Hid; rw [HJ.out, if_pos (.inl (by simpa using hq))]
        go_wp2
        go_ret
        exact ⟨congrArg (fun x : Int => Ending.returned (.int .i64 x)) HJ2.out.symm, HBel.out⟩
      · obtain rfl : bd = -1 := by rw [hbad.out, if_neg hq]
        have hqs : q = s.size := by omega
        have HJ2 : Hid (tg = if b = true ∨ 0 < o then (s.size : Int) else -1) := by
          unfold Hid; rw [HJ.out, hqs]; simp
        clear hqs HJ
        cases b with
        | true =>
          go_wp2
          go_ret
          exact ⟨congrArg (fun x : Int => Ending.returned (.int .i64 x)) (by rw [HJ2.out]; simp), HBel.out⟩
        | false =>
          by_cases h0 : 0 < o
          · go_wp2
            go_ret
            exact ⟨congrArg (fun x : Int => Ending.returned (.int .i64 x)) (by rw [HJ2.out]; simp [h0]), HBel.out⟩
          · go_wp2
            go_ret
            exact ⟨congrArg (fun x : Int => Ending.returned (.int .i64 x)) (by rw [HJ2.out]; simp [h0]), HBel.out⟩
end Go.Proofs.Ytbpipnjdfmpbdaa
