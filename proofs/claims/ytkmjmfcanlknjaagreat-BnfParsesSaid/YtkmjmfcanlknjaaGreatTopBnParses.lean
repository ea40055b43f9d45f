/- PROVED: BnfParses returns true whatever its arguments; each argument reads behind the call as it read before. No condition. -/
import Derived.Test.YtkmjmfcanlknjaaGreatPk6
import Derived.Test.YtkmjmfcanlknjaaGreatRows
import Derived.ProofKit
import Derived.OpenShut
import Derived.ShutString
import Derived.JoinedCond
namespace Go.Proofs.YtkmjmfcanlknjaaGreat
open Go.RowKit Go.Shelf

theorem tkB_is {k : Int} (h1 : 1 ≤ k) (h2 : k ≤ 12) : (tkB k == 85) = (k == 1) ∧ (tkB k == 61) = (k == 4) ∧ (tkB k == 59) = (k == 5) := by
  obtain rfl | rfl | rfl | rfl | rfl | rfl | rfl | rfl | rfl | rfl | rfl | rfl : k = 1 ∨ k = 2 ∨ k = 3 ∨ k = 4 ∨ k = 5 ∨ k = 6 ∨ k = 7 ∨ k = 8 ∨ k = 9 ∨ k = 10 ∨ k = 11 ∨ k = 12 := by omega
  all_goals decide
/-- a walk's cells -/
def wkC (g : GW) : Array Value := #[.int .i64 g.pt, .int .i64 g.o, .bool g.w, .bool g.s]
theorem alloc2_new (w : World) (o : Obj) (c : Array Value) (t : TypeId) : ((w.alloc o).alloc (.cells c t)).heap[w.heap.size + 1]? = some (.cells c t (0, 0)) := by
  have h := World.alloc_heap_new (w.alloc o) (.cells c t)
  have e : (w.alloc o).heap.size = w.heap.size + 1 := by simp
  rw [e] at h; exact h
theorem setb {w : World} {N : Nat} {cs : Array Value} {t : TypeId} {fz : Nat × Nat} (h : w.heap[N]? = some (.cells cs t fz)) (k : Nat) (v : Value) : (w.setCell ⟨N, k, none⟩ v).heap[N]? = some (.cells (cs.setIfInBounds k v) t fz) := by
  simp only [World.setCell]; rw [Array.getElem?_modify, if_pos rfl, h]; rfl
theorem setc {w : World} {N : Nat} {cs : Array Value} {t : TypeId} {fz : Nat × Nat} (h : w.heap[N]? = some (.cells cs t fz)) {k : Nat} (hk : k < cs.size) (v : Value) : (w.setCell ⟨N, k, none⟩ v).cell? ⟨N, k, none⟩ = some v := by
  have := setb h k v
  simp [World.cell?, this, hk]
set_option maxRecDepth 100000 in
set_option maxHeartbeats 6400000 in
theorem rNextG_any (g : GW) (k : Int) (w : World) (h1 : 1 ≤ k) (h2 : k ≤ 12) (hp : g.pt = 0 ∨ g.pt = 1 ∨ g.pt = 2) (ho : 0 ≤ g.o) (ho2 : g.o ≤ 4294967296) :
    Calls Tryz.prog 82 #[.agg (wkC g), .int .u8 (tkB k)] w fun e w' => e = .returned (.tuple #[.agg (wkC (nextG g k).1), .bool (nextG g k).2]) ∧ Below w.heap.size w w' := by
  obtain ⟨e85, e61, e59⟩ := tkB_is h1 h2
  obtain ⟨pt, o, wn, sm⟩ := g
  simp only at hp ho ho2
  have HN := Lib.hid (fun w => rNext_any o wn k w h1 h2 ho ho2)
  generalize tkB k = tk at *
  simp only [wkC]
  rcases hp with rfl | rfl | rfl
  · have hN : nextG ⟨0, o, wn, sm⟩ k = (⟨1, 0, false, false⟩, k == 1) := by unfold nextG; rw [if_pos rfl]
    rw [hN, ← e85]
    clear hN e85 e61 e59
    go_enter Tryz.func82, Tryz.ntmps82
    go_wp2_with fail
    exact bodyPost_ret (v := .tuple #[.agg #[.int .i64 1, .int .i64 0, .bool false, .bool false], .bool (tk == 85)]) (by simp [results, Tryz.f82, go_sem]) rfl ⟨rfl, below2 _ _ _⟩
  · have hN : nextG ⟨1, o, wn, sm⟩ k = (⟨2, 0, true, false⟩, k == 4) := by unfold nextG; rw [if_neg (by simp), if_pos rfl]
    rw [hN, ← e61]
    clear hN e85 e61 e59
    go_enter Tryz.func82, Tryz.ntmps82
    go_wp2_with fail
    exact bodyPost_ret (v := .tuple #[.agg #[.int .i64 2, .int .i64 0, .bool true, .bool false], .bool (tk == 61)]) (by simp [results, Tryz.f82, go_sem]) rfl ⟨rfl, below2 _ _ _⟩
  · by_cases h5 : k = 5 ∧ wn = false ∧ o = 0
    · obtain ⟨rfl, rfl, rfl⟩ := h5
      have hN : nextG ⟨2, 0, false, sm⟩ 5 = (⟨0, 0, false, true⟩, true) := by unfold nextG; rw [if_neg (by simp), if_neg (by simp)]; rfl
      rw [hN]
      have e9 : (tk == 59) = true := by rw [e59]; rfl
      clear hN e85 e61 e59
      go_enter Tryz.func82, Tryz.ntmps82
      go_wp2_with fail
      exact bodyPost_ret (v := .tuple #[.agg #[.int .i64 0, .int .i64 0, .bool false, .bool true], .bool true]) (by simp [results, Tryz.f82, go_sem]) rfl ⟨rfl, below2 _ _ _⟩
    · have hN : nextG ⟨2, o, wn, sm⟩ k = (⟨2, (nextS o wn k).1, (nextS o wn k).2.1, false⟩, (nextS o wn k).2.2) := by
        unfold nextG; rw [if_neg (by simp), if_neg (by simp)]; exact if_neg h5
      rw [hN]
      have hg : (tk == 59) = false ∨ ((tk == 59) = true ∧ wn = true) ∨ ((tk == 59) = true ∧ wn = false ∧ (o == 0) = false) := by
        rw [e59]
        by_cases hk : k = 5
        · cases wn with
          | true => exact .inr (.inl ⟨by simp [hk], rfl⟩)
          | false => exact .inr (.inr ⟨by simp [hk], rfl, by simp only [beq_eq_false_iff_ne, ne_eq]; exact fun h => h5 ⟨hk, rfl, h⟩⟩)
        · exact .inl (by simpa using hk)
      clear hN e85 e61 e59 h5
      have HB0 : Hid (Below w.heap.size w ((w.alloc (.cells #[.int .i64 2, .int .i64 o, .bool wn, .bool sm] 108)).alloc (.cells #[.int .i64 0, .int .i64 0, .bool false, .bool false] 108))) := below2 w _ _
      generalize nextS o wn k = R at *
      obtain ⟨ro, rw_, rk⟩ := R
      simp only at HN ⊢
      rcases hg with e9 | ⟨e9, rfl⟩ | ⟨e9, rfl, e0⟩
      all_goals
        go_enter Tryz.func82, Tryz.ntmps82
        go_wp2_with fail
        refine (HN.out _).mono ?_
        rintro e w1 ⟨rfl, hb1⟩
        obtain ⟨hc, hf⟩ := bcell hb1
        have hz : w.heap.size + 1 < w1.heap.size := by have := hb1.size; simp at this; omega
        have HB1 := Lib.hid (HB0.out.trans (hb1.mono HB0.out.size))
        have HBk : Hid (w1.heap[w.heap.size + 1]? = some (.cells #[.int .i64 0, .int .i64 0, .bool false, .bool false] 108 (0, 0))) :=
          (hb1.block (w.heap.size + 1) (by simp)).trans (alloc2_new _ _ _ _)
        clear hb1
        go_wp2_with fail
        have k0 := setc HBk.out (k := 0) (by decide) (.int .i64 2)
        have B1 := setb HBk.out 0 (.int .i64 2)
        have k1 := setc B1 (k := 1) (by simp) (.int .i64 ro)
        have B2 := setb B1 1 (.int .i64 ro)
        have k2 := setc B2 (k := 2) (by simp) (.bool rw_)
        have B3 := setb B2 2 (.bool rw_)
        have k3 := setc B3 (k := 3) (by simp) (.bool false)
        clear B1 B2 B3
        refine bodyPost_ret (v := .tuple #[.agg #[.int .i64 2, .int .i64 ro, .bool rw_, .bool false], .bool rk]) (by simp [results, Tryz.f82, go_sem, hz, k0, k1, k2, k3]) rfl ⟨rfl, ?_⟩
        exact ((((HB1.out.setCell (p := ⟨w.heap.size + 1, 0, none⟩) (Nat.le_succ w.heap.size) _).setCell (p := ⟨w.heap.size + 1, 1, none⟩) (Nat.le_succ w.heap.size) _).setCell (p := ⟨w.heap.size + 1, 2, none⟩) (Nat.le_succ w.heap.size) _).setCell (p := ⟨w.heap.size + 1, 3, none⟩) (Nat.le_succ w.heap.size) _).alloc (by have := HB1.out.size; simpa using this) _
end Go.Proofs.YtkmjmfcanlknjaaGreat
namespace Go.Proofs.YtkmjmfcanlknjaaGreat
open Go.RowKit Go.Shelf

theorem new_early4 {wr w2 : World} {z0 z1 z2 z3 : Value} {t : TypeId} (hb : Below (wr.alloc (.cells #[z0, z1, z2, z3] t)).drew.heap.size (wr.alloc (.cells #[z0, z1, z2, z3] t)).drew w2) (v0 v1 v2 v3 : Value) :
    (((((w2.setCell ⟨wr.heap.size, 0, none⟩ (v0)).setCell ⟨wr.heap.size, 1, none⟩ (v1)).setCell ⟨wr.heap.size, 2, none⟩ (v2)).setCell ⟨wr.heap.size, 3, none⟩ (v3))).heap[wr.heap.size]? = some (.cells #[v0, v1, v2, v3] t (0, 0)) ∧ wr.heap.size ≤ wr.heap.size ∧ wr.grownBy (((((w2.setCell ⟨wr.heap.size, 0, none⟩ (v0)).setCell ⟨wr.heap.size, 1, none⟩ (v1)).setCell ⟨wr.heap.size, 2, none⟩ (v2)).setCell ⟨wr.heap.size, 3, none⟩ (v3))) none := by
  have h0 : (wr.alloc (.cells #[z0, z1, z2, z3] t)).drew.heap[wr.heap.size]? = some (.cells #[z0, z1, z2, z3] t (0, 0)) := World.alloc_heap_new wr _
  have h1 : w2.heap[wr.heap.size]? = some (.cells #[z0, z1, z2, z3] t (0, 0)) := (hb.block _ (Array.getElem?_eq_some_iff.1 h0).1).trans h0
  have g1 : wr.grownBy w2 none := grown_then (grown_then (World.grownBy_alloc wr _ none) (grown_drewN _ 1 none) (by simp)) (grown_below hb) (by simp)
  exact ⟨setb (setb (setb (setb h1 0 v0) 1 v1) 2 v2) 3 v3, Nat.le_refl _, grown_then (grown_then (grown_then (grown_then g1 (grown_set w2 wr.heap.size 0 v0) (by simp)) (grown_set _ wr.heap.size 1 v1) (by simp)) (grown_set _ wr.heap.size 2 v2) (by simp)) (grown_set _ wr.heap.size 3 v3) (by simp)⟩
theorem nextG_lo {g : GW} {k : Int} (ho : 0 ≤ g.o) (h : (nextG g k).2 = true) : 0 ≤ (nextG g k).1.o ∧ (nextG g k).1.o ≤ g.o + 1 ∧ ((nextG g k).1.pt = 0 ∨ (nextG g k).1.pt = 1 ∨ (nextG g k).1.pt = 2) := by
  unfold nextG at h ⊢
  split
  · exact ⟨Int.le_refl _, by simp only; omega, .inr (.inl rfl)⟩
  · split
    · exact ⟨Int.le_refl _, by simp only; omega, .inr (.inr rfl)⟩
    · split
      · exact ⟨Int.le_refl _, by simp only; omega, .inl rfl⟩
      · rename_i h1 h2 h3
        rw [if_neg h1, if_neg h2, if_neg h3] at h
        have := nextS_lo ho h
        exact ⟨this.1, this.2, .inr (.inr rfl)⟩
set_option maxRecDepth 100000 in
set_option maxHeartbeats 6400000 in
theorem rPlaceG_any (s : ByteArray) (w : World) (hs : s.size ≤ 16777216) :
    Calls Tryz.prog 40 #[.string s] w fun e w' => e = .returned (.int .i64 (gF (cut s 0).1 ((cut s 0).2 : Nat) (decide ((cut s 0).2 < s.size)) (cut s 0).1.length 0 ⟨0, 0, false, false⟩)) ∧ Below w.heap.size w w' := by
  have HT := Lib.hid (rToks_any s w hs)
  have HKs := Lib.hid (cut_kinds s)
  have hlen := cut_len s s.size 0 (by omega) (by omega)
  have hbad : Hid (badI s = if (cut s 0).2 < s.size then (((cut s 0).2 : Nat) : Int) else -1) := rfl
  generalize (cut s 0).1 = L at *
  generalize (cut s 0).2 = q at *
  generalize badI s = bd at *
  obtain ⟨tg, htg⟩ : ∃ tg, tg = gF L q (decide (q < s.size)) L.length 0 ⟨0, 0, false, false⟩ := ⟨_, rfl⟩
  rw [← htg]
  have HTg := Lib.hid htg
  clear htg
  go_enter Tryz.func40, Tryz.ntmps40
  go_wp2_with fail
  refine (HT.out).mono ?_
  rintro e w1 ⟨v, rfl, ho, hb1⟩
  have HR := Lib.hid (show RdTk w1 v L from Rd.of_owns ho)
  obtain ⟨_, ao, cap, rfl, -⟩ := Rd.of_owns ho
  clear ho
  go_wp2_with fail
  have hb2 : Below w.heap.size w (w1.alloc (.cells #[.int .i64 0, .int .i64 0, .bool false, .bool false] 108)) := hb1.alloc hb1.size _
  have hbx : (w1.alloc (.cells #[.int .i64 0, .int .i64 0, .bool false, .bool false] 108)).heap[w1.heap.size]? = some (.cells #[.int .i64 0, .int .i64 0, .bool false, .bool false] 108 (0, 0)) := World.alloc_heap_new w1 _
  have HB2 := Lib.hid hb2
  have HBx := Lib.hid hbx
  have hw1 := hb1.size
  go_loopw [6] (fun i wr => ∃ (j : Nat) (pt o : Int) (b sm : Bool), j ≤ L.length ∧ i = .int .i64 j ∧ (pt = 0 ∨ pt = 1 ∨ pt = 2) ∧ 0 ≤ o ∧ o ≤ j ∧ Hid (wr.heap[w1.heap.size]? = some (.cells #[.int .i64 pt, .int .i64 o, .bool b, .bool sm] 108 (0, 0))) ∧ Hid (Below w.heap.size w wr) ∧ Hid (w1.grownBy wr none) ∧
    Hid (tg = gF L q (decide (q < s.size)) (L.length - j) j ⟨pt, o, b, sm⟩)) (fun i _ => L.length - (intOf i).toNat)
  case atStart => exact ⟨0, 0, 0, false, false, by omega, rfl, .inl rfl, by omega, by omega, HBx.out, HB2.out, World.grownBy_alloc _ _ _, HTg.out⟩
  case round =>
    obtain ⟨j, pt, o, b, sm, hj, rfl, hpt, ho, ho2, HBox, HBel, HG, HE⟩ := hrel
    by_cases hlt : j < L.length
    · obtain ⟨m, hm⟩ : ∃ m, L[j]? = some m := ⟨_, List.getElem?_eq_getElem hlt⟩
      obtain ⟨b1, o1, c1, e1, l1, k1, x0, x1, x2⟩ := HR.out.at hm
      simp only [Value.slice.injEq] at e1
      obtain ⟨rfl, -, rfl⟩ := e1
      have X0 := (HG.out.cell x0 (by simp))
      have X1 := (HG.out.cell x1 (by simp))
      have hk := HKs.out m (List.mem_of_getElem? hm)
      have HN : Hid (∀ w, Calls Tryz.prog 82 #[.agg #[.int .i64 pt, .int .i64 o, .bool b, .bool sm], .int .u8 (tkB m.k)] w fun e w' => e = .returned (.tuple #[.agg #[.int .i64 (nextG ⟨pt, o, b, sm⟩ m.k).1.pt, .int .i64 (nextG ⟨pt, o, b, sm⟩ m.k).1.o, .bool (nextG ⟨pt, o, b, sm⟩ m.k).1.w, .bool (nextG ⟨pt, o, b, sm⟩ m.k).1.s], .bool (nextG ⟨pt, o, b, sm⟩ m.k).2]) ∧ Below w.heap.size w w') :=
        fun w => rNextG_any ⟨pt, o, b, sm⟩ m.k w hk.1 hk.2 hpt ho (by simp only; omega)
      have c0' : wr.cell? ⟨w1.heap.size, 0, none⟩ = some (.int .i64 pt) := by have := HBox.out; simp [World.cell?, this]
      have c1' : wr.cell? ⟨w1.heap.size, 1, none⟩ = some (.int .i64 o) := by have := HBox.out; simp [World.cell?, this]
      have c2' : wr.cell? ⟨w1.heap.size, 2, none⟩ = some (.bool b) := by have := HBox.out; simp [World.cell?, this]
      have c3' : wr.cell? ⟨w1.heap.size, 3, none⟩ = some (.bool sm) := by have := HBox.out; simp [World.cell?, this]
      clear x0 x1 x2
      have hwlt : w1.heap.size < wr.heap.size := (Array.getElem?_eq_some_iff.1 HBox.out).1
      have hblt : b1 < wr.heap.size := World.block_lt_of_cell? wr _ X0
      have HPt := Lib.hid hpt
      clear hpt
      go_upto_region 6 with (fail)
      go_cut [7, 8] (fun p q wx => ∃ N : Nat, p = .pointer (some ⟨N, 0, none⟩) ∧ q = .bool (nextG ⟨pt, o, b, sm⟩ m.k).2 ∧ Hid (wx.heap[N]? = some (.cells #[.int .i64 (nextG ⟨pt, o, b, sm⟩ m.k).1.pt, .int .i64 (nextG ⟨pt, o, b, sm⟩ m.k).1.o, .bool (nextG ⟨pt, o, b, sm⟩ m.k).1.w, .bool (nextG ⟨pt, o, b, sm⟩ m.k).1.s] 108 (0, 0)) ∧ wr.heap.size ≤ N ∧ wr.grownBy wx none))
      case first =>
        go_region_held3 (fun w' => w'.cell? ⟨w1.heap.size, 0, none⟩ = some (.int .i64 pt) ∧ w'.cell? ⟨w1.heap.size, 1, none⟩ = some (.int .i64 o) ∧ w'.cell? ⟨w1.heap.size, 2, none⟩ = some (.bool b) ∧ w'.cell? ⟨w1.heap.size, 3, none⟩ = some (.bool sm) ∧ w'.cell? ⟨b1, o1 + j * 3, none⟩ = some (.int .u8 (tkB m.k)))
          (first | with_reducible assumption | (with_reducible (refine ⟨?_, ?_, ?_, ?_, ?_⟩) <;> first | with_reducible assumption | (rw [World.cell?_of_block (a := ⟨_, _, none⟩) (Below.heap_setCell _ _ _ _ (by simp; omega)), World.cell?_of_block (a := ⟨_, _, none⟩) (Below.heap_setCell _ _ _ _ (by simp; omega)), World.cell?_of_block (a := ⟨_, _, none⟩) (Below.heap_setCell _ _ _ _ (by simp; omega)), World.cell?_of_block (a := ⟨_, _, none⟩) (Below.heap_setCell _ _ _ _ (by simp; omega))]; with_reducible assumption) | (rw [World.cell?_alloc_lt (by first | assumption | (simp; omega))]; with_reducible assumption) | (rw [World.cell?_drew]; with_reducible assumption) | (rw [World.cell?_alloc_lt (by first | assumption | (simp; omega)), World.cell?_drew]; with_reducible assumption) | (rw [World.cell?_drew, World.cell?_alloc_lt (by first | assumption | (simp; omega))]; with_reducible assumption)) | go_keep)
          ((go_at_call 82; refine (HN.out _).mono ?_; rintro e w2 ⟨rfl, hb2⟩; have hz2 : wr.heap.size ≤ w2.heap.size := Nat.le_trans (by simp) hb2.size
            have k0 : w2.cell? ⟨w1.heap.size, 0, none⟩ = some (.int .i64 pt) := (by rw [hb2.cell (p := ⟨w1.heap.size, 0, none⟩) (Nat.lt_of_lt_of_le hwlt (by simp))]; exact And.left (by assumption))
            have k1 : w2.cell? ⟨w1.heap.size, 1, none⟩ = some (.int .i64 o) := (by rw [hb2.cell (p := ⟨w1.heap.size, 1, none⟩) (Nat.lt_of_lt_of_le hwlt (by simp))]; exact And.left (And.right (by assumption)))
            have k2 : w2.cell? ⟨w1.heap.size, 2, none⟩ = some (.bool b) := (by rw [hb2.cell (p := ⟨w1.heap.size, 2, none⟩) (Nat.lt_of_lt_of_le hwlt (by simp))]; exact And.left (And.right (And.right (by assumption))))
            have k3 : w2.cell? ⟨w1.heap.size, 3, none⟩ = some (.bool sm) := (by rw [hb2.cell (p := ⟨w1.heap.size, 3, none⟩) (Nat.lt_of_lt_of_le hwlt (by simp))]; exact And.left (And.right (And.right (And.right (by assumption)))))
            have k4 : w2.cell? ⟨b1, o1 + j * 3, none⟩ = some (.int .u8 (tkB m.k)) := (by rw [hb2.cell (p := ⟨b1, o1 + j * 3, none⟩) (Nat.lt_of_lt_of_le hblt (by simp))]; exact And.right (And.right (And.right (And.right (by assumption)))))
            obtain ⟨hc2, hf2⟩ := bcell hb2))
        all_goals go_wp2_with fail
        all_goals go_meet
        all_goals clear hc2 hf2
        · exact ⟨_, rfl, rfl, new_late hb2 _ _⟩
        · exact ⟨_, rfl, rfl, new_early4 hb2 _ _ _ _⟩
      case rest =>
        obtain ⟨N, rfl, rfl, HN2⟩ := hcut
        obtain ⟨hN1, hN2, hN3⟩ := HN2.out
        have HBox' : Hid (wc.heap[w1.heap.size]? = some (.cells #[.int .i64 pt, .int .i64 o, .bool b, .bool sm] 108 (0, 0))) := (hN3.block _ hwlt (by simp)).trans HBox.out
        have X1' := (hN3.cell X1 (by simp))
        have HBel' : Hid (Below w.heap.size w wc) := HBel.out.grown hN3 HBel.out.size (by simp)
        have HG' : Hid (w1.grownBy wc none) := HG.out.trans hN3
        have d0 : wc.cell? ⟨N, 0, none⟩ = some (.int .i64 (nextG ⟨pt, o, b, sm⟩ m.k).1.pt) := by simp [World.cell?, hN1]
        have d1 : wc.cell? ⟨N, 1, none⟩ = some (.int .i64 (nextG ⟨pt, o, b, sm⟩ m.k).1.o) := by simp [World.cell?, hN1]
        have d2 : wc.cell? ⟨N, 2, none⟩ = some (.bool (nextG ⟨pt, o, b, sm⟩ m.k).1.w) := by simp [World.cell?, hN1]
        have d3 : wc.cell? ⟨N, 3, none⟩ = some (.bool (nextG ⟨pt, o, b, sm⟩ m.k).1.s) := by simp [World.cell?, hN1]
        have e0 : wc.cell? ⟨w1.heap.size, 0, none⟩ = some (.int .i64 pt) := by have := HBox'.out; simp [World.cell?, this]
        have e1 : wc.cell? ⟨w1.heap.size, 1, none⟩ = some (.int .i64 o) := by have := HBox'.out; simp [World.cell?, this]
        have e2 : wc.cell? ⟨w1.heap.size, 2, none⟩ = some (.bool b) := by have := HBox'.out; simp [World.cell?, this]
        have e3 : wc.cell? ⟨w1.heap.size, 3, none⟩ = some (.bool sm) := by have := HBox'.out; simp [World.cell?, this]
        have f0 : wc.frozen? ⟨w1.heap.size, 0, none⟩ = false := by have := HBox'.out; simp [World.frozen?, this]
        have f1 : wc.frozen? ⟨w1.heap.size, 1, none⟩ = false := by have := HBox'.out; simp [World.frozen?, this]
        have f2 : wc.frozen? ⟨w1.heap.size, 2, none⟩ = false := by have := HBox'.out; simp [World.frozen?, this]
        have f3 : wc.frozen? ⟨w1.heap.size, 3, none⟩ = false := by have := HBox'.out; simp [World.frozen?, this]
        have hwx : w1.heap.size < wc.heap.size := (Array.getElem?_eq_some_iff.1 HBox'.out).1
        have HKd : Hid (kd L j = m.k) := kd_some hm
        have HPl : Hid (plcR L q j = m.p) := by unfold Hid plcR; rw [hm]
        have HLo := Lib.hid (nextG_lo (g := ⟨pt, o, b, sm⟩) (k := m.k) ho)
        have HJ : Hid (gF L q (decide (q < s.size)) (L.length - j) j ⟨pt, o, b, sm⟩ = if (nextG ⟨pt, o, b, sm⟩ m.k).2 = true then gF L q (decide (q < s.size)) (L.length - (j + 1)) (j + 1) ⟨(nextG ⟨pt, o, b, sm⟩ m.k).1.pt, (nextG ⟨pt, o, b, sm⟩ m.k).1.o, (nextG ⟨pt, o, b, sm⟩ m.k).1.w, (nextG ⟨pt, o, b, sm⟩ m.k).1.s⟩ else m.p) := by
          unfold Hid
          rw [show L.length - j = (L.length - (j + 1)) + 1 from by omega]
          conv => lhs; unfold gF
          rw [HKd.out, HPl.out]
        clear hN1 hN3 HN2 hm X0 c0' c1' c2' c3' HN HPt
        generalize (nextG ⟨pt, o, b, sm⟩ m.k).1.pt = pt2 at *
        generalize (nextG ⟨pt, o, b, sm⟩ m.k).1.o = o2 at *
        generalize (nextG ⟨pt, o, b, sm⟩ m.k).1.w = b2 at *
        generalize (nextG ⟨pt, o, b, sm⟩ m.k).1.s = s2 at *
        generalize (nextG ⟨pt, o, b, sm⟩ m.k).2 = ok at *
        cases ok with
        | true =>
          have hl := HLo.out rfl
          clear HLo
          go_wp2_with fail
          have hb3 : Below w.heap.size w ((((wc.setCell ⟨w1.heap.size, 0, none⟩ (.int .i64 pt2)).setCell ⟨w1.heap.size, 1, none⟩ (.int .i64 o2)).setCell ⟨w1.heap.size, 2, none⟩ (.bool b2)).setCell ⟨w1.heap.size, 3, none⟩ (.bool s2)) :=
            (((HBel'.out.setCell (p := ⟨w1.heap.size, 0, none⟩) hw1 _).setCell (p := ⟨w1.heap.size, 1, none⟩) hw1 _).setCell (p := ⟨w1.heap.size, 2, none⟩) hw1 _).setCell (p := ⟨w1.heap.size, 3, none⟩) hw1 _
          have hbx3 : ((((wc.setCell ⟨w1.heap.size, 0, none⟩ (.int .i64 pt2)).setCell ⟨w1.heap.size, 1, none⟩ (.int .i64 o2)).setCell ⟨w1.heap.size, 2, none⟩ (.bool b2)).setCell ⟨w1.heap.size, 3, none⟩ (.bool s2)).heap[w1.heap.size]? = some (.cells #[.int .i64 pt2, .int .i64 o2, .bool b2, .bool s2] 108 (0, 0)) := setb (setb (setb (setb HBox'.out 0 _) 1 _) 2 _) 3 _
          have hg3 : w1.grownBy ((((wc.setCell ⟨w1.heap.size, 0, none⟩ (.int .i64 pt2)).setCell ⟨w1.heap.size, 1, none⟩ (.int .i64 o2)).setCell ⟨w1.heap.size, 2, none⟩ (.bool b2)).setCell ⟨w1.heap.size, 3, none⟩ (.bool s2)) none :=
            grown_then (grown_then (grown_then (grown_then HG'.out (grown_set wc w1.heap.size 0 _) (by simp)) (grown_set _ w1.heap.size 1 _) (by simp)) (grown_set _ w1.heap.size 2 _) (by simp)) (grown_set _ w1.heap.size 3 _) (by simp)
          go_roundw
          case rel => exact ⟨j + 1, pt2, o2, b2, s2, by omega, by go_num, hl.2.2, hl.1, by have := hl.2.1; simp only at this; omega, hbx3, hb3, hg3, by unfold Hid; rw [HE.out, HJ.out]; simp⟩
          case measure => simp [intOf]; omega
        | false =>
          clear HLo
          go_wp2_with fail
          go_ret
          exact ⟨congrArg (fun x : Int => Ending.returned (.int .i64 x)) (by rw [HE.out, HJ.out]; simp), HBel'.out⟩
    · obtain rfl : j = L.length := by omega
      have HJ : Hid (tg = if decide (q < s.size) = true ∨ sm = false then (q : Int) else -1) := by
        unfold Hid; rw [HE.out, Nat.sub_self]; rfl
      have c0' : wr.cell? ⟨w1.heap.size, 0, none⟩ = some (.int .i64 pt) := by have := HBox.out; simp [World.cell?, this]
      have c1' : wr.cell? ⟨w1.heap.size, 1, none⟩ = some (.int .i64 o) := by have := HBox.out; simp [World.cell?, this]
      have c2' : wr.cell? ⟨w1.heap.size, 2, none⟩ = some (.bool b) := by have := HBox.out; simp [World.cell?, this]
      have c3' : wr.cell? ⟨w1.heap.size, 3, none⟩ = some (.bool sm) := by have := HBox.out; simp [World.cell?, this]
      by_cases hq : q < s.size
      · obtain rfl : bd = (q : Int) := by rw [hbad.out, if_pos hq]
        have HJ2 : Hid (tg = q) := by unfold Hid; rw [HJ.out, if_pos (.inl (by simpa using hq))]
        go_wp2
        go_ret
        exact ⟨congrArg (fun x : Int => Ending.returned (.int .i64 x)) HJ2.out.symm, HBel.out⟩
      · obtain rfl : bd = -1 := by rw [hbad.out, if_neg hq]
        have hqs : q = s.size := by omega
        have HJ2 : Hid (tg = if sm = false then (s.size : Int) else -1) := by
          unfold Hid; rw [HJ.out, hqs]; simp
        clear hqs HJ
        cases sm with
        | true =>
          go_wp2
          go_ret
          exact ⟨congrArg (fun x : Int => Ending.returned (.int .i64 x)) (by rw [HJ2.out]; simp), HBel.out⟩
        | false =>
          go_wp2
          go_ret
          exact ⟨congrArg (fun x : Int => Ending.returned (.int .i64 x)) (by rw [HJ2.out]; simp), HBel.out⟩
end Go.Proofs.YtkmjmfcanlknjaaGreat
namespace Go.Proofs.YtkmjmfcanlknjaaGreat
open Go.RowKit Go.Shelf

/-- where the reference's loop over the rules stands -/
def RStt (L : List Mk) (G : List Ru) (p j : Nat) (g : List Ru) : Prop :=
  (∃ n, p < L.length ∧ L.length - p < n ∧ (rulesP L n p g).ok = true ∧ (rulesP L n p g).g = G ∧ p ≤ j ∧ j ≤ p + 2 + (seg L (p + 2)).length) ∨ (p = L.length ∧ j = L.length ∧ g = G)
theorem ruleP_some {L : List Mk} {p q : Nat} {r : Ru} (h : ruleP L p = (some r, q)) :
    kd L p = 1 ∧ kd L (p + 1) = 4 ∧ (bodyP L (p + 2)).ok = true ∧ (bodyP L (p + 2)).p = (seg L (p + 2)).length ∧ kd L (p + 2 + (seg L (p + 2)).length) = 5 ∧ r = ⟨tx L p, (bodyP L (p + 2)).f.flat⟩ ∧ q = p + 2 + (seg L (p + 2)).length + 1 := by
  unfold ruleP at h
  split at h
  · cases h
  · split at h
    · cases h
    · split at h
      · rename_i h1 h2 h3
        simp only [Prod.mk.injEq, Option.some.injEq] at h
        exact ⟨by omega, by omega, h3.1, h3.2.1, h3.2.2, h.1.symm, h.2.symm⟩
      · cases h
theorem RStt.rule {L : List Mk} {G : List Ru} {p j : Nat} {g : List Ru} (h : RStt L G p j g) (hj : j < L.length) :
    p ≤ j ∧ j ≤ p + 2 + (seg L (p + 2)).length ∧ ∃ r, ruleP L p = (some r, p + 2 + (seg L (p + 2)).length + 1) ∧ RStt L G (p + 2 + (seg L (p + 2)).length + 1) (p + 2 + (seg L (p + 2)).length + 1) (g ++ [r]) := by
  rcases h with ⟨n, hp, hn, hok, hg, h1, h2⟩ | ⟨rfl, rfl, rfl⟩
  · refine ⟨h1, h2, ?_⟩
    cases n with
    | zero => omega
    | succ n =>
      unfold rulesP at hok hg
      cases hr : ruleP L p with
      | mk o q =>
        rw [hr] at hok hg
        cases o with
        | none => cases hok
        | some r =>
          obtain ⟨_, _, _, _, _, _, rfl⟩ := ruleP_some hr
          have hlt := ruleP_lt hr
          refine ⟨r, rfl, ?_⟩
          simp only at hok hg
          by_cases hq : p + 2 + (seg L (p + 2)).length + 1 < L.length
          · rw [if_pos hq] at hok hg
            exact .inl ⟨n, hq, by omega, hok, hg, Nat.le_refl _, by omega⟩
          · rw [if_neg hq] at hok hg
            exact .inr ⟨by omega, by omega, hg⟩
  · omega
theorem RStt.next {L : List Mk} {G : List Ru} {p j : Nat} {g : List Ru} (h : RStt L G p j g) (hj : j < L.length) (hk : ¬ (kd L j = 5 ∧ p + 2 ≤ j)) : RStt L G p (j + 1) g := by
  obtain ⟨h1, h2, r, hr, -⟩ := h.rule hj
  obtain ⟨k1, k2, _, _, k5, _, _⟩ := ruleP_some hr
  rcases h with ⟨n, hp, hn, hok, hg, _, _⟩ | ⟨rfl, rfl, rfl⟩
  · refine .inl ⟨n, hp, hn, hok, hg, by omega, ?_⟩
    by_cases he : j = p + 2 + (seg L (p + 2)).length
    · subst he; exact absurd ⟨k5, by omega⟩ hk
    · omega
  · omega
theorem RStt.hit {L : List Mk} {G : List Ru} {p j : Nat} {g : List Ru} (h : RStt L G p j g) (hj : j < L.length) (hk : kd L j = 5) (hp : p + 2 ≤ j) : j = p + 2 + (seg L (p + 2)).length := by
  obtain ⟨h1, h2, r, hr, -⟩ := h.rule hj
  by_cases he : j = p + 2 + (seg L (p + 2)).length
  · exact he
  · have := seg_in L (p + 2) (j - (p + 2)) (by omega)
    rw [show p + 2 + (j - (p + 2)) = j from by omega] at this
    exact absurd hk this.2
theorem RStt.done {L : List Mk} {G : List Ru} {p j : Nat} {g : List Ru} (h : RStt L G p j g) (hj : ¬ j < L.length) : g = G := by
  rcases h with ⟨n, hp, hn, hok, hg, h1, h2⟩ | ⟨_, _, h⟩
  · exfalso
    cases n with
    | zero => omega
    | succ n =>
      unfold rulesP at hok
      cases hr : ruleP L p with
      | mk o q =>
        rw [hr] at hok
        cases o with
        | none => cases hok
        | some r =>
          obtain ⟨_, _, _, _, _, _, rfl⟩ := ruleP_some hr
          have hlt := ruleP_lt hr
          omega
  · exact h
theorem RStt.start {s : ByteArray} (h : (gParsed s).ok = true) : RStt (cut s 0).1 (gParsed s).g 0 0 [] := by
  refine .inl ⟨(cut s 0).1.length + 1, ?_, by omega, h, rfl, Nat.le_refl _, by omega⟩
  unfold gParsed rulesP at h
  cases hr : ruleP (cut s 0).1 0 with
  | mk o q =>
    rw [hr] at h
    cases o with
    | none => cases h
    | some r => have := ruleP_lt hr; omega
theorem tkB5 {k : Int} (h1 : 1 ≤ k) (h2 : k ≤ 12) : (tkB k == 59) = decide (k = 5) := by
  rw [Bool.eq_iff_iff, (tkB_is h1 h2).2.2]; simp
/-- a piece of the tokens, read, as a list of its own -/
theorem TkS.seg {w : World} {b off n cap : Nat} {L : List Mk} (h : RdTk w (.slice (some ⟨b, off, none⟩) n cap) L) (p : Nat) (h0 : 0 < (seg L p).length) (hp : p ≤ L.length) :
    TkS w (.slice (some ⟨b, off + p * 3, none⟩) (seg L p).length (cap - p)) (seg L p) 0 (seg L p).length := by
  have hle := seg_le L p hp
  obtain ⟨m0, hm0⟩ : ∃ m, L[p]? = some m := ⟨_, List.getElem?_eq_getElem (by omega)⟩
  obtain ⟨b', off', cap', e, h1, h2, _⟩ := RdTk.at h hm0
  simp only [Value.slice.injEq, Option.some.injEq, Addr.mk.injEq] at e
  obtain ⟨⟨rfl, rfl, -⟩, rfl, rfl⟩ := e
  refine ⟨h0, Nat.le_refl _, b, off + p * 3, cap - p, rfl, by omega, h1, fun i m hi hm => ?_⟩
  rw [Nat.zero_add] at hi hm
  rw [seg_get L p i hi] at hm
  obtain ⟨b', off', cap', e', _, _, c0, _, c2⟩ := RdTk.at h hm
  simp only [Value.slice.injEq, Option.some.injEq, Addr.mk.injEq] at e'
  obtain ⟨⟨rfl, rfl, -⟩, -, rfl⟩ := e'
  rw [show off + p * 3 + i * 3 = off + (p + i) * 3 from by omega]
  exact ⟨c0, c2⟩
theorem seg_mem {L : List Mk} {p : Nat} {m : Mk} (h : m ∈ seg L p) : m ∈ L := List.mem_of_mem_drop ((List.takeWhile_sublist _).subset h)
theorem rBody_tree (L : List Mk) (hK : ∀ m ∈ L, 1 ≤ m.k ∧ m.k ≤ 12) (hl : L.length < 4194304) (p : Nat) (hp : p ≤ L.length) (hok : (bodyP L p).ok = true) (hq : (bodyP L p).p = (seg L p).length) (v : Value) (w : World) (h : TkS w v (seg L p) 0 (seg L p).length) :
    Calls Tryz.prog 89 #[v] w (ERet w (bodyP L p).f.flat) := by
  have hle := seg_le L p hp
  refine rTree_all (seg L p) (fun m hm => hK m (seg_mem hm)) (by omega) ((seg L p).length + 1) 0 (bodyP L p).f (seg L p).length ?_ v w h
  show bodyP L p = _
  generalize bodyP L p = r at hok hq ⊢
  obtain ⟨o, f, q⟩ := r
  simp only at hok hq; subst hok; subst hq; rfl

set_option maxRecDepth 100000 in
set_option maxHeartbeats 6400000 in
theorem rRules_any (L : List Mk) (G : List Ru) (v : Value) (w : World) (h : RdTk w v L) (hK : ∀ m ∈ L, 1 ≤ m.k ∧ m.k ≤ 12) (hl : L.length ≤ 2048) (hS : RStt L G 0 0 []) :
    Calls Tryz.prog 43 #[v] w fun e w' => ∃ v' P, e = .returned v' ∧ P.map (·.1) = G ∧ OwnP w' w.heap.size v' P ∧ Below w.heap.size w w' := by
  have HR := Lib.hid h
  have HK := Lib.hid hK
  have HS0 := Lib.hid hS
  obtain ⟨_, ao, cap, rfl, -⟩ := h
  clear hK hS
  go_enter Tryz.func43, Tryz.ntmps43
  go_wp2_with fail
  go_loopw [3, 4, 5] (fun o f i wr => ∃ (p j : Nat) (P : List (Ru × Value)), f = .int .i64 p ∧ i = .int .i64 j ∧ p ≤ j ∧ j ≤ L.length ∧ P.length ≤ j ∧ Hid (RStt L G p j (P.map (·.1))) ∧ Hid (OwnP wr w.heap.size o P) ∧ Hid (Below w.heap.size w wr)) (fun _ _ i _ => L.length - (intOf i).toNat)
  case atStart => exact ⟨0, 0, [], rfl, rfl, by omega, by omega, by simp, HS0.out, OwnP.nil _ _, Below.refl _ _⟩
  case round =>
    obtain ⟨p, j, P, rfl, rfl, hpj, hj, hPl, HS, HO, HBel⟩ := hrel
    rename_i u3
    have hws := HBel.out.size
    by_cases hlt : j < L.length
    · obtain ⟨m, hm⟩ : ∃ m, L[j]? = some m := ⟨_, List.getElem?_eq_getElem hlt⟩
      obtain ⟨b, off, cp, e1, hb, hc, x0, x1, x2⟩ := HR.out.at hm
      simp only [Value.slice.injEq] at e1
      obtain ⟨rfl, -, rfl⟩ := e1
      have X0 := (HBel.out.cell (p := ⟨b, _, none⟩) hb).trans x0
      have hbw : b < wr.heap.size := by omega
      have hk := HK.out m (List.mem_of_getElem? hm)
      have hkd : kd L j = m.k := kd_some hm
      have hT5 : (tkB m.k == 59) = decide (kd L j = 5) := by rw [tkB5 hk.1 hk.2, hkd]
      clear x0 x1 x2
      by_cases h5 : kd L j = 5
      · by_cases hp2 : p + 2 ≤ j
        · have he := HS.out.hit hlt h5 hp2
          obtain ⟨h1, h2, r, hr, hS2⟩ := HS.out.rule hlt
          obtain ⟨k1, k4, q1, q2, q5, hre, -⟩ := ruleP_some hr
          have HS2 := Lib.hid hS2
          rw [← he] at HS2
          have hn : (seg L (p + 2)).length = j - (p + 2) := by omega
          have hn0 : 0 < (seg L (p + 2)).length := by have := (bodyP_b L (p + 2)).lt q1; omega
          obtain ⟨mp, hmp⟩ : ∃ m, L[p]? = some m := ⟨_, List.getElem?_eq_getElem (by omega)⟩
          obtain ⟨b', off', cp', e1, hb', hc', y0, y1, y2⟩ := HR.out.at hmp
          simp only [Value.slice.injEq, Option.some.injEq, Addr.mk.injEq] at e1
          obtain ⟨⟨rfl, rfl, -⟩, -, rfl⟩ := e1
          have Y2 := (HBel.out.cell (p := ⟨b, _, none⟩) hb).trans y2
          have HTr : Hid (∀ w2, Below wr.heap.size wr w2 → Calls Tryz.prog 89 #[.slice (some ⟨b, off + (p + 2) * 3, none⟩) (j - (p + 2)) (cap - (p + 2))] w2 (ERet w2 (bodyP L (p + 2)).f.flat)) := by
            intro w2 hb2
            refine rBody_tree L HK.out (by omega) (p + 2) (by omega) q1 q2 _ w2 ?_
            have := (TkS.seg HR.out (p + 2) hn0 (by omega)).below (HBel.out.trans (hb2.mono hws))
            rw [hn] at this ⊢; exact this
          have e5 : (tkB m.k == 59) = true := by rw [hT5]; simpa using h5
          have HRe : Hid (r = ⟨mp.t, (bodyP L (p + 2)).f.flat⟩) := by unfold Hid; rw [hre]; unfold tx; rw [hmp]
          have hp2i : (p : Int) + 2 ≤ j := by omega
          have hplt : p < L.length := by omega
          have hww : IntKind.i64.wrap ((p : Int) + 2) = (p : Int) + 2 := IntWalk.i64_in _ (by omega)
          have htn : ((p : Int) + 2).toNat = p + 2 := by omega
          have hjc : j ≤ cap := by omega
          have hne : ¬ cap = p + 2 := by omega
          have hp0 : (0 : Int) ≤ (p : Int) + 2 := by omega
          clear hT5 y0 y1 y2 hkd h5 hr k1 k4 q1 q2 q5 hre hS2 he hn hn0 h1 h2
          generalize (bodyP L (p + 2)).f.flat = bd at *
          go_wp2_with fail
          have HC := Lib.hid (HTr.out wr.drew (Below.drew (Below.refl _ _)))
          go_region_law (first
            | (refine step_appG1 elemRu rfl _ _ rfl HO2.row rfl (news := [.string mp.t, .slice ao2 bd.length cp2]) rfl rfl (by intro u hu; simp at hu; rcases hu with rfl | rfl <;> rfl) (by unfold maxLen; omega) (by omega) hw2 ?_; intro v3 w3 hown3 hg3)
            | (go_simp; go_at_call 89; refine (HC.out).mono ?_; rintro e w2 ⟨v2, rfl, ho2, hb2⟩
               obtain ⟨ao2, cp2, rfl⟩ : ∃ ao c, v2 = .slice ao bd.length c := by obtain ⟨_, ao, c, e, -⟩ := RdNd.of_own ho2; exact ⟨ao, c, e⟩
               have HO2 : OwnP w2 w.heap.size u3 P := (HO.out.below (show Below wr.heap.size wr wr.drew from Below.drew (Below.refl _ _))).below hb2
               have hown2 : OwnNd w2 w.heap.size (.slice ao2 bd.length cp2) bd := own_lower ho2 hws
               have hw2 : w.heap.size ≤ w2.heap.size := Nat.le_trans hws hb2.size
               have hB2 : Below w.heap.size w w2 := HBel.out.drew.trans (hb2.mono hws)
               have k0 : w2.cell? ⟨b, off + p * 3 + 2, none⟩ = some (.string mp.t) := (hb2.cell (p := ⟨b, off + p * 3 + 2, none⟩) hbw).trans Y2))
          all_goals
            have HO3 : Hid (OwnP w3 w.heap.size v3 (P ++ [(⟨mp.t, bd⟩, .slice ao2 bd.length cp2)])) := OwnP.snoc (p := (⟨mp.t, bd⟩, .slice ao2 bd.length cp2)) HO2 hown2 hown3 hg3
            have HB3 : Hid (Below w.heap.size w w3) := hB2.grown hg3 hw2 (fun j hj => own_block HO2.row j hj)
            have HS3 : Hid (RStt L G (j + 1) (j + 1) ((P ++ [((⟨mp.t, bd⟩, .slice ao2 bd.length cp2) : Ru × Value)]).map (·.1))) := by
              unfold Hid; rw [List.map_append]; have := HS2.out; rw [HRe.out] at this; exact this
            clear hown3 hg3 ho2 hb2 hown2 HO2
            go_wp2_with fail
            go_roundw
            case rel => exact ⟨j + 1, j + 1, _, by go_num, by go_num, by omega, by omega, by simp; omega, HS3.out, HO3.out, HB3.out⟩
            case measure => simp [intOf]; omega
        · have e5 : (tkB m.k == 59) = true := by rw [hT5]; simpa using h5
          have HN : Hid (RStt L G p (j + 1) (P.map (·.1))) := HS.out.next hlt (fun h => hp2 h.2)
          have hp2i : ¬ (p : Int) + 2 ≤ j := by omega
          clear hT5
          go_wp2_with fail
          go_roundw
          case rel => exact ⟨p, j + 1, P, rfl, by go_num, by omega, by omega, by omega, HN.out, HO.out, HBel.out⟩
          case measure => simp [intOf]; omega
      · have e5 : (tkB m.k == 59) = false := by rw [hT5]; simpa using h5
        have HN : Hid (RStt L G p (j + 1) (P.map (·.1))) := HS.out.next hlt (fun h => h5 h.1)
        clear hT5
        go_wp2_with fail
        go_roundw
        case rel => exact ⟨p, j + 1, P, rfl, by go_num, by omega, by omega, by omega, HN.out, HO.out, HBel.out⟩
        case measure => simp [intOf]; omega
    · have HE : Hid (P.map (·.1) = G) := HS.out.done hlt
      obtain rfl : j = L.length := by omega
      go_wp2_with fail
      go_ret
      exact ⟨_, _, rfl, HE.out, HO.out, HBel.out⟩
end Go.Proofs.YtkmjmfcanlknjaaGreat
namespace Go.Proofs.YtkmjmfcanlknjaaGreat
open Go.RowKit Go.Shelf

theorem gParsed_lim {s : ByteArray} (hs : ¬ 2048 < s.size) (hok : (gParsed s).ok = true) : (gParsed s).g.length ≤ 2048 ∧ nodesG (gParsed s).g ≤ 4096 ∧ (longG (gParsed s).g = false → LimG (gParsed s).g) := by
  have g1 := (cut_len s s.size 0 (by omega) (by omega)).1
  have g2 := rules_size (cut s 0).1 ((cut s 0).1.length + 1) 0 [] (by omega) (by omega) hok
  have e0 : nodesG [] = 0 := rfl
  rw [e0, List.length_nil] at g2
  have g3 : (gParsed s).g.length ≤ 0 + ((cut s 0).1.length - 0) := g2.1
  have g4 : nodesG (gParsed s).g ≤ 0 + 2 * ((cut s 0).1.length - 0) := g2.2
  refine ⟨by omega, by omega, fun hlg => ?_⟩
  unfold longG at hlg
  rw [List.any_eq_false] at hlg
  refine ⟨by omega, by omega, fun r hr => ?_, fun r hr x hx => ?_⟩
  · have := hlg r hr
    simp only [Bool.or_eq_true, decide_eq_true_eq, not_or] at this
    omega
  · have := hlg r hr
    simp only [Bool.or_eq_true, decide_eq_true_eq, not_or, Bool.not_eq_true] at this
    have h2 := this.2
    unfold longN at h2
    rw [List.any_eq_false] at h2
    have := h2 x hx
    simp only [decide_eq_true_eq] at this
    omega
set_option maxRecDepth 100000 in
set_option maxHeartbeats 3200000 in
theorem rParseG_any (s : ByteArray) (w : World) : Calls Tryz.prog 16 #[.string s] w (GRet w (parseG s)) := by
  by_cases hs : 2048 < s.size
  · have HE : Hid (parseG s = ([], 0, 3)) := by unfold Hid parseG; rw [if_pos hs]
    go_enter Tryz.func16, Tryz.ntmps16
    go_wp2
    go_ret3
    rw [HE.out]
    exact ⟨_, [], rfl, rfl, OwnP.nil _ _, Below.refl _ _⟩
  · have hlen := cut_len s s.size 0 (by omega) (by omega)
    have HP := Lib.hid (rPlaceG_any s w (by omega))
    rw [placeG] at HP
    have HPa : Hid (parseG s = if (gParsed s).ok = false then ([], plc (cut s 0).1 (cut s 0).2 (gParsed s).p, 172) else if (cut s 0).2 < s.size then ([], ((cut s 0).2 : Nat), 172)
        else if longG (gParsed s).g = true then ([], 0, 173) else if checkG (gParsed s).g ≠ 0 then ([], 0, checkG (gParsed s).g) else ((gParsed s).g, 0, 0)) := by
      unfold Hid parseG; rw [if_neg hs]
    by_cases hbad : (gParsed s).ok = true ∧ ¬ (cut s 0).2 < s.size
    · obtain ⟨hok, hq⟩ := hbad
      obtain ⟨g1, g2, g3⟩ := gParsed_lim hs hok
      rw [if_pos hok, if_neg hq] at HP
      rw [if_neg (by rw [hok]; simp), if_neg hq] at HPa
      have HT := Lib.hid (fun w => rToks_any s w (by omega))
      have HLs := Lib.hid (long_sameG s hok)
      have HRs := Lib.hid (fun v w h => rRules_any (cut s 0).1 (gParsed s).g v w h (cut_kinds s) (by omega) (RStt.start hok))
      have HTL := Lib.hid (fun v w h => rTooLong_any v (cut s 0).1 w h (by omega))
      have HCk := Lib.hid (fun v w h hl => rCheckG_any v (gParsed s).g w h (g3 hl) (by omega))
      rw [HLs.out] at HPa HCk
      clear g3 HLs hok hq
      generalize (gParsed s).g = G at *
      generalize badI s = bd at *
      generalize (cut s 0).1 = L at *
      generalize checkG G = ck at *
      go_enter Tryz.func16, Tryz.ntmps16
      go_wp2_with fail
      refine (HP.out).mono ?_
      rintro e w1 ⟨rfl, hb1⟩
      go_wp2_with fail
      refine (HT.out _).mono ?_
      rintro e w2 ⟨v, rfl, ho2, hb2⟩
      have hb12 : Below w.heap.size w w2 := hb1.trans (hb2.mono hb1.size)
      have HR2 := Lib.hid (show RdTk w2 v L from Rd.of_owns ho2)
      obtain ⟨_, ao, cp, rfl, -⟩ := Rd.of_owns ho2
      clear ho2 hb1 hb2
      go_wp2_with fail
      refine (HTL.out _ _ HR2.out).mono ?_
      rintro e w3 ⟨rfl, rfl⟩
      cases hlg : longM L with
      | true =>
        go_wp2_with fail
        go_ret3
        rw [HPa.out, if_pos hlg]
        exact ⟨_, [], rfl, rfl, OwnP.nil _ _, hb12⟩
      | false =>
        have HCk2 := Lib.hid (fun v w h => HCk.out v w h hlg)
        rw [if_neg (by rw [hlg]; simp)] at HPa
        clear HCk HTL
        go_wp2_with fail
        refine (HRs.out _ _ HR2.out).mono ?_
        rintro e w4 ⟨v4, P4, rfl, hP4, ho4, hb4⟩
        have HR4 : Hid (RdRu w4 v4 G) := ⟨P4, hP4, ho4.rd⟩
        have hb14 : Below w.heap.size w w4 := hb12.trans (hb4.mono hb12.size)
        obtain ⟨a4, c4, rfl⟩ := ownP_shape ho4 hP4
        have HO4 := Lib.hid ho4
        clear ho4 hb4
        go_wp2_with fail
        refine (HCk2.out _ _ HR4.out).mono ?_
        rintro e w5 ⟨rfl, hb5⟩
        have hb15 : Below w.heap.size w w5 := hb14.trans (hb5.mono hb14.size)
        have HO5 := Lib.hid ((HO4.out.below hb5).lower hb12.size)
        clear hb5 HO4
        by_cases hc : ck = 0
        · subst hc
          go_wp2_with fail
          go_ret3
          rw [HPa.out, if_neg (by simp)]
          exact ⟨_, P4, rfl, hP4, HO5.out, hb15⟩
        · have hck : (ck != 0) = true := by simpa using hc
          go_wp2_with fail
          go_ret3
          rw [HPa.out, if_pos hc]
          exact ⟨_, [], rfl, rfl, OwnP.nil _ _, hb15⟩
    · obtain ⟨x, hx, hp, hR⟩ : ∃ x : Int, 0 ≤ x ∧ (if (gParsed s).ok = true then (if (cut s 0).2 < s.size then ((cut s 0).2 : Int) else -1) else plcR (cut s 0).1 ((cut s 0).2 : Nat) (gParsed s).p) = x ∧ parseG s = ([], x, 172) := by
        by_cases hok : (gParsed s).ok = true
        · have hq : (cut s 0).2 < s.size := Decidable.byContradiction fun h => hbad ⟨hok, h⟩
          refine ⟨_, ?_, by rw [if_pos hok, if_pos hq], ?_⟩
          · omega
          · rw [HPa.out, if_neg (by rw [hok]; simp), if_pos hq]
        · refine ⟨_, ?_, by rw [if_neg hok], ?_⟩
          · exact plcR_lo _ _ _ (by omega)
          · rw [HPa.out, if_pos (by simpa using hok), plc_plcR]
      rw [hp] at HP
      have HE := Lib.hid hR
      clear hp hR HPa hbad hlen
      go_enter Tryz.func16, Tryz.ntmps16
      go_wp2_with fail
      refine (HP.out).mono ?_
      rintro e w1 ⟨rfl, hb1⟩
      go_wp2_with fail
      go_ret3
      rw [HE.out]
      exact ⟨_, [], rfl, rfl, OwnP.nil _ _, hb1⟩
/-! ### the law BnfParses -/
theorem parseG_lim (s : ByteArray) : nodesG (parseG s).1 ≤ 4096 ∧ (parseG s).1.length ≤ 2048 := by
  by_cases h : (parseG s).2.2 = 0
  · have := parseG_ok h; exact ⟨this.2.2.1, this.2.2.2⟩
  · have e : (parseG s).1 = [] := by
      unfold parseG at h ⊢
      split
      · rfl
      · split
        · rfl
        · split
          · rfl
          · split
            · rfl
            · split
              · rfl
              · rename_i h1 h2 h3 h4 h5
                rw [if_neg h1, if_neg h2, if_neg h3, if_neg h4, if_neg h5] at h
                exact absurd rfl h
    rw [e]; simp [nodesG]
set_option maxRecDepth 100000 in
set_option maxHeartbeats 3200000 in
theorem bnfParses_any (s : ByteArray) (w : World) : Calls Tryz.prog 4 #[.string s] w fun e w' => e = .returned (.bool true) ∧ Below w.heap.size w w' := by
  have H1 := Lib.hid (xParseG_any s w)
  have H2 := Lib.hid (fun w => rParseG_any s w)
  obtain ⟨l1, l2⟩ := parseG_lim s
  generalize parseG s = R at *
  obtain ⟨G, at_, er⟩ := R
  simp only at l1 l2
  have HS := Lib.hid (fun (va vb : Value) (w : World) (h1 : RdRu w va G) (h2 : RdRu w vb G) => rSameG_any va vb G G w h1 h2 (by omega) (by omega) (by omega) (by omega))
  rw [decide_eq_true (rfl : G = G)] at HS
  go_enter Tryz.func4, Tryz.ntmps4
  go_wp2_with fail
  refine (H1.out).mono ?_
  rintro e w1 ⟨v1, P1, rfl, hP1, ho1, hb1⟩
  have HR1 : Hid (RdRu w1 v1 G) := ⟨P1, hP1, ho1.rd⟩
  have HB1 := Lib.hid hb1
  obtain ⟨a1, c1, rfl⟩ := ownP_shape ho1 hP1
  clear hb1 ho1 hP1
  go_wp2_with fail
  refine (H2.out _).mono ?_
  rintro e w2 ⟨v2, P2, rfl, hP2, ho2, hb2⟩
  have HR2 : Hid (RdRu w2 v2 G) := ⟨P2, hP2, ho2.rd⟩
  have HB2 := Lib.hid (HB1.out.trans (hb2.mono HB1.out.size))
  have HQ2 := Lib.hid (HR1.out.below hb2)
  obtain ⟨a2, c2, rfl⟩ := ownP_shape ho2 hP2
  clear hb2 ho2 hP2
  go_wp2_with fail
  refine (headG_any _).mono ?_
  rintro e w3 ⟨rfl, hb3⟩
  have HB3 := Lib.hid (HB2.out.trans (hb3.mono HB2.out.size))
  have HR3 := Lib.hid (HR2.out.below hb3)
  have HQ3 := Lib.hid (HQ2.out.below hb3)
  clear hb3
  go_wp2_with fail
  refine (HS.out _ _ _ HQ3.out HR3.out).mono ?_
  rintro e w4 ⟨rfl, nq, rfl⟩
  go_wp2_with fail
  go_ret
  exact ⟨rfl, below_drewN HB3.out _⟩
end Go.Proofs.YtkmjmfcanlknjaaGreat
namespace Go.Proofs.YtkmjmfcanlknjaaGreat.bnfParses
open Go.ChangeShapes Go.WideShapes Go.ChangeAt Go.RowKit
open Go.ChangeMaps (open_string shut_string)

theorem own : ownKnob Tryz.prog.godebug = none := by kernel_rfl

set_option maxRecDepth 100000 in
theorem contract (H : Type) (enc : TypeId × Value → H) (W : World) (base : Nat) (args : Array Value) (ds gs : List (DataW H)) (before : List MemPlace)
    (hval : ∀ (j : Nat) t v, Tryz.f4.params[j]? = some t → args[j]? = some v → Value.okWide Tryz.prog W .any base t v)
    (hW : DataW.Whole enc Tryz.prog Tryz.f4.params.toList Rows.bnfParsesSpec.vars false W args.toList ds gs before) :
    Calls Tryz.prog 4 args W fun e W' => ∃ v, e = .returned v ∧ Rows.bnfParsesSpec.post enc Tryz.prog Tryz.f4 false true false false W args v W' := by
  have hW' := hW
  obtain ⟨p, q, hA0, hV, rfl, hfz, hnd⟩ := hW
  have hA : DataW.TrodAll enc Tryz.prog W 0 (fun _ => true) true Tryz.f4.params.toList args.toList ds p := hA0
  rw [Tryz.params4] at hA hval
  obtain ⟨v0, vs0, d0, ds0, p0, q0, hargs, rfl, rfl, h0, r0⟩ := trodAll_cons hA
  obtain ⟨rfl, rfl, rfl⟩ := trodAll_nil r0
  obtain rfl : args = #[v0] := by cases args; simp_all
  obtain ⟨rfl, rfl⟩ := trodVars_none hV
  obtain ⟨a0, rfl, rfl, rfl, w0⟩ := open_string Tryz.underlying9 (hval 0 9 v0 rfl rfl) h0
  clear hA0
  simp only [List.append_nil] at hW'
  refine (bnfParses_any a0 W).mono fun e W' ⟨he, bel⟩ => ?_
  subst he
  exact ⟨_, rfl, _, _, _, [], _, [], hW', trodAll_mk1 (shut_bool Tryz.underlying4 _), (trodAll_cons_mk (shut_string Tryz.underlying9 w0) trodAll_mk0), rfl, bel.frame _, fun h => by cases h⟩

set_option maxRecDepth 100000 in
theorem lifted (os : Os) (started : os.Started) (H : Type) (enc : TypeId × Value → H) :
    ReturnsInHanded {} Tryz.checked os 4 .any (Rows.bnfParsesSpec.pre6 enc Tryz.prog Tryz.f4 Rows.bnfParsesRow.domain false) (Rows.bnfParsesSpec.post enc Tryz.prog Tryz.f4 false true false false) := by
  refine returnsInHanded_of_change (C := Tryz.checked) own started (by kernel_rfl) Tryz.func4
    (ChangeSpec.witness6 (enc := enc) (C := Tryz.checked) false ⟨#[], #[.string .empty], []⟩ 8 (by kernel_rfl) (by kernel_rfl) (by kernel_rfl) (by kernel_rfl)) ?_
  intro W base args ds gs before hval hW _ _
  exact contract H enc W base args ds gs before hval hW

theorem proved : Rows.BnfParsesSaid :=
  OpenClaim.holds_of_wide 4 Tryz.f4 rfl rfl rfl rfl rfl rfl rfl ⟨rfl, rfl, rfl, rfl, rfl⟩ rfl rfl rfl rfl rfl (by kernel_rfl) Tryz.func4 (by kernel_rfl)
    (of_decide_eq_true (by kernel_rfl)) (by unfold Func.isWrapper; first | (rw [if_pos (by decide +kernel)]; kernel_rfl) | (rw [if_neg (by decide +kernel)]; exact ⟨rfl, rfl⟩))
    (fun os started H enc _ => lifted os started H enc)
#print axioms proved
end Go.Proofs.YtkmjmfcanlknjaaGreat.bnfParses
