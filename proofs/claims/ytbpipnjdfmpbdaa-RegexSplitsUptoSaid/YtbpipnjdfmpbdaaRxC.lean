import Derived.Test.YtbpipnjdfmpbdaaRxB
import Derived.Maps.AppendAt
namespace Go.Proofs.Ytbpipnjdfmpbdaa
open Go.RowKit

theorem elemNd : ElemOK Try.prog 22 39 3 32 :=
  ElemOK.mk' (z := .agg #[.int .i64 0, .string ⟨#[]⟩, .int .i64 0]) Try.underlying22 (by kernel_rfl) rfl (by decide)
def OwnNd (w : World) (B : Nat) (v : Value) (l : List Nd) : Prop := w.ownsRow B 39 3 v l.length (flatNd l)
theorem flatNd_app (a b : List Nd) : flatNd (a ++ b) = flatNd a ++ flatNd b := by simp [flatNd]
theorem flatNd_len (l : List Nd) : (flatNd l).length = l.length * 3 := by
  induction l with
  | nil => rfl
  | cons x r ih => have : flatNd (x :: r) = x.cells ++ flatNd r := rfl
                   rw [this, List.length_append, ih]; simp [Nd.cells]; omega
theorem flatNd_one (l : List Nd) : ∀ u ∈ flatNd l, u.oneCell' = true := by
  intro u hu
  unfold flatNd at hu
  rw [List.mem_flatMap] at hu
  obtain ⟨m, _, hm⟩ := hu
  simp [Nd.cells] at hm
  rcases hm with rfl | rfl | rfl <;> rfl
/-- a new list of one node -/
theorem OwnNd.one (w : World) (B : Nat) (hB : B ≤ w.heap.size) (x : Nd) : OwnNd (w.alloc (.cells #[.int .i64 x.k, .string x.n, .int .i64 x.c] 39)) B (.slice (some ⟨w.heap.size, 0, none⟩) 1 1) [x] :=
  ⟨rfl, .inr ⟨w.heap.size, 1, _, rfl, hB, World.alloc_heap_new w _, Nat.le_refl _, by unfold maxLen; omega, rfl, rfl⟩⟩
theorem OwnNd.lower {w : World} {B C : Nat} {v : Value} {l : List Nd} (h : OwnNd w B v l) (hC : C ≤ B) : OwnNd w C v l := by
  refine ⟨h.1, ?_⟩
  rcases h.2 with h | ⟨g, cap, cur, h2, h3, h4⟩
  · exact .inl h
  · exact .inr ⟨g, cap, cur, h2, by omega, h4⟩
theorem OwnNd.grown {w w' : World} {B : Nat} {v : Value} {l : List Nd} {row : Option Nat} (h : OwnNd w B v l) (hg : w.grownBy w' row) (hr : ∀ j, row = some j → j < B) : OwnNd w' B v l := by
  refine World.ownsRow.kept h hg ?_
  rcases h.2 with ⟨rfl, _⟩ | ⟨g, cap, cur, rfl, hB, _⟩
  · exact .inl rfl
  · right
    intro e
    have := hr g e.symm
    omega

/-- what a reading function leaves -/
def PRet (Br : Nat) (vl : Value) (L : List Mk) (en : Int) (w : World) (r : PR) (e : Ending) (w' : World) : Prop :=
  w.grownBy w' (some Br) ∧ ((r.ok = true ∧ ∃ v, e = .returned v ∧ OwnNd w' w.heap.size v r.f.flat ∧ Rdr w' Br vl L r.p en) ∨ (r.ok = false ∧ e = .panicked (wrongV (plc L en r.p))))
theorem PRet.good {Br : Nat} {vl : Value} {L : List Mk} {en : Int} {w w' : World} {f : Fo} {p : Nat} {v : Value} (hg : w.grownBy w' (some Br)) (ho : OwnNd w' w.heap.size v f.flat) (hr : Rdr w' Br vl L p en) : PRet Br vl L en w ⟨true, f, p⟩ (.returned v) w' := ⟨hg, .inl ⟨rfl, v, rfl, ho, hr⟩⟩
theorem PRet.bad {Br : Nat} {vl : Value} {L : List Mk} {en : Int} {w w' : World} {f : Fo} {p : Nat} (hg : w.grownBy w' (some Br)) : PRet Br vl L en w ⟨false, f, p⟩ (.panicked (wrongV (plc L en p))) w' := ⟨hg, .inr ⟨rfl, rfl⟩⟩

theorem pAtom_no {E : Nat → PR} {L : List Mk} {p : Nat} (h : beginsI (kd L p) = false) : pAtom E L p = ⟨false, .nil, p⟩ := by unfold pAtom; rw [if_neg (by simp [h])]
theorem pAtom_up {E : Nat → PR} {L : List Mk} {p : Nat} (h : kd L p = 1) : pAtom E L p = ⟨true, leafF 2 (tx L p), p + 1⟩ := by unfold pAtom; rw [h]; rfl
theorem pAtom_lo {E : Nat → PR} {L : List Mk} {p : Nat} (h : kd L p = 2) : pAtom E L p = ⟨true, leafF 3 (tx L p), p + 1⟩ := by unfold pAtom; rw [h]; rfl
theorem pAtom_em {E : Nat → PR} {L : List Mk} {p : Nat} (h : kd L p = 12) : pAtom E L p = ⟨true, leafF 1 ⟨#[]⟩, p + 1⟩ := by unfold pAtom; rw [h]; rfl
theorem pAtom_op {E : Nat → PR} {L : List Mk} {p : Nat} (h : kd L p = 10) : pAtom E L p = if (E (p + 1)).ok then (if kd L (E (p + 1)).p = 11 then ⟨true, (E (p + 1)).f, (E (p + 1)).p + 1⟩ else ⟨false, .nil, (E (p + 1)).p⟩) else E (p + 1) := by unfold pAtom; rw [h]; rfl

theorem atom_leaf {Br : Nat} {vl : Value} {L : List Mk} {p : Nat} {en : Int} {w w2 : World} (hg : w.grownBy w2 none) (hr : Rdr w2 Br vl L p en) (x : Nd) :
    w.grownBy ((w2.setCell ⟨Br, 1, none⟩ (.int .i64 ((p : Int) + 1))).alloc (.cells #[.int .i64 x.k, .string x.n, .int .i64 x.c] 39)) (some Br) ∧
    OwnNd ((w2.setCell ⟨Br, 1, none⟩ (.int .i64 ((p : Int) + 1))).alloc (.cells #[.int .i64 x.k, .string x.n, .int .i64 x.c] 39)) w.heap.size (.slice (some ⟨w2.heap.size, 0, none⟩) 1 1) [x] ∧
    Rdr ((w2.setCell ⟨Br, 1, none⟩ (.int .i64 ((p : Int) + 1))).alloc (.cells #[.int .i64 x.k, .string x.n, .int .i64 x.c] 39)) Br vl L (p + 1) en := by
  have e : (w2.setCell ⟨Br, 1, none⟩ (.int .i64 ((p : Int) + 1))).heap.size = w2.heap.size := by simp [World.setCell]
  refine ⟨grown_then (grown_then (grown_none hg) (grown_set w2 Br 1 _) (by simp)) (World.grownBy_alloc _ _ none) (by simp), ?_, ?_⟩
  · have := OwnNd.one (w2.setCell ⟨Br, 1, none⟩ (.int .i64 ((p : Int) + 1))) w.heap.size (by rw [e]; exact hg.size) x
    rw [e] at this
    exact this
  · exact (hr.step (p + 1)).kept (World.grownBy_alloc _ _ none)

set_option maxRecDepth 100000 in
set_option maxHeartbeats 3200000 in
theorem xAtom_any (Br : Nat) (vl : Value) (L : List Mk) (p : Nat) (en : Int) (E : Nat → PR) (w : World) (h : Rdr w Br vl L p en) (hp : p ≤ L.length) (hl : L.length < 4294967296)
    (HE : ∀ w, Rdr w Br vl L (p + 1) en → p + 1 ≤ L.length → Calls Try.prog 47 #[.pointer (some ⟨Br, 0, none⟩)] w (PRet Br vl L en w (E (p + 1)))) (hE : p + 1 ≤ L.length → (E (p + 1)).p ≤ L.length) :
    Calls Try.prog 112 #[.pointer (some ⟨Br, 0, none⟩)] w (PRet Br vl L en w (pAtom E L p)) := by
  have HEh := Lib.hid HE
  have HK := Lib.hid (xKind_any Br vl L p en w h hp)
  have HR := Lib.hid h
  clear HE h
  by_cases hb : beginsI (kd L p) = true
  · have hlt := begins_lt hb
    obtain ⟨m, hm⟩ : ∃ m, L[p]? = some m := ⟨_, List.getElem?_eq_getElem hlt⟩
    have HB : Hid (∀ w, Calls Try.prog 101 #[.int .i64 (kd L p)] w fun e w' => e = .returned (.bool true) ∧ w = w') := by
      intro w; rw [← hb]; exact xBegins_any _ _
    have hmk : kd L p = m.k := kd_some hm
    have hmt : tx L p = m.t := tx_some hm
    have HM := Lib.hid hm
    have hcase := begins_cases hb
    rw [hmk] at hcase
    have HMK := Lib.hid hmk
    have HMT := Lib.hid hmt
    clear hb hm hmt hmk
    rcases hcase with hk | hk | hk | hk
    · have HQ : Hid (pAtom E L p = ⟨true, leafF 2 m.t, p + 1⟩) := by rw [← HMT.out]; exact pAtom_up (by rw [HMK.out]; exact hk)
      have HKK := Lib.hid hk
      clear hk
      go_enter Try.func112, Try.ntmps112
      go_wp2_with (first | (go_at_call 77; refine (HK.out).mono ?_; rintro e w1 ⟨rfl, hr1, hg1⟩; have HR1 := Lib.hid hr1; have HG1 := Lib.hid hg1; clear hr1 hg1) | (go_at_call 101; refine (HB.out _).mono ?_; rintro e w' ⟨rfl, rfl⟩))
      obtain ⟨c0, c1, c2, c3⟩ := HR1.out.cells
      obtain ⟨b, off, cp, e1, l1, k1, x0, x1, x2⟩ := RdMk.at HR1.out.rd HM.out
      have hbl := HR1.out.lt
      subst e1
      go_region
      have hg2 := grown_then (grown_then HG1.out (World.grownBy_alloc w1 (.cells #[.int .i64 m.k, .int .i64 m.p, .string m.t] 98) none) (by simp)) (grown_drewN _ 1 none) (by simp)
      have hr2 := (HR1.out.kept (World.grownBy_alloc w1 (.cells #[.int .i64 m.k, .int .i64 m.p, .string m.t] 98) none)).kept (grown_drewN _ 1 none)
      have hb2 : ((w1.alloc (.cells #[.int .i64 m.k, .int .i64 m.p, .string m.t] 98)).drewN 1).heap[w1.heap.size]? = some (.cells #[.int .i64 m.k, .int .i64 m.p, .string m.t] 98 (0, 0)) := World.alloc_heap_new w1 _
      rw [show (w1.alloc (.cells #[.int .i64 m.k, .int .i64 m.p, .string m.t] 98)).drew = (w1.alloc (.cells #[.int .i64 m.k, .int .i64 m.p, .string m.t] 98)).drewN 1 from rfl]
      have HG2 := Lib.hid hg2
      have HR2 := Lib.hid hr2
      have HB2 := Lib.hid hb2
      clear hg2 hr2 hb2 c0 c1 c2 c3 x0 x1 x2
      generalize (w1.alloc (.cells #[.int .i64 m.k, .int .i64 m.p, .string m.t] 98)).drewN 1 = w2 at *
      obtain ⟨c0, c1, c2, c3⟩ := HR2.out.cells
      have D0 : w2.cell? ⟨w1.heap.size, 0, none⟩ = some (.int .i64 m.k) := by have := HB2.out; simp [World.cell?, this]
      have D2 : w2.cell? ⟨w1.heap.size, 2, none⟩ = some (.string m.t) := by have := HB2.out; simp [World.cell?, this]
      rw [HKK.out] at D0
      go_wp2
      go_ret
      rw [HQ.out]
      obtain ⟨q1, q2, q3⟩ := atom_leaf HG2.out HR2.out ⟨2, m.t, 0⟩
      exact PRet.good q1 q2 q3
    · have HQ : Hid (pAtom E L p = ⟨true, leafF 3 m.t, p + 1⟩) := by rw [← HMT.out]; exact pAtom_lo (by rw [HMK.out]; exact hk)
      have HKK := Lib.hid hk
      clear hk
      go_enter Try.func112, Try.ntmps112
      go_wp2_with (first | (go_at_call 77; refine (HK.out).mono ?_; rintro e w1 ⟨rfl, hr1, hg1⟩; have HR1 := Lib.hid hr1; have HG1 := Lib.hid hg1; clear hr1 hg1) | (go_at_call 101; refine (HB.out _).mono ?_; rintro e w' ⟨rfl, rfl⟩))
      obtain ⟨c0, c1, c2, c3⟩ := HR1.out.cells
      obtain ⟨b, off, cp, e1, l1, k1, x0, x1, x2⟩ := RdMk.at HR1.out.rd HM.out
      have hbl := HR1.out.lt
      subst e1
      go_region
      have hg2 := grown_then (grown_then HG1.out (World.grownBy_alloc w1 (.cells #[.int .i64 m.k, .int .i64 m.p, .string m.t] 98) none) (by simp)) (grown_drewN _ 1 none) (by simp)
      have hr2 := (HR1.out.kept (World.grownBy_alloc w1 (.cells #[.int .i64 m.k, .int .i64 m.p, .string m.t] 98) none)).kept (grown_drewN _ 1 none)
      have hb2 : ((w1.alloc (.cells #[.int .i64 m.k, .int .i64 m.p, .string m.t] 98)).drewN 1).heap[w1.heap.size]? = some (.cells #[.int .i64 m.k, .int .i64 m.p, .string m.t] 98 (0, 0)) := World.alloc_heap_new w1 _
      rw [show (w1.alloc (.cells #[.int .i64 m.k, .int .i64 m.p, .string m.t] 98)).drew = (w1.alloc (.cells #[.int .i64 m.k, .int .i64 m.p, .string m.t] 98)).drewN 1 from rfl]
      have HG2 := Lib.hid hg2
      have HR2 := Lib.hid hr2
      have HB2 := Lib.hid hb2
      clear hg2 hr2 hb2 c0 c1 c2 c3 x0 x1 x2
      generalize (w1.alloc (.cells #[.int .i64 m.k, .int .i64 m.p, .string m.t] 98)).drewN 1 = w2 at *
      obtain ⟨c0, c1, c2, c3⟩ := HR2.out.cells
      have D0 : w2.cell? ⟨w1.heap.size, 0, none⟩ = some (.int .i64 m.k) := by have := HB2.out; simp [World.cell?, this]
      have D2 : w2.cell? ⟨w1.heap.size, 2, none⟩ = some (.string m.t) := by have := HB2.out; simp [World.cell?, this]
      rw [HKK.out] at D0
      go_wp2
      go_ret
      rw [HQ.out]
      obtain ⟨q1, q2, q3⟩ := atom_leaf HG2.out HR2.out ⟨3, m.t, 0⟩
      exact PRet.good q1 q2 q3
    · have HQ : Hid (pAtom E L p = ⟨true, leafF 1 ⟨#[]⟩, p + 1⟩) := by exact pAtom_em (by rw [HMK.out]; exact hk)
      have HKK := Lib.hid hk
      clear hk
      go_enter Try.func112, Try.ntmps112
      go_wp2_with (first | (go_at_call 77; refine (HK.out).mono ?_; rintro e w1 ⟨rfl, hr1, hg1⟩; have HR1 := Lib.hid hr1; have HG1 := Lib.hid hg1; clear hr1 hg1) | (go_at_call 101; refine (HB.out _).mono ?_; rintro e w' ⟨rfl, rfl⟩))
      obtain ⟨c0, c1, c2, c3⟩ := HR1.out.cells
      obtain ⟨b, off, cp, e1, l1, k1, x0, x1, x2⟩ := RdMk.at HR1.out.rd HM.out
      have hbl := HR1.out.lt
      subst e1
      go_region
      have hg2 := grown_then (grown_then HG1.out (World.grownBy_alloc w1 (.cells #[.int .i64 m.k, .int .i64 m.p, .string m.t] 98) none) (by simp)) (grown_drewN _ 1 none) (by simp)
      have hr2 := (HR1.out.kept (World.grownBy_alloc w1 (.cells #[.int .i64 m.k, .int .i64 m.p, .string m.t] 98) none)).kept (grown_drewN _ 1 none)
      have hb2 : ((w1.alloc (.cells #[.int .i64 m.k, .int .i64 m.p, .string m.t] 98)).drewN 1).heap[w1.heap.size]? = some (.cells #[.int .i64 m.k, .int .i64 m.p, .string m.t] 98 (0, 0)) := World.alloc_heap_new w1 _
      rw [show (w1.alloc (.cells #[.int .i64 m.k, .int .i64 m.p, .string m.t] 98)).drew = (w1.alloc (.cells #[.int .i64 m.k, .int .i64 m.p, .string m.t] 98)).drewN 1 from rfl]
      have HG2 := Lib.hid hg2
      have HR2 := Lib.hid hr2
      have HB2 := Lib.hid hb2
      clear hg2 hr2 hb2 c0 c1 c2 c3 x0 x1 x2
      generalize (w1.alloc (.cells #[.int .i64 m.k, .int .i64 m.p, .string m.t] 98)).drewN 1 = w2 at *
      obtain ⟨c0, c1, c2, c3⟩ := HR2.out.cells
      have D0 : w2.cell? ⟨w1.heap.size, 0, none⟩ = some (.int .i64 m.k) := by have := HB2.out; simp [World.cell?, this]
      have D2 : w2.cell? ⟨w1.heap.size, 2, none⟩ = some (.string m.t) := by have := HB2.out; simp [World.cell?, this]
      rw [HKK.out] at D0
      go_wp2
      go_ret
      rw [HQ.out]
      obtain ⟨q1, q2, q3⟩ := atom_leaf HG2.out HR2.out ⟨1, ⟨#[]⟩, 0⟩
      exact PRet.good q1 q2 q3
    · have HQ : Hid _ := pAtom_op (E := E) (L := L) (p := p) (by rw [HMK.out]; exact hk)
      have HKK := Lib.hid hk
      clear hk
      go_enter Try.func112, Try.ntmps112
      go_wp2_with (first | (go_at_call 77; refine (HK.out).mono ?_; rintro e w1 ⟨rfl, hr1, hg1⟩; have HR1 := Lib.hid hr1; have HG1 := Lib.hid hg1; clear hr1 hg1) | (go_at_call 101; refine (HB.out _).mono ?_; rintro e w' ⟨rfl, rfl⟩))
      obtain ⟨c0, c1, c2, c3⟩ := HR1.out.cells
      obtain ⟨b, off, cp, e1, l1, k1, x0, x1, x2⟩ := RdMk.at HR1.out.rd HM.out
      have hbl := HR1.out.lt
      subst e1
      go_region
      have hg2 := grown_then (grown_then HG1.out (World.grownBy_alloc w1 (.cells #[.int .i64 m.k, .int .i64 m.p, .string m.t] 98) none) (by simp)) (grown_drewN _ 1 none) (by simp)
      have hr2 := (HR1.out.kept (World.grownBy_alloc w1 (.cells #[.int .i64 m.k, .int .i64 m.p, .string m.t] 98) none)).kept (grown_drewN _ 1 none)
      have hb2 : ((w1.alloc (.cells #[.int .i64 m.k, .int .i64 m.p, .string m.t] 98)).drewN 1).heap[w1.heap.size]? = some (.cells #[.int .i64 m.k, .int .i64 m.p, .string m.t] 98 (0, 0)) := World.alloc_heap_new w1 _
      rw [show (w1.alloc (.cells #[.int .i64 m.k, .int .i64 m.p, .string m.t] 98)).drew = (w1.alloc (.cells #[.int .i64 m.k, .int .i64 m.p, .string m.t] 98)).drewN 1 from rfl]
      have HG2 := Lib.hid hg2
      have HR2 := Lib.hid hr2
      have HB2 := Lib.hid hb2
      clear hg2 hr2 hb2 c0 c1 c2 c3 x0 x1 x2
      generalize (w1.alloc (.cells #[.int .i64 m.k, .int .i64 m.p, .string m.t] 98)).drewN 1 = w2 at *
      obtain ⟨c0, c1, c2, c3⟩ := HR2.out.cells
      have D0 : w2.cell? ⟨w1.heap.size, 0, none⟩ = some (.int .i64 m.k) := by have := HB2.out; simp [World.cell?, this]
      have D2 : w2.cell? ⟨w1.heap.size, 2, none⟩ = some (.string m.t) := by have := HB2.out; simp [World.cell?, this]
      rw [HKK.out] at D0
      go_wp2_with fail
      have hr3 := HR2.out.step (p + 1)
      have hg3 := grown_then (grown_none (row := some Br) HG2.out) (grown_set w2 Br 1 (.int .i64 ((p + 1 : Nat) : Int))) (by simp)
      rw [show ((p : Int) + 1) = ((p + 1 : Nat) : Int) from by omega]
      have HR3 := Lib.hid hr3
      have HG3 := Lib.hid hg3
      have hq := hE (by omega)
      clear hr3 hg3 c0 c1 c2 c3 D0 D2 HB2 HG2 HR2
      generalize w2.setCell ⟨Br, 1, none⟩ (.int .i64 ((p + 1 : Nat) : Int)) = w3 at *
      refine (HEh.out w3 HR3.out (by omega)).mono ?_
      generalize E (p + 1) = r at *
      obtain ⟨ok, f, q⟩ := r
      rintro e w4 ⟨hg4, ⟨hok, v, rfl, ho, hr4⟩ | ⟨hok, rfl⟩⟩
      · simp only at hok ho hr4 hq
        subst hok
        have HG4 := Lib.hid (HG3.out.trans hg4)
        have HO := Lib.hid (ho.lower HG3.out.size)
        have HK4 := Lib.hid (xKind_any Br _ L q en w4 hr4 hq)
        have HR4 := Lib.hid hr4
        clear hg4 ho hr4
        by_cases hc : kd L q = 11
        · have hql := kd_lt (L := L) (p := q) (by omega)
          have HQ2 : Hid (pAtom E L p = ⟨true, f, q + 1⟩) := by unfold Hid; rw [HQ.out]; simp [hc]
          rw [hc] at HK4
          clear HQ hc
          go_wp2_with (go_at_call 77; refine (HK4.out).mono ?_; rintro e w5 ⟨rfl, hr5, hg5⟩; have HR5 := Lib.hid hr5; have HG5 := Lib.hid hg5; clear hr5 hg5; obtain ⟨c0, c1, c2, c3⟩ := HR5.out.cells)
          go_ret
          rw [HQ2.out]
          refine PRet.good (grown_then (grown_then HG4.out HG5.out (by simp)) (grown_set w5 Br 1 _) (by simp)) ?_ (HR5.out.step (q + 1))
          exact (HO.out.grown HG5.out (by simp)).grown (grown_set w5 Br 1 _) (fun j hj => by simp at hj; subst hj; exact HR.out.lt)
        · have HQ2 : Hid (pAtom E L p = ⟨false, .nil, q⟩) := by unfold Hid; rw [HQ.out]; simp [hc]
          have hc' : (kd L q != 11) = true := by simpa using hc
          clear HQ hc
          generalize kd L q = k2 at *
          go_wp2_with (first | (go_at_call 77; refine (HK4.out).mono ?_; rintro e w5 ⟨rfl, hr5, hg5⟩; have HR5 := Lib.hid hr5; have HG5 := Lib.hid hg5; clear hr5 hg5) | (go_at_call 48; refine (xFail_any Br _ L q en _ HR5.out hq).mono ?_; rintro e w6 ⟨rfl, hg6⟩))
          refine ⟨rfl, ?_⟩
          rw [HQ2.out]
          exact PRet.bad (grown_then (grown_then HG4.out HG5.out (by simp)) hg6 (by simp))
      · simp only at hok
        subst hok
        have HQ2 : Hid (pAtom E L p = ⟨false, f, q⟩) := by unfold Hid; rw [HQ.out]; simp
        go_wp2_with fail
        refine ⟨rfl, ?_⟩
        rw [HQ2.out]
        exact PRet.bad (HG3.out.trans hg4)
  · have hb' : beginsI (kd L p) = false := by simpa using hb
    rw [pAtom_no hb']
    have HB : Hid (∀ w, Calls Try.prog 101 #[.int .i64 (kd L p)] w fun e w' => e = .returned (.bool false) ∧ w = w') := by
      intro w; rw [← hb']; exact xBegins_any _ _
    clear hb hb'
    generalize kd L p = k at *
    go_enter Try.func112, Try.ntmps112
    go_wp2_with (first | (go_at_call 77; refine (HK.out).mono ?_; rintro e w1 ⟨rfl, hr1, hg1⟩; have HR1 := Lib.hid hr1; have HG1 := Lib.hid hg1; clear hr1 hg1) | (go_at_call 101; refine (HB.out _).mono ?_; rintro e w' ⟨rfl, rfl⟩) | (go_at_call 48; refine (xFail_any Br vl L p en _ HR1.out hp).mono ?_; rintro e w2 ⟨rfl, hg2⟩))
    exact ⟨rfl, PRet.bad (grown_then (grown_none HG1.out) hg2 (by simp))⟩
end Go.Proofs.Ytbpipnjdfmpbdaa
