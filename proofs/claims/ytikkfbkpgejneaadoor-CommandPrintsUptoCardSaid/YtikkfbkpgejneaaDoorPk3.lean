/- The walks and facts that the laws lean on, part 3. No condition of its own: each theorem tells its own. -/
import Derived.Test.YtikkfbkpgejneaaDoorPk2
import Derived.BigQuiet
import Derived.Deep.DeepCutAuto
import Derived.Stop.LaidErr
import Derived.Lib.ItoaLen
import Derived.Test.YtikkfbkpgejneaaDoorRows
import Derived.Deep.DeepHandedRow
import Derived.Deep.DeepLaidRun
import Derived.Lib.LaidTab
import Derived.Shelf.Vars
import Derived.SizedLaws
import Derived.Deep.Strs
import Derived.WideShapes
/- line: the line of a command. -/
namespace Go.Proofs.YtikkfbkpgejneaaDoor
open Go.RowKit Go.Shelf

/-- the evaluator's word, if there is one -/
def howL (c : Cmd) : List ByteArray := if c.h = 0 then [] else [hows.getD (c.h - 1).toNat emptyB]
/-- the words of a command's line -/
def lineW (c : Cmd) (x : Vb) : List ByteArray := x.s :: (howL c ++ c.ns ++ c.ks.map fun n => mkB (Lib.itoa n))
/-- a command's line, where its verb is x -/
def lineX (c : Cmd) (x : Vb) : ByteArray × Bool :=
  if x.t then (x.s ++ sp ++ c.t, decide (c.h = 0) && decide (c.ns.length = 0) && ((c.ks.length : Int) == 0))
  else if c.h < 0 ∨ 3 < c.h then (emptyB, false)
  else (mkB (Lib.join ((lineW c x).map (·.data.toList)) [32]), decide (c.t = emptyB))
def lineC (c : Cmd) : ByteArray × Bool :=
  if c.v < 1 ∨ 10 < c.v then (emptyB, false) else match VT[(c.v - 1).toNat]? with | none => (emptyB, false) | some x => lineX c x
/-- within what a line's walk can build -/
structure SmC (c : Cmd) : Prop where
  big : BigC c
  ns : c.ns.length ≤ 1048576
  nm : ∀ m ∈ c.ns, m.size ≤ 1048576
  ks : c.ks.length ≤ 1048576
  kb : ∀ n ∈ c.ks, -9223372036854775808 ≤ n ∧ n ≤ 9223372036854775807
  tx : c.t.size ≤ 140737488355328

def lnF (B : Nat) (h : Int) : Nat → Value → World → Prop
  | 55, u, _ => u = .pointer (some ⟨B, 1, none⟩)
  | 56, u, _ => u = .int .i64 h
  | 57, u, _ => u = .bool false
  | 58, u, _ => u = .bool false
  | 59, u, _ => u = .pointer (some ⟨B, 1, none⟩)
  | 60, u, _ => u = .int .i64 h
  | 61, u, _ => ∃ b, u = .slice (some ⟨b, 0, none⟩) 3 3
  | 62, u, _ => u = .int .i64 3
  | 63, u, _ => u = .bool (decide (3 < h))
  | 64, u, _ => u = .bool (decide (3 < h))
  | _, _, _ => True
theorem lnF_below (B : Nat) (h : Int) : ∀ d u w w', lnF B h d u w → Below w.heap.size w w' → lnF B h d u w' := by
  intro d u w w' h _
  unfold lnF at h ⊢
  split at h
  all_goals exact h
/-- behind region 11 -/
def lnG (B g C k : Nat) (s hw : ByteArray) : Nat → Value → World → Prop
  | 65, u, _ => u = .slice (some ⟨g, 0, none⟩) 1 1
  | 66, u, w => ∃ b, u = .slice (some ⟨b, 0, none⟩) 3 3 ∧ b < w.heap.size ∧ w.cell? ⟨b, k, none⟩ = some (.string hw)
  | 67, u, _ => u = .pointer (some ⟨B, 1, none⟩)
  | 68, u, _ => u = .int .i64 ((k : Int) + 1)
  | 69, u, _ => u = .int .i64 (k : Int)
  | 70, u, w => ∃ b, u = .pointer (some ⟨b, k, none⟩) ∧ b < w.heap.size ∧ w.cell? ⟨b, k, none⟩ = some (.string hw)
  | 71, u, _ => u = .string hw
  | 72, u, w => ∃ b, u = .slice (some ⟨b, 0, none⟩) 1 1 ∧ b < w.heap.size ∧ w.cell? ⟨b, 0, none⟩ = some (.string hw)
  | 73, u, w => w.ownsRow C 9 1 u 2 [.string s, .string hw]
  | _, _, _ => True
theorem lnG_below (B g C k : Nat) (s hw : ByteArray) : ∀ d u w w', lnG B g C k s hw d u w → Below w.heap.size w w' → lnG B g C k s hw d u w' := by
  intro d u w w' h hb
  unfold lnG at h ⊢
  split at h
  all_goals first
    | exact h
    | (obtain ⟨b, h1, h2, h3⟩ := h; exact ⟨b, h1, Nat.lt_of_lt_of_le h2 hb.size, (hb.cell (p := ⟨b, _, none⟩) h2).trans h3⟩)
    | exact own_grown h (grown_below hb) (fun j hj => by cases hj)
/-- behind region 18 -/
def lnJ (B g n cap : Nat) (J t : ByteArray) (bt : Bool) : Nat → Value → World → Prop
  | 91, u, _ => u = .slice (some ⟨g, 0, none⟩) n cap
  | 92, u, _ => u = .string J
  | 93, u, _ => u = .pointer (some ⟨B, 4, none⟩)
  | 94, u, _ => u = .string t
  | 95, u, _ => u = .bool bt
  | 2, u, _ => u = .string J
  | 3, u, _ => u = .bool bt
  | _, _, _ => True
theorem lnJ_below (B g n cap : Nat) (J t : ByteArray) (bt : Bool) : ∀ d u w w', lnJ B g n cap J t bt d u w → Below w.heap.size w w' → lnJ B g n cap J t bt d u w' := by
  intro d u w w' h _
  unfold lnJ at h ⊢
  split at h
  all_goals exact h
theorem join_le {l : List (List UInt8)} {sep : List UInt8} {K : Nat} (h : ∀ x ∈ l, x.length ≤ K) : (Lib.join l sep).length ≤ l.length * (K + sep.length) := by
  cases l with
  | nil => simp [Lib.join_nil]
  | cons x r =>
    have h0 := h x (by simp)
    have h2 : ∀ r : List (List UInt8), (∀ x ∈ r, x.length ≤ K) → (Lib.joinTail sep r).length ≤ r.length * (K + sep.length) := by
      intro r
      induction r with
      | nil => simp [Lib.joinTail]
      | cons y r ih =>
        intro hy
        have h1 := hy y (by simp)
        have h3 := ih fun z hz => hy z (List.mem_cons_of_mem _ hz)
        have e : Lib.joinTail sep (y :: r) = sep ++ y ++ Lib.joinTail sep r := by simp [Lib.joinTail]
        rw [e, List.length_append, List.length_append, List.length_cons, Nat.add_mul, Nat.one_mul]
        omega
    have h3 := h2 r fun z hz => h z (List.mem_cons_of_mem _ hz)
    rw [List.length_cons, Nat.add_mul, Nat.one_mul, Lib.join_cons, List.length_append]
    omega
theorem VT_s : ∀ v ∈ VT, v.s.size ≤ 16 := by decide
set_option maxRecDepth 100000 in
set_option maxHeartbeats 6400000 in
theorem line_any (va : Value) (c : Cmd) (w : World) (hg : Gb w) (hr : RdCm w va c) (sm : SmC c) :
    Calls Tryd.prog 33 #[va] w fun e w' => e = .returned (.tuple #[.string (lineC c).1, .bool (lineC c).2]) ∧ Below w.heap.size w w' := by
  obtain ⟨an, am, ak, al, rfl, a1, a2⟩ := hr
  have HA1 := Lib.hid a1
  have HA2 := Lib.hid a2
  have HSm := Lib.hid sm
  have HG := Lib.hid hg
  clear a1 a2 sm hg
  by_cases hv0 : c.v < 1
  · have HE : Hid (lineC c = (emptyB, false)) := by unfold Hid lineC; rw [if_pos (.inl hv0)]
    go_enter Tryd.func33, Tryd.ntmps33
    go_wp2_with fail
    refine (verbs_any _).mono ?_
    rintro e w3 ⟨v, P, rfl, hvs, hb⟩
    have hbx := (hb.block w.heap.size (by simp)).trans (heap_alloc_new w (.cells #[.int .i64 c.v, .int .i64 c.h, .slice an c.ns.length am, .slice ak c.ks.length al, .string c.t] 27))
    have HB3 : Hid (Below w.heap.size w w3) := (below1 w _).trans (hb.mono (below1 w _).size)
    have q0 : w3.cell? ⟨w.heap.size, 0, none⟩ = some (.int .i64 c.v) := by simp [World.cell?, hbx]
    clear hb hvs hbx
    go_wp2_with fail
    refine bodyPost_ret (results_tmp2 rfl _ _ _) rfl ?_
    exact ⟨by rw [HE.out]; rfl, HB3.out⟩
  by_cases hv1 : 10 < c.v
  · have HE : Hid (lineC c = (emptyB, false)) := by unfold Hid lineC; rw [if_pos (.inr hv1)]
    go_enter Tryd.func33, Tryd.ntmps33
    go_wp2_with fail
    refine (verbs_any _).mono ?_
    rintro e w3 ⟨v, P, rfl, hvs, hb⟩
    have hbx := (hb.block w.heap.size (by simp)).trans (heap_alloc_new w (.cells #[.int .i64 c.v, .int .i64 c.h, .slice an c.ns.length am, .slice ak c.ks.length al, .string c.t] 27))
    have HB3 : Hid (Below w.heap.size w w3) := (below1 w _).trans (hb.mono (below1 w _).size)
    have q0 : w3.cell? ⟨w.heap.size, 0, none⟩ = some (.int .i64 c.v) := by simp [World.cell?, hbx]
    obtain ⟨b, off, cap, rfl, -, -, -⟩ := hvs.vcAt (i := 0) rfl
    clear hb hvs hbx
    go_wp2_with fail
    refine bodyPost_ret (results_tmp2 rfl _ _ _) rfl ?_
    exact ⟨by rw [HE.out]; rfl, HB3.out⟩
  obtain ⟨i, hv⟩ : ∃ i : Nat, c.v = (i : Int) + 1 := ⟨(c.v - 1).toNat, by omega⟩
  have hi : i < 10 := by omega
  obtain ⟨x, hx⟩ : ∃ x, VT[i]? = some x := ⟨_, List.getElem?_eq_getElem (by simpa [VT] using hi)⟩
  have HE : Hid (lineC c = lineX c x) := by
    unfold Hid lineC; rw [if_neg (by omega), show (c.v - 1).toNat = i from by omega, hx]
  have HX := Lib.hid hx
  clear hv0 hv1 hx
  go_enter Tryd.func33, Tryd.ntmps33
  go_wp2_with fail
  refine (verbs_any _).mono ?_
  rintro e w3 ⟨v, P, rfl, hvs, hb⟩
  have hbx := (hb.block w.heap.size (by simp)).trans (heap_alloc_new w (.cells #[.int .i64 ((i : Int) + 1), .int .i64 c.h, .slice an c.ns.length am, .slice ak c.ks.length al, .string c.t] 27))
  have HB3 : Hid (Below w.heap.size w w3) := (below1 w _).trans (hb.mono (below1 w _).size)
  obtain ⟨b, off, cap, rfl, hcap, hbl, ao, ac, c0, c1, c2, c3, hpt⟩ := hvs.vcAt HX.out
  have HK3 := Lib.hid hbx
  have q0 : w3.cell? ⟨w.heap.size, 0, none⟩ = some (.int .i64 ((i : Int) + 1)) := by simp [World.cell?, hbx]
  have q1 : w3.cell? ⟨w.heap.size, 1, none⟩ = some (.int .i64 c.h) := by simp [World.cell?, hbx]
  have q2 : w3.cell? ⟨w.heap.size, 2, none⟩ = some (.slice an c.ns.length am) := by simp [World.cell?, hbx]
  have q3 : w3.cell? ⟨w.heap.size, 3, none⟩ = some (.slice ak c.ks.length al) := by simp [World.cell?, hbx]
  have q4 : w3.cell? ⟨w.heap.size, 4, none⟩ = some (.string c.t) := by simp [World.cell?, hbx]
  clear hb hvs hbx hpt
  have s1 : x.s.size ≤ 16 := VT_s x (List.mem_of_getElem? HX.out)
  have s2 : c.t.size ≤ 140737488355328 := HSm.out.tx
  cases hxt : x.t with
  | true =>
    rw [hxt] at c2
    have HX2 : Hid (lineX c x = (x.s ++ sp ++ c.t, decide (c.h = 0) && decide (c.ns.length = 0) && ((c.ks.length : Int) == 0))) := by unfold Hid lineX; rw [hxt]; rfl
    by_cases h1 : c.h = 0
    · have e1 : (c.h == 0) = true := by simpa using h1
      by_cases h2 : c.ns.length = 0
      · have e2 : ((c.ns.length : Int) == 0) = true := beq_iff_eq.2 (by omega)
        have HX3 : Hid (lineX c x = (x.s ++ sp ++ c.t, ((c.ks.length : Int) == 0))) := by unfold Hid; rw [HX2.out, decide_eq_true h1, decide_eq_true h2]; rfl
        go_wp2_with fail
        have hn := heap_alloc_new w3 (.cells #[.int .i64 x.n, .string x.s, .bool true, .slice ao x.k.length ac] 51)
        have hB4 := HB3.out.alloc HB3.out.size (.cells #[.int .i64 x.n, .string x.s, .bool true, .slice ao x.k.length ac] 51)
        have d1 : (w3.alloc (.cells #[.int .i64 x.n, .string x.s, .bool true, .slice ao x.k.length ac] 51)).cell? ⟨w3.heap.size, 1, none⟩ = some (.string x.s) := by unfold World.cell?; rw [hn]; rfl
        have p1 := cell?_alloc_old (.cells #[.int .i64 x.n, .string x.s, .bool true, .slice ao x.k.length ac] 51) q1
        have p2 := cell?_alloc_old (.cells #[.int .i64 x.n, .string x.s, .bool true, .slice ao x.k.length ac] 51) q2
        have p3 := cell?_alloc_old (.cells #[.int .i64 x.n, .string x.s, .bool true, .slice ao x.k.length ac] 51) q3
        have p4 := cell?_alloc_old (.cells #[.int .i64 x.n, .string x.s, .bool true, .slice ao x.k.length ac] 51) q4
        have HB4 := Lib.hid hB4
        clear hn hB4
        generalize w3.alloc (.cells #[.int .i64 x.n, .string x.s, .bool true, .slice ao x.k.length ac] 51) = w4 at *
        generalize w3.heap.size = b5 at *
        clear q0 q1 q2 q3 q4 c0 c1 c2 c3
        go_quiet (fail)
        go_wp2
        refine bodyPost_ret (results_tmp2 rfl _ _ _) rfl ?_
        exact ⟨by rw [HE.out, HX3.out]; rfl, below_drewN HB4.out _⟩
      · have e2 : ((c.ns.length : Int) == 0) = false := beq_eq_false_iff_ne.2 (by omega)
        have HX3 : Hid (lineX c x = (x.s ++ sp ++ c.t, false)) := by unfold Hid; rw [HX2.out, decide_eq_false h2]; simp
        go_wp2_with fail
        have hn := heap_alloc_new w3 (.cells #[.int .i64 x.n, .string x.s, .bool true, .slice ao x.k.length ac] 51)
        have hB4 := HB3.out.alloc HB3.out.size (.cells #[.int .i64 x.n, .string x.s, .bool true, .slice ao x.k.length ac] 51)
        have d1 : (w3.alloc (.cells #[.int .i64 x.n, .string x.s, .bool true, .slice ao x.k.length ac] 51)).cell? ⟨w3.heap.size, 1, none⟩ = some (.string x.s) := by unfold World.cell?; rw [hn]; rfl
        have p1 := cell?_alloc_old (.cells #[.int .i64 x.n, .string x.s, .bool true, .slice ao x.k.length ac] 51) q1
        have p2 := cell?_alloc_old (.cells #[.int .i64 x.n, .string x.s, .bool true, .slice ao x.k.length ac] 51) q2
        have p3 := cell?_alloc_old (.cells #[.int .i64 x.n, .string x.s, .bool true, .slice ao x.k.length ac] 51) q3
        have p4 := cell?_alloc_old (.cells #[.int .i64 x.n, .string x.s, .bool true, .slice ao x.k.length ac] 51) q4
        have HB4 := Lib.hid hB4
        clear hn hB4
        generalize w3.alloc (.cells #[.int .i64 x.n, .string x.s, .bool true, .slice ao x.k.length ac] 51) = w4 at *
        generalize w3.heap.size = b5 at *
        clear q0 q1 q2 q3 q4 c0 c1 c2 c3
        go_quiet (fail)
        go_wp2
        refine bodyPost_ret (results_tmp2 rfl _ _ _) rfl ?_
        exact ⟨by rw [HE.out, HX3.out]; rfl, below_drewN HB4.out _⟩
    · have e1 : (c.h == 0) = false := by simpa using h1
      have HX3 : Hid (lineX c x = (x.s ++ sp ++ c.t, false)) := by unfold Hid; rw [HX2.out, decide_eq_false h1]; simp
      go_wp2_with fail
      have hn := heap_alloc_new w3 (.cells #[.int .i64 x.n, .string x.s, .bool true, .slice ao x.k.length ac] 51)
      have hB4 := HB3.out.alloc HB3.out.size (.cells #[.int .i64 x.n, .string x.s, .bool true, .slice ao x.k.length ac] 51)
      have d1 : (w3.alloc (.cells #[.int .i64 x.n, .string x.s, .bool true, .slice ao x.k.length ac] 51)).cell? ⟨w3.heap.size, 1, none⟩ = some (.string x.s) := by unfold World.cell?; rw [hn]; rfl
      have p1 := cell?_alloc_old (.cells #[.int .i64 x.n, .string x.s, .bool true, .slice ao x.k.length ac] 51) q1
      have p2 := cell?_alloc_old (.cells #[.int .i64 x.n, .string x.s, .bool true, .slice ao x.k.length ac] 51) q2
      have p3 := cell?_alloc_old (.cells #[.int .i64 x.n, .string x.s, .bool true, .slice ao x.k.length ac] 51) q3
      have p4 := cell?_alloc_old (.cells #[.int .i64 x.n, .string x.s, .bool true, .slice ao x.k.length ac] 51) q4
      have HB4 := Lib.hid hB4
      clear hn hB4
      generalize w3.alloc (.cells #[.int .i64 x.n, .string x.s, .bool true, .slice ao x.k.length ac] 51) = w4 at *
      generalize w3.heap.size = b5 at *
      clear q0 q1 q2 q3 q4 c0 c1 c2 c3
      go_quiet (fail)
      go_wp2
      refine bodyPost_ret (results_tmp2 rfl _ _ _) rfl ?_
      exact ⟨by rw [HE.out, HX3.out]; rfl, below_drewN HB4.out _⟩
  | false =>
    rw [hxt] at c2
    have p1 := cell?_alloc_old (.cells #[.string x.s] 9) (cell?_alloc_old (.cells #[.int .i64 x.n, .string x.s, .bool false, .slice ao x.k.length ac] 51) q1)
    have p2 := cell?_alloc_old (.cells #[.string x.s] 9) (cell?_alloc_old (.cells #[.int .i64 x.n, .string x.s, .bool false, .slice ao x.k.length ac] 51) q2)
    have p3 := cell?_alloc_old (.cells #[.string x.s] 9) (cell?_alloc_old (.cells #[.int .i64 x.n, .string x.s, .bool false, .slice ao x.k.length ac] 51) q3)
    have p4 := cell?_alloc_old (.cells #[.string x.s] 9) (cell?_alloc_old (.cells #[.int .i64 x.n, .string x.s, .bool false, .slice ao x.k.length ac] 51) q4)
    have HW5 := Lib.hid ((HB3.out.alloc HB3.out.size (.cells #[.int .i64 x.n, .string x.s, .bool false, .slice ao x.k.length ac] 51)).alloc (HB3.out.alloc HB3.out.size (.cells #[.int .i64 x.n, .string x.s, .bool false, .slice ao x.k.length ac] 51)).size (.cells #[.string x.s] 9))
    have ho5 := own_one (w3.alloc (.cells #[.int .i64 x.n, .string x.s, .bool false, .slice ao x.k.length ac] 51)) x.s
    have hz5 : (w3.alloc (.cells #[.int .i64 x.n, .string x.s, .bool false, .slice ao x.k.length ac] 51)).heap.size = w3.heap.size + 1 := by simp
    rw [hz5] at ho5
    have HO5 := Lib.hid (own_lower ho5 (show w.heap.size + 1 ≤ w3.heap.size + 1 by have := HB3.out.size; omega))
    clear hz5 ho5
    go_upto_if 54 with (fail)
    generalize (w3.alloc (.cells #[.int .i64 x.n, .string x.s, .bool false, .slice ao x.k.length ac] 51)).alloc (.cells #[.string x.s] 9) = w5 at *
    go_cut [6] from 54 to 73 (fun u wx => ∃ ao2 m2 c2, u = .slice ao2 m2 c2 ∧ Hid (wx.ownsRow (w.heap.size + 1) 9 1 (.slice ao2 m2 c2) (howL c).length.succ (strV (x.s :: howL c))) ∧ Hid (Below w.heap.size w wx) ∧ Hid (Below w5.heap.size w5 wx) ∧ Hid (0 ≤ c.h ∧ c.h ≤ 3))
    case first =>
      by_cases hz : c.h = 0
      · have e1 : (c.h != 0) = false := by simpa using hz
        have hL : howL c = [] := by unfold howL; rw [if_pos hz]
        go_wp2_with fail
        go_meet
        exact ⟨_, _, _, rfl, by unfold Hid; rw [hL]; exact HO5.out, HW5.out, Below.refl _ _, by unfold Hid; omega⟩
      · by_cases hneg : c.h < 0
        · have HX2 : Hid (lineX c x = (emptyB, false)) := by unfold Hid lineX; rw [hxt]; simp [hneg]
          have e1 : (c.h != 0) = true := by simp; omega
          have e2 : decide (c.h < 0) = true := by simpa using hneg
          go_wp2_with fail
          go_quiet (fail)
          go_wp2
          refine bodyPost_ret (results_tmp2 rfl _ _ _) rfl ?_
          exact ⟨by rw [HE.out, HX2.out]; rfl, below_drewN HW5.out _⟩
        · have e1 : (c.h != 0) = true := by simpa using hz
          have e2 : decide (c.h < 0) = false := by simpa using hneg
          go_wp2_with fail
          generalize hb1 : w.heap.size = B at *
          generalize w3.heap.size = b5 at *
          have hsz5 : B ≤ w5.heap.size := by have := HW5.out.size; omega
          have hBl : B < w5.heap.size := World.block_lt_of_cell? w5 ⟨B, 1, none⟩ p1
          refine wp_region_guards (by kernel_rfl) (lnF B c.h) (lnF_below B c.h) (by kernel_rfl) ⟨trivial, trivial, trivial, trivial, ⟨by kernel_rfl, 58, by kernel_rfl, fun v w h => h⟩, ⟨by kernel_rfl, 58, by kernel_rfl, fun v w h => h⟩, ⟨by kernel_rfl, 58, by kernel_rfl, fun v w h => h⟩, ⟨by kernel_rfl, 58, by kernel_rfl, fun v w h => h⟩, ⟨by kernel_rfl, 58, by kernel_rfl, fun v w h => h⟩, trivial, trivial⟩ (by kernel_rfl) (by kernel_rfl) ?step ?fin
          case step =>
            refine ⟨?_, ?_, ?_, ?_, ?_, ?_, ?_, ?_, ?_, ?_, trivial⟩
            all_goals intro ac2 wr hA hD
            all_goals have e1' : ac2.tmps[1]?.getD undef = .pointer (some ⟨B, 0, none⟩) := by simpa using hA.frame 1 (by kernel_rfl)
            all_goals have r1 : wr.cell? ⟨B, 1, none⟩ = some (.int .i64 c.h) := (hA.below.cell (p := ⟨B, 1, none⟩) hBl).trans p1
            all_goals clear hA
            · clear hD
              go_simp
              exact ⟨_, rfl, Below.refl _ _, rfl⟩
            · have e55 : ac2.tmps[55]?.getD undef = .pointer (some ⟨B, 1, none⟩) := by simpa using (show ac2.tmps.getD 55 undef = .pointer (some ⟨B, 1, none⟩) from hD 0 55 (by kernel_rfl) (by kernel_rfl))
              clear hD
              go_simp
              exact ⟨_, rfl, Below.refl _ _, rfl⟩
            · have e56 : ac2.tmps[56]?.getD undef = .int .i64 c.h := by simpa using (show ac2.tmps.getD 56 undef = .int .i64 c.h from hD 1 56 (by kernel_rfl) (by kernel_rfl))
              clear hD
              go_simp
              exact ⟨_, rfl, Below.refl _ _, rfl⟩
            · have e57 : ac2.tmps[57]?.getD undef = .bool false := by simpa using (show ac2.tmps.getD 57 undef = .bool false from hD 2 57 (by kernel_rfl) (by kernel_rfl))
              clear hD
              go_simp
              exact ⟨_, rfl, Below.refl _ _, rfl⟩
            · clear hD
              go_simp
              exact ⟨_, rfl, Below.refl _ _, rfl⟩
            · have e59 : ac2.tmps[59]?.getD undef = .pointer (some ⟨B, 1, none⟩) := by simpa using (show ac2.tmps.getD 59 undef = .pointer (some ⟨B, 1, none⟩) from hD 4 59 (by kernel_rfl) (by kernel_rfl))
              clear hD
              go_simp
              exact ⟨_, rfl, Below.refl _ _, rfl⟩
            · clear hD
              go_simp
              refine (hows_any _).mono ?_
              rintro e w7 ⟨rfl, rfl⟩
              exact ⟨_, rfl, below1 _ _, _, rfl⟩
            · obtain ⟨b61, e61⟩ : ∃ b, ac2.tmps.getD 61 undef = .slice (some ⟨b, 0, none⟩) 3 3 := hD 6 61 (by kernel_rfl) (by kernel_rfl)
              rw [Array.getD_eq_getD_getElem?] at e61
              clear hD
              go_simp
              exact ⟨_, rfl, Below.refl _ _, rfl⟩
            · have e60 : ac2.tmps[60]?.getD undef = .int .i64 c.h := by simpa using (show ac2.tmps.getD 60 undef = .int .i64 c.h from hD 5 60 (by kernel_rfl) (by kernel_rfl))
              have e62 : ac2.tmps[62]?.getD undef = .int .i64 3 := by simpa using (show ac2.tmps.getD 62 undef = .int .i64 3 from hD 7 62 (by kernel_rfl) (by kernel_rfl))
              clear hD
              go_simp
              exact ⟨_, rfl, Below.refl _ _, rfl⟩
            · have e58 : ac2.tmps[58]?.getD undef = .bool false := by simpa using (show ac2.tmps.getD 58 undef = .bool false from hD 3 58 (by kernel_rfl) (by kernel_rfl))
              have e63 : ac2.tmps[63]?.getD undef = .bool (decide (3 < c.h)) := by simpa using (show ac2.tmps.getD 63 undef = .bool (decide (3 < c.h)) from hD 8 63 (by kernel_rfl) (by kernel_rfl))
              clear hD
              go_simp
              exact ⟨_, rfl, Below.refl _ _, rfl⟩
          case fin =>
            intro ac2 wr hA hD
            have hT := tmps_put hA [55, 56, 57, 58, 59, 60, 61, 62, 63, 64] (by kernel_rfl)
            have e64 : ac2.tmps.getD 64 undef = .bool (decide (3 < c.h)) := hD 9 64 (by kernel_rfl)
            have e55 : ac2.tmps.getD 55 undef = .pointer (some ⟨B, 1, none⟩) := hD 0 55 (by kernel_rfl)
            have e56 : ac2.tmps.getD 56 undef = .int .i64 c.h := hD 1 56 (by kernel_rfl)
            have e57 : ac2.tmps.getD 57 undef = .bool false := hD 2 57 (by kernel_rfl)
            have e58 : ac2.tmps.getD 58 undef = .bool false := hD 3 58 (by kernel_rfl)
            have e59 : ac2.tmps.getD 59 undef = .pointer (some ⟨B, 1, none⟩) := hD 4 59 (by kernel_rfl)
            have e60 : ac2.tmps.getD 60 undef = .int .i64 c.h := hD 5 60 (by kernel_rfl)
            have e62 : ac2.tmps.getD 62 undef = .int .i64 3 := hD 7 62 (by kernel_rfl)
            have e63 : ac2.tmps.getD 63 undef = .bool (decide (3 < c.h)) := hD 8 63 (by kernel_rfl)
            obtain ⟨b61, e61⟩ : ∃ b, ac2.tmps.getD 61 undef = .slice (some ⟨b, 0, none⟩) 3 3 := hD 6 61 (by kernel_rfl)
            simp only [List.foldl_cons, List.foldl_nil, e55, e56, e57, e58, e59, e60, e61, e62, e63, e64] at hT
            simp only [List.setIfInBounds_toArray, List.set_cons_succ, List.set_cons_zero] at hT
            have hd : ac2.defers = [] := hA.defers
            have hBB := (HW5.out.trans ((Below.refl _ _).drew.mono hsz5)).trans (hA.below.mono hsz5)
            have HBB := Lib.hid hBB
            have HLr := Lib.hid hBl
            have HOr := Lib.hid (own_grown (kept_drew HO5.out) (grown_below hA.below) (fun j hj => by cases hj))
            have HB5r : Hid (Below w5.heap.size w5 wr) := (Below.refl _ _).drew.trans hA.below
            have r1 : wr.cell? ⟨B, 1, none⟩ = some (.int .i64 c.h) := (hA.below.cell (p := ⟨B, 1, none⟩) hBl).trans p1
            have r2 : wr.cell? ⟨B, 2, none⟩ = some (.slice an c.ns.length am) := (hA.below.cell (p := ⟨B, 2, none⟩) hBl).trans p2
            have r3 : wr.cell? ⟨B, 3, none⟩ = some (.slice ak c.ks.length al) := (hA.below.cell (p := ⟨B, 3, none⟩) hBl).trans p3
            have r4 : wr.cell? ⟨B, 4, none⟩ = some (.string c.t) := (hA.below.cell (p := ⟨B, 4, none⟩) hBl).trans p4
            clear hA hD hBB e55 e56 e57 e58 e59 e60 e61 e62 e63 e64 p1 p2 p3 p4 q0 q1 q2 q3 q4
            obtain ⟨T, D⟩ := ac2
            simp only at hT hd
            subst hd hT
            by_cases h3 : 3 < c.h
            · have HX2 : Hid (lineX c x = (emptyB, false)) := by unfold Hid lineX; rw [hxt]; simp [h3]
              have e3 : decide (3 < c.h) = true := by simpa using h3
              rw [e3]
              go_wp2
              refine bodyPost_ret (results_tmp2 rfl _ _ _) rfl ?_
              exact ⟨by rw [HE.out, HX2.out]; rfl, hb1 ▸ HBB.out⟩
            · obtain ⟨k, hk⟩ : ∃ k : Nat, c.h = (k : Int) + 1 := ⟨(c.h - 1).toNat, by omega⟩
              have hk3 : k < 3 := by omega
              have HhL : Hid (howL c = [hows.getD k emptyB]) := by unfold Hid howL; rw [if_neg hz, show (c.h - 1).toNat = k from by omega]
              have HhR : Hid (0 ≤ c.h ∧ c.h ≤ 3) := by unfold Hid; omega
              have hhk : ∀ w : World, (w.alloc (.cells (strV hows).toArray 9)).cell? ⟨w.heap.size, k, none⟩ = some (.string (hows.getD k emptyB)) := fun w => by
                have := cells_new w (strV hows) 9 k (.string (hows.getD k emptyB)) (by
                  match k, hk3 with
                  | 0, _ => rfl
                  | 1, _ => rfl
                  | 2, _ => rfl)
                simpa [Addr.add_lit] using this
              have HHK := Lib.hid hhk
              generalize hows.getD k emptyB = hw at *
              have e3 : decide (3 < c.h) = false := by simpa using h3
              rw [e3]
              rw [hk] at r1
              clear hz hneg h3 hhk e1 e2 e3
              generalize c.h = ch at *
              clear hk
              go_wp2_with fail
              have hwr : B + 1 ≤ wr.heap.size := Nat.le_trans HLr.out HB5r.out.size
              refine wp_region_last2 (m := 9) (by kernel_rfl) (lnG B (b5 + 1) (B + 1) k x.s hw) (lnG_below _ _ _ _ _ _) (by kernel_rfl) (by kernel_rfl) (by kernel_rfl) ?step2 rfl (by kernel_rfl) ?fin2
              case step2 =>
                refine ⟨?_, ?_, ?_, ?_, ?_, ?_, ?_, ?_, ?_, trivial⟩
                all_goals intro ac3 wz hA hD
                · have e6 : ac3.tmps[6]?.getD undef = .slice (some ⟨b5 + 1, 0, none⟩) 1 1 := by simpa using hA.frame 6 (by kernel_rfl)
                  clear hA hD
                  go_simp
                  exact ⟨_, rfl, Below.refl _ _, rfl⟩
                · clear hA hD
                  go_simp
                  refine (hows_any _).mono ?_
                  rintro e w7 ⟨rfl, rfl⟩
                  exact ⟨_, rfl, below1 _ _, _, rfl, by simp, HHK.out _⟩
                · have e1' : ac3.tmps[1]?.getD undef = .pointer (some ⟨B, 0, none⟩) := by simpa using hA.frame 1 (by kernel_rfl)
                  clear hA hD
                  go_simp
                  exact ⟨_, rfl, Below.refl _ _, rfl⟩
                · have e67 : ac3.tmps[67]?.getD undef = .pointer (some ⟨B, 1, none⟩) := by simpa using (show ac3.tmps.getD 67 undef = .pointer (some ⟨B, 1, none⟩) from hD 2 67 (by kernel_rfl) (by kernel_rfl))
                  have z1 : wz.cell? ⟨B, 1, none⟩ = some (.int .i64 ((k : Int) + 1)) := (hA.below.cell (p := ⟨B, 1, none⟩) (show B < wr.heap.size by omega)).trans r1
                  clear hA hD
                  go_simp
                  exact ⟨_, rfl, Below.refl _ _, rfl⟩
                · have e68 : ac3.tmps[68]?.getD undef = .int .i64 ((k : Int) + 1) := by simpa using (show ac3.tmps.getD 68 undef = .int .i64 ((k : Int) + 1) from hD 3 68 (by kernel_rfl) (by kernel_rfl))
                  clear hA hD
                  go_simp
                  exact ⟨_, rfl, Below.refl _ _, by show Value.int _ _ = Value.int _ _; congr 1; exact wrapSmall (k : Int) (by omega) (by omega)⟩
                · obtain ⟨b, e66, g1, g2⟩ : ∃ b, ac3.tmps.getD 66 undef = .slice (some ⟨b, 0, none⟩) 3 3 ∧ b < wz.heap.size ∧ wz.cell? ⟨b, k, none⟩ = some (.string hw) := hD 1 66 (by kernel_rfl) (by kernel_rfl)
                  rw [Array.getD_eq_getD_getElem?] at e66
                  have e69 : ac3.tmps[69]?.getD undef = .int .i64 (k : Int) := by simpa using (show ac3.tmps.getD 69 undef = .int .i64 (k : Int) from hD 4 69 (by kernel_rfl) (by kernel_rfl))
                  have hk3' : (k : Int) < 3 := by omega
                  clear hA hD
                  go_simp
                  exact ⟨_, rfl, Below.refl _ _, b, by simp, g1, g2⟩
                · obtain ⟨b, e70, g1, g2⟩ : ∃ b, ac3.tmps.getD 70 undef = .pointer (some ⟨b, k, none⟩) ∧ b < wz.heap.size ∧ wz.cell? ⟨b, k, none⟩ = some (.string hw) := hD 5 70 (by kernel_rfl) (by kernel_rfl)
                  rw [Array.getD_eq_getD_getElem?] at e70
                  clear hA hD
                  go_simp
                  exact ⟨_, rfl, Below.refl _ _, rfl⟩
                · have e71 : ac3.tmps[71]?.getD undef = .string hw := by simpa using (show ac3.tmps.getD 71 undef = .string hw from hD 6 71 (by kernel_rfl) (by kernel_rfl))
                  clear hA hD
                  go_simp
                  exact ⟨_, rfl, below1 _ _, wz.heap.size, rfl, by simp, by simp⟩
                · have e65 : ac3.tmps.getD 65 undef = .slice (some ⟨b5 + 1, 0, none⟩) 1 1 := hD 0 65 (by kernel_rfl) (by kernel_rfl)
                  obtain ⟨b, e72, g1, g2⟩ : ∃ b, ac3.tmps.getD 72 undef = .slice (some ⟨b, 0, none⟩) 1 1 ∧ b < wz.heap.size ∧ wz.cell? ⟨b, 0, none⟩ = some (.string hw) := hD 7 72 (by kernel_rfl) (by kernel_rfl)
                  have hcs := (own_grown (kept_drew HOr.out) (grown_below hA.below) (fun j hj => by cases hj)).cells (g := b5 + 1) rfl
                  have hsz : B + 1 ≤ wz.heap.size := Nat.le_trans hwr hA.below.size
                  clear hA hD
                  refine op_append_new elemStr (.tmp 65) (.tmp 72) rfl e65 (xs := [.string x.s]) rfl hcs e72 (news := [.string hw]) rfl (fun j u hj => by
                    match j with
                    | 0 => simp at hj; subst hj; simpa [Addr.add_lit] using g2
                    | j + 1 => simp at hj) (by omega) (by unfold maxLen; omega) (by omega) ?_
                  intro v' w' ho hb
                  exact ⟨_, rfl, hb, fun d hd => by simp at hd; subst hd; exact own_lower ho hsz⟩
              case fin2 =>
                refine ⟨?_, trivial⟩
                intro ac3 wz hA hD
                have hT := tmps_put hA [65, 66, 67, 68, 69, 70, 71, 72, 73] (by kernel_rfl)
                have e65 : ac3.tmps.getD 65 undef = .slice (some ⟨b5 + 1, 0, none⟩) 1 1 := hD 0 65 (by omega) (by kernel_rfl)
                obtain ⟨b66, e66, -, -⟩ : ∃ b, ac3.tmps.getD 66 undef = .slice (some ⟨b, 0, none⟩) 3 3 ∧ b < wz.heap.size ∧ wz.cell? ⟨b, k, none⟩ = some (.string hw) := hD 1 66 (by omega) (by kernel_rfl)
                have e67 : ac3.tmps.getD 67 undef = .pointer (some ⟨B, 1, none⟩) := hD 2 67 (by omega) (by kernel_rfl)
                have e68 : ac3.tmps.getD 68 undef = .int .i64 ((k : Int) + 1) := hD 3 68 (by omega) (by kernel_rfl)
                have e69 : ac3.tmps.getD 69 undef = .int .i64 (k : Int) := hD 4 69 (by omega) (by kernel_rfl)
                obtain ⟨b70, e70, -, -⟩ : ∃ b, ac3.tmps.getD 70 undef = .pointer (some ⟨b, k, none⟩) ∧ b < wz.heap.size ∧ wz.cell? ⟨b, k, none⟩ = some (.string hw) := hD 5 70 (by omega) (by kernel_rfl)
                have e71 : ac3.tmps.getD 71 undef = .string hw := hD 6 71 (by omega) (by kernel_rfl)
                obtain ⟨b72, e72, -, -⟩ : ∃ b, ac3.tmps.getD 72 undef = .slice (some ⟨b, 0, none⟩) 1 1 ∧ b < wz.heap.size ∧ wz.cell? ⟨b, 0, none⟩ = some (.string hw) := hD 7 72 (by omega) (by kernel_rfl)
                have ho73 : wz.ownsRow (B + 1) 9 1 (ac3.tmps.getD 73 undef) 2 [.string x.s, .string hw] := hD 8 73 (by omega) (by kernel_rfl)
                obtain ⟨_, g73, c73, e73, -⟩ := id (Rd.of_owns ho73)
                rw [e73] at ho73
                simp only [List.foldl_cons, List.foldl_nil, e65, e66, e67, e68, e69, e70, e71, e72, e73] at hT
                simp only [List.setIfInBounds_toArray, List.set_cons_succ, List.set_cons_zero] at hT
                have hd : ac3.defers = [] := hA.defers
                have HBz := Lib.hid (HBB.out.trans (((Below.refl _ _).drew.trans hA.below).mono (show B ≤ wr.heap.size by omega)))
                have HB5z := Lib.hid (HB5r.out.trans (((Below.refl _ _).drew.trans hA.below).mono HB5r.out.size))
                have HOz := Lib.hid ho73
                clear hA hD e65 e66 e67 e68 e69 e70 e71 e72 e73 ho73 r1 r2 r3 r4
                obtain ⟨T, D⟩ := ac3
                simp only at hT hd
                subst hd hT
                go_simp
                go_wp2_with fail
                go_meet
                exact ⟨_, _, _, rfl, by unfold Hid; rw [HhL.out]; exact hb1 ▸ HOz.out, hb1 ▸ HBz.out, HB5z.out, HhR.out⟩
    case rest =>
      obtain ⟨ao2, m2, cc2, rfl, HOc, HBc, HB5c, HHc⟩ := hcut
      have hw5 : w.heap.size < w5.heap.size := World.block_lt_of_cell? w5 ⟨w.heap.size, 1, none⟩ p1
      have r2 : wc.cell? ⟨w.heap.size, 2, none⟩ = some (.slice an c.ns.length am) := (HB5c.out.cell (p := ⟨w.heap.size, 2, none⟩) hw5).trans p2
      have r3 : wc.cell? ⟨w.heap.size, 3, none⟩ = some (.slice ak c.ks.length al) := (HB5c.out.cell (p := ⟨w.heap.size, 3, none⟩) hw5).trans p3
      have r4 : wc.cell? ⟨w.heap.size, 4, none⟩ = some (.string c.t) := (HB5c.out.cell (p := ⟨w.heap.size, 4, none⟩) hw5).trans p4
      have hrd := HA1.out.below HBc.out
      have hhl : (howL c).length ≤ 1 := by unfold howL; split <;> simp
      have hns := HSm.out.ns
      have hwc : w.heap.size + 1 ≤ wc.heap.size := Nat.le_trans hw5 HB5c.out.size
      have ho := HOc.out
      clear p1 p2 p3 p4 q0 q1 q2 q3 q4 c0 c1 c2 c3
      go_wp2_with (at_builtin; go_must (refine wpList_appRd elemStr rfl _ _ rfl ho rfl hrd rfl (fun u hu => by unfold strV at hu; obtain ⟨y, -, rfl⟩ := List.mem_map.1 hu; rfl) (by unfold maxLen; omega) (by omega) hwc ?_); intro v6 w6 hown6 hg6; have hB6 := hg6.block w.heap.size (by omega) (fun e => by have := own_block ho _ e.symm; omega); have r3b := (World.cell?_of_block (a := ⟨w.heap.size, 3, none⟩) hB6).trans r3; have r4b := (World.cell?_of_block (a := ⟨w.heap.size, 4, none⟩) hB6).trans r4)
      have hns2 := HSm.out.nm
      have hks := HSm.out.ks
      obtain ⟨R0, hR0⟩ : ∃ R0, R0 = x.s :: howL c ++ c.ns := ⟨_, rfl⟩
      have hown7 : w6.ownsRow (w.heap.size + 1) 9 1 v6 R0.length (strV R0) := by
        have e1 : R0.length = (howL c).length.succ + c.ns.length := by rw [hR0]; simp; omega
        have e2 : strV R0 = strV (x.s :: howL c) ++ strV c.ns := by rw [hR0]; simp [strV]
        rw [e1, e2]; exact hown6
      have hR0l : R0.length ≤ 1048578 := by rw [hR0]; simp; omega
      have HR0p : Hid (0 < R0.length) := by unfold Hid; rw [hR0]; simp
      have HR0s : Hid (∀ y ∈ R0, y.size ≤ 1048576) := by
        intro y hy
        rw [hR0] at hy
        rcases List.mem_append.1 hy with hy | hy
        · rcases List.mem_cons.1 hy with rfl | hy
          · omega
          · unfold howL at hy
            split at hy
            · cases hy
            · rw [List.mem_singleton.1 hy]
              generalize (c.h - 1).toNat = q
              match q with
              | 0 => decide
              | 1 => decide
              | 2 => decide
              | q + 3 => exact (show ByteArray.size (hows.getD (q + 3) emptyB) ≤ 1048576 from Nat.zero_le _)
        · exact hns2 y hy
      have HX2 : Hid (lineX c x = (mkB (Lib.join ((R0 ++ c.ks.map fun n => mkB (Lib.itoa n)).map (·.data.toList)) [32]), decide (c.t = emptyB))) := by
        unfold Hid lineX lineW
        rw [hxt, if_neg (by decide), if_neg (by have := HHc.out; omega), hR0]
        simp
      have HB6 := Lib.hid (HBc.out.grown hg6 (show w.heap.size ≤ wc.heap.size by omega) (fun k hk => by have := own_block ho k hk; omega))
      obtain ⟨_, ao6, cp6, rfl, -⟩ := id (Rd.of_owns hown7)
      have HO7 := Lib.hid hown7
      have h8 := HG.out.sz
      clear hown6 hown7 hg6 ho hB6 r2 r3 r4 hrd hhl hns hwc hns2 hR0
      have HN := Lib.hid hR0l
      have HNk := Lib.hid hks
      clear hR0l hks
      have r3 := r3b
      clear r3b
      generalize c.h = ch at *
      go_loopw [6, 8, 81] (fun s _ i wr => ∃ (k : Nat) (L : List ByteArray) (ao : Option Addr) (cp : Nat), s = .slice ao L.length cp ∧ i = .int .i64 k ∧ k ≤ c.ks.length ∧ Hid (L = R0 ++ (c.ks.take k).map fun n => mkB (Lib.itoa n)) ∧ Hid (wr.ownsRow (w.heap.size + 1) 9 1 (.slice ao L.length cp) L.length (strV L)) ∧ Hid (Below w.heap.size w wr) ∧ Hid (wr.heap[w.heap.size]? = w6.heap[w.heap.size]?)) (fun _ _ i _ => c.ks.length - (intOf i).toNat)
      case atStart => exact ⟨0, R0, ao6, cp6, rfl, rfl, by omega, by unfold Hid; simp, HO7.out, HB6.out, rfl⟩
      case round =>
        obtain ⟨k, L, ao, cp, rfl, rfl, hk, HL, HOw, HBw, HBo⟩ := hrel
        by_cases hlt : k < c.ks.length
        · obtain ⟨y, hy⟩ : ∃ y, c.ks[k]? = some y := ⟨_, List.getElem?_eq_getElem hlt⟩
          obtain ⟨b', o', c', e1, l', k', x0⟩ := RdZ.at (HA2.out.below HBw.out) hy
          simp only [Value.slice.injEq] at e1
          obtain ⟨rfl, -, rfl⟩ := e1
          have hyb := HSm.out.kb y (List.mem_of_getElem? hy)
          obtain ⟨q, hq⟩ : ∃ q : ByteArray, q = mkB (Lib.itoa y) := ⟨_, rfl⟩
          have HI := Lib.hid (fun w2 hg2 => Tryd.strconv_Itoa y hyb.1 hyb.2 w2 (Gb.tab hg2))
          rw [show (⟨(Lib.itoa y).toArray⟩ : ByteArray) = q from hq.symm] at HI
          have HL2 : Hid (L ++ [q] = R0 ++ (c.ks.take (k + 1)).map fun n => mkB (Lib.itoa n)) := by
            unfold Hid; rw [HL.out, List.take_add_one, hy, hq]; simp
          have HLl : Hid (L.length ≤ 2097154) := by
            unfold Hid; rw [HL.out]; have := HN.out; have := HNk.out; simp; omega
          clear hy hq hyb
          go_wp2_with fail
          refine (HI.out _ (HG.out.below (B := w.heap.size) h8 HBw.out)).mono ?_
          rintro e w7 ⟨rfl, kk, os, rfl⟩
          have hb7 : Below wr.heap.size wr (Sort.grow (wr.drewN kk) os) := grow_below2 wr kk os (Nat.le_refl _)
          have hwr : w.heap.size < wr.heap.size := World.block_lt_of_cell? wr ⟨w.heap.size, 3, none⟩ ((World.cell?_of_block (a := ⟨w.heap.size, 3, none⟩) HBo.out).trans r3)
          have HB7 := Lib.hid (HBw.out.trans (hb7.mono (Nat.le_of_lt hwr)))
          have HO8 := Lib.hid (own_grown HOw.out (grown_below hb7) (fun j hj => by cases hj))
          have HBo7 := Lib.hid ((hb7.block _ hwr).trans HBo.out)
          have hw7 : w.heap.size + 1 ≤ (Sort.grow (wr.drewN kk) os).heap.size := Nat.le_trans hwr hb7.size
          clear hb7
          generalize Sort.grow (wr.drewN kk) os = w7 at *
          have hll := HLl.out
          have hkk := HNk.out
          go_wp2_with (at_builtin; go_must (refine wpList_appG1 elemStr rfl _ _ rfl HO8.out rfl (news := [.string q]) rfl rfl (by intro u hu; simp at hu; subst hu; rfl) (by unfold maxLen; omega) (by omega) (by omega) ?_; intro v' w4 hown4 hg4; obtain ⟨_, ao4, cp4, rfl, -⟩ := id (Rd.of_owns hown4); have HO4 := Lib.hid hown4; have HG4 := Lib.hid hg4; clear hown4 hg4))
          go_roundw
          case rel =>
            have e1 : L.length + 1 = (L ++ [q]).length := by simp
            have e2 : strV L ++ [.string q] = strV (L ++ [q]) := by simp [strV]
            have hO := HO4.out
            rw [e1, e2] at hO
            exact ⟨k + 1, L ++ [q], ao4, cp4, by rw [e1], by go_num, by omega, HL2.out, hO, HB7.out.grown HG4.out (by omega) (fun k hk => by have := own_block HO8.out k hk; omega), (HG4.out.block _ (by omega) (fun e => by have := own_block HO8.out _ e.symm; omega)).trans HBo7.out⟩
          case measure => simp [intOf]; omega
        · obtain rfl : k = c.ks.length := by omega
          have HLl : Hid (L.length ≤ 2097154) := by
            unfold Hid; rw [HL.out]; have := HN.out; have := HNk.out; simp; omega
          have hLp : 0 < L.length := by have := HR0p.out; rw [HL.out]; simp; omega
          have hr4 := (World.cell?_of_block (a := ⟨w.heap.size, 4, none⟩) HBo.out).trans r4b
          obtain ⟨g, gc, e1, -, g2, g3, g4⟩ := own_src HOw.out hLp
          simp only [Value.slice.injEq] at e1
          obtain ⟨rfl, -, rfl⟩ := e1
          obtain ⟨J, hJ⟩ : ∃ J : ByteArray, J = ⟨(Lib.join (L.map (·.data.toList)) sp.data.toList).toArray⟩ := ⟨_, rfl⟩
          have HJ : Hid (∀ w2, Below wr.heap.size wr w2 → Calls Tryd.prog 48 #[.slice (some ⟨g, 0, none⟩) L.length cp, .string ⟨#[32]⟩] w2 fun e w' => e = .returned (.string J) ∧ Below w2.heap.size w2 w') := fun w2 hb2 => by
            rw [hJ]
            refine Tryd.strings_Join g 0 cp L sp w2 (fun j y hj => ?_) (Nat.lt_of_lt_of_le g2 hb2.size) (by have := HLl.out; omega) g3 ?_
            · have h1 : (strV L)[j]? = some (.string y) := by unfold strV; rw [List.getElem?_map, hj]; rfl
              have h2 := g4 j _ h1
              rw [Addr.add_lit] at h2
              exact (hb2.cell (p := ⟨g, 0 + j, none⟩) g2).trans h2
            · refine Nat.le_trans (join_le (K := 1048576) ?_) ?_
              · intro z hz
                obtain ⟨y, hy, rfl⟩ := List.mem_map.1 hz
                have e2 : y.data.toList.length = y.size := Array.length_toList
                rw [e2]
                rw [HL.out] at hy
                rcases List.mem_append.1 hy with hy | hy
                · exact HR0s.out y hy
                · obtain ⟨n, hn, rfl⟩ := List.mem_map.1 hy
                  have hb := HSm.out.kb n (List.mem_of_mem_take hn)
                  rw [mkB_size]
                  exact Nat.le_trans (Lib.itoa_length_le n hb.1 hb.2) (by decide)
              · rw [List.length_map]
                have := HLl.out
                have e3 : sp.data.toList.length = 1 := rfl
                rw [e3]
                omega
          have HX3 : Hid (lineX c x = (J, decide (c.t = emptyB))) := by
            unfold Hid; rw [HX2.out, hJ, HL.out, List.take_length]; rfl
          clear hJ g3 g4
          obtain ⟨bt, hbt⟩ : ∃ bt, bt = decide (c.t = emptyB) := ⟨_, rfl⟩
          have k1 : c.t.toList.isEmpty = bt := by
            rw [hbt, Bool.eq_iff_iff, decide_eq_true_iff, List.isEmpty_iff]
            constructor
            · intro h; exact (toList_inj c.t emptyB).1 (by rw [h, ByteArray.toList_eq]; rfl)
            · intro h; rw [h, ByteArray.toList_eq]; rfl
          rw [← hbt] at HX3
          clear hbt HL HR0s
          generalize L.length = nL at *
          have hwr : w.heap.size < wr.heap.size := World.block_lt_of_cell? wr ⟨w.heap.size, 4, none⟩ hr4
          go_wp2_with fail
          generalize hb1 : w.heap.size = B at *
          refine wp_region_facts (by kernel_rfl) (lnJ B g nL cp J c.t bt) (lnJ_below _ _ _ _ _ _ _) (by kernel_rfl) (by kernel_rfl) (by kernel_rfl) ?step3 ?fin3
          case step3 =>
            refine ⟨?_, ?_, ?_, ?_, ?_, ?_, ?_, trivial⟩
            all_goals intro ac3 wz hA hD
            · have e6 : ac3.tmps[6]?.getD undef = .slice (some ⟨g, 0, none⟩) nL cp := by simpa using hA.frame 6 (by kernel_rfl)
              clear hA hD
              go_simp
              exact ⟨_, rfl, Below.refl _ _, rfl⟩
            · have e91 : ac3.tmps[91]?.getD undef = .slice (some ⟨g, 0, none⟩) nL cp := by simpa using (show ac3.tmps.getD 91 undef = .slice (some ⟨g, 0, none⟩) nL cp from hD 0 91 (by kernel_rfl) (by kernel_rfl))
              have hbz := (Below.refl wr.heap.size wr).drew.trans hA.below
              clear hA hD
              go_simp
              refine (HJ.out _ hbz).mono ?_
              rintro e w7 ⟨rfl, hb⟩
              exact ⟨_, rfl, hb, rfl⟩
            · have e1' : ac3.tmps[1]?.getD undef = .pointer (some ⟨B, 0, none⟩) := by simpa using hA.frame 1 (by kernel_rfl)
              clear hA hD
              go_simp
              exact ⟨_, rfl, Below.refl _ _, rfl⟩
            · have e93 : ac3.tmps[93]?.getD undef = .pointer (some ⟨B, 4, none⟩) := by simpa using (show ac3.tmps.getD 93 undef = .pointer (some ⟨B, 4, none⟩) from hD 2 93 (by kernel_rfl) (by kernel_rfl))
              have z1 : wz.cell? ⟨B, 4, none⟩ = some (.string c.t) := (hA.below.cell (p := ⟨B, 4, none⟩) hwr).trans hr4
              clear hA hD
              go_simp
              exact ⟨_, rfl, Below.refl _ _, rfl⟩
            · have e94 : ac3.tmps[94]?.getD undef = .string c.t := by simpa using (show ac3.tmps.getD 94 undef = .string c.t from hD 3 94 (by kernel_rfl) (by kernel_rfl))
              clear hA hD
              go_simp
              exact ⟨_, rfl, Below.refl _ _, rfl⟩
            · have e92 : ac3.tmps[92]?.getD undef = .string J := by simpa using (show ac3.tmps.getD 92 undef = .string J from hD 1 92 (by kernel_rfl) (by kernel_rfl))
              clear hA hD
              go_simp
              exact ⟨_, rfl, Below.refl _ _, rfl⟩
            · have e95 : ac3.tmps[95]?.getD undef = .bool bt := by simpa using (show ac3.tmps.getD 95 undef = .bool bt from hD 4 95 (by kernel_rfl) (by kernel_rfl))
              clear hA hD
              go_simp
              exact ⟨_, rfl, Below.refl _ _, rfl⟩
          case fin3 =>
            intro ac3 wz hA hD
            have hT := tmps_put hA [91, 92, 93, 94, 95, 2, 3] (by kernel_rfl)
            have e91 : ac3.tmps.getD 91 undef = .slice (some ⟨g, 0, none⟩) nL cp := hD 0 91 (by kernel_rfl)
            have e92 : ac3.tmps.getD 92 undef = .string J := hD 1 92 (by kernel_rfl)
            have e93 : ac3.tmps.getD 93 undef = .pointer (some ⟨B, 4, none⟩) := hD 2 93 (by kernel_rfl)
            have e94 : ac3.tmps.getD 94 undef = .string c.t := hD 3 94 (by kernel_rfl)
            have e95 : ac3.tmps.getD 95 undef = .bool bt := hD 4 95 (by kernel_rfl)
            have e2 : ac3.tmps.getD 2 undef = .string J := hD 5 2 (by kernel_rfl)
            have e3 : ac3.tmps.getD 3 undef = .bool bt := hD 6 3 (by kernel_rfl)
            simp only [List.foldl_cons, List.foldl_nil, e91, e92, e93, e94, e95, e2, e3] at hT
            simp only [List.setIfInBounds_toArray, List.set_cons_succ, List.set_cons_zero] at hT
            have hd : ac3.defers = [] := hA.defers
            have HBz := Lib.hid (HBw.out.trans (((Below.refl _ _).drew.trans hA.below).mono (Nat.le_of_lt hwr)))
            clear hA hD e91 e92 e93 e94 e95 e2 e3 k1
            obtain ⟨T, D⟩ := ac3
            simp only at hT hd
            subst hd hT
            go_wp2
            refine bodyPost_ret (results_tmp2 rfl _ _ _) rfl ?_
            exact ⟨by rw [HE.out, HX3.out]; rfl, hb1 ▸ HBz.out⟩
end Go.Proofs.YtikkfbkpgejneaaDoor
/- Check, Print of the program. -/
namespace Go.Proofs.YtikkfbkpgejneaaDoor
open Go.RowKit Go.Shelf

/-- what Check answers -/
def checkC (c : Cmd) : Int :=
  if (lineC c).2 = false then 2
  else if c.t ≠ emptyB then (if 2064 < (lineC c).1.size then 3 else 0)
  else match VT[(c.v - 1).toNat]? with
    | none => 2
    | some x => if fitsC c x = false then 2 else if 2064 < (lineC c).1.size then 3 else 0
/-- what Print answers -/
def printC (c : Cmd) : ByteArray × Int := if checkC c ≠ 0 then (emptyB, checkC c) else ((lineC c).1, 0)
theorem lineC_verb {c : Cmd} (h : (lineC c).2 = true) : ∃ i : Nat, c.v = (i : Int) + 1 ∧ i < 10 ∧ ∃ x, VT[i]? = some x := by
  unfold lineC at h
  split at h
  · cases h
  · refine ⟨(c.v - 1).toNat, by omega, by omega, _, List.getElem?_eq_getElem ?_⟩
    simp [VT]; omega
set_option maxRecDepth 100000 in
set_option maxHeartbeats 1600000 in
theorem check_any (va : Value) (c : Cmd) (w : World) (hg : Gb w) (hr : RdCm w va c) (sm : SmC c) :
    Calls Tryd.prog 18 #[va] w fun e w' => e = .returned (.int .i64 (checkC c)) ∧ Below w.heap.size w w' := by
  obtain ⟨an, am, ak, al, rfl, a1, a2⟩ := hr
  have HA1 := Lib.hid a1
  have HA2 := Lib.hid a2
  have HSm := Lib.hid sm
  have HG := Lib.hid hg
  have h8 := hg.sz
  obtain ⟨R, hR⟩ : ∃ R, R = checkC c := ⟨_, rfl⟩
  rw [← hR]
  obtain ⟨s, ok, hs⟩ : ∃ s ok, lineC c = (s, ok) := ⟨_, _, rfl⟩
  have HL := Lib.hid (fun va w hg hr => line_any va c w hg hr sm)
  rw [hs] at HL
  obtain ⟨te, hte⟩ : ∃ te, te = decide (c.t = emptyB) := ⟨_, rfl⟩
  have k1 : c.t.toList.isEmpty = te := by
    rw [hte, Bool.eq_iff_iff, decide_eq_true_iff, List.isEmpty_iff]
    constructor
    · intro h; exact (toList_inj c.t emptyB).1 (by rw [h, ByteArray.toList_eq]; rfl)
    · intro h; rw [h, ByteArray.toList_eq]; rfl
  have HR : Hid (R = if ok = false then 2 else if te = false then (if 2064 < s.size then 3 else 0) else match VT[(c.v - 1).toNat]? with | none => 2 | some x => if fitsC c x = false then 2 else if 2064 < s.size then 3 else 0) := by
    unfold Hid
    rw [hR, hte]
    unfold checkC
    rw [hs]
    simp only [decide_eq_false_iff_not]
  have HV : Hid (ok = true → ∃ i : Nat, c.v = (i : Int) + 1 ∧ i < 10 ∧ ∃ x, VT[i]? = some x) := fun h => lineC_verb (by rw [hs]; exact h)
  clear a1 a2 sm hg hR hs hte
  go_enter Tryd.func18, Tryd.ntmps18
  go_wp2_with fail
  have hbx := heap_alloc_new w (.cells #[.int .i64 c.v, .int .i64 c.h, .slice an c.ns.length am, .slice ak c.ks.length al, .string c.t] 27)
  have HB1 := Lib.hid (below1 w (.cells #[.int .i64 c.v, .int .i64 c.h, .slice an c.ns.length am, .slice ak c.ks.length al, .string c.t] 27))
  have HBx := Lib.hid hbx
  clear hbx
  change Calls _ _ _ (w.alloc (.cells #[.int .i64 c.v, .int .i64 c.h, .slice an c.ns.length am, .slice ak c.ks.length al, .string c.t] 27)) _
  generalize w.alloc (.cells #[.int .i64 c.v, .int .i64 c.h, .slice an c.ns.length am, .slice ak c.ks.length al, .string c.t] 27) = w1 at *
  have hA : RdCm w1 (.agg #[.int .i64 c.v, .int .i64 c.h, .slice an c.ns.length am, .slice ak c.ks.length al, .string c.t]) c := ⟨_, _, _, _, rfl, HA1.out.below HB1.out, HA2.out.below HB1.out⟩
  have HA := Lib.hid hA
  clear hA
  refine (HL.out _ w1 (HG.out.below (B := w.heap.size) h8 HB1.out) HA.out).mono ?_
  rintro e w2 ⟨rfl, hb⟩
  have HB2 := Lib.hid (HB1.out.trans (hb.mono HB1.out.size))
  have HAw := Lib.hid (HA.out.below hb)
  have hk := (hb.block _ (Array.getElem?_eq_some_iff.1 HBx.out).1).trans HBx.out
  have q0 : w2.cell? ⟨w.heap.size, 0, none⟩ = some (.int .i64 c.v) := by simp [World.cell?, hk]
  have q1 : w2.cell? ⟨w.heap.size, 1, none⟩ = some (.int .i64 c.h) := by simp [World.cell?, hk]
  have q2 : w2.cell? ⟨w.heap.size, 2, none⟩ = some (.slice an c.ns.length am) := by simp [World.cell?, hk]
  have q3 : w2.cell? ⟨w.heap.size, 3, none⟩ = some (.slice ak c.ks.length al) := by simp [World.cell?, hk]
  have q4 : w2.cell? ⟨w.heap.size, 4, none⟩ = some (.string c.t) := by simp [World.cell?, hk]
  clear hb hk
  cases ok with
  | false =>
    have HE : Hid (R = 2) := by unfold Hid; rw [HR.out]; rfl
    go_wp2_with fail
    go_ret
    exact ⟨by rw [HE.out]; rfl, HB2.out⟩
  | true =>
    cases te with
    | false =>
      by_cases hl : 2064 < s.size
      · have HE : Hid (R = 3) := by unfold Hid; rw [HR.out]; simp [hl]
        have hl2 : (2064 : Int) < s.size := by omega
        go_wp2_with fail
        go_ret
        exact ⟨by rw [HE.out]; rfl, HB2.out⟩
      · have HE : Hid (R = 0) := by unfold Hid; rw [HR.out]; simp [hl]
        have hl2 : ¬ (2064 : Int) < s.size := by omega
        go_wp2_with fail
        go_ret
        exact ⟨by rw [HE.out]; rfl, HB2.out⟩
    | true =>
      obtain ⟨i, hv, hi, x, hx⟩ := HV.out rfl
      have HF := Lib.hid (fits_any _ c w2 x i HAw.out HSm.out.big hv hi hx)
      have HR2 : Hid (R = if fitsC c x = false then 2 else if 2064 < s.size then 3 else 0) := by
        unfold Hid; rw [HR.out, show (c.v - 1).toNat = i from by omega, hx]; rfl
      generalize fitsC c x = ft at *
      clear hv hx
      go_wp2_with fail
      refine (HF.out).mono ?_
      rintro e w3 ⟨rfl, hb⟩
      have HB3 := Lib.hid (HB2.out.trans (hb.mono HB2.out.size))
      clear hb
      cases ft with
      | false =>
        have HE : Hid (R = 2) := by unfold Hid; rw [HR2.out]; rfl
        go_wp2_with fail
        go_ret
        exact ⟨by rw [HE.out]; rfl, HB3.out⟩
      | true =>
        by_cases hl : 2064 < s.size
        · have HE : Hid (R = 3) := by unfold Hid; rw [HR2.out]; simp [hl]
          have hl2 : (2064 : Int) < s.size := by omega
          go_wp2_with fail
          go_ret
          exact ⟨by rw [HE.out]; rfl, HB3.out⟩
        · have HE : Hid (R = 0) := by unfold Hid; rw [HR2.out]; simp [hl]
          have hl2 : ¬ (2064 : Int) < s.size := by omega
          go_wp2_with fail
          go_ret
          exact ⟨by rw [HE.out]; rfl, HB3.out⟩
set_option maxRecDepth 100000 in
set_option maxHeartbeats 1600000 in
theorem print_any (va : Value) (c : Cmd) (w : World) (hg : Gb w) (hr : RdCm w va c) (sm : SmC c) :
    Calls Tryd.prog 17 #[va] w fun e w' => e = .returned (.tuple #[.string (printC c).1, .int .i64 (printC c).2]) ∧ Below w.heap.size w w' := by
  obtain ⟨an, am, ak, al, rfl, a1, a2⟩ := hr
  have HA1 := Lib.hid a1
  have HA2 := Lib.hid a2
  have HG := Lib.hid hg
  have h8 := hg.sz
  obtain ⟨R, hR⟩ : ∃ R, R = printC c := ⟨_, rfl⟩
  rw [← hR]
  have HL := Lib.hid (fun va w hg hr => line_any va c w hg hr sm)
  have HC := Lib.hid (fun va w hg hr => check_any va c w hg hr sm)
  have HR : Hid (R = if checkC c ≠ 0 then (emptyB, checkC c) else ((lineC c).1, 0)) := hR
  generalize lineC c = L at *
  obtain ⟨s, ok⟩ := L
  generalize checkC c = ck at *
  clear a1 a2 sm hg hR
  go_enter Tryd.func17, Tryd.ntmps17
  go_wp2_with fail
  have hbx := heap_alloc_new w (.cells #[.int .i64 c.v, .int .i64 c.h, .slice an c.ns.length am, .slice ak c.ks.length al, .string c.t] 27)
  have HB1 := Lib.hid (below1 w (.cells #[.int .i64 c.v, .int .i64 c.h, .slice an c.ns.length am, .slice ak c.ks.length al, .string c.t] 27))
  have HBx := Lib.hid hbx
  clear hbx
  change Calls _ _ _ (w.alloc (.cells #[.int .i64 c.v, .int .i64 c.h, .slice an c.ns.length am, .slice ak c.ks.length al, .string c.t] 27)) _
  generalize w.alloc (.cells #[.int .i64 c.v, .int .i64 c.h, .slice an c.ns.length am, .slice ak c.ks.length al, .string c.t] 27) = w1 at *
  have hA : RdCm w1 (.agg #[.int .i64 c.v, .int .i64 c.h, .slice an c.ns.length am, .slice ak c.ks.length al, .string c.t]) c := ⟨_, _, _, _, rfl, HA1.out.below HB1.out, HA2.out.below HB1.out⟩
  have HA := Lib.hid hA
  clear hA
  refine (HC.out _ w1 (HG.out.below (B := w.heap.size) h8 HB1.out) HA.out).mono ?_
  rintro e w2 ⟨rfl, hb⟩
  have HB2 := Lib.hid (HB1.out.trans (hb.mono HB1.out.size))
  have HAw := Lib.hid (HA.out.below hb)
  have hk := (hb.block _ (Array.getElem?_eq_some_iff.1 HBx.out).1).trans HBx.out
  have q0 : w2.cell? ⟨w.heap.size, 0, none⟩ = some (.int .i64 c.v) := by simp [World.cell?, hk]
  have q1 : w2.cell? ⟨w.heap.size, 1, none⟩ = some (.int .i64 c.h) := by simp [World.cell?, hk]
  have q2 : w2.cell? ⟨w.heap.size, 2, none⟩ = some (.slice an c.ns.length am) := by simp [World.cell?, hk]
  have q3 : w2.cell? ⟨w.heap.size, 3, none⟩ = some (.slice ak c.ks.length al) := by simp [World.cell?, hk]
  have q4 : w2.cell? ⟨w.heap.size, 4, none⟩ = some (.string c.t) := by simp [World.cell?, hk]
  clear hb hk
  by_cases h0 : ck = 0
  · subst h0
    have HE : Hid (R = (s, 0)) := by unfold Hid; rw [HR.out]; simp
    go_wp2_with fail
    refine (HL.out _ w2 (HG.out.below (B := w.heap.size) h8 HB2.out) HAw.out).mono ?_
    rintro e w3 ⟨rfl, hb⟩
    have HB3 := Lib.hid (HB2.out.trans (hb.mono HB2.out.size))
    clear hb
    go_wp2_with fail
    refine bodyPost_ret (results_tmp2 rfl _ _ _) rfl ?_
    exact ⟨by rw [HE.out]; rfl, HB3.out⟩
  · have HE : Hid (R = (emptyB, ck)) := by unfold Hid; rw [HR.out, if_pos h0]
    have e1 : (ck != 0) = true := by simpa using h0
    go_wp2_with fail
    refine bodyPost_ret (results_tmp2 rfl _ _ _) rfl ?_
    exact ⟨by rw [HE.out]; rfl, HB2.out⟩
end Go.Proofs.YtikkfbkpgejneaaDoor
/- Plain laws of a command's line: what is read is written as that line, what is written is read as itself. -/
namespace Go.Proofs.YtikkfbkpgejneaaDoor

/-- the words of a command behind its verb's -/
def wordsC (c : Cmd) : List ByteArray := howL c ++ (c.ns ++ c.ks.map fun n => mkB (Lib.itoa n))
/-- a word: no byte 32, not empty -/
def GoodW (w : ByteArray) : Prop := w ≠ emptyB ∧ (32 : UInt8) ∉ w.data.toList
theorem join_wds (l : List UInt8) : Lib.join (wds l) [32] = l := by
  induction l with
  | nil => rfl
  | cons c l ih =>
    unfold wds
    split
    · rename_i hc
      subst hc
      obtain ⟨x, r, hx⟩ := List.exists_cons_of_ne_nil (wds_ne l)
      rw [Lib.join_cons, hx]
      have e : Lib.joinTail [32] (x :: r) = 32 :: (x ++ Lib.joinTail [32] r) := by simp [Lib.joinTail]
      rw [e, ← Lib.join_cons, ← hx, ih]; rfl
    · split
      · rename_i he; exact absurd he (wds_ne l)
      · rename_i x r he
        rw [he, Lib.join_cons] at ih
        rw [Lib.join_cons, List.cons_append, ih]
theorem wds_join (x : List UInt8) (r : List (List UInt8)) (hx : (32 : UInt8) ∉ x) (hr : ∀ y ∈ r, (32 : UInt8) ∉ y) : wds (Lib.join (x :: r) [32]) = x :: r := by
  induction r generalizing x with
  | nil => rw [Lib.join_one]; exact wds_free hx
  | cons y r ih =>
    have e : Lib.join (x :: y :: r) [32] = x ++ 32 :: Lib.join (y :: r) [32] := by rw [Lib.join_cons, Lib.join_cons]; simp [Lib.joinTail]
    rw [e, wds_app hx, ih y (hr y (by simp)) (fun z hz => hr z (List.mem_cons_of_mem _ hz))]
theorem indexB_free {l : List UInt8} (h : (32 : UInt8) ∉ l) : Lib.indexByte l 32 = -1 := by
  rw [← Lib.index_one]
  rcases sp_split l with ⟨-, h2⟩ | ⟨x, r, -, h2, -⟩
  · exact h2
  · exact absurd (by rw [h2]; simp) h
theorem indexB_sp {l : List UInt8} (h : (32 : UInt8) ∈ l) : 0 ≤ Lib.indexByte l 32 := by
  rw [← Lib.index_one]
  rcases sp_split l with ⟨h1, -⟩ | ⟨x, r, -, -, h3⟩
  · exact absurd h h1
  · omega
theorem badS_iff (w : ByteArray) : badS w = false ↔ GoodW w := by
  unfold badS GoodW
  rw [Bool.or_eq_false_iff, decide_eq_false_iff_not, decide_eq_false_iff_not]
  constructor
  · rintro ⟨h1, h2⟩
    exact ⟨h1, fun h => h2 (indexB_sp h)⟩
  · rintro ⟨h1, h2⟩
    exact ⟨h1, by rw [indexB_free h2]; omega⟩
theorem words_good {s w : ByteArray} (h : w ∈ words s) : (32 : UInt8) ∉ w.data.toList := by
  unfold words at h
  obtain ⟨l, hl, rfl⟩ := List.mem_map.1 h
  exact wds_no hl
/-! ### evaluators -/
theorem howI_some {w : ByteArray} {h : Int} (hw : howI w = some h) : 1 ≤ h ∧ h ≤ 3 ∧ hows.getD (h - 1).toNat emptyB = w := by
  unfold howI Lib.idxOfS hows at hw
  simp only [Lib.idxFromS] at hw
  split at hw
  · rename_i e; simp at hw; subst hw; exact ⟨by omega, by omega, e⟩
  · split at hw
    · rename_i e; simp at hw; subst hw; exact ⟨by omega, by omega, e⟩
    · split at hw
      · rename_i e; simp at hw; subst hw; exact ⟨by omega, by omega, e⟩
      · simp at hw
theorem howI_of (h : Int) (h1 : 1 ≤ h) (h3 : h ≤ 3) : howI (hows.getD (h - 1).toNat emptyB) = some h ∧ GoodW (hows.getD (h - 1).toNat emptyB) := by
  obtain ⟨k, rfl⟩ : ∃ k : Nat, h = (k : Int) + 1 := ⟨(h - 1).toNat, by omega⟩
  have hk : k < 3 := by omega
  rw [show ((k : Int) + 1 - 1).toNat = k from by omega]
  match k, hk with
  | 0, _ => exact ⟨by decide, by unfold GoodW; decide⟩
  | 1, _ => exact ⟨by decide, by unfold GoodW; decide⟩
  | 2, _ => exact ⟨by decide, by unfold GoodW; decide⟩
/-! ### the verbs' shapes -/
theorem VT_shape : ∀ x ∈ VT, x.t = true ∨ (x.t = false ∧ ((x.n ≠ 5 ∧ (x.k = [] ∨ x.k = [1] ∨ x.k = [1, 1, 1] ∨ x.k = [1, 1, 1, 2, 2])) ∨ (x.n = 5 ∧ x.k = [0, 1]))) := by decide
theorem VT_at : ∀ x ∈ VT, VT[x.n - 1]? = some x ∧ 1 ≤ x.n ∧ x.n ≤ 10 := by decide
theorem VT_good : ∀ x ∈ VT, (32 : UInt8) ∉ x.s.data.toList ∧ vbOf x.s = some x := by decide
theorem VT_num {i : Nat} {x : Vb} (h : VT[i]? = some x) : x.n = i + 1 := by
  obtain ⟨y, hy, h2, -⟩ := VT_n i (by have := (List.getElem?_eq_some_iff.1 h).1; simpa [VT] using this)
  rw [hy] at h; cases h; exact h2
/-- what holds of a command with the right words -/
structure FitW (c : Cmd) (x : Vb) (ws : List ByteArray) : Prop where
  words : wordsC c = ws
  t : c.t = emptyB
  h0 : 0 ≤ c.h
  h3 : c.h ≤ 3
  how : (c.h != 0) = (x.n == 5)
  ns : c.ns.length = x.k.count 1
  ks : c.ks.length = x.k.count 2
  nm : ∀ m ∈ c.ns, m ∈ ws
  kb : ∀ n ∈ c.ks, 0 ≤ n ∧ n ≤ 999999999
theorem list_len1 {α : Type} {l : List α} (h : l.length = 1) : ∃ a, l = [a] := List.length_eq_one_iff.1 h
theorem list_len2 {α : Type} {l : List α} (h : l.length = 2) : ∃ a b, l = [a, b] := by
  match l, h with
  | [a, b], _ => exact ⟨a, b, rfl⟩
theorem list_len3 {α : Type} {l : List α} (h : l.length = 3) : ∃ a b c, l = [a, b, c] := by
  match l, h with
  | [a, b, c], _ => exact ⟨a, b, c, rfl⟩
theorem list_len5 {α : Type} {l : List α} (h : l.length = 5) : ∃ a b c d e, l = [a, b, c, d, e] := by
  match l, h with
  | [a, b, c, d, e], _ => exact ⟨a, b, c, d, e, rfl⟩
theorem itoa_num {w : ByteArray} {n : Nat} (h : numV w.data.toList = some n) : mkB (Lib.itoa (n : Int)) = w := by
  rw [(num_some h).2.2]; exact mkB_data w
theorem read_fit {x : Vb} (hx : x ∈ VT) (ht : x.t = false) {ws : List ByteArray} {c : Cmd} (hl : ws.length = x.k.length) (h : readW ⟨x.n, 0, [], [], emptyB⟩ x.k ws = some c) : FitW c x ws ∧ c.v = x.n := by
  rcases VT_shape x hx with h1 | ⟨-, ⟨hn, hk | hk | hk | hk⟩ | ⟨hn, hk⟩⟩
  · rw [ht] at h1; cases h1
  · rw [hk] at hl h
    obtain rfl : ws = [] := List.length_eq_zero_iff.1 hl
    simp only [readW, Option.some.injEq] at h
    subst h
    exact ⟨⟨rfl, rfl, by simp, by simp, by simp [hn], by rw [hk]; rfl, by rw [hk]; rfl, by simp, by simp⟩, rfl⟩
  · rw [hk] at hl h
    obtain ⟨a, rfl⟩ := list_len1 hl
    simp only [readW, stepW, Option.bind_some, Option.some.injEq] at h
    subst h
    exact ⟨⟨rfl, rfl, by simp, by simp, by simp [hn], by rw [hk]; rfl, by rw [hk]; rfl, by simp, by simp⟩, rfl⟩
  · rw [hk] at hl h
    obtain ⟨a, b, d, rfl⟩ := list_len3 hl
    simp only [readW, stepW, Option.bind_some, Option.some.injEq] at h
    subst h
    exact ⟨⟨rfl, rfl, by simp, by simp, by simp [hn], by rw [hk]; rfl, by rw [hk]; rfl, by simp, by simp⟩, rfl⟩
  · rw [hk] at hl h
    obtain ⟨a, b, d, e, f, rfl⟩ := list_len5 hl
    simp only [readW, stepW, Option.bind_some] at h
    rcases he : numV e.data.toList with _ | p
    · rw [he] at h; simp at h
    · rcases hf : numV f.data.toList with _ | q
      · rw [he, hf] at h; simp at h
      · rw [he, hf] at h
        simp only [Option.map_some, Option.bind_some, Option.some.injEq] at h
        subst h
        have h1 := itoa_num he
        have h2 := itoa_num hf
        have h3 := (num_some he).2.1
        have h4 := (num_some hf).2.1
        refine ⟨⟨?_, rfl, by simp, by simp, by simp [hn], by rw [hk]; rfl, by rw [hk]; rfl, by simp, ?_⟩, rfl⟩
        · simp [wordsC, howL, h1, h2]
        · intro n hn
          simp only [List.nil_append, List.cons_append, List.mem_cons, List.not_mem_nil, or_false] at hn
          rcases hn with rfl | rfl <;> omega
  · rw [hk] at hl h
    obtain ⟨a, b, rfl⟩ := list_len2 hl
    simp only [readW, stepW] at h
    rcases ha : howI a with _ | q
    · rw [ha] at h; simp at h
    · rw [ha] at h
      simp only [Option.map_some, Option.bind_some, Option.some.injEq] at h
      subst h
      obtain ⟨h1, h3, h2⟩ := howI_some ha
      refine ⟨⟨?_, rfl, by simp; omega, h3, ?_, by rw [hk]; rfl, by rw [hk]; rfl, by simp, by simp⟩, rfl⟩
      · unfold wordsC howL
        simp only [List.nil_append, List.map_nil, List.append_nil]
        rw [if_neg (by omega), h2]; rfl
      · simp [hn]; omega
theorem fit_read {x : Vb} (hx : x ∈ VT) (ht : x.t = false) {ws : List ByteArray} {c : Cmd} (h : FitW c x ws) (hv : c.v = x.n) : ws.length = x.k.length ∧ readW ⟨x.n, 0, [], [], emptyB⟩ x.k ws = some c := by
  obtain ⟨v, hh, ns, ks, t⟩ := c
  have h1 := h.words
  have hhow := h.how
  have hns := h.ns
  have hks := h.ks
  have hkb := h.kb
  have hT := h.t
  have h0 := h.h0
  have h3 := h.h3
  simp only at hhow hns hks hkb hT h0 h3 hv
  subst hT hv
  rcases VT_shape x hx with h1 | ⟨-, ⟨hn, hk | hk | hk | hk⟩ | ⟨hn, hk⟩⟩
  · rw [ht] at h1; cases h1
  all_goals rw [hk] at hns hks
  all_goals simp at hns hks
  · have h00 : hh = 0 := by rw [beq_eq_false_iff_ne.2 hn] at hhow; simpa using hhow
    subst hns hks h00
    rw [hk, ← h1]
    exact ⟨rfl, rfl⟩
  · have h00 : hh = 0 := by rw [beq_eq_false_iff_ne.2 hn] at hhow; simpa using hhow
    obtain ⟨a, rfl⟩ := list_len1 hns
    subst hks h00
    rw [hk, ← h1]
    exact ⟨rfl, rfl⟩
  · have h00 : hh = 0 := by rw [beq_eq_false_iff_ne.2 hn] at hhow; simpa using hhow
    obtain ⟨a, b, d, rfl⟩ := list_len3 hns
    subst hks h00
    rw [hk, ← h1]
    exact ⟨rfl, rfl⟩
  · have h00 : hh = 0 := by rw [beq_eq_false_iff_ne.2 hn] at hhow; simpa using hhow
    obtain ⟨a, b, d, rfl⟩ := list_len3 hns
    obtain ⟨p, q, rfl⟩ := list_len2 hks
    subst h00
    have hp := hkb p (by simp)
    have hq := hkb q (by simp)
    obtain ⟨p, rfl⟩ : ∃ n : Nat, p = n := ⟨p.toNat, by omega⟩
    obtain ⟨q, rfl⟩ : ∃ n : Nat, q = n := ⟨q.toNat, by omega⟩
    have e : ∀ n : Nat, (n : Int) ≤ 999999999 → numV (mkB (Lib.itoa (n : Int))).data.toList = some n := fun n hn => by
      rw [data_mkB]; unfold Lib.itoa; rw [if_neg (by omega), Int.toNat_natCast]; exact num_digits n (by omega)
    rw [hk, ← h1]
    refine ⟨rfl, ?_⟩
    simp only [wordsC, howL, if_true, List.nil_append, List.cons_append, List.map_cons, List.map_nil, readW, stepW, Option.bind_some, e p hp.2, e q hq.2, Option.map_some]
  · have h00 : hh ≠ 0 := by rw [beq_iff_eq.2 hn] at hhow; simpa using hhow
    obtain ⟨a, rfl⟩ := list_len1 hns
    subst hks
    rw [hk, ← h1]
    refine ⟨?_, ?_⟩
    · simp [wordsC, howL, h00]
    · simp only [wordsC, howL, if_neg h00, List.cons_append, List.nil_append, List.map_nil, readW, stepW, (howI_of hh (by omega) h3).1, Option.map_some, Option.bind_some]
theorem digits_free (m : Nat) : (32 : UInt8) ∉ Lib.decDigits m ∧ Lib.decDigits m ≠ [] := by
  induction m using Nat.strongRecOn with
  | _ m ih =>
    have hd : ∀ d, d < 10 → UInt8.ofNat (48 + d) ≠ 32 := fun d hd => by
      have : ∀ i : Fin 10, UInt8.ofNat (48 + i.val) ≠ 32 := by decide
      exact this ⟨d, hd⟩
    rw [Lib.decDigits]
    split
    · rename_i h
      exact ⟨by simpa using (hd m h).symm, by simp⟩
    · rename_i h
      refine ⟨?_, by simp⟩
      rw [List.mem_append, not_or]
      exact ⟨(ih (m / 10) (by omega)).1, by simpa using (hd (m % 10) (Nat.mod_lt _ (by omega))).symm⟩
theorem itoa_good {n : Int} (h : 0 ≤ n) : GoodW (mkB (Lib.itoa n)) := by
  have h1 := digits_free n.toNat
  unfold Lib.itoa
  rw [if_neg (by omega)]
  refine ⟨fun e => h1.2 ?_, h1.1⟩
  have := congrArg (fun b : ByteArray => b.data.toList) e
  simpa [data_mkB, emptyB] using this
theorem lineC_of {c : Cmd} {x : Vb} (hx : x ∈ VT) (hv : c.v = x.n) : lineC c = lineX c x := by
  obtain ⟨h1, h2, h3⟩ := VT_at x hx
  unfold lineC
  rw [if_neg (by omega), show (c.v - 1).toNat = x.n - 1 from by omega, h1]
theorem checkC_of {c : Cmd} {x : Vb} (hx : x ∈ VT) (hv : c.v = x.n) : checkC c = if (lineX c x).2 = false then 2 else if c.t ≠ emptyB then (if 2064 < (lineX c x).1.size then 3 else 0) else if fitsC c x = false then 2 else if 2064 < (lineX c x).1.size then 3 else 0 := by
  obtain ⟨h1, h2, h3⟩ := VT_at x hx
  unfold checkC
  rw [lineC_of hx hv, show (c.v - 1).toNat = x.n - 1 from by omega, h1]
theorem fit_line {x : Vb} (ht : x.t = false) {ws : List ByteArray} {c : Cmd} (h : FitW c x ws) (hv : c.v = x.n) (hg : ∀ m ∈ c.ns, GoodW m) : lineX c x = (mkB (Lib.join ((x.s :: ws).map (·.data.toList)) [32]), true) ∧ fitsC c x = true := by
  constructor
  · unfold lineX lineW
    rw [ht, if_neg (by decide), if_neg (by have := h.h0; have := h.h3; omega), h.t, ← h.words]
    simp [wordsC]
  · unfold fitsC
    have e1 : ((c.h != 0) == (c.v == 5)) = true := by
      rw [h.how, hv, beq_iff_eq, Bool.eq_iff_iff, beq_iff_eq, beq_iff_eq]; omega
    have e2 : (c.ns.length == x.k.count 1) = true := beq_iff_eq.2 h.ns
    have e3 : (c.ks.length == x.k.count 2) = true := beq_iff_eq.2 h.ks
    have e4 : c.ns.any badS = false := by
      rw [List.any_eq_false]; intro m hm; rw [(badS_iff m).2 (hg m hm)]; simp
    have e5 : c.ks.any badK = false := by
      rw [List.any_eq_false]; intro n hn
      obtain ⟨h1, h2⟩ := h.kb n hn
      unfold badK; simp; omega
    rw [e1, e2, e3, e4, e5]; simp
theorem contains_good {ws : List ByteArray} : Lib.containsS ws emptyB = false ↔ ∀ m ∈ ws, m ≠ emptyB := by
  rw [← Bool.not_eq_true, Lib.containsS_iff]
  constructor
  · intro h m hm e; exact h (e ▸ hm)
  · intro h he; exact h _ he rfl
theorem map_data (ws : List ByteArray) : (ws.map (·.data.toList)).map mkB = ws := by
  rw [List.map_map]
  exact (List.map_congr_left fun w _ => mkB_data w).trans (List.map_id ws)
theorem words_data (s : ByteArray) : (words s).map (·.data.toList) = wds s.data.toList := by
  unfold words
  rw [List.map_map]
  exact (List.map_congr_left fun w _ => data_mkB w).trans (List.map_id _)
theorem joinB_cut {s : ByteArray} {x : List UInt8} {r : List UInt8} (h : s.data.toList = x ++ 32 :: r) : s = mkB x ++ sp ++ mkB r := by
  rw [← mkB_data s, h]
  apply ByteArray.ext
  apply Array.ext'
  simp [mkB, sp]
theorem again_plain {s : ByteArray} (h : (parseC s).2 = 0) : checkC (parseC s).1 = 0 ∧ (lineC (parseC s).1).1 = s := by
  unfold parseC at h ⊢
  split
  · rename_i hs; rw [if_pos hs] at h; cases h
  · rename_i hs
    rw [if_neg hs] at h
    cases hv : vbOf (mkB (Lib.cut s.data.toList [32]).1) with
    | none => rw [hv] at h; cases h
    | some x =>
      rw [hv] at h
      obtain ⟨hx, hxs⟩ := vbOf_mem hv
      simp only at h ⊢
      cases hb : bodyC x (mkB (Lib.cut s.data.toList [32]).2.1) (Lib.cut s.data.toList [32]).2.2 with
      | none => rw [hb] at h; cases h
      | some c =>
        simp only
        clear h hv
        unfold bodyC at hb
        cases ht : x.t with
        | true =>
          rw [ht, if_pos rfl] at hb
          rcases cut_sp s.data.toList with ⟨-, h2⟩ | ⟨y, r, h1, -, h2⟩
          · rw [h2] at hb; simp at hb
          · rw [h2] at hb hxs
            simp only [if_true, Option.some.injEq] at hb hxs
            subst hb
            have hv : (⟨x.n, 0, [], [], mkB r⟩ : Cmd).v = x.n := rfl
            have hs2 : lineX ⟨x.n, 0, [], [], mkB r⟩ x = (s, true) := by
              unfold lineX
              rw [ht, if_pos rfl, hxs, ← joinB_cut h1]; rfl
            rw [checkC_of hx hv, lineC_of hx hv, hs2]
            refine ⟨?_, rfl⟩
            have hf : fitsC ⟨x.n, 0, [], [], mkB r⟩ x = true := by unfold fitsC; rw [ht]; rfl
            rw [hf]; simp [hs]
        | false =>
          rw [ht, if_neg (by decide)] at hb
          split at hb
          · rename_i hl
            obtain ⟨hl, hce⟩ := hl
            obtain ⟨hf, hv⟩ := read_fit hx ht hl hb
            have hsp : ∀ m ∈ wordsOf (mkB (Lib.cut s.data.toList [32]).2.1) (Lib.cut s.data.toList [32]).2.2, (32 : UInt8) ∉ m.data.toList := by
              intro m hm
              unfold wordsOf at hm
              split at hm
              · exact words_good hm
              · cases hm
            obtain ⟨h1, h2⟩ := fit_line ht hf hv (fun m hm => ⟨contains_good.1 hce m (hf.nm m hm), hsp m (hf.nm m hm)⟩)
            have hs2 : mkB (Lib.join ((x.s :: wordsOf (mkB (Lib.cut s.data.toList [32]).2.1) (Lib.cut s.data.toList [32]).2.2).map (·.data.toList)) [32]) = s := by
              rcases cut_sp s.data.toList with ⟨-, h2⟩ | ⟨y, r, h1, h3, h2⟩
              · rw [h2] at hxs ⊢
                rw [show wordsOf (mkB []) false = [] from rfl, hxs]
                simp only [List.map_cons, List.map_nil, Lib.join_one]
                rfl
              · rw [h2] at hxs ⊢
                rw [show wordsOf (mkB r) true = words (mkB r) from rfl, List.map_cons, words_data, hxs, data_mkB, data_mkB, ← h3, join_wds]
                rfl
            rw [hs2] at h1
            rw [checkC_of hx hv, lineC_of hx hv, h1, h2, hf.t]
            exact ⟨by simp [hs], rfl⟩
          · cases hb
theorem round_plain {c : Cmd} {s : ByteArray} (h : printC c = (s, 0)) : parseC s = (c, 0) := by
  unfold printC at h
  have hc : checkC c = 0 := by
    by_cases h0 : checkC c = 0
    · exact h0
    · rw [if_pos h0] at h; simp only [Prod.mk.injEq] at h; exact h.2
  rw [if_neg (by simp [hc])] at h
  obtain ⟨hs, -⟩ := Prod.mk.inj h
  clear h
  have hl : (lineC c).2 = true := by
    cases h : (lineC c).2 with
    | true => rfl
    | false => unfold checkC at hc; rw [if_pos h] at hc; cases hc
  obtain ⟨i, hv, hi, x, hxi⟩ := lineC_verb hl
  have hx : x ∈ VT := List.mem_of_getElem? hxi
  have hn := VT_num hxi
  replace hv : c.v = x.n := by rw [hv, hn]; rfl
  rw [checkC_of hx hv] at hc
  rw [lineC_of hx hv] at hs hl
  rw [hl] at hc
  simp only [Bool.true_eq_false, if_false] at hc
  obtain ⟨hgx, hvx⟩ := VT_good x hx
  have hsz : s.size ≤ 2064 := by
    rw [hs] at hc
    rcases Nat.lt_or_ge 2064 s.size with h | h
    · rw [if_pos h] at hc
      split at hc
      · cases hc
      · split at hc <;> cases hc
    · exact h
  obtain ⟨v, hh, ns, ks, t⟩ := c
  simp only at hv
  unfold parseC
  rw [if_neg (by omega)]
  cases ht : x.t with
  | true =>
    unfold lineX at hs hl
    rw [ht, if_pos rfl] at hs hl
    simp only [Bool.and_eq_true, decide_eq_true_iff] at hl
    obtain ⟨⟨rfl, h2⟩, h3⟩ := hl
    obtain rfl : ns = [] := List.length_eq_zero_iff.1 h2
    obtain rfl : ks = [] := List.length_eq_zero_iff.1 (by have := beq_iff_eq.1 h3; omega)
    have hd : s.data.toList = x.s.data.toList ++ 32 :: t.data.toList := by rw [← hs]; simp [sp]
    rcases cut_sp s.data.toList with ⟨h1, -⟩ | ⟨y, r, h1, h3, h2⟩
    · rw [hd, wds_app hgx] at h1
      exact absurd (List.cons.inj h1).2 (wds_ne _)
    · rw [hd, wds_app hgx] at h3
      obtain ⟨rfl, -⟩ := List.cons.inj h3
      have hr : t.data.toList = r := by rw [hd] at h1; simpa using h1
      rw [h2]
      simp only
      rw [mkB_data, hvx]
      simp only
      unfold bodyC
      rw [ht, if_pos rfl, if_pos rfl, ← hr, mkB_data, hv]
  | false =>
    have hsl := hl
    unfold lineX at hsl hs
    rw [ht, if_neg (by decide)] at hsl hs
    by_cases hh3 : hh < 0 ∨ 3 < hh
    · rw [if_pos hh3] at hsl; cases hsl
    · rw [if_neg hh3] at hsl hs
      have htt : t = emptyB := by simpa using hsl
      subst htt
      simp only [ne_eq, not_true_eq_false, if_false] at hc
      have hf : fitsC ⟨v, hh, ns, ks, emptyB⟩ x = true := by
        cases hf : fitsC ⟨v, hh, ns, ks, emptyB⟩ x with
        | true => rfl
        | false => rw [hf, if_pos rfl] at hc; cases hc
      unfold fitsC at hf
      rw [ht, Bool.false_or] at hf
      simp only [Bool.and_eq_true, Bool.not_eq_true'] at hf
      obtain ⟨⟨⟨⟨f1, f2⟩, f3⟩, f4⟩, f5⟩ := hf
      have hgn : ∀ m ∈ ns, GoodW m := fun m hm => (badS_iff m).1 (by have := List.any_eq_false.1 f4 m hm; simpa using this)
      have hkb : ∀ n ∈ ks, 0 ≤ n ∧ n ≤ 999999999 := fun n hn => by
        have := List.any_eq_false.1 f5 n hn
        unfold badK at this
        simp at this
        omega
      have hF : FitW ⟨v, hh, ns, ks, emptyB⟩ x (wordsC ⟨v, hh, ns, ks, emptyB⟩) := by
        refine ⟨rfl, rfl, by simp only; omega, by simp only; omega, ?_, beq_iff_eq.1 f2, beq_iff_eq.1 f3, fun m hm => ?_, hkb⟩
        · rw [beq_iff_eq.1 f1, hv, Bool.eq_iff_iff, beq_iff_eq, beq_iff_eq]; omega
        · unfold wordsC; simp only at hm ⊢; simp [hm]
      have hgw : ∀ m ∈ wordsC ⟨v, hh, ns, ks, emptyB⟩, GoodW m := by
        intro m hm
        unfold wordsC at hm
        rcases List.mem_append.1 hm with hm | hm
        · unfold howL at hm
          split at hm
          · cases hm
          · rename_i h0
            simp only at h0 hm
            rw [List.mem_singleton.1 hm]
            exact (howI_of hh (by omega) (by omega)).2
        · rcases List.mem_append.1 hm with hm | hm
          · exact hgn m hm
          · obtain ⟨n, hn, rfl⟩ := List.mem_map.1 hm
            exact itoa_good (hkb n hn).1
      obtain ⟨r1, r2⟩ := fit_read hx ht hF hv
      have hwl : lineW ⟨v, hh, ns, ks, emptyB⟩ x = x.s :: wordsC ⟨v, hh, ns, ks, emptyB⟩ := by unfold lineW wordsC; simp
      rw [hwl] at hs
      simp only at hs
      generalize hW : wordsC ⟨v, hh, ns, ks, emptyB⟩ = ws at *
      have hd : wds s.data.toList = x.s.data.toList :: ws.map (·.data.toList) := by
        rw [← hs, data_mkB, List.map_cons]
        exact wds_join _ _ hgx (fun y hy => by obtain ⟨m, hm, rfl⟩ := List.mem_map.1 hy; exact (hgw m hm).2)
      have key : ∀ rest more, wordsOf rest more = ws → bodyC x rest more = some ⟨v, hh, ns, ks, emptyB⟩ := by
        intro rest more he
        unfold bodyC
        rw [ht, if_neg (by decide), he, if_pos ⟨r1, contains_good.2 fun m hm => (hgw m hm).1⟩]
        exact r2
      rcases cut_sp s.data.toList with ⟨h1, h2⟩ | ⟨y, r, h1, h3, h2⟩
      · rw [hd] at h1
        obtain ⟨h4, h5⟩ := List.cons.inj h1
        rw [h2]
        simp only
        rw [← h4, mkB_data, hvx]
        simp only
        rw [key _ _ (by rw [List.map_eq_nil_iff.1 h5]; rfl)]
      · rw [hd] at h3
        obtain ⟨h4, h5⟩ := List.cons.inj h3
        rw [h2]
        simp only
        rw [← h4, mkB_data, hvx]
        simp only
        rw [key _ _ (by unfold wordsOf words; rw [if_pos rfl, data_mkB, ← h5, map_data])]
theorem one_plain {a b : Cmd} {s t : ByteArray} (h1 : printC a = (s, 0)) (h2 : printC b = (t, 0)) : decide (s = t) = decide (a = b) := by
  rw [Bool.eq_iff_iff, decide_eq_true_iff, decide_eq_true_iff]
  constructor
  · rintro rfl
    have := (round_plain h1).symm.trans (round_plain h2)
    simpa using this
  · rintro rfl
    have := h1.symm.trans h2
    simpa using this
theorem cut_size (s : ByteArray) : (mkB (Lib.cut s.data.toList [32]).2.1).size ≤ s.size := by
  have e : s.data.toList.length = s.size := Array.length_toList
  rw [mkB_size]
  rcases cut_sp s.data.toList with ⟨-, h2⟩ | ⟨y, r, h1, -, h2⟩
  · rw [h2]; simp
  · rw [h2, ← e, h1]; simp; omega
theorem parse_sm {s : ByteArray} (h : (parseC s).2 = 0) : SmC (parseC s).1 := by
  unfold parseC at h ⊢
  split
  · rename_i hs; rw [if_pos hs] at h; cases h
  · rename_i hs
    rw [if_neg hs] at h
    cases hv : vbOf (mkB (Lib.cut s.data.toList [32]).1) with
    | none => rw [hv] at h; cases h
    | some x =>
      rw [hv] at h
      obtain ⟨hx, hxs⟩ := vbOf_mem hv
      simp only at h ⊢
      cases hb : bodyC x (mkB (Lib.cut s.data.toList [32]).2.1) (Lib.cut s.data.toList [32]).2.2 with
      | none => rw [hb] at h; cases h
      | some c =>
        simp only
        have hlen := bodyC_len hx hb
        have hcs := cut_size s
        clear h hv
        unfold bodyC at hb
        cases ht : x.t with
        | true =>
          rw [ht, if_pos rfl] at hb
          split at hb
          · simp only [Option.some.injEq] at hb
            subst hb
            exact ⟨⟨by simp, by simp⟩, by simp, by simp, by simp, by simp, by simp only; omega⟩
          · cases hb
        | false =>
          rw [ht, if_neg (by decide)] at hb
          split at hb
          · rename_i hl
            obtain ⟨hl, hce⟩ := hl
            obtain ⟨hf, hv⟩ := read_fit hx ht hl hb
            refine ⟨⟨by omega, by omega⟩, by omega, fun m hm => ?_, by omega, fun n hn => ?_, by rw [hf.t]; exact Nat.zero_le _⟩
            · have := hf.nm m hm
              unfold wordsOf at this
              split at this
              · have := words_size this; omega
              · cases this
            · have := hf.kb n hn; omega
          · cases hb
theorem parse_err (s : ByteArray) : (parseC s).2 = 0 ∨ ((parseC s).2 = 3 ∧ 2064 < s.size) ∨ (parseC s).2 = 400 ∨ (parseC s).2 = 401 := by
  unfold parseC
  split
  · rename_i h; exact .inr (.inl ⟨rfl, h⟩)
  · split
    · exact .inr (.inr (.inl rfl))
    · split
      · exact .inr (.inr (.inr rfl))
      · exact .inl rfl
theorem check_err (c : Cmd) : checkC c = 0 ∨ checkC c = 2 ∨ checkC c = 3 := by
  unfold checkC
  split
  · exact .inr (.inl rfl)
  · split
    · split
      · exact .inr (.inr rfl)
      · exact .inl rfl
    · split
      · exact .inr (.inl rfl)
      · split
        · exact .inr (.inl rfl)
        · split
          · exact .inr (.inr rfl)
          · exact .inl rfl
theorem print_err (c : Cmd) : (printC c).2 = 0 ∨ (printC c).2 = 2 ∨ (printC c).2 = 3 := by
  unfold printC
  split
  · exact check_err c
  · exact .inl rfl
end Go.Proofs.YtikkfbkpgejneaaDoor
/- The laws CommandAgain, CommandRound. -/
namespace Go.Proofs.YtikkfbkpgejneaaDoor
open Go.RowKit Go.Shelf

set_option maxRecDepth 100000 in
set_option maxHeartbeats 3200000 in
theorem commandAgain_any (s : ByteArray) (w : World) (hg : Gb w) (_hsz : s.size ≤ 9223372036854775807) : Calls Tryd.prog 7 #[.string s] w fun e w' => e = .returned (.bool true) ∧ Below w.heap.size w w' := by
  have h8 := hg.sz
  have HG := Lib.hid hg
  have HP := Lib.hid (fun w hg => parse_any s w hg)
  have HE := Lib.hid (parse_err s)
  have HAg := Lib.hid (fun h => again_plain (s := s) h)
  have HSm := Lib.hid (fun h => parse_sm (s := s) h)
  have HHd := Lib.hid (fun w hg => head_any w hg)
  generalize parseC s = P at *
  obtain ⟨c, er⟩ := P
  simp only at HE HAg HSm
  clear hg
  go_enter Tryd.func7, Tryd.ntmps7
  go_wp2_with fail
  refine (HP.out _ HG.out).mono ?_
  intro e w1 hp
  obtain ⟨hb1, an, cn, ak, ck, rfl, hrs, hrz⟩ := hp.read
  simp only at hrs hrz
  have HB1 := Lib.hid hb1
  have HS1 := Lib.hid hrs
  have HZ1 := Lib.hid hrz
  clear hp hrs hrz hb1
  simp only
  go_wp2_with fail
  have hk := heap_alloc_new w1 (.cells #[.int .i64 c.v, .int .i64 c.h, .slice an c.ns.length cn, .slice ak c.ks.length ck, .string c.t] 27)
  have hb := below1 w1 (.cells #[.int .i64 c.v, .int .i64 c.h, .slice an c.ns.length cn, .slice ak c.ks.length ck, .string c.t] 27)
  have HB2 := Lib.hid (HB1.out.trans (hb.mono HB1.out.size))
  have HS2 := Lib.hid (HS1.out.below hb)
  have HZ2 := Lib.hid (HZ1.out.below hb)
  have HK2 := Lib.hid hk
  clear hk hb
  generalize hbb : w1.heap.size = bb at *
  generalize w1.alloc (.cells #[.int .i64 c.v, .int .i64 c.h, .slice an c.ns.length cn, .slice ak c.ks.length ck, .string c.t] 27) = w2 at *
  clear hbb
  refine (HHd.out _ (HG.out.below (B := w.heap.size) h8 HB2.out)).mono ?_
  rintro e w3 ⟨rfl, hb3⟩
  have HB3 := Lib.hid (HB2.out.trans (hb3.mono HB2.out.size))
  have HS3 := Lib.hid (HS2.out.below hb3)
  have HZ3 := Lib.hid (HZ2.out.below hb3)
  have HK3 := Lib.hid ((hb3.block _ (Array.getElem?_eq_some_iff.1 HK2.out).1).trans HK2.out)
  clear hb3
  by_cases h0 : er = 0
  · subst h0
    obtain ⟨hc0, hl⟩ := HAg.out rfl
    have hp : printC c = (s, 0) := by unfold printC; rw [if_neg (by simp [hc0]), hl]
    have sm := HSm.out rfl
    have HPr := Lib.hid (fun va w hg hr => print_any va c w hg hr sm)
    have HCk := Lib.hid (fun va w hg hr => check_any va c w hg hr sm)
    rw [hp] at HPr
    rw [hc0] at HCk
    have hk3 := HK3.out
    have q0 : w3.cell? ⟨bb, 0, none⟩ = some (.int .i64 c.v) := by simp [World.cell?, hk3]
    have q1 : w3.cell? ⟨bb, 1, none⟩ = some (.int .i64 c.h) := by simp [World.cell?, hk3]
    have q2 : w3.cell? ⟨bb, 2, none⟩ = some (.slice an c.ns.length cn) := by simp [World.cell?, hk3]
    have q3 : w3.cell? ⟨bb, 3, none⟩ = some (.slice ak c.ks.length ck) := by simp [World.cell?, hk3]
    have q4 : w3.cell? ⟨bb, 4, none⟩ = some (.string c.t) := by simp [World.cell?, hk3]
    have HR3 : Hid (RdCm w3 (.agg #[.int .i64 c.v, .int .i64 c.h, .slice an c.ns.length cn, .slice ak c.ks.length ck, .string c.t]) c) := ⟨_, _, _, _, rfl, HS3.out, HZ3.out⟩
    clear hc0 hl hp sm hk3
    go_wp2_with fail
    refine (HPr.out _ w3 (HG.out.below (B := w.heap.size) h8 HB3.out) HR3.out).mono ?_
    rintro e w4 ⟨rfl, hb4⟩
    have HB4 := Lib.hid (HB3.out.trans (hb4.mono HB3.out.size))
    have HR4 := Lib.hid (HR3.out.below hb4)
    have hk4 := (hb4.block _ (Array.getElem?_eq_some_iff.1 HK3.out).1).trans HK3.out
    have p0 : w4.cell? ⟨bb, 0, none⟩ = some (.int .i64 c.v) := by simp [World.cell?, hk4]
    have p1 : w4.cell? ⟨bb, 1, none⟩ = some (.int .i64 c.h) := by simp [World.cell?, hk4]
    have p2 : w4.cell? ⟨bb, 2, none⟩ = some (.slice an c.ns.length cn) := by simp [World.cell?, hk4]
    have p3 : w4.cell? ⟨bb, 3, none⟩ = some (.slice ak c.ks.length ck) := by simp [World.cell?, hk4]
    have p4 : w4.cell? ⟨bb, 4, none⟩ = some (.string c.t) := by simp [World.cell?, hk4]
    have hss : (s.toList == s.toList) = true := by simp
    clear hb4 hk4 q0 q1 q2 q3 q4
    go_wp2_with fail
    refine (HCk.out _ w4 (HG.out.below (B := w.heap.size) h8 HB4.out) HR4.out).mono ?_
    rintro e w5 ⟨rfl, hb5⟩
    have HB5 := Lib.hid (HB4.out.trans (hb5.mono HB4.out.size))
    clear hb5
    go_wp2_with fail
    go_ret
    exact ⟨rfl, HB5.out⟩
  · have e0 : (er != 0) = true := by simpa using h0
    rcases HE.out with h | ⟨h, hl⟩ | h | h
    · exact absurd h h0
    · subst h
      have hl2 : (2064 : Int) < s.size := by omega
      clear h0
      go_wp2_with fail
      go_ret
      exact ⟨rfl, HB3.out⟩
    · subst h
      clear h0
      go_wp2_with fail
      go_ret
      exact ⟨rfl, HB3.out⟩
    · subst h
      clear h0
      go_wp2_with fail
      go_ret
      exact ⟨rfl, HB3.out⟩
set_option maxRecDepth 100000 in
set_option maxHeartbeats 3200000 in
theorem commandRound_any (va : Value) (c : Cmd) (w : World) (hg : Gb w) (hr : RdCm w va c) (sm : SmC c) : Calls Tryd.prog 8 #[va] w fun e w' => e = .returned (.bool true) ∧ Below w.heap.size w w' := by
  have h8 := hg.sz
  have HG := Lib.hid hg
  obtain ⟨an, cn, ak, ck, rfl, a1, a2⟩ := hr
  have HA1 := Lib.hid a1
  have HA2 := Lib.hid a2
  have HBg := Lib.hid sm.big
  have HPr := Lib.hid (fun va w hg hr => print_any va c w hg hr sm)
  have HE := Lib.hid (print_err c)
  have HRd := Lib.hid (fun s h => round_plain (c := c) (s := s) h)
  have HHd := Lib.hid (fun w hg => head_any w hg)
  generalize printC c = P at *
  obtain ⟨s, er⟩ := P
  simp only at HE HRd
  have HP := Lib.hid (fun w hg => parse_any s w hg)
  clear hg a1 a2 sm
  go_enter Tryd.func8, Tryd.ntmps8
  go_wp2_with fail
  have hbx := heap_alloc_new w (.cells #[.int .i64 c.v, .int .i64 c.h, .slice an c.ns.length cn, .slice ak c.ks.length ck, .string c.t] 27)
  have HB1 := Lib.hid (below1 w (.cells #[.int .i64 c.v, .int .i64 c.h, .slice an c.ns.length cn, .slice ak c.ks.length ck, .string c.t] 27))
  have HBx := Lib.hid hbx
  clear hbx
  change Calls _ _ _ (w.alloc (.cells #[.int .i64 c.v, .int .i64 c.h, .slice an c.ns.length cn, .slice ak c.ks.length ck, .string c.t] 27)) _
  generalize w.alloc (.cells #[.int .i64 c.v, .int .i64 c.h, .slice an c.ns.length cn, .slice ak c.ks.length ck, .string c.t] 27) = w1 at *
  have hA : RdCm w1 (.agg #[.int .i64 c.v, .int .i64 c.h, .slice an c.ns.length cn, .slice ak c.ks.length ck, .string c.t]) c := ⟨_, _, _, _, rfl, HA1.out.below HB1.out, HA2.out.below HB1.out⟩
  have HA := Lib.hid hA
  clear hA
  refine (HPr.out _ w1 (HG.out.below (B := w.heap.size) h8 HB1.out) HA.out).mono ?_
  rintro e w2 ⟨rfl, hb⟩
  have HB2 := Lib.hid (HB1.out.trans (hb.mono HB1.out.size))
  have HAw := Lib.hid (HA.out.below hb)
  have HK2 := Lib.hid ((hb.block _ (Array.getElem?_eq_some_iff.1 HBx.out).1).trans HBx.out)
  clear hb
  go_wp2_with fail
  refine (HHd.out _ (HG.out.below (B := w.heap.size) h8 HB2.out)).mono ?_
  rintro e w3 ⟨rfl, hb3⟩
  have HB3 := Lib.hid (HB2.out.trans (hb3.mono HB2.out.size))
  have HA3 := Lib.hid (HAw.out.below hb3)
  have HK3 := Lib.hid ((hb3.block _ (Array.getElem?_eq_some_iff.1 HK2.out).1).trans HK2.out)
  clear hb3
  by_cases h0 : er = 0
  · subst h0
    have hp := HRd.out s rfl
    rw [hp] at HP
    clear hp
    go_wp2_with fail
    refine (HP.out _ (HG.out.below (B := w.heap.size) h8 HB3.out)).mono ?_
    intro e w4 hp
    obtain ⟨hb4, an2, cn2, ak2, ck2, rfl, hrs, hrz⟩ := hp.read
    simp only at hrs hrz
    have HB4 := Lib.hid (HB3.out.trans (hb4.mono HB3.out.size))
    have HA4 := Lib.hid (HA3.out.below hb4)
    have HK4 := Lib.hid ((hb4.block _ (Array.getElem?_eq_some_iff.1 HK3.out).1).trans HK3.out)
    have HC4 : Hid (RdCm w4 (.agg #[.int .i64 c.v, .int .i64 c.h, .slice an2 c.ns.length cn2, .slice ak2 c.ks.length ck2, .string c.t]) c) := ⟨_, _, _, _, rfl, hrs, hrz⟩
    clear hp hrs hrz hb4
    simp only
    have hk4 := HK4.out
    have q0 := cell?_alloc_old (.cells #[.int .i64 c.v, .int .i64 c.h, .slice an2 c.ns.length cn2, .slice ak2 c.ks.length ck2, .string c.t] 27) (show w4.cell? ⟨w.heap.size, 0, none⟩ = some (.int .i64 c.v) by simp [World.cell?, hk4])
    have q1 := cell?_alloc_old (.cells #[.int .i64 c.v, .int .i64 c.h, .slice an2 c.ns.length cn2, .slice ak2 c.ks.length ck2, .string c.t] 27) (show w4.cell? ⟨w.heap.size, 1, none⟩ = some (.int .i64 c.h) by simp [World.cell?, hk4])
    have q2 := cell?_alloc_old (.cells #[.int .i64 c.v, .int .i64 c.h, .slice an2 c.ns.length cn2, .slice ak2 c.ks.length ck2, .string c.t] 27) (show w4.cell? ⟨w.heap.size, 2, none⟩ = some (.slice an c.ns.length cn) by simp [World.cell?, hk4])
    have q3 := cell?_alloc_old (.cells #[.int .i64 c.v, .int .i64 c.h, .slice an2 c.ns.length cn2, .slice ak2 c.ks.length ck2, .string c.t] 27) (show w4.cell? ⟨w.heap.size, 3, none⟩ = some (.slice ak c.ks.length ck) by simp [World.cell?, hk4])
    have q4 := cell?_alloc_old (.cells #[.int .i64 c.v, .int .i64 c.h, .slice an2 c.ns.length cn2, .slice ak2 c.ks.length ck2, .string c.t] 27) (show w4.cell? ⟨w.heap.size, 4, none⟩ = some (.string c.t) by simp [World.cell?, hk4])
    have hb := below1 w4 (.cells #[.int .i64 c.v, .int .i64 c.h, .slice an2 c.ns.length cn2, .slice ak2 c.ks.length ck2, .string c.t] 27)
    have HB5 := Lib.hid (HB4.out.trans (hb.mono HB4.out.size))
    have HSm := Lib.hid (cmSame_any _ _ c c _ (HA4.out.below hb) (HC4.out.below hb) HBg.out HBg.out)
    rw [decide_eq_true (rfl : c = c)] at HSm
    clear hk4 hb
    go_wp2_with fail
    refine (HSm.out).mono ?_
    rintro e w6 ⟨rfl, hb⟩
    have HB6 := Lib.hid (HB5.out.trans (hb.mono HB5.out.size))
    clear hb
    go_wp2_with fail
    go_ret
    exact ⟨rfl, HB6.out⟩
  · have e0 : (er != 0) = true := by simpa using h0
    rcases HE.out with h | h | h
    · exact absurd h h0
    · subst h
      clear h0
      go_wp2_with fail
      go_ret
      exact ⟨rfl, HB3.out⟩
    · subst h
      clear h0
      go_wp2_with fail
      go_ret
      exact ⟨rfl, HB3.out⟩
end Go.Proofs.YtikkfbkpgejneaaDoor
/- The row's listed variables: what they give a walk (Gb), and a world that lays them all for the witness. -/
namespace Go.Proofs.YtikkfbkpgejneaaDoor
open Go.ChangeShapes Go.WideShapes Go.ChangeAt Go.RowKit
set_option maxRecDepth 100000

abbrev laidAll : List (String × DataW Unit) := Rows.commandParsesRow.laid
theorem laidAll_plain : (laidAll.filter fun x => x.2.handleName?.isSome) = [] := by kernel_rfl
theorem laidAll_met {W : World} (h : laidMetH Tryd.prog laidAll W) : laidMet Tryd.prog laidAll W := by
  unfold laidMetH at h
  rw [laidAll_plain] at h
  exact h
theorem star_err : "*" ++ "errors.errorString" = "*errors.errorString" := by decide
theorem row_err (u : TypeId) (h : Tryd.prog.typeName? 3 u = some "*errors.errorString") : u = 143 :=
  typeName_ptr_named (nm := "errors.errorString") (by rw [star_err]; kernel_rfl) (by kernel_rfl) (by decide) u (by rw [star_err]; exact h)
theorem gb_of {W : World} (hL : laidMetH Tryd.prog laidAll W) (hsh : W.ShapedOpen Tryd.prog) : Gb W := by
  have h0 := laidAll_met hL
  have t32 := Lib.tabIs_of_head (k := .u8) (zs := [0, 1, 28, 2, 29, 14, 24, 3, 30, 22, 20, 15, 25, 17, 4, 8, 31, 27, 13, 23, 21, 19, 16, 7, 26, 12, 18, 6, 11, 5, 10, 9]) (g := 6) (by kernel_rfl) (by kernel_rfl) (ht := Tryd.underlying147) (he := Tryd.underlying5) (by kernel_rfl) (by kernel_rfl) h0
  have h1 := h0.tail
  have h2 := h1.tail
  have tp := Lib.tabIs_of_head (k := .u64) (zs := Lib.pow10Tab) (g := 3) (by kernel_rfl) (by kernel_rfl) (ht := Tryd.underlying135) (he := Tryd.underlying120) (by kernel_rfl) (by kernel_rfl) h2
  have h4 := h2.tail.tail
  obtain ⟨a1, s1, e1, _⟩ := laid_sentinel h4 (g := 2) (by kernel_rfl) (by kernel_rfl) Tryd.underlying90 row_err Tryd.underlying143 Tryd.underlying145 rfl rfl Tryd.underlying9 (by kernel_rfl) (by kernel_rfl)
  obtain ⟨a2, s2, e2, _⟩ := laid_sentinel h4.tail (g := 1) (by kernel_rfl) (by kernel_rfl) Tryd.underlying90 row_err Tryd.underlying143 Tryd.underlying145 rfl rfl Tryd.underlying9 (by kernel_rfl) (by kernel_rfl)
  have hmx := cell_of_shapedOpen_int (g := 0) (zero := #[.int .i64 0]) (t := 3) (k := .i64) hsh (of_decide_eq_true (by kernel_rfl)) (by kernel_rfl) rfl (by kernel_rfl) (by kernel_rfl) Tryd.underlying3
  obtain ⟨cs7, hc7, _⟩ := hsh.1 7 (Array.replicate 64 (.int .u8 0)) 148 (of_decide_eq_true (by kernel_rfl)) (by kernel_rfl)
  have hz : 7 < W.heap.size := by
    rcases Nat.lt_or_ge 7 W.heap.size with h | h
    · exact h
    · rw [Array.getElem?_eq_none h] at hc7
      cases hc7
  exact ⟨hz, hmx, ⟨_, _, e2⟩, ⟨_, _, e1⟩, tp⟩

/-! ### a world that lays them all -/
def valOf : DataW Unit → List Value
  | .lit (.int k z) => [.int k z]
  | _ => []
def valsOf : DataW Unit → List Value
  | .agg l => l.flatMap fun x => match x with
    | .agg m => m.flatMap valOf
    | y => valOf y
  | _ => []
abbrev synS : ByteArray := { data := #[105, 110, 118, 97, 108, 105, 100, 32, 115, 121, 110, 116, 97, 120] }
abbrev rngS : ByteArray := { data := #[118, 97, 108, 117, 101, 32, 111, 117, 116, 32, 111, 102, 32, 114, 97, 110, 103, 101] }
noncomputable def lowW : Nat := (World.holding Tryd.prog default ⟨#[], #[], []⟩).heap.size
def putCells (cs : Array Value) : Obj → Obj
  | .cells _ t frozen => .cells cs t frozen
  | o => o
noncomputable def laidWorld (os : Os) : World :=
  let w0 := World.holding Tryd.prog os ⟨#[.cells #[.string synS] 145, .cells #[.string rngS] 145], #[], []⟩
  { w0 with heap := ((((((w0.heap.modify 1 (putCells #[.iface 143 (.pointer (some ⟨lowW, 0, none⟩))])).modify 2 (putCells #[.iface 143 (.pointer (some ⟨lowW + 1, 0, none⟩))])).modify 3 (putCells (valsOf Rows.laid_internal_strconv_uint64pow10).toArray)).modify 4 (putCells (valsOf Rows.laid_unicode_utf8_first).toArray)).modify 5 (putCells (valsOf Rows.laid_unicode_utf8_acceptRanges).toArray)).modify 6 (putCells (valsOf Rows.laid_math_bits_deBruijn32tab).toArray)).modify 7 (putCells (valsOf Rows.laid_math_bits_deBruijn64tab).toArray) }
theorem laidWorld_met (os : Os) (args : Array Value) : laidMet Tryd.prog laidAll ((laidWorld os).forCall (fun _ _ => 0) ⟨#[], args, []⟩).memory :=
  laidMet_of_run3 8 (by kernel_rfl) (by kernel_rfl) (by kernel_rfl)
theorem laidWorld_metH (os : Os) (args : Array Value) : laidMetH Tryd.prog laidAll ((laidWorld os).forCall (fun _ _ => 0) ⟨#[], args, []⟩).memory := by
  unfold laidMetH
  rw [laidAll_plain]
  exact laidWorld_met os args
end Go.Proofs.YtikkfbkpgejneaaDoor
/- A command that is an argument: what its reading says of its cells. -/
namespace Go.Proofs.YtikkfbkpgejneaaDoor
open Go.ChangeShapes Go.WideShapes Go.RowKit Go.Deep

theorem ba_lenC (x : ByteArray) : x.data.toList.length = x.size := Array.length_toList
theorem spot_noneN {w : World} {b o : Nat} {sp : Option Nat} {v : Value} (h : w.cell? ⟨b, o, sp⟩ = some v) : sp = none := by
  cases sp with
  | none => rfl
  | some s => unfold World.cell? at h; split at h <;> simp at h
theorem bulk_append {H : Type} (l r : List (DataW H)) : Rows.uptoBulkAll (l ++ r) = Rows.uptoBulkAll l + Rows.uptoBulkAll r := by
  induction l with
  | nil => simp [Rows.uptoBulkAll]
  | cons x l ih => simp only [List.cons_append, Rows.uptoBulkAll, ih]; omega
theorem bulk_pos {H : Type} (x : DataW H) : 1 ≤ Rows.uptoBulk x := by
  unfold Rows.uptoBulk
  split <;> omega
theorem bulk_len {H : Type} (l : List (DataW H)) : l.length ≤ Rows.uptoBulkAll l := by
  induction l with
  | nil => simp [Rows.uptoBulkAll]
  | cons x l ih => have := bulk_pos x; simp only [List.length_cons, Rows.uptoBulkAll]; omega
theorem bulk_mem {H : Type} {x : DataW H} {l : List (DataW H)} (h : x ∈ l) : Rows.uptoBulk x ≤ Rows.uptoBulkAll l := by
  induction l with
  | nil => cases h
  | cons y l ih =>
    simp only [Rows.uptoBulkAll]
    rcases List.mem_cons.1 h with rfl | h
    · omega
    · have := ih h; omega
/-- a slice whose elements are read lies as its cells lie -/
theorem rd_cells {w : World} {a : Addr} {n size cap : Nat} {xs : List Value} (hs : 0 < size) (hx : xs.length = n * size) (hc : n ≤ cap) (hm : cap ≤ maxLen) (h : ∀ j u, xs[j]? = some u → w.cell? (a.add j) = some u) : Rd w (.slice (some a) n cap) n size xs := by
  refine ⟨hx, some a, cap, rfl, hc, hm, ?_⟩
  by_cases h0 : n = 0
  · exact .inl h0
  · right
    have hpos : 0 < xs.length := by rw [hx]; exact Nat.mul_pos (by omega) hs
    have hz := h 0 _ (List.getElem?_eq_getElem hpos)
    obtain ⟨b, o, sp⟩ := a
    have hadd : ((⟨b, o, sp⟩ : Addr).add 0) = ⟨b, o, sp⟩ := rfl
    rw [hadd] at hz
    obtain rfl := spot_noneN hz
    refine ⟨b, o, rfl, ?_, ?_⟩
    · unfold World.cell? at hz
      split at hz
      · rename_i hg
        exact (Array.getElem?_eq_some_iff.1 hg).1
      all_goals simp at hz
    · intro j u hj
      have := h j u hj
      rwa [show (⟨b, o, none⟩ : Addr).add j = ⟨b, o + j, none⟩ from by unfold Addr.add; split <;> simp_all] at this
theorem strV_lenC (l : List ByteArray) : (strV l).length = l.length := by unfold strV; simp
theorem intV_lenC (l : List Int) : (intV l).length = l.length := by unfold intV; simp
theorem i64_wf {n : Int} (h : (Lit.int .i64 n).wf = true) : -9223372036854775808 ≤ n ∧ n ≤ 9223372036854775807 := by
  simp only [Lit.wf, Bool.and_eq_true, decide_eq_true_iff] at h
  have e1 : IntKind.min .i64 = -9223372036854775808 := by decide
  have e2 : IntKind.max .i64 = 9223372036854775807 := by decide
  rw [e1, e2] at h
  exact h
set_option maxRecDepth 100000 in
theorem open_wordB {H : Type} {enc : TypeId × Value → H} {w : World} {base : Nat} {spare : Nat → Bool} {held : Bool} {fuel : Nat} {cs : List Value} {x : DataW H × List MemPlace} (h : DataW.trod enc Tryd.prog w base spare held fuel 9 cs = some x) :
    ∃ m : ByteArray, cs = [.string m] ∧ m.size ≤ Rows.uptoBulk x.1 := by
  obtain ⟨t, e1, rfl, _⟩ := DataW.trod_string (by kernel_rfl) h
  have := ba_lenC t
  exact ⟨t, e1, by simp only [Rows.uptoBulk]; omega⟩
set_option maxRecDepth 100000 in
theorem open_intB {H : Type} {enc : TypeId × Value → H} {w : World} {base : Nat} {spare : Nat → Bool} {held : Bool} {fuel : Nat} {cs : List Value} {x : DataW H × List MemPlace} (h : DataW.trod enc Tryd.prog w base spare held fuel 3 cs = some x) :
    ∃ m : Int, cs = [.int .i64 m] ∧ -9223372036854775808 ≤ m ∧ m ≤ 9223372036854775807 := by
  obtain ⟨t, e1, _, hw⟩ := DataW.trod_int (k := .i64) (by kernel_rfl) h
  exact ⟨t, e1, i64_wf hw⟩
set_option maxRecDepth 100000 in
theorem open_wordsC {H : Type} {enc : TypeId × Value → H} {w : World} {base : Nat} {spare : Nat → Bool} {held : Bool} {fuel : Nat} {cs : List Value} {x : DataW H × List MemPlace} (hf : DataW.trod enc Tryd.prog w base spare held fuel 24 cs = some x) :
    ∃ v, ∃ l : List ByteArray, cs = [v] ∧ RdS w v l ∧ l.length ≤ Rows.uptoBulk x.1 ∧ ∀ m ∈ l, m.size ≤ Rows.uptoBulk x.1 := by
  have hC : Tryd.prog.cellsOf 9 = 1 := by kernel_rfl
  rcases open_slice Tryd.underlying24 hf with ⟨hcs, hx⟩ | ⟨a, len', cap', m, n, D, Pl, hcs, hb, hle, hmax, hm, hx, hi⟩
  · subst hcs; subst hx
    exact ⟨_, [], rfl, Rd.nil _ _, by simp, fun m hm => by cases hm⟩
  · subst hcs; subst hx
    have hml : len' ≤ m := by rw [hm]; split <;> omega
    rw [hC] at hi
    have key : ∀ k, k ≤ len' → ∃ l : List ByteArray, l.length = k ∧ (∀ j u, (strV l)[j]? = some u → w.cell? (a.add j) = some u) ∧ ∀ x ∈ l, x.size ≤ Rows.uptoBulkAll ((List.range k).map D) := by
      intro k
      induction k with
      | zero => exact fun _ => ⟨[], rfl, by simp [strV], fun x hx => by cases hx⟩
      | succ k ih =>
        intro hk
        obtain ⟨l, h1, h2, h3⟩ := ih (by omega)
        obtain ⟨cs', hc, ht⟩ := hi k (by omega)
        obtain ⟨mk, rfl, hmk⟩ := open_wordB ht
        obtain ⟨_, _, hcell⟩ := World.cells?_some hc
        refine ⟨l ++ [mk], by simp [h1], ?_, ?_⟩
        · intro j u hj
          have e : strV (l ++ [mk]) = strV l ++ [.string mk] := by simp [strV]
          rw [e, List.getElem?_append] at hj
          have hfl := strV_lenC l
          split at hj
          · exact h2 j u hj
          · rename_i hge
            have hj3 : j - (strV l).length < 1 := by
              have := (List.getElem?_eq_some_iff.1 hj).1
              simpa [] using this
            have := hcell (j - (strV l).length) hj3
            rw [hj, Go.Deep.add_add] at this
            rw [← this]
            congr 2
            omega
        · intro y hy
          rw [List.range_succ, List.map_append, bulk_append]
          simp only [List.map_cons, List.map_nil, Rows.uptoBulkAll]
          simp only at hmk
          rcases List.mem_append.1 hy with hy | hy
          · have := h3 y hy; omega
          · rw [List.mem_singleton.1 hy]; omega
    obtain ⟨l, h1, h2, h3⟩ := key len' (Nat.le_refl _)
    refine ⟨_, l, rfl, ?_, ?_, fun y hy => ?_⟩
    · have := rd_cells (w := w) (a := a) (n := l.length) (size := 1) (cap := cap') (by omega) (by rw [strV_lenC, Nat.mul_one]) (by omega) hmax h2
      rwa [show (Value.slice (some a) len' cap') = .slice (some a) l.length cap' from by rw [h1]]
    · simp only [Rows.uptoBulk]
      have := bulk_len ((List.range len').map D)
      simp at this
      omega
    · have := h3 y hy
      simp only [Rows.uptoBulk]; omega
set_option maxRecDepth 100000 in
theorem open_intsC {H : Type} {enc : TypeId × Value → H} {w : World} {base : Nat} {spare : Nat → Bool} {held : Bool} {fuel : Nat} {cs : List Value} {x : DataW H × List MemPlace} (hf : DataW.trod enc Tryd.prog w base spare held fuel 25 cs = some x) :
    ∃ v, ∃ l : List Int, cs = [v] ∧ RdZ w v l ∧ l.length ≤ Rows.uptoBulk x.1 ∧ ∀ n ∈ l, -9223372036854775808 ≤ n ∧ n ≤ 9223372036854775807 := by
  have hC : Tryd.prog.cellsOf 3 = 1 := by kernel_rfl
  rcases open_slice Tryd.underlying25 hf with ⟨hcs, hx⟩ | ⟨a, len', cap', m, n, D, Pl, hcs, hb, hle, hmax, hm, hx, hi⟩
  · subst hcs; subst hx
    exact ⟨_, [], rfl, Rd.nil _ _, by simp, by simp⟩
  · subst hcs; subst hx
    have hml : len' ≤ m := by rw [hm]; split <;> omega
    rw [hC] at hi
    have key : ∀ k, k ≤ len' → ∃ l : List Int, l.length = k ∧ (∀ j u, (intV l)[j]? = some u → w.cell? (a.add j) = some u) ∧ ∀ n ∈ l, -9223372036854775808 ≤ n ∧ n ≤ 9223372036854775807 := by
      intro k
      induction k with
      | zero => exact fun _ => ⟨[], rfl, by simp [intV], by simp⟩
      | succ k ih =>
        intro hk
        obtain ⟨l, h1, h2, h3⟩ := ih (by omega)
        obtain ⟨cs', hc, ht⟩ := hi k (by omega)
        obtain ⟨mk, rfl, hmk⟩ := open_intB ht
        obtain ⟨_, _, hcell⟩ := World.cells?_some hc
        refine ⟨l ++ [mk], by simp [h1], ?_, fun n hn => (List.mem_append.1 hn).elim (h3 n) (fun hn => by rw [List.mem_singleton.1 hn]; exact hmk)⟩
        · intro j u hj
          have e : intV (l ++ [mk]) = intV l ++ [.int .i64 mk] := by simp [intV]
          rw [e, List.getElem?_append] at hj
          have hfl := intV_lenC l
          split at hj
          · exact h2 j u hj
          · rename_i hge
            have hj3 : j - (intV l).length < 1 := by
              have := (List.getElem?_eq_some_iff.1 hj).1
              simpa [] using this
            have := hcell (j - (intV l).length) hj3
            rw [hj, Go.Deep.add_add] at this
            rw [← this]
            congr 2
            omega
    obtain ⟨l, h1, h2, h3⟩ := key len' (Nat.le_refl _)
    refine ⟨_, l, rfl, ?_, ?_, h3⟩
    · have := rd_cells (w := w) (a := a) (n := l.length) (size := 1) (cap := cap') (by omega) (by rw [intV_lenC, Nat.mul_one]) (by omega) hmax h2
      rwa [show (Value.slice (some a) len' cap') = .slice (some a) l.length cap' from by rw [h1]]
    · simp only [Rows.uptoBulk]
      have := bulk_len ((List.range len').map D)
      simp at this
      omega
theorem trod_struct5 {H : Type} {enc : TypeId × Value → H} {P : Program} {w : World} {base : Nat} {spare : Nat → Bool} {held : Bool} {t : TypeId} {f0 f1 f2 f3 f4 : Field} {fuel : Nat} {cs : List Value} {x : DataW H × List MemPlace} (ht : P.underlying t = some (.struct #[f0, f1, f2, f3, f4])) (h : DataW.trod enc P w base spare held fuel t cs = some x) :
    ∃ y0 y1 y2 y3 y4 n, x.1 = .agg [y0.1, y1.1, y2.1, y3.1, y4.1] ∧ cs.length = P.cellsOf t ∧ DataW.trod enc P w base spare held n f0.type ((cs.drop f0.offset).take (P.cellsOf f0.type)) = some y0 ∧
      DataW.trod enc P w base spare held n f1.type ((cs.drop f1.offset).take (P.cellsOf f1.type)) = some y1 ∧ DataW.trod enc P w base spare held n f2.type ((cs.drop f2.offset).take (P.cellsOf f2.type)) = some y2 ∧
      DataW.trod enc P w base spare held n f3.type ((cs.drop f3.offset).take (P.cellsOf f3.type)) = some y3 ∧ DataW.trod enc P w base spare held n f4.type ((cs.drop f4.offset).take (P.cellsOf f4.type)) = some y4 := by
  obtain ⟨xs, n, _, rfl, hl, hlen, hf⟩ := DataW.trod_struct ht h
  match xs, hlen with
  | [y0, y1, y2, y3, y4], _ => exact ⟨y0, y1, y2, y3, y4, n, by simp, hl, by simpa using hf 0 f0 rfl, by simpa using hf 1 f1 rfl, by simpa using hf 2 f2 rfl, by simpa using hf 3 f3 rfl, by simpa using hf 4 f4 rfl⟩
/-- a command's parts are within n -/
structure SmallC (n : Nat) (c : Cmd) : Prop where
  ns : c.ns.length ≤ n
  nm : ∀ m ∈ c.ns, m.size ≤ n
  ks : c.ks.length ≤ n
  tx : c.t.size ≤ n
  kb : ∀ z ∈ c.ks, -9223372036854775808 ≤ z ∧ z ≤ 9223372036854775807
theorem SmallC.mono {n m : Nat} {c : Cmd} (h : SmallC n c) (hm : n ≤ m) : SmallC m c :=
  ⟨Nat.le_trans h.ns hm, fun x hx => Nat.le_trans (h.nm x hx) hm, Nat.le_trans h.ks hm, Nat.le_trans h.tx hm, h.kb⟩
set_option maxRecDepth 100000 in
/-- one command, by value -/
theorem open_cmd {H : Type} {enc : TypeId × Value → H} {w : World} {base : Nat} {spare : Nat → Bool} {held : Bool} {r : Reach} {b0 : Nat} {v : Value} {d : DataW H} {ps : List MemPlace}
    (hval : Value.okWide Tryd.prog w r b0 27 v) (h : DataW.Trod enc Tryd.prog w base spare held 27 v d ps) :
    ∃ c : Cmd, RdCm w v c ∧ BigC c ∧ SmallC (Rows.uptoBulk d) c := by
  obtain ⟨cs, rfl, hsz⟩ := okWide_struct Tryd.underlying27 hval
  obtain ⟨fuel, hf⟩ := h
  obtain ⟨y0, y1, y2, y3, y4, n, hx, hl, h0, h1, h2, h3, h4⟩ := trod_struct5 Tryd.underlying27 hf
  have hl2 : cs.toList.length = 5 := by rw [show cs.toList.length = _ from hl]; kernel_rfl
  obtain ⟨c0, c1, c2, c3, c4, hc⟩ : ∃ c0 c1 c2 c3 c4, cs.toList = [c0, c1, c2, c3, c4] := by
    match hcs : cs.toList, hl2 with
    | [c0, c1, c2, c3, c4], _ => exact ⟨c0, c1, c2, c3, c4, rfl⟩
  have hcc : (Value.agg cs).cells.toList = [c0, c1, c2, c3, c4] := hc
  rw [hcc] at h0 h1 h2 h3 h4
  obtain ⟨t0, e0, _, _⟩ := DataW.trod_int (k := .i64) (by kernel_rfl) h0
  obtain ⟨t1, e1, _, _⟩ := DataW.trod_int (k := .i64) (by kernel_rfl) h1
  obtain ⟨v2, l2, e2, r2, n2, m2⟩ := open_wordsC h2
  obtain ⟨v3, l3, e3, r3, n3, b3⟩ := open_intsC h3
  obtain ⟨t4, e4, m4⟩ := open_wordB h4
  have k0 : Tryd.prog.cellsOf 22 = 1 := by kernel_rfl
  have k1 : Tryd.prog.cellsOf 23 = 1 := by kernel_rfl
  have k2 : Tryd.prog.cellsOf 24 = 1 := by kernel_rfl
  have k3 : Tryd.prog.cellsOf 25 = 1 := by kernel_rfl
  have k4 : Tryd.prog.cellsOf 9 = 1 := by kernel_rfl
  simp [k0] at e0
  simp [k1] at e1
  simp [k2] at e2
  simp [k3] at e3
  simp [k4] at e4
  have hbulk : Rows.uptoBulk d = Rows.uptoBulk y0.1 + (Rows.uptoBulk y1.1 + (Rows.uptoBulk y2.1 + (Rows.uptoBulk y3.1 + (Rows.uptoBulk y4.1 + 0)))) + 1 := by
    have : d = .agg [y0.1, y1.1, y2.1, y3.1, y4.1] := hx
    rw [this]; rfl
  subst e0 e1 e2 e3 e4
  have hcs : cs = #[.int .i64 t0, .int .i64 t1, c2, c3, .string t4] := by rw [← Array.toList_inj, hc]
  have r2' := r2
  have r3' := r3
  obtain ⟨-, a2, p2, rfl, q2, s2, -⟩ := r2'
  obtain ⟨-, a3, p3, rfl, q3, s3, -⟩ := r3'
  have hml : maxLen = 9223372036854775807 := by decide
  refine ⟨⟨t0, t1, l2, l3, t4⟩, ⟨a2, p2, a3, p3, by rw [hcs], r2, r3⟩, ⟨by show l2.length ≤ _; omega, by show l3.length ≤ _; omega⟩, ⟨by show l2.length ≤ _; omega, fun m hm => ?_, by show l3.length ≤ _; omega, by show t4.size ≤ _; omega, b3⟩⟩
  have := m2 m hm
  omega
end Go.Proofs.YtikkfbkpgejneaaDoor
/- A command within the second form's bound: what the walk of its line asks. -/
namespace Go.Proofs.YtikkfbkpgejneaaDoor
theorem SmallC.sm {c : Cmd} (h : SmallC 1048576 c) (b : BigC c) : SmC c := ⟨b, h.ns, h.nm, h.ks, h.kb, Nat.le_trans h.tx (by decide)⟩
end Go.Proofs.YtikkfbkpgejneaaDoor
