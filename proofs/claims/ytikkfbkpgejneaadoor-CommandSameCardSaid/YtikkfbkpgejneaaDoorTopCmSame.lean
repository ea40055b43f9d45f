/- PROVED: CommandSame returns true whatever its arguments; each argument reads behind the call as it read before. No condition beyond the form's own reach. -/
import Derived.Test.YtikkfbkpgejneaaDoorPk2
import Derived.Test.YtikkfbkpgejneaaDoorRows
import Derived.Deep.Strs
import Derived.WideShapes
import Derived.Test.YtikkfbkpgejneaaDoorCards
import Derived.Test.YtikkfbkpgejneaaDoorTie
import Derived.Carry
import Derived.ProofKit
import Derived.OpenShut
import Derived.ShutString
import Derived.JoinedCond
import Derived.SizedLaws
import Derived.Deep.DeepHandedRow
import Derived.Deep.DeepWitnessRowRef
/- A drawn region that calls and makes memory, GUARDED operations too, where each guard is known to be met: one walk, by facts on the temporaries. -/
namespace Go.Proofs.YtikkfbkpgejneaaDoor
open Go.RowKit
def rgOnce (ops : Array Oper) : Bool := (List.range ops.size).all fun i => (List.range ops.size).all fun j => i == j || ((rgDst ops i).isNone || rgDst ops i != rgDst ops j)
def rgGuard (ops : Array Oper) (F : Nat → Value → World → Prop) (o : Oper) : Prop :=
  match o.guard with
  | none => True
  | some (j, b) => rgDep o j = true ∧ ∃ d, rgDst ops j = some d ∧ ∀ v w, F d v w → v = .bool b
theorem wp_region_guards {P : Program} {ops : Array Oper} {Q : Exit → Act → World → Prop} {id : Nat} {a0 : Act} {w0 : World} (hm : P.follows .mixedOrders = true) (F : Nat → Value → World → Prop)
    (hF : ∀ d v w w', F d v w → Below w.heap.size w w' → F d v w') (hp : rgOnce ops = true) (hgd : AllOps (rgGuard ops F) ops.toList) (hbk : rgBack ops = true) (hsz0 : rgSz ops a0.tmps.size = true)
    (step : AllOps (fun o => ∀ a w, RgAt ops F a0 w0.drew a w → (∀ j d, rgDep o j = true → rgDst ops j = some d → F d (a.tmps.getD d undef) w) →
      o.wp P a w (fun a' w' => ∃ v, a' = a.put o.dst v ∧ Below w.heap.size w w' ∧ ∀ d, o.dst = some d → F d v w') Q) ops.toList)
    (fin : ∀ a w, RgAt ops F a0 w0.drew a w → (∀ j d, rgDst ops j = some d → F d (a.tmps.getD d undef) w) → Q .normal a w) : (Code.region id ops true).wp P Q a0 w0 := by
  have hsz := rgSz_spec hsz0
  refine wp_region_any hm ?_
  have hp2 : ∀ i j d, rgDst ops i = some d → rgDst ops j = some d → i = j := fun i j d h1 h2 => by
    unfold rgOnce at hp
    rw [List.all_eq_true] at hp
    have hi : i < ops.size := by unfold rgDst at h1; rcases Nat.lt_or_ge i ops.size with h | h; exact h; simp [Array.getElem?_eq_none h] at h1
    have hj : j < ops.size := by unfold rgDst at h2; rcases Nat.lt_or_ge j ops.size with h | h; exact h; simp [Array.getElem?_eq_none h] at h2
    have := hp i (List.mem_range.2 hi)
    rw [List.all_eq_true] at this
    have := this j (List.mem_range.2 hj)
    rw [h1, h2] at this
    simpa using this
  have hall : ∀ (listed : Array Bool), listed.size = ops.size → Region.ready .any ops listed = [] → ∀ j, j < ops.size → listed.getD j false = true := fun listed hs hr j => by
    induction j using Nat.strongRecOn with
    | _ j ih =>
      intro hj
      rcases hv : listed.getD j true with _ | _
      · exfalso
        have hmem : j ∈ Region.ready .any ops listed := by
          rw [mem_ready]
          refine ⟨hv, ops[j], Array.getElem?_eq_getElem hj, fun e he hb => ?_⟩
          unfold rgBack at hbk
          rw [List.all_eq_true] at hbk
          have := hbk j (List.mem_range.2 hj)
          rw [Array.getElem?_eq_getElem hj] at this
          simp only [Option.map_some, Option.getD_some, Array.all_eq_true_iff_forall_mem] at this
          have := this e he
          rw [hb] at this
          have hlt : e.on < j := by simpa using this
          exact ih _ hlt (by omega)
        rw [hr] at hmem
        cases hmem
      · have : j < listed.size := by omega
        simpa [this] using hv
  have main : ∀ (fuel : Nat) (listed : Array Bool) (a : Act) (w : World), listed.toList.count false ≤ fuel → listed.size = ops.size → RgAt ops F a0 w0.drew a w →
      (∀ j d, listed.getD j false = true → rgDst ops j = some d → F d (a.tmps.getD d undef) w) → wpAny P .any ops Q fuel listed a w := by
    have hdone : ∀ (listed : Array Bool) (a : Act) (w : World), listed.size = ops.size → RgAt ops F a0 w0.drew a w → (∀ j d, listed.getD j false = true → rgDst ops j = some d → F d (a.tmps.getD d undef) w) → Region.ready .any ops listed = [] → Q .normal a w := fun listed a w hs hA hd hr => by
      refine fin a w hA fun j d hj => hd j d ?_ hj
      have hlt : j < ops.size := by unfold rgDst at hj; rcases Nat.lt_or_ge j ops.size with h | h; exact h; simp [Array.getElem?_eq_none h] at hj
      exact hall listed hs hr j hlt
    intro fuel
    induction fuel with
    | zero =>
      intro listed a w hc hs hA hd
      have hr : Region.ready .any ops listed = [] := by
        rw [List.eq_nil_iff_forall_not_mem]
        intro j hj
        have h0 := (mem_ready.1 hj).1
        have hj2 : j < listed.size := by rcases Nat.lt_or_ge j listed.size with h | h; exact h; simp [Array.getElem?_eq_none h] at h0
        have hm : false ∈ listed.toList := by
          have : listed[j] = false := by simpa [hj2] using h0
          rw [← this]; simp
        have := List.count_pos_iff.2 hm
        omega
      exact ⟨hr, hdone listed a w hs hA hd hr⟩
    | succ fuel ih =>
      intro listed a w hc hs hA hd
      refine ⟨hdone listed a w hs hA hd, fun i hi => ?_⟩
      obtain ⟨h0, o, ho, haf⟩ := mem_ready.1 hi
      have hj2 : i < listed.size := by rcases Nat.lt_or_ge i listed.size with h | h; exact h; simp [Array.getElem?_eq_none h] at h0
      have h0' : listed[i] = false := by simpa [hj2] using h0
      have hD2 : ∀ j d, rgDep o j = true → rgDst ops j = some d → F d (a.tmps.getD d undef) w := fun j d hdep hjd => hd j d (by
        unfold rgDep at hdep
        obtain ⟨k, hk, h2⟩ := Array.any_eq_true.1 hdep
        have he := Array.getElem_mem hk
        generalize o.after[k] = e at h2 he
        rw [Bool.and_eq_true, beq_iff_eq] at h2
        have := haf e he h2.2
        rwa [h2.1] at this) hjd
      have hst := AllOps.at step (i := i) (o := o) (by simpa using ho) a w hA hD2
      unfold wpOp
      simp only [ho]
      have hw : Region.wanted o (yielded ops a.tmps) = true := by
        have hg := AllOps.at hgd (i := i) (o := o) (by simpa using ho)
        unfold rgGuard at hg
        unfold Region.wanted
        split at hg
        · rename_i h; rw [h]
        · rename_i j b h
          rw [h]
          obtain ⟨hdep, d, hjd, hv⟩ := hg
          have hf := hv _ _ (hD2 j d hdep hjd)
          have hdl := hsz j d hjd
          have hdl2 : d < a.tmps.size := by rw [hA.size]; exact hdl
          have e : a.tmps[d]? = some (.bool b) := by
            rw [Array.getElem?_eq_getElem hdl2]
            have : a.tmps.getD d undef = a.tmps[d] := by simp [hdl2]
            rw [← this, hf]
          have hj2 : (ops[j]?).bind (·.dst) = some d := hjd
          simp only [yielded, hj2, Option.bind_some, e, beq_self_eq_true]
      rw [if_pos hw]
      refine .inl (Oper.wp_mono ?_ hst)
      rintro a' w' ⟨v, rfl, hb, hv⟩
      refine ih _ _ _ ?_ (by simpa using hs) ⟨?_, ?_, hA.below.trans (hb.mono hA.below.size), fun t ht => (rgFree_put ho ht).trans (hA.frame t ht)⟩ ?_
      · rw [Array.toList_setIfInBounds, List.count_set (by simpa using hj2)]
        have e1 : listed.toList[i]'(by simpa using hj2) = false := by simpa using h0'
        have : 0 < listed.toList.count false := List.count_pos_iff.2 (by rw [← e1]; exact List.getElem_mem _)
        rw [e1]
        rw [if_neg (by decide : ¬ (true == false) = true)]
        simp only [beq_self_eq_true, if_true]
        omega
      · unfold Act.put; split <;> simp [hA.size]
      · unfold Act.put; split <;> exact hA.defers
      · intro j d hl hjd
        by_cases hij : j = i
        · subst hij
          have hod : o.dst = some d := by simpa [rgDst, ho] using hjd
          have := hv d hod
          have hds : d < a.tmps.size := by rw [hA.size]; exact hsz j d hjd
          have e2 : (a.put o.dst v).tmps.getD d undef = v := by unfold Act.put; rw [hod]; simp [hds]
          rw [e2]; exact this
        · rw [getD_set_ne false (Ne.symm hij)] at hl
          have e2 : (a.put o.dst v).tmps.getD d undef = a.tmps.getD d undef := by
            unfold Act.put
            split
            · rename_i d2 hd2
              have hne : d2 ≠ d := by
                rintro rfl
                exact hij (hp2 j i d2 hjd (by simpa [rgDst, ho] using hd2))
              simp [Array.getElem?_setIfInBounds_ne hne]
            · rfl
          rw [e2]
          exact hF d _ w w' (hd j d hl hjd) hb
  refine main ops.size _ a0 _ ?_ (by simp) ⟨rfl, rfl, Below.refl _ _, fun _ _ => rfl⟩ ?_
  · simp
  · intro j d hl
    exfalso
    rcases Nat.lt_or_ge j ops.size with h | h
    · simp [h] at hl
    · simp [h] at hl
end Go.Proofs.YtikkfbkpgejneaaDoor
/- The law CommandSame: true whatever the two commands are. -/
namespace Go.Proofs.YtikkfbkpgejneaaDoor
open Go.RowKit Go.Shelf
def csF (va vb : Value) (D : Bool) : Nat → Value → World → Prop
  | 7, v, _ => v = va
  | 8, v, _ => v = vb
  | 9, v, _ => v = .bool D
  | 10, v, _ => v = va
  | 11, v, _ => v = vb
  | 12, v, _ => v = .bool D
  | 16, v, _ => v = va
  | 17, v, _ => v = va
  | _, v, _ => v = .bool true
theorem csF_below (va vb : Value) (D : Bool) : ∀ d v w w', csF va vb D d v w → Below w.heap.size w w' → csF va vb D d v w' := by
  intro d v w w' h _
  unfold csF at h ⊢
  split at h
  all_goals exact h
set_option maxRecDepth 100000 in
set_option maxHeartbeats 3200000 in
theorem commandSame_any (va vb : Value) (a b : Cmd) (w : World) (hg : Gb w) (ha : RdCm w va a) (hb : RdCm w vb b) (ba : BigC a) (bb : BigC b) :
    Calls Tryd.prog 5 #[va, vb] w fun e w' => e = .returned (.bool true) ∧ Below w.heap.size w w' := by
  have h8 := hg.sz
  have HG := Lib.hid hg
  have HH := Lib.hid (fun w2 (h : Below w.heap.size w w2) => head_any w2 (hg.below (B := w.heap.size) h8 h))
  have HC := Lib.hid (fun w2 (h : Below w.heap.size w w2) => cmSame_any va vb a b w2 (ha.below h) (hb.below h) ba bb)
  have HR := Lib.hid (fun w2 (h : Below w.heap.size w w2) => rSame_any va vb a b w2 (ha.below h) (hb.below h) ba bb)
  have HS := Lib.hid (fun w2 (h : Below w.heap.size w w2) => by have := cmSame_any va va a a w2 (ha.below h) (ha.below h) ba ba; rwa [decide_eq_true (rfl : a = a)] at this)
  generalize hD0 : decide (a = b) = D at *
  clear hD0 hg
  obtain ⟨an, am, ak, al, rfl, -, -⟩ := ha
  obtain ⟨bn, bm, bk, bl, rfl, -, -⟩ := hb
  clear ba bb
  go_enter Tryd.func5, Tryd.ntmps5
  go_wp2_with fail

  have hl1 : w.heap.size < (w.alloc (.cells #[.int .i64 a.v, .int .i64 a.h, .slice an a.ns.length am, .slice ak a.ks.length al, .string a.t] 27)).heap.size := by simp
  have hk2 := heap_alloc_new (w.alloc (.cells #[.int .i64 a.v, .int .i64 a.h, .slice an a.ns.length am, .slice ak a.ks.length al, .string a.t] 27)) (.cells #[.int .i64 b.v, .int .i64 b.h, .slice bn b.ns.length bm, .slice bk b.ks.length bl, .string b.t] 27)
  rw [show (w.alloc (.cells #[.int .i64 a.v, .int .i64 a.h, .slice an a.ns.length am, .slice ak a.ks.length al, .string a.t] 27)).heap.size = w.heap.size + 1 by simp] at hk2
  have hk1 := (Below.heap_alloc (w.alloc (.cells #[.int .i64 a.v, .int .i64 a.h, .slice an a.ns.length am, .slice ak a.ks.length al, .string a.t] 27)) (.cells #[.int .i64 b.v, .int .i64 b.h, .slice bn b.ns.length bm, .slice bk b.ks.length bl, .string b.t] 27) w.heap.size hl1).trans (heap_alloc_new w (.cells #[.int .i64 a.v, .int .i64 a.h, .slice an a.ns.length am, .slice ak a.ks.length al, .string a.t] 27))
  have HB2 := Lib.hid (below2 w (.cells #[.int .i64 a.v, .int .i64 a.h, .slice an a.ns.length am, .slice ak a.ks.length al, .string a.t] 27) (.cells #[.int .i64 b.v, .int .i64 b.h, .slice bn b.ns.length bm, .slice bk b.ks.length bl, .string b.t] 27))
  have HK1 := Lib.hid hk1
  have HK2 := Lib.hid hk2
  clear hk1 hk2 hl1
  change Code.wp _ _ _ _ ((w.alloc (.cells #[.int .i64 a.v, .int .i64 a.h, .slice an a.ns.length am, .slice ak a.ks.length al, .string a.t] 27)).alloc (.cells #[.int .i64 b.v, .int .i64 b.h, .slice bn b.ns.length bm, .slice bk b.ks.length bl, .string b.t] 27))
  generalize (w.alloc (.cells #[.int .i64 a.v, .int .i64 a.h, .slice an a.ns.length am, .slice ak a.ks.length al, .string a.t] 27)).alloc (.cells #[.int .i64 b.v, .int .i64 b.h, .slice bn b.ns.length bm, .slice bk b.ks.length bl, .string b.t] 27) = w2 at *
  generalize hb1 : w.heap.size = B at *
  have hsz2 : B ≤ w2.heap.size := by have := HB2.out.size; omega
  refine wp_region_guards (by kernel_rfl) (csF (.agg #[.int .i64 a.v, .int .i64 a.h, .slice an a.ns.length am, .slice ak a.ks.length al, .string a.t]) (.agg #[.int .i64 b.v, .int .i64 b.h, .slice bn b.ns.length bm, .slice bk b.ks.length bl, .string b.t]) D) (csF_below _ _ D) (by kernel_rfl) ?gd (by kernel_rfl) (by kernel_rfl) ?step ?fin
  case gd =>
    exact ⟨trivial, trivial, ⟨by kernel_rfl, 6, by kernel_rfl, fun v w h => h⟩, ⟨by kernel_rfl, 6, by kernel_rfl, fun v w h => h⟩, ⟨by kernel_rfl, 6, by kernel_rfl, fun v w h => h⟩, ⟨by kernel_rfl, 6, by kernel_rfl, fun v w h => h⟩, ⟨by kernel_rfl, 6, by kernel_rfl, fun v w h => h⟩, ⟨by kernel_rfl, 6, by kernel_rfl, fun v w h => h⟩, ⟨by kernel_rfl, 6, by kernel_rfl, fun v w h => h⟩, trivial, trivial, ⟨by kernel_rfl, 15, by kernel_rfl, fun v w h => h⟩, ⟨by kernel_rfl, 15, by kernel_rfl, fun v w h => h⟩, ⟨by kernel_rfl, 15, by kernel_rfl, fun v w h => h⟩, trivial, trivial, trivial⟩
  case fin =>
    intro ac wr hA hD
    have e4 : ac.tmps.getD 4 undef = .bool true := hD 15 4 (by kernel_rfl)
    have hB := (HB2.out.trans ((Below.refl _ _).drew.mono hsz2)).trans (hA.below.mono hsz2)
    have hd : ac.defers = [] := hA.defers
    clear hA hD
    go_wp2
    refine bodyPost_ret (results_tmp rfl _ _ _) hd ?_
    rw [e4]
    exact ⟨rfl, hb1 ▸ hB⟩
  case step =>
    refine ⟨?_, ?_, ?_, ?_, ?_, ?_, ?_, ?_, ?_, ?_, ?_, ?_, ?_, ?_, ?_, ?_, trivial⟩
    all_goals intro ac wr hA hD
    all_goals have e2 : ac.tmps[2]?.getD undef = .pointer (some ⟨B, 0, none⟩) := by simpa using hA.frame 2 (by kernel_rfl)
    all_goals have e3 : ac.tmps[3]?.getD undef = .pointer (some ⟨B + 1, 0, none⟩) := by simpa using hA.frame 3 (by kernel_rfl)
    all_goals have hB : Below B w wr := (HB2.out.trans ((Below.refl _ _).drew.mono hsz2)).trans (hA.below.mono hsz2)
    all_goals have hwr : B ≤ wr.heap.size := by have := hB.size; omega
    all_goals have k1 := (hA.below.block _ (Array.getElem?_eq_some_iff.1 HK1.out).1).trans HK1.out
    all_goals have k2 := (hA.below.block _ (Array.getElem?_eq_some_iff.1 HK2.out).1).trans HK2.out
    all_goals have q0 : wr.cell? ⟨B, 0, none⟩ = some (.int .i64 a.v) := by simp [World.cell?, k1]
    all_goals have q1 : wr.cell? ⟨B, 1, none⟩ = some (.int .i64 a.h) := by simp [World.cell?, k1]
    all_goals have q2 : wr.cell? ⟨B, 2, none⟩ = some (.slice an a.ns.length am) := by simp [World.cell?, k1]
    all_goals have q3 : wr.cell? ⟨B, 3, none⟩ = some (.slice ak a.ks.length al) := by simp [World.cell?, k1]
    all_goals have q4 : wr.cell? ⟨B, 4, none⟩ = some (.string a.t) := by simp [World.cell?, k1]
    all_goals have p0 : wr.cell? ⟨B + 1, 0, none⟩ = some (.int .i64 b.v) := by simp [World.cell?, k2]
    all_goals have p1 : wr.cell? ⟨B + 1, 1, none⟩ = some (.int .i64 b.h) := by simp [World.cell?, k2]
    all_goals have p2 : wr.cell? ⟨B + 1, 2, none⟩ = some (.slice bn b.ns.length bm) := by simp [World.cell?, k2]
    all_goals have p3 : wr.cell? ⟨B + 1, 3, none⟩ = some (.slice bk b.ks.length bl) := by simp [World.cell?, k2]
    all_goals have p4 : wr.cell? ⟨B + 1, 4, none⟩ = some (.string b.t) := by simp [World.cell?, k2]
    all_goals have HBr := Lib.hid hB
    all_goals clear hA k1 k2 hB
    · clear hD
      go_simp
      refine (HH.out _ HBr.out).mono ?_
      rintro e w3 ⟨rfl, hb⟩
      exact ⟨_, rfl, hb, rfl⟩
    · have e5 : ac.tmps[5]?.getD undef = .bool true := by simpa using (show ac.tmps.getD 5 undef = .bool true from hD 0 5 (by kernel_rfl) (by kernel_rfl))
      clear hD
      go_simp
      exact ⟨_, rfl, Below.refl _ _, rfl⟩
    · clear hD
      go_simp
      exact ⟨_, rfl, Below.refl _ _, rfl⟩
    · clear hD
      go_simp
      exact ⟨_, rfl, Below.refl _ _, rfl⟩
    · have e7 : ac.tmps[7]?.getD undef = .agg #[.int .i64 a.v, .int .i64 a.h, .slice an a.ns.length am, .slice ak a.ks.length al, .string a.t] := by simpa using (show ac.tmps.getD 7 undef = .agg #[.int .i64 a.v, .int .i64 a.h, .slice an a.ns.length am, .slice ak a.ks.length al, .string a.t] from hD 2 7 (by kernel_rfl) (by kernel_rfl))
      have e8 : ac.tmps[8]?.getD undef = .agg #[.int .i64 b.v, .int .i64 b.h, .slice bn b.ns.length bm, .slice bk b.ks.length bl, .string b.t] := by simpa using (show ac.tmps.getD 8 undef = .agg #[.int .i64 b.v, .int .i64 b.h, .slice bn b.ns.length bm, .slice bk b.ks.length bl, .string b.t] from hD 3 8 (by kernel_rfl) (by kernel_rfl))
      clear hD
      go_simp
      refine (HC.out _ HBr.out).mono ?_
      rintro e w3 ⟨rfl, hb⟩
      exact ⟨_, rfl, hb, rfl⟩
    · clear hD
      go_simp
      exact ⟨_, rfl, Below.refl _ _, rfl⟩
    · clear hD
      go_simp
      exact ⟨_, rfl, Below.refl _ _, rfl⟩
    · have e10 : ac.tmps[10]?.getD undef = .agg #[.int .i64 a.v, .int .i64 a.h, .slice an a.ns.length am, .slice ak a.ks.length al, .string a.t] := by simpa using (show ac.tmps.getD 10 undef = .agg #[.int .i64 a.v, .int .i64 a.h, .slice an a.ns.length am, .slice ak a.ks.length al, .string a.t] from hD 5 10 (by kernel_rfl) (by kernel_rfl))
      have e11 : ac.tmps[11]?.getD undef = .agg #[.int .i64 b.v, .int .i64 b.h, .slice bn b.ns.length bm, .slice bk b.ks.length bl, .string b.t] := by simpa using (show ac.tmps.getD 11 undef = .agg #[.int .i64 b.v, .int .i64 b.h, .slice bn b.ns.length bm, .slice bk b.ks.length bl, .string b.t] from hD 6 11 (by kernel_rfl) (by kernel_rfl))
      clear hD
      go_simp
      refine (HR.out _ HBr.out).mono ?_
      rintro e w3 ⟨rfl, hb⟩
      exact ⟨_, rfl, hb, rfl⟩
    · have e9 : ac.tmps[9]?.getD undef = .bool D := by simpa using (show ac.tmps.getD 9 undef = .bool D from hD 4 9 (by kernel_rfl) (by kernel_rfl))
      have e12 : ac.tmps[12]?.getD undef = .bool D := by simpa using (show ac.tmps.getD 12 undef = .bool D from hD 7 12 (by kernel_rfl) (by kernel_rfl))
      clear hD
      have hdd : (D == D) = true := by simp
      go_simp
      exact ⟨_, rfl, Below.refl _ _, rfl⟩
    · have e6 : ac.tmps[6]?.getD undef = .bool true := by simpa using (show ac.tmps.getD 6 undef = .bool true from hD 1 6 (by kernel_rfl) (by kernel_rfl))
      have e13 : ac.tmps[13]?.getD undef = .bool true := by simpa using (show ac.tmps.getD 13 undef = .bool true from hD 8 13 (by kernel_rfl) (by kernel_rfl))
      clear hD
      go_simp
      exact ⟨_, rfl, Below.refl _ _, rfl⟩
    · have e14 : ac.tmps[14]?.getD undef = .bool true := by simpa using (show ac.tmps.getD 14 undef = .bool true from hD 9 14 (by kernel_rfl) (by kernel_rfl))
      clear hD
      go_simp
      exact ⟨_, rfl, Below.refl _ _, rfl⟩
    · clear hD
      go_simp
      exact ⟨_, rfl, Below.refl _ _, rfl⟩
    · clear hD
      go_simp
      exact ⟨_, rfl, Below.refl _ _, rfl⟩
    · have e16 : ac.tmps[16]?.getD undef = .agg #[.int .i64 a.v, .int .i64 a.h, .slice an a.ns.length am, .slice ak a.ks.length al, .string a.t] := by simpa using (show ac.tmps.getD 16 undef = .agg #[.int .i64 a.v, .int .i64 a.h, .slice an a.ns.length am, .slice ak a.ks.length al, .string a.t] from hD 11 16 (by kernel_rfl) (by kernel_rfl))
      have e17 : ac.tmps[17]?.getD undef = .agg #[.int .i64 a.v, .int .i64 a.h, .slice an a.ns.length am, .slice ak a.ks.length al, .string a.t] := by simpa using (show ac.tmps.getD 17 undef = .agg #[.int .i64 a.v, .int .i64 a.h, .slice an a.ns.length am, .slice ak a.ks.length al, .string a.t] from hD 12 17 (by kernel_rfl) (by kernel_rfl))
      clear hD
      go_simp
      refine (HS.out _ HBr.out).mono ?_
      rintro e w3 ⟨rfl, hb⟩
      exact ⟨_, rfl, hb, rfl⟩
    · have e15 : ac.tmps[15]?.getD undef = .bool true := by simpa using (show ac.tmps.getD 15 undef = .bool true from hD 10 15 (by kernel_rfl) (by kernel_rfl))
      have e18 : ac.tmps[18]?.getD undef = .bool true := by simpa using (show ac.tmps.getD 18 undef = .bool true from hD 13 18 (by kernel_rfl) (by kernel_rfl))
      clear hD
      go_simp
      exact ⟨_, rfl, Below.refl _ _, rfl⟩
    · have e19 : ac.tmps[19]?.getD undef = .bool true := by simpa using (show ac.tmps.getD 19 undef = .bool true from hD 14 19 (by kernel_rfl) (by kernel_rfl))
      clear hD
      go_simp
      exact ⟨_, rfl, Below.refl _ _, rfl⟩
end Go.Proofs.YtikkfbkpgejneaaDoor
/- A command that is an argument: what its reading says of its cells. -/
namespace Go.Proofs.YtikkfbkpgejneaaDoor
open Go.ChangeShapes Go.WideShapes Go.RowKit Go.Deep

theorem ba_lenC (x : ByteArray) : x.data.toList.length = x.size := Array.length_toList
theorem spot_noneN {w : World} {b o : Nat} {sp : Option Nat} {v : Value} (h : w.cell? ⟨b, o, sp⟩ = some v) : sp = none := by
  cases sp with
  | none => rfl
  | some s => unfold World.cell? at h; split at h <;> simp at h
theorem bulk_append {H : Type} (l r : List (DataW H)) : Rows.uptoBulkAll (l ++ r) = Rows.uptoBulkAll l + Rows.uptoBulkAll r := by
  induction l with
  | nil => simp [Rows.uptoBulkAll]
  | cons x l ih => simp only [List.cons_append, Rows.uptoBulkAll, ih]; omega
theorem bulk_pos {H : Type} (x : DataW H) : 1 ≤ Rows.uptoBulk x := by
  unfold Rows.uptoBulk
  split <;> omega
theorem bulk_len {H : Type} (l : List (DataW H)) : l.length ≤ Rows.uptoBulkAll l := by
  induction l with
  | nil => simp [Rows.uptoBulkAll]
  | cons x l ih => have := bulk_pos x; simp only [List.length_cons, Rows.uptoBulkAll]; omega
theorem bulk_mem {H : Type} {x : DataW H} {l : List (DataW H)} (h : x ∈ l) : Rows.uptoBulk x ≤ Rows.uptoBulkAll l := by
  induction l with
  | nil => cases h
  | cons y l ih =>
    simp only [Rows.uptoBulkAll]
    rcases List.mem_cons.1 h with rfl | h
    · omega
    · have := ih h; omega
/-- a slice whose elements are read lies as its cells lie -/
theorem rd_cells {w : World} {a : Addr} {n size cap : Nat} {xs : List Value} (hs : 0 < size) (hx : xs.length = n * size) (hc : n ≤ cap) (hm : cap ≤ maxLen) (h : ∀ j u, xs[j]? = some u → w.cell? (a.add j) = some u) : Rd w (.slice (some a) n cap) n size xs := by
  refine ⟨hx, some a, cap, rfl, hc, hm, ?_⟩
  by_cases h0 : n = 0
  · exact .inl h0
  · right
    have hpos : 0 < xs.length := by rw [hx]; exact Nat.mul_pos (by omega) hs
    have hz := h 0 _ (List.getElem?_eq_getElem hpos)
    obtain ⟨b, o, sp⟩ := a
    have hadd : ((⟨b, o, sp⟩ : Addr).add 0) = ⟨b, o, sp⟩ := rfl
    rw [hadd] at hz
    obtain rfl := spot_noneN hz
    refine ⟨b, o, rfl, ?_, ?_⟩
    · unfold World.cell? at hz
      split at hz
      · rename_i hg
        exact (Array.getElem?_eq_some_iff.1 hg).1
      all_goals simp at hz
    · intro j u hj
      have := h j u hj
      rwa [show (⟨b, o, none⟩ : Addr).add j = ⟨b, o + j, none⟩ from by unfold Addr.add; split <;> simp_all] at this
theorem strV_lenC (l : List ByteArray) : (strV l).length = l.length := by unfold strV; simp
theorem intV_lenC (l : List Int) : (intV l).length = l.length := by unfold intV; simp
set_option maxRecDepth 100000 in
theorem open_wordB {H : Type} {enc : TypeId × Value → H} {w : World} {base : Nat} {spare : Nat → Bool} {held : Bool} {fuel : Nat} {cs : List Value} {x : DataW H × List MemPlace} (h : DataW.trod enc Tryd.prog w base spare held fuel 9 cs = some x) :
    ∃ m : ByteArray, cs = [.string m] ∧ m.size ≤ Rows.uptoBulk x.1 := by
  obtain ⟨t, e1, rfl, _⟩ := DataW.trod_string (by kernel_rfl) h
  have := ba_lenC t
  exact ⟨t, e1, by simp only [Rows.uptoBulk]; omega⟩
set_option maxRecDepth 100000 in
theorem open_intB {H : Type} {enc : TypeId × Value → H} {w : World} {base : Nat} {spare : Nat → Bool} {held : Bool} {fuel : Nat} {cs : List Value} {x : DataW H × List MemPlace} (h : DataW.trod enc Tryd.prog w base spare held fuel 3 cs = some x) :
    ∃ m : Int, cs = [.int .i64 m] := by
  obtain ⟨t, e1, _, _⟩ := DataW.trod_int (k := .i64) (by kernel_rfl) h
  exact ⟨t, e1⟩
set_option maxRecDepth 100000 in
theorem open_wordsC {H : Type} {enc : TypeId × Value → H} {w : World} {base : Nat} {spare : Nat → Bool} {held : Bool} {fuel : Nat} {cs : List Value} {x : DataW H × List MemPlace} (hf : DataW.trod enc Tryd.prog w base spare held fuel 24 cs = some x) :
    ∃ v, ∃ l : List ByteArray, cs = [v] ∧ RdS w v l ∧ l.length ≤ Rows.uptoBulk x.1 ∧ ∀ m ∈ l, m.size ≤ Rows.uptoBulk x.1 := by
  have hC : Tryd.prog.cellsOf 9 = 1 := by kernel_rfl
  rcases open_slice Tryd.underlying24 hf with ⟨hcs, hx⟩ | ⟨a, len', cap', m, n, D, Pl, hcs, hb, hle, hmax, hm, hx, hi⟩
  · subst hcs; subst hx
    exact ⟨_, [], rfl, Rd.nil _ _, by simp, fun m hm => by cases hm⟩
  · subst hcs; subst hx
    have hml : len' ≤ m := by rw [hm]; split <;> omega
    rw [hC] at hi
    have key : ∀ k, k ≤ len' → ∃ l : List ByteArray, l.length = k ∧ (∀ j u, (strV l)[j]? = some u → w.cell? (a.add j) = some u) ∧ ∀ x ∈ l, x.size ≤ Rows.uptoBulkAll ((List.range k).map D) := by
      intro k
      induction k with
      | zero => exact fun _ => ⟨[], rfl, by simp [strV], fun x hx => by cases hx⟩
      | succ k ih =>
        intro hk
        obtain ⟨l, h1, h2, h3⟩ := ih (by omega)
        obtain ⟨cs', hc, ht⟩ := hi k (by omega)
        obtain ⟨mk, rfl, hmk⟩ := open_wordB ht
        obtain ⟨_, _, hcell⟩ := World.cells?_some hc
        refine ⟨l ++ [mk], by simp [h1], ?_, ?_⟩
        · intro j u hj
          have e : strV (l ++ [mk]) = strV l ++ [.string mk] := by simp [strV]
          rw [e, List.getElem?_append] at hj
          have hfl := strV_lenC l
          split at hj
          · exact h2 j u hj
          · rename_i hge
            have hj3 : j - (strV l).length < 1 := by
              have := (List.getElem?_eq_some_iff.1 hj).1
              simpa [] using this
            have := hcell (j - (strV l).length) hj3
            rw [hj, Go.Deep.add_add] at this
            rw [← this]
            congr 2
            omega
        · intro y hy
          rw [List.range_succ, List.map_append, bulk_append]
          simp only [List.map_cons, List.map_nil, Rows.uptoBulkAll]
          simp only at hmk
          rcases List.mem_append.1 hy with hy | hy
          · have := h3 y hy; omega
          · rw [List.mem_singleton.1 hy]; omega
    obtain ⟨l, h1, h2, h3⟩ := key len' (Nat.le_refl _)
    refine ⟨_, l, rfl, ?_, ?_, fun y hy => ?_⟩
    · have := rd_cells (w := w) (a := a) (n := l.length) (size := 1) (cap := cap') (by omega) (by rw [strV_lenC, Nat.mul_one]) (by omega) hmax h2
      rwa [show (Value.slice (some a) len' cap') = .slice (some a) l.length cap' from by rw [h1]]
    · simp only [Rows.uptoBulk]
      have := bulk_len ((List.range len').map D)
      simp at this
      omega
    · have := h3 y hy
      simp only [Rows.uptoBulk]; omega
set_option maxRecDepth 100000 in
theorem open_intsC {H : Type} {enc : TypeId × Value → H} {w : World} {base : Nat} {spare : Nat → Bool} {held : Bool} {fuel : Nat} {cs : List Value} {x : DataW H × List MemPlace} (hf : DataW.trod enc Tryd.prog w base spare held fuel 25 cs = some x) :
    ∃ v, ∃ l : List Int, cs = [v] ∧ RdZ w v l ∧ l.length ≤ Rows.uptoBulk x.1 := by
  have hC : Tryd.prog.cellsOf 3 = 1 := by kernel_rfl
  rcases open_slice Tryd.underlying25 hf with ⟨hcs, hx⟩ | ⟨a, len', cap', m, n, D, Pl, hcs, hb, hle, hmax, hm, hx, hi⟩
  · subst hcs; subst hx
    exact ⟨_, [], rfl, Rd.nil _ _, by simp⟩
  · subst hcs; subst hx
    have hml : len' ≤ m := by rw [hm]; split <;> omega
    rw [hC] at hi
    have key : ∀ k, k ≤ len' → ∃ l : List Int, l.length = k ∧ (∀ j u, (intV l)[j]? = some u → w.cell? (a.add j) = some u) := by
      intro k
      induction k with
      | zero => exact fun _ => ⟨[], rfl, by simp [intV]⟩
      | succ k ih =>
        intro hk
        obtain ⟨l, h1, h2⟩ := ih (by omega)
        obtain ⟨cs', hc, ht⟩ := hi k (by omega)
        obtain ⟨mk, rfl⟩ := open_intB ht
        obtain ⟨_, _, hcell⟩ := World.cells?_some hc
        refine ⟨l ++ [mk], by simp [h1], ?_⟩
        · intro j u hj
          have e : intV (l ++ [mk]) = intV l ++ [.int .i64 mk] := by simp [intV]
          rw [e, List.getElem?_append] at hj
          have hfl := intV_lenC l
          split at hj
          · exact h2 j u hj
          · rename_i hge
            have hj3 : j - (intV l).length < 1 := by
              have := (List.getElem?_eq_some_iff.1 hj).1
              simpa [] using this
            have := hcell (j - (intV l).length) hj3
            rw [hj, Go.Deep.add_add] at this
            rw [← this]
            congr 2
            omega
    obtain ⟨l, h1, h2⟩ := key len' (Nat.le_refl _)
    refine ⟨_, l, rfl, ?_, ?_⟩
    · have := rd_cells (w := w) (a := a) (n := l.length) (size := 1) (cap := cap') (by omega) (by rw [intV_lenC, Nat.mul_one]) (by omega) hmax h2
      rwa [show (Value.slice (some a) len' cap') = .slice (some a) l.length cap' from by rw [h1]]
    · simp only [Rows.uptoBulk]
      have := bulk_len ((List.range len').map D)
      simp at this
      omega
theorem trod_struct5 {H : Type} {enc : TypeId × Value → H} {P : Program} {w : World} {base : Nat} {spare : Nat → Bool} {held : Bool} {t : TypeId} {f0 f1 f2 f3 f4 : Field} {fuel : Nat} {cs : List Value} {x : DataW H × List MemPlace} (ht : P.underlying t = some (.struct #[f0, f1, f2, f3, f4])) (h : DataW.trod enc P w base spare held fuel t cs = some x) :
    ∃ y0 y1 y2 y3 y4 n, x.1 = .agg [y0.1, y1.1, y2.1, y3.1, y4.1] ∧ cs.length = P.cellsOf t ∧ DataW.trod enc P w base spare held n f0.type ((cs.drop f0.offset).take (P.cellsOf f0.type)) = some y0 ∧
      DataW.trod enc P w base spare held n f1.type ((cs.drop f1.offset).take (P.cellsOf f1.type)) = some y1 ∧ DataW.trod enc P w base spare held n f2.type ((cs.drop f2.offset).take (P.cellsOf f2.type)) = some y2 ∧
      DataW.trod enc P w base spare held n f3.type ((cs.drop f3.offset).take (P.cellsOf f3.type)) = some y3 ∧ DataW.trod enc P w base spare held n f4.type ((cs.drop f4.offset).take (P.cellsOf f4.type)) = some y4 := by
  obtain ⟨xs, n, _, rfl, hl, hlen, hf⟩ := DataW.trod_struct ht h
  match xs, hlen with
  | [y0, y1, y2, y3, y4], _ => exact ⟨y0, y1, y2, y3, y4, n, by simp, hl, by simpa using hf 0 f0 rfl, by simpa using hf 1 f1 rfl, by simpa using hf 2 f2 rfl, by simpa using hf 3 f3 rfl, by simpa using hf 4 f4 rfl⟩
/-- a command's parts are within n -/
structure SmallC (n : Nat) (c : Cmd) : Prop where
  ns : c.ns.length ≤ n
  nm : ∀ m ∈ c.ns, m.size ≤ n
  ks : c.ks.length ≤ n
  tx : c.t.size ≤ n
set_option maxRecDepth 100000 in
/-- one command, by value -/
theorem open_cmd {H : Type} {enc : TypeId × Value → H} {w : World} {base : Nat} {spare : Nat → Bool} {held : Bool} {r : Reach} {b0 : Nat} {v : Value} {d : DataW H} {ps : List MemPlace}
    (hval : Value.okWide Tryd.prog w r b0 27 v) (h : DataW.Trod enc Tryd.prog w base spare held 27 v d ps) :
    ∃ c : Cmd, RdCm w v c ∧ BigC c ∧ SmallC (Rows.uptoBulk d) c := by
  obtain ⟨cs, rfl, hsz⟩ := okWide_struct Tryd.underlying27 hval
  obtain ⟨fuel, hf⟩ := h
  obtain ⟨y0, y1, y2, y3, y4, n, hx, hl, h0, h1, h2, h3, h4⟩ := trod_struct5 Tryd.underlying27 hf
  have hl2 : cs.toList.length = 5 := by rw [show cs.toList.length = _ from hl]; kernel_rfl
  obtain ⟨c0, c1, c2, c3, c4, hc⟩ : ∃ c0 c1 c2 c3 c4, cs.toList = [c0, c1, c2, c3, c4] := by
    match hcs : cs.toList, hl2 with
    | [c0, c1, c2, c3, c4], _ => exact ⟨c0, c1, c2, c3, c4, rfl⟩
  have hcc : (Value.agg cs).cells.toList = [c0, c1, c2, c3, c4] := hc
  rw [hcc] at h0 h1 h2 h3 h4
  obtain ⟨t0, e0, _, _⟩ := DataW.trod_int (k := .i64) (by kernel_rfl) h0
  obtain ⟨t1, e1, _, _⟩ := DataW.trod_int (k := .i64) (by kernel_rfl) h1
  obtain ⟨v2, l2, e2, r2, n2, m2⟩ := open_wordsC h2
  obtain ⟨v3, l3, e3, r3, n3⟩ := open_intsC h3
  obtain ⟨t4, e4, m4⟩ := open_wordB h4
  have k0 : Tryd.prog.cellsOf 22 = 1 := by kernel_rfl
  have k1 : Tryd.prog.cellsOf 23 = 1 := by kernel_rfl
  have k2 : Tryd.prog.cellsOf 24 = 1 := by kernel_rfl
  have k3 : Tryd.prog.cellsOf 25 = 1 := by kernel_rfl
  have k4 : Tryd.prog.cellsOf 9 = 1 := by kernel_rfl
  simp [k0] at e0
  simp [k1] at e1
  simp [k2] at e2
  simp [k3] at e3
  simp [k4] at e4
  have hbulk : Rows.uptoBulk d = Rows.uptoBulk y0.1 + (Rows.uptoBulk y1.1 + (Rows.uptoBulk y2.1 + (Rows.uptoBulk y3.1 + (Rows.uptoBulk y4.1 + 0)))) + 1 := by
    have : d = .agg [y0.1, y1.1, y2.1, y3.1, y4.1] := hx
    rw [this]; rfl
  subst e0 e1 e2 e3 e4
  have hcs : cs = #[.int .i64 t0, .int .i64 t1, c2, c3, .string t4] := by rw [← Array.toList_inj, hc]
  have r2' := r2
  have r3' := r3
  obtain ⟨-, a2, p2, rfl, q2, s2, -⟩ := r2'
  obtain ⟨-, a3, p3, rfl, q3, s3, -⟩ := r3'
  have hml : maxLen = 9223372036854775807 := by decide
  refine ⟨⟨t0, t1, l2, l3, t4⟩, ⟨a2, p2, a3, p3, by rw [hcs], r2, r3⟩, ⟨by show l2.length ≤ _; omega, by show l3.length ≤ _; omega⟩, ⟨by show l2.length ≤ _; omega, fun m hm => ?_, by show l3.length ≤ _; omega, by show t4.size ≤ _; omega⟩⟩
  have := m2 m hm
  omega
end Go.Proofs.YtikkfbkpgejneaaDoor
namespace Go.Proofs.YtikkfbkpgejneaaDoor.commandSame
open Go.ChangeShapes Go.WideShapes Go.ChangeAt Go.RowKit
open Go.ChangeMaps (open_string shut_string)

theorem laid : laidOutB Tryd.prog = true := by kernel_rfl
theorem own : ownKnob Tryd.prog.godebug = none := by kernel_rfl

set_option maxRecDepth 100000 in
theorem contract (H : Type) (enc : TypeId × Value → H) (W : World) (base : Nat) (args : Array Value) (ds gs : List (DataW H)) (before : List MemPlace)
    (hval : ∀ (j : Nat) t v, Tryd.f5.params[j]? = some t → args[j]? = some v → Value.okWide Tryd.prog W .any base t v)
    (hW : DataW.Whole enc Tryd.prog Tryd.f5.params.toList Rows.commandSameSpec.vars false W args.toList ds gs before)
    (hsz : (DataW.weightsEach Tryd.prog (Tryd.f5.params.toList ++ Rows.commandSameSpec.plain.varTypes Tryd.prog) (ds ++ gs)).all (· ≤ reachBytes) = true)
    (hL : laidMetH Tryd.prog Rows.commandSameRow.laid W) (hsh : W.ShapedOpen Tryd.prog) :
    Calls Tryd.prog 5 args W fun e W' => ∃ v, e = .returned v ∧ Rows.commandSameSpec.post enc Tryd.prog Tryd.f5 false true false false W args v W' := by
  have hW' := hW
  obtain ⟨p, q, hA0, hV, rfl, hfz, hnd⟩ := hW
  have hA : DataW.TrodAll enc Tryd.prog W 0 (fun _ => true) true Tryd.f5.params.toList args.toList ds p := hA0
  rw [Tryd.params5] at hA hval hsz
  obtain ⟨v0, vs0, d0, ds0, p0, q0, hargs, rfl, rfl, h0, r0⟩ := trodAll_cons hA
  obtain ⟨v1, vs1, d1, ds1, p1, q1, rfl, rfl, rfl, h1, r1⟩ := trodAll_cons r0
  obtain ⟨rfl, rfl, rfl⟩ := trodAll_nil r1
  obtain rfl : args = #[v0, v1] := by cases args; simp_all
  obtain ⟨rfl, rfl⟩ := trodVars_none hV
  have hlt0 : ∀ x ∈ p0, x.block < W.heap.size := fun x hx => by simpa using hW'.lt x (by simp [hx])
  obtain ⟨a0, t0, u0, z0⟩ := open_cmd (hval 0 27 v0 rfl rfl) h0
  have hlt1 : ∀ x ∈ p1, x.block < W.heap.size := fun x hx => by simpa using hW'.lt x (by simp [hx])
  obtain ⟨a1, t1, u1, z1⟩ := open_cmd (hval 1 27 v1 rfl rfl) h1
  clear hA0
  simp only [List.append_nil] at hW'
  refine (commandSame_any v0 v1 a0 a1 W (gb_of hL hsh) t0 t1 u0 u1).mono fun e W' ⟨he, bel⟩ => ?_
  subst he
  exact ⟨_, rfl, _, _, _, [], _, [], hW', trodAll_mk1 (shut_bool Tryd.underlying4 _), (trodAll_cons_mk (Below.trod laid (by kernel_rfl) (of_decide_eq_true (by kernel_rfl)) h0 bel hlt0) (trodAll_cons_mk (Below.trod laid (by kernel_rfl) (of_decide_eq_true (by kernel_rfl)) h1 bel hlt1) trodAll_mk0)), rfl, bel.frame _, fun h => by cases h⟩

theorem reads (os : Os) {H : Type} (enc : TypeId × Value → H) : ∃ places, DataW.whole enc Tryd.prog ((laidWorld os).forCall (fun _ _ => 0) ⟨#[], #[.agg #[.int .i64 0, .int .i64 0, .slice none 0 0, .slice none 0 0, .string .empty], .agg #[.int .i64 0, .int .i64 0, .slice none 0 0, .slice none 0 0, .string .empty]], []⟩).memory Tryd.f5.params.toList Rows.commandSameSpec.vars false (#[.agg #[.int .i64 0, .int .i64 0, .slice none 0 0, .slice none 0 0, .string .empty], .agg #[.int .i64 0, .int .i64 0, .slice none 0 0, .slice none 0 0, .string .empty]] : Array Value).toList 8 = some ([.agg [.lit (.int .i64 0), .lit (.int .i64 0), .nil, .nil, .lit (.string [])], .agg [.lit (.int .i64 0), .lit (.int .i64 0), .nil, .nil, .lit (.string [])]], [], places) :=
  ⟨[], by kernel_rfl⟩

set_option maxRecDepth 100000 in
theorem lifted (os : Os) (started : os.Started) (H : Type) (enc : TypeId × Value → H) (F : Stop.Interp) :
    ReturnsInHanded {} Tryd.checked os 5 .any ((OpenSpec.ofChange Rows.commandSameSpec).preRow enc Tryd.prog Tryd.f5 Rows.commandSameRow.domain false Rows.commandSameRow.laid) (((OpenSpec.ofChange Rows.commandSameSpec).at F).post enc Tryd.prog Tryd.f5 false true false false) := by
  obtain ⟨places, hx⟩ := reads os enc
  refine returnsInHanded_of_row (C := Tryd.checked) (s := OpenSpec.ofChange Rows.commandSameSpec) own started (by kernel_rfl) Tryd.func5
    (witness_row_atRef (enc := enc) (C := Tryd.checked) false (laidWorld os) #[.agg #[.int .i64 0, .int .i64 0, .slice none 0 0, .slice none 0 0, .string .empty], .agg #[.int .i64 0, .int .i64 0, .slice none 0 0, .slice none 0 0, .string .empty]] rfl (by kernel_rfl) (by kernel_rfl) (by kernel_rfl)
      (OpenSpec.preRow_of_cond 8 hx (by kernel_rfl) (fun k hk => by cases hk) (by kernel_rfl) (laidWorld_met os _))) ?_
  intro W base args ds gs before hval hW _ _ hsz hL hsh _
  exact contract H enc W base args ds gs before hval hW hsz hL hsh

theorem said : Rows.CommandSameSaid :=
  OpenClaim.holds_of_cond 5 Tryd.f5 rfl rfl rfl rfl rfl rfl rfl ⟨rfl, rfl, rfl, rfl, rfl⟩ rfl rfl rfl rfl rfl (by kernel_rfl) Tryd.func5 (by kernel_rfl)
    (of_decide_eq_true (by kernel_rfl)) (by unfold Func.isWrapper; first | (rw [if_pos (by decide +kernel)]; kernel_rfl) | (rw [if_neg (by decide +kernel)]; exact ⟨rfl, rfl⟩))
    (fun os started H enc _ F => by rw [OpenClaim.pre_eq_preRow]; exact lifted os started H enc F)

/-- No parameter wants a stand-in; the program's looks are on: what the card asks. -/
theorem plain (f : FuncId) (fn : Func) (hf : Tryd.pinned.checked.prog.funcNamed "byway/bywaylaw30.CommandSame" = some f) (hfn : Tryd.pinned.checked.prog.funcs[f]? = some fn) :
    true = Tryd.pinned.checked.prog.looks [] ∧ ∀ (j : Nat) t, fn.params[j]? = some t → Tryd.pinned.checked.prog.wantsStandIn t = false := by
  obtain rfl : f = 5 := Option.some.inj ((show Tryd.prog.funcNamed "byway/bywaylaw30.CommandSame" = some 5 by kernel_rfl).symm.trans hf) |>.symm
  obtain rfl : fn = Tryd.f5 := (Option.some.inj (Tryd.func5.symm.trans hfn)).symm
  refine ⟨by kernel_rfl, fun j t ht => ?_⟩
  rw [Tryd.params5] at ht
  obtain rfl : t = 27 := by simpa using Array.mem_of_getElem? ht
  exact (show Tryd.prog.wantsStandIn 27 = false by kernel_rfl)

theorem proved : Rows.CommandSameCardSaid :=
  Claim7.holds_tied_plain_at .later [] _ _ _ _ said (fun _ h => by cases h) (by kernel_rfl) (fun _ h => by cases h) commandSame_row_tie rfl ⟨rfl, rfl⟩ (by kernel_rfl) rfl plain (by kernel_rfl)
#print axioms proved
end Go.Proofs.YtikkfbkpgejneaaDoor.commandSame
