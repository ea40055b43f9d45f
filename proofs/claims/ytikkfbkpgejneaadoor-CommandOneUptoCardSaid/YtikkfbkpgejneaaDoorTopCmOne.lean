/- PROVED: CommandOne returns true whatever its arguments; each argument reads behind the call as it read before. CONDITION: the arguments' bulk is at most 1048576 (the second form). -/
import Derived.Test.YtikkfbkpgejneaaDoorPk3
import Derived.Test.YtikkfbkpgejneaaDoorCards
import Derived.Test.YtikkfbkpgejneaaDoorTie
import Derived.Carry
import Derived.ProofKit
import Derived.OpenShut
import Derived.ShutString
import Derived.JoinedCond
import Derived.SizedLaws
import Derived.Deep.DeepHandedRow
import Derived.Deep.DeepWitnessRowRef
/- The law CommandOne. -/
namespace Go.Proofs.YtikkfbkpgejneaaDoor
open Go.RowKit Go.Shelf

set_option maxRecDepth 100000 in
set_option maxHeartbeats 3200000 in
theorem commandOne_any (va vb : Value) (a b : Cmd) (w : World) (hg : Gb w) (hra : RdCm w va a) (hrb : RdCm w vb b) (sma : SmC a) (smb : SmC b) : Calls Tryd.prog 9 #[va, vb] w fun e w' => e = .returned (.bool true) ∧ Below w.heap.size w w' := by
  have h8 := hg.sz
  have HG := Lib.hid hg
  obtain ⟨an, cn, ak, ck, rfl, a1, a2⟩ := hra
  obtain ⟨bn, dn, bk, dk, rfl, b1, b2⟩ := hrb
  have HA := Lib.hid (show RdCm w (.agg #[.int .i64 a.v, .int .i64 a.h, .slice an a.ns.length cn, .slice ak a.ks.length ck, .string a.t]) a from ⟨_, _, _, _, rfl, a1, a2⟩)
  have HB := Lib.hid (show RdCm w (.agg #[.int .i64 b.v, .int .i64 b.h, .slice bn b.ns.length dn, .slice bk b.ks.length dk, .string b.t]) b from ⟨_, _, _, _, rfl, b1, b2⟩)
  have HBa := Lib.hid sma.big
  have HBb := Lib.hid smb.big
  have HPa := Lib.hid (fun va w hg hr => print_any va a w hg hr sma)
  have HPb := Lib.hid (fun va w hg hr => print_any va b w hg hr smb)
  have HEa := Lib.hid (print_err a)
  have HEb := Lib.hid (print_err b)
  have HO : Hid (∀ s t, printC a = (s, 0) → printC b = (t, 0) → decide (s = t) = decide (a = b)) := fun s t h1 h2 => one_plain h1 h2
  have HHd := Lib.hid (fun w hg => head_any w hg)
  generalize printC a = P at *
  obtain ⟨s, er⟩ := P
  generalize printC b = P at *
  obtain ⟨t, fr⟩ := P
  simp only at HEa HEb
  clear hg a1 a2 b1 b2 sma smb
  go_enter Tryd.func9, Tryd.ntmps9
  go_wp2_with fail
  have hb2 := below2 w (.cells #[.int .i64 a.v, .int .i64 a.h, .slice an a.ns.length cn, .slice ak a.ks.length ck, .string a.t] 27) (.cells #[.int .i64 b.v, .int .i64 b.h, .slice bn b.ns.length dn, .slice bk b.ks.length dk, .string b.t] 27)
  have hka : ((w.alloc (.cells #[.int .i64 a.v, .int .i64 a.h, .slice an a.ns.length cn, .slice ak a.ks.length ck, .string a.t] 27)).alloc (.cells #[.int .i64 b.v, .int .i64 b.h, .slice bn b.ns.length dn, .slice bk b.ks.length dk, .string b.t] 27)).heap[w.heap.size]? = some (.cells #[.int .i64 a.v, .int .i64 a.h, .slice an a.ns.length cn, .slice ak a.ks.length ck, .string a.t] 27 (0, 0)) := (Below.heap_alloc _ _ _ (by simp)).trans (heap_alloc_new w (.cells #[.int .i64 a.v, .int .i64 a.h, .slice an a.ns.length cn, .slice ak a.ks.length ck, .string a.t] 27))
  have hkb : ((w.alloc (.cells #[.int .i64 a.v, .int .i64 a.h, .slice an a.ns.length cn, .slice ak a.ks.length ck, .string a.t] 27)).alloc (.cells #[.int .i64 b.v, .int .i64 b.h, .slice bn b.ns.length dn, .slice bk b.ks.length dk, .string b.t] 27)).heap[w.heap.size + 1]? = some (.cells #[.int .i64 b.v, .int .i64 b.h, .slice bn b.ns.length dn, .slice bk b.ks.length dk, .string b.t] 27 (0, 0)) := by
    have := heap_alloc_new (w.alloc (.cells #[.int .i64 a.v, .int .i64 a.h, .slice an a.ns.length cn, .slice ak a.ks.length ck, .string a.t] 27)) (.cells #[.int .i64 b.v, .int .i64 b.h, .slice bn b.ns.length dn, .slice bk b.ks.length dk, .string b.t] 27)
    rwa [show (w.alloc (.cells #[.int .i64 a.v, .int .i64 a.h, .slice an a.ns.length cn, .slice ak a.ks.length ck, .string a.t] 27)).heap.size = w.heap.size + 1 from by simp] at this
  have HB2 := Lib.hid hb2
  have HKa := Lib.hid hka
  have HKb := Lib.hid hkb
  have HA2 := Lib.hid (HA.out.below hb2)
  have HBv2 := Lib.hid (HB.out.below hb2)
  clear hb2 hka hkb
  generalize (w.alloc (.cells #[.int .i64 a.v, .int .i64 a.h, .slice an a.ns.length cn, .slice ak a.ks.length ck, .string a.t] 27)).alloc (.cells #[.int .i64 b.v, .int .i64 b.h, .slice bn b.ns.length dn, .slice bk b.ks.length dk, .string b.t] 27) = w2 at *
  refine (HPa.out _ w2 (HG.out.below (B := w.heap.size) h8 HB2.out) HA2.out).mono ?_
  rintro e w3 ⟨rfl, hb⟩
  have HB3 := Lib.hid (HB2.out.trans (hb.mono HB2.out.size))
  have HA3 := Lib.hid (HA2.out.below hb)
  have HBv3 := Lib.hid (HBv2.out.below hb)
  have hka := (hb.block _ (Array.getElem?_eq_some_iff.1 HKa.out).1).trans HKa.out
  have hkb := (hb.block _ (Array.getElem?_eq_some_iff.1 HKb.out).1).trans HKb.out
  have q0 : w3.cell? ⟨w.heap.size, 0, none⟩ = some (.int .i64 a.v) := by simp [World.cell?, hka]
  have q1 : w3.cell? ⟨w.heap.size, 1, none⟩ = some (.int .i64 a.h) := by simp [World.cell?, hka]
  have q2 : w3.cell? ⟨w.heap.size, 2, none⟩ = some (.slice an a.ns.length cn) := by simp [World.cell?, hka]
  have q3 : w3.cell? ⟨w.heap.size, 3, none⟩ = some (.slice ak a.ks.length ck) := by simp [World.cell?, hka]
  have q4 : w3.cell? ⟨w.heap.size, 4, none⟩ = some (.string a.t) := by simp [World.cell?, hka]
  have r0 : w3.cell? ⟨w.heap.size + 1, 0, none⟩ = some (.int .i64 b.v) := by simp [World.cell?, hkb]
  have r1 : w3.cell? ⟨w.heap.size + 1, 1, none⟩ = some (.int .i64 b.h) := by simp [World.cell?, hkb]
  have r2 : w3.cell? ⟨w.heap.size + 1, 2, none⟩ = some (.slice bn b.ns.length dn) := by simp [World.cell?, hkb]
  have r3 : w3.cell? ⟨w.heap.size + 1, 3, none⟩ = some (.slice bk b.ks.length dk) := by simp [World.cell?, hkb]
  have r4 : w3.cell? ⟨w.heap.size + 1, 4, none⟩ = some (.string b.t) := by simp [World.cell?, hkb]
  have HKa3 := Lib.hid hka
  have HKb3 := Lib.hid hkb
  clear hb hka hkb
  go_wp2_with fail
  refine (HPb.out _ w3 (HG.out.below (B := w.heap.size) h8 HB3.out) HBv3.out).mono ?_
  rintro e w4 ⟨rfl, hb⟩
  have HB4 := Lib.hid (HB3.out.trans (hb.mono HB3.out.size))
  have HA4 := Lib.hid (HA3.out.below hb)
  have HBv4 := Lib.hid (HBv3.out.below hb)
  have HKa4 := Lib.hid ((hb.block _ (Array.getElem?_eq_some_iff.1 HKa3.out).1).trans HKa3.out)
  have HKb4 := Lib.hid ((hb.block _ (Array.getElem?_eq_some_iff.1 HKb3.out).1).trans HKb3.out)
  clear hb q0 q1 q2 q3 q4 r0 r1 r2 r3 r4
  go_wp2_with fail
  refine (HHd.out _ (HG.out.below (B := w.heap.size) h8 HB4.out)).mono ?_
  rintro e w5 ⟨rfl, hb⟩
  have HB5 := Lib.hid (HB4.out.trans (hb.mono HB4.out.size))
  have HA5 := Lib.hid (HA4.out.below hb)
  have HBv5 := Lib.hid (HBv4.out.below hb)
  have hka := (hb.block _ (Array.getElem?_eq_some_iff.1 HKa4.out).1).trans HKa4.out
  have hkb := (hb.block _ (Array.getElem?_eq_some_iff.1 HKb4.out).1).trans HKb4.out
  have q0 : w5.cell? ⟨w.heap.size, 0, none⟩ = some (.int .i64 a.v) := by simp [World.cell?, hka]
  have q1 : w5.cell? ⟨w.heap.size, 1, none⟩ = some (.int .i64 a.h) := by simp [World.cell?, hka]
  have q2 : w5.cell? ⟨w.heap.size, 2, none⟩ = some (.slice an a.ns.length cn) := by simp [World.cell?, hka]
  have q3 : w5.cell? ⟨w.heap.size, 3, none⟩ = some (.slice ak a.ks.length ck) := by simp [World.cell?, hka]
  have q4 : w5.cell? ⟨w.heap.size, 4, none⟩ = some (.string a.t) := by simp [World.cell?, hka]
  have r0 : w5.cell? ⟨w.heap.size + 1, 0, none⟩ = some (.int .i64 b.v) := by simp [World.cell?, hkb]
  have r1 : w5.cell? ⟨w.heap.size + 1, 1, none⟩ = some (.int .i64 b.h) := by simp [World.cell?, hkb]
  have r2 : w5.cell? ⟨w.heap.size + 1, 2, none⟩ = some (.slice bn b.ns.length dn) := by simp [World.cell?, hkb]
  have r3 : w5.cell? ⟨w.heap.size + 1, 3, none⟩ = some (.slice bk b.ks.length dk) := by simp [World.cell?, hkb]
  have r4 : w5.cell? ⟨w.heap.size + 1, 4, none⟩ = some (.string b.t) := by simp [World.cell?, hkb]
  clear hb hka hkb
  by_cases h0 : er = 0
  · subst h0
    by_cases h1 : fr = 0
    · subst h1
      have ho := HO.out s t rfl rfl
      obtain ⟨R, hR⟩ : ∃ R, R = decide (a = b) := ⟨_, rfl⟩
      have hst : (s.toList == t.toList) = R := by
        rw [hR, ← ho, Bool.eq_iff_iff, beq_iff_eq, decide_eq_true_iff]; exact toList_inj s t
      have HSm := Lib.hid (cmSame_any _ _ a b w5 HA5.out HBv5.out HBa.out HBb.out)
      rw [← hR] at HSm
      have hrr : (R == R) = true := by simp
      clear ho hR
      go_wp2_with fail
      refine (HSm.out).mono ?_
      rintro e w6 ⟨rfl, hb⟩
      have HB6 := Lib.hid (HB5.out.trans (hb.mono HB5.out.size))
      clear hb
      go_wp2_with fail
      go_ret
      exact ⟨rfl, HB6.out⟩
    · have e1 : (fr != 0) = true := by simpa using h1
      clear h1
      go_wp2_with fail
      go_ret
      exact ⟨rfl, HB5.out⟩
  · have e0 : (er != 0) = true := by simpa using h0
    clear h0
    go_wp2_with fail
    go_ret
    exact ⟨rfl, HB5.out⟩
end Go.Proofs.YtikkfbkpgejneaaDoor
namespace Go.Proofs.YtikkfbkpgejneaaDoor.commandOne
open Go.ChangeShapes Go.WideShapes Go.ChangeAt Go.RowKit
open Go.ChangeMaps (open_string shut_string)

theorem laid : laidOutB Tryd.prog = true := by kernel_rfl
theorem own : ownKnob Tryd.prog.godebug = none := by kernel_rfl

set_option maxRecDepth 100000 in
theorem contract (H : Type) (enc : TypeId × Value → H) (W : World) (base : Nat) (args : Array Value) (ds gs : List (DataW H)) (before : List MemPlace)
    (hval : ∀ (j : Nat) t v, Tryd.f9.params[j]? = some t → args[j]? = some v → Value.okWide Tryd.prog W .any base t v)
    (hW : DataW.Whole enc Tryd.prog Tryd.f9.params.toList Rows.commandOneSpec.vars false W args.toList ds gs before) (hk : Rows.uptoSmall H (ds ++ gs) = true)
    (hsz : (DataW.weightsEach Tryd.prog (Tryd.f9.params.toList ++ Rows.commandOneSpec.plain.varTypes Tryd.prog) (ds ++ gs)).all (· ≤ reachBytes) = true)
    (hL : laidMetH Tryd.prog Rows.commandOneUptoRow.laid W) (hsh : W.ShapedOpen Tryd.prog) :
    Calls Tryd.prog 9 args W fun e W' => ∃ v, e = .returned v ∧ Rows.commandOneSpec.post enc Tryd.prog Tryd.f9 false true false false W args v W' := by
  have hW' := hW
  obtain ⟨p, q, hA0, hV, rfl, hfz, hnd⟩ := hW
  have hA : DataW.TrodAll enc Tryd.prog W 0 (fun _ => true) true Tryd.f9.params.toList args.toList ds p := hA0
  rw [Tryd.params9] at hA hval hsz
  obtain ⟨v0, vs0, d0, ds0, p0, q0, hargs, rfl, rfl, h0, r0⟩ := trodAll_cons hA
  obtain ⟨v1, vs1, d1, ds1, p1, q1, rfl, rfl, rfl, h1, r1⟩ := trodAll_cons r0
  obtain ⟨rfl, rfl, rfl⟩ := trodAll_nil r1
  obtain rfl : args = #[v0, v1] := by cases args; simp_all
  obtain ⟨rfl, rfl⟩ := trodVars_none hV
  have hlt0 : ∀ x ∈ p0, x.block < W.heap.size := fun x hx => by simpa using hW'.lt x (by simp [hx])
  obtain ⟨a0, t0, u0, z0⟩ := open_cmd (hval 0 27 v0 rfl rfl) h0
  have hlt1 : ∀ x ∈ p1, x.block < W.heap.size := fun x hx => by simpa using hW'.lt x (by simp [hx])
  obtain ⟨a1, t1, u1, z1⟩ := open_cmd (hval 1 27 v1 rfl rfl) h1
  clear hA0
  simp only [List.append_nil] at hW'
  have hk2 : Rows.uptoBulkAll ([d0, d1] : List (DataW H)) ≤ 1048576 := by simpa [Rows.uptoSmall] using hk
  simp only [Rows.uptoBulkAll] at hk2
  replace z0 := z0.mono (m := 1048576) (by omega)
  replace z1 := z1.mono (m := 1048576) (by omega)
  refine (commandOne_any v0 v1 a0 a1 W (gb_of hL hsh) t0 t1 (z0.sm u0) (z1.sm u1)).mono fun e W' ⟨he, bel⟩ => ?_
  subst he
  exact ⟨_, rfl, _, _, _, [], _, [], hW', trodAll_mk1 (shut_bool Tryd.underlying4 _), (trodAll_cons_mk (Below.trod laid (by kernel_rfl) (of_decide_eq_true (by kernel_rfl)) h0 bel hlt0) (trodAll_cons_mk (Below.trod laid (by kernel_rfl) (of_decide_eq_true (by kernel_rfl)) h1 bel hlt1) trodAll_mk0)), rfl, bel.frame _, fun h => by cases h⟩

theorem reads (os : Os) {H : Type} (enc : TypeId × Value → H) : ∃ places, DataW.whole enc Tryd.prog ((laidWorld os).forCall (fun _ _ => 0) ⟨#[], #[.agg #[.int .i64 0, .int .i64 0, .slice none 0 0, .slice none 0 0, .string .empty], .agg #[.int .i64 0, .int .i64 0, .slice none 0 0, .slice none 0 0, .string .empty]], []⟩).memory Tryd.f9.params.toList Rows.commandOneSpec.vars false (#[.agg #[.int .i64 0, .int .i64 0, .slice none 0 0, .slice none 0 0, .string .empty], .agg #[.int .i64 0, .int .i64 0, .slice none 0 0, .slice none 0 0, .string .empty]] : Array Value).toList 8 = some ([.agg [.lit (.int .i64 0), .lit (.int .i64 0), .nil, .nil, .lit (.string [])], .agg [.lit (.int .i64 0), .lit (.int .i64 0), .nil, .nil, .lit (.string [])]], [], places) :=
  ⟨[], by kernel_rfl⟩

set_option maxRecDepth 100000 in
theorem lifted (os : Os) (started : os.Started) (H : Type) (enc : TypeId × Value → H) (F : Stop.Interp) :
    ReturnsInHanded {} Tryd.checked os 9 .any ((Rows.OpenSpec.upto Rows.commandOneSpec).preRow enc Tryd.prog Tryd.f9 Rows.commandOneUptoRow.domain false Rows.commandOneUptoRow.laid) (((Rows.OpenSpec.upto Rows.commandOneSpec).at F).post enc Tryd.prog Tryd.f9 false true false false) := by
  obtain ⟨places, hx⟩ := reads os enc
  refine returnsInHanded_of_row (C := Tryd.checked) (s := Rows.OpenSpec.upto Rows.commandOneSpec) own started (by kernel_rfl) Tryd.func9
    (witness_row_atRef (enc := enc) (C := Tryd.checked) false (laidWorld os) #[.agg #[.int .i64 0, .int .i64 0, .slice none 0 0, .slice none 0 0, .string .empty], .agg #[.int .i64 0, .int .i64 0, .slice none 0 0, .slice none 0 0, .string .empty]] rfl (by kernel_rfl) (by kernel_rfl) (by kernel_rfl)
      (OpenSpec.preRow_of_cond 8 hx (by kernel_rfl) (fun k hk => by cases hk; kernel_rfl) (by kernel_rfl) (laidWorld_met os _))) ?_
  intro W base args ds gs before hval hW _ hcnd hsz hL hsh _
  exact contract H enc W base args ds gs before hval hW (hcnd _ rfl) hsz hL hsh

theorem said : Rows.CommandOneUptoSaid :=
  OpenClaim.holds_of_cond 9 Tryd.f9 rfl rfl rfl rfl rfl rfl rfl ⟨rfl, rfl, rfl, rfl, rfl⟩ rfl rfl rfl rfl rfl (by kernel_rfl) Tryd.func9 (by kernel_rfl)
    (of_decide_eq_true (by kernel_rfl)) (by unfold Func.isWrapper; first | (rw [if_pos (by decide +kernel)]; kernel_rfl) | (rw [if_neg (by decide +kernel)]; exact ⟨rfl, rfl⟩))
    (fun os started H enc _ F => by rw [OpenClaim.pre_eq_preRow]; exact lifted os started H enc F)

/-- No parameter wants a stand-in; the program's looks are on: what the card asks. -/
theorem plain (f : FuncId) (fn : Func) (hf : Tryd.pinned.checked.prog.funcNamed "byway/bywaylaw30.CommandOne" = some f) (hfn : Tryd.pinned.checked.prog.funcs[f]? = some fn) :
    true = Tryd.pinned.checked.prog.looks [] ∧ ∀ (j : Nat) t, fn.params[j]? = some t → Tryd.pinned.checked.prog.wantsStandIn t = false := by
  obtain rfl : f = 9 := Option.some.inj ((show Tryd.prog.funcNamed "byway/bywaylaw30.CommandOne" = some 9 by kernel_rfl).symm.trans hf) |>.symm
  obtain rfl : fn = Tryd.f9 := (Option.some.inj (Tryd.func9.symm.trans hfn)).symm
  refine ⟨by kernel_rfl, fun j t ht => ?_⟩
  rw [Tryd.params9] at ht
  obtain rfl : t = 27 := by simpa using Array.mem_of_getElem? ht
  exact (show Tryd.prog.wantsStandIn 27 = false by kernel_rfl)

theorem proved : Rows.CommandOneUptoCardSaid :=
  Claim7.holds_tied_plain_at .later [] _ _ _ _ said (fun _ h => by cases h) (by kernel_rfl) (fun _ h => by cases h) commandOneUpto_row_tie rfl ⟨rfl, rfl⟩ (by kernel_rfl) rfl plain (by kernel_rfl)
#print axioms proved
end Go.Proofs.YtikkfbkpgejneaaDoor.commandOne
