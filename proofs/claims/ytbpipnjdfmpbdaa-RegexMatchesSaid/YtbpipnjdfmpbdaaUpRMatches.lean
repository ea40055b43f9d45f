/- PROVED: RegexMatches returns true whatever its arguments; each argument reads behind the call as it read before. No condition beyond the form's own reach. -/
import Derived.Test.YtbpipnjdfmpbdaaRows
import Derived.Test.YtbpipnjdfmpbdaaRvE
import Derived.Test.YtbpipnjdfmpbdaaUpNd
import Derived.Test.YtbpipnjdfmpbdaaUpWd
import Derived.Carry
import Derived.SizedLaws
import Derived.ProofKit
import Derived.OpenShut
import Derived.ShutString
import Derived.JoinedCond
namespace Go.Proofs.Ytbpipnjdfmpbdaa.regexMatches
open Go.ChangeShapes Go.WideShapes Go.ChangeAt Go.RowKit
open Go.ChangeMaps (open_string shut_string)

theorem laid : laidOutB Try.prog = true := by kernel_rfl

theorem own : ownKnob Try.prog.godebug = none := by kernel_rfl

set_option maxRecDepth 100000 in
theorem contract (H : Type) (enc : TypeId × Value → H) (W : World) (base : Nat) (args : Array Value) (ds gs : List (DataW H)) (before : List MemPlace)
    (hval : ∀ (j : Nat) t v, Try.f12.params[j]? = some t → args[j]? = some v → Value.okWide Try.prog W .any base t v)
    (hW : DataW.Whole enc Try.prog Try.f12.params.toList Rows.regexMatchesSpec.vars false W args.toList ds gs before) (hsz : (DataW.weightsEach Try.prog (Try.f12.params.toList ++ Rows.regexMatchesSpec.plain.varTypes Try.prog) (ds ++ gs)).all (· ≤ reachBytes) = true) :
    Calls Try.prog 12 args W fun e W' => ∃ v, e = .returned v ∧ Rows.regexMatchesSpec.post enc Try.prog Try.f12 false true false false W args v W' := by
  have hW' := hW
  obtain ⟨p, q, hA0, hV, rfl, hfz, hnd⟩ := hW
  have hA : DataW.TrodAll enc Try.prog W 0 (fun _ => true) true Try.f12.params.toList args.toList ds p := hA0
  rw [Try.params12] at hA hval hsz
  obtain ⟨v0, vs0, d0, ds0, p0, q0, hargs, rfl, rfl, h0, r0⟩ := trodAll_cons hA
  obtain ⟨v1, vs1, d1, ds1, p1, q1, rfl, rfl, rfl, h1, r1⟩ := trodAll_cons r0
  obtain ⟨rfl, rfl, rfl⟩ := trodAll_nil r1
  obtain rfl : args = #[v0, v1] := by cases args; simp_all
  obtain ⟨rfl, rfl⟩ := trodVars_none hV
  have hlt0 : ∀ x ∈ p0, x.block < W.heap.size := fun x hx => by simpa using hW'.lt x (by simp [hx])
  obtain ⟨a0, w0, t0, u0⟩ := open_nodes (hval 0 22 v0 rfl rfl) h0
  have hlt1 : ∀ x ∈ p1, x.block < W.heap.size := fun x hx => by simpa using hW'.lt x (by simp [hx])
  obtain ⟨a1, w1, t1, u1⟩ := open_words (hval 1 53 v1 rfl rfl) h1
  clear hA0
  have y0 : a0.length ≤ 4398046511104 := by
    rcases u0 with rfl | ⟨el, sp, rfl, he⟩
    · simp
    · have h9 : (el.length + sp.length) * Try.prog.bytesOf 39 ≤ reachBytes := sized_slice hsz (j := 0) (t := 22) (e := 39) rfl rfl Try.underlying22
      have hb : Try.prog.bytesOf 39 = 32 := by kernel_rfl
      rw [hb] at h9; simp only [reachBytes] at h9; omega
  have y1 : a1.length ≤ 8796093022208 := by
    rcases u1 with rfl | ⟨el, sp, rfl, he⟩
    · simp
    · have h9 : (el.length + sp.length) * Try.prog.bytesOf 9 ≤ reachBytes := sized_slice hsz (j := 1) (t := 53) (e := 9) rfl rfl Try.underlying53
      have hb : Try.prog.bytesOf 9 = 16 := by kernel_rfl
      rw [hb] at h9; simp only [reachBytes] at h9; omega
  simp only [List.append_nil] at hW'
  refine (regexMatches_any v0 a0 v1 a1 W w0 y0 w1 y1).mono fun e W' ⟨he, bel⟩ => ?_
  subst he
  exact ⟨_, rfl, _, _, _, [], _, [], hW', trodAll_mk1 (shut_bool Try.underlying4 _), (trodAll_cons_mk (Below.trod laid (by kernel_rfl) (of_decide_eq_true (by kernel_rfl)) h0 bel hlt0) (trodAll_cons_mk (Below.trod laid (by kernel_rfl) (of_decide_eq_true (by kernel_rfl)) h1 bel hlt1) trodAll_mk0)), rfl, bel.frame _, fun h => by cases h⟩

set_option maxRecDepth 100000 in
theorem lifted (os : Os) (started : os.Started) (H : Type) (enc : TypeId × Value → H) :
    ReturnsInHanded {} Try.checked os 12 .any (Rows.regexMatchesSpec.pre6 enc Try.prog Try.f12 Rows.regexMatchesRow.domain false) (Rows.regexMatchesSpec.post enc Try.prog Try.f12 false true false false) := by
  refine returnsInHanded_of_change_sized (C := Try.checked) own started (by kernel_rfl) Try.func12
    (ChangeSpec.witness6 (enc := enc) (C := Try.checked) false ⟨#[], #[.slice none 0 0, .slice none 0 0], []⟩ 8 (by kernel_rfl) (by kernel_rfl) (by kernel_rfl) (by kernel_rfl)) ?_
  intro W base args ds gs before hval hW _ hz _
  exact contract H enc W base args ds gs before hval hW hz

theorem proved : Rows.RegexMatchesSaid :=
  OpenClaim.holds_of_wide 12 Try.f12 rfl rfl rfl rfl rfl rfl rfl ⟨rfl, rfl, rfl, rfl, rfl⟩ rfl rfl rfl rfl rfl (by kernel_rfl) Try.func12 (by kernel_rfl)
    (of_decide_eq_true (by kernel_rfl)) (by unfold Func.isWrapper; first | (rw [if_pos (by decide +kernel)]; kernel_rfl) | (rw [if_neg (by decide +kernel)]; exact ⟨rfl, rfl⟩))
    (fun os started H enc _ => lifted os started H enc)
#print axioms proved
end Go.Proofs.Ytbpipnjdfmpbdaa.regexMatches
