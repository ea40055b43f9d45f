/- PROVED: BnfRows returns true whatever its arguments; each argument reads behind the call as it read before. No condition beyond the form's own reach. -/
import Derived.Test.YtkmjmfcanlknjaaGreatPk6
import Derived.Test.YtkmjmfcanlknjaaGreatRows
import Derived.SizedLaws
import Derived.ProofKit
import Derived.OpenShut
import Derived.ShutString
import Derived.JoinedCond
namespace Go.Proofs.YtkmjmfcanlknjaaGreat
open Go.RowKit Go.Shelf

theorem flatP_app (P Q : List (Ru × Value)) : flatP (P ++ Q) = flatP P ++ flatP Q := by simp [flatP]
theorem flatP_one {w : World} {B : Nat} {v : Value} {P : List (Ru × Value)} (h : OwnP w B v P) : ∀ u ∈ flatP P, u.oneCell' = true := by
  intro u hu
  obtain ⟨p, hp, hu⟩ := List.mem_flatMap.1 hu
  obtain ⟨_, ao, cap, e, -⟩ := Rd.of_owns (h.bods p hp)
  rcases List.mem_cons.1 hu with rfl | hu
  · rfl
  · rw [List.mem_singleton.1 hu, e]; rfl
theorem lim_app {A B : List Ru} (hA : LimG A) (hB : LimG B) (h1 : A.length + B.length ≤ 4398046511104) (h2 : nodesG A + nodesG B ≤ 4398046511104) : LimG (A ++ B) := by
  have e : nodesG (A ++ B) = nodesG A + nodesG B := by simp [nodesG]
  refine ⟨by rw [List.length_append]; exact h1, by rw [e]; exact h2, fun r hr => ?_, fun r hr => ?_⟩
  · exact (List.mem_append.1 hr).elim (hA.head r) (hB.head r)
  · exact (List.mem_append.1 hr).elim (hA.name r) (hB.name r)
/-! ### the law BnfRows -/
set_option maxRecDepth 100000 in
set_option maxHeartbeats 12800000 in
theorem bnfRows_any (s t : ByteArray) (hs : s.size ≤ 140737488351232) (ht : t.size ≤ 140737488351232) (w : World) :
    Calls Tryz.prog 6 #[.string s, .string t] w fun e w' => e = .returned (.bool true) ∧ Below w.heap.size w w' := by
  have H1 := Lib.hid (xParseG_any s w)
  have H2 := Lib.hid (fun w => xParseG_any t w)
  have H12 := Lib.hid (fun w => xParseG_any (s ++ t) w)
  have HOs := Lib.hid (parseG_ok (s := s))
  have HOt := Lib.hid (parseG_ok (s := t))
  have HRw := Lib.hid (fun A B h1 h2 h3 => grammar_rows s t A B h1 h2 h3)
  generalize hps : parseG s = R at *
  obtain ⟨A, atA, eA⟩ := R
  generalize hpt : parseG t = Q at *
  obtain ⟨B, atB, eB⟩ := Q
  have HAt : Hid (eA = 0 → atA = 0) := fun e => by
    subst e
    unfold parseG at hps
    split at hps
    · simp only [Prod.mk.injEq] at hps; omega
    · split at hps
      · simp only [Prod.mk.injEq] at hps; omega
      · split at hps
        · simp only [Prod.mk.injEq] at hps; omega
        · split at hps
          · simp only [Prod.mk.injEq] at hps; omega
          · split at hps
            · simp only [Prod.mk.injEq] at hps; omega
            · simp only [Prod.mk.injEq] at hps; omega
  have HBt : Hid (eB = 0 → atB = 0) := fun e => by
    subst e
    unfold parseG at hpt
    split at hpt
    · simp only [Prod.mk.injEq] at hpt; omega
    · split at hpt
      · simp only [Prod.mk.injEq] at hpt; omega
      · split at hpt
        · simp only [Prod.mk.injEq] at hpt; omega
        · split at hpt
          · simp only [Prod.mk.injEq] at hpt; omega
          · split at hpt
            · simp only [Prod.mk.injEq] at hpt; omega
            · simp only [Prod.mk.injEq] at hpt; omega
  clear hps hpt
  simp only at HOs HOt
  by_cases hgo : eA = 0 ∧ eB = 0 ∧ s.size + t.size ≤ 2048
  · obtain ⟨rfl, rfl, hz⟩ := hgo
    obtain ⟨hcA, hlA, hnA, hgA⟩ := HOs.out rfl
    obtain ⟨hcB, hlB, hnB, hgB⟩ := HOt.out rfl
    obtain rfl := HAt.out rfl
    obtain rfl := HBt.out rfl
    have hB1 := (check_zero hcB).1
    have hr := HRw.out A B rfl rfl hz
    rw [hr] at H12
    have hlAB := lim_app hlA hlB (by omega) (by omega)
    have enn : nodesG (A ++ B) = nodesG A + nodesG B := by simp [nodesG]
    have HCa := Lib.hid (fun v w h => rCopyG_any v A w h hlA (by omega))
    have HCb := Lib.hid (fun v w h => rCopyG_any v B w h hlB (by omega))
    have HCk := Lib.hid (fun v w h => xCheckG_any v (A ++ B) w h hlAB (by omega))
    have HS := Lib.hid (fun (va vb : Value) (w : World) (h1 : RdRu w va (A ++ B)) (h2 : RdRu w vb (A ++ B)) => rSameG_any va vb (A ++ B) (A ++ B) w h1 h2 (by rw [List.length_append]; omega) (by rw [List.length_append]; omega) (by omega) (by omega))
    rw [decide_eq_true (rfl : A ++ B = A ++ B)] at HS
    generalize hG2 : A ++ B = G2 at *
    have HG2 := Lib.hid hG2
    have hg1 : ¬ (2048 : Int) < s.size + t.size := by omega
    have hg2 : ¬ 9223372036854775807 < s.size + t.size := by omega
    clear hcA hcB hlA hlB hr hlAB enn hG2 HRw HOs HOt HAt HBt
    go_enter Tryz.func6, Tryz.ntmps6
    go_wp2_with fail
    refine (H1.out).mono ?_
    rintro e w1 ⟨v1, P1, rfl, hP1, ho1, hb1⟩
    have HB1 := Lib.hid hb1
    have HA1 : Hid (RdRu w1 v1 A) := ⟨P1, hP1, ho1.rd⟩
    obtain ⟨a1, c1, rfl⟩ := ownP_shape ho1 hP1
    clear hb1 ho1 hP1
    go_wp2_with fail
    refine (H2.out _).mono ?_
    rintro e w2 ⟨v2, P2, rfl, hP2, ho2, hb2⟩
    have HB2 := Lib.hid (HB1.out.trans (hb2.mono HB1.out.size))
    have HA2 := Lib.hid (HA1.out.below hb2)
    have HC2 : Hid (RdRu w2 v2 B) := ⟨P2, hP2, ho2.rd⟩
    obtain ⟨a2, c2, rfl⟩ := ownP_shape ho2 hP2
    clear hb2 ho2 hP2 HA1
    go_wp2_with fail
    refine (headG_any _).mono ?_
    rintro e w3 ⟨rfl, hb3⟩
    have HB3 := Lib.hid (HB2.out.trans (hb3.mono HB2.out.size))
    have HA3 := Lib.hid (HA2.out.below hb3)
    have HC3 := Lib.hid (HC2.out.below hb3)
    clear hb3 HA2 HC2
    go_wp2_with fail
    refine (HCa.out _ _ HA3.out).mono ?_
    rintro e w4 ⟨v4, P4, rfl, hP4, ho4, hb4⟩
    have HB4 := Lib.hid (HB3.out.trans (hb4.mono HB3.out.size))
    have HC4 := Lib.hid (HC3.out.below hb4)
    have HO4 : Hid (OwnP w4 w3.heap.size v4 P4) := ho4
    have HP4 := Lib.hid hP4
    have hw34 := hb4.size
    obtain ⟨a4, c4, rfl⟩ := ownP_shape ho4 hP4
    have hl4 : P4.length = A.length := by rw [← HP4.out, List.length_map]
    clear hb4 ho4 hP4 HA3 HC3
    go_wp2_with fail
    refine (HCb.out _ _ HC4.out).mono ?_
    rintro e w5 ⟨v5, P5, rfl, hP5, ho5, hb5⟩
    have HB5 := Lib.hid (HB4.out.trans (hb5.mono HB4.out.size))
    have HO45 := Lib.hid (HO4.out.below hb5)
    have HO5 := Lib.hid ho5
    have HP5 := Lib.hid hP5
    have hl5 : P5.length = B.length := by rw [← HP5.out, List.length_map]
    obtain ⟨g5, c5, e5, hg5a, hg5b, hg5c, hcs5⟩ := own_src ho5.row (by omega)
    have HS5 := Lib.hid hcs5
    have hw45 := hb5.size
    subst e5
    have hrow := HO45.out.row
    have hfl5 := flatP_len P5
    clear hb5 ho5 hP5 HC4 hcs5
    go_wp2_with (at_builtin; go_must (refine wpList_appG elemRu rfl _ _ rfl hrow rfl rfl (by omega) HS5.out (flatP_one HO5.out) (by unfold maxLen; omega) (by omega) (by omega) ?_); intro v6 w6 hown6 hg6)
    have hob : ∀ g, (Value.slice a4 A.length c4).ownBlock = some g → w3.heap.size ≤ g := fun g hg => own_block hrow g hg
    have HO6 : Hid (OwnP w6 w3.heap.size v6 (P4 ++ P5)) := by
      refine ⟨by rw [flatP_app, List.length_append, hl5]; exact hown6, fun p hp => ?_⟩
      rcases List.mem_append.1 hp with hp | hp
      · have h := HO45.out.bods p hp
        exact own_grown h hg6 (fun j hj => .inr (own_apart h hrow (by decide) j hj))
      · have h := HO5.out.bods p hp
        exact own_lower (own_grown h hg6 (fun j hj => .inr (own_apart h hrow (by decide) j hj))) (by omega)
    have HB6 : Hid (Below w.heap.size w w6) := HB5.out.grown hg6 HB5.out.size (fun j hj => Nat.le_trans HB3.out.size (hob j hj))
    have HR6 : Hid (RdRu w6 v6 G2) := ⟨P4 ++ P5, by rw [List.map_append, HP4.out, HP5.out]; exact HG2.out, HO6.out.rd⟩
    obtain ⟨a6, c6, rfl⟩ := rdRu_shapeK HR6.out
    clear hown6 hg6 hrow HO6
    go_wp2_with fail
    refine (H12.out _).mono ?_
    by_cases hz0 : checkG G2 = 0
    · rw [if_pos hz0]
      rw [hz0] at HCk
      clear hz0
      rintro e w7 ⟨v7, P7, rfl, hP7, ho7, hb7⟩
      have HB7 := Lib.hid (HB6.out.trans (hb7.mono HB6.out.size))
      have HR7 := Lib.hid (HR6.out.below hb7)
      have HQ7 : Hid (RdRu w7 v7 G2) := ⟨P7, hP7, ho7.rd⟩
      obtain ⟨a7, c7, rfl⟩ := ownP_shape ho7 hP7
      clear hb7 ho7 hP7 HR6
      go_wp2_with fail
      refine (HCk.out _ _ HR7.out).mono ?_
      rintro e w8 ⟨rfl, hb8⟩
      have HB8 := Lib.hid (HB7.out.trans (hb8.mono HB7.out.size))
      have HR8 := Lib.hid (HR7.out.below hb8)
      have HQ8 := Lib.hid (HQ7.out.below hb8)
      clear hb8 HR7 HQ7
      go_wp2_with fail
      refine (HS.out _ _ _ HQ8.out HR8.out).mono ?_
      rintro e w9 ⟨rfl, nq, rfl⟩
      go_wp2_with fail
      go_ret
      exact ⟨rfl, below_drewN HB8.out _⟩
    · rw [if_neg hz0]
      have hzb : (checkG G2 != 0) = true := by simpa using hz0
      have hzc : (checkG G2 != checkG G2) = false := by simp
      clear hz0
      generalize checkG G2 = cc at *
      rintro e w7 ⟨v7, P7, rfl, hP7, ho7, hb7⟩
      have HB7 := Lib.hid (HB6.out.trans (hb7.mono HB6.out.size))
      have HR7 := Lib.hid (HR6.out.below hb7)
      obtain ⟨a7, c7, rfl⟩ := ownP_shape ho7 hP7
      clear hb7 ho7 hP7 HR6
      go_wp2_with fail
      refine (HCk.out _ _ HR7.out).mono ?_
      rintro e w8 ⟨rfl, hb8⟩
      have HB8 := Lib.hid (HB7.out.trans (hb8.mono HB7.out.size))
      clear hb8 HR7
      go_wp2_with fail
      go_ret
      exact ⟨rfl, HB8.out⟩
  · have hgg : (eA != 0) = true ∨ ((eA != 0) = false ∧ (eB != 0) = true) ∨ ((eA != 0) = false ∧ (eB != 0) = false ∧ (2048 : Int) < s.size + t.size) := by
      by_cases h1 : eA = 0
      · by_cases h2 : eB = 0
        · refine .inr (.inr ⟨by simpa using h1, by simpa using h2, ?_⟩)
          have : ¬ (s.size + t.size ≤ 2048) := fun h => hgo ⟨h1, h2, h⟩
          omega
        · exact .inr (.inl ⟨by simpa using h1, by simpa using h2⟩)
      · exact .inl (by simpa using h1)
    clear hgo HOs HOt HRw HAt HBt H12
    rcases hgg with h1 | ⟨h1, h2⟩ | ⟨h1, h2, h3⟩
    all_goals
      go_enter Tryz.func6, Tryz.ntmps6
      go_wp2_with fail
      refine (H1.out).mono ?_
      rintro e w1 ⟨v1, P1, rfl, hP1, ho1, hb1⟩
      have HB1 := Lib.hid hb1
      obtain ⟨a1, c1, rfl⟩ := ownP_shape ho1 hP1
      clear hb1 ho1 hP1
      go_wp2_with fail
      refine (H2.out _).mono ?_
      rintro e w2 ⟨v2, P2, rfl, hP2, ho2, hb2⟩
      have HB2 := Lib.hid (HB1.out.trans (hb2.mono HB1.out.size))
      obtain ⟨a2, c2, rfl⟩ := ownP_shape ho2 hP2
      clear hb2 ho2 hP2
      go_wp2_with fail
      refine (headG_any _).mono ?_
      rintro e w3 ⟨rfl, hb3⟩
      have HB3 := Lib.hid (HB2.out.trans (hb3.mono HB2.out.size))
      clear hb3
      go_wp2_with fail
      go_ret
      exact ⟨rfl, HB3.out⟩
end Go.Proofs.YtkmjmfcanlknjaaGreat
namespace Go.Proofs.YtkmjmfcanlknjaaGreat.bnfRows
open Go.ChangeShapes Go.WideShapes Go.ChangeAt Go.RowKit
open Go.ChangeMaps (open_string shut_string)

theorem own : ownKnob Tryz.prog.godebug = none := by kernel_rfl

set_option maxRecDepth 100000 in
theorem contract (H : Type) (enc : TypeId × Value → H) (W : World) (base : Nat) (args : Array Value) (ds gs : List (DataW H)) (before : List MemPlace)
    (hval : ∀ (j : Nat) t v, Tryz.f6.params[j]? = some t → args[j]? = some v → Value.okWide Tryz.prog W .any base t v)
    (hW : DataW.Whole enc Tryz.prog Tryz.f6.params.toList Rows.bnfRowsSpec.vars false W args.toList ds gs before) (hsz : (DataW.weightsEach Tryz.prog (Tryz.f6.params.toList ++ Rows.bnfRowsSpec.plain.varTypes Tryz.prog) (ds ++ gs)).all (· ≤ reachBytes) = true) :
    Calls Tryz.prog 6 args W fun e W' => ∃ v, e = .returned v ∧ Rows.bnfRowsSpec.post enc Tryz.prog Tryz.f6 false true false false W args v W' := by
  have hW' := hW
  obtain ⟨p, q, hA0, hV, rfl, hfz, hnd⟩ := hW
  have hA : DataW.TrodAll enc Tryz.prog W 0 (fun _ => true) true Tryz.f6.params.toList args.toList ds p := hA0
  rw [Tryz.params6] at hA hval hsz
  obtain ⟨v0, vs0, d0, ds0, p0, q0, hargs, rfl, rfl, h0, r0⟩ := trodAll_cons hA
  obtain ⟨v1, vs1, d1, ds1, p1, q1, rfl, rfl, rfl, h1, r1⟩ := trodAll_cons r0
  obtain ⟨rfl, rfl, rfl⟩ := trodAll_nil r1
  obtain rfl : args = #[v0, v1] := by cases args; simp_all
  obtain ⟨rfl, rfl⟩ := trodVars_none hV
  obtain ⟨a0, rfl, rfl, rfl, w0⟩ := open_string Tryz.underlying9 (hval 0 9 v0 rfl rfl) h0
  obtain ⟨a1, rfl, rfl, rfl, w1⟩ := open_string Tryz.underlying9 (hval 1 9 v1 rfl rfl) h1
  clear hA0
  have z0 : a0.data.toList.length ≤ reachBytes := sized_string hsz (j := 0) rfl rfl
  have e0 : a0.data.toList.length = a0.size := by rw [Array.length_toList]; rfl
  have y0 : a0.size ≤ 140737488351232 := by rw [e0] at z0; exact z0
  have z1 : a1.data.toList.length ≤ reachBytes := sized_string hsz (j := 1) rfl rfl
  have e1 : a1.data.toList.length = a1.size := by rw [Array.length_toList]; rfl
  have y1 : a1.size ≤ 140737488351232 := by rw [e1] at z1; exact z1
  simp only [List.append_nil] at hW'
  refine (bnfRows_any a0 a1 y0 y1 W).mono fun e W' ⟨he, bel⟩ => ?_
  subst he
  exact ⟨_, rfl, _, _, _, [], _, [], hW', trodAll_mk1 (shut_bool Tryz.underlying4 _), (trodAll_cons_mk (shut_string Tryz.underlying9 w0) (trodAll_cons_mk (shut_string Tryz.underlying9 w1) trodAll_mk0)), rfl, bel.frame _, fun h => by cases h⟩

set_option maxRecDepth 100000 in
theorem lifted (os : Os) (started : os.Started) (H : Type) (enc : TypeId × Value → H) :
    ReturnsInHanded {} Tryz.checked os 6 .any (Rows.bnfRowsSpec.pre6 enc Tryz.prog Tryz.f6 Rows.bnfRowsRow.domain false) (Rows.bnfRowsSpec.post enc Tryz.prog Tryz.f6 false true false false) := by
  refine returnsInHanded_of_change_sized (C := Tryz.checked) own started (by kernel_rfl) Tryz.func6
    (ChangeSpec.witness6 (enc := enc) (C := Tryz.checked) false ⟨#[], #[.string .empty, .string .empty], []⟩ 8 (by kernel_rfl) (by kernel_rfl) (by kernel_rfl) (by kernel_rfl)) ?_
  intro W base args ds gs before hval hW _ hz _
  exact contract H enc W base args ds gs before hval hW hz

theorem proved : Rows.BnfRowsSaid :=
  OpenClaim.holds_of_wide 6 Tryz.f6 rfl rfl rfl rfl rfl rfl rfl ⟨rfl, rfl, rfl, rfl, rfl⟩ rfl rfl rfl rfl rfl (by kernel_rfl) Tryz.func6 (by kernel_rfl)
    (of_decide_eq_true (by kernel_rfl)) (by unfold Func.isWrapper; first | (rw [if_pos (by decide +kernel)]; kernel_rfl) | (rw [if_neg (by decide +kernel)]; exact ⟨rfl, rfl⟩))
    (fun os started H enc _ => lifted os started H enc)
#print axioms proved
end Go.Proofs.YtkmjmfcanlknjaaGreat.bnfRows
