import Derived.Test.YtbpipnjdfmpbdaaRrG
import Derived.Test.YtbpipnjdfmpbdaaRxD
namespace Go.Proofs.Ytbpipnjdfmpbdaa
open Go.RowKit Go.Shelf

theorem sPart_step {E : Nat → PR} {L : List Mk} (hB : ∀ q, q ≤ L.length → PB L q (E q)) : ∀ p r, p ≤ L.length → sPart E L p = some r → p < L.length ∧ (r.ok = true → p < r.p ∧ r.p ≤ L.length) := by
  intro p r hp hs
  obtain ⟨hb, rfl⟩ := sPart_some hs
  have G := pUnit_b (E := E) hp (fun h => hB _ h)
  exact ⟨begins_lt hb, fun h => ⟨G.lt h, G.le⟩⟩
theorem sExpr_step {E : Nat → PR} {L : List Mk} (hB : ∀ q, q ≤ L.length → PB L q (E q)) : ∀ p r, p ≤ L.length → sExpr E L p = some r → p < L.length ∧ (r.ok = true → p < r.p ∧ r.p ≤ L.length) := by
  intro p r hp hs
  obtain ⟨hb, rfl⟩ := sExpr_some hs
  have hlt := kd_lt (L := L) (p := p) (by omega)
  have G := pPart_b (E := E) (p := p + 1) hlt (fun q _ h => hB q h)
  exact ⟨hlt, fun h => ⟨by have := G.lt h; omega, G.le⟩⟩
/-- where the loop over units stands -/
def PSt (E : Nat → PR) (L : List Mk) (q : Nat) (f : Fo) (i : Nat) (g : Fo) (n : Nat) : Prop :=
  (i = q ∧ 1 ≤ n ∧ f = wrapF 4 n g) ∨ (i < q ∧ MS (sPart E L) 4 L q f i g n (pUnit E L i))
theorem part_start {E : Nat → PR} {L : List Mk} {p q : Nat} {f : Fo} (hp : p ≤ L.length) (hB : ∀ q, q ≤ L.length → PB L q (E q)) (h : pPart E L p = ⟨true, f, q⟩) : PSt E L q f p .nil 0 := by
  right
  unfold pPart at h
  have G := pUnit_b (E := E) hp (fun h => hB _ h)
  generalize pUnit E L p = r at *
  obtain ⟨ok, f0, q0⟩ := r
  cases ok with
  | false => simp at h
  | true =>
    simp only [if_true] at h
    have h1 := G.lt rfl
    have h2 := G.le
    simp only at h1 h2
    have h3 := pMany_ge (k := 4) (fun p r hp hs hok => ⟨Nat.le_of_lt ((sPart_step hB p r hp hs).2 hok).1, ((sPart_step hB p r hp hs).2 hok).2⟩) (L.length - q0) q0 f0 1 h2 (by rw [h])
    rw [h] at h3
    simp only at h3
    exact ⟨by omega, rfl, by simp only; omega, h3.1, L.length - q0, Nat.le_refl _, h⟩
theorem part_next {E : Nat → PR} {L : List Mk} {q i n : Nat} {f g fu : Fo} {qu : Nat} (hq : q ≤ L.length) (hB : ∀ q, q ≤ L.length → PB L q (E q)) (h : MS (sPart E L) 4 L q f i g n ⟨true, fu, qu⟩) : PSt E L q f qu (g.app fu) (n + 1) ∧ (qu = q ∨ (qu < q ∧ beginsI (kd L qu) = true)) := by
  rcases h.next hq (sPart_step hB) with ⟨_, h2, h3⟩ | ⟨r2, h1, h2, h3⟩
  · exact ⟨.inl ⟨h2, by omega, h3⟩, .inl h2⟩
  · obtain ⟨hb, rfl⟩ := sPart_some h1
    exact ⟨.inr ⟨h2, h3⟩, .inr ⟨h2, hb⟩⟩
theorem wrap_one (k : Int) (g : Fo) : wrapF k 1 g = g := rfl
theorem wrap_flat {k : Int} {n : Nat} {g : Fo} (h : n ≠ 1) : (wrapF k n g).flat = [⟨k, ⟨#[]⟩, n⟩] ++ g.flat := by unfold wrapF; rw [if_neg h]; simp [Fo.flat]

set_option maxRecDepth 100000 in
set_option maxHeartbeats 16000000 in
theorem rPart_any (E : Nat → PR) (v : Value) (L : List Mk) (p q : Nat) (f : Fo) (w : World) (h : TkS w v L p q) (hP : pPart E L p = ⟨true, f, q⟩) (hB : ∀ q, q ≤ L.length → PB L q (E q)) (hE : ∀ q, NS L q (E q)) (hK : ∀ m ∈ L, 1 ≤ m.k ∧ m.k ≤ 12) (hl : L.length < 4194304)
    (HT : ∀ i fi qi, E i = ⟨true, fi, qi⟩ → ∀ v w, TkS w v L i qi → Calls Try.prog 50 #[v] w (ERet w fi.flat)) :
    Calls Try.prog 80 #[v] w (ERet w f.flat) := by
  have HS := Lib.hid h
  obtain ⟨b, off, cap, rfl, hcap, hb, hcs⟩ := h.ex
  have hlt := h.lt
  have hle := h.le
  have HP0 := Lib.hid (part_start (by omega) hB hP)
  have HCS := Lib.hid hcs
  have HTr := Lib.hid HT
  have HB := Lib.hid hB
  have HE := Lib.hid hE
  have HK := Lib.hid hK
  obtain ⟨n, hn⟩ : ∃ n, n = q - p := ⟨_, rfl⟩
  rw [← hn] at HS hcap ⊢
  have hpn : p + n = q := by omega
  have hnl : n ≤ 4194304 := by omega
  clear hcs HT h hP hB hE hK hn
  go_enter Try.func80, Try.ntmps80
  go_wp2
  go_loopw [3, 4, 5] (fun kv cv i wr => ∃ (x c : Nat) (g : Fo), i = .int .i64 x ∧ cv = .int .i64 c ∧ x ≤ n ∧ c ≤ x ∧ OwnNd wr w.heap.size kv g.flat ∧ Hid (g.flat.length ≤ 2 * x) ∧ Hid (1 ≤ c → 0 < g.flat.length) ∧ Hid (Below w.heap.size w wr) ∧ Hid (PSt E L q f (p + x) g c)) (fun _ _ i _ => n - (intOf i).toNat)
  case atStart => exact ⟨0, 0, .nil, rfl, rfl, by omega, by omega, World.ownsRow_nil _ _ _ _, by simp [Hid, Fo.flat], fun h => by omega, Below.refl _ _, HP0.out⟩
  case round =>
    obtain ⟨x, c, g, rfl, rfl, hx, hcx, hown, HLn, HGp, HBel, HP⟩ := hrel
    have hgl : g.flat.length ≤ 2 * x := HLn.out
    have hws := HBel.out.size
    by_cases hxn : x < n
    · have HM : Hid (MS (sPart E L) 4 L q f (p + x) g c (pUnit E L (p + x))) := by
        rcases HP.out with ⟨h, _⟩ | ⟨_, h⟩
        · omega
        · exact h
      have hUb := pUnit_b (E := E) (p := p + x) (by omega) (fun h => HB.out _ h)
      obtain ⟨fu, qu, hU⟩ : ∃ fu qu, pUnit E L (p + x) = ⟨true, fu, qu⟩ := by
        have := HM.out.ok
        generalize pUnit E L (p + x) = r at *
        obtain ⟨o, fu, qu⟩ := r
        simp only at this; subst this; exact ⟨fu, qu, rfl⟩
      rw [hU] at HM hUb
      obtain ⟨fa, pa, U⟩ := unit_uf (by omega) HB.out hU
      have hu1 := U.lt
      have hu2 := U.le
      have hu3 := HM.out.le
      have hus := hUb.size rfl
      have hul := hUb.one rfl
      simp only at hu3 hus
      have hfl := Fo.flat_len fu
      have hfp := flat_pos hul
      obtain ⟨y, hy⟩ : ∃ y, y = qu - p := ⟨_, rfl⟩
      obtain ⟨e, he⟩ : ∃ e, e = pa - p := ⟨_, rfl⟩
      have hpe : p + e = pa := by omega
      have hpy : p + y = qu := by omega
      have hxe : x < e := by omega
      have hey : e ≤ y := by omega
      have hyn : y ≤ n := by omega
      have hfl2 : fu.flat.length + 1 ≤ 2 * (y - x) := by omega
      have hnext := part_next hle HB.out HM.out
      have HNx := Lib.hid hnext.1
      have HBg := Lib.hid hnext.2
      have HU := Lib.hid U
      obtain ⟨m, hm⟩ : ∃ m, L[p + x]? = some m := ⟨_, List.getElem?_eq_getElem (by omega)⟩
      obtain ⟨x0, -⟩ := HCS.out x m (by omega) hm
      have X0 := (HBel.out.cell (p := ⟨b, _, none⟩) hb).trans x0
      have hkd : kd L (p + x) = m.k := kd_some hm
      have hmk := HK.out m (List.mem_of_getElem? hm)
      have HUn : Hid (∀ wx, Below w.heap.size w wx → Calls Try.prog 103 #[.slice (some ⟨b, off + x * 3, none⟩) (y - x) (cap - x), .int .i64 ((e : Int) - x)] wx (ERet wx fu.flat)) := by
        intro wx hbx
        have hs := (HS.out.below hbx).sub x y (by omega) (by omega)
        rw [hpy] at hs
        have := rUnit_any E _ L (p + x) qu pa fu fa wx hs HU.out (by omega) (by
          have := HU.out.flat
          have h1 := congrArg List.length this
          rw [List.length_append] at h1
          omega) (by
          by_cases h10 : kd L (p + x) = 10
          · obtain ⟨v1, -⟩ := HU.out.brk h10
            have := HB.out (p + x + 1) (by omega)
            rw [v1] at this
            exact flat_pos (this.one rfl)
          · rcases begins_cases HU.out.beg with h | h | h | h
            · rw [HU.out.lf1 h]; simp
            · rw [HU.out.lf2 h]; simp
            · rw [HU.out.lf3 h]; simp
            · exact absurd h h10) (fun h10 v w hv => HTr.out _ _ _ (HU.out.brk h10).1 v w hv)
        rw [show (((pa - (p + x) : Nat) : Int)) = (e : Int) - x from by omega] at this
        exact this
      have HSk : Hid (∀ z mz, e ≤ z → z < y → L[p + z]? = some mz → beginsI mz.k = false) := by
        intro z mz h1 h2 h3
        have := HU.out.suf (p + z) (by omega) (by omega)
        rw [kd_some h3] at this
        exact (suf_k this).2.2.2
      have HBe : Hid (y = n ∨ (y < n ∧ ∀ mz, L[p + y]? = some mz → beginsI mz.k = true)) := by
        rcases HBg.out with h | ⟨h, h2⟩
        · exact .inl (by omega)
        · exact .inr ⟨by omega, fun mz h3 => by rw [hpy] at h3; rw [← kd_some h3]; exact h2⟩
      have hcase : Hid ((m.k = 10 ∧ 1 ≤ e ∧ Cl L (p + x + 1) 1 (p + (e - 1)) ∧ p + (e - 1) < q) ∨ (m.k ≠ 10 ∧ e = x + 1)) := by
        by_cases h10 : m.k = 10
        · have hc := HU.out.cl (HE.out _) (by rw [hkd]; exact h10)
          exact .inl ⟨h10, by omega, by rw [show p + (e - 1) = pa - 1 from by omega]; exact hc, by omega⟩
        · have := HU.out.leaf (by rw [hkd]; exact h10)
          exact .inr ⟨h10, by omega⟩
      have HKd := Lib.hid hkd
      clear x0 hm hnext U hU hUb hus hul hfl hkd HM HP hu1 hu2 hu3 hy he
      rcases hcase.out with ⟨h10, he1, hcl, hce⟩ | ⟨h10, he1⟩
      · have HCl : Hid (∀ wx, Below w.heap.size w wx → Calls Try.prog 79 #[.slice (some ⟨b, off, none⟩) n cap, .int .i64 x] wx fun e' w' => e' = .returned (.int .i64 ((e - 1 : Nat) : Int)) ∧ wx = w') :=
          fun wx hbx => rClose_any _ L p q x (e - 1) wx (HS.out.below hbx) HK.out (by omega) (by rw [HKd.out]; exact h10) hcl hce
        have HEe : Hid (((e - 1 : Nat) : Int) + 1 = e) := by unfold Hid; omega
        rw [h10, show tkB 10 = 40 from rfl] at X0
        clear hcase h10 hcl hce
        go_wp2_with (go_at_call 79; refine (HCl.out _ HBel.out).mono ?_; rintro e' w' ⟨rfl, rfl⟩)
        rw [HEe.out]
        go_loop [7] (fun l => ∃ z : Nat, l = .int .i64 z ∧ e ≤ z ∧ z ≤ y) (fun l => n - (intOf l).toNat)
        case atStart => exact ⟨e, rfl, Nat.le_refl _, hey⟩
        case round =>
          obtain ⟨z, rfl, hz1, hz2⟩ := hrel
          by_cases hzy : z < y
          · obtain ⟨mz, hmz⟩ : ∃ m, L[p + z]? = some m := ⟨_, List.getElem?_eq_getElem (by omega)⟩
            obtain ⟨z0, -⟩ := HCS.out z mz (by omega) hmz
            have Z0 := (HBel.out.cell (p := ⟨b, _, none⟩) hb).trans z0
            have hzk := HK.out mz (List.mem_of_getElem? hmz)
            have HZ : Hid (∀ w, Calls Try.prog 102 #[.int .u8 (tkB mz.k)] w fun e w' => e = .returned (.bool false) ∧ w = w') := by
              intro w; rw [← HSk.out z mz hz1 hzy hmz]; exact rBegins_any _ _ hzk.1 hzk.2
            have hzn : z < n := by omega
            clear z0 hmz hzk X0
            generalize tkB mz.k = kz at *
            go_wp2_with (go_at_call 102; refine (HZ.out _).mono ?_; rintro e' w' ⟨rfl, rfl⟩)
            go_round
            case rel => exact ⟨z + 1, by go_num, by omega, by omega⟩
            case measure => simp [intOf]; omega
          · obtain rfl : z = y := by omega
            have HUb := Lib.hid (HUn.out wr HBel.out)
            have hxz : x < z := by omega
            rcases HBe.out with hzn | ⟨hzn, hbz⟩
            · subst hzn
              clear X0
              go_wp2_with fail
              refine (HUb.out).mono ?_
              rintro e' w3 ⟨v3, rfl, ho3, hb3⟩
              obtain ⟨gb, gc, rfl, hgB, hgl2, hgc, hcs3⟩ := own_src ho3 hfp
              have HCS3 := Lib.hid hcs3
              have hown3 := own_below hown hb3
              have HB3 : Hid (Below w.heap.size w w3) := HBel.out.trans (hb3.mono hws)
              have hws3 : w.heap.size ≤ w3.heap.size := HB3.out.size
              clear hcs3 ho3 hb3
              go_wp2_with (at_builtin; go_must (refine wpList_appG elemNd rfl _ _ rfl hown3 rfl (news := flatNd fu.flat) rfl (flatNd_len _) HCS3.out (flatNd_one _) (by unfold maxLen; omega) (by omega) hws3 ?_); intro v' w4 hown4 hg4)
              have HO4 : Hid (OwnNd w4 w.heap.size v' (g.app fu).flat) := by
                rw [Fo.flat_app]
                show World.ownsRow _ _ _ _ _ _ _
                rw [flatNd_app, List.length_append]; exact hown4
              have HB4 : Hid (Below w.heap.size w w4) := HB3.out.grown hg4 hws3 (fun j hj => own_blk hown3 hj)
              clear hown4 hg4
              go_roundw
              case rel => exact ⟨z, c + 1, g.app fu, rfl, by go_num, by omega, by omega, HO4.out, by unfold Hid; rw [Fo.flat_app, List.length_append]; omega, fun _ => by rw [Fo.flat_app, List.length_append]; omega, HB4.out, by rw [hpy]; exact HNx.out⟩
              case measure => simp [intOf]; omega
            · obtain ⟨mz, hmz⟩ : ∃ m, L[p + z]? = some m := ⟨_, List.getElem?_eq_getElem (by omega)⟩
              obtain ⟨z0, -⟩ := HCS.out z mz (by omega) hmz
              have Z0 := (HBel.out.cell (p := ⟨b, _, none⟩) hb).trans z0
              have hzk := HK.out mz (List.mem_of_getElem? hmz)
              have HZ : Hid (∀ w, Calls Try.prog 102 #[.int .u8 (tkB mz.k)] w fun e w' => e = .returned (.bool true) ∧ w = w') := by
                intro w; rw [← hbz mz hmz]; exact rBegins_any _ _ hzk.1 hzk.2
              clear z0 hmz hzk X0 hbz
              generalize tkB mz.k = kz at *
              go_wp2_with (go_at_call 102; refine (HZ.out _).mono ?_; rintro e' w' ⟨rfl, rfl⟩)
              refine (HUb.out).mono ?_
              rintro e' w3 ⟨v3, rfl, ho3, hb3⟩
              obtain ⟨gb, gc, rfl, hgB, hgl2, hgc, hcs3⟩ := own_src ho3 hfp
              have HCS3 := Lib.hid hcs3
              have hown3 := own_below hown hb3
              have HB3 : Hid (Below w.heap.size w w3) := HBel.out.trans (hb3.mono hws)
              have hws3 : w.heap.size ≤ w3.heap.size := HB3.out.size
              clear hcs3 ho3 hb3
              go_wp2_with (at_builtin; go_must (refine wpList_appG elemNd rfl _ _ rfl hown3 rfl (news := flatNd fu.flat) rfl (flatNd_len _) HCS3.out (flatNd_one _) (by unfold maxLen; omega) (by omega) hws3 ?_); intro v' w4 hown4 hg4)
              have HO4 : Hid (OwnNd w4 w.heap.size v' (g.app fu).flat) := by
                rw [Fo.flat_app]
                show World.ownsRow _ _ _ _ _ _ _
                rw [flatNd_app, List.length_append]; exact hown4
              have HB4 : Hid (Below w.heap.size w w4) := HB3.out.grown hg4 hws3 (fun j hj => own_blk hown3 hj)
              clear hown4 hg4
              go_roundw
              case rel => exact ⟨z, c + 1, g.app fu, rfl, by go_num, by omega, by omega, HO4.out, by unfold Hid; rw [Fo.flat_app, List.length_append]; omega, fun _ => by rw [Fo.flat_app, List.length_append]; omega, HB4.out, by rw [hpy]; exact HNx.out⟩
              case measure => simp [intOf]; omega
      · have t1 := tk_ne m.k 40 10 hmk.1 hmk.2 rfl (by decide) (by decide) h10
        have HEe : Hid ((x : Int) + 1 = e) := by unfold Hid; omega
        clear hcase h10 he1
        generalize tkB m.k = km at *
        go_wp2_with fail
        rw [HEe.out]
        clear t1
        go_loop [7] (fun l => ∃ z : Nat, l = .int .i64 z ∧ e ≤ z ∧ z ≤ y) (fun l => n - (intOf l).toNat)
        case atStart => exact ⟨e, rfl, Nat.le_refl _, hey⟩
        case round =>
          obtain ⟨z, rfl, hz1, hz2⟩ := hrel
          by_cases hzy : z < y
          · obtain ⟨mz, hmz⟩ : ∃ m, L[p + z]? = some m := ⟨_, List.getElem?_eq_getElem (by omega)⟩
            obtain ⟨z0, -⟩ := HCS.out z mz (by omega) hmz
            have Z0 := (HBel.out.cell (p := ⟨b, _, none⟩) hb).trans z0
            have hzk := HK.out mz (List.mem_of_getElem? hmz)
            have HZ : Hid (∀ w, Calls Try.prog 102 #[.int .u8 (tkB mz.k)] w fun e w' => e = .returned (.bool false) ∧ w = w') := by
              intro w; rw [← HSk.out z mz hz1 hzy hmz]; exact rBegins_any _ _ hzk.1 hzk.2
            have hzn : z < n := by omega
            clear z0 hmz hzk X0
            generalize tkB mz.k = kz at *
            go_wp2_with (go_at_call 102; refine (HZ.out _).mono ?_; rintro e' w' ⟨rfl, rfl⟩)
            go_round
            case rel => exact ⟨z + 1, by go_num, by omega, by omega⟩
            case measure => simp [intOf]; omega
          · obtain rfl : z = y := by omega
            have HUb := Lib.hid (HUn.out wr HBel.out)
            have hxz : x < z := by omega
            rcases HBe.out with hzn | ⟨hzn, hbz⟩
            · subst hzn
              clear X0
              go_wp2_with fail
              refine (HUb.out).mono ?_
              rintro e' w3 ⟨v3, rfl, ho3, hb3⟩
              obtain ⟨gb, gc, rfl, hgB, hgl2, hgc, hcs3⟩ := own_src ho3 hfp
              have HCS3 := Lib.hid hcs3
              have hown3 := own_below hown hb3
              have HB3 : Hid (Below w.heap.size w w3) := HBel.out.trans (hb3.mono hws)
              have hws3 : w.heap.size ≤ w3.heap.size := HB3.out.size
              clear hcs3 ho3 hb3
              go_wp2_with (at_builtin; go_must (refine wpList_appG elemNd rfl _ _ rfl hown3 rfl (news := flatNd fu.flat) rfl (flatNd_len _) HCS3.out (flatNd_one _) (by unfold maxLen; omega) (by omega) hws3 ?_); intro v' w4 hown4 hg4)
              have HO4 : Hid (OwnNd w4 w.heap.size v' (g.app fu).flat) := by
                rw [Fo.flat_app]
                show World.ownsRow _ _ _ _ _ _ _
                rw [flatNd_app, List.length_append]; exact hown4
              have HB4 : Hid (Below w.heap.size w w4) := HB3.out.grown hg4 hws3 (fun j hj => own_blk hown3 hj)
              clear hown4 hg4
              go_roundw
              case rel => exact ⟨z, c + 1, g.app fu, rfl, by go_num, by omega, by omega, HO4.out, by unfold Hid; rw [Fo.flat_app, List.length_append]; omega, fun _ => by rw [Fo.flat_app, List.length_append]; omega, HB4.out, by rw [hpy]; exact HNx.out⟩
              case measure => simp [intOf]; omega
            · obtain ⟨mz, hmz⟩ : ∃ m, L[p + z]? = some m := ⟨_, List.getElem?_eq_getElem (by omega)⟩
              obtain ⟨z0, -⟩ := HCS.out z mz (by omega) hmz
              have Z0 := (HBel.out.cell (p := ⟨b, _, none⟩) hb).trans z0
              have hzk := HK.out mz (List.mem_of_getElem? hmz)
              have HZ : Hid (∀ w, Calls Try.prog 102 #[.int .u8 (tkB mz.k)] w fun e w' => e = .returned (.bool true) ∧ w = w') := by
                intro w; rw [← hbz mz hmz]; exact rBegins_any _ _ hzk.1 hzk.2
              clear z0 hmz hzk X0 hbz
              generalize tkB mz.k = kz at *
              go_wp2_with (go_at_call 102; refine (HZ.out _).mono ?_; rintro e' w' ⟨rfl, rfl⟩)
              refine (HUb.out).mono ?_
              rintro e' w3 ⟨v3, rfl, ho3, hb3⟩
              obtain ⟨gb, gc, rfl, hgB, hgl2, hgc, hcs3⟩ := own_src ho3 hfp
              have HCS3 := Lib.hid hcs3
              have hown3 := own_below hown hb3
              have HB3 : Hid (Below w.heap.size w w3) := HBel.out.trans (hb3.mono hws)
              have hws3 : w.heap.size ≤ w3.heap.size := HB3.out.size
              clear hcs3 ho3 hb3
              go_wp2_with (at_builtin; go_must (refine wpList_appG elemNd rfl _ _ rfl hown3 rfl (news := flatNd fu.flat) rfl (flatNd_len _) HCS3.out (flatNd_one _) (by unfold maxLen; omega) (by omega) hws3 ?_); intro v' w4 hown4 hg4)
              have HO4 : Hid (OwnNd w4 w.heap.size v' (g.app fu).flat) := by
                rw [Fo.flat_app]
                show World.ownsRow _ _ _ _ _ _ _
                rw [flatNd_app, List.length_append]; exact hown4
              have HB4 : Hid (Below w.heap.size w w4) := HB3.out.grown hg4 hws3 (fun j hj => own_blk hown3 hj)
              clear hown4 hg4
              go_roundw
              case rel => exact ⟨z, c + 1, g.app fu, rfl, by go_num, by omega, by omega, HO4.out, by unfold Hid; rw [Fo.flat_app, List.length_append]; omega, fun _ => by rw [Fo.flat_app, List.length_append]; omega, HB4.out, by rw [hpy]; exact HNx.out⟩
              case measure => simp [intOf]; omega
    · obtain rfl : x = n := by omega
      have HD : Hid (1 ≤ c ∧ f = wrapF 4 c g) := by
        rcases HP.out with ⟨_, h1, h2⟩ | ⟨h, _⟩
        · exact ⟨h1, h2⟩
        · omega
      by_cases hc1 : c = 1
      · subst hc1
        have HF : Hid (f = g) := HD.out.2
        obtain ⟨_, ao, cp, rfl, -⟩ := Rd.of_owns hown
        go_wp2_with fail
        go_ret
        rw [HF.out]
        exact ⟨_, rfl, hown, HBel.out⟩
      · have HF : Hid (f.flat = [⟨4, ⟨#[]⟩, c⟩] ++ g.flat) := by unfold Hid; rw [HD.out.2, wrap_flat hc1]
        have hcI : ((c : Int) == 1) = false := by simp; omega
        have hpos : 0 < g.flat.length := HGp.out HD.out.1
        obtain ⟨gb, gc, rfl, hgB, hgl2, hgc, hcs3⟩ := own_src hown hpos
        have HA1 := Lib.hid (OwnNd.one wr w.heap.size hws ⟨4, ⟨#[]⟩, c⟩)
        have HC2 := Lib.hid (cells_kept hcs3 (World.grownBy_alloc wr (.cells #[.int .i64 4, .string ⟨#[]⟩, .int .i64 c] 39) none) (by simp))
        clear hcs3
        go_wp2_with (at_builtin; go_must (refine wpList_appG elemNd rfl _ _ rfl HA1.out rfl (news := flatNd g.flat) rfl (flatNd_len _) HC2.out (flatNd_one _) (by unfold maxLen; simp only [List.length_cons, List.length_nil]; omega) (by simp only [List.length_cons, List.length_nil]; omega) (by simp; omega) ?_); intro v' w4 hown4 hg4)
        go_ret
        rw [HF.out]
        refine ⟨v', rfl, ?_, (HBel.out.alloc hws _).grown hg4 (by simp; omega) (fun j hj => by simp [Value.ownBlock] at hj; omega)⟩
        show World.ownsRow _ _ _ _ _ _ _
        rw [flatNd_app, List.length_append]; exact hown4
end Go.Proofs.Ytbpipnjdfmpbdaa
