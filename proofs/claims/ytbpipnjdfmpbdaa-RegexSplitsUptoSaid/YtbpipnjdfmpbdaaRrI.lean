import Derived.Test.YtbpipnjdfmpbdaaRrH
namespace Go.Proofs.Ytbpipnjdfmpbdaa
open Go.RowKit Go.Shelf

/-- where the loop over the tokens of an expression stands: within a part that begins at fr -/
structure TSt (E : Nat → PR) (L : List Mk) (q : Nat) (f : Fo) (fr i : Nat) (g : Fo) (n : Nat) (fp : Fo) (qp : Nat) : Prop where
  part : pPart E L fr = ⟨true, fp, qp⟩
  more : MS (sExpr E L) 5 L q f fr g n ⟨true, fp, qp⟩
  ge : fr ≤ i
  lt : fr < qp
  scn : Scn L i qp
  size : fp.size + 1 ≤ 2 * (qp - fr)
  one : fp.len = 1
theorem TSt.begin {E : Nat → PR} {L : List Mk} {q : Nat} {f : Fo} {fr : Nat} {g : Fo} {n : Nat} (hf : fr ≤ L.length) (hB : ∀ q, q ≤ L.length → PB L q (E q)) (hE : ∀ q, NS L q (E q)) (h : MS (sExpr E L) 5 L q f fr g n (pPart E L fr)) : ∃ fp qp, TSt E L q f fr fr g n fp qp := by
  have G := pPart_b (E := E) hf (fun q _ h => hB q h)
  have hok := h.ok
  generalize hr : pPart E L fr = r at *
  obtain ⟨ok, fp, qp⟩ := r
  simp only at hok
  subst hok
  exact ⟨fp, qp, hr, h, Nat.le_refl _, G.lt rfl, (part_ns hf hB hE hr).2, G.size rfl, G.one rfl⟩
theorem tree_start {E : Nat → PR} {L : List Mk} {p q : Nat} {f : Fo} (hp : p ≤ L.length) (hB : ∀ q, q ≤ L.length → PB L q (E q)) (hE : ∀ q, NS L q (E q)) (h : pExprS E L p = ⟨true, f, q⟩) : ∃ fp qp, TSt E L q f p p .nil 0 fp qp := by
  refine TSt.begin hp hB hE ?_
  unfold pExprS at h
  have G := pPart_b (E := E) hp (fun q _ h => hB q h)
  generalize pPart E L p = r at *
  obtain ⟨ok, f0, q0⟩ := r
  cases ok with
  | false => simp at h
  | true =>
    simp only [if_true] at h
    have h1 := G.lt rfl
    have h2 := G.le
    simp only at h1 h2
    have h3 := pMany_ge (k := 5) (fun p r hp hs hok => ⟨Nat.le_of_lt ((sExpr_step hB p r hp hs).2 hok).1, ((sExpr_step hB p r hp hs).2 hok).2⟩) (L.length - q0) q0 f0 1 h2 (by rw [h])
    rw [h] at h3
    simp only at h3
    exact ⟨rfl, by simp only; omega, h3.1, L.length - q0, Nat.le_refl _, h⟩
theorem TSt.next {E : Nat → PR} {L : List Mk} {q : Nat} {f : Fo} {fr i : Nat} {g : Fo} {n : Nat} {fp : Fo} {qp : Nat} (h : TSt E L q f fr i g n fp qp) (hq : q ≤ L.length) (hB : ∀ q, q ≤ L.length → PB L q (E q)) (hE : ∀ q, NS L q (E q)) :
    (qp = q ∧ f = wrapF 5 (n + 1) (g.app fp)) ∨ (qp < q ∧ kd L qp = 6 ∧ ∃ fp' qp', TSt E L q f (qp + 1) (qp + 1) (g.app fp) (n + 1) fp' qp') := by
  rcases h.more.next hq (sExpr_step hB) with ⟨_, h2, h3⟩ | ⟨r2, h1, h2, h3⟩
  · exact .inl ⟨h2, h3⟩
  · obtain ⟨hb, rfl⟩ := sExpr_some h1
    simp only at hb h2
    have hlt := kd_lt (L := L) (p := qp) (by omega)
    have G := pPart_b (E := E) (p := qp + 1) hlt (fun q _ h => hB q h)
    exact .inr ⟨h2, hb, TSt.begin hlt hB hE ⟨h3.ok, G.ge, h3.le, h3.more⟩⟩

set_option maxRecDepth 100000 in
set_option maxHeartbeats 16000000 in
theorem rTree_any (E : Nat → PR) (v : Value) (L : List Mk) (p q : Nat) (f : Fo) (w : World) (h : TkS w v L p q) (hP : pExprS E L p = ⟨true, f, q⟩) (hB : ∀ q, q ≤ L.length → PB L q (E q)) (hE : ∀ q, NS L q (E q)) (hK : ∀ m ∈ L, 1 ≤ m.k ∧ m.k ≤ 12) (hl : L.length < 4194304)
    (HT : ∀ i fi qi, E i = ⟨true, fi, qi⟩ → ∀ v w, TkS w v L i qi → Calls Try.prog 50 #[v] w (ERet w fi.flat)) :
    Calls Try.prog 50 #[v] w (ERet w f.flat) := by
  have HS := Lib.hid h
  obtain ⟨b, off, cap, rfl, hcap, hb, hcs⟩ := h.ex
  have hlt := h.lt
  have hle := h.le
  have HP0 := Lib.hid (tree_start (by omega) hB hE hP)
  have HCS := Lib.hid hcs
  have HTr := Lib.hid HT
  have HB := Lib.hid hB
  have HE := Lib.hid hE
  have HK := Lib.hid hK
  obtain ⟨n, hn⟩ : ∃ n, n = q - p := ⟨_, rfl⟩
  rw [← hn] at HS hcap ⊢
  have hpn : p + n = q := by omega
  have hnl : n ≤ 4194304 := by omega
  clear hcs HT h hP hB hE hK hn
  go_enter Try.func50, Try.ntmps50
  go_wp2
  go_loopw [3, 4, 5, 6] (fun kv cv fv i wr => ∃ (x c fr : Nat) (g : Fo), i = .int .i64 x ∧ cv = .int .i64 c ∧ fv = .int .i64 fr ∧ x ≤ n + 1 ∧ c ≤ fr ∧ fr ≤ x ∧ OwnNd wr w.heap.size kv g.flat ∧ Hid (g.flat.length ≤ 2 * fr) ∧ Hid (1 ≤ c → 0 < g.flat.length) ∧ Hid (Below w.heap.size w wr) ∧
    Hid ((x = n + 1 ∧ 1 ≤ c ∧ f = wrapF 5 c g) ∨ (x ≤ n ∧ ∃ fp qp, TSt E L q f (p + fr) (p + x) g c fp qp))) (fun _ _ _ i _ => n + 1 - (intOf i).toNat)
  case atStart => exact ⟨0, 0, 0, .nil, rfl, rfl, rfl, by omega, by omega, by omega, World.ownsRow_nil _ _ _ _, by simp [Hid, Fo.flat], fun h => by omega, Below.refl _ _, .inr ⟨by omega, HP0.out⟩⟩
  case round =>
    obtain ⟨x, c, fr, g, rfl, rfl, rfl, hx, hcf, hfx, hown, HLn, HGp, HBel, HP⟩ := hrel
    have hgl : g.flat.length ≤ 2 * fr := HLn.out
    have hws := HBel.out.size
    by_cases hxn : x ≤ n
    · obtain ⟨fp, qp, T⟩ : ∃ fp qp, TSt E L q f (p + fr) (p + x) g c fp qp := by
        rcases HP.out with ⟨h, _⟩ | ⟨_, h⟩
        · omega
        · exact h
      have ht1 := T.lt
      have ht2 := T.more.le
      have ht3 := T.scn.le
      have ht4 := T.size
      have hfl := Fo.flat_len fp
      have hfp := flat_pos T.one
      have hnext := T.next hle HB.out HE.out
      simp only at ht2
      obtain ⟨y, hy⟩ : ∃ y, y = qp - p := ⟨_, rfl⟩
      have hpy : p + y = qp := by omega
      have hxy : x ≤ y := by omega
      have hyn : y ≤ n := by omega
      have hfy : fr < y := by omega
      have hfl2 : fp.flat.length + 1 ≤ 2 * (y - fr) := by omega
      have HNx := Lib.hid hnext
      have HTT := Lib.hid T
      clear hnext T ht1 ht2 ht3 ht4 hfl hy HP
      by_cases hxy2 : x < y
      · obtain ⟨m, hm⟩ : ∃ m, L[p + x]? = some m := ⟨_, List.getElem?_eq_getElem (by omega)⟩
        obtain ⟨x0, -⟩ := HCS.out x m (by omega) hm
        have X0 := (HBel.out.cell (p := ⟨b, _, none⟩) hb).trans x0
        have hkd : kd L (p + x) = m.k := kd_some hm
        have hmk := HK.out m (List.mem_of_getElem? hm)
        have hcase : Hid ((m.k ≠ 6 ∧ m.k ≠ 10 ∧ Scn L (p + x + 1) qp) ∨ (∃ j, m.k = 10 ∧ Cl L (p + x + 1) 1 (p + j) ∧ Scn L (p + j + 1) qp ∧ x < j)) := by
          have hs := HTT.out.scn
          have hd : p + x ≠ qp := by omega
          rw [← hkd]
          generalize hi : p + x = i at *
          cases hs with
          | refl => exact absurd rfl hd
          | step h1 h2 _ h4 => exact .inl ⟨h1, h2, h4⟩
          | jump h1 h2 h3 =>
            rename_i j
            have := h2.le
            exact .inr ⟨j - p, h1, by rw [show p + (j - p) = j from by omega]; exact h2, by rw [show p + (j - p) = j from by omega]; exact h3, by omega⟩
        have HKd := Lib.hid hkd
        clear x0 hm hkd
        have hxn2 : x < n := by omega
        rcases hcase.out with ⟨h6, h10, hs⟩ | ⟨j, h10, hcl, hs, hxj⟩
        · have t1 := tk_ne m.k 40 10 hmk.1 hmk.2 rfl (by decide) (by decide) h10
          have t2 := tk_ne m.k 124 6 hmk.1 hmk.2 rfl (by decide) (by decide) h6
          have t3 : ((x : Int) == n) = false := by simp; omega
          have HT2 : Hid (TSt E L q f (p + fr) (p + (x + 1)) g c fp qp) := ⟨HTT.out.part, HTT.out.more, by have := HTT.out.ge; omega, HTT.out.lt, hs, HTT.out.size, HTT.out.one⟩
          clear hcase h6 h10 hs
          generalize tkB m.k = km at *
          go_wp2_with fail
          clear t1 t2 t3
          go_roundw
          case rel => exact ⟨x + 1, c, fr, g, by go_num, rfl, rfl, by omega, by omega, by omega, hown, HLn.out, HGp.out, HBel.out, .inr ⟨by omega, fp, qp, HT2.out⟩⟩
          case measure => first | (simp [intOf]; done) | (simp [intOf]; omega)
        · have hjl := hcl.le
          have hsl := hs.le
          have HCl : Hid (∀ wx, Below w.heap.size w wx → Calls Try.prog 79 #[.slice (some ⟨b, off, none⟩) n cap, .int .i64 x] wx fun e' w' => e' = .returned (.int .i64 j) ∧ wx = w') :=
            fun wx hbx => rClose_any _ L p q x j wx (HS.out.below hbx) HK.out (by omega) (by rw [HKd.out]; exact h10) hcl (by omega)
          have HT2 : Hid (TSt E L q f (p + fr) (p + (j + 1)) g c fp qp) := ⟨HTT.out.part, HTT.out.more, by have := HTT.out.ge; omega, HTT.out.lt, hs, HTT.out.size, HTT.out.one⟩
          rw [h10, show tkB 10 = 40 from rfl] at X0
          clear hcase h10 hcl hs
          go_wp2_with (go_at_call 79; refine (HCl.out _ HBel.out).mono ?_; rintro e' w' ⟨rfl, rfl⟩)
          go_roundw
          case rel => exact ⟨j + 1, c, fr, g, by go_num, rfl, rfl, by omega, by omega, by omega, hown, HLn.out, HGp.out, HBel.out, .inr ⟨by omega, fp, qp, HT2.out⟩⟩
          case measure => first | (simp [intOf]; done) | (simp [intOf]; omega)
      · obtain rfl : x = y := by omega
        have HPb : Hid (Calls Try.prog 80 #[.slice (some ⟨b, off + fr * 3, none⟩) (x - fr) (cap - fr)] wr (ERet wr fp.flat)) := by
          have hs := (HS.out.below HBel.out).sub fr x (by omega) (by omega)
          rw [hpy] at hs
          exact rPart_any E _ L (p + fr) qp fp wr hs HTT.out.part HB.out HE.out HK.out hl HTr.out
        by_cases hxn3 : x = n
        · subst hxn3
          have HD : Hid (f = wrapF 5 (c + 1) (g.app fp)) := by
            rcases HNx.out with ⟨_, h⟩ | ⟨h, _⟩
            · exact h
            · omega
          go_wp2_with fail
          refine (HPb.out).mono ?_
          rintro e' w3 ⟨v3, rfl, ho3, hb3⟩
          obtain ⟨gb, gc, rfl, hgB, hgl2, hgc, hcs3⟩ := own_src ho3 hfp
          have HCS3 := Lib.hid hcs3
          have hown3 := own_below hown hb3
          have HB3 : Hid (Below w.heap.size w w3) := HBel.out.trans (hb3.mono hws)
          have hws3 : w.heap.size ≤ w3.heap.size := HB3.out.size
          clear hcs3 ho3 hb3
          go_wp2_with (at_builtin; go_must (refine wpList_appG elemNd rfl _ _ rfl hown3 rfl (news := flatNd fp.flat) rfl (flatNd_len _) HCS3.out (flatNd_one _) (by unfold maxLen; omega) (by omega) hws3 ?_); intro v' w4 hown4 hg4)
          have HO4 : Hid (OwnNd w4 w.heap.size v' (g.app fp).flat) := by
            rw [Fo.flat_app]
            show World.ownsRow _ _ _ _ _ _ _
            rw [flatNd_app, List.length_append]; exact hown4
          have HB4 : Hid (Below w.heap.size w w4) := HB3.out.grown hg4 hws3 (fun j hj => own_blk hown3 hj)
          clear hown4 hg4
          go_roundw
          case rel => exact ⟨x + 1, c + 1, x + 1, g.app fp, by go_num, by go_num, by go_num, by omega, by omega, by omega, HO4.out, by unfold Hid; rw [Fo.flat_app, List.length_append]; omega, fun _ => by rw [Fo.flat_app, List.length_append]; omega, HB4.out, .inl ⟨rfl, by omega, HD.out⟩⟩
          case measure => first | (simp [intOf]; done) | (simp [intOf]; omega)
        · have hxn2 : x < n := by omega
          have HD : Hid (kd L (p + x) = 6 ∧ ∃ fp' qp', TSt E L q f (p + (x + 1)) (p + (x + 1)) (g.app fp) (c + 1) fp' qp') := by
            rcases HNx.out with ⟨h, _⟩ | ⟨_, h6, h⟩
            · omega
            · rw [show p + (x + 1) = qp + 1 from by omega, hpy]; exact ⟨h6, h⟩
          obtain ⟨m, hm⟩ : ∃ m, L[p + x]? = some m := ⟨_, List.getElem?_eq_getElem (by omega)⟩
          obtain ⟨x0, -⟩ := HCS.out x m (by omega) hm
          have X0 := (HBel.out.cell (p := ⟨b, _, none⟩) hb).trans x0
          have hk6 : m.k = 6 := by rw [← kd_some hm]; exact HD.out.1
          rw [hk6, show tkB 6 = 124 from rfl] at X0
          have t3 : ((x : Int) == n) = false := by simp; omega
          clear x0 hm hk6 hxn3
          go_wp2_with fail
          clear t3
          refine (HPb.out).mono ?_
          rintro e' w3 ⟨v3, rfl, ho3, hb3⟩
          obtain ⟨gb, gc, rfl, hgB, hgl2, hgc, hcs3⟩ := own_src ho3 hfp
          have HCS3 := Lib.hid hcs3
          have hown3 := own_below hown hb3
          have HB3 : Hid (Below w.heap.size w w3) := HBel.out.trans (hb3.mono hws)
          have hws3 : w.heap.size ≤ w3.heap.size := HB3.out.size
          clear hcs3 ho3 hb3
          go_wp2_with (at_builtin; go_must (refine wpList_appG elemNd rfl _ _ rfl hown3 rfl (news := flatNd fp.flat) rfl (flatNd_len _) HCS3.out (flatNd_one _) (by unfold maxLen; omega) (by omega) hws3 ?_); intro v' w4 hown4 hg4)
          have HO4 : Hid (OwnNd w4 w.heap.size v' (g.app fp).flat) := by
            rw [Fo.flat_app]
            show World.ownsRow _ _ _ _ _ _ _
            rw [flatNd_app, List.length_append]; exact hown4
          have HB4 : Hid (Below w.heap.size w w4) := HB3.out.grown hg4 hws3 (fun j hj => own_blk hown3 hj)
          clear hown4 hg4
          go_roundw
          case rel => exact ⟨x + 1, c + 1, x + 1, g.app fp, by go_num, by go_num, by go_num, by omega, by omega, by omega, HO4.out, by unfold Hid; rw [Fo.flat_app, List.length_append]; omega, fun _ => by rw [Fo.flat_app, List.length_append]; omega, HB4.out, .inr ⟨by omega, HD.out.2⟩⟩
          case measure => first | (simp [intOf]; done) | (simp [intOf]; omega)
    · obtain rfl : x = n + 1 := by omega
      have HD : Hid (1 ≤ c ∧ f = wrapF 5 c g) := by
        rcases HP.out with ⟨_, h1, h2⟩ | ⟨h, _⟩
        · exact ⟨h1, h2⟩
        · omega
      by_cases hc1 : c = 1
      · subst hc1
        have HF : Hid (f = g) := HD.out.2
        obtain ⟨_, ao, cp, rfl, -⟩ := Rd.of_owns hown
        go_wp2_with fail
        go_ret
        rw [HF.out]
        exact ⟨_, rfl, hown, HBel.out⟩
      · have HF : Hid (f.flat = [⟨5, ⟨#[]⟩, c⟩] ++ g.flat) := by unfold Hid; rw [HD.out.2, wrap_flat hc1]
        have hcI : ((c : Int) == 1) = false := by simp; omega
        have hpos : 0 < g.flat.length := HGp.out HD.out.1
        obtain ⟨gb, gc, rfl, hgB, hgl2, hgc, hcs3⟩ := own_src hown hpos
        have HA1 := Lib.hid (OwnNd.one wr w.heap.size hws ⟨5, ⟨#[]⟩, c⟩)
        have HC2 := Lib.hid (cells_kept hcs3 (World.grownBy_alloc wr (.cells #[.int .i64 5, .string ⟨#[]⟩, .int .i64 c] 39) none) (by simp))
        clear hcs3
        go_wp2_with (at_builtin; go_must (refine wpList_appG elemNd rfl _ _ rfl HA1.out rfl (news := flatNd g.flat) rfl (flatNd_len _) HC2.out (flatNd_one _) (by unfold maxLen; simp only [List.length_cons, List.length_nil]; omega) (by simp only [List.length_cons, List.length_nil]; omega) (by simp; omega) ?_); intro v' w4 hown4 hg4)
        go_ret
        rw [HF.out]
        refine ⟨v', rfl, ?_, (HBel.out.alloc hws _).grown hg4 (by simp; omega) (fun j hj => by simp [Value.ownBlock] at hj; omega)⟩
        show World.ownsRow _ _ _ _ _ _ _
        rw [flatNd_app, List.length_append]; exact hown4
theorem rTree_all (L : List Mk) (hK : ∀ m ∈ L, 1 ≤ m.k ∧ m.k ≤ 12) (hl : L.length < 4194304) : ∀ (n i : Nat) (fi : Fo) (qi : Nat), pExpr L n i = ⟨true, fi, qi⟩ → ∀ v w, TkS w v L i qi → Calls Try.prog 50 #[v] w (ERet w fi.flat)
  | 0, i, fi, qi, h => by simp [pExpr] at h
  | n + 1, i, fi, qi, h => fun v w hv =>
    rTree_any (pExpr L n) v L i qi fi w hv h (fun q hq => pExpr_b L n q hq) (fun q => pExpr_ns L n q) hK hl (fun j fj qj hj v w hv => rTree_all L hK hl n j fj qj hj v w hv)
end Go.Proofs.Ytbpipnjdfmpbdaa
