/- The walks and facts that the laws lean on, part 4. No condition of its own: each theorem tells its own. -/
import Derived.Test.YtfmcbpnhpckmjaaGreatPk3
import Derived.Deep.AppendLies
import Derived.Deep.RegionLaw
import Derived.Shelf.Strings.BuilderF
import Derived.Laws.EntriesVeiled
import Derived.DeepKeys4
import Derived.BigQuiet
import Derived.Laws.Cover3
import Derived.Deep.QuietTactic
import Derived.Test.YtfmcbpnhpckmjaaGreatRows
import Derived.Deep.Strs
import Derived.WideShapes
namespace Go.Proofs.YtfmcbpnhpckmjaaGreat
open Go.RowKit

/-- append of one new element, at a step of a region that draws -/
theorem step_appG1 {P : Program} {t e : TypeId} {size bytes : Nat} (hE : ElemOK P t e size bytes) {B : Nat} {wr : World} {ops : Array Oper} {o : Oper} {a : Act} {K : Act → World → Prop} {Q : Exit → Act → World → Prop} {E : Prop} (hgd : o.guard = none) (s x : Operand)
    (ho : o.op = .call { callee := .builtin .append, args := #[s, x], argTypes := #[t, t] })
    {v : Value} {n : Nat} {xs : List Value} (hown : wr.ownsRow B e size v n xs) (hs : a.eval s = v)
    {news : List Value} (hx : a.eval x = .slice (some ⟨wr.heap.size, 0, none⟩) 1 1) (hl : news.length = size) (h1 : ∀ u ∈ news, u.oneCell' = true)
    (hm : n + 1 ≤ maxLen) (hn : (n + 1) * bytes ≤ 140737488355328) (hB : B ≤ wr.heap.size)
    (h : ∀ v' w', w'.ownsRow B e size v' (n + 1) (xs ++ news) → wr.grownBy w' v.ownBlock → K (a.put o.dst v') w') :
    if Region.wanted o (yielded ops a.tmps) = true then Oper.wp P o a (wr.alloc (.cells news.toArray e)) K Q else E := by
  obtain ⟨i, z, h2, h3, h4, h5, h6, h7, h8⟩ := hE.ex
  refine step_append_lies _ hgd s x t ho B e i z size bytes h2 h3 h4 h5 h6 h7 h8 v n xs hs (hown.alloc _) ⟨wr.heap.size, 0, none⟩ 1 1 news hx (by omega) (cells_new wr news e) h1 (by omega) hm hn (by simp; omega) _ rfl fun g cap w' h2 h3 _ _ => h _ w' h2 ?_
  exact ⟨h3.os, h3.tape, h3.output, Nat.le_trans (by simp) h3.size, fun k hk hne => (h3.block k (by simp; omega) hne).trans (Below.heap_alloc wr _ k hk)⟩
theorem elemRu : ElemOK Tryz.prog 22 38 2 40 :=
  ElemOK.mk' (z := .agg #[.string ⟨#[]⟩, .slice none 0 0]) Tryz.underlying22 (by kernel_rfl) rfl (by decide)
/-- rows of two types lie in two blocks -/
theorem own_apart {w : World} {B B' : Nat} {e e' : TypeId} {s s' : Nat} {v v' : Value} {n n' : Nat} {xs xs' : List Value} (h : w.ownsRow B e s v n xs) (h' : w.ownsRow B' e' s' v' n' xs') (he : e ≠ e') (g : Nat) (hg : v'.ownBlock = some g) : v.ownBlock ≠ some g := by
  rcases h.2 with ⟨rfl, _⟩ | ⟨b, cap, cur, rfl, _, hb, _⟩
  · simp [Value.ownBlock]
  · rcases h'.2 with ⟨rfl, _⟩ | ⟨b', cap', cur', rfl, _, hb', _⟩
    · simp [Value.ownBlock] at hg
    · intro h3
      simp only [Value.ownBlock, Option.some.injEq] at hg h3
      subst hg; subst h3
      rw [hb] at hb'
      simp only [Option.some.injEq, Obj.cells.injEq] at hb'
      exact he hb'.2.1
/-- the rules own their row and their bodies -/
structure OwnP (w : World) (B : Nat) (v : Value) (P : List (Ru × Value)) : Prop where
  row : w.ownsRow B 38 2 v P.length (flatP P)
  bods : ∀ p ∈ P, OwnNd w B p.2 p.1.b
theorem OwnP.nil (w : World) (B : Nat) : OwnP w B (.slice none 0 0) [] := ⟨World.ownsRow_nil _ _ _ _, fun p hp => by cases hp⟩
theorem OwnP.rd {w : World} {B : Nat} {v : Value} {P : List (Ru × Value)} (h : OwnP w B v P) : RdP w v P := ⟨Rd.of_owns h.row, fun p hp => RdNd.of_own (h.bods p hp)⟩
theorem OwnP.below {w w' : World} {B : Nat} {v : Value} {P : List (Ru × Value)} (h : OwnP w B v P) (hb : Below w.heap.size w w') : OwnP w' B v P :=
  ⟨own_grown h.row (grown_below hb) (fun j hj => by cases hj), fun p hp => own_grown (h.bods p hp) (grown_below hb) (fun j hj => by cases hj)⟩
theorem OwnP.lower {w : World} {B C : Nat} {v : Value} {P : List (Ru × Value)} (h : OwnP w B v P) (hC : C ≤ B) : OwnP w C v P := ⟨own_lower h.row hC, fun p hp => own_lower (h.bods p hp) hC⟩
/-- a rule appended -/
theorem OwnP.snoc {w w' : World} {B : Nat} {v v' : Value} {P : List (Ru × Value)} {p : Ru × Value} (h : OwnP w B v P) (hb : OwnNd w B p.2 p.1.b) (hown : w'.ownsRow B 38 2 v' (P.length + 1) (flatP P ++ [.string p.1.h, p.2])) (hg : w.grownBy w' v.ownBlock) : OwnP w' B v' (P ++ [p]) := by
  refine ⟨?_, fun q hq => ?_⟩
  · rw [flatP_snoc, List.length_append]; exact hown
  · have hq2 : OwnNd w B q.2 q.1.b := by
      rcases List.mem_append.1 hq with hq | hq
      · exact h.bods q hq
      · rw [List.mem_singleton.1 hq]; exact hb
    exact own_grown hq2 hg (fun j hj => .inr (own_apart hq2 h.row (by decide) j hj))

set_option maxRecDepth 100000 in
set_option maxHeartbeats 6400000 in
theorem rCopyG_any (v : Value) (G : List Ru) (w : World) (h : RdRu w v G) (hl : LimG G) (hl2 : G.length ≤ 1099511627776) :
    Calls Tryz.prog 15 #[v] w fun e w' => ∃ v' P, e = .returned v' ∧ P.map (·.1) = G ∧ OwnP w' w.heap.size v' P ∧ Below w.heap.size w w' := by
  obtain ⟨P, rfl, hR⟩ := h
  have HR := Lib.hid hR
  have HL := Lib.hid hl
  obtain ⟨⟨_, ao, cap, rfl, -⟩, -⟩ := hR
  have hpl : P.length ≤ 1099511627776 := by rwa [List.length_map] at hl2
  clear hl hl2
  generalize hG : P.map (·.1) = G at *
  have HG := Lib.hid hG
  have HGL : Hid (G.length = P.length) := by unfold Hid; rw [← hG, List.length_map]
  clear hG
  have hgl := HGL.out
  go_enter Tryz.func15, Tryz.ntmps15
  go_wp2_with fail
  go_loopw [3, 4] (fun o i wr => ∃ (j : Nat) (P' : List (Ru × Value)), i = .int .i64 j ∧ j ≤ P.length ∧ Hid (P'.map (·.1) = G.take j) ∧ Hid (OwnP wr w.heap.size o P') ∧ Hid (Below w.heap.size w wr)) (fun _ i _ => P.length - (intOf i).toNat)
  case atStart => exact ⟨0, [], rfl, by omega, rfl, OwnP.nil _ _, Below.refl _ _⟩
  case round =>
    obtain ⟨j, P', rfl, hj, HP', HO, HBel⟩ := hrel
    rename_i u3
    have hws := HBel.out.size
    have hpl' : P'.length = j := by have := congrArg List.length HP'.out; rw [List.length_map, List.length_take] at this; omega
    by_cases hlt : j < P.length
    · obtain ⟨p, hp⟩ : ∃ p, P[j]? = some p := ⟨_, List.getElem?_eq_getElem hlt⟩
      obtain ⟨b, off, cp, e1, hb, hc, x0, x1, hrd⟩ := RdP.at HR.out hp
      simp only [Value.slice.injEq] at e1
      obtain ⟨rfl, -, rfl⟩ := e1
      have X0 := (HBel.out.cell (p := ⟨b, _, none⟩) hb).trans x0
      have X1 := (HBel.out.cell (p := ⟨b, _, none⟩) hb).trans x1
      have hbw : b < wr.heap.size := by omega
      have HGP : Hid (G[j]? = some p.1) := by unfold Hid; rw [← HG.out, List.getElem?_map, hp]; rfl
      have hbl : p.1.b.length ≤ 4398046511104 := Nat.le_trans (body_le (List.mem_of_getElem? HGP.out)) HL.out.nodes
      have HC := Lib.hid (rCopy_any p.2 p.1.b wr.drew (hrd.below HBel.out.drew) hbl)
      have HT : Hid (G.take (j + 1) = G.take j ++ [p.1]) := (nodesG_take G HGP.out).1
      obtain ⟨_, ao3, cp3, hv2, -⟩ := id hrd
      obtain ⟨⟨ph, pb⟩, pv⟩ := p
      simp only at hv2 X0 X1 HGP HC HT
      subst hv2
      clear x0 x1 hp hrd hbl
      go_wp2_with fail
      go_region_law (first
        | (refine step_appG1 elemRu rfl _ _ rfl HO2.row rfl (news := [.string ph, .slice ao2 pb.length cp2]) rfl rfl (by intro u hu; simp at hu; rcases hu with rfl | rfl <;> rfl) (by unfold maxLen; omega) (by omega) hw2 ?_; intro v3 w3 hown3 hg3)
        | (go_simp; go_at_call 35; refine (HC.out).mono ?_; rintro e w2 ⟨v2, rfl, ho2, hb2⟩
           obtain ⟨ao2, cp2, rfl⟩ : ∃ ao c, v2 = .slice ao pb.length c := by obtain ⟨_, ao, c, e, -⟩ := RdNd.of_own ho2; exact ⟨ao, c, e⟩
           have HO2 : OwnP w2 w.heap.size u3 P' := (HO.out.below (show Below wr.heap.size wr wr.drew from Below.drew (Below.refl _ _))).below hb2
           have hown2 : OwnNd w2 w.heap.size (.slice ao2 pb.length cp2) pb := own_lower ho2 hws
           have hw2 : w.heap.size ≤ w2.heap.size := Nat.le_trans hws hb2.size
           have hB2 : Below w.heap.size w w2 := HBel.out.drew.trans (hb2.mono hws)
           have k0 : w2.cell? ⟨b, off + j * 2, none⟩ = some (.string ph) := (hb2.cell (p := ⟨b, off + j * 2, none⟩) hbw).trans X0
           have k1 : w2.cell? ⟨b, off + j * 2 + 1, none⟩ = some (.slice ao3 pb.length cp3) := (hb2.cell (p := ⟨b, off + j * 2 + 1, none⟩) hbw).trans X1))
      all_goals
        have HO3 : Hid (OwnP w3 w.heap.size v3 (P' ++ [(⟨ph, pb⟩, .slice ao2 pb.length cp2)])) := OwnP.snoc (p := (⟨ph, pb⟩, .slice ao2 pb.length cp2)) HO2 hown2 hown3 hg3
        have HB3 : Hid (Below w.heap.size w w3) := hB2.grown hg3 hw2 (fun j hj => own_block HO2.row j hj)
        have HP3 : Hid ((P' ++ [((⟨ph, pb⟩, .slice ao2 pb.length cp2) : Ru × Value)]).map (·.1) = G.take (j + 1)) := by unfold Hid; rw [List.map_append, HP'.out, HT.out]; rfl
        clear hown3 hg3 ho2 hb2 hown2 HO2
        go_wp2_with fail
        go_roundw
        case rel => exact ⟨j + 1, _, by go_num, by omega, HP3.out, HO3.out, HB3.out⟩
        case measure => simp [intOf]; omega
    · obtain rfl : j = P.length := by omega
      have HE : Hid (P'.map (·.1) = G) := by have := HP'.out; rw [List.take_of_length_le (by have := HGL.out; omega)] at this; exact this
      go_wp2_with fail
      go_ret
      exact ⟨_, _, rfl, HE.out, HO.out, HBel.out⟩
/-- the bounds that the condition gives -/
structure Bulk (G : List Ru) (n : Nat) : Prop where
  len : G.length ≤ n
  nodes : nodesG G ≤ n
  head : ∀ r ∈ G, r.h.size ≤ n
  name : ∀ r ∈ G, ∀ x ∈ r.b, x.n.size ≤ n
theorem Bulk.lim {G : List Ru} {n : Nat} (h : Bulk G n) (hn : n ≤ 1048576) : LimG G := ⟨by have := h.len; omega, by have := h.nodes; omega, fun r hr => by have := h.head r hr; omega, fun r hr x hx => by have := h.name r hr x hx; omega⟩
theorem Bulk.mono {G : List Ru} {n m : Nat} (h : Bulk G n) (hn : n ≤ m) : Bulk G m := ⟨Nat.le_trans h.len hn, Nat.le_trans h.nodes hn, fun r hr => Nat.le_trans (h.head r hr) hn, fun r hr x hx => Nat.le_trans (h.name r hr x hx) hn⟩
end Go.Proofs.YtfmcbpnhpckmjaaGreat
namespace Go.Proofs.YtfmcbpnhpckmjaaGreat
open Go.RowKit

/-! ### a head -/
theorem one_rd (w : World) (t : TypeId) (q : Nat × Nat) (x : Nd) : RdNd (w.alloc (.cells #[.int .i64 x.k, .string x.n, .int .i64 x.c] t q)) (.slice (some ⟨w.heap.size, 0, none⟩) 1 1) [x] := by
  have hb := World.alloc_heap_new w (.cells #[.int .i64 x.k, .string x.n, .int .i64 x.c] t q)
  refine ⟨rfl, some ⟨w.heap.size, 0, none⟩, 1, rfl, Nat.le_refl 1, by decide, .inr ⟨w.heap.size, 0, rfl, (Array.getElem?_eq_some_iff.1 hb).1, fun j u hj => ?_⟩⟩
  have hlt : j < 3 := (List.getElem?_eq_some_iff.1 hj).1
  unfold World.cell?
  simp only [hb]
  rw [← hj]
  have : j = 0 ∨ j = 1 ∨ j = 2 := by omega
  rcases this with rfl | rfl | rfl <;> rfl
theorem tree_one (s : ByteArray) : treeB [⟨2, s, 0⟩] = nameB s 1 := by
  show (decide (0 < 1) && trB 1 [⟨2, s, 0⟩] 1) = _
  have hm : mayB ⟨2, s, 0⟩ = nameB s 1 := by simp [mayB]
  rw [trB_cons, if_neg (by omega), hm]
  cases h : nameB s 1 with
  | true => rw [if_pos ⟨rfl, by simp⟩, trB_nil]; rfl
  | false => rw [if_neg (by simp)]; rfl
theorem chk_one (s : ByteArray) : ChkS [⟨2, s, 0⟩] (if nameB s 1 = true then 0 else 170) := by
  cases h : nameB s 1 with
  | false => exact .inr (.inl ⟨by simp, by rw [tree_one, h], by simp⟩)
  | true =>
    have hm : mayN ⟨2, s, 0⟩ := (mayB_iff _).1 (by simp [mayB, h])
    refine .inr (.inr ⟨by simp, ⟨2, s, 0⟩, .nil, ⟨rfl, ⟨rfl, trivial, trivial⟩, ⟨hm, trivial, trivial⟩⟩, ?_⟩)
    have hs := hm.size
    rw [if_pos rfl]
    unfold boundsF
    have e : txN ⟨2, s, 0⟩ Fo.nil.tx = s := rfl
    simp only at hs
    rw [e, if_neg (by simp [Fo.height]), if_neg (by omega)]
set_option maxRecDepth 100000 in
set_option maxHeartbeats 1600000 in
theorem xHeaded_any (s : ByteArray) (w : World) : Calls Tryz.prog 63 #[.string s] w fun e w' => e = .returned (.bool (nameB s 1)) ∧ Below w.heap.size w w' := by
  have HC := Lib.hid (fun v w h => xCheck_any v [⟨2, s, 0⟩] _ w h (chk_one s) (by simp))
  have HR := Lib.hid (fun w t q => one_rd w t q ⟨2, s, 0⟩)
  cases hb : nameB s 1 with
  | true =>
    rw [hb, if_pos rfl] at HC
    clear hb
    go_enter Tryz.func63, Tryz.ntmps63
    go_wp2_with fail
    refine (HC.out _ _ (HR.out _ _ _)).mono ?_
    rintro e w2 ⟨rfl, hb2⟩
    have HB2 := Lib.hid ((below1 w _).trans (hb2.mono (by simp)))
    clear hb2
    go_wp2_with fail
    go_ret
    exact ⟨rfl, HB2.out⟩
  | false =>
    rw [hb, if_neg (by simp)] at HC
    clear hb
    go_enter Tryz.func63, Tryz.ntmps63
    go_wp2_with fail
    refine (HC.out _ _ (HR.out _ _ _)).mono ?_
    rintro e w2 ⟨rfl, hb2⟩
    have HB2 := Lib.hid ((below1 w _).trans (hb2.mono (by simp)))
    clear hb2
    go_wp2_with fail
    go_ret
    exact ⟨rfl, HB2.out⟩
/-! ### is a rule wrong? -/
def badR (r : Ru) : Bool := !(nameB r.h 1 && treeB r.b)
set_option maxRecDepth 100000 in
set_option maxHeartbeats 1600000 in
theorem xBad_any (r : Ru) (v : Value) (w : World) (h : RdNd w v r.b) (hl : r.b.length ≤ 16777216) :
    Calls Tryz.prog 62 #[.agg #[.string r.h, v]] w fun e w' => e = .returned (.bool (badR r)) ∧ Below w.heap.size w w' := by
  obtain ⟨rh, rb⟩ := r
  simp only at h hl
  obtain ⟨hh, em, hT⟩ := treeS_ex rb
  have HH := Lib.hid (fun w h => xHeightT_any v rb hh em w h hT hl)
  have HX := Lib.hid xHeaded_any
  have HV := Lib.hid h
  have hz : (hh == 0) = !treeB rb := by
    rcases hT with ⟨h1, rfl, -⟩ | ⟨x, k, hG, rfl, -⟩
    · rw [h1]; rfl
    · rw [hG.tree]; simp; omega
  obtain ⟨_, ao, cap, rfl, -⟩ := h
  have HB : Hid (badR ⟨rh, rb⟩ = (!nameB rh 1 || (hh == 0))) := by unfold Hid badR; rw [hz]; cases nameB rh 1 <;> cases treeB rb <;> rfl
  clear hz hT
  generalize badR ⟨rh, rb⟩ = bd at *
  generalize rb.length = n at *
  cases hb : nameB rh 1 with
  | false =>
    rw [hb] at HB
    have HX2 := Lib.hid (HX.out rh)
    rw [hb] at HX2
    clear hb HX
    go_enter Tryz.func62, Tryz.ntmps62
    go_wp2_with (go_at_call 63; refine (HX2.out _).mono ?_; rintro e w2 ⟨rfl, hb2⟩; have HB2 := Lib.hid ((below1 w _).trans (hb2.mono (by simp))); clear hb2)
    go_ret
    exact ⟨by rw [HB.out]; rfl, HB2.out⟩
  | true =>
    rw [hb] at HB
    have HX2 := Lib.hid (HX.out rh)
    rw [hb] at HX2
    clear hb HX
    have hB1 : Hid (Below w.heap.size w (w.alloc (.cells #[.string rh, .slice ao n cap] 38))) := below1 w _
    go_enter Tryz.func62, Tryz.ntmps62
    go_wp2_with fail
    have c1 : (w.alloc (.cells #[.string rh, .slice ao n cap] 38)).cell? ⟨w.heap.size, 1, none⟩ = some (.slice ao n cap) := by simp
    have hlt : w.heap.size < (w.alloc (.cells #[.string rh, .slice ao n cap] 38)).heap.size := by simp
    generalize w.alloc (.cells #[.string rh, .slice ao n cap] 38) = w1 at *
    refine (HX2.out _).mono ?_
    rintro e w2 ⟨rfl, hb2⟩
    have C1 := (hb2.cell (p := ⟨w.heap.size, 1, none⟩) hlt).trans c1
    have HB2 := Lib.hid (hB1.out.trans (hb2.mono hB1.out.size))
    clear hb2 c1
    go_wp2_with (go_at_call 64; refine (HH.out _ (HV.out.below HB2.out)).mono ?_; rintro e w3 ⟨rfl, hb3⟩; have HB3 := Lib.hid (HB2.out.trans (hb3.mono HB2.out.size)); clear hb3)
    go_ret
    exact ⟨by rw [HB.out]; rfl, HB3.out⟩
noncomputable def deepR (r : Ru) : Bool := decide (16 < heightN r.b)
set_option maxRecDepth 100000 in
set_option maxHeartbeats 1600000 in
theorem xDeepR_any (r : Ru) (v : Value) (w : World) (h : RdNd w v r.b) (hl : r.b.length ≤ 16777216) (ht : treeB r.b = true) :
    Calls Tryz.prog 70 #[.agg #[.string r.h, v]] w fun e w' => e = .returned (.bool (deepR r)) ∧ Below w.heap.size w w' := by
  obtain ⟨rh, rb⟩ := r
  simp only at h hl ht
  obtain ⟨hh, em, hT⟩ := treeS_ex rb
  have HH := Lib.hid (fun w h => xHeightT_any v rb hh em w h hT hl)
  have HV := Lib.hid h
  have hz : hh = heightN rb := by
    rcases hT with ⟨h1, -, -⟩ | ⟨x, k, hG, rfl, -⟩
    · rw [ht] at h1; cases h1
    · rw [heightN_eq hG]
  subst hz
  obtain ⟨_, ao, cap, rfl, -⟩ := h
  have HB : Hid (deepR ⟨rh, rb⟩ = decide (16 < heightN rb)) := rfl
  clear hT ht
  generalize deepR ⟨rh, rb⟩ = bd at *
  generalize heightN rb = hn at *
  generalize rb.length = n at *
  go_enter Tryz.func70, Tryz.ntmps70
  go_wp2_with (go_at_call 64; refine (HH.out _ (HV.out.below (below1 w _))).mono ?_; rintro e w3 ⟨rfl, hb3⟩; have HB3 := Lib.hid ((below1 w _).trans (hb3.mono (by simp))); clear hb3)
  go_ret
  exact ⟨by rw [HB.out]; congr 1; simp; omega, HB3.out⟩
def SomeIx (a : Bool) (r : Int) : Prop := (r = -1 ∧ a = false) ∨ (0 ≤ r ∧ a = true)

set_option maxRecDepth 100000 in
set_option maxHeartbeats 1600000 in
theorem xBadIx_any (v : Value) (G : List Ru) (w : World) (h : RdRu w v G) (hl : G.length ≤ 140737488355328) (hn : nodesG G ≤ 16777216) :
    Calls Tryz.prog 85 #[v, .func (.func 62) #[] #[]] w fun e w' => ∃ r, e = .returned (.int .i64 r) ∧ Hid (SomeIx (G.any badR) r) ∧ Below w.heap.size w w' := by
  obtain ⟨P, rfl, hR⟩ := h
  have HR := Lib.hid hR
  have HN := Lib.hid hn
  obtain ⟨⟨_, ao, cap, rfl, -⟩, -⟩ := hR
  have hpl : P.length ≤ 140737488355328 := by rwa [List.length_map] at hl
  clear hn hl
  generalize hG : P.map (·.1) = G at *
  have HG := Lib.hid hG
  have HGL : Hid (G.length = P.length) := by unfold Hid; rw [← hG, List.length_map]
  clear hG
  go_enter Tryz.func85, Tryz.ntmps85
  go_wp2_with fail
  go_loopw [8] (fun i wr => ∃ j : Nat, j ≤ P.length ∧ i = .int .i64 j ∧ Hid (∀ q x, q < j → G[q]? = some x → badR x = false) ∧ Hid (Below w.heap.size w wr)) (fun i _ => P.length - (intOf i).toNat)
  case atStart => exact ⟨0, by omega, rfl, fun q x h => by omega, Below.refl _ _⟩
  case round =>
    obtain ⟨j, hj, rfl, HQ, HBel⟩ := hrel
    have hws := HBel.out.size
    by_cases hlt : j < P.length
    · obtain ⟨p, hp⟩ : ∃ p, P[j]? = some p := ⟨_, List.getElem?_eq_getElem hlt⟩
      obtain ⟨b, off, cp, e1, hb, hc, x0, x1, hrd⟩ := RdP.at HR.out hp
      simp only [Value.slice.injEq] at e1
      obtain ⟨rfl, -, rfl⟩ := e1
      have X0 := (HBel.out.cell (p := ⟨b, _, none⟩) hb).trans x0
      have X1 := (HBel.out.cell (p := ⟨b, _, none⟩) hb).trans x1
      have hbw : b < wr.heap.size := by omega
      have HGP : Hid (G[j]? = some p.1) := by unfold Hid; rw [← HG.out, List.getElem?_map, hp]; rfl
      have hmem := List.mem_of_getElem? HGP.out
      have hbn : p.1.b.length ≤ 16777216 := Nat.le_trans (body_le hmem) HN.out
      have HC := Lib.hid (xBad_any p.1 p.2 wr (hrd.below HBel.out) hbn)
      obtain ⟨_, ao3, cp3, hv2, -⟩ := id hrd
      obtain ⟨⟨ph, pb⟩, pv⟩ := p
      simp only at hv2 X0 X1 HGP HC
      subst hv2
      clear x0 x1 hp hrd hbn hmem
      cases hd : badR ⟨ph, pb⟩ with
      | true =>
        rw [hd] at HC
        have HLg : Hid (SomeIx (G.any badR) j) := .inr ⟨by omega, List.any_eq_true.2 ⟨_, List.mem_of_getElem? HGP.out, hd⟩⟩
        clear hd
        go_wp2_with (go_at_call 62; refine (HC.out).mono ?_; rintro e w2 ⟨rfl, hb2⟩)
        go_ret
        exact ⟨_, rfl, HLg.out, HBel.out.trans (hb2.mono hws)⟩
      | false =>
        rw [hd] at HC
        have HQ2 : Hid (∀ q y, q < j + 1 → G[q]? = some y → badR y = false) := fun q y hq hy => by
          by_cases h : q = j
          · subst h; rw [HGP.out] at hy; injection hy with hy; subst hy; exact hd
          · exact HQ.out q y (by omega) hy
        clear hd
        go_wp2_with (go_at_call 62; refine (HC.out).mono ?_; rintro e w2 ⟨rfl, hb2⟩; have HB2 := Lib.hid hb2; clear hb2)
        go_roundw
        case rel => exact ⟨j + 1, by omega, by go_num, HQ2.out, HBel.out.trans (HB2.out.mono hws)⟩
        case measure => simp [intOf]; omega
    · have HLg : Hid (SomeIx (G.any badR) (-1)) := by
        refine .inl ⟨rfl, ?_⟩
        rw [List.any_eq_false]
        intro x hx
        obtain ⟨q, hq⟩ := List.getElem?_of_mem hx
        have := HQ.out q x (by have := (List.getElem?_eq_some_iff.1 hq).1; have := HGL.out; omega) hq
        simpa using this
      go_wp2_with fail
      go_ret
      exact ⟨_, rfl, HLg.out, HBel.out⟩
set_option maxRecDepth 100000 in
set_option maxHeartbeats 1600000 in
theorem xBadCo_any (v : Value) (G : List Ru) (w : World) (h : RdRu w v G) (hl : G.length ≤ 140737488355328) (hn : nodesG G ≤ 16777216) :
    Calls Tryz.prog 60 #[v, .func (.func 62) #[] #[]] w fun e w' => e = .returned (.bool (G.any badR)) ∧ Below w.heap.size w w' := by
  have HI := Lib.hid (xBadIx_any v G w h hl hn)
  obtain ⟨P, rfl, hR⟩ := h
  obtain ⟨⟨_, ao, cap, rfl, -⟩, -⟩ := hR
  generalize P.map (·.1) = G at *
  go_enter Tryz.func60, Tryz.ntmps60
  go_wp2_with fail
  refine (HI.out).mono ?_
  rintro e w1 ⟨r, rfl, HL, hb1⟩
  rcases HL.out with ⟨rfl, h2⟩ | ⟨h1, h2⟩
  · have H2 := Lib.hid h2
    clear h2 HL HI
    go_wp2_with fail
    go_ret
    exact ⟨by rw [H2.out]; rfl, hb1⟩
  · have H2 := Lib.hid h2
    clear h2 HL HI
    go_wp2_with fail
    go_ret
    exact ⟨by rw [H2.out]; simp, hb1⟩

set_option maxRecDepth 100000 in
set_option maxHeartbeats 1600000 in
theorem xDpIx_any (v : Value) (G : List Ru) (w : World) (h : RdRu w v G) (hl : G.length ≤ 140737488355328) (hn : nodesG G ≤ 16777216) (ht : treesB G = true) :
    Calls Tryz.prog 85 #[v, .func (.func 70) #[] #[]] w fun e w' => ∃ r, e = .returned (.int .i64 r) ∧ Hid (SomeIx (G.any deepR) r) ∧ Below w.heap.size w w' := by
  obtain ⟨P, rfl, hR⟩ := h
  have HR := Lib.hid hR
  have HN := Lib.hid hn
  obtain ⟨⟨_, ao, cap, rfl, -⟩, -⟩ := hR
  have hpl : P.length ≤ 140737488355328 := by rwa [List.length_map] at hl
  clear hn hl
  generalize hG : P.map (·.1) = G at *
  have HG := Lib.hid hG
  have HGL : Hid (G.length = P.length) := by unfold Hid; rw [← hG, List.length_map]
  clear hG
  have HTr := Lib.hid ht
  clear ht
  go_enter Tryz.func85, Tryz.ntmps85
  go_wp2_with fail
  go_loopw [8] (fun i wr => ∃ j : Nat, j ≤ P.length ∧ i = .int .i64 j ∧ Hid (∀ q x, q < j → G[q]? = some x → deepR x = false) ∧ Hid (Below w.heap.size w wr)) (fun i _ => P.length - (intOf i).toNat)
  case atStart => exact ⟨0, by omega, rfl, fun q x h => by omega, Below.refl _ _⟩
  case round =>
    obtain ⟨j, hj, rfl, HQ, HBel⟩ := hrel
    have hws := HBel.out.size
    by_cases hlt : j < P.length
    · obtain ⟨p, hp⟩ : ∃ p, P[j]? = some p := ⟨_, List.getElem?_eq_getElem hlt⟩
      obtain ⟨b, off, cp, e1, hb, hc, x0, x1, hrd⟩ := RdP.at HR.out hp
      simp only [Value.slice.injEq] at e1
      obtain ⟨rfl, -, rfl⟩ := e1
      have X0 := (HBel.out.cell (p := ⟨b, _, none⟩) hb).trans x0
      have X1 := (HBel.out.cell (p := ⟨b, _, none⟩) hb).trans x1
      have hbw : b < wr.heap.size := by omega
      have HGP : Hid (G[j]? = some p.1) := by unfold Hid; rw [← HG.out, List.getElem?_map, hp]; rfl
      have hmem := List.mem_of_getElem? HGP.out
      have hbn : p.1.b.length ≤ 16777216 := Nat.le_trans (body_le hmem) HN.out
      have HC := Lib.hid (xDeepR_any p.1 p.2 wr (hrd.below HBel.out) hbn (trees_mem HTr.out hmem).2)
      obtain ⟨_, ao3, cp3, hv2, -⟩ := id hrd
      obtain ⟨⟨ph, pb⟩, pv⟩ := p
      simp only at hv2 X0 X1 HGP HC
      subst hv2
      clear x0 x1 hp hrd hbn hmem
      cases hd : deepR ⟨ph, pb⟩ with
      | true =>
        rw [hd] at HC
        have HLg : Hid (SomeIx (G.any deepR) j) := .inr ⟨by omega, List.any_eq_true.2 ⟨_, List.mem_of_getElem? HGP.out, hd⟩⟩
        clear hd
        go_wp2_with (go_at_call 70; refine (HC.out).mono ?_; rintro e w2 ⟨rfl, hb2⟩)
        go_ret
        exact ⟨_, rfl, HLg.out, HBel.out.trans (hb2.mono hws)⟩
      | false =>
        rw [hd] at HC
        have HQ2 : Hid (∀ q y, q < j + 1 → G[q]? = some y → deepR y = false) := fun q y hq hy => by
          by_cases h : q = j
          · subst h; rw [HGP.out] at hy; injection hy with hy; subst hy; exact hd
          · exact HQ.out q y (by omega) hy
        clear hd
        go_wp2_with (go_at_call 70; refine (HC.out).mono ?_; rintro e w2 ⟨rfl, hb2⟩; have HB2 := Lib.hid hb2; clear hb2)
        go_roundw
        case rel => exact ⟨j + 1, by omega, by go_num, HQ2.out, HBel.out.trans (HB2.out.mono hws)⟩
        case measure => simp [intOf]; omega
    · have HLg : Hid (SomeIx (G.any deepR) (-1)) := by
        refine .inl ⟨rfl, ?_⟩
        rw [List.any_eq_false]
        intro x hx
        obtain ⟨q, hq⟩ := List.getElem?_of_mem hx
        have := HQ.out q x (by have := (List.getElem?_eq_some_iff.1 hq).1; have := HGL.out; omega) hq
        simpa using this
      go_wp2_with fail
      go_ret
      exact ⟨_, rfl, HLg.out, HBel.out⟩
set_option maxRecDepth 100000 in
set_option maxHeartbeats 1600000 in
theorem xDpCo_any (v : Value) (G : List Ru) (w : World) (h : RdRu w v G) (hl : G.length ≤ 140737488355328) (hn : nodesG G ≤ 16777216) (ht : treesB G = true) :
    Calls Tryz.prog 60 #[v, .func (.func 70) #[] #[]] w fun e w' => e = .returned (.bool (G.any deepR)) ∧ Below w.heap.size w w' := by
  have HI := Lib.hid (xDpIx_any v G w h hl hn ht)
  obtain ⟨P, rfl, hR⟩ := h
  obtain ⟨⟨_, ao, cap, rfl, -⟩, -⟩ := hR
  generalize P.map (·.1) = G at *
  go_enter Tryz.func60, Tryz.ntmps60
  go_wp2_with fail
  refine (HI.out).mono ?_
  rintro e w1 ⟨r, rfl, HL, hb1⟩
  rcases HL.out with ⟨rfl, h2⟩ | ⟨h1, h2⟩
  · have H2 := Lib.hid h2
    clear h2 HL HI
    go_wp2_with fail
    go_ret
    exact ⟨by rw [H2.out]; rfl, hb1⟩
  · have H2 := Lib.hid h2
    clear h2 HL HI
    go_wp2_with fail
    go_ret
    exact ⟨by rw [H2.out]; simp, hb1⟩
end Go.Proofs.YtfmcbpnhpckmjaaGreat
namespace Go.Proofs.YtfmcbpnhpckmjaaGreat
open Go.Shelf Go.RowKit
def bldRen : Go.Shelf.Ren := ⟨fun | 170 => 93 | 156 => 120 | 165 => 129 | 166 => 91 | 169 => 92 | 240 => 102 | 241 => 131 | 276 => 122 | 277 => 132 | n => n, fun | 31 => 27 | 9 => 9 | 3 => 3 | 4 => 4 | 0 => 0 | 20 => 20 | 72 => 119 | 76 => 123 | 70 => 116 | 37 => 117 | 75 => 122 | 127 => 136 | 164 => 155 | 5 => 5 | 80 => 125 | n => n, fun | n => n⟩
theorem bldW : Go.Proofs.Lays.n166 Tryz.prog Tryz.lays156_ren := {
  mixed := by kernel_rfl
  f166 := Tryz.func91.trans (congrArg some (by kernel_rfl))
  f240 := Tryz.func102.trans (congrArg some (by kernel_rfl))
  f276 := Tryz.func122.trans (congrArg some (by kernel_rfl))
  t0 := Tryz.underlying0
  a0 := Tryz.isAgg0
  z0 := Tryz.sizeOf0
  v0 := Tryz.zeroValue0
  t3 := Tryz.underlying3
  a3 := Tryz.isAgg3
  z3 := Tryz.sizeOf3
  v3 := Tryz.zeroValue3
  t4 := Tryz.underlying4
  a4 := Tryz.isAgg4
  z4 := Tryz.sizeOf4
  v4 := Tryz.zeroValue4
  t9 := Tryz.underlying9
  a9 := Tryz.isAgg9
  z9 := Tryz.sizeOf9
  v9 := Tryz.zeroValue9
  t20 := Tryz.underlying20
  a20 := Tryz.isAgg20
  z20 := Tryz.sizeOf20
  v20 := Tryz.zeroValue20
  t37 := Tryz.underlying117
  a37 := Tryz.isAgg117
  z37 := Tryz.sizeOf117
  v37 := Tryz.zeroValue117
  t70 := Tryz.underlying116
  a70 := Tryz.isAgg116
  z70 := Tryz.sizeOf116
  v70 := Tryz.zeroValue116
  t72 := Tryz.underlying119
  a72 := Tryz.isAgg119
  z72 := Tryz.sizeOf119
  v72 := Tryz.zeroValue119
  t75 := Tryz.underlying122
  a75 := Tryz.isAgg122
  z75 := Tryz.sizeOf122
  v75 := Tryz.zeroValue122
  t164 := Tryz.underlying155
  a164 := Tryz.isAgg155
  z164 := Tryz.sizeOf155
  v164 := Tryz.zeroValue155 }
theorem bldS : Go.Proofs.Lays.n169 Tryz.prog Tryz.lays156_ren := {
  mixed := by kernel_rfl
  f169 := Tryz.func92.trans (congrArg some (by kernel_rfl))
  t0 := Tryz.underlying0
  a0 := Tryz.isAgg0
  z0 := Tryz.sizeOf0
  v0 := Tryz.zeroValue0
  t3 := Tryz.underlying3
  a3 := Tryz.isAgg3
  z3 := Tryz.sizeOf3
  v3 := Tryz.zeroValue3
  t9 := Tryz.underlying9
  a9 := Tryz.isAgg9
  z9 := Tryz.sizeOf9
  v9 := Tryz.zeroValue9
  t37 := Tryz.underlying117
  a37 := Tryz.isAgg117
  z37 := Tryz.sizeOf117
  v37 := Tryz.zeroValue117
  t70 := Tryz.underlying116
  a70 := Tryz.isAgg116
  z70 := Tryz.sizeOf116
  v70 := Tryz.zeroValue116
  t72 := Tryz.underlying119
  a72 := Tryz.isAgg119
  z72 := Tryz.sizeOf119
  v72 := Tryz.zeroValue119
  t127 := Tryz.underlying136
  a127 := Tryz.isAgg136
  z127 := Tryz.sizeOf136
  v127 := Tryz.zeroValue136 }
theorem bldL : Go.Proofs.Lays.n170 Tryz.prog bldRen := {
  mixed := by kernel_rfl
  f170 := Tryz.func93.trans (congrArg some (by kernel_rfl))
  t0 := Tryz.underlying0
  a0 := Tryz.isAgg0
  z0 := Tryz.sizeOf0
  v0 := Tryz.zeroValue0
  t3 := Tryz.underlying3
  a3 := Tryz.isAgg3
  z3 := Tryz.sizeOf3
  v3 := Tryz.zeroValue3
  t37 := Tryz.underlying117
  a37 := Tryz.isAgg117
  z37 := Tryz.sizeOf117
  v37 := Tryz.zeroValue117
  t70 := Tryz.underlying116
  a70 := Tryz.isAgg116
  z70 := Tryz.sizeOf116
  v70 := Tryz.zeroValue116
  t72 := Tryz.underlying119
  a72 := Tryz.isAgg119
  z72 := Tryz.sizeOf119
  v72 := Tryz.zeroValue119 }
theorem bld_write (s : ByteArray) (w : World) (B b : Nat) (bs : List Value) (h : Lib.IsBuilder 119 5 B b bs w) (hlen : bs.length + s.size ≤ 140737488355328) (hBw : B ≤ w.heap.size) :
    Calls Tryz.prog 91 #[.pointer (some ⟨b, 0, none⟩), .string s] w fun e w' => e = .returned (.tuple #[.int .i64 s.size, .nilIface]) ∧ (Lib.BuilderAt 119 5 B b (.pointer (some ⟨b, 0, none⟩)) (bs ++ Lib.strCells s) w' ∧ Below B w w') :=
  Any.Builder_WriteString bldW Tryz.Builder_Extra_156 B b bs s w h hlen hBw
theorem bld_string (w : World) (B b : Nat) (s : ByteArray) (h : Lib.IsBuilder 119 5 B b (Lib.strCells s) w) (hBw : B ≤ w.heap.size) :
    Calls Tryz.prog 92 #[.pointer (some ⟨b, 0, none⟩)] w fun e w' => e = .returned (.string s) ∧ Lib.IsBuilderF 119 5 B b (Lib.strCells s) w' ∧ Below B w w' :=
  Any.Builder_String_any_f bldS Tryz.Builder_Extra_156 B b s.data.toList w (Lib.IsBuilderF.of h) hBw
theorem bld_len (w : World) (B b : Nat) (bs : List Value) (h : Lib.IsBuilderF 119 5 B b bs w) :
    Calls Tryz.prog 93 #[.pointer (some ⟨b, 0, none⟩)] w fun e w' => e = .returned (.int .i64 bs.length) ∧ w' = w :=
  Any.Builder_Len_f bldL B b bs w h
end Go.Proofs.YtfmcbpnhpckmjaaGreat
namespace Go.Proofs.YtfmcbpnhpckmjaaGreat
open Go.RowKit

/-! ### the occurrences -/
set_option maxRecDepth 100000 in
set_option maxHeartbeats 3200000 in
theorem xOccG_any (v : Value) (G : List Ru) (w : World) (h : RdRu w v G) (hl : LimG G) :
    Calls Tryz.prog 69 #[v] w fun e w' => e = .returned (.int .i64 (occG G)) ∧ Below w.heap.size w w' := by
  obtain ⟨P, rfl, hR⟩ := h
  have HR := Lib.hid hR
  have HL := Lib.hid hl
  obtain ⟨⟨_, ao, cap, rfl, -⟩, -⟩ := hR
  have hpl : P.length ≤ 4398046511104 := by have := hl.len; rwa [List.length_map] at this
  clear hl
  generalize hG : P.map (·.1) = G at *
  have HG := Lib.hid hG
  have HGL : Hid (G.length = P.length) := by unfold Hid; rw [← hG, List.length_map]
  clear hG
  have hle : Hid (∀ j, occG (G.take j) ≤ 4398046511104) := fun j => Nat.le_trans (occG_len _) (Nat.le_trans (nodesG_le G j) HL.out.nodes)
  go_enter Tryz.func69, Tryz.ntmps69
  go_wp2_with fail
  go_loopw [3, 8] (fun o i wr => ∃ j : Nat, i = .int .i64 j ∧ o = .int .i64 (occG (G.take j)) ∧ j ≤ P.length ∧ Hid (Below w.heap.size w wr)) (fun _ i _ => P.length - (intOf i).toNat)
  case atStart => exact ⟨0, rfl, rfl, by omega, Below.refl _ _⟩
  case round =>
    obtain ⟨j, rfl, rfl, hj, HBel⟩ := hrel
    have hws := HBel.out.size
    by_cases hlt : j < P.length
    · obtain ⟨p, hp⟩ : ∃ p, P[j]? = some p := ⟨_, List.getElem?_eq_getElem hlt⟩
      obtain ⟨b, off, cp, e1, hb, hc, x0, x1, hrd⟩ := RdP.at HR.out hp
      simp only [Value.slice.injEq] at e1
      obtain ⟨rfl, -, rfl⟩ := e1
      have X0 := (HBel.out.cell (p := ⟨b, _, none⟩) hb).trans x0
      have X1 := (HBel.out.cell (p := ⟨b, _, none⟩) hb).trans x1
      have hbw : b < wr.heap.size := by omega
      have HGP : Hid (G[j]? = some p.1) := by unfold Hid; rw [← HG.out, List.getElem?_map, hp]; rfl
      have hbl : p.1.b.length ≤ 4398046511104 := Nat.le_trans (body_le (List.mem_of_getElem? HGP.out)) HL.out.nodes
      have HC := Lib.hid (fun wx h => xOcc_any p.2 p.1.b wx h hbl)
      have HT := Lib.hid (occG_take G HGP.out)
      have h1 := hle.out j
      have h2 := hle.out (j + 1)
      rw [HT.out] at h2
      have HV := Lib.hid (hrd.below HBel.out)
      obtain ⟨_, ao3, cp3, hv2, -⟩ := id hrd
      obtain ⟨⟨ph, pb⟩, pv⟩ := p
      simp only at hv2 X0 X1 HGP HC HT HV h2
      subst hv2
      clear x0 x1 hp hrd hbl
      generalize (nmF pb 0).length = oc at *
      generalize occG (G.take j) = oj at *
      go_wp2_with (go_at_call 89; refine (HC.out _ (HV.out.below (below1 wr _))).mono ?_; rintro e w2 ⟨rfl, hb2⟩; have HB2 := Lib.hid (HBel.out.trans (((below1 wr _).trans (hb2.mono (by simp))).mono hws)); clear hb2)
      go_roundw
      case rel => exact ⟨j + 1, by go_num, by rw [HT.out]; simp, by omega, HB2.out⟩
      case measure => simp [intOf]; omega
    · obtain rfl : j = P.length := by omega
      have HE : Hid (occG (G.take P.length) = occG G) := by unfold Hid; rw [List.take_of_length_le (by have := HGL.out; omega)]
      go_wp2_with fail
      go_ret
      rw [HE.out]
      exact ⟨rfl, HBel.out⟩
/-! ### the text -/
theorem isB_below {T e : TypeId} {B b : Nat} {bs : List Value} {w w' : World} (h : Lib.IsBuilder T e B b bs w) (hb : Below w.heap.size w w') : Lib.IsBuilder T e B b bs w' := by
  have key : ∀ p, Lib.BuilderAt T e B b p bs w → Lib.BuilderAt T e B b p bs w' := by
    rintro p ⟨h1, v, h2, h3, h4⟩
    exact ⟨h1, v, (hb.block b (Lib.BuilderAt.lt ⟨h1, v, h2, h3, h4⟩)).trans h2, own_grown h3 (grown_below hb) (fun j hj => by cases hj), h4⟩
  exact h.elim (fun h => .inl (key _ h)) (fun h => .inr (key _ h))
theorem isB_lt {T e : TypeId} {B b : Nat} {bs : List Value} {w : World} (h : Lib.IsBuilder T e B b bs w) : b < w.heap.size := h.elim (·.lt) (·.lt)
theorem strCells_app (a b : ByteArray) : Lib.strCells (a ++ b) = Lib.strCells a ++ Lib.strCells b := by
  simp [Lib.strCells, ByteArray.data_append]
theorem strCells_len (a : ByteArray) : (Lib.strCells a).length = a.size := Lib.strCells_length a
/-- a body's printing: its text, or it is too wide -/
theorem prS_deep {N : List Nd} (ht : treeB N = true) (hd : ¬ 16 < heightN N) : (PrS N (textN N) 0 ∧ (textN N).size ≤ 2048) ∨ (∃ e, e ≠ 0 ∧ PrS N ⟨#[]⟩ e ∧ 2048 < (textN N).size) := by
  have hG := pickT_good ht
  have hh := heightN_eq hG
  have htx := textN_eq hG
  have hmin := good_min hG
  generalize (pickT N).1 = x at *
  generalize (pickT N).2 = k at *
  rw [htx]
  by_cases h1 : 2048 < (txN x k.tx).size
  · right
    by_cases h2 : 2048 < N.length
    · exact ⟨3, by omega, .inl ⟨by omega, .inl ⟨h2, rfl⟩, rfl⟩, h1⟩
    · exact ⟨174, by omega, .inl ⟨by omega, .inr (.inr ⟨by omega, x, k, hG, by unfold boundsF; rw [if_neg (by omega), if_pos h1]⟩), rfl⟩, h1⟩
  · left
    exact ⟨.inr ⟨rfl, by omega, x, k, hG, by unfold boundsF; rw [if_neg (by omega), if_neg h1], rfl⟩, by omega⟩
set_option maxRecDepth 100000 in
set_option maxHeartbeats 3200000 in
theorem xText_any (v : Value) (G : List Ru) (w : World) (h : RdRu w v G) (hl : G.length ≤ 64) (hn : nodesG G ≤ 16777216) (ht : treesB G = true) (hd : deepB G = false) :
    Calls Tryz.prog 73 #[v] w fun e w' => ∃ t, e = .returned (.tuple #[.string t, .bool (decide ((textG G).size ≤ 2048))]) ∧ ((textG G).size ≤ 2048 → t = textG G) ∧ Below w.heap.size w w' := by
  obtain ⟨P, rfl, hR⟩ := h
  have HR := Lib.hid hR
  have HTr := Lib.hid ht
  have HDp := Lib.hid hd
  have HN := Lib.hid hn
  obtain ⟨⟨_, ao, cap, rfl, -⟩, -⟩ := hR
  have hpl : P.length ≤ 64 := by rwa [List.length_map] at hl
  have hts := text_size _ ht
  rw [List.length_map] at hts
  have hts2 : (textG (P.map (·.1))).size ≤ 1099511627776 := by omega
  clear hl ht hd hn hts
  generalize hG : P.map (·.1) = G at *
  have HG := Lib.hid hG
  have HGL : Hid (G.length = P.length) := by unfold Hid; rw [← hG, List.length_map]
  clear hG
  have HTS := Lib.hid hts2
  clear hts2
  go_enter Tryz.func73, Tryz.ntmps73
  go_wp2_with fail
  go_loopw [11] (fun i wr => ∃ j : Nat, i = .int .i64 j ∧ j ≤ P.length ∧ Hid (Lib.IsBuilder 119 5 w.heap.size w.heap.size (Lib.strCells (textG (G.take j))) wr) ∧ Hid (Below w.heap.size w wr)) (fun i _ => P.length - (intOf i).toNat)
  case atStart => exact ⟨0, rfl, by omega, Lib.fresh_isBuilder _ _ w, below1 _ _⟩
  case round =>
    obtain ⟨j, rfl, hj, HBd, HBel⟩ := hrel
    have hws := HBel.out.size
    have hbw0 := isB_lt HBd.out
    by_cases hlt : j < P.length
    · obtain ⟨p, hp⟩ : ∃ p, P[j]? = some p := ⟨_, List.getElem?_eq_getElem hlt⟩
      obtain ⟨b, off, cp, e1, hb, hc, x0, x1, hrd⟩ := RdP.at HR.out hp
      simp only [Value.slice.injEq] at e1
      obtain ⟨rfl, -, rfl⟩ := e1
      have X0 := (HBel.out.cell (p := ⟨b, _, none⟩) hb).trans x0
      have X1 := (HBel.out.cell (p := ⟨b, _, none⟩) hb).trans x1
      have hbw : b < wr.heap.size := by omega
      have HGP : Hid (G[j]? = some p.1) := by unfold Hid; rw [← HG.out, List.getElem?_map, hp]; rfl
      have hmem := List.mem_of_getElem? HGP.out
      have hbl : p.1.b.length ≤ 4398046511104 := Nat.le_trans (body_le hmem) (by have := HN.out; omega)
      obtain ⟨hnm, htr⟩ := trees_mem HTr.out hmem
      have hdr : ¬ 16 < heightN p.1.b := by
        have h2 : (G.any fun r => decide (16 < heightN r.b)) = false := HDp.out
        rw [List.any_eq_false] at h2
        simpa using h2 _ hmem
      have HV := Lib.hid (hrd.below HBel.out)
      have HP := Lib.hid (fun t e wx h hS => xPrint_any p.2 p.1.b t e wx h hS hbl)
      have HT := Lib.hid (textG_take G HGP.out)
      have hle := textG_le G (j + 1)
      rw [HT.out, ByteArray.size_append] at hle
      have hru := rule_le G hmem
      have hsum : (textR p.1).size = p.1.h.size + 3 + (textN p.1.b).size + 3 := by
        unfold textR; rw [ByteArray.size_append, ByteArray.size_append, ByteArray.size_append]; rfl
      have htx := HTS.out
      have HTR : Hid (textR p.1 = p.1.h ++ (⟨#[32, 61, 32]⟩ : ByteArray) ++ textN p.1.b ++ (⟨#[32, 59, 10]⟩ : ByteArray)) := rfl
      obtain ⟨_, ao3, cp3, hv2, -⟩ := id hrd
      have hcase := prS_deep htr hdr
      obtain ⟨⟨ph, pb⟩, pv⟩ := p
      simp only at hv2 X0 X1 HGP HP HT HV hle hru hsum hcase HTR
      subst hv2
      clear x0 x1 hp hrd hbl hmem hnm htr hdr
      have HB1 : Hid (Below w.heap.size w (wr.alloc (.cells #[.string ph, .slice ao3 pb.length cp3] 38))) := HBel.out.alloc hws _
      have HBd1 : Hid (Lib.IsBuilder 119 5 w.heap.size w.heap.size (Lib.strCells (textG (G.take j))) (wr.alloc (.cells #[.string ph, .slice ao3 pb.length cp3] 38))) := isB_below HBd.out (below1 _ _)
      have HV1 : Hid (RdNd (wr.alloc (.cells #[.string ph, .slice ao3 pb.length cp3] 38)) (.slice ao3 pb.length cp3) pb) := HV.out.below (below1 _ _)
      have c0 : (wr.alloc (.cells #[.string ph, .slice ao3 pb.length cp3] 38)).cell? ⟨wr.heap.size, 0, none⟩ = some (.string ph) := by simp
      have hsz : wr.heap.size + 1 ≤ (wr.alloc (.cells #[.string ph, .slice ao3 pb.length cp3] 38)).heap.size := by simp
      go_wp2_with fail
      generalize wr.alloc (.cells #[.string ph, .slice ao3 pb.length cp3] 38) = w1 at *
      clear X0 X1 HBel HBd HV
      rcases hcase with ⟨hS, hw⟩ | ⟨e, he, hS, hw⟩
      · refine (HP.out _ _ _ HV1.out hS).mono ?_
        rintro en w2 ⟨rfl, hb2⟩
        have C0 := (hb2.cell (p := ⟨wr.heap.size, 0, none⟩) (by show wr.heap.size < w1.heap.size; omega)).trans c0
        have HB2 := Lib.hid (HB1.out.trans (hb2.mono HB1.out.size))
        have HBd2 := Lib.hid (isB_below HBd1.out hb2)
        have hw2 := hb2.size
        clear hb2 c0 hS HP
        have hcl : (Lib.strCells (textG (G.take j))).length = (textG (G.take j)).size := strCells_len _
        have HWS := Lib.hid (fun s hs => Go.Proofs.YtfmcbpnhpckmjaaGreat.bld_write s w2 _ _ _ HBd2.out hs (by have := HB2.out.size; omega))
        generalize textN pb = tn at *
        have he1 : (⟨#[32, 61, 32]⟩ : ByteArray).size = 3 := rfl
        have he2 : (⟨#[32, 59, 10]⟩ : ByteArray).size = 3 := rfl
        go_wp2_with (go_at_call 91; refine (HWS.out _ (by rw [hcl, ByteArray.size_append, ByteArray.size_append, ByteArray.size_append, he1, he2]; omega)).mono ?_; rintro en w3 ⟨rfl, hbd3, hb3⟩; have HBd3 := Lib.hid hbd3; have HB3 := Lib.hid hb3; clear hbd3 hb3)
        go_roundw
        case rel =>
          refine ⟨j + 1, by go_num, by omega, ?_, HB2.out.trans HB3.out⟩
          have := HBd3.out
          unfold Hid
          rw [HT.out, HTR.out, strCells_app]
          exact .inr this
        case measure => simp [intOf]; omega
      · refine (HP.out _ _ _ HV1.out hS).mono ?_
        rintro en w2 ⟨rfl, hb2⟩
        have HB2 := Lib.hid (HB1.out.trans (hb2.mono HB1.out.size))
        have hbig : ¬ (textG G).size ≤ 2048 := by omega
        have hbd : decide ((textG G).size ≤ 2048) = false := by simpa using hbig
        have HD := Lib.hid hbd
        have HBg := Lib.hid hbig
        clear hb2 hS HP hbd hbig
        go_wp2_with fail
        go_ret2
        exact ⟨⟨#[]⟩, by rw [HD.out]; rfl, fun h => absurd h HBg.out, HB2.out⟩
    · obtain rfl : j = P.length := by omega
      have HE : Hid (G.take P.length = G) := by unfold Hid; rw [List.take_of_length_le (by have := HGL.out; omega)]
      rw [HE.out] at HBd
      have HS := Lib.hid (Go.Proofs.YtfmcbpnhpckmjaaGreat.bld_string wr _ _ (textG G) HBd.out (by omega))
      have HLn := Lib.hid (fun wx h => Go.Proofs.YtfmcbpnhpckmjaaGreat.bld_len wx w.heap.size w.heap.size (Lib.strCells (textG G)) h)
      have hcl : (Lib.strCells (textG G)).length = (textG G).size := strCells_len _
      have htx := HTS.out
      generalize (Lib.strCells (textG G)).length = ln at *
      have hd : decide (((textG G).size : Int) ≤ 2048) = decide ((textG G).size ≤ 2048) := by congr 1; simp; omega
      have HD := Lib.hid hd
      clear hd
      go_wp2_with fail
      refine (HS.out).mono ?_
      rintro en w2 ⟨rfl, hF, hb2⟩
      have HB2 := Lib.hid (HBel.out.trans hb2)
      have HF := Lib.hid hF
      clear hF hb2
      go_wp2_with fail
      refine (HLn.out _ HF.out).mono ?_
      rintro en w3 ⟨rfl, rfl⟩
      go_wp2_with fail
      go_ret2
      refine ⟨_, by rw [← HD.out]; rfl, fun _ => rfl, HB2.out⟩
end Go.Proofs.YtfmcbpnhpckmjaaGreat
namespace Go.Proofs.YtfmcbpnhpckmjaaGreat
open Go.RowKit

theorem any_bad (G : List Ru) : G.any badR = !treesB G := by
  unfold treesB
  induction G with
  | nil => rfl
  | cons r G ih => rw [List.any_cons, List.all_cons, ih, Bool.not_and]; rfl
theorem any_deep (G : List Ru) : G.any deepR = deepB G := rfl
def fnV (n : Nat) : Value := .func (.func n) #[] #[]
/-! ### the questions -/
set_option maxRecDepth 100000 in
set_option maxHeartbeats 1600000 in
theorem xQ0_any (v : Value) (G : List Ru) (w : World) (h : RdRu w v G) :
    Calls Tryz.prog 61 #[v] w fun e w' => e = .returned (.bool (ansQ G 0)) ∧ Below w.heap.size w w' := by
  obtain ⟨P, rfl, hR⟩ := h
  obtain ⟨⟨_, ao, cap, rfl, -⟩, -⟩ := hR
  have HA : Hid (ansQ (P.map (·.1)) 0 = decide (P.length < 1 ∨ 64 < P.length)) := by
    show decide ((P.map (·.1)).length < 1 ∨ 64 < (P.map (·.1)).length) = _
    rw [List.length_map]
  generalize ansQ (P.map (·.1)) 0 = q at *
  generalize P.length = n at *
  by_cases h1 : n < 1
  · go_enter Tryz.func61, Tryz.ntmps61
    go_wp2_with fail
    go_ret
    exact ⟨by rw [HA.out, decide_eq_true (.inl h1)]; rfl, Below.refl _ _⟩
  · have hd : decide (n < 1 ∨ 64 < n) = (decide ((n : Int) < 1) || decide ((64 : Int) < n)) := by rw [← Bool.decide_or, decide_eq_decide]; omega
    rw [hd] at HA
    clear hd
    go_enter Tryz.func61, Tryz.ntmps61
    go_wp2_with fail
    go_ret
    exact ⟨by rw [HA.out]; rfl, Below.refl _ _⟩
set_option maxRecDepth 100000 in
set_option maxHeartbeats 1600000 in
theorem xQ1_any (v : Value) (G : List Ru) (bx : Nat) (w : World) (h : RdRu w v G) (hl : G.length ≤ 140737488355328) (hn : nodesG G ≤ 16777216) (hx : w.cell? ⟨bx, 0, none⟩ = some (.func (.func 62) #[] #[])) :
    Calls Tryz.prog 59 #[v, .pointer (some ⟨bx, 0, none⟩)] w fun e w' => e = .returned (.bool (ansQ G 1)) ∧ Below w.heap.size w w' := by
  have HC := Lib.hid (xBadCo_any v G w h hl hn)
  have HA : Hid (ansQ G 1 = G.any badR) := (any_bad G).symm
  obtain ⟨P, rfl, hR⟩ := h
  obtain ⟨⟨_, ao, cap, rfl, -⟩, -⟩ := hR
  clear hn hl
  generalize P.map (·.1) = G at *
  go_enter Tryz.func59, Tryz.ntmps59
  go_wp2_with fail
  refine (HC.out).mono ?_
  rintro e w2 ⟨rfl, hb2⟩
  go_wp2_with fail
  go_ret
  exact ⟨by rw [HA.out]; rfl, hb2⟩
set_option maxRecDepth 100000 in
set_option maxHeartbeats 1600000 in
theorem xQ5_any (v : Value) (G : List Ru) (bx : Nat) (w : World) (h : RdRu w v G) (hl : G.length ≤ 140737488355328) (hn : nodesG G ≤ 16777216) (ht : treesB G = true) (hx : w.cell? ⟨bx, 0, none⟩ = some (.func (.func 70) #[] #[])) :
    Calls Tryz.prog 59 #[v, .pointer (some ⟨bx, 0, none⟩)] w fun e w' => e = .returned (.bool (ansQ G 5)) ∧ Below w.heap.size w w' := by
  have HC := Lib.hid (xDpCo_any v G w h hl hn ht)
  have HA : Hid (ansQ G 5 = G.any deepR) := rfl
  obtain ⟨P, rfl, hR⟩ := h
  obtain ⟨⟨_, ao, cap, rfl, -⟩, -⟩ := hR
  clear hn hl ht
  generalize P.map (·.1) = G at *
  go_enter Tryz.func59, Tryz.ntmps59
  go_wp2_with fail
  refine (HC.out).mono ?_
  rintro e w2 ⟨rfl, hb2⟩
  go_wp2_with fail
  go_ret
  exact ⟨by rw [HA.out]; rfl, hb2⟩
set_option maxRecDepth 100000 in
set_option maxHeartbeats 1600000 in
theorem xQ2_any (v : Value) (G : List Ru) (w : World) (h : RdRu w v G) (hl : LimG G) :
    Calls Tryz.prog 65 #[v] w fun e w' => e = .returned (.bool (ansQ G 2)) ∧ Below w.heap.size w w' := by
  have H1 := Lib.hid (xHeads_any v G w h hl)
  have H2 := Lib.hid (fun w h => xMissing_any v G w h hl)
  have HV := Lib.hid h
  have hm : missing G ≤ 4398046511104 := by
    unfold missing
    exact Nat.le_trans (List.length_filter_le _ _) (Nat.le_trans (used_len 2 G) hl.nodes)
  have hh : (heads G).length ≤ 4398046511104 := Nat.le_trans (heads_len G) hl.len
  have HA : Hid (ansQ G 2 = decide (16 < (heads G).length + missing G)) := rfl
  obtain ⟨P, rfl, hR⟩ := h
  obtain ⟨⟨_, ao, cap, rfl, -⟩, -⟩ := hR
  clear hl
  generalize P.map (·.1) = G at *
  generalize ansQ G 2 = q at *
  go_enter Tryz.func65, Tryz.ntmps65
  go_wp2_with fail
  refine (H1.out).mono ?_
  rintro e w1 ⟨v1, rfl, ho1, hb1⟩
  obtain ⟨ao1, cp1, rfl⟩ := own_str_shape ho1
  have HB1 := Lib.hid hb1
  clear ho1 hb1
  generalize (heads G).length = nh at *
  go_wp2_with fail
  refine (H2.out _ (HV.out.below HB1.out)).mono ?_
  rintro e w2 ⟨rfl, hb2⟩
  have HB2 := Lib.hid (HB1.out.trans (hb2.mono HB1.out.size))
  clear hb2
  generalize missing G = nm at *
  go_wp2_with fail
  go_ret
  exact ⟨by rw [HA.out]; congr 1; simp; omega, HB2.out⟩
set_option maxRecDepth 100000 in
set_option maxHeartbeats 1600000 in
theorem xQ3_any (v : Value) (G : List Ru) (w : World) (h : RdRu w v G) (hl : LimG G) :
    Calls Tryz.prog 67 #[v] w fun e w' => e = .returned (.bool (ansQ G 3)) ∧ Below w.heap.size w w' := by
  have H1 := Lib.hid (xLabels_any v G w h hl)
  have hh : (used 3 G).length ≤ 4398046511104 := Nat.le_trans (used_len 3 G) hl.nodes
  have HA : Hid (ansQ G 3 = decide (16 < (used 3 G).length)) := rfl
  obtain ⟨P, rfl, hR⟩ := h
  obtain ⟨⟨_, ao, cap, rfl, -⟩, -⟩ := hR
  clear hl
  generalize P.map (·.1) = G at *
  generalize ansQ G 3 = q at *
  go_enter Tryz.func67, Tryz.ntmps67
  go_wp2_with fail
  refine (H1.out).mono ?_
  rintro e w1 ⟨v1, rfl, ho1, hb1⟩
  obtain ⟨ao1, cp1, rfl⟩ := own_str_shape ho1
  have HB1 := Lib.hid hb1
  clear ho1 hb1
  generalize (used 3 G).length = nh at *
  go_wp2_with fail
  go_ret
  exact ⟨by rw [HA.out]; congr 1; simp; omega, HB1.out⟩
set_option maxRecDepth 100000 in
set_option maxHeartbeats 1600000 in
theorem xQ4_any (v : Value) (G : List Ru) (w : World) (h : RdRu w v G) (hl : LimG G) :
    Calls Tryz.prog 68 #[v] w fun e w' => e = .returned (.bool (ansQ G 4)) ∧ Below w.heap.size w w' := by
  have H1 := Lib.hid (xOccG_any v G w h hl)
  have HA : Hid (ansQ G 4 = decide (64 < occG G)) := rfl
  obtain ⟨P, rfl, hR⟩ := h
  obtain ⟨⟨_, ao, cap, rfl, -⟩, -⟩ := hR
  clear hl
  generalize P.map (·.1) = G at *
  generalize ansQ G 4 = q at *
  generalize occG G = oc at *
  go_enter Tryz.func68, Tryz.ntmps68
  go_wp2_with fail
  refine (H1.out).mono ?_
  rintro e w1 ⟨rfl, hb1⟩
  go_wp2_with fail
  go_ret
  exact ⟨by rw [HA.out]; congr 1; simp; omega, hb1⟩
set_option maxRecDepth 100000 in
set_option maxHeartbeats 1600000 in
theorem xQ6_any (v : Value) (G : List Ru) (w : World) (h : RdRu w v G) (hl : LimG G) :
    Calls Tryz.prog 71 #[v] w fun e w' => e = .returned (.bool (ansQ G 6)) ∧ Below w.heap.size w w' := by
  have H1 := Lib.hid (xMissing_any v G w h hl)
  have HA : Hid (ansQ G 6 = decide (0 < missing G)) := rfl
  obtain ⟨P, rfl, hR⟩ := h
  obtain ⟨⟨_, ao, cap, rfl, -⟩, -⟩ := hR
  clear hl
  generalize P.map (·.1) = G at *
  generalize ansQ G 6 = q at *
  generalize missing G = oc at *
  go_enter Tryz.func71, Tryz.ntmps71
  go_wp2_with fail
  refine (H1.out).mono ?_
  rintro e w1 ⟨rfl, hb1⟩
  go_wp2_with fail
  go_ret
  exact ⟨by rw [HA.out]; first | rfl | (congr 1; simp), hb1⟩
set_option maxRecDepth 100000 in
set_option maxHeartbeats 1600000 in
theorem xQ7_any (v : Value) (G : List Ru) (w : World) (h : RdRu w v G) (hl : G.length ≤ 64) (hn : nodesG G ≤ 16777216) (ht : treesB G = true) (hd : deepB G = false) :
    Calls Tryz.prog 72 #[v] w fun e w' => e = .returned (.bool (ansQ G 7)) ∧ Below w.heap.size w w' := by
  have H1 := Lib.hid (xText_any v G w h hl hn ht hd)
  have HA : Hid (ansQ G 7 = !decide ((textG G).size ≤ 2048)) := by
    show decide (2048 < (textG G).size) = _
    rw [← decide_not, decide_eq_decide]; omega
  obtain ⟨P, rfl, hR⟩ := h
  obtain ⟨⟨_, ao, cap, rfl, -⟩, -⟩ := hR
  clear hl hn ht hd
  generalize P.map (·.1) = G at *
  generalize ansQ G 7 = q at *
  generalize textG G = tx at *
  go_enter Tryz.func72, Tryz.ntmps72
  go_wp2_with fail
  refine (H1.out).mono ?_
  rintro e w1 ⟨t, rfl, -, hb1⟩
  go_wp2_with fail
  go_ret
  exact ⟨by rw [HA.out]; rfl, hb1⟩
/-! ### the list of the questions -/
set_option maxRecDepth 100000 in
set_option maxHeartbeats 1600000 in
theorem xOrder1_any (g : Nat) (w : World) :
    Calls Tryz.prog 58 #[.func (.func g) #[] #[]] w fun e w' => e = .returned (.func (.func 59) #[] #[.pointer (some ⟨w.heap.size, 0, none⟩)]) ∧ w' = w.alloc (.cells #[.func (.func g) #[] #[]] 103) := by
  go_enter Tryz.func58, Tryz.ntmps58
  go_wp2_with fail
  go_ret
  exact ⟨rfl, rfl⟩
def orderV (B : Nat) : List Value :=
  [.func (.func 61) #[] #[], .int .i64 180, .func (.func 59) #[] #[.pointer (some ⟨B, 0, none⟩)], .int .i64 170,
   .func (.func 65) #[] #[], .int .i64 181, .func (.func 67) #[] #[], .int .i64 182,
   .func (.func 68) #[] #[], .int .i64 183, .func (.func 59) #[] #[.pointer (some ⟨B + 1, 0, none⟩)], .int .i64 171,
   .func (.func 71) #[] #[], .int .i64 184, .func (.func 72) #[] #[], .int .i64 174]
theorem new_cells0 (w : World) (xs : List Value) (t : TypeId) (B C : Obj) (j : Nat) (u : Value) (h : xs[j]? = some u) : (((w.alloc (.cells xs.toArray t)).alloc B).alloc C).cell? ⟨w.heap.size, j, none⟩ = some u := by
  have h1 : (w.alloc (.cells xs.toArray t)).cell? ⟨w.heap.size, j, none⟩ = some u := by have := cells_new w xs t j u h; rwa [Addr.add_lit, Nat.zero_add] at this
  exact ((below2 _ B C).cell (p := ⟨w.heap.size, j, none⟩) (by simp)).trans h1
theorem new_cells1 (w : World) (A : Obj) (xs : List Value) (t : TypeId) (C : Obj) (j : Nat) (u : Value) (h : xs[j]? = some u) : (((w.alloc A).alloc (.cells xs.toArray t)).alloc C).cell? ⟨w.heap.size + 1, j, none⟩ = some u := by
  have h1 : ((w.alloc A).alloc (.cells xs.toArray t)).cell? ⟨w.heap.size + 1, j, none⟩ = some u := by have := cells_new (w.alloc A) xs t j u h; rw [Addr.add_lit, Nat.zero_add] at this; simpa using this
  exact ((below1 _ C).cell (p := ⟨w.heap.size + 1, j, none⟩) (by simp)).trans h1
theorem new_cells2 (w : World) (A B : Obj) (xs : List Value) (t : TypeId) (j : Nat) (u : Value) (h : xs[j]? = some u) : (((w.alloc A).alloc B).alloc (.cells xs.toArray t)).cell? ⟨w.heap.size + 2, j, none⟩ = some u := by
  have := cells_new ((w.alloc A).alloc B) xs t j u h
  rw [Addr.add_lit, Nat.zero_add] at this
  simpa using this
structure Asks (w w' : World) : Prop where
  below : Below w.heap.size w w'
  size : w.heap.size + 2 < w'.heap.size
  b0 : w'.cell? ⟨w.heap.size, 0, none⟩ = some (.func (.func 62) #[] #[])
  b1 : w'.cell? ⟨w.heap.size + 1, 0, none⟩ = some (.func (.func 70) #[] #[])
  at_ : ∀ j u, (orderV w.heap.size)[j]? = some u → w'.cell? ⟨w.heap.size + 2, j, none⟩ = some u
set_option maxRecDepth 100000 in
set_option maxHeartbeats 1600000 in
theorem xOrder_any (w : World) :
    Calls Tryz.prog 48 #[] w fun e w' => e = .returned (.slice (some ⟨w.heap.size + 2, 0, none⟩) 8 8) ∧ Asks w w' := by
  go_enter Tryz.func48, Tryz.ntmps48
  go_wp2_with (go_at_call 58; refine (xOrder1_any _ _).mono ?_; rintro e w1 ⟨rfl, rfl⟩)
  go_ret
  refine ⟨by simp, ?_⟩
  exact ⟨below3 _ _ _ _, by simp, new_cells0 w [.func (.func 62) #[] #[]] _ _ _ 0 _ rfl, new_cells1 w _ [.func (.func 70) #[] #[]] _ _ 0 _ rfl, fun j u hj => new_cells2 w _ _ (orderV w.heap.size) _ j u hj⟩
end Go.Proofs.YtfmcbpnhpckmjaaGreat
namespace Go.Proofs.YtfmcbpnhpckmjaaGreat
open Go.RowKit

theorem order_len (B : Nat) : (orderV B).length = 16 := rfl
theorem none_lim {G : List Ru} {j : Nat} (h : NoneQ G j) (hj : 1 ≤ j) : ¬ (G.length < 1 ∨ 64 < G.length) := by simpa [ansQ] using h 0 hj
theorem none_trees {G : List Ru} {j : Nat} (h : NoneQ G j) (hj : 2 ≤ j) : treesB G = true := by simpa [ansQ] using h 1 hj
theorem none_deep {G : List Ru} {j : Nat} (h : NoneQ G j) (hj : 6 ≤ j) : deepB G = false := h 5 hj

set_option maxRecDepth 100000 in
set_option maxHeartbeats 6400000 in
theorem xCheckG_any (v : Value) (G : List Ru) (w : World) (h : RdRu w v G) (hl : LimG G) (hn : nodesG G ≤ 16777216) :
    Calls Tryz.prog 36 #[v] w fun e w' => e = .returned (.int .i64 (checkG G)) ∧ Below w.heap.size w w' := by
  have HV := Lib.hid h
  have HO := Lib.hid (xOrder_any w)
  have H0 := Lib.hid (fun w h => xQ0_any v G w h)
  have H1 := Lib.hid (fun bx w h hx => xQ1_any v G bx w h (by have := hl.len; omega) hn hx)
  have H2 := Lib.hid (fun w h => xQ2_any v G w h hl)
  have H3 := Lib.hid (fun w h => xQ3_any v G w h hl)
  have H4 := Lib.hid (fun w h => xQ4_any v G w h hl)
  have H5 := Lib.hid (fun bx w h ht hx => xQ5_any v G bx w h (by have := hl.len; omega) hn ht hx)
  have H6 := Lib.hid (fun w h => xQ6_any v G w h hl)
  have H7 := Lib.hid (fun w h hl ht hd => xQ7_any v G w h hl hn ht hd)
  obtain ⟨P, rfl, hR⟩ := h
  obtain ⟨⟨_, ao, cap, rfl, -⟩, -⟩ := hR
  clear hl hn
  generalize P.map (·.1) = G at *
  go_enter Tryz.func36, Tryz.ntmps36
  go_wp2_with fail
  refine (HO.out).mono ?_
  rintro e w1 ⟨rfl, hA⟩
  have HB1 := Lib.hid hA.below
  have hs1 := hA.size
  have HB0 := Lib.hid hA.b0
  have HBx := Lib.hid hA.b1
  have HAt := Lib.hid hA.at_
  clear hA
  generalize hB : w.heap.size = B at *
  go_wp2_with fail
  go_loopw [7] (fun i wr => ∃ j : Nat, i = .int .i64 j ∧ j ≤ 8 ∧ Hid (NoneQ G j) ∧ Hid (Below w1.heap.size w1 wr)) (fun i _ => 8 - (intOf i).toNat)
  case atStart => exact ⟨0, rfl, by omega, fun i hi => by omega, Below.refl _ _⟩
  case round =>
    obtain ⟨j, rfl, hj, HN, HBel⟩ := hrel
    have hws := HBel.out.size
    by_cases hlt : j < 8
    · have HVr : Hid (RdRu wr (.slice ao P.length cap) G) := HV.out.below (by rw [hB]; exact HB1.out.trans (HBel.out.mono (by omega)))
      have cell : ∀ (q : Nat) (u : Value), (orderV B)[q]? = some u → wr.cell? ⟨B + 2, q, none⟩ = some u := fun q u hq => (HBel.out.cell (p := ⟨B + 2, q, none⟩) (by show B + 2 < w1.heap.size; omega)).trans (HAt.out q u hq)
      have b0 := (HBel.out.cell (p := ⟨B, 0, none⟩) (by show B < w1.heap.size; omega)).trans HB0.out
      have b1 := (HBel.out.cell (p := ⟨B + 1, 0, none⟩) (by show B + 1 < w1.heap.size; omega)).trans HBx.out
      have hj8 : j = 0 ∨ j = 1 ∨ j = 2 ∨ j = 3 ∨ j = 4 ∨ j = 5 ∨ j = 6 ∨ j = 7 := by omega
      rcases hj8 with rfl | rfl | rfl | rfl | rfl | rfl | rfl | rfl
      · have x0 := cell 0 _ rfl
        have x1 := cell 1 _ rfl
        have HQ : Hid (∀ wx, Below wr.heap.size wr wx → Calls Tryz.prog 61 #[.slice ao P.length cap] wx fun e w' => e = .returned (.bool (ansQ G 0)) ∧ Below wx.heap.size wx w') := fun wx hb => by
          have h := HVr.out.below hb
          exact H0.out wx h
        have c1 : (wr.alloc (.cells #[.func (.func 61) #[] #[], .int .i64 180] 91)).cell? ⟨wr.heap.size, 1, none⟩ = some (.int .i64 180) := by simp
        have hb1 : Below wr.heap.size wr (wr.alloc (.cells #[.func (.func 61) #[] #[], .int .i64 180] 91)) := below1 _ _
        have hsz : wr.heap.size + 1 ≤ (wr.alloc (.cells #[.func (.func 61) #[] #[], .int .i64 180] 91)).heap.size := by simp
        clear b0 b1 cell HVr
        cases ha : ansQ G 0 with
        | true =>
          rw [ha] at HQ
          have HE : Hid (checkG G = 180) := check_first G 0 (by omega) HN.out ha
          clear ha
          go_wp2_with fail
          generalize (wr.alloc (.cells #[.func (.func 61) #[] #[], .int .i64 180] 91)) = w2 at *
          clear x0 x1
          refine (HQ.out _ hb1).mono ?_
          rintro e w3 ⟨rfl, hb3⟩
          have C1 := (hb3.cell (p := ⟨wr.heap.size, 1, none⟩) (by show wr.heap.size < w2.heap.size; omega)).trans c1
          have HB3 := Lib.hid (HBel.out.trans ((hb1.trans (hb3.mono hb1.size)).mono hws))
          clear hb3 c1
          go_wp2_with fail
          go_ret
          exact ⟨by rw [HE.out]; rfl, by rw [hB]; exact HB1.out.trans (HB3.out.mono (by omega))⟩
        | false =>
          rw [ha] at HQ
          have HN2 := Lib.hid (HN.out.snoc ha)
          clear ha
          go_wp2_with fail
          generalize (wr.alloc (.cells #[.func (.func 61) #[] #[], .int .i64 180] 91)) = w2 at *
          clear x0 x1
          refine (HQ.out _ hb1).mono ?_
          rintro e w3 ⟨rfl, hb3⟩
          have HB3 := Lib.hid (HBel.out.trans ((hb1.trans (hb3.mono hb1.size)).mono hws))
          clear hb3 c1
          go_wp2_with fail
          go_roundw
          case rel => exact ⟨1, by go_num, by omega, HN2.out, HB3.out⟩
          case measure => simp [intOf]
      · have x0 := cell 2 _ rfl
        have x1 := cell 3 _ rfl
        have HQ : Hid (∀ wx, Below wr.heap.size wr wx → Calls Tryz.prog 59 #[.slice ao P.length cap, .pointer (some ⟨B, 0, none⟩)] wx fun e w' => e = .returned (.bool (ansQ G 1)) ∧ Below wx.heap.size wx w') := fun wx hb => by
          have h := HVr.out.below hb
          exact H1.out B wx h ((hb.cell (p := ⟨B, 0, none⟩) (by show B < wr.heap.size; omega)).trans b0)
        have c1 : (wr.alloc (.cells #[.func (.func 59) #[] #[.pointer (some ⟨B, 0, none⟩)], .int .i64 170] 91)).cell? ⟨wr.heap.size, 1, none⟩ = some (.int .i64 170) := by simp
        have hb1 : Below wr.heap.size wr (wr.alloc (.cells #[.func (.func 59) #[] #[.pointer (some ⟨B, 0, none⟩)], .int .i64 170] 91)) := below1 _ _
        have hsz : wr.heap.size + 1 ≤ (wr.alloc (.cells #[.func (.func 59) #[] #[.pointer (some ⟨B, 0, none⟩)], .int .i64 170] 91)).heap.size := by simp
        clear b0 b1 cell HVr
        cases ha : ansQ G 1 with
        | true =>
          rw [ha] at HQ
          have HE : Hid (checkG G = 170) := check_first G 1 (by omega) HN.out ha
          clear ha
          go_wp2_with fail
          generalize (wr.alloc (.cells #[.func (.func 59) #[] #[.pointer (some ⟨B, 0, none⟩)], .int .i64 170] 91)) = w2 at *
          clear x0 x1
          refine (HQ.out _ hb1).mono ?_
          rintro e w3 ⟨rfl, hb3⟩
          have C1 := (hb3.cell (p := ⟨wr.heap.size, 1, none⟩) (by show wr.heap.size < w2.heap.size; omega)).trans c1
          have HB3 := Lib.hid (HBel.out.trans ((hb1.trans (hb3.mono hb1.size)).mono hws))
          clear hb3 c1
          go_wp2_with fail
          go_ret
          exact ⟨by rw [HE.out]; rfl, by rw [hB]; exact HB1.out.trans (HB3.out.mono (by omega))⟩
        | false =>
          rw [ha] at HQ
          have HN2 := Lib.hid (HN.out.snoc ha)
          clear ha
          go_wp2_with fail
          generalize (wr.alloc (.cells #[.func (.func 59) #[] #[.pointer (some ⟨B, 0, none⟩)], .int .i64 170] 91)) = w2 at *
          clear x0 x1
          refine (HQ.out _ hb1).mono ?_
          rintro e w3 ⟨rfl, hb3⟩
          have HB3 := Lib.hid (HBel.out.trans ((hb1.trans (hb3.mono hb1.size)).mono hws))
          clear hb3 c1
          go_wp2_with fail
          go_roundw
          case rel => exact ⟨2, by go_num, by omega, HN2.out, HB3.out⟩
          case measure => simp [intOf]
      · have x0 := cell 4 _ rfl
        have x1 := cell 5 _ rfl
        have HQ : Hid (∀ wx, Below wr.heap.size wr wx → Calls Tryz.prog 65 #[.slice ao P.length cap] wx fun e w' => e = .returned (.bool (ansQ G 2)) ∧ Below wx.heap.size wx w') := fun wx hb => by
          have h := HVr.out.below hb
          exact H2.out wx h
        have c1 : (wr.alloc (.cells #[.func (.func 65) #[] #[], .int .i64 181] 91)).cell? ⟨wr.heap.size, 1, none⟩ = some (.int .i64 181) := by simp
        have hb1 : Below wr.heap.size wr (wr.alloc (.cells #[.func (.func 65) #[] #[], .int .i64 181] 91)) := below1 _ _
        have hsz : wr.heap.size + 1 ≤ (wr.alloc (.cells #[.func (.func 65) #[] #[], .int .i64 181] 91)).heap.size := by simp
        clear b0 b1 cell HVr
        cases ha : ansQ G 2 with
        | true =>
          rw [ha] at HQ
          have HE : Hid (checkG G = 181) := check_first G 2 (by omega) HN.out ha
          clear ha
          go_wp2_with fail
          generalize (wr.alloc (.cells #[.func (.func 65) #[] #[], .int .i64 181] 91)) = w2 at *
          clear x0 x1
          refine (HQ.out _ hb1).mono ?_
          rintro e w3 ⟨rfl, hb3⟩
          have C1 := (hb3.cell (p := ⟨wr.heap.size, 1, none⟩) (by show wr.heap.size < w2.heap.size; omega)).trans c1
          have HB3 := Lib.hid (HBel.out.trans ((hb1.trans (hb3.mono hb1.size)).mono hws))
          clear hb3 c1
          go_wp2_with fail
          go_ret
          exact ⟨by rw [HE.out]; rfl, by rw [hB]; exact HB1.out.trans (HB3.out.mono (by omega))⟩
        | false =>
          rw [ha] at HQ
          have HN2 := Lib.hid (HN.out.snoc ha)
          clear ha
          go_wp2_with fail
          generalize (wr.alloc (.cells #[.func (.func 65) #[] #[], .int .i64 181] 91)) = w2 at *
          clear x0 x1
          refine (HQ.out _ hb1).mono ?_
          rintro e w3 ⟨rfl, hb3⟩
          have HB3 := Lib.hid (HBel.out.trans ((hb1.trans (hb3.mono hb1.size)).mono hws))
          clear hb3 c1
          go_wp2_with fail
          go_roundw
          case rel => exact ⟨3, by go_num, by omega, HN2.out, HB3.out⟩
          case measure => simp [intOf]
      · have x0 := cell 6 _ rfl
        have x1 := cell 7 _ rfl
        have HQ : Hid (∀ wx, Below wr.heap.size wr wx → Calls Tryz.prog 67 #[.slice ao P.length cap] wx fun e w' => e = .returned (.bool (ansQ G 3)) ∧ Below wx.heap.size wx w') := fun wx hb => by
          have h := HVr.out.below hb
          exact H3.out wx h
        have c1 : (wr.alloc (.cells #[.func (.func 67) #[] #[], .int .i64 182] 91)).cell? ⟨wr.heap.size, 1, none⟩ = some (.int .i64 182) := by simp
        have hb1 : Below wr.heap.size wr (wr.alloc (.cells #[.func (.func 67) #[] #[], .int .i64 182] 91)) := below1 _ _
        have hsz : wr.heap.size + 1 ≤ (wr.alloc (.cells #[.func (.func 67) #[] #[], .int .i64 182] 91)).heap.size := by simp
        clear b0 b1 cell HVr
        cases ha : ansQ G 3 with
        | true =>
          rw [ha] at HQ
          have HE : Hid (checkG G = 182) := check_first G 3 (by omega) HN.out ha
          clear ha
          go_wp2_with fail
          generalize (wr.alloc (.cells #[.func (.func 67) #[] #[], .int .i64 182] 91)) = w2 at *
          clear x0 x1
          refine (HQ.out _ hb1).mono ?_
          rintro e w3 ⟨rfl, hb3⟩
          have C1 := (hb3.cell (p := ⟨wr.heap.size, 1, none⟩) (by show wr.heap.size < w2.heap.size; omega)).trans c1
          have HB3 := Lib.hid (HBel.out.trans ((hb1.trans (hb3.mono hb1.size)).mono hws))
          clear hb3 c1
          go_wp2_with fail
          go_ret
          exact ⟨by rw [HE.out]; rfl, by rw [hB]; exact HB1.out.trans (HB3.out.mono (by omega))⟩
        | false =>
          rw [ha] at HQ
          have HN2 := Lib.hid (HN.out.snoc ha)
          clear ha
          go_wp2_with fail
          generalize (wr.alloc (.cells #[.func (.func 67) #[] #[], .int .i64 182] 91)) = w2 at *
          clear x0 x1
          refine (HQ.out _ hb1).mono ?_
          rintro e w3 ⟨rfl, hb3⟩
          have HB3 := Lib.hid (HBel.out.trans ((hb1.trans (hb3.mono hb1.size)).mono hws))
          clear hb3 c1
          go_wp2_with fail
          go_roundw
          case rel => exact ⟨4, by go_num, by omega, HN2.out, HB3.out⟩
          case measure => simp [intOf]
      · have x0 := cell 8 _ rfl
        have x1 := cell 9 _ rfl
        have HQ : Hid (∀ wx, Below wr.heap.size wr wx → Calls Tryz.prog 68 #[.slice ao P.length cap] wx fun e w' => e = .returned (.bool (ansQ G 4)) ∧ Below wx.heap.size wx w') := fun wx hb => by
          have h := HVr.out.below hb
          exact H4.out wx h
        have c1 : (wr.alloc (.cells #[.func (.func 68) #[] #[], .int .i64 183] 91)).cell? ⟨wr.heap.size, 1, none⟩ = some (.int .i64 183) := by simp
        have hb1 : Below wr.heap.size wr (wr.alloc (.cells #[.func (.func 68) #[] #[], .int .i64 183] 91)) := below1 _ _
        have hsz : wr.heap.size + 1 ≤ (wr.alloc (.cells #[.func (.func 68) #[] #[], .int .i64 183] 91)).heap.size := by simp
        clear b0 b1 cell HVr
        cases ha : ansQ G 4 with
        | true =>
          rw [ha] at HQ
          have HE : Hid (checkG G = 183) := check_first G 4 (by omega) HN.out ha
          clear ha
          go_wp2_with fail
          generalize (wr.alloc (.cells #[.func (.func 68) #[] #[], .int .i64 183] 91)) = w2 at *
          clear x0 x1
          refine (HQ.out _ hb1).mono ?_
          rintro e w3 ⟨rfl, hb3⟩
          have C1 := (hb3.cell (p := ⟨wr.heap.size, 1, none⟩) (by show wr.heap.size < w2.heap.size; omega)).trans c1
          have HB3 := Lib.hid (HBel.out.trans ((hb1.trans (hb3.mono hb1.size)).mono hws))
          clear hb3 c1
          go_wp2_with fail
          go_ret
          exact ⟨by rw [HE.out]; rfl, by rw [hB]; exact HB1.out.trans (HB3.out.mono (by omega))⟩
        | false =>
          rw [ha] at HQ
          have HN2 := Lib.hid (HN.out.snoc ha)
          clear ha
          go_wp2_with fail
          generalize (wr.alloc (.cells #[.func (.func 68) #[] #[], .int .i64 183] 91)) = w2 at *
          clear x0 x1
          refine (HQ.out _ hb1).mono ?_
          rintro e w3 ⟨rfl, hb3⟩
          have HB3 := Lib.hid (HBel.out.trans ((hb1.trans (hb3.mono hb1.size)).mono hws))
          clear hb3 c1
          go_wp2_with fail
          go_roundw
          case rel => exact ⟨5, by go_num, by omega, HN2.out, HB3.out⟩
          case measure => simp [intOf]
      · have x0 := cell 10 _ rfl
        have x1 := cell 11 _ rfl
        have HQ : Hid (∀ wx, Below wr.heap.size wr wx → Calls Tryz.prog 59 #[.slice ao P.length cap, .pointer (some ⟨B + 1, 0, none⟩)] wx fun e w' => e = .returned (.bool (ansQ G 5)) ∧ Below wx.heap.size wx w') := fun wx hb => by
          have h := HVr.out.below hb
          exact H5.out (B + 1) wx h (none_trees HN.out (by omega)) ((hb.cell (p := ⟨B + 1, 0, none⟩) (by show B + 1 < wr.heap.size; omega)).trans b1)
        have c1 : (wr.alloc (.cells #[.func (.func 59) #[] #[.pointer (some ⟨B + 1, 0, none⟩)], .int .i64 171] 91)).cell? ⟨wr.heap.size, 1, none⟩ = some (.int .i64 171) := by simp
        have hb1 : Below wr.heap.size wr (wr.alloc (.cells #[.func (.func 59) #[] #[.pointer (some ⟨B + 1, 0, none⟩)], .int .i64 171] 91)) := below1 _ _
        have hsz : wr.heap.size + 1 ≤ (wr.alloc (.cells #[.func (.func 59) #[] #[.pointer (some ⟨B + 1, 0, none⟩)], .int .i64 171] 91)).heap.size := by simp
        clear b0 b1 cell HVr
        cases ha : ansQ G 5 with
        | true =>
          rw [ha] at HQ
          have HE : Hid (checkG G = 171) := check_first G 5 (by omega) HN.out ha
          clear ha
          go_wp2_with fail
          generalize (wr.alloc (.cells #[.func (.func 59) #[] #[.pointer (some ⟨B + 1, 0, none⟩)], .int .i64 171] 91)) = w2 at *
          clear x0 x1
          refine (HQ.out _ hb1).mono ?_
          rintro e w3 ⟨rfl, hb3⟩
          have C1 := (hb3.cell (p := ⟨wr.heap.size, 1, none⟩) (by show wr.heap.size < w2.heap.size; omega)).trans c1
          have HB3 := Lib.hid (HBel.out.trans ((hb1.trans (hb3.mono hb1.size)).mono hws))
          clear hb3 c1
          go_wp2_with fail
          go_ret
          exact ⟨by rw [HE.out]; rfl, by rw [hB]; exact HB1.out.trans (HB3.out.mono (by omega))⟩
        | false =>
          rw [ha] at HQ
          have HN2 := Lib.hid (HN.out.snoc ha)
          clear ha
          go_wp2_with fail
          generalize (wr.alloc (.cells #[.func (.func 59) #[] #[.pointer (some ⟨B + 1, 0, none⟩)], .int .i64 171] 91)) = w2 at *
          clear x0 x1
          refine (HQ.out _ hb1).mono ?_
          rintro e w3 ⟨rfl, hb3⟩
          have HB3 := Lib.hid (HBel.out.trans ((hb1.trans (hb3.mono hb1.size)).mono hws))
          clear hb3 c1
          go_wp2_with fail
          go_roundw
          case rel => exact ⟨6, by go_num, by omega, HN2.out, HB3.out⟩
          case measure => simp [intOf]
      · have x0 := cell 12 _ rfl
        have x1 := cell 13 _ rfl
        have HQ : Hid (∀ wx, Below wr.heap.size wr wx → Calls Tryz.prog 71 #[.slice ao P.length cap] wx fun e w' => e = .returned (.bool (ansQ G 6)) ∧ Below wx.heap.size wx w') := fun wx hb => by
          have h := HVr.out.below hb
          exact H6.out wx h
        have c1 : (wr.alloc (.cells #[.func (.func 71) #[] #[], .int .i64 184] 91)).cell? ⟨wr.heap.size, 1, none⟩ = some (.int .i64 184) := by simp
        have hb1 : Below wr.heap.size wr (wr.alloc (.cells #[.func (.func 71) #[] #[], .int .i64 184] 91)) := below1 _ _
        have hsz : wr.heap.size + 1 ≤ (wr.alloc (.cells #[.func (.func 71) #[] #[], .int .i64 184] 91)).heap.size := by simp
        clear b0 b1 cell HVr
        cases ha : ansQ G 6 with
        | true =>
          rw [ha] at HQ
          have HE : Hid (checkG G = 184) := check_first G 6 (by omega) HN.out ha
          clear ha
          go_wp2_with fail
          generalize (wr.alloc (.cells #[.func (.func 71) #[] #[], .int .i64 184] 91)) = w2 at *
          clear x0 x1
          refine (HQ.out _ hb1).mono ?_
          rintro e w3 ⟨rfl, hb3⟩
          have C1 := (hb3.cell (p := ⟨wr.heap.size, 1, none⟩) (by show wr.heap.size < w2.heap.size; omega)).trans c1
          have HB3 := Lib.hid (HBel.out.trans ((hb1.trans (hb3.mono hb1.size)).mono hws))
          clear hb3 c1
          go_wp2_with fail
          go_ret
          exact ⟨by rw [HE.out]; rfl, by rw [hB]; exact HB1.out.trans (HB3.out.mono (by omega))⟩
        | false =>
          rw [ha] at HQ
          have HN2 := Lib.hid (HN.out.snoc ha)
          clear ha
          go_wp2_with fail
          generalize (wr.alloc (.cells #[.func (.func 71) #[] #[], .int .i64 184] 91)) = w2 at *
          clear x0 x1
          refine (HQ.out _ hb1).mono ?_
          rintro e w3 ⟨rfl, hb3⟩
          have HB3 := Lib.hid (HBel.out.trans ((hb1.trans (hb3.mono hb1.size)).mono hws))
          clear hb3 c1
          go_wp2_with fail
          go_roundw
          case rel => exact ⟨7, by go_num, by omega, HN2.out, HB3.out⟩
          case measure => simp [intOf]
      · have x0 := cell 14 _ rfl
        have x1 := cell 15 _ rfl
        have HQ : Hid (∀ wx, Below wr.heap.size wr wx → Calls Tryz.prog 72 #[.slice ao P.length cap] wx fun e w' => e = .returned (.bool (ansQ G 7)) ∧ Below wx.heap.size wx w') := fun wx hb => by
          have h := HVr.out.below hb
          exact H7.out wx h (by have := none_lim HN.out (by omega); omega) (none_trees HN.out (by omega)) (none_deep HN.out (by omega))
        have c1 : (wr.alloc (.cells #[.func (.func 72) #[] #[], .int .i64 174] 91)).cell? ⟨wr.heap.size, 1, none⟩ = some (.int .i64 174) := by simp
        have hb1 : Below wr.heap.size wr (wr.alloc (.cells #[.func (.func 72) #[] #[], .int .i64 174] 91)) := below1 _ _
        have hsz : wr.heap.size + 1 ≤ (wr.alloc (.cells #[.func (.func 72) #[] #[], .int .i64 174] 91)).heap.size := by simp
        clear b0 b1 cell HVr
        cases ha : ansQ G 7 with
        | true =>
          rw [ha] at HQ
          have HE : Hid (checkG G = 174) := check_first G 7 (by omega) HN.out ha
          clear ha
          go_wp2_with fail
          generalize (wr.alloc (.cells #[.func (.func 72) #[] #[], .int .i64 174] 91)) = w2 at *
          clear x0 x1
          refine (HQ.out _ hb1).mono ?_
          rintro e w3 ⟨rfl, hb3⟩
          have C1 := (hb3.cell (p := ⟨wr.heap.size, 1, none⟩) (by show wr.heap.size < w2.heap.size; omega)).trans c1
          have HB3 := Lib.hid (HBel.out.trans ((hb1.trans (hb3.mono hb1.size)).mono hws))
          clear hb3 c1
          go_wp2_with fail
          go_ret
          exact ⟨by rw [HE.out]; rfl, by rw [hB]; exact HB1.out.trans (HB3.out.mono (by omega))⟩
        | false =>
          rw [ha] at HQ
          have HN2 := Lib.hid (HN.out.snoc ha)
          clear ha
          go_wp2_with fail
          generalize (wr.alloc (.cells #[.func (.func 72) #[] #[], .int .i64 174] 91)) = w2 at *
          clear x0 x1
          refine (HQ.out _ hb1).mono ?_
          rintro e w3 ⟨rfl, hb3⟩
          have HB3 := Lib.hid (HBel.out.trans ((hb1.trans (hb3.mono hb1.size)).mono hws))
          clear hb3 c1
          go_wp2_with fail
          go_roundw
          case rel => exact ⟨8, by go_num, by omega, HN2.out, HB3.out⟩
          case measure => simp [intOf]
    · obtain rfl : j = 8 := by omega
      have HE : Hid (checkG G = 0) := check_none G HN.out
      go_wp2_with fail
      go_ret
      exact ⟨by rw [HE.out]; rfl, by rw [hB]; exact HB1.out.trans (HBel.out.mono (by omega))⟩
end Go.Proofs.YtfmcbpnhpckmjaaGreat
namespace Go.Proofs.YtfmcbpnhpckmjaaGreat
open Go.RowKit Go.Maps

/-! ### the key: a name, and whether it is a label's -/
def kl (lb : Bool) (s : ByteArray) : Lit := .string ((if lb then 1 else 0) :: (bytesBE 8 s.size ++ bl s))
theorem kl_inj {lb lb' : Bool} {s s' : ByteArray} (h : kl lb s = kl lb' s') : lb = lb' ∧ s = s' := by
  unfold kl at h
  simp only [Lit.string.injEq, List.cons.injEq] at h
  obtain ⟨h1, h2⟩ := h
  obtain ⟨_, h3⟩ := List.append_inj h2 (by rw [length_bytesBE, length_bytesBE])
  refine ⟨?_, bl_inj h3⟩
  cases lb <;> cases lb' <;> simp_all
theorem key_named (lb : Bool) (s : ByteArray) (hs : s.size ≤ maxLen) : keyOf Tryz.prog 82 (.agg #[.bool lb, .string s]) = some (kl lb s) := by
  have h1 : Tryz.prog.keyType 82 = true := by kernel_rfl
  have h2 : (Value.agg #[.bool lb, .string s]).formed Tryz.prog 82 = true := by kernel_rfl
  have hc1 : Tryz.prog.cellsOf 82 = 2 := by kernel_rfl
  have hc2 : Tryz.prog.cellsOf 4 = 1 := by kernel_rfl
  have hc3 : Tryz.prog.cellsOf 9 = 1 := by kernel_rfl
  have h3 : ∀ d, Tryz.prog.keyLits (d + 2) 82 [.bool lb, .string s] = some [.bool lb, .string s.data.toList] := by
    intro d
    simp [Program.keyLits, Tryz.underlying82, Tryz.underlying4, Tryz.underlying9, hc1, hc2, hc3, hs]
  have h5 : 1 ≤ Tryz.prog.types.size := by decide +kernel
  obtain ⟨d, hd⟩ : ∃ d, Tryz.prog.types.size + 1 = d + 2 := ⟨Tryz.prog.types.size - 1, by omega⟩
  have h4 : keyOf Tryz.prog 82 (.agg #[.bool lb, .string s]) = if Tryz.prog.keyType 82 && (Value.agg #[.bool lb, .string s]).formed Tryz.prog 82 then (Tryz.prog.keyLits (Tryz.prog.types.size + 1) 82 [.bool lb, .string s]).map fun ls => .string (keyBytes ls) else none := by
    unfold keyOf; rw [Tryz.underlying82]; rfl
  rw [h4, h1, h2, hd, h3]
  simp [keyBytes, Lit.keyBytes, kl, bl]
theorem keyNm : Keyed Tryz.prog 82 := Keyed.of_law (deep_law_laid (by kernel_rfl) (m := 2) (by omega) (by decide +kernel) (by kernel_rfl) (by rw [Tryz.underlying82]))
/-! ### the numbers -/
def litI (i : Int) : DataW Unit := .lit (.int .i64 i)
/-- the names l have their places as numbers in D; no other name has one -/
structure NumAt (D : DataW Unit) (lb : Bool) (l : List ByteArray) : Prop where
  has : ∀ s, Maps.has D (kl lb s) = decide (s ∈ l)
  num : ∀ (i : Nat) s, l[i]? = some s → D.atKey (kl lb s) (litI 0) = litI i
theorem NumAt.nil (lb : Bool) : NumAt (.map []) lb [] := ⟨fun s => by simp [Maps.has], fun i s h => by simp at h⟩
theorem NumAt.put {D : DataW Unit} {lb : Bool} {l : List ByteArray} (h : NumAt D lb l) (hD : IsMap D) {x : ByteArray} (hx : x ∉ l) : NumAt (D.put (kl lb x) (litI l.length)) lb (l ++ [x]) := by
  have hk : WideAt.IsKeyLit (kl lb x) := by simp [kl, WideAt.IsKeyLit]
  refine ⟨fun s => ?_, fun i s hi => ?_⟩
  · by_cases hs : s = x
    · subst hs; rw [has_put_same hD hk]; simp
    · rw [has_put_other (fun e => hs (kl_inj e).2), h.has]; simp [hs]
  · by_cases hs : s = x
    · subst hs
      rw [atKey_put_same hD hk]
      have hil : i = l.length := by
        rcases Nat.lt_trichotomy i l.length with h1 | h1 | h1
        · rw [List.getElem?_append_left h1] at hi; exact absurd (List.mem_of_getElem? hi) hx
        · exact h1
        · rw [List.getElem?_append_right (by omega)] at hi
          have := (List.getElem?_eq_some_iff.1 hi).1
          simp at this; omega
      rw [hil]
    · rw [atKey_put_other (fun e => hs (kl_inj e).2)]
      have h1 : i < l.length := by
        rcases Nat.lt_or_ge i l.length with h1 | h1
        · exact h1
        · rw [List.getElem?_append_right h1] at hi
          have h2 := List.mem_of_getElem? hi
          rw [List.mem_singleton] at h2; exact absurd h2 hs
      rw [List.getElem?_append_left h1] at hi
      exact h.num i s hi
theorem NumAt.other {D : DataW Unit} {lb lb' : Bool} {l : List ByteArray} (h : NumAt D lb l) {x : ByteArray} (hne : lb ≠ lb') (d : DataW Unit) : NumAt (D.put (kl lb' x) d) lb l := by
  refine ⟨fun s => ?_, fun i s hi => ?_⟩
  · rw [has_put_other (fun e => hne (kl_inj e).1), h.has]
  · rw [atKey_put_other (fun e => hne (kl_inj e).1), h.num i s hi]
theorem headsF_nodup (G : List Ru) : ∀ acc : List ByteArray, acc.Nodup → (headsF G acc).Nodup := by
  induction G with
  | nil => intro acc h; exact h
  | cons r G ih =>
    intro acc h
    unfold headsF
    by_cases hc : r.h ∈ acc
    · rw [if_pos hc]; exact ih acc h
    · rw [if_neg hc]
      refine ih _ (List.nodup_append.2 ⟨h, by simp, fun a ha b hb e => ?_⟩)
      rw [List.mem_singleton.1 hb] at e
      exact hc (e ▸ ha)
theorem heads_nodup (G : List Ru) : (heads G).Nodup := headsF_nodup G [] List.nodup_nil
theorem used_nodup (k : Int) (G : List Ru) : (used k G).Nodup := by
  have h : Rise (used k G) := usedL_rise _
  exact h.imp (fun {a b} hab e => by subst e; exact List.lt_irrefl _ hab)
theorem nodup_next {l : List ByteArray} (h : l.Nodup) {j : Nat} {x : ByteArray} (hx : l[j]? = some x) : x ∉ l.take j := by
  intro hm
  obtain ⟨i, hi⟩ := List.getElem?_of_mem hm
  obtain ⟨h1, h2⟩ := List.getElem?_eq_some_iff.1 hi
  rw [List.getElem_take] at h2
  simp only [List.length_take] at h1
  obtain ⟨h3, h4⟩ := List.getElem?_eq_some_iff.1 hx
  exact (List.pairwise_iff_getElem.1 h) i j (by omega) h3 (by omega) (h2.trans h4.symm)
theorem take_next {l : List ByteArray} {j : Nat} {x : ByteArray} (h : l[j]? = some x) : l.take (j + 1) = l.take j ++ [x] ∧ (l.take j).length = j := by
  obtain ⟨h1, h2⟩ := List.getElem?_eq_some_iff.1 h
  exact ⟨by rw [List.take_succ_eq_append_getElem h1, h2], by rw [List.length_take]; omega⟩
theorem wf_nat (j : Nat) (h : j ≤ 4398046511104) : (Lit.int .i64 (j : Int)).wf = true := by
  have h1 : IntKind.i64.min = -9223372036854775808 := by decide
  have h2 : IntKind.i64.max = 9223372036854775807 := by decide
  simp [Lit.wf, h1, h2]; omega
/-! ### the table -/
structure TabAt (w : World) (B tb : Nat) (G : List Ru) : Prop where
  le : B ≤ tb
  ex : ∃ v1 v2 b n D, w.heap[tb]? = some (.cells #[v1, v2, .map (some b)] 76 (0, 0)) ∧ OwnStr w B v1 (heads G) ∧ OwnStr w B v2 (used 3 G) ∧ B ≤ b ∧
    w.ownsMap Tryz.prog 82 (plainElem Tryz.prog 3) b n D ∧ NumAt D false (heads G) ∧ NumAt D true (used 3 G)
theorem TabAt.lt {w : World} {B tb : Nat} {G : List Ru} (h : TabAt w B tb G) : tb < w.heap.size := by
  obtain ⟨_, _, _, _, _, h1, -⟩ := h.ex
  exact (Array.getElem?_eq_some_iff.1 h1).1
theorem TabAt.grown {w w' : World} {B tb : Nat} {G : List Ru} {row : Option Nat} (h : TabAt w B tb G) (hg : w.grownBy w' row) (hr : ∀ j, row = some j → j < B) : TabAt w' B tb G := by
  obtain ⟨v1, v2, b, n, D, h1, h2, h3, h4, h5, h6, h7⟩ := h.ex
  refine ⟨h.le, v1, v2, b, n, D, ?_, own_grown h2 hg (fun j hj => .inl (hr j hj)), own_grown h3 hg (fun j hj => .inl (hr j hj)), h4, h5.kept hg (fun e => ?_), h6, h7⟩
  · rw [hg.block tb (Array.getElem?_eq_some_iff.1 h1).1 (fun e => by have := hr tb e.symm; have := h.le; omega)]; exact h1
  · have := hr b e.symm; omega
theorem TabAt.below {w w' : World} {B tb : Nat} {G : List Ru} (h : TabAt w B tb G) (hb : Below w.heap.size w w') : TabAt w' B tb G := h.grown (grown_below hb) (fun j hj => by cases hj)

set_option maxRecDepth 100000 in
set_option maxHeartbeats 6400000 in
theorem xOf_ok (v : Value) (G : List Ru) (w : World) (h : RdRu w v G) (hl : LimG G) (hn : nodesG G ≤ 16777216) (hc : checkG G = 0) :
    Calls Tryz.prog 16 #[v] w fun e w' => ∃ tb, e = .returned (.tuple #[.pointer (some ⟨tb, 0, none⟩), .int .i64 0]) ∧ TabAt w' w.heap.size tb G ∧ Below w.heap.size w w' := by
  have HV := Lib.hid h
  have HC := Lib.hid (xCheckG_any v G w h hl hn)
  rw [hc] at HC
  have H1 := Lib.hid (fun w h => xHeads_any v G w h hl)
  have H2 := Lib.hid (fun w h => xLabels_any v G w h hl)
  have HL := Lib.hid hl
  have hhl : (heads G).length ≤ 4398046511104 := Nat.le_trans (heads_len G) hl.len
  have hul : (used 3 G).length ≤ 4398046511104 := Nat.le_trans (used_len 3 G) hl.nodes
  obtain ⟨P, hG, hR⟩ := h
  obtain ⟨⟨_, ao, cap, rfl, -⟩, -⟩ := hR
  clear hl hn hG hc
  have hmm := @run_makeMap Tryz.prog
  go_enter Tryz.func16, Tryz.ntmps16
  go_wp2_with fail
  refine (HC.out).mono ?_
  rintro e w1 ⟨rfl, hb1⟩
  have HB1 := Lib.hid hb1
  clear hb1
  go_wp2_with fail
  refine (H1.out _ (HV.out.below HB1.out)).mono ?_
  rintro e w2 ⟨v2, rfl, ho2, hb2⟩
  have HO2 : Hid (OwnStr w2 w.heap.size v2 (heads G)) := own_lower ho2 HB1.out.size
  have HB2 := Lib.hid (HB1.out.trans (hb2.mono HB1.out.size))
  clear hb2 ho2
  go_wp2_with fail
  refine (H2.out _ (HV.out.below HB2.out)).mono ?_
  rintro e w3 ⟨v3, rfl, ho3, hb3⟩
  have HO3 : Hid (OwnStr w3 w.heap.size v3 (used 3 G)) := own_lower ho3 HB2.out.size
  have HO2' : Hid (OwnStr w3 w.heap.size v2 (heads G)) := own_grown HO2.out (grown_below hb3) (fun j hj => by cases hj)
  have HB3 := Lib.hid (HB2.out.trans (hb3.mono HB2.out.size))
  clear hb3 ho3 HO2 HB1 HB2
  obtain ⟨a2, c2, rfl⟩ := own_str_shape HO2'.out
  obtain ⟨a3, c3, rfl⟩ := own_str_shape HO3.out
  go_wp2_with fail
  have hb1 : Below w3.heap.size w3 ((w3.alloc (.map #[] 0)).alloc (.cells #[.slice a2 (heads G).length c2, .slice a3 (used 3 G).length c3, .map (some w3.heap.size)] 76)) := below2 _ _ _
  have hM0 : ((w3.alloc (.map #[] 0)).alloc (.cells #[.slice a2 (heads G).length c2, .slice a3 (used 3 G).length c3, .map (some w3.heap.size)] 76)).ownsMap Tryz.prog 82 (plainElem Tryz.prog 3) w3.heap.size 0 (.map [] : DataW Unit) := (World.ownsMap_made _ _ _ _).alloc _
  have hT0 : ((w3.alloc (.map #[] 0)).alloc (.cells #[.slice a2 (heads G).length c2, .slice a3 (used 3 G).length c3, .map (some w3.heap.size)] 76)).heap[w3.heap.size + 1]? = some (.cells #[.slice a2 (heads G).length c2, .slice a3 (used 3 G).length c3, .map (some w3.heap.size)] 76 (0, 0)) := by
    have := World.alloc_heap_new (w3.alloc (.map #[] 0)) (.cells #[.slice a2 (heads G).length c2, .slice a3 (used 3 G).length c3, .map (some w3.heap.size)] 76)
    simpa using this
  have hne2 : (Value.slice a2 (heads G).length c2).ownBlock ≠ some w3.heap.size := fun e => by have := (World.ownsRow.lt HO2'.out _ e).2; omega
  have hne3 : (Value.slice a3 (used 3 G).length c3).ownBlock ≠ some w3.heap.size := fun e => by have := (World.ownsRow.lt HO3.out _ e).2; omega
  have hwb : w.heap.size ≤ w3.heap.size := HB3.out.size
  have HO2 : Hid (OwnStr ((w3.alloc (.map #[] 0)).alloc (.cells #[.slice a2 (heads G).length c2, .slice a3 (used 3 G).length c3, .map (some w3.heap.size)] 76)) w.heap.size (.slice a2 (heads G).length c2) (heads G)) := own_grown HO2'.out (grown_below hb1) (fun j hj => by cases hj)
  have HO3x : Hid (OwnStr ((w3.alloc (.map #[] 0)).alloc (.cells #[.slice a2 (heads G).length c2, .slice a3 (used 3 G).length c3, .map (some w3.heap.size)] 76)) w.heap.size (.slice a3 (used 3 G).length c3) (used 3 G)) := own_grown HO3.out (grown_below hb1) (fun j hj => by cases hj)
  have HB : Hid (Below w.heap.size w ((w3.alloc (.map #[] 0)).alloc (.cells #[.slice a2 (heads G).length c2, .slice a3 (used 3 G).length c3, .map (some w3.heap.size)] 76))) := HB3.out.trans (hb1.mono HB3.out.size)
  have HM := Lib.hid hM0
  have HT := Lib.hid hT0
  clear HO3 HO2' hb1 hM0 hT0 HB3
  have HO3 := HO3x
  clear HO3x
  generalize ((w3.alloc (.map #[] 0)).alloc (.cells #[.slice a2 (heads G).length c2, .slice a3 (used 3 G).length c3, .map (some w3.heap.size)] 76)) = W1 at *
  have hsz0 : Hid (∀ s ∈ heads G, s.size ≤ maxLen) := fun s hs => by
    obtain ⟨r, hr, rfl⟩ := (heads_mem G s).1 hs
    have := HL.out.head r hr; unfold maxLen; exact Nat.le_trans this (by omega)
  have hsz1 : Hid (∀ s ∈ used 3 G, s.size ≤ maxLen) := fun s hs => by
    have h1 := (usedL_mem _ s).1 hs
    obtain ⟨r, hr, h2⟩ := List.mem_flatMap.1 h1
    obtain ⟨x, hx, rfl⟩ := List.mem_map.1 h2
    have := HL.out.name r hr x (List.mem_filter.1 hx).1; unfold maxLen; exact Nat.le_trans this (by omega)
  generalize w3.heap.size = b at *
  go_loopw [27] (fun i wr => ∃ j : Nat, i = .int .i64 j ∧ j ≤ (heads G).length ∧ Hid (∃ D, wr.ownsMap Tryz.prog 82 (plainElem Tryz.prog 3) b (j) D ∧ NumAt D false ((heads G).take j) ∧ NumAt D true []) ∧ Hid (wr.heap[b + 1]? = some (.cells #[.slice a2 (heads G).length c2, .slice a3 (used 3 G).length c3, .map (some b)] 76 (0, 0))) ∧ Hid (OwnStr wr w.heap.size (.slice a2 (heads G).length c2) (heads G)) ∧ Hid (OwnStr wr w.heap.size (.slice a3 (used 3 G).length c3) (used 3 G)) ∧ Hid (Below w.heap.size w wr)) (fun i _ => (heads G).length - (intOf i).toNat)
  case atStart => exact ⟨0, rfl, by omega, ⟨_, HM.out, NumAt.nil _, NumAt.nil _⟩, HT.out, HO2.out, HO3.out, HB.out⟩
  case round =>
    clear HT HO2 HO3 HB HM
    obtain ⟨j, rfl, hj, HM, HT, HO2, HO3, HBel⟩ := hrel
    have hws := HBel.out.size
    have t2 : wr.cell? ⟨b + 1, 2, none⟩ = some (.map (some b)) := by have := HT.out; simp [World.cell?, this]
    by_cases hlt : j < (heads G).length
    · obtain ⟨x, hx⟩ : ∃ x, (heads G)[j]? = some x := ⟨_, List.getElem?_eq_getElem hlt⟩
      obtain ⟨bb, off, cp, e1, hbb, hc, x0⟩ := RdS.at (RdS.of_own HO2.out) hx
      simp only [Value.slice.injEq] at e1
      obtain ⟨rfl, -, rfl⟩ := e1
      obtain ⟨D, hown, hnum, hoth⟩ := HM.out
      have hkey := key_named false x (hsz0.out x (List.mem_of_getElem? hx))
      have HTk := Lib.hid (take_next hx)
      have hnp := hnum.put hown.isMap (nodup_next (heads_nodup G) hx)
      rw [HTk.out.2, ← HTk.out.1] at hnp
      have HNp := Lib.hid hnp
      have HOt := Lib.hid (hoth.other (lb' := false) (x := x) (by simp) (litI j))
      have hnn : j < maxLen := by unfold maxLen; omega
      have hwf : (Lit.int .i64 (j : Int)).wf = true := wf_nat j (by omega)
      clear hx hnp hnum hoth HM
      go_wp2_with (first
        | (at_mapUpdate; refine wpList_mapUpdate_own _ rfl _ _ _ 74 rfl 82 3 keyNm Tryz.underlying74 _ b _ D rfl hown hnn _ _ _ rfl rfl hkey _ [] (plainElem_int Tryz.underlying3 hwf) ?_; intro w4 hown4 hgrow4)
        | fail)
      have HM4 : Hid (∃ D, w4.ownsMap Tryz.prog 82 (plainElem Tryz.prog 3) b (j + 1) D ∧ NumAt D false ((heads G).take (j + 1)) ∧ NumAt D true []) := ⟨_, hown4, HNp.out, HOt.out⟩
      have HT4 : Hid (w4.heap[b + 1]? = some (.cells #[.slice (some ⟨bb, off, none⟩) (heads G).length c2, .slice a3 (used 3 G).length c3, .map (some b)] 76 (0, 0))) := by
        unfold Hid
        rw [hgrow4.block (b + 1) (Array.getElem?_eq_some_iff.1 HT.out).1 (by simp)]; exact HT.out
      have HO24 : Hid (OwnStr w4 w.heap.size (.slice (some ⟨bb, off, none⟩) (heads G).length c2) (heads G)) := own_grown HO2.out hgrow4 (fun j hj => by cases hj; exact .inr hne2)
      have HO34 : Hid (OwnStr w4 w.heap.size (.slice a3 (used 3 G).length c3) (used 3 G)) := own_grown HO3.out hgrow4 (fun j hj => by cases hj; exact .inr hne3)
      have HB4 : Hid (Below w.heap.size w w4) := HBel.out.grown hgrow4 hws (fun j hj => by cases hj; omega)
      clear hown4 hgrow4
      go_roundw
      case rel => exact ⟨j + 1, by go_num, by omega, HM4.out, HT4.out, HO24.out, HO34.out, HB4.out⟩
      case measure => simp [intOf]; omega
    · obtain rfl : j = (heads G).length := by omega
      have HM2 : Hid (∃ D, wr.ownsMap Tryz.prog 82 (plainElem Tryz.prog 3) b ((heads G).length + 0) D ∧ NumAt D true ((used 3 G).take 0) ∧ NumAt D false (heads G)) := by
        obtain ⟨D, h1, h2, h3⟩ := HM.out
        rw [List.take_of_length_le (Nat.le_refl _)] at h2
        exact ⟨D, h1, h3, h2⟩
      have t1 : wr.cell? ⟨b + 1, 1, none⟩ = some (.slice a3 (used 3 G).length c3) := by have := HT.out; simp [World.cell?, this]
      clear HM
      have HM := HM2
      clear HM2
      go_wp2_with fail
      clear t1 t2
      go_loopw [45] (fun i wr => ∃ j : Nat, i = .int .i64 j ∧ j ≤ (used 3 G).length ∧ Hid (∃ D, wr.ownsMap Tryz.prog 82 (plainElem Tryz.prog 3) b ((heads G).length + j) D ∧ NumAt D true ((used 3 G).take j) ∧ NumAt D false (heads G)) ∧ Hid (wr.heap[b + 1]? = some (.cells #[.slice a2 (heads G).length c2, .slice a3 (used 3 G).length c3, .map (some b)] 76 (0, 0))) ∧ Hid (OwnStr wr w.heap.size (.slice a2 (heads G).length c2) (heads G)) ∧ Hid (OwnStr wr w.heap.size (.slice a3 (used 3 G).length c3) (used 3 G)) ∧ Hid (Below w.heap.size w wr)) (fun i _ => (used 3 G).length - (intOf i).toNat)
      case atStart => exact ⟨0, rfl, by omega, HM.out, HT.out, HO2.out, HO3.out, HBel.out⟩
      case round =>
        clear HT HO2 HO3 HBel HM
        obtain ⟨j, rfl, hj, HM, HT, HO2, HO3, HBel⟩ := hrel
        have hws := HBel.out.size
        have t2 : wr.cell? ⟨b + 1, 2, none⟩ = some (.map (some b)) := by have := HT.out; simp [World.cell?, this]
        by_cases hlt : j < (used 3 G).length
        · obtain ⟨x, hx⟩ : ∃ x, (used 3 G)[j]? = some x := ⟨_, List.getElem?_eq_getElem hlt⟩
          obtain ⟨bb, off, cp, e1, hbb, hc, x0⟩ := RdS.at (RdS.of_own HO3.out) hx
          simp only [Value.slice.injEq] at e1
          obtain ⟨rfl, -, rfl⟩ := e1
          obtain ⟨D, hown, hnum, hoth⟩ := HM.out
          have hkey := key_named true x (hsz1.out x (List.mem_of_getElem? hx))
          have HTk := Lib.hid (take_next hx)
          have hnp := hnum.put hown.isMap (nodup_next (used_nodup 3 G) hx)
          rw [HTk.out.2, ← HTk.out.1] at hnp
          have HNp := Lib.hid hnp
          have HOt := Lib.hid (hoth.other (lb' := true) (x := x) (by simp) (litI j))
          have hnn : (heads G).length + j < maxLen := by unfold maxLen; omega
          have hwf : (Lit.int .i64 (j : Int)).wf = true := wf_nat j (by omega)
          clear hx hnp hnum hoth HM
          go_wp2_with (first
            | (at_mapUpdate; refine wpList_mapUpdate_own _ rfl _ _ _ 74 rfl 82 3 keyNm Tryz.underlying74 _ b _ D rfl hown hnn _ _ _ rfl rfl hkey _ [] (plainElem_int Tryz.underlying3 hwf) ?_; intro w4 hown4 hgrow4)
            | fail)
          have HM4 : Hid (∃ D, w4.ownsMap Tryz.prog 82 (plainElem Tryz.prog 3) b ((heads G).length + j + 1) D ∧ NumAt D true ((used 3 G).take (j + 1)) ∧ NumAt D false (heads G)) := ⟨_, hown4, HNp.out, HOt.out⟩
          have HT4 : Hid (w4.heap[b + 1]? = some (.cells #[.slice a2 (heads G).length c2, .slice (some ⟨bb, off, none⟩) (used 3 G).length c3, .map (some b)] 76 (0, 0))) := by
            unfold Hid
            rw [hgrow4.block (b + 1) (Array.getElem?_eq_some_iff.1 HT.out).1 (by simp)]; exact HT.out
          have HO24 : Hid (OwnStr w4 w.heap.size (.slice a2 (heads G).length c2) (heads G)) := own_grown HO2.out hgrow4 (fun j hj => by cases hj; exact .inr hne2)
          have HO34 : Hid (OwnStr w4 w.heap.size (.slice (some ⟨bb, off, none⟩) (used 3 G).length c3) (used 3 G)) := own_grown HO3.out hgrow4 (fun j hj => by cases hj; exact .inr hne3)
          have HB4 : Hid (Below w.heap.size w w4) := HBel.out.grown hgrow4 hws (fun j hj => by cases hj; omega)
          clear hown4 hgrow4
          go_roundw
          case rel => exact ⟨j + 1, by go_num, by omega, HM4.out, HT4.out, HO24.out, HO34.out, HB4.out⟩
          case measure => simp [intOf]; omega
        · obtain rfl : j = (used 3 G).length := by omega
          have HTab : Hid (TabAt wr w.heap.size (b + 1) G) := by
            obtain ⟨D, h1, h2, h3⟩ := HM.out
            rw [List.take_of_length_le (Nat.le_refl _)] at h2
            exact ⟨by omega, _, _, b, _, D, HT.out, HO2.out, HO3.out, hwb, h1, h3, h2⟩
          go_wp2_with fail
          go_ret2
          exact ⟨b + 1, rfl, HTab.out, HBel.out⟩
end Go.Proofs.YtfmcbpnhpckmjaaGreat
namespace Go.Proofs.YtfmcbpnhpckmjaaGreat
open Go.RowKit Go.Maps

set_option maxRecDepth 100000 in
set_option maxHeartbeats 3200000 in
theorem xOf_err (v : Value) (G : List Ru) (w : World) (h : RdRu w v G) (hl : LimG G) (hn : nodesG G ≤ 16777216) (hc : checkG G ≠ 0) :
    Calls Tryz.prog 16 #[v] w fun e w' => e = .returned (.tuple #[.pointer none, .int .i64 (checkG G)]) ∧ Below w.heap.size w w' := by
  have HC := Lib.hid (xCheckG_any v G w h hl hn)
  obtain ⟨P, hG, hR⟩ := h
  obtain ⟨⟨_, ao, cap, rfl, -⟩, -⟩ := hR
  clear hl hn hG
  generalize checkG G = c at *
  have hb : (c != 0) = true := by simpa using hc
  clear hc
  go_enter Tryz.func16, Tryz.ntmps16
  go_wp2_with fail
  refine (HC.out).mono ?_
  rintro e w1 ⟨rfl, hb1⟩
  go_wp2_with fail
  go_ret2
  exact ⟨rfl, hb1⟩
/-! ### is it a table? -/
set_option maxRecDepth 100000 in
theorem xThere_nil (w : World) : Calls Tryz.prog 31 #[.pointer none] w fun e w' => e = .returned (.bool false) ∧ w' = w := by
  go_enter Tryz.func31, Tryz.ntmps31
  go_wp2_with fail
  go_ret
  exact ⟨rfl, rfl⟩
set_option maxRecDepth 100000 in
theorem xThere_tab {w : World} {B tb : Nat} {G : List Ru} (h : TabAt w B tb G) : Calls Tryz.prog 31 #[.pointer (some ⟨tb, 0, none⟩)] w fun e w' => e = .returned (.bool true) ∧ w' = w := by
  obtain ⟨v1, v2, b, n, D, h1, -⟩ := h.ex
  have t2 : w.cell? ⟨tb, 2, none⟩ = some (.map (some b)) := by simp [World.cell?, h1]
  clear h h1
  have hq := fun (w : World) => run_neq_map_nil (P := Tryz.prog) w 74 _ _ (some b) Tryz.underlying74
  go_enter Tryz.func31, Tryz.ntmps31
  go_wp2_with fail
  go_ret
  exact ⟨rfl, rfl⟩
/-! ### slices.Clone of texts -/
def cloSRen : Go.Shelf.Ren := ⟨fun | 41 => 32 | n => n, fun | 4 => 4 | 22 => 27 | 23 => 9 | n => n, fun | n => n⟩
theorem cloSLays : Go.Proofs.SlLaysE0.n41 Tryz.prog cloSRen := {
  mixed := by kernel_rfl
  f41 := ⟨Tryz.f32.name, by kernel_rfl, Tryz.func32.trans (congrArg some (by kernel_rfl))⟩
  t4 := Tryz.underlying4
  a4 := Tryz.isAgg4
  z4 := Tryz.sizeOf4
  v4 := Tryz.zeroValue4
  t22 := Tryz.underlying27
  a22 := Tryz.isAgg27
  z22 := Tryz.sizeOf27
  v22 := Tryz.zeroValue27
}
theorem strs_one (l : List ByteArray) : ∀ u ∈ strs l, u.oneCell' = true := by
  intro u hu; obtain ⟨s, _, rfl⟩ := List.mem_map.1 hu; rfl
theorem xCloneS_any (v : Value) (l : List ByteArray) (w : World) (h : RdS w v l) (hl : l.length ≤ 4398046511104) :
    Calls Tryz.prog 32 #[v] w fun e w' => ∃ v', e = .returned v' ∧ OwnStr w' w.heap.size v' l ∧ Below w.heap.size w w' := by
  by_cases h0 : l.length = 0
  · obtain ⟨_, ao, cap, rfl, -⟩ := h
    obtain rfl : l = [] := List.length_eq_zero_iff.1 h0
    have hq : ∀ (w : World) (a : Option Addr) (n c n' c' : Nat), (binOp .eql 27 (.slice a n c) (.slice none n' c')).run Tryz.prog w = .ok (.bool a.isNone) w := fun w a n c n' c' => Lib.run_eql_slice_nil w _ _ a n c n' c' Tryz.underlying27
    cases ao with
    | none =>
      go_enter Tryz.func32, Tryz.ntmps32
      go_wp2_with fail
      go_ret
      exact ⟨_, rfl, World.ownsRow_nil _ _ _ _, Below.refl _ _⟩
    | some ad =>
      go_enter Tryz.func32, Tryz.ntmps32
      go_wp2_with (at_builtin; go_must (refine wpList_app0 elemStr rfl _ _ rfl rfl (Nat.le_refl _) rfl ?_))
      go_ret
      refine ⟨_, rfl, ⟨rfl, .inr ⟨w.heap.size, 0, #[], rfl, Nat.le_refl _, World.alloc_heap_new w _, Nat.le_refl _, by unfold maxLen; omega, rfl, rfl⟩⟩, below1 _ _⟩
  · obtain ⟨h1, ao, cap, rfl, h2, h3, h4⟩ := id h
    rcases h4 with h4 | ⟨b, off, rfl, h6, h7⟩
    · exact absurd h4 h0
    obtain ⟨i, z, ht, hi, hz, hz1, hz2, hz3, hz4⟩ := elemStr.ex
    refine (AnyE.slices_Clone cloSLays i z 1 16 hi hz hz1 hz2 hz3 hz4 Tryz.sizeOf9 b off l.length cap (strs l) w (by rw [h1]) (by unfold maxLen; omega) (by omega) h7 (strs_one _)).mono ?_
    rintro e w' ⟨v', rfl, ho, _, hb⟩
    exact ⟨v', rfl, ho, hb⟩
/-! ### Names and Labels -/
set_option maxRecDepth 100000 in
set_option maxHeartbeats 1600000 in
theorem xNames_tab {w : World} {B tb : Nat} {G : List Ru} (h : TabAt w B tb G) (hl : (heads G).length ≤ 4398046511104) :
    Calls Tryz.prog 11 #[.pointer (some ⟨tb, 0, none⟩)] w fun e w' => ∃ v', e = .returned v' ∧ OwnStr w' w.heap.size v' (heads G) ∧ Below w.heap.size w w' := by
  have HT := Lib.hid (xThere_tab h)
  obtain ⟨v1, v2, b, n, D, h1, h2, -⟩ := h.ex
  have t0 : w.cell? ⟨tb, 0, none⟩ = some v1 := by simp [World.cell?, h1]
  have HC := Lib.hid (xCloneS_any v1 _ w (RdS.of_own h2) hl)
  obtain ⟨a1, c1, rfl⟩ := own_str_shape h2
  clear h h1 h2
  go_enter Tryz.func11, Tryz.ntmps11
  go_wp2_with (first
    | (go_at_call 31; refine (HT.out).mono ?_; rintro e w1 ⟨rfl, rfl⟩)
    | (go_at_call 32; refine (HC.out).mono ?_; rintro e w1 ⟨v', rfl, ho, hb⟩))
  go_ret
  exact ⟨_, rfl, ho, hb⟩
set_option maxRecDepth 100000 in
set_option maxHeartbeats 1600000 in
theorem xLabels_tab {w : World} {B tb : Nat} {G : List Ru} (h : TabAt w B tb G) (hl : (used 3 G).length ≤ 4398046511104) :
    Calls Tryz.prog 13 #[.pointer (some ⟨tb, 0, none⟩)] w fun e w' => ∃ v', e = .returned v' ∧ OwnStr w' w.heap.size v' (used 3 G) ∧ Below w.heap.size w w' := by
  have HT := Lib.hid (xThere_tab h)
  obtain ⟨v1, v2, b, n, D, h1, -, h2, -⟩ := h.ex
  have t0 : w.cell? ⟨tb, 1, none⟩ = some v2 := by simp [World.cell?, h1]
  have HC := Lib.hid (xCloneS_any v2 _ w (RdS.of_own h2) hl)
  obtain ⟨a1, c1, rfl⟩ := own_str_shape h2
  clear h h1 h2
  go_enter Tryz.func13, Tryz.ntmps13
  go_wp2_with (first
    | (go_at_call 31; refine (HT.out).mono ?_; rintro e w1 ⟨rfl, rfl⟩)
    | (go_at_call 32; refine (HC.out).mono ?_; rintro e w1 ⟨v', rfl, ho, hb⟩))
  go_ret
  exact ⟨_, rfl, ho, hb⟩
/-! ### a name's number -/
def NumS (l : List ByteArray) (s : ByteArray) (r e : Int) : Prop := (∃ i : Nat, l[i]? = some s ∧ r = i ∧ e = 0) ∨ (s ∉ l ∧ r = 0 ∧ e = 4)
theorem numS_ex (l : List ByteArray) (s : ByteArray) : ∃ r e, NumS l s r e := by
  by_cases h : s ∈ l
  · obtain ⟨i, hi⟩ := List.getElem?_of_mem h
    exact ⟨i, 0, .inl ⟨i, hi, rfl, rfl⟩⟩
  · exact ⟨0, 4, .inr ⟨h, rfl, rfl⟩⟩
theorem zeroI2 (w : World) : (zeroValue 3).run Tryz.prog w = .ok (.int .i64 0) w := by kernel_rfl
set_option maxRecDepth 100000 in
set_option maxHeartbeats 3200000 in
theorem xNumber_tab {w : World} {B tb : Nat} {G : List Ru} (h : TabAt w B tb G) (lb : Bool) (s : ByteArray) (r er : Int) (hs : s.size ≤ maxLen) (hS : NumS (if lb then used 3 G else heads G) s r er) :
    Calls Tryz.prog 45 #[.pointer (some ⟨tb, 0, none⟩), .agg #[.bool lb, .string s]] w fun e w' => e = .returned (.tuple #[.int .i64 r, .int .i64 er]) ∧ Below w.heap.size w w' := by
  have hlt := h.lt
  have HT := Lib.hid (xThere_tab (h.below (below1 w (.cells #[.bool lb, .string s] 82))))
  obtain ⟨v1, v2, b, n, D, h1, -, -, -, h5, h6, h7⟩ := h.ex
  have t2 : (w.alloc (.cells #[.bool lb, .string s] 82)).cell? ⟨tb, 2, none⟩ = some (.map (some b)) := by
    have : w.cell? ⟨tb, 2, none⟩ = some (.map (some b)) := by simp [World.cell?, h1]
    exact ((below1 w _).cell (p := ⟨tb, 2, none⟩) hlt).trans this
  have hown := (h5.alloc (.cells #[.bool lb, .string s] 82)).drew
  obtain ⟨v, ps, hrun, hv⟩ := hown.look_ok keyNm Tryz.underlying74 (zeroI2 _) (zd := litI 0) (zp := []) (plainElem_int Tryz.underlying3 (by decide)) (key_named lb s hs)
  obtain ⟨c, rfl, hc, hwc⟩ := plainElem_int_inv Tryz.underlying3 hv
  have hc2 : D.atKey (kl lb s) (litI 0) = .lit (.int .i64 c) := congrArg Prod.fst hc
  have hnum : NumAt D lb (if lb then used 3 G else heads G) := by cases lb with | true => exact h7 | false => exact h6
  rw [hnum.has] at hrun
  rcases hS with ⟨i, hi, rfl, rfl⟩ | ⟨hm, rfl, rfl⟩
  · rw [hnum.num i s hi] at hc2
    obtain rfl : (i : Int) = c := by simpa [litI] using hc2
    rw [decide_eq_true (List.mem_of_getElem? hi)] at hrun
    clear h h1 h5 h6 h7 hown hv hc hc2 hwc hnum hi
    go_enter Tryz.func45, Tryz.ntmps45
    go_wp2_with (go_at_call 31; refine (HT.out).mono ?_; rintro e w1 ⟨rfl, rfl⟩)
    go_region
    all_goals
      go_wp2_with fail
      go_ret2
      exact ⟨rfl, (below1 _ _).drew⟩
  · have hc0 : Maps.has D (kl lb s) = false := by rw [hnum.has]; simpa using hm
    rw [decide_eq_false hm] at hrun
    clear h h1 h5 h6 h7 hown hv hc hc2 hwc hnum hm hc0
    go_enter Tryz.func45, Tryz.ntmps45
    go_wp2_with (go_at_call 31; refine (HT.out).mono ?_; rintro e w1 ⟨rfl, rfl⟩)
    go_region
    all_goals
      go_wp2_with fail
      go_ret2
      exact ⟨rfl, (below1 _ _).drew⟩
set_option maxRecDepth 100000 in
set_option maxHeartbeats 1600000 in
theorem xNt_tab {w : World} {B tb : Nat} {G : List Ru} (h : TabAt w B tb G) (s : ByteArray) (r er : Int) (hs : s.size ≤ maxLen) (hS : NumS (heads G) s r er) :
    Calls Tryz.prog 19 #[.pointer (some ⟨tb, 0, none⟩), .string s] w fun e w' => e = .returned (.tuple #[.int .i64 r, .int .i64 er]) ∧ Below w.heap.size w w' := by
  have HN := Lib.hid (xNumber_tab h false s r er hs hS)
  clear h hS
  go_enter Tryz.func19, Tryz.ntmps19
  go_wp2_with (go_at_call 45; refine (HN.out).mono ?_; rintro e w1 ⟨rfl, hb⟩)
  go_ret2
  exact ⟨rfl, hb⟩
set_option maxRecDepth 100000 in
set_option maxHeartbeats 1600000 in
theorem xLabel_tab {w : World} {B tb : Nat} {G : List Ru} (h : TabAt w B tb G) (s : ByteArray) (r er : Int) (hs : s.size ≤ maxLen) (hS : NumS (used 3 G) s r er) :
    Calls Tryz.prog 20 #[.pointer (some ⟨tb, 0, none⟩), .string s] w fun e w' => e = .returned (.tuple #[.int .i64 r, .int .i64 er]) ∧ Below w.heap.size w w' := by
  have HN := Lib.hid (xNumber_tab h true s r er hs hS)
  clear h hS
  go_enter Tryz.func20, Tryz.ntmps20
  go_wp2_with (go_at_call 45; refine (HN.out).mono ?_; rintro e w1 ⟨rfl, hb⟩)
  go_ret2
  exact ⟨rfl, hb⟩
end Go.Proofs.YtfmcbpnhpckmjaaGreat
namespace Go.Proofs.YtfmcbpnhpckmjaaGreat
open Go.RowKit

theorem heads_le (G : List Ru) {n : Nat} (h : G.length ≤ n) : (heads G).length ≤ n := Nat.le_trans (heads_len G) h
theorem used_le (k : Int) (G : List Ru) {n : Nat} (h : nodesG G ≤ n) : (used k G).length ≤ n := Nat.le_trans (used_len k G) h
/- what 'table' leaves: a table of a grammar that may be, else none; 'true' in both cases -/
set_option maxRecDepth 100000 in
set_option maxHeartbeats 3200000 in
theorem rTable_ok (v : Value) (G : List Ru) (w : World) (h : RdRu w v G) (hl : LimG G) (hl2 : G.length ≤ 1048576) (hn : nodesG G ≤ 16777216) (hc : checkG G = 0) :
    Calls Tryz.prog 9 #[v] w fun e w' => ∃ tb, e = .returned (.tuple #[.pointer (some ⟨tb, 0, none⟩), .bool true]) ∧ TabAt w' w.heap.size tb G ∧ Below w.heap.size w w' := by
  have HV := Lib.hid h
  have H1 := Lib.hid (rCopyG_any v G w h hl (by omega))
  have H2 := Lib.hid (fun v w h => xOf_ok v G w h hl hn hc)
  have H3 := Lib.hid (fun w h => rCheckG_any v G w h hl hn)
  rw [hc] at H3
  obtain ⟨P, hG, hR⟩ := h
  obtain ⟨⟨_, ao, cap, rfl, -⟩, -⟩ := hR
  clear hl hn hG hc hl2
  go_enter Tryz.func9, Tryz.ntmps9
  go_wp2_with fail
  refine (H1.out).mono ?_
  rintro e w1 ⟨v1, P1, rfl, hP1, ho1, hb1⟩
  have HR1 : Hid (RdRu w1 v1 G) := ⟨P1, hP1, ho1.rd⟩
  have HB1 := Lib.hid hb1
  clear hb1 ho1 hP1
  go_wp2_with fail
  refine (H2.out _ _ HR1.out).mono ?_
  rintro e w2 ⟨tb, rfl, hT, hb2⟩
  have HB2 := Lib.hid (HB1.out.trans (hb2.mono HB1.out.size))
  have hT2 : Hid (TabAt w2 w.heap.size tb G) := by
    obtain ⟨hle, v1, v2, b, n, D, t1, t2, t3, t4, t5, t6, t7⟩ := hT
    have := HB1.out.size
    exact ⟨by omega, v1, v2, b, n, D, t1, own_lower t2 this, own_lower t3 this, by omega, t5, t6, t7⟩
  clear hb2 hT
  go_wp2_with fail
  refine (H3.out _ (HV.out.below HB2.out)).mono ?_
  rintro e w3 ⟨rfl, hb3⟩
  have HB3 := Lib.hid (HB2.out.trans (hb3.mono HB2.out.size))
  have hT3 := Lib.hid (hT2.out.below hb3)
  clear hb3 hT2
  go_wp2_with fail
  go_ret2
  exact ⟨tb, rfl, hT3.out, HB3.out⟩
set_option maxRecDepth 100000 in
set_option maxHeartbeats 3200000 in
theorem rTable_err (v : Value) (G : List Ru) (w : World) (h : RdRu w v G) (hl : LimG G) (hl2 : G.length ≤ 1048576) (hn : nodesG G ≤ 16777216) (hc : checkG G ≠ 0) :
    Calls Tryz.prog 9 #[v] w fun e w' => e = .returned (.tuple #[.pointer none, .bool true]) ∧ Below w.heap.size w w' := by
  have HV := Lib.hid h
  have H1 := Lib.hid (rCopyG_any v G w h hl (by omega))
  have H2 := Lib.hid (fun v w h => xOf_err v G w h hl hn hc)
  have H3 := Lib.hid (fun w h => rCheckG_any v G w h hl hn)
  obtain ⟨P, hG, hR⟩ := h
  obtain ⟨⟨_, ao, cap, rfl, -⟩, -⟩ := hR
  clear hl hn hG hl2
  generalize checkG G = c at *
  have hcb : (c == 0) = false := by simpa using hc
  clear hc
  go_enter Tryz.func9, Tryz.ntmps9
  go_wp2_with fail
  refine (H1.out).mono ?_
  rintro e w1 ⟨v1, P1, rfl, hP1, ho1, hb1⟩
  have HR1 : Hid (RdRu w1 v1 G) := ⟨P1, hP1, ho1.rd⟩
  have HB1 := Lib.hid hb1
  clear hb1 ho1 hP1
  go_wp2_with fail
  refine (H2.out _ _ HR1.out).mono ?_
  rintro e w2 ⟨rfl, hb2⟩
  have HB2 := Lib.hid (HB1.out.trans (hb2.mono HB1.out.size))
  clear hb2
  go_wp2_with fail
  refine (H3.out _ (HV.out.below HB2.out)).mono ?_
  rintro e w3 ⟨rfl, hb3⟩
  have HB3 := Lib.hid (HB2.out.trans (hb3.mono HB2.out.size))
  clear hb3
  go_wp2_with fail
  go_ret2
  exact ⟨rfl, HB3.out⟩
/-! ### the law SymbolsOf -/
set_option maxRecDepth 100000 in
set_option maxHeartbeats 3200000 in
theorem symbolsOf_any (v : Value) (G : List Ru) (w : World) (h : RdRu w v G) (hb : Bulk G 1048576) :
    Calls Tryz.prog 3 #[v] w fun e w' => e = .returned (.bool true) ∧ Below w.heap.size w w' := by
  have hl := hb.lim (by omega)
  have hl2 := hb.len
  have hn := hb.nodes
  clear hb
  have HV := Lib.hid h
  by_cases hc : checkG G = 0
  · have HT := Lib.hid (rTable_ok v G w h hl hl2 (by omega) hc)
    have HL := Lib.hid hl
    have hhl := heads_le G hl2
    have hul := used_le 3 G hn
    have H3 := Lib.hid (fun w h => rHeads_any v G w h hl)
    have H4 := Lib.hid (fun w h => rLabels_any v G w h hl)
    obtain ⟨P, hG, hR⟩ := h
    obtain ⟨⟨_, ao, cap, rfl, -⟩, -⟩ := hR
    clear hl hn hG hl2 hc
    go_enter Tryz.func3, Tryz.ntmps3
    go_wp2_with fail
    refine (HT.out).mono ?_
    rintro e w1 ⟨tb, rfl, hT1, hb1⟩
    have HT1 := Lib.hid hT1
    have HB1 := Lib.hid hb1
    clear hb1 hT1
    go_wp2_with fail
    refine (xNames_tab HT1.out (by omega)).mono ?_
    rintro e w2 ⟨v2, rfl, ho2, hb2⟩
    have HO2 := Lib.hid (RdS.of_own ho2)
    have HB2 := Lib.hid (HB1.out.trans (hb2.mono HB1.out.size))
    have HT2 := Lib.hid (HT1.out.below hb2)
    clear hb2 ho2
    go_wp2_with fail
    refine (H3.out _ (HV.out.below HB2.out)).mono ?_
    rintro e w3 ⟨v3, rfl, ho3, hb3⟩
    have HO3 := Lib.hid (RdS.of_own ho3)
    have HO2' := Lib.hid (HO2.out.below hb3)
    have HB3 := Lib.hid (HB2.out.trans (hb3.mono HB2.out.size))
    have HT3 := Lib.hid (HT2.out.below hb3)
    clear hb3 ho3
    go_wp2_with fail
    refine (rSameTexts_any _ _ _ _ _ HO2'.out HO3.out (by omega) (by omega)).mono ?_
    rintro e w4 ⟨rfl, hb4⟩
    have HB4 := Lib.hid (HB3.out.trans (hb4.mono HB3.out.size))
    have HT4 := Lib.hid (HT3.out.below hb4)
    clear hb4
    rw [decide_eq_true (rfl : heads G = heads G)]
    go_wp2_with fail
    refine (xLabels_tab HT4.out (by omega)).mono ?_
    rintro e w5 ⟨v5, rfl, ho5, hb5⟩
    have HO5 := Lib.hid (RdS.of_own ho5)
    have HB5 := Lib.hid (HB4.out.trans (hb5.mono HB4.out.size))
    clear hb5 ho5
    go_wp2_with fail
    refine (H4.out _ (HV.out.below HB5.out)).mono ?_
    rintro e w6 ⟨v6, rfl, ho6, hb6⟩
    have HO6 := Lib.hid (RdS.of_own ho6)
    have HO5' := Lib.hid (HO5.out.below hb6)
    have HB6 := Lib.hid (HB5.out.trans (hb6.mono HB5.out.size))
    clear hb6 ho6
    go_wp2_with fail
    refine (rSameTexts_any _ _ _ _ _ HO5'.out HO6.out (by omega) (by omega)).mono ?_
    rintro e w7 ⟨rfl, hb7⟩
    have HB7 := Lib.hid (HB6.out.trans (hb7.mono HB6.out.size))
    clear hb7
    rw [decide_eq_true (rfl : used 3 G = used 3 G)]
    go_wp2_with fail
    go_ret
    exact ⟨rfl, HB7.out⟩
  · have HT := Lib.hid (rTable_err v G w h hl hl2 (by omega) hc)
    obtain ⟨P, hG, hR⟩ := h
    obtain ⟨⟨_, ao, cap, rfl, -⟩, -⟩ := hR
    clear hl hn hG hl2 hc
    go_enter Tryz.func3, Tryz.ntmps3
    go_wp2_with fail
    refine (HT.out).mono ?_
    rintro e w1 ⟨rfl, hb1⟩
    go_wp2_with fail
    go_ret
    exact ⟨rfl, hb1⟩
end Go.Proofs.YtfmcbpnhpckmjaaGreat
namespace Go.Proofs.YtfmcbpnhpckmjaaGreat
open Go.RowKit Go.Maps

/-! ### plain -/
theorem pos_ex (L : List ByteArray) (s : ByteArray) : ∃ i : Nat, s ∈ L → L[i]? = some s := by
  by_cases h : s ∈ L
  · obtain ⟨i, hi⟩ := List.getElem?_of_mem h
    exact ⟨i, fun _ => hi⟩
  · exact ⟨0, fun h2 => absurd h2 h⟩
/-- where a name stands -/
noncomputable def posL (L : List ByteArray) (s : ByteArray) : Nat := (pos_ex L s).choose
theorem posL_at {L : List ByteArray} {s : ByteArray} (h : s ∈ L) : L[posL L s]? = some s := (pos_ex L s).choose_spec h
theorem posL_lt {L : List ByteArray} {s : ByteArray} (h : s ∈ L) : posL L s < L.length := (List.getElem?_eq_some_iff.1 (posL_at h)).1
theorem posL_eq {L : List ByteArray} (hn : L.Nodup) {s : ByteArray} {i : Nat} (h : L[i]? = some s) : posL L s = i := by
  have hm := List.mem_of_getElem? h
  obtain ⟨h1, h2⟩ := List.getElem?_eq_some_iff.1 h
  obtain ⟨h3, h4⟩ := List.getElem?_eq_some_iff.1 (posL_at hm)
  have hp := List.pairwise_iff_getElem.1 hn
  rcases Nat.lt_trichotomy (posL L s) i with h5 | h5 | h5
  · exact absurd (h4.trans h2.symm) (hp _ _ h3 h1 h5)
  · exact h5
  · exact absurd (h2.trans h4.symm) (hp _ _ h1 h3 h5)
theorem numS_pos {L : List ByteArray} {s : ByteArray} (h : s ∈ L) : NumS L s (posL L s) 0 := .inl ⟨_, posL_at h, rfl, rfl⟩
theorem numS_not {L : List ByteArray} {s : ByteArray} (h : s ∉ L) : NumS L s 0 4 := .inr ⟨h, rfl, rfl⟩
noncomputable def numOf (L : List ByteArray) (s : ByteArray) : Int × Int := by
  classical exact if s ∈ L then (posL L s, 0) else (0, 4)
theorem numOf_in {L : List ByteArray} {s : ByteArray} (h : s ∈ L) : numOf L s = ((posL L s : Int), 0) := by unfold numOf; rw [if_pos h]
theorem numOf_out {L : List ByteArray} {s : ByteArray} (h : s ∉ L) : numOf L s = (0, 4) := by unfold numOf; rw [if_neg h]
theorem numOf_s (L : List ByteArray) (s : ByteArray) : NumS L s (numOf L s).1 (numOf L s).2 := by
  by_cases h : s ∈ L
  · rw [numOf_in h]; exact numS_pos h
  · rw [numOf_out h]; exact numS_not h
/-- the name of a number: it is there, or not -/
def NameS (L : List ByteArray) (k : Int) (t : ByteArray) (e : Int) : Prop := (∃ i : Nat, k = i ∧ L[i]? = some t ∧ e = 0) ∨ ((k < 0 ∨ (L.length : Int) ≤ k) ∧ t = ⟨#[]⟩ ∧ e = 4)
theorem nameS_ex (L : List ByteArray) (k : Int) : ∃ t e, NameS L k t e := by
  by_cases h : k < 0 ∨ (L.length : Int) ≤ k
  · exact ⟨_, _, .inr ⟨h, rfl, rfl⟩⟩
  · have hl : k.toNat < L.length := by omega
    exact ⟨_, 0, .inl ⟨k.toNat, by omega, List.getElem?_eq_getElem hl, rfl⟩⟩
set_option maxRecDepth 100000 in
set_option maxHeartbeats 3200000 in
theorem xName_tab {w : World} {B tb : Nat} {G : List Ru} (h : TabAt w B tb G) (lb : Bool) (k : Int) (t : ByteArray) (er : Int) (hS : NameS (if lb then used 3 G else heads G) k t er) :
    Calls Tryz.prog 22 #[.pointer (some ⟨tb, 0, none⟩), .agg #[.bool lb, .int .i64 k]] w fun e w' => e = .returned (.tuple #[.string t, .int .i64 er]) ∧ Below w.heap.size w w' := by
  have hlt := h.lt
  have HT := Lib.hid (xThere_tab (h.below (below1 w (.cells #[.bool lb, .int .i64 k] 46))))
  obtain ⟨v1, v2, b, n, D, h1, h2, h3, -⟩ := h.ex
  have HB : Hid (Below w.heap.size w (w.alloc (.cells #[.bool lb, .int .i64 k] 46))) := below1 w _
  have t0 : (w.alloc (.cells #[.bool lb, .int .i64 k] 46)).cell? ⟨tb, 0, none⟩ = some v1 := (HB.out.cell (p := ⟨tb, 0, none⟩) hlt).trans (by simp [World.cell?, h1])
  have t1 : (w.alloc (.cells #[.bool lb, .int .i64 k] 46)).cell? ⟨tb, 1, none⟩ = some v2 := (HB.out.cell (p := ⟨tb, 1, none⟩) hlt).trans (by simp [World.cell?, h1])
  have HR1 : Hid (RdS (w.alloc (.cells #[.bool lb, .int .i64 k] 46)) v1 (heads G)) := (RdS.of_own h2).below HB.out
  have HR2 : Hid (RdS (w.alloc (.cells #[.bool lb, .int .i64 k] 46)) v2 (used 3 G)) := (RdS.of_own h3).below HB.out
  obtain ⟨a1, c1, rfl⟩ := own_str_shape h2
  obtain ⟨a2, c2, rfl⟩ := own_str_shape h3
  clear h h1 h2 h3
  cases lb with
  | false =>
    have hS2 : NameS (heads G) k t er := by simpa using hS
    clear hS
    rcases hS2 with ⟨i, rfl, hi, rfl⟩ | ⟨hk, rfl, rfl⟩
    · have hl : i < (heads G).length := (List.getElem?_eq_some_iff.1 hi).1
      obtain ⟨bb, off, cp, e1, hbb, hc, x0⟩ := RdS.at HR1.out hi
      simp only [Value.slice.injEq] at e1
      obtain ⟨rfl, -, rfl⟩ := e1
      clear hi
      generalize (heads G).length = ln at *
      go_enter Tryz.func22, Tryz.ntmps22
      go_wp2_with (go_at_call 31; refine (HT.out).mono ?_; rintro e w1 ⟨rfl, rfl⟩)
      go_ret2
      exact ⟨rfl, HB.out⟩
    · generalize (heads G).length = ln at *
      by_cases h0 : k < 0
      · clear hk
        go_enter Tryz.func22, Tryz.ntmps22
        go_wp2_with (go_at_call 31; refine (HT.out).mono ?_; rintro e w1 ⟨rfl, rfl⟩)
        go_ret2
        exact ⟨rfl, HB.out⟩
      · have h1 : (ln : Int) ≤ k := by omega
        clear hk
        go_enter Tryz.func22, Tryz.ntmps22
        go_wp2_with (go_at_call 31; refine (HT.out).mono ?_; rintro e w1 ⟨rfl, rfl⟩)
        go_ret2
        exact ⟨rfl, HB.out⟩
  
  | true =>
    have hS2 : NameS (used 3 G) k t er := by simpa using hS
    clear hS
    rcases hS2 with ⟨i, rfl, hi, rfl⟩ | ⟨hk, rfl, rfl⟩
    · have hl : i < (used 3 G).length := (List.getElem?_eq_some_iff.1 hi).1
      obtain ⟨bb, off, cp, e1, hbb, hc, x0⟩ := RdS.at HR2.out hi
      simp only [Value.slice.injEq] at e1
      obtain ⟨rfl, -, rfl⟩ := e1
      clear hi
      generalize (used 3 G).length = ln at *
      go_enter Tryz.func22, Tryz.ntmps22
      go_wp2_with (go_at_call 31; refine (HT.out).mono ?_; rintro e w1 ⟨rfl, rfl⟩)
      go_ret2
      exact ⟨rfl, HB.out⟩
    · generalize (used 3 G).length = ln at *
      by_cases h0 : k < 0
      · clear hk
        go_enter Tryz.func22, Tryz.ntmps22
        go_wp2_with (go_at_call 31; refine (HT.out).mono ?_; rintro e w1 ⟨rfl, rfl⟩)
        go_ret2
        exact ⟨rfl, HB.out⟩
      · have h1 : (ln : Int) ≤ k := by omega
        clear hk
        go_enter Tryz.func22, Tryz.ntmps22
        go_wp2_with (go_at_call 31; refine (HT.out).mono ?_; rintro e w1 ⟨rfl, rfl⟩)
        go_ret2
        exact ⟨rfl, HB.out⟩
/-! ### the reference: Place, Number -/
set_option maxRecDepth 100000 in
set_option maxHeartbeats 1600000 in
theorem rPlaceS_any (v : Value) (l : List ByteArray) (s : ByteArray) (w : World) (h : RdS w v l) (hn : l.Nodup) (hl : l.length ≤ 140737488355328) :
    Calls Tryz.prog 46 #[v, .string s] w fun e w' => (∃ r : Int, e = .returned (.int .i64 r) ∧ ((s ∈ l ∧ r = posL l s) ∨ (s ∉ l ∧ r = -1))) ∧ w = w' := by
  have HR := Lib.hid h
  have HN := Lib.hid hn
  obtain ⟨_, ao, cap, rfl, -⟩ := id h
  clear h hn
  go_enter Tryz.func46, Tryz.ntmps46
  go_wp2_with fail
  go_loop [5] (fun i => ∃ j : Nat, i = .int .i64 j ∧ j ≤ l.length ∧ Hid (s ∉ l.take j)) (fun i => l.length - (intOf i).toNat)
  case atStart => exact ⟨0, rfl, by omega, by simp [Hid]⟩
  case round =>
    obtain ⟨j, rfl, hj, HNo⟩ := hrel
    by_cases hlt : j < l.length
    · obtain ⟨x, hx⟩ : ∃ x, l[j]? = some x := ⟨_, List.getElem?_eq_getElem hlt⟩
      obtain ⟨b, off, cp, e1, hb, hc, x0⟩ := RdS.at HR.out hx
      simp only [Value.slice.injEq] at e1
      obtain ⟨rfl, -, rfl⟩ := e1
      have HX := Lib.hid hx
      clear hx
      by_cases hs : x = s
      · subst hs
        have he : (x.toList == x.toList) = true := by simp
        go_wp2
        go_ret
        exact ⟨⟨_, rfl, .inl ⟨List.mem_of_getElem? HX.out, by rw [posL_eq HN.out HX.out]⟩⟩, rfl⟩
      · have he : (x.toList == s.toList) = false := by rw [beq_toList]; simpa using hs
        have HS := Lib.hid hs
        clear hs
        go_wp2
        go_round
        case rel => exact ⟨j + 1, by go_num, by omega, by unfold Hid; rw [mem_take HX.out]; exact fun h => h.elim HNo.out (fun e => HS.out e.symm)⟩
        case measure => simp [intOf]; omega
    · obtain rfl : j = l.length := by omega
      go_wp2
      go_ret
      refine ⟨⟨_, rfl, .inr ⟨?_, rfl⟩⟩, rfl⟩
      have := HNo.out
      rwa [List.take_of_length_le (Nat.le_refl _)] at this
set_option maxRecDepth 100000 in
set_option maxHeartbeats 1600000 in
theorem rNumber_any (v : Value) (l : List ByteArray) (s : ByteArray) (w : World) (h : RdS w v l) (hn : l.Nodup) (hl : l.length ≤ 140737488355328) :
    Calls Tryz.prog 23 #[v, .string s] w fun e w' => e = .returned (.tuple #[.int .i64 (numOf l s).1, .int .i64 (numOf l s).2]) ∧ w = w' := by
  have HP := Lib.hid (rPlaceS_any v l s w h hn hl)
  obtain ⟨_, ao, cap, rfl, -⟩ := h
  by_cases hm : s ∈ l
  · rw [numOf_in hm]
    go_enter Tryz.func23, Tryz.ntmps23
    go_wp2_with fail
    refine (HP.out).mono ?_
    rintro e w1 ⟨⟨r, rfl, hr⟩, rfl⟩
    obtain rfl : r = posL l s := by rcases hr with ⟨_, h⟩ | ⟨h, _⟩; exact h; exact absurd hm h
    clear hr hm
    go_wp2_with fail
    go_ret2
    exact ⟨rfl, rfl⟩
  · rw [numOf_out hm]
    go_enter Tryz.func23, Tryz.ntmps23
    go_wp2_with fail
    refine (HP.out).mono ?_
    rintro e w1 ⟨⟨r, rfl, hr⟩, rfl⟩
    obtain rfl : r = -1 := by rcases hr with ⟨h, _⟩ | ⟨_, h⟩; exact absurd h hm; exact h
    clear hr hm
    go_wp2_with fail
    go_ret2
    exact ⟨rfl, rfl⟩
/-! ### the reference: Name -/
set_option maxRecDepth 100000 in
set_option maxHeartbeats 3200000 in
theorem rNameG_any (v : Value) (G : List Ru) (lb : Bool) (k : Int) (t : ByteArray) (er : Int) (w : World) (h : RdRu w v G) (hl : LimG G) (hS : NameS (if lb then used 3 G else heads G) k t er) :
    Calls Tryz.prog 25 #[v, .agg #[.bool lb, .int .i64 k]] w fun e w' => e = .returned (.tuple #[.string t, .int .i64 er]) ∧ Below w.heap.size w w' := by
  have HV := Lib.hid h
  have H1 := Lib.hid (fun w h => rHeads_any v G w h hl)
  have H2 := Lib.hid (fun w h => rLabels_any v G w h hl)
  have HB : Hid (Below w.heap.size w (w.alloc (.cells #[.bool lb, .int .i64 k] 46))) := below1 w _
  have s0 : (w.alloc (.cells #[.bool lb, .int .i64 k] 46)).cell? ⟨w.heap.size, 0, none⟩ = some (.bool lb) := by simp
  have s1 : (w.alloc (.cells #[.bool lb, .int .i64 k] 46)).cell? ⟨w.heap.size, 1, none⟩ = some (.int .i64 k) := by simp
  have hsz : w.heap.size + 1 ≤ (w.alloc (.cells #[.bool lb, .int .i64 k] 46)).heap.size := by simp
  obtain ⟨P, hG, hR⟩ := h
  obtain ⟨⟨_, ao, cap, rfl, -⟩, -⟩ := hR
  clear hl hG
  cases lb with
  | false =>
    have hS2 : NameS (heads G) k t er := by simpa using hS
    clear hS
    go_enter Tryz.func25, Tryz.ntmps25
    go_wp2_with fail
    generalize w.alloc (.cells #[.bool false, .int .i64 k] 46) = wa at *
    refine (H1.out _ (HV.out.below HB.out)).mono ?_
    rintro e w1 ⟨v1, rfl, ho1, hb1⟩
    have S0 := (hb1.cell (p := ⟨w.heap.size, 0, none⟩) (by show w.heap.size < wa.heap.size; omega)).trans s0
    have S1 := (hb1.cell (p := ⟨w.heap.size, 1, none⟩) (by show w.heap.size < wa.heap.size; omega)).trans s1
    have HB1 := Lib.hid (HB.out.trans (hb1.mono HB.out.size))
    have hsz1 : w.heap.size + 1 ≤ w1.heap.size := Nat.le_trans hsz hb1.size
    obtain ⟨a1, c1, rfl⟩ := own_str_shape ho1
    have HO1 := Lib.hid (RdS.of_own ho1)
    clear hb1 ho1 s0 s1 hsz
    rcases hS2 with ⟨i, rfl, hi, rfl⟩ | ⟨hk, rfl, rfl⟩
    · have hln : i < (heads G).length := (List.getElem?_eq_some_iff.1 hi).1
      obtain ⟨bb, off, cp, e1, hbb, hc, x0⟩ := RdS.at HO1.out hi
      simp only [Value.slice.injEq] at e1
      obtain ⟨rfl, -, rfl⟩ := e1
      clear hi
      go_wp2_with fail
      go_ret2
      exact ⟨rfl, HB1.out⟩
    · by_cases h0 : k < 0
      · clear hk
        go_wp2_with fail
        go_ret2
        exact ⟨rfl, HB1.out⟩
      · have h1 : ((heads G).length : Int) ≤ k := by omega
        clear hk
        go_wp2_with fail
        go_ret2
        exact ⟨rfl, HB1.out⟩
  
  | true =>
    have hS2 : NameS (used 3 G) k t er := by simpa using hS
    clear hS
    go_enter Tryz.func25, Tryz.ntmps25
    go_wp2_with fail
    generalize w.alloc (.cells #[.bool true, .int .i64 k] 46) = wa at *
    refine (H1.out _ (HV.out.below HB.out)).mono ?_
    rintro e w1 ⟨v1, rfl, ho1, hb1⟩
    have S0 := (hb1.cell (p := ⟨w.heap.size, 0, none⟩) (by show w.heap.size < wa.heap.size; omega)).trans s0
    have S1 := (hb1.cell (p := ⟨w.heap.size, 1, none⟩) (by show w.heap.size < wa.heap.size; omega)).trans s1
    have HB1 := Lib.hid (HB.out.trans (hb1.mono HB.out.size))
    have hsz1 : w.heap.size + 1 ≤ w1.heap.size := Nat.le_trans hsz hb1.size
    obtain ⟨a1, c1, rfl⟩ := own_str_shape ho1
    have HO1 := Lib.hid (RdS.of_own ho1)
    clear hb1 ho1 s0 s1 hsz
    go_wp2_with fail
    refine (H2.out _ (HV.out.below HB1.out)).mono ?_
    rintro e w2 ⟨v2, rfl, ho2, hb2⟩
    have T1 := (hb2.cell (p := ⟨w.heap.size, 1, none⟩) (by show w.heap.size < w1.heap.size; omega)).trans S1
    have HB2 := Lib.hid (HB1.out.trans (hb2.mono HB1.out.size))
    obtain ⟨a2, c2, rfl⟩ := own_str_shape ho2
    have HO2 := Lib.hid (RdS.of_own ho2)
    clear hb2 ho2 S0 S1
    rcases hS2 with ⟨i, rfl, hi, rfl⟩ | ⟨hk, rfl, rfl⟩
    · have hln : i < (used 3 G).length := (List.getElem?_eq_some_iff.1 hi).1
      obtain ⟨bb, off, cp, e1, hbb, hc, x0⟩ := RdS.at HO2.out hi
      simp only [Value.slice.injEq] at e1
      obtain ⟨rfl, -, rfl⟩ := e1
      clear hi
      go_wp2_with fail
      go_ret2
      exact ⟨rfl, HB2.out⟩
    · by_cases h0 : k < 0
      · clear hk
        go_wp2_with fail
        go_ret2
        exact ⟨rfl, HB2.out⟩
      · have h1 : ((used 3 G).length : Int) ≤ k := by omega
        clear hk
        go_wp2_with fail
        go_ret2
        exact ⟨rfl, HB2.out⟩
end Go.Proofs.YtfmcbpnhpckmjaaGreat
namespace Go.Proofs.YtfmcbpnhpckmjaaGreat
open Go.RowKit Go.Maps

/-! ### plain: words -/
def WordS (L ls : List ByteArray) (r : List Nat) (e : Int) : Prop := (e = 0 ∧ (∀ s ∈ ls, s ∈ L) ∧ r = ls.map (posL L)) ∨ (e = 4 ∧ r = [] ∧ ∃ s ∈ ls, s ∉ L)
theorem wordS_ex (L ls : List ByteArray) : ∃ r e, WordS L ls r e := by
  by_cases h : ∀ s ∈ ls, s ∈ L
  · exact ⟨_, 0, .inl ⟨rfl, h, rfl⟩⟩
  · refine ⟨[], 4, .inr ⟨rfl, rfl, ?_⟩⟩
    by_cases h2 : ∃ s ∈ ls, s ∉ L
    · exact h2
    · exact absurd (fun s hs => by by_cases h3 : s ∈ L; exact h3; exact absurd ⟨s, hs, h3⟩ h2) h
theorem WordS.bad {L ls : List ByteArray} {r : List Nat} {e : Int} (h : WordS L ls r e) {s : ByteArray} (hs : s ∈ ls) (hn : s ∉ L) : e = 4 ∧ r = [] := by
  rcases h with ⟨_, h, _⟩ | ⟨h1, h2, _⟩
  · exact absurd (h s hs) hn
  · exact ⟨h1, h2⟩
theorem WordS.good {L ls : List ByteArray} {r : List Nat} {e : Int} (h : WordS L ls r e) (hs : ∀ s ∈ ls, s ∈ L) : e = 0 ∧ r = ls.map (posL L) := by
  rcases h with ⟨h1, _, h2⟩ | ⟨_, _, s, h1, h2⟩
  · exact ⟨h1, h2⟩
  · exact absurd (hs s h1) h2
theorem map_take {α β} (f : α → β) {l : List α} {j : Nat} {x : α} (h : l[j]? = some x) : (l.take (j + 1)).map f = (l.take j).map f ++ [f x] := by
  obtain ⟨h1, h2⟩ := List.getElem?_eq_some_iff.1 h
  rw [List.take_succ_eq_append_getElem h1, h2]; simp
theorem take_all {α} {p : α → Prop} {l : List α} {j : Nat} {x : α} (h : l[j]? = some x) (h1 : ∀ s ∈ l.take j, p s) (h2 : p x) : ∀ s ∈ l.take (j + 1), p s := by
  intro s hs
  rcases (mem_take h).1 hs with hs | rfl
  · exact h1 s hs
  · exact h2
theorem map_take_len {α β} (f : α → β) (l : List α) (j : Nat) : ((l.take j).map f).length ≤ j := by rw [List.length_map]; exact List.length_take_le _ _
theorem own_int_shape {w : World} {B : Nat} {v : Value} {l : List Nat} (h : OwnI w B v l) : ∃ ao c, v = .slice ao l.length c := by
  obtain ⟨_, ao, cap, e, -⟩ := Rd.of_owns h
  exact ⟨ao, cap, e⟩
set_option maxRecDepth 100000 in
set_option maxHeartbeats 3200000 in
theorem xWord_tab {w : World} {B tb : Nat} {G : List Ru} (h : TabAt w B tb G) (vl : Value) (ls : List ByteArray) (r : List Nat) (er : Int) (hr : RdS w vl ls) (hz : ∀ s ∈ ls, s.size ≤ maxLen) (hlen : ls.length ≤ 1048576) (hS : WordS (used 3 G) ls r er) :
    Calls Tryz.prog 26 #[.pointer (some ⟨tb, 0, none⟩), vl] w fun e w' => ∃ v', e = .returned (.tuple #[v', .int .i64 er]) ∧ OwnI w' w.heap.size v' r ∧ Below w.heap.size w w' := by
  have HTh := Lib.hid ((xThere_tab h).mono (fun e w' hh => (⟨hh.1, hh.2.symm⟩ : e = .returned (.bool true) ∧ w = w')))
  have HTab := Lib.hid h
  have HR := Lib.hid hr
  have HZ := Lib.hid hz
  have HS := Lib.hid hS
  obtain ⟨_, ao, cap, rfl, -⟩ := hr
  clear h hz hS
  go_enter Tryz.func26, Tryz.ntmps26
  go_wp2_with (go_at_call 31; refine (HTh.out).mono ?_; rintro e w1 ⟨rfl, rfl⟩)
  go_loopw [6, 16] (fun o i wr => ∃ j : Nat, i = .int .i64 j ∧ j ≤ ls.length ∧ Hid (∀ s ∈ ls.take j, s ∈ used 3 G) ∧ Hid (OwnI wr w.heap.size o ((ls.take j).map (posL (used 3 G)))) ∧ Hid (Below w.heap.size w wr)) (fun _ i _ => ls.length - (intOf i).toNat)
  case atStart => exact ⟨0, rfl, by omega, fun s hs => by simp at hs, World.ownsRow_nil _ _ _ _, Below.refl _ _⟩
  case round =>
    obtain ⟨j, rfl, hj, HAll, HO, HBel⟩ := hrel
    rename_i u6
    have hws := HBel.out.size
    by_cases hlt : j < ls.length
    · obtain ⟨x, hx⟩ : ∃ x, ls[j]? = some x := ⟨_, List.getElem?_eq_getElem hlt⟩
      obtain ⟨b, off, cp, e1, hb, hc, x0⟩ := RdS.at HR.out hx
      simp only [Value.slice.injEq] at e1
      obtain ⟨rfl, -, rfl⟩ := e1
      have X0 := (HBel.out.cell (p := ⟨b, _, none⟩) hb).trans x0
      have hmem := List.mem_of_getElem? hx
      have HM := Lib.hid (map_take (posL (used 3 G)) hx)
      have HTk := Lib.hid (take_all (p := (· ∈ used 3 G)) hx HAll.out)
      have hzx := HZ.out x hmem
      have hal := map_take_len (posL (used 3 G)) ls j
      clear x0 hx
      by_cases hm : x ∈ used 3 G
      · have HL := Lib.hid (xLabel_tab (HTab.out.below HBel.out) x _ _ hzx (numS_pos hm))
        have HTk2 := Lib.hid (HTk.out hm)
        have HO0 := HO.out
        clear HTk hm hmem hzx HO
        generalize (ls.take j).map (posL (used 3 G)) = acc at *
        generalize posL (used 3 G) x = q at *
        go_wp2_with fail
        refine (HL.out).mono ?_
        rintro e w2 ⟨rfl, hb2⟩
        have HO2 : w2.ownsRow w.heap.size 3 1 u6 acc.length (intsV acc) := own_grown HO0 (grown_below hb2) (fun j hj => by cases hj)
        have HB2 : Hid (Below w.heap.size w w2) := HBel.out.trans (hb2.mono hws)
        have hw2 := HB2.out.size
        clear hb2 HO0
        go_wp2_with (at_builtin; go_must (refine wpList_appG1 elemInt rfl _ _ rfl HO2 rfl (news := [.int .i64 q]) rfl rfl (by intro u hu; simp at hu; subst hu; rfl) (by unfold maxLen; omega) (by omega) hw2 ?_); intro v' w3 hown3 hg3)
        have HB3 : Hid (Below w.heap.size w w3) := HB2.out.grown hg3 hw2 (fun j hj => own_block HO2 j hj)
        have HO3 : Hid (OwnI w3 w.heap.size v' (acc ++ [q])) := OwnI.snoc hown3
        clear hown3 hg3
        go_roundw
        case rel => exact ⟨j + 1, by go_num, by omega, HTk2.out, by rw [HM.out]; exact HO3.out, HB3.out⟩
        case measure => simp [intOf]; omega
      · have HL := Lib.hid (xLabel_tab (HTab.out.below HBel.out) x _ _ hzx (numS_not hm))
        obtain ⟨rfl, rfl⟩ := HS.out.bad hmem hm
        clear HTk hm hmem hzx
        go_wp2_with fail
        refine (HL.out).mono ?_
        rintro e w2 ⟨rfl, hb2⟩
        have HB2 : Hid (Below w.heap.size w w2) := HBel.out.trans (hb2.mono hws)
        clear hb2
        go_wp2_with fail
        go_ret2
        exact ⟨_, rfl, World.ownsRow_nil _ _ _ _, HB2.out⟩
    · obtain rfl : j = ls.length := by omega
      have hall := HAll.out
      rw [List.take_of_length_le (Nat.le_refl _)] at hall
      obtain ⟨rfl, rfl⟩ := HS.out.good hall
      have HO2 := HO.out
      rw [List.take_of_length_le (Nat.le_refl _)] at HO2
      clear hall
      go_wp2_with fail
      go_ret2
      exact ⟨_, rfl, HO2, HBel.out⟩
set_option maxRecDepth 100000 in
set_option maxHeartbeats 3200000 in
theorem rWord_any (v vl : Value) (G : List Ru) (ls : List ByteArray) (r : List Nat) (er : Int) (w : World) (h : RdRu w v G) (hl : LimG G) (hr : RdS w vl ls) (hlen : ls.length ≤ 1048576) (hS : WordS (used 3 G) ls r er) :
    Calls Tryz.prog 28 #[v, vl] w fun e w' => ∃ v', e = .returned (.tuple #[v', .int .i64 er]) ∧ OwnI w' w.heap.size v' r ∧ Below w.heap.size w w' := by
  have HLb := Lib.hid (rLabels_any v G w h hl)
  have HR := Lib.hid hr
  have HS := Lib.hid hS
  have hul := used_le 3 G hl.nodes
  obtain ⟨P, hG, hR⟩ := h
  obtain ⟨⟨_, ao, cap, rfl, -⟩, -⟩ := hR
  obtain ⟨_, ao, cap, rfl, -⟩ := hr
  clear hS hl hG
  have HPl := Lib.hid rPlaceS_any
  go_enter Tryz.func28, Tryz.ntmps28
  go_wp2_with fail
  refine (HLb.out).mono ?_
  rintro e w1 ⟨v1, rfl, ho1, hb1⟩
  have HA1 := Lib.hid (RdS.of_own ho1)
  have HB1 := Lib.hid hb1
  obtain ⟨a1, c1, rfl⟩ := own_str_shape ho1
  clear hb1 ho1 HLb
  go_wp2_with fail
  go_loopw [7, 8] (fun o i wr => ∃ j : Nat, i = .int .i64 j ∧ j ≤ ls.length ∧ Hid (∀ s ∈ ls.take j, s ∈ used 3 G) ∧ Hid (OwnI wr w1.heap.size o ((ls.take j).map (posL (used 3 G)))) ∧ Hid (Below w1.heap.size w1 wr)) (fun _ i _ => ls.length - (intOf i).toNat)
  case atStart => exact ⟨0, rfl, by omega, fun s hs => by simp at hs, World.ownsRow_nil _ _ _ _, Below.refl _ _⟩
  case round =>
    obtain ⟨j, rfl, hj, HAll, HO, HBel⟩ := hrel
    rename_i u6
    have hws := HBel.out.size
    by_cases hlt : j < ls.length
    · obtain ⟨x, hx⟩ : ∃ x, ls[j]? = some x := ⟨_, List.getElem?_eq_getElem hlt⟩
      obtain ⟨b, off, cp, e1, hb, hc, x0⟩ := RdS.at HR.out hx
      simp only [Value.slice.injEq] at e1
      obtain ⟨rfl, -, rfl⟩ := e1
      have HB1r := HB1.out.trans (HBel.out.mono HB1.out.size)
      have X0 := (HB1r.cell (p := ⟨b, _, none⟩) hb).trans x0
      have hmem := List.mem_of_getElem? hx
      have HM := Lib.hid (map_take (posL (used 3 G)) hx)
      have HTk := Lib.hid (take_all (p := (· ∈ used 3 G)) hx HAll.out)
      have hal := map_take_len (posL (used 3 G)) ls j
      have HP2 := Lib.hid (HPl.out _ _ x wr (HA1.out.below HBel.out) (used_nodup 3 G) (by omega))
      clear x0 hx HB1r
      by_cases hm : x ∈ used 3 G
      · have HTk2 := Lib.hid (HTk.out hm)
        have HO0 := HO.out
        go_wp2_with fail
        refine (HP2.out).mono ?_
        rintro e w2 ⟨⟨rr, rfl, hrr⟩, rfl⟩
        obtain rfl : rr = posL (used 3 G) x := by rcases hrr with ⟨_, h⟩ | ⟨h, _⟩; exact h; exact absurd hm h
        clear HTk hm hmem HO hrr
        go_wp2_with (at_builtin; go_must (refine wpList_appG1 elemInt rfl _ _ rfl HO0 rfl (news := [.int .i64 (posL (used 3 G) x)]) rfl rfl (by intro u hu; simp at hu; subst hu; rfl) (by unfold maxLen; omega) (by omega) hws ?_); intro v' w3 hown3 hg3)
        have HB3 : Hid (Below w1.heap.size w1 w3) := HBel.out.grown hg3 hws (fun j hj => own_block HO0 j hj)
        have HO3 : Hid (OwnI w3 w1.heap.size v' ((ls.take j).map (posL (used 3 G)) ++ [posL (used 3 G) x])) := OwnI.snoc hown3
        clear hown3 hg3
        go_roundw
        case rel => exact ⟨j + 1, by go_num, by omega, HTk2.out, by rw [HM.out]; exact HO3.out, HB3.out⟩
        case measure => simp [intOf]; omega
      · obtain ⟨rfl, rfl⟩ := HS.out.bad hmem hm
        go_wp2_with fail
        refine (HP2.out).mono ?_
        rintro e w2 ⟨⟨rr, rfl, hrr⟩, rfl⟩
        obtain rfl : rr = -1 := by rcases hrr with ⟨h, _⟩ | ⟨_, h⟩; exact absurd h hm; exact h
        clear HTk hm hmem hrr
        go_wp2_with fail
        go_ret2
        exact ⟨_, rfl, World.ownsRow_nil _ _ _ _, HB1.out.trans (HBel.out.mono HB1.out.size)⟩
    · obtain rfl : j = ls.length := by omega
      have hall := HAll.out
      rw [List.take_of_length_le (Nat.le_refl _)] at hall
      obtain ⟨rfl, rfl⟩ := HS.out.good hall
      have HO2 := HO.out
      rw [List.take_of_length_le (Nat.le_refl _)] at HO2
      clear hall
      go_wp2_with fail
      go_ret2
      exact ⟨_, rfl, own_lower HO2 HB1.out.size, HB1.out.trans (HBel.out.mono HB1.out.size)⟩
end Go.Proofs.YtfmcbpnhpckmjaaGreat
namespace Go.Proofs.YtfmcbpnhpckmjaaGreat
open Go.RowKit Go.Maps

/-! ### plain: spelling -/
def intsZ (l : List Int) : List Value := l.map (Value.int .i64)
def RdZ (w : World) (v : Value) (l : List Int) : Prop := Rd w v l.length 1 (intsZ l)
theorem RdZ.below {w w' : World} {v : Value} {l : List Int} (h : RdZ w v l) (hb : Below w.heap.size w w') : RdZ w' v l := Rd.below h hb
theorem RdZ.at {w : World} {v : Value} {l : List Int} (h : RdZ w v l) {i : Nat} {x : Int} (hx : l[i]? = some x) :
    ∃ b off cap, v = .slice (some ⟨b, off, none⟩) l.length cap ∧ b < w.heap.size ∧ l.length ≤ cap ∧ w.cell? ⟨b, off + i, none⟩ = some (.int .i64 x) := by
  have hi : i < l.length := (List.getElem?_eq_some_iff.1 hx).1
  obtain ⟨b, off, cap, h1, h2, h3, h4⟩ := Rd.at h hi
  refine ⟨b, off, cap, h1, h2, h3, h4 i _ ?_⟩
  unfold intsZ; rw [List.getElem?_map, hx]; rfl
theorem intsV_Z (l : List Nat) : intsV l = intsZ (l.map fun n : Nat => (n : Int)) := by simp [intsV, intsZ]
theorem RdZ.of_nat {w : World} {B : Nat} {v : Value} {l : List Nat} (h : OwnI w B v l) : RdZ w v (l.map fun n : Nat => (n : Int)) := by
  have h2 := Rd.of_owns h
  unfold RdZ; rw [← intsV_Z, List.length_map]; exact h2
def nameL (L : List ByteArray) (k : Int) : ByteArray := L.getD k.toNat ⟨#[]⟩
def Okk (L : List ByteArray) (k : Int) : Prop := 0 ≤ k ∧ k < L.length
theorem nameL_at {L : List ByteArray} {k : Int} (h : Okk L k) : L[k.toNat]? = some (nameL L k) := by
  have hl : k.toNat < L.length := by have := h.1; have := h.2; omega
  unfold nameL; rw [List.getD_eq_getElem?_getD, List.getElem?_eq_getElem hl]; rfl
theorem nameS_ok {L : List ByteArray} {k : Int} (h : Okk L k) : NameS L k (nameL L k) 0 := .inl ⟨k.toNat, by have := h.1; omega, nameL_at h, rfl⟩
theorem nameS_not {L : List ByteArray} {k : Int} (h : ¬ Okk L k) : NameS L k ⟨#[]⟩ 4 := .inr ⟨by unfold Okk at h; omega, rfl, rfl⟩
def SpellS (L : List ByteArray) (ks : List Int) (r : List ByteArray) (e : Int) : Prop := (e = 0 ∧ (∀ k ∈ ks, Okk L k) ∧ r = ks.map (nameL L)) ∨ (e = 4 ∧ r = [] ∧ ∃ k ∈ ks, ¬ Okk L k)
theorem spellS_ex (L : List ByteArray) (ks : List Int) : ∃ r e, SpellS L ks r e := by
  by_cases h : ∀ k ∈ ks, Okk L k
  · exact ⟨_, 0, .inl ⟨rfl, h, rfl⟩⟩
  · refine ⟨[], 4, .inr ⟨rfl, rfl, ?_⟩⟩
    by_cases h2 : ∃ k ∈ ks, ¬ Okk L k
    · exact h2
    · exact absurd (fun k hk => by by_cases h3 : Okk L k; exact h3; exact absurd ⟨k, hk, h3⟩ h2) h
theorem SpellS.bad {L : List ByteArray} {ks : List Int} {r : List ByteArray} {e : Int} (h : SpellS L ks r e) {k : Int} (hs : k ∈ ks) (hn : ¬ Okk L k) : e = 4 ∧ r = [] := by
  rcases h with ⟨_, h, _⟩ | ⟨h1, h2, _⟩
  · exact absurd (h k hs) hn
  · exact ⟨h1, h2⟩
theorem SpellS.good {L : List ByteArray} {ks : List Int} {r : List ByteArray} {e : Int} (h : SpellS L ks r e) (hs : ∀ k ∈ ks, Okk L k) : e = 0 ∧ r = ks.map (nameL L) := by
  rcases h with ⟨h1, _, h2⟩ | ⟨_, _, s, h1, h2⟩
  · exact ⟨h1, h2⟩
  · exact absurd (hs s h1) h2
set_option maxRecDepth 100000 in
set_option maxHeartbeats 3200000 in
theorem xSpell_tab {w : World} {B tb : Nat} {G : List Ru} (h : TabAt w B tb G) (vl : Value) (ks : List Int) (r : List ByteArray) (er : Int) (hr : RdZ w vl ks) (hlen : ks.length ≤ 1048576) (hS : SpellS (used 3 G) ks r er) :
    Calls Tryz.prog 27 #[.pointer (some ⟨tb, 0, none⟩), vl] w fun e w' => ∃ v', e = .returned (.tuple #[v', .int .i64 er]) ∧ OwnStr w' w.heap.size v' r ∧ Below w.heap.size w w' := by
  have HTh := Lib.hid ((xThere_tab h).mono (fun e w' hh => (⟨hh.1, hh.2.symm⟩ : e = .returned (.bool true) ∧ w = w')))
  have HTab := Lib.hid h
  have HR := Lib.hid hr
  have HS := Lib.hid hS
  obtain ⟨_, ao, cap, rfl, -⟩ := hr
  clear h hS
  go_enter Tryz.func27, Tryz.ntmps27
  go_wp2_with (go_at_call 31; refine (HTh.out).mono ?_; rintro e w1 ⟨rfl, rfl⟩)
  go_loopw [6, 16] (fun o i wr => ∃ j : Nat, i = .int .i64 j ∧ j ≤ ks.length ∧ Hid (∀ k ∈ ks.take j, Okk (used 3 G) k) ∧ Hid (OwnStr wr w.heap.size o ((ks.take j).map (nameL (used 3 G)))) ∧ Hid (Below w.heap.size w wr)) (fun _ i _ => ks.length - (intOf i).toNat)
  case atStart => exact ⟨0, rfl, by omega, fun s hs => by simp at hs, World.ownsRow_nil _ _ _ _, Below.refl _ _⟩
  case round =>
    obtain ⟨j, rfl, hj, HAll, HO, HBel⟩ := hrel
    have hws := HBel.out.size
    by_cases hlt : j < ks.length
    · obtain ⟨x, hx⟩ : ∃ x, ks[j]? = some x := ⟨_, List.getElem?_eq_getElem hlt⟩
      obtain ⟨b, off, cp, e1, hb, hc, x0⟩ := RdZ.at HR.out hx
      simp only [Value.slice.injEq] at e1
      obtain ⟨rfl, -, rfl⟩ := e1
      have X0 := (HBel.out.cell (p := ⟨b, _, none⟩) hb).trans x0
      have hmem := List.mem_of_getElem? hx
      have HM := Lib.hid (map_take (nameL (used 3 G)) hx)
      have HTk := Lib.hid (take_all (p := Okk (used 3 G)) hx HAll.out)
      have hal := map_take_len (nameL (used 3 G)) ks j
      clear x0 hx
      by_cases hm : Okk (used 3 G) x
      · have HL := Lib.hid (xName_tab (HTab.out.below HBel.out) true x _ _ (nameS_ok hm))
        have HTk2 := Lib.hid (HTk.out hm)
        have HO0 := HO.out
        clear HTk hm hmem HO
        generalize (ks.take j).map (nameL (used 3 G)) = acc at *
        go_wp2_with fail
        refine (HL.out).mono ?_
        rintro e w2 ⟨rfl, hb2⟩
        have HO2 : w2.ownsRow w.heap.size 9 1 u6 acc.length (strs acc) := own_grown HO0 (grown_below hb2) (fun j hj => by cases hj)
        have HB2 : Hid (Below w.heap.size w w2) := HBel.out.trans (hb2.mono hws)
        have hw2 := HB2.out.size
        clear hb2 HO0
        go_wp2_with (at_builtin; go_must (refine wpList_appG1 elemStr rfl _ _ rfl HO2 rfl (news := [.string (nameL (used 3 G) x)]) rfl rfl (by intro u hu; simp at hu; subst hu; rfl) (by unfold maxLen; omega) (by omega) hw2 ?_); intro v' w3 hown3 hg3)
        have HB3 : Hid (Below w.heap.size w w3) := HB2.out.grown hg3 hw2 (fun j hj => own_block HO2 j hj)
        have HO3 : Hid (OwnStr w3 w.heap.size v' (acc ++ [nameL (used 3 G) x])) := OwnStr.snoc hown3
        clear hown3 hg3
        go_roundw
        case rel => exact ⟨j + 1, by go_num, by omega, HTk2.out, by rw [HM.out]; exact HO3.out, HB3.out⟩
        case measure => simp [intOf]; omega
      · have HL := Lib.hid (xName_tab (HTab.out.below HBel.out) true x _ _ (nameS_not hm))
        obtain ⟨rfl, rfl⟩ := HS.out.bad hmem hm
        clear HTk hm hmem
        go_wp2_with fail
        refine (HL.out).mono ?_
        rintro e w2 ⟨rfl, hb2⟩
        have HB2 : Hid (Below w.heap.size w w2) := HBel.out.trans (hb2.mono hws)
        clear hb2
        go_wp2_with fail
        go_ret2
        exact ⟨_, rfl, World.ownsRow_nil _ _ _ _, HB2.out⟩
    · obtain rfl : j = ks.length := by omega
      have hall := HAll.out
      rw [List.take_of_length_le (Nat.le_refl _)] at hall
      obtain ⟨rfl, rfl⟩ := HS.out.good hall
      have HO2 := HO.out
      rw [List.take_of_length_le (Nat.le_refl _)] at HO2
      clear hall
      go_wp2_with fail
      go_ret2
      exact ⟨_, rfl, HO2, HBel.out⟩
set_option maxRecDepth 100000 in
set_option maxHeartbeats 3200000 in
theorem rSpell_any (v vl : Value) (G : List Ru) (ks : List Int) (r : List ByteArray) (er : Int) (w : World) (h : RdRu w v G) (hl : LimG G) (hr : RdZ w vl ks) (hlen : ks.length ≤ 1048576) (hS : SpellS (used 3 G) ks r er) :
    Calls Tryz.prog 29 #[v, vl] w fun e w' => ∃ v', e = .returned (.tuple #[v', .int .i64 er]) ∧ OwnStr w' w.heap.size v' r ∧ Below w.heap.size w w' := by
  have HLb := Lib.hid (rLabels_any v G w h hl)
  have HR := Lib.hid hr
  have HS := Lib.hid hS
  have hul := used_le 3 G hl.nodes
  obtain ⟨P, hG, hR⟩ := h
  obtain ⟨⟨_, ao, cap, rfl, -⟩, -⟩ := hR
  obtain ⟨_, ao, cap, rfl, -⟩ := hr
  clear hS hl hG
  go_enter Tryz.func29, Tryz.ntmps29
  go_wp2_with fail
  refine (HLb.out).mono ?_
  rintro e w1 ⟨v1, rfl, ho1, hb1⟩
  have HA1 := Lib.hid (RdS.of_own ho1)
  have HB1 := Lib.hid hb1
  obtain ⟨a1, c1, rfl⟩ := own_str_shape ho1
  clear hb1 ho1 HLb
  go_wp2_with fail
  go_loopw [7, 8] (fun o i wr => ∃ j : Nat, i = .int .i64 j ∧ j ≤ ks.length ∧ Hid (∀ k ∈ ks.take j, Okk (used 3 G) k) ∧ Hid (OwnStr wr w1.heap.size o ((ks.take j).map (nameL (used 3 G)))) ∧ Hid (Below w1.heap.size w1 wr)) (fun _ i _ => ks.length - (intOf i).toNat)
  case atStart => exact ⟨0, rfl, by omega, fun s hs => by simp at hs, World.ownsRow_nil _ _ _ _, Below.refl _ _⟩
  case round =>
    obtain ⟨j, rfl, hj, HAll, HO, HBel⟩ := hrel
    have hws := HBel.out.size
    by_cases hlt : j < ks.length
    · obtain ⟨x, hx⟩ : ∃ x, ks[j]? = some x := ⟨_, List.getElem?_eq_getElem hlt⟩
      obtain ⟨b, off, cp, e1, hb, hc, x0⟩ := RdZ.at HR.out hx
      simp only [Value.slice.injEq] at e1
      obtain ⟨rfl, -, rfl⟩ := e1
      have HB1r := HB1.out.trans (HBel.out.mono HB1.out.size)
      have X0 := (HB1r.cell (p := ⟨b, _, none⟩) hb).trans x0
      have hmem := List.mem_of_getElem? hx
      have HM := Lib.hid (map_take (nameL (used 3 G)) hx)
      have HTk := Lib.hid (take_all (p := Okk (used 3 G)) hx HAll.out)
      have hal := map_take_len (nameL (used 3 G)) ks j
      clear x0 hx HB1r
      by_cases hm : Okk (used 3 G) x
      · have HTk2 := Lib.hid (HTk.out hm)
        have HO0 := HO.out
        have hx0 := hm.1
        have hx1 := hm.2
        obtain ⟨bb, off2, cp2, e1, hbb, hc2, y0⟩ := RdS.at (HA1.out.below HBel.out) (nameL_at hm)
        simp only [Value.slice.injEq] at e1
        obtain ⟨rfl, -, rfl⟩ := e1
        clear HTk hmem HO
        generalize hq : nameL (used 3 G) x = q at *
        have hxn : ((x.toNat : Nat) : Int) = x := by omega
        go_wp2_with (at_builtin; go_must (refine wpList_appG1 elemStr rfl _ _ rfl HO0 rfl (news := [.string q]) rfl rfl (by intro u hu; simp at hu; subst hu; rfl) (by unfold maxLen; omega) (by omega) hws ?_); intro v' w3 hown3 hg3)
        have HB3 : Hid (Below w1.heap.size w1 w3) := HBel.out.grown hg3 hws (fun j hj => own_block HO0 j hj)
        have HO3 : Hid (OwnStr w3 w1.heap.size v' ((ks.take j).map (nameL (used 3 G)) ++ [q])) := OwnStr.snoc hown3
        clear hown3 hg3
        go_roundw
        case rel => exact ⟨j + 1, by go_num, by omega, HTk2.out, by rw [HM.out]; exact HO3.out, HB3.out⟩
        case measure => simp [intOf]; omega
      · obtain ⟨rfl, rfl⟩ := HS.out.bad hmem hm
        by_cases hx0 : x < 0
        · clear HTk hm hmem
          go_wp2_with fail
          go_ret2
          exact ⟨_, rfl, World.ownsRow_nil _ _ _ _, HB1.out.trans (HBel.out.mono HB1.out.size)⟩
        · have hx1 : ((used 3 G).length : Int) ≤ x := by unfold Okk at hm; omega
          clear HTk hm hmem
          go_wp2_with fail
          go_ret2
          exact ⟨_, rfl, World.ownsRow_nil _ _ _ _, HB1.out.trans (HBel.out.mono HB1.out.size)⟩
    · obtain rfl : j = ks.length := by omega
      have hall := HAll.out
      rw [List.take_of_length_le (Nat.le_refl _)] at hall
      obtain ⟨rfl, rfl⟩ := HS.out.good hall
      have HO2 := HO.out
      rw [List.take_of_length_le (Nat.le_refl _)] at HO2
      clear hall
      go_wp2_with fail
      go_ret2
      exact ⟨_, rfl, own_lower HO2 HB1.out.size, HB1.out.trans (HBel.out.mono HB1.out.size)⟩
/-! ### SameInts of one list -/
set_option maxRecDepth 100000 in
set_option maxHeartbeats 1600000 in
theorem rSameInts_refl (va vb : Value) (l : List Int) (w : World) (ha : RdZ w va l) (hb : RdZ w vb l) (hla : l.length ≤ 140737488355328) :
    Calls Tryz.prog 30 #[va, vb] w fun e w' => e = .returned (.bool true) ∧ Below w.heap.size w w' := by
  obtain ⟨_, ao, ac, rfl, -⟩ := id ha
  obtain ⟨_, bo, bc, rfl, -⟩ := id hb
  have HA := Lib.hid ha
  have HB := Lib.hid hb
  clear ha hb
  have hlen' : ((l.length : Int) != l.length) = false := by simp
  go_enter Tryz.func30, Tryz.ntmps30
  go_wp2
  go_loopw [5] (fun i wr => ∃ j : Nat, j ≤ l.length ∧ i = .int .i64 j ∧ Below w.heap.size w wr) (fun i _ => l.length - (intOf i).toNat)
  case atStart => exact ⟨0, by omega, rfl, Below.refl _ _⟩
  case round =>
    obtain ⟨j, hj, rfl, hbel⟩ := hrel
    by_cases hlt : j < l.length
    · obtain ⟨ma, hma⟩ : ∃ m, l[j]? = some m := ⟨_, List.getElem?_eq_getElem hlt⟩
      obtain ⟨b1, o1, c1, e1, l1, k1, x0⟩ := (HA.out).at hma
      obtain ⟨b2, o2, c2, e2, l2, k2, y0⟩ := (HB.out).at hma
      simp only [Value.slice.injEq] at e1 e2
      obtain ⟨rfl, -, rfl⟩ := e1
      obtain ⟨rfl, -, rfl⟩ := e2
      have X0 := (hbel.cell (p := ⟨b1, _, none⟩) l1).trans x0
      have Y0 := (hbel.cell (p := ⟨b2, _, none⟩) l2).trans y0
      have hq : (ma != ma) = false := by simp
      clear x0 y0 hma
      go_wp2
      go_quiet (fail)
      go_wp2
      go_roundw
      case rel => exact ⟨j + 1, by omega, by go_num, below_drewN hbel _⟩
      case measure => simp [intOf]; omega
    · obtain rfl : j = l.length := by omega
      go_wp2
      go_ret
      exact ⟨rfl, hbel⟩
end Go.Proofs.YtfmcbpnhpckmjaaGreat
namespace Go.Proofs.YtfmcbpnhpckmjaaGreat
open Go.RowKit

/-! ### the law SymbolsWords -/
set_option maxRecDepth 100000 in
set_option maxHeartbeats 6400000 in
theorem symbolsWords_any (v : Value) (G : List Ru) (vl : Value) (ls : List ByteArray) (vk : Value) (ks : List Int) (w : World) (h : RdRu w v G) (hb : Bulk G 1048576) (hr : RdS w vl ls) (hrl : ls.length ≤ 1048576) (hz : ∀ s ∈ ls, s.size ≤ 1048576) (hk : RdZ w vk ks) (hkl : ks.length ≤ 1048576) :
    Calls Tryz.prog 7 #[v, vl, vk] w fun e w' => e = .returned (.bool true) ∧ Below w.heap.size w w' := by
  have hl := hb.lim (by omega)
  have hl2 := hb.len
  have hn := hb.nodes
  clear hb
  have HV := Lib.hid h
  obtain ⟨ri, ei, hW⟩ := wordS_ex (used 3 G) ls
  obtain ⟨rs, es, hS⟩ := spellS_ex (used 3 G) ks
  have HW := Lib.hid hW
  have HS := Lib.hid hS
  have hz2 : ∀ s ∈ ls, s.size ≤ maxLen := fun s hs => by have := hz s hs; unfold maxLen; omega
  have hrn : ri.length ≤ 1048576 := by rcases hW with ⟨_, _, rfl⟩ | ⟨_, rfl, _⟩; rw [List.length_map]; exact hrl; simp
  have hrs : rs.length ≤ 1048576 := by rcases hS with ⟨_, _, rfl⟩ | ⟨_, rfl, _⟩; rw [List.length_map]; exact hkl; simp
  have hrn2 : (ri.map fun n : Nat => (n : Int)).length ≤ 140737488355328 := by rw [List.length_map]; omega
  have HL_0 := Lib.hid hr
  have HK_0 := Lib.hid hk
  have HG_0 := Lib.hid h
  have HLim := Lib.hid hl
  obtain ⟨_, al, cl, rfl, -⟩ := hr
  obtain ⟨_, ak, ck, rfl, -⟩ := hk
  clear hW hS hz
  by_cases hc : checkG G = 0
  · have HT := Lib.hid (rTable_ok v G w h hl hl2 (by omega) hc)
    obtain ⟨P, hG, hR⟩ := h
    obtain ⟨⟨_, ao, cap, rfl, -⟩, -⟩ := hR
    clear hl hn hG hl2 hc
    have HB0 : Hid (Below w.heap.size w w) := Below.refl _ _
    go_enter Tryz.func7, Tryz.ntmps7
    go_wp2_with fail
    refine (HT.out).mono ?_
    rintro e w1 ⟨tb, rfl, hT1, hb1⟩
    have HB1 := Lib.hid (HB0.out.trans (hb1.mono HB0.out.size))
    have HL_1 := Lib.hid (HL_0.out.below hb1)
    have HK_1 := Lib.hid (HK_0.out.below hb1)
    have HG_1 := Lib.hid (HG_0.out.below hb1)
    have HT_1 := Lib.hid hT1
    clear hT1
    clear hb1 HL_0 HK_0 HG_0
    go_wp2_with fail
    refine (xWord_tab HT_1.out _ ls ri ei HL_1.out hz2 hrl HW.out).mono ?_
    rintro e w2 ⟨v2, rfl, ho2, hb2⟩
    have HB2 := Lib.hid (HB1.out.trans (hb2.mono HB1.out.size))
    have HL_2 := Lib.hid (HL_1.out.below hb2)
    have HK_2 := Lib.hid (HK_1.out.below hb2)
    have HG_2 := Lib.hid (HG_1.out.below hb2)
    have HT_2 := Lib.hid (HT_1.out.below hb2)
    have A_2 := Lib.hid (RdZ.of_nat ho2)
    obtain ⟨ao2, cp2, rfl⟩ := own_int_shape ho2
    clear hb2 ho2 HL_1 HK_1 HG_1 HT_1
    go_wp2_with fail
    refine (xSpell_tab HT_2.out _ ks rs es HK_2.out hkl HS.out).mono ?_
    rintro e w3 ⟨v3, rfl, ho3, hb3⟩
    have HB3 := Lib.hid (HB2.out.trans (hb3.mono HB2.out.size))
    have HL_3 := Lib.hid (HL_2.out.below hb3)
    have HK_3 := Lib.hid (HK_2.out.below hb3)
    have HG_3 := Lib.hid (HG_2.out.below hb3)
    have HT_3 := Lib.hid (HT_2.out.below hb3)
    have A_3 := Lib.hid (A_2.out.below hb3)
    have B_3 := Lib.hid (RdS.of_own ho3)
    obtain ⟨ao3, cp3, rfl⟩ := own_str_shape ho3
    clear hb3 ho3 HL_2 HK_2 HG_2 HT_2 A_2
    go_wp2_with fail
    refine (rWord_any _ _ G ls ri ei _ HG_3.out HLim.out HL_3.out hrl HW.out).mono ?_
    rintro e w4 ⟨v4, rfl, ho4, hb4⟩
    have HB4 := Lib.hid (HB3.out.trans (hb4.mono HB3.out.size))
    have HL_4 := Lib.hid (HL_3.out.below hb4)
    have HK_4 := Lib.hid (HK_3.out.below hb4)
    have HG_4 := Lib.hid (HG_3.out.below hb4)
    have HT_4 := Lib.hid (HT_3.out.below hb4)
    have A_4 := Lib.hid (A_3.out.below hb4)
    have B_4 := Lib.hid (B_3.out.below hb4)
    have C_4 := Lib.hid (RdZ.of_nat ho4)
    obtain ⟨ao4, cp4, rfl⟩ := own_int_shape ho4
    clear hb4 ho4 HL_3 HK_3 HG_3 HT_3 A_3 B_3
    go_wp2_with fail
    refine (rSpell_any _ _ G ks rs es _ HG_4.out HLim.out HK_4.out hkl HS.out).mono ?_
    rintro e w5 ⟨v5, rfl, ho5, hb5⟩
    have HB5 := Lib.hid (HB4.out.trans (hb5.mono HB4.out.size))
    have HL_5 := Lib.hid (HL_4.out.below hb5)
    have HK_5 := Lib.hid (HK_4.out.below hb5)
    have HG_5 := Lib.hid (HG_4.out.below hb5)
    have HT_5 := Lib.hid (HT_4.out.below hb5)
    have A_5 := Lib.hid (A_4.out.below hb5)
    have B_5 := Lib.hid (B_4.out.below hb5)
    have C_5 := Lib.hid (C_4.out.below hb5)
    have D_5 := Lib.hid (RdS.of_own ho5)
    obtain ⟨ao5, cp5, rfl⟩ := own_str_shape ho5
    clear hb5 ho5 HL_4 HK_4 HG_4 HT_4 A_4 B_4 C_4
    go_wp2_with fail
    refine (rSameInts_refl _ _ _ _ A_5.out C_5.out hrn2).mono ?_
    rintro e w6 ⟨rfl, hb6⟩
    have HB6 := Lib.hid (HB5.out.trans (hb6.mono HB5.out.size))
    have HL_6 := Lib.hid (HL_5.out.below hb6)
    have HK_6 := Lib.hid (HK_5.out.below hb6)
    have HG_6 := Lib.hid (HG_5.out.below hb6)
    have HT_6 := Lib.hid (HT_5.out.below hb6)
    have A_6 := Lib.hid (A_5.out.below hb6)
    have B_6 := Lib.hid (B_5.out.below hb6)
    have C_6 := Lib.hid (C_5.out.below hb6)
    have D_6 := Lib.hid (D_5.out.below hb6)
    clear hb6 HL_5 HK_5 HG_5 HT_5 A_5 B_5 C_5 D_5
    go_wp2_with fail
    refine (rSameTexts_any _ _ _ _ _ B_6.out D_6.out (by omega) (by omega)).mono ?_
    rintro e w7 ⟨rfl, hb7⟩
    have HB7 := Lib.hid (HB6.out.trans (hb7.mono HB6.out.size))
    have HL_7 := Lib.hid (HL_6.out.below hb7)
    have HK_7 := Lib.hid (HK_6.out.below hb7)
    have HG_7 := Lib.hid (HG_6.out.below hb7)
    have HT_7 := Lib.hid (HT_6.out.below hb7)
    have A_7 := Lib.hid (A_6.out.below hb7)
    have B_7 := Lib.hid (B_6.out.below hb7)
    have C_7 := Lib.hid (C_6.out.below hb7)
    have D_7 := Lib.hid (D_6.out.below hb7)
    rw [decide_eq_true (rfl : rs = rs)]
    clear hb7 HL_6 HK_6 HG_6 HT_6 A_6 B_6 C_6 D_6
    have q1 : (ei == ei) = true := by simp
    have q2 : (es == es) = true := by simp
    go_wp2_with fail
    go_ret
    exact ⟨rfl, HB7.out⟩
  · have HT := Lib.hid (rTable_err v G w h hl hl2 (by omega) hc)
    obtain ⟨P, hG, hR⟩ := h
    obtain ⟨⟨_, ao, cap, rfl, -⟩, -⟩ := hR
    clear hl hn hG hl2 hc
    go_enter Tryz.func7, Tryz.ntmps7
    go_wp2_with fail
    refine (HT.out).mono ?_
    rintro e w1 ⟨rfl, hb1⟩
    go_wp2_with fail
    go_ret
    exact ⟨rfl, hb1⟩
end Go.Proofs.YtfmcbpnhpckmjaaGreat
namespace Go.Proofs.YtfmcbpnhpckmjaaGreat
open Go.RowKit

theorem heads_size {G : List Ru} (h : LimG G) : ∀ s ∈ heads G, s.size ≤ maxLen := fun s hs => by
  obtain ⟨r, hr, rfl⟩ := (heads_mem G s).1 hs
  have := h.head r hr; unfold maxLen; exact Nat.le_trans this (by omega)
theorem used_size {G : List Ru} (h : LimG G) (k : Int) : ∀ s ∈ used k G, s.size ≤ maxLen := fun s hs => by
  have h1 := (usedL_mem _ s).1 hs
  obtain ⟨r, hr, h2⟩ := List.mem_flatMap.1 h1
  obtain ⟨x, hx, rfl⟩ := List.mem_map.1 h2
  have := h.name r hr x (List.mem_filter.1 hx).1; unfold maxLen; exact Nat.le_trans this (by omega)
theorem heads_pos {G : List Ru} (h : 0 < G.length) : 0 < (heads G).length := by
  have h1 : (G[0]'h).h ∈ heads G := (heads_mem G _).2 ⟨_, List.getElem_mem h, rfl⟩
  exact List.length_pos_of_mem h1
theorem check_len {G : List Ru} (h : checkG G = 0) : 0 < G.length := by
  by_cases h0 : G.length < 1 ∨ 64 < G.length
  · unfold checkG at h; rw [if_pos h0] at h; exact absurd h (by decide)
  · omega
theorem word_self (L : List ByteArray) : WordS L L (L.map (posL L)) 0 := .inl ⟨rfl, fun _ hs => hs, rfl⟩
theorem name_pos {L : List ByteArray} {s : ByteArray} (h : s ∈ L) : Okk L (posL L s) ∧ nameL L (posL L s) = s := by
  have hl := posL_lt h
  have ho : Okk L (posL L s) := ⟨by omega, by omega⟩
  refine ⟨ho, ?_⟩
  have h1 := nameL_at ho
  rw [Int.toNat_natCast, posL_at h] at h1
  exact (Option.some.inj h1).symm
theorem spell_self (L : List ByteArray) : SpellS L ((L.map (posL L)).map fun n : Nat => (n : Int)) L 0 := by
  refine .inl ⟨rfl, fun k hk => ?_, ?_⟩
  · rw [List.map_map] at hk
    obtain ⟨s, hs, rfl⟩ := List.mem_map.1 hk
    exact (name_pos hs).1
  · rw [List.map_map, List.map_map]
    have : L.map (nameL L ∘ (fun n : Nat => (n : Int)) ∘ posL L) = L.map id := List.map_congr_left fun s hs => (name_pos hs).2
    rw [List.map_id] at this
    exact this.symm
/-! ### the law SymbolsLead -/
set_option maxRecDepth 100000 in
set_option maxHeartbeats 6400000 in
theorem symbolsLead_any (v : Value) (G : List Ru) (w : World) (h : RdRu w v G) (hb : Bulk G 1048576) :
    Calls Tryz.prog 8 #[v] w fun e w' => e = .returned (.bool true) ∧ Below w.heap.size w w' := by
  have hl := hb.lim (by omega)
  have hl2 := hb.len
  have hn := hb.nodes
  clear hb
  have HV := Lib.hid h
  have HZ := Lib.hid (heads_size hl)
  have hz2 := used_size hl 3
  have hhl := heads_le G hl2
  have hul := used_le 3 G hn
  by_cases hc : checkG G = 0
  · have HT := Lib.hid (rTable_ok v G w h hl hl2 (by omega) hc)
    have hpos := heads_pos (check_len hc)
    obtain ⟨P, hG, hR⟩ := h
    obtain ⟨⟨_, ao, cap, rfl, -⟩, -⟩ := hR
    clear hl hn hG hl2 hc
    have HB0 : Hid (Below w.heap.size w w) := Below.refl _ _
    go_enter Tryz.func8, Tryz.ntmps8
    go_wp2_with fail
    refine (HT.out).mono ?_
    rintro e w1 ⟨tb, rfl, hT1, hb1⟩
    have HB1 := Lib.hid (HB0.out.trans (hb1.mono HB0.out.size))
    have HT_1 := Lib.hid hT1
    clear hT1
    clear hb1
    go_wp2_with fail
    refine (xNames_tab HT_1.out (by omega)).mono ?_
    rintro e w2 ⟨v2, rfl, ho2, hb2⟩
    have HB2 := Lib.hid (HB1.out.trans (hb2.mono HB1.out.size))
    have HT_2 := Lib.hid (HT_1.out.below hb2)
    have A_2 := Lib.hid (RdS.of_own ho2)
    obtain ⟨ao2, cp2, rfl⟩ := own_str_shape ho2
    clear hb2 ho2 HT_1
    go_wp2_with fail
    refine (xLabels_tab HT_2.out (by omega)).mono ?_
    rintro e w3 ⟨v3, rfl, ho3, hb3⟩
    have HB3 := Lib.hid (HB2.out.trans (hb3.mono HB2.out.size))
    have HT_3 := Lib.hid (HT_2.out.below hb3)
    have A_3 := Lib.hid (A_2.out.below hb3)
    have B_3 := Lib.hid (RdS.of_own ho3)
    obtain ⟨ao3, cp3, rfl⟩ := own_str_shape ho3
    clear hb3 ho3 HT_2 A_2
    generalize hLh : heads G = Lh at *
    have HLh := Lib.hid hLh
    clear hLh
    go_wp2_with fail
    go_loopw [7] (fun i wr => ∃ j : Nat, i = .int .i64 j ∧ j ≤ Lh.length ∧ Hid (Below w3.heap.size w3 wr)) (fun i _ => Lh.length - (intOf i).toNat)
    case atStart => exact ⟨0, rfl, by omega, Below.refl _ _⟩
    case round =>
      obtain ⟨j, rfl, hj, HBel⟩ := hrel
      have hws := HBel.out.size
      have A4 := Lib.hid (A_3.out.below HBel.out)
      have T4 := Lib.hid (HT_3.out.below HBel.out)
      by_cases hlt : j < Lh.length
      · obtain ⟨x, hx⟩ : ∃ x, Lh[j]? = some x := ⟨_, List.getElem?_eq_getElem hlt⟩
        have HX := Lib.hid hx
        obtain ⟨b, off, cp, e1, hb, hc, x0⟩ := RdS.at A4.out hx
        simp only [Value.slice.injEq] at e1
        obtain ⟨rfl, -, rfl⟩ := e1
        have hzx := HZ.out x (List.mem_of_getElem? hx)
        have HN : Hid (NumS (heads G) x j 0) := .inl ⟨j, by rw [HLh.out]; exact hx, rfl, rfl⟩
        have HM : Hid (NameS (heads G) (j : Int) x 0) := .inl ⟨j, rfl, by rw [HLh.out]; exact hx, rfl⟩
        clear hx
        go_wp2_with fail
        refine (xNt_tab T4.out x _ _ hzx HN.out).mono ?_
        rintro e w4 ⟨rfl, hb4⟩
        have T5 := Lib.hid (T4.out.below hb4)
        have X4 := (hb4.cell (p := ⟨b, _, none⟩) hb).trans x0
        have hbw4 : b < w4.heap.size := by have := hb4.size; omega
        have HB4 := Lib.hid (HBel.out.trans (hb4.mono hws))
        clear hb4 x0
        go_wp2_with fail
        refine (xName_tab T5.out false j x 0 HM.out).mono ?_
        rintro e w5 ⟨rfl, hb5⟩
        have X5 := (hb5.cell (p := ⟨b, _, none⟩) hbw4).trans X4
        have HB5 := Lib.hid (HB4.out.trans (hb5.mono HB4.out.size))
        have hxx : (x.toList != x.toList) = false := by simp
        have hjj : ((j : Int) != j) = false := by simp
        clear hb5 X4
        go_wp2_with fail
        go_roundw
        case rel => exact ⟨j + 1, by go_num, by omega, HB5.out⟩
        case measure => simp [intOf]; omega
      · obtain rfl : j = Lh.length := by omega
        have HB_w := Lib.hid (HB3.out.trans (HBel.out.mono HB3.out.size))
        have B4 := Lib.hid (B_3.out.below HBel.out)
        obtain ⟨ri, hri, hw0, hs0⟩ : ∃ ri : List Nat, ri.length = (used 3 G).length ∧ WordS (used 3 G) (used 3 G) ri 0 ∧ SpellS (used 3 G) (ri.map fun n : Nat => (n : Int)) (used 3 G) 0 := ⟨(used 3 G).map (posL (used 3 G)), List.length_map _, word_self _, spell_self _⟩
        have hlen3 : (ri.map fun n : Nat => (n : Int)).length ≤ 1048576 := by rw [List.length_map, hri]; exact hul
        have hlq : (ri.length : Int) = (used 3 G).length := by rw [hri]
        have HLq := Lib.hid hlq
        have HW0 := Lib.hid hw0
        have HS0 := Lib.hid hs0
        clear hlq hri hw0 hs0
        go_wp2_with fail
        refine (xWord_tab T4.out _ (used 3 G) ri 0 B4.out hz2 hul HW0.out).mono ?_
        rintro e w6 ⟨v6, rfl, ho6, hb6⟩
        have T6 := Lib.hid (T4.out.below hb6)
        have B6 := Lib.hid (B4.out.below hb6)
        have HB6 := Lib.hid (HB_w.out.trans (hb6.mono HB_w.out.size))
        have K6 := Lib.hid (RdZ.of_nat ho6)
        obtain ⟨a6, c6, rfl⟩ := own_int_shape ho6
        clear hb6 ho6
        go_wp2_with fail
        refine (xSpell_tab T6.out _ (ri.map fun n : Nat => (n : Int)) (used 3 G) 0 K6.out hlen3 HS0.out).mono ?_
        rintro e w7 ⟨v7, rfl, ho7, hb7⟩
        have B7 := Lib.hid (B6.out.below hb7)
        have S7 := Lib.hid (RdS.of_own ho7)
        have HB7 := Lib.hid (HB6.out.trans (hb7.mono HB6.out.size))
        obtain ⟨a7, c7, rfl⟩ := own_str_shape ho7
        have hq8 : (((ri.length : Nat) : Int) == ((used 3 G).length : Int)) = true := by rw [HLq.out]; simp
        clear hb7 ho7
        go_wp2_with fail
        refine (rSameTexts_any _ _ _ _ _ S7.out B7.out (by omega) (by omega)).mono ?_
        rintro e w8 ⟨rfl, hb8⟩
        have HB8 := Lib.hid (HB7.out.trans (hb8.mono HB7.out.size))
        clear hb8
        rw [decide_eq_true (rfl : used 3 G = used 3 G)]
        go_wp2_with fail
        go_ret
        exact ⟨rfl, HB8.out⟩
  · have HT := Lib.hid (rTable_err v G w h hl hl2 (by omega) hc)
    obtain ⟨P, hG, hR⟩ := h
    obtain ⟨⟨_, ao, cap, rfl, -⟩, -⟩ := hR
    clear hl hn hG hl2 hc
    go_enter Tryz.func8, Tryz.ntmps8
    go_wp2_with fail
    refine (HT.out).mono ?_
    rintro e w1 ⟨rfl, hb1⟩
    go_wp2_with fail
    go_ret
    exact ⟨rfl, hb1⟩
end Go.Proofs.YtfmcbpnhpckmjaaGreat
namespace Go.Proofs.YtfmcbpnhpckmjaaGreat
open Go.ChangeShapes Go.WideShapes Go.RowKit Go.Deep

theorem spot_noneN {w : World} {b o : Nat} {sp : Option Nat} {v : Value} (h : w.cell? ⟨b, o, sp⟩ = some v) : sp = none := by
  cases sp with
  | none => rfl
  | some s => unfold World.cell? at h; split at h <;> simp at h
theorem bulk_append {H : Type} (l r : List (DataW H)) : Rows.uptoBulkAll (l ++ r) = Rows.uptoBulkAll l + Rows.uptoBulkAll r := by
  induction l with
  | nil => simp [Rows.uptoBulkAll]
  | cons x l ih => simp only [List.cons_append, Rows.uptoBulkAll, ih]; omega
theorem bulk_pos {H : Type} (x : DataW H) : 1 ≤ Rows.uptoBulk x := by
  unfold Rows.uptoBulk
  split <;> omega
theorem bulk_len {H : Type} (l : List (DataW H)) : l.length ≤ Rows.uptoBulkAll l := by
  induction l with
  | nil => simp [Rows.uptoBulkAll]
  | cons x l ih => have := bulk_pos x; simp only [List.length_cons, Rows.uptoBulkAll]; omega
theorem bulk_mem {H : Type} {x : DataW H} {l : List (DataW H)} (h : x ∈ l) : Rows.uptoBulk x ≤ Rows.uptoBulkAll l := by
  induction l with
  | nil => cases h
  | cons y l ih =>
    simp only [Rows.uptoBulkAll]
    rcases List.mem_cons.1 h with rfl | h
    · omega
    · have := ih h; omega
/-- a slice whose elements are read lies as its cells lie -/
theorem rd_cells {w : World} {a : Addr} {n size cap : Nat} {xs : List Value} (hs : 0 < size) (hx : xs.length = n * size) (hc : n ≤ cap) (hm : cap ≤ maxLen) (h : ∀ j u, xs[j]? = some u → w.cell? (a.add j) = some u) : Rd w (.slice (some a) n cap) n size xs := by
  refine ⟨hx, some a, cap, rfl, hc, hm, ?_⟩
  by_cases h0 : n = 0
  · exact .inl h0
  · right
    have hpos : 0 < xs.length := by rw [hx]; exact Nat.mul_pos (by omega) hs
    have hz := h 0 _ (List.getElem?_eq_getElem hpos)
    obtain ⟨b, o, sp⟩ := a
    have hadd : ((⟨b, o, sp⟩ : Addr).add 0) = ⟨b, o, sp⟩ := rfl
    rw [hadd] at hz
    obtain rfl := spot_noneN hz
    refine ⟨b, o, rfl, ?_, ?_⟩
    · unfold World.cell? at hz
      split at hz
      · rename_i hg
        exact (Array.getElem?_eq_some_iff.1 hg).1
      all_goals simp at hz
    · intro j u hj
      have := h j u hj
      rwa [show (⟨b, o, none⟩ : Addr).add j = ⟨b, o + j, none⟩ from by unfold Addr.add; split <;> simp_all] at this
set_option maxRecDepth 100000 in
/-- one node, read -/
theorem open_nodeB {H : Type} {enc : TypeId × Value → H} {w : World} {base : Nat} {spare : Nat → Bool} {held : Bool} {fuel : Nat} {cs : List Value} {x : DataW H × List MemPlace} (h : DataW.trod enc Tryz.prog w base spare held fuel 41 cs = some x) :
    ∃ m : Nd, cs = m.cells ∧ m.n.size ≤ Rows.uptoBulk x.1 := by
  obtain ⟨y0, y1, y2, n, rfl, hl, h0, h1, h2⟩ := trod_struct3 Tryz.underlying41 h
  obtain ⟨k, e0, rfl, _⟩ := DataW.trod_int (k := .i64) (by kernel_rfl) h0
  obtain ⟨t, e1, rfl, _⟩ := DataW.trod_string (by kernel_rfl) h1
  obtain ⟨p, e2, rfl, _⟩ := DataW.trod_int (k := .i64) (by kernel_rfl) h2
  have hl3 : cs.length = 3 := by rw [hl]; kernel_rfl
  obtain ⟨c0, c1, c2, rfl⟩ : ∃ c0 c1 c2, cs = [c0, c1, c2] := by
    match cs, hl3 with
    | [c0, c1, c2], _ => exact ⟨c0, c1, c2, rfl⟩
  refine ⟨⟨k, t, p⟩, ?_, ?_⟩
  · have k0 : Tryz.prog.cellsOf 39 = 1 := by kernel_rfl
    have k1 : Tryz.prog.cellsOf 3 = 1 := by kernel_rfl
    have k2 : Tryz.prog.cellsOf 9 = 1 := by kernel_rfl
    simp [k0] at e0
    simp [k2] at e1
    simp [k1] at e2
    rw [e0, e1, e2]; rfl
  · have := ba_len t
    simp only [Rows.uptoBulk, Rows.uptoBulkAll]; omega
set_option maxRecDepth 100000 in
/-- a list of nodes, read off its cell -/
theorem open_nodesB {H : Type} {enc : TypeId × Value → H} {w : World} {base : Nat} {spare : Nat → Bool} {held : Bool} {fuel : Nat} {cs : List Value} {x : DataW H × List MemPlace} (hf : DataW.trod enc Tryz.prog w base spare held fuel 36 cs = some x) :
    ∃ v l, cs = [v] ∧ RdNd w v l ∧ l.length + 1 ≤ Rows.uptoBulk x.1 ∧ ∀ m ∈ l, m.n.size ≤ Rows.uptoBulk x.1 := by
  have hC : Tryz.prog.cellsOf 41 = 3 := by kernel_rfl
  rcases open_slice Tryz.underlying36 hf with ⟨hcs, hx⟩ | ⟨a, len', cap', m, n, D, Pl, hcs, hb, hle, hmax, hm, hx, hi⟩
  · subst hcs; subst hx
    exact ⟨_, [], rfl, Rd.nil _ _, by simp [Rows.uptoBulk], fun m hm => by cases hm⟩
  · subst hcs; subst hx
    have hml : len' ≤ m := by rw [hm]; split <;> omega
    rw [hC] at hi
    have key : ∀ k, k ≤ len' → ∃ l : List Nd, l.length = k ∧ (∀ j u, (flatNd l)[j]? = some u → w.cell? (a.add j) = some u) ∧ ∀ x ∈ l, x.n.size ≤ Rows.uptoBulkAll ((List.range k).map D) := by
      intro k
      induction k with
      | zero => exact fun _ => ⟨[], rfl, by simp [flatNd], fun x hx => by cases hx⟩
      | succ k ih =>
        intro hk
        obtain ⟨l, h1, h2, h3⟩ := ih (by omega)
        obtain ⟨cs', hc, ht⟩ := hi k (by omega)
        obtain ⟨mk, rfl, hmk⟩ := open_nodeB ht
        obtain ⟨_, _, hcell⟩ := World.cells?_some hc
        refine ⟨l ++ [mk], by simp [h1], ?_, ?_⟩
        · intro j u hj
          have e : flatNd (l ++ [mk]) = flatNd l ++ mk.cells := by simp [flatNd]
          rw [e, List.getElem?_append] at hj
          have hfl := flatNd_len l
          split at hj
          · exact h2 j u hj
          · rename_i hge
            have hj3 : j - (flatNd l).length < 3 := by
              have := (List.getElem?_eq_some_iff.1 hj).1
              simpa [Nd.cells] using this
            have := hcell (j - (flatNd l).length) hj3
            rw [hj, Go.Deep.add_add] at this
            rw [← this]
            congr 2
            omega
        · intro y hy
          rw [List.range_succ, List.map_append, bulk_append]
          simp only [List.map_cons, List.map_nil, Rows.uptoBulkAll]
          simp only at hmk
          rcases List.mem_append.1 hy with hy | hy
          · have := h3 y hy; omega
          · rw [List.mem_singleton.1 hy]; omega
    obtain ⟨l, h1, h2, h3⟩ := key len' (Nat.le_refl _)
    refine ⟨_, l, rfl, ?_, ?_, fun y hy => ?_⟩
    · have := rd_cells (w := w) (a := a) (n := l.length) (size := 3) (cap := cap') (by omega) (flatNd_len l) (by omega) hmax h2
      rwa [show (Value.slice (some a) len' cap') = .slice (some a) l.length cap' from by rw [h1]]
    · simp only [Rows.uptoBulk]
      have := bulk_len ((List.range len').map D)
      simp at this
      omega
    · have := h3 y hy
      simp only [Rows.uptoBulk]; omega
set_option maxRecDepth 100000 in
/-- one rule, read -/
theorem open_rule {H : Type} {enc : TypeId × Value → H} {w : World} {base : Nat} {spare : Nat → Bool} {held : Bool} {fuel : Nat} {cs : List Value} {x : DataW H × List MemPlace} (h : DataW.trod enc Tryz.prog w base spare held fuel 38 cs = some x) :
    ∃ p : Ru × Value, cs = [.string p.1.h, p.2] ∧ RdNd w p.2 p.1.b ∧ p.1.h.size ≤ Rows.uptoBulk x.1 ∧ p.1.b.length ≤ Rows.uptoBulk x.1 ∧ ∀ m ∈ p.1.b, m.n.size ≤ Rows.uptoBulk x.1 := by
  obtain ⟨y0, y1, n, rfl, hl, h0, h1⟩ := trod_struct2 Tryz.underlying38 h
  obtain ⟨t, e1, rfl, _⟩ := DataW.trod_string (by kernel_rfl) h0
  obtain ⟨v, l, e2, hrd, hln, hnm⟩ := open_nodesB h1
  have hl2 : cs.length = 2 := by rw [hl]; kernel_rfl
  obtain ⟨c0, c1, rfl⟩ : ∃ c0 c1, cs = [c0, c1] := by
    match cs, hl2 with
    | [c0, c1], _ => exact ⟨c0, c1, rfl⟩
  have k1 : Tryz.prog.cellsOf 36 = 1 := by kernel_rfl
  have k2 : Tryz.prog.cellsOf 9 = 1 := by kernel_rfl
  simp [k2] at e1
  simp [k1] at e2
  refine ⟨(⟨t, l⟩, v), by rw [e1, e2], hrd, ?_, ?_, fun m hm => ?_⟩
  · have := ba_len t
    simp only [Rows.uptoBulk, Rows.uptoBulkAll]; omega
  · simp only [Rows.uptoBulk, Rows.uptoBulkAll]; omega
  · have := hnm m hm; simp only [Rows.uptoBulk, Rows.uptoBulkAll]; omega
set_option maxRecDepth 100000 in
/-- a grammar, read -/
theorem open_rules {H : Type} {enc : TypeId × Value → H} {w : World} {base : Nat} {spare : Nat → Bool} {held : Bool} {r : Reach} {b0 : Nat} {v : Value} {d : DataW H} {ps : List MemPlace}
    (hval : Value.okWide Tryz.prog w r b0 22 v) (h : DataW.Trod enc Tryz.prog w base spare held 22 v d ps) :
    ∃ G : List Ru, RdRu w v G ∧ Bulk G (Rows.uptoBulk d) := by
  obtain ⟨ao, len, cap, rfl⟩ := okWide_slice Tryz.underlying22 hval
  obtain ⟨fuel, hf⟩ := h
  have hC : Tryz.prog.cellsOf 38 = 2 := by kernel_rfl
  rcases open_slice Tryz.underlying22 hf with ⟨hcs, hx⟩ | ⟨a, len', cap', m, n, D, Pl, hcs, hb, hle, hmax, hm, hx, hi⟩
  · simp [Value.cells] at hcs
    obtain ⟨rfl, rfl, rfl⟩ := hcs
    exact ⟨[], ⟨[], rfl, Rd.nil _ _, (fun p hp => by cases hp)⟩, ⟨by simp, by simp [nodesG], (fun r hr => by cases hr), (fun r hr => by cases hr)⟩⟩
  · simp [Value.cells] at hcs
    obtain ⟨rfl, rfl, rfl⟩ := hcs
    simp only [Prod.mk.injEq] at hx
    obtain ⟨rfl, rfl⟩ := hx
    have hml : len ≤ m := by rw [hm]; split <;> omega
    rw [hC] at hi
    have key : ∀ k, k ≤ len → ∃ P : List (Ru × Value), P.length = k ∧ (∀ j u, (flatP P)[j]? = some u → w.cell? (a.add j) = some u) ∧ Bods w P ∧ Bulk (P.map (·.1)) (Rows.uptoBulkAll ((List.range k).map D)) := by
      intro k
      induction k with
      | zero => exact fun _ => ⟨[], rfl, by simp [flatP], (fun p hp => by cases hp), ⟨by simp, by simp [nodesG], (fun r hr => by cases hr), (fun r hr => by cases hr)⟩⟩
      | succ k ih =>
        intro hk
        obtain ⟨P, h1, h2, h3, h4⟩ := ih (by omega)
        obtain ⟨cs', hc, ht⟩ := hi k (by omega)
        obtain ⟨p, rfl, hp1, hp2, hp3, hp4⟩ := open_rule ht
        simp only at hp2 hp3 hp4
        obtain ⟨_, _, hcell⟩ := World.cells?_some hc
        have hsum : Rows.uptoBulkAll ((List.range (k + 1)).map D) = Rows.uptoBulkAll ((List.range k).map D) + Rows.uptoBulk (D k) := by
          rw [List.range_succ, List.map_append, bulk_append]
          simp only [List.map_cons, List.map_nil, Rows.uptoBulkAll]; omega
        have hpos := bulk_pos (D k)
        refine ⟨P ++ [p], by simp [h1], ?_, ?_, ?_⟩
        · intro j u hj
          rw [flatP_snoc, List.getElem?_append] at hj
          have hfl := flatP_len P
          split at hj
          · exact h2 j u hj
          · rename_i hge
            have hj3 : j - (flatP P).length < 2 := by
              have := (List.getElem?_eq_some_iff.1 hj).1
              simpa using this
            have := hcell (j - (flatP P).length) hj3
            rw [hj, Go.Deep.add_add] at this
            rw [← this]
            congr 2
            omega
        · intro q hq
          rcases List.mem_append.1 hq with hq | hq
          · exact h3 q hq
          · rw [List.mem_singleton.1 hq]; exact hp1
        · rw [hsum, List.map_append]
          have e : nodesG (P.map (·.1) ++ [p].map (·.1)) = nodesG (P.map (·.1)) + p.1.b.length := by simp [nodesG]
          refine ⟨?_, ?_, fun r hr => ?_, fun r hr x hx => ?_⟩
          · have := h4.len; simp at this ⊢; omega
          · rw [e]; have := h4.nodes; omega
          · rcases List.mem_append.1 hr with hr | hr
            · have := h4.head r hr; omega
            · simp at hr; subst hr; omega
          · rcases List.mem_append.1 hr with hr | hr
            · have := h4.name r hr x hx; omega
            · simp at hr; subst hr; have := hp4 x hx; omega
    obtain ⟨P, h1, h2, h3, h4⟩ := key len (Nat.le_refl _)
    have hle2 : Rows.uptoBulkAll ((List.range len).map D) ≤ Rows.uptoBulk (DataW.slice ((List.range len).map D) ((List.range (m - len)).map fun j => D (len + j))) := by
      simp only [Rows.uptoBulk]; omega
    refine ⟨P.map (·.1), ⟨P, rfl, ?_, h3⟩, ⟨Nat.le_trans h4.len hle2, Nat.le_trans h4.nodes hle2, fun r hr => Nat.le_trans (h4.head r hr) hle2, fun r hr x hx => Nat.le_trans (h4.name r hr x hx) hle2⟩⟩
    have := rd_cells (w := w) (a := a) (n := P.length) (size := 2) (cap := cap) (by omega) (flatP_len P) (by omega) hmax h2
    rwa [show (Value.slice (some a) len cap) = .slice (some a) P.length cap from by rw [h1]]
end Go.Proofs.YtfmcbpnhpckmjaaGreat
namespace Go.Proofs.YtfmcbpnhpckmjaaGreat
open Go.ChangeShapes Go.WideShapes Go.RowKit Go.Deep

theorem strs_lenB (l : List ByteArray) : (strs l).length = l.length := by unfold strs; simp
theorem intsZ_lenB (l : List Int) : (intsZ l).length = l.length := by unfold intsZ; simp
set_option maxRecDepth 100000 in
theorem open_wordB {H : Type} {enc : TypeId × Value → H} {w : World} {base : Nat} {spare : Nat → Bool} {held : Bool} {fuel : Nat} {cs : List Value} {x : DataW H × List MemPlace} (h : DataW.trod enc Tryz.prog w base spare held fuel 9 cs = some x) :
    ∃ m : ByteArray, cs = [.string m] ∧ m.size ≤ Rows.uptoBulk x.1 := by
  obtain ⟨t, e1, rfl, _⟩ := DataW.trod_string (by kernel_rfl) h
  have := ba_len t
  exact ⟨t, e1, by simp only [Rows.uptoBulk]; omega⟩
set_option maxRecDepth 100000 in
theorem open_intB {H : Type} {enc : TypeId × Value → H} {w : World} {base : Nat} {spare : Nat → Bool} {held : Bool} {fuel : Nat} {cs : List Value} {x : DataW H × List MemPlace} (h : DataW.trod enc Tryz.prog w base spare held fuel 3 cs = some x) :
    ∃ m : Int, cs = [.int .i64 m] := by
  obtain ⟨t, e1, _, _⟩ := DataW.trod_int (k := .i64) (by kernel_rfl) h
  exact ⟨t, e1⟩
set_option maxRecDepth 100000 in
theorem open_wordsB {H : Type} {enc : TypeId × Value → H} {w : World} {base : Nat} {spare : Nat → Bool} {held : Bool} {r : Reach} {b0 : Nat} {v : Value} {d : DataW H} {ps : List MemPlace}
    (hval : Value.okWide Tryz.prog w r b0 27 v) (h : DataW.Trod enc Tryz.prog w base spare held 27 v d ps) :
    ∃ l : List ByteArray, RdS w v l ∧ l.length ≤ Rows.uptoBulk d ∧ ∀ m ∈ l, m.size ≤ Rows.uptoBulk d := by
  obtain ⟨ao, len, cap, rfl⟩ := okWide_slice Tryz.underlying27 hval
  obtain ⟨fuel, hf⟩ := h
  have hC : Tryz.prog.cellsOf 9 = 1 := by kernel_rfl
  rcases open_slice Tryz.underlying27 hf with ⟨hcs, hx⟩ | ⟨a, len', cap', m, n, D, Pl, hcs, hb, hle, hmax, hm, hx, hi⟩
  · simp [Value.cells] at hcs
    obtain ⟨rfl, rfl, rfl⟩ := hcs
    exact ⟨[], Rd.nil _ _, by simp, fun m hm => by cases hm⟩
  · simp [Value.cells] at hcs
    obtain ⟨rfl, rfl, rfl⟩ := hcs
    simp only [Prod.mk.injEq] at hx
    obtain ⟨rfl, rfl⟩ := hx
    have hml : len ≤ m := by rw [hm]; split <;> omega
    rw [hC] at hi
    have key : ∀ k, k ≤ len → ∃ l : List ByteArray, l.length = k ∧ (∀ j u, (strs l)[j]? = some u → w.cell? (a.add j) = some u) ∧ ∀ x ∈ l, x.size ≤ Rows.uptoBulkAll ((List.range k).map D) := by
      intro k
      induction k with
      | zero => exact fun _ => ⟨[], rfl, by simp [strs], fun x hx => by cases hx⟩
      | succ k ih =>
        intro hk
        obtain ⟨l, h1, h2, h3⟩ := ih (by omega)
        obtain ⟨cs', hc, ht⟩ := hi k (by omega)
        obtain ⟨mk, rfl, hmk⟩ := open_wordB ht
        obtain ⟨_, _, hcell⟩ := World.cells?_some hc
        refine ⟨l ++ [mk], by simp [h1], ?_, ?_⟩
        · intro j u hj
          have e : strs (l ++ [mk]) = strs l ++ [.string mk] := by simp [strs]
          rw [e, List.getElem?_append] at hj
          have hfl := strs_lenB l
          split at hj
          · exact h2 j u hj
          · rename_i hge
            have hj3 : j - (strs l).length < 1 := by
              have := (List.getElem?_eq_some_iff.1 hj).1
              simpa [] using this
            have := hcell (j - (strs l).length) hj3
            rw [hj, Go.Deep.add_add] at this
            rw [← this]
            congr 2
            omega
        · intro y hy
          rw [List.range_succ, List.map_append, bulk_append]
          simp only [List.map_cons, List.map_nil, Rows.uptoBulkAll]
          simp only at hmk
          rcases List.mem_append.1 hy with hy | hy
          · have := h3 y hy; omega
          · rw [List.mem_singleton.1 hy]; omega
    obtain ⟨l, h1, h2, h3⟩ := key len (Nat.le_refl _)
    refine ⟨l, ?_, ?_, fun y hy => ?_⟩
    · have := rd_cells (w := w) (a := a) (n := l.length) (size := 1) (cap := cap) (by omega) (by rw [strs_lenB, Nat.mul_one]) (by omega) hmax h2
      rwa [show (Value.slice (some a) len cap) = .slice (some a) l.length cap from by rw [h1]]
    · simp only [Rows.uptoBulk]
      have := bulk_len ((List.range len).map D)
      simp at this
      omega
    · have := h3 y hy
      simp only [Rows.uptoBulk]; omega
set_option maxRecDepth 100000 in
theorem open_ints {H : Type} {enc : TypeId × Value → H} {w : World} {base : Nat} {spare : Nat → Bool} {held : Bool} {r : Reach} {b0 : Nat} {v : Value} {d : DataW H} {ps : List MemPlace}
    (hval : Value.okWide Tryz.prog w r b0 61 v) (h : DataW.Trod enc Tryz.prog w base spare held 61 v d ps) :
    ∃ l : List Int, RdZ w v l ∧ l.length ≤ Rows.uptoBulk d := by
  obtain ⟨ao, len, cap, rfl⟩ := okWide_slice Tryz.underlying61 hval
  obtain ⟨fuel, hf⟩ := h
  have hC : Tryz.prog.cellsOf 3 = 1 := by kernel_rfl
  rcases open_slice Tryz.underlying61 hf with ⟨hcs, hx⟩ | ⟨a, len', cap', m, n, D, Pl, hcs, hb, hle, hmax, hm, hx, hi⟩
  · simp [Value.cells] at hcs
    obtain ⟨rfl, rfl, rfl⟩ := hcs
    exact ⟨[], Rd.nil _ _, by simp⟩
  · simp [Value.cells] at hcs
    obtain ⟨rfl, rfl, rfl⟩ := hcs
    simp only [Prod.mk.injEq] at hx
    obtain ⟨rfl, rfl⟩ := hx
    have hml : len ≤ m := by rw [hm]; split <;> omega
    rw [hC] at hi
    have key : ∀ k, k ≤ len → ∃ l : List Int, l.length = k ∧ (∀ j u, (intsZ l)[j]? = some u → w.cell? (a.add j) = some u) := by
      intro k
      induction k with
      | zero => exact fun _ => ⟨[], rfl, by simp [intsZ]⟩
      | succ k ih =>
        intro hk
        obtain ⟨l, h1, h2⟩ := ih (by omega)
        obtain ⟨cs', hc, ht⟩ := hi k (by omega)
        obtain ⟨mk, rfl⟩ := open_intB ht
        obtain ⟨_, _, hcell⟩ := World.cells?_some hc
        refine ⟨l ++ [mk], by simp [h1], ?_⟩
        · intro j u hj
          have e : intsZ (l ++ [mk]) = intsZ l ++ [.int .i64 mk] := by simp [intsZ]
          rw [e, List.getElem?_append] at hj
          have hfl := intsZ_lenB l
          split at hj
          · exact h2 j u hj
          · rename_i hge
            have hj3 : j - (intsZ l).length < 1 := by
              have := (List.getElem?_eq_some_iff.1 hj).1
              simpa [] using this
            have := hcell (j - (intsZ l).length) hj3
            rw [hj, Go.Deep.add_add] at this
            rw [← this]
            congr 2
            omega
    obtain ⟨l, h1, h2⟩ := key len (Nat.le_refl _)
    refine ⟨l, ?_, ?_⟩
    · have := rd_cells (w := w) (a := a) (n := l.length) (size := 1) (cap := cap) (by omega) (by rw [intsZ_lenB, Nat.mul_one]) (by omega) hmax h2
      rwa [show (Value.slice (some a) len cap) = .slice (some a) l.length cap from by rw [h1]]
    · simp only [Rows.uptoBulk]
      have := bulk_len ((List.range len).map D)
      simp at this
      omega
end Go.Proofs.YtfmcbpnhpckmjaaGreat
