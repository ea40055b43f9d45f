/- The walks and facts that the laws lean on, part 5. No condition of its own: each theorem tells its own. -/
import Derived.Test.YtkmjmfcanlknjaaGreatPk4
import Derived.Deep.AppendLies
import Derived.Deep.RegionLaw
import Derived.StillTailTactics
import Derived.Shelf.Strings.BuilderF
import Derived.Laws.EntriesVeiled
namespace Go.Proofs.YtkmjmfcanlknjaaGreat
open Go.RowKit

/-- append of one new element, at a step of a region that draws -/
theorem step_appG1 {P : Program} {t e : TypeId} {size bytes : Nat} (hE : ElemOK P t e size bytes) {B : Nat} {wr : World} {ops : Array Oper} {o : Oper} {a : Act} {K : Act → World → Prop} {Q : Exit → Act → World → Prop} {E : Prop} (hgd : o.guard = none) (s x : Operand)
    (ho : o.op = .call { callee := .builtin .append, args := #[s, x], argTypes := #[t, t] })
    {v : Value} {n : Nat} {xs : List Value} (hown : wr.ownsRow B e size v n xs) (hs : a.eval s = v)
    {news : List Value} (hx : a.eval x = .slice (some ⟨wr.heap.size, 0, none⟩) 1 1) (hl : news.length = size) (h1 : ∀ u ∈ news, u.oneCell' = true)
    (hm : n + 1 ≤ maxLen) (hn : (n + 1) * bytes ≤ 140737488355328) (hB : B ≤ wr.heap.size)
    (h : ∀ v' w', w'.ownsRow B e size v' (n + 1) (xs ++ news) → wr.grownBy w' v.ownBlock → K (a.put o.dst v') w') :
    if Region.wanted o (yielded ops a.tmps) = true then Oper.wp P o a (wr.alloc (.cells news.toArray e)) K Q else E := by
  obtain ⟨i, z, h2, h3, h4, h5, h6, h7, h8⟩ := hE.ex
  refine step_append_lies _ hgd s x t ho B e i z size bytes h2 h3 h4 h5 h6 h7 h8 v n xs hs (hown.alloc _) ⟨wr.heap.size, 0, none⟩ 1 1 news hx (by omega) (cells_new wr news e) h1 (by omega) hm hn (by simp; omega) _ rfl fun g cap w' h2 h3 _ _ => h _ w' h2 ?_
  exact ⟨h3.os, h3.tape, h3.output, Nat.le_trans (by simp) h3.size, fun k hk hne => (h3.block k (by simp; omega) hne).trans (Below.heap_alloc wr _ k hk)⟩
theorem elemRu : ElemOK Tryz.prog 22 47 2 40 :=
  ElemOK.mk' (z := .agg #[.string ⟨#[]⟩, .slice none 0 0]) Tryz.underlying22 (by kernel_rfl) rfl (by decide)
/-- rows of two types lie in two blocks -/
theorem own_apart {w : World} {B B' : Nat} {e e' : TypeId} {s s' : Nat} {v v' : Value} {n n' : Nat} {xs xs' : List Value} (h : w.ownsRow B e s v n xs) (h' : w.ownsRow B' e' s' v' n' xs') (he : e ≠ e') (g : Nat) (hg : v'.ownBlock = some g) : v.ownBlock ≠ some g := by
  rcases h.2 with ⟨rfl, _⟩ | ⟨b, cap, cur, rfl, _, hb, _⟩
  · simp [Value.ownBlock]
  · rcases h'.2 with ⟨rfl, _⟩ | ⟨b', cap', cur', rfl, _, hb', _⟩
    · simp [Value.ownBlock] at hg
    · intro h3
      simp only [Value.ownBlock, Option.some.injEq] at hg h3
      subst hg; subst h3
      rw [hb] at hb'
      simp only [Option.some.injEq, Obj.cells.injEq] at hb'
      exact he hb'.2.1
/-- the rules own their row and their bodies -/
structure OwnP (w : World) (B : Nat) (v : Value) (P : List (Ru × Value)) : Prop where
  row : w.ownsRow B 47 2 v P.length (flatP P)
  bods : ∀ p ∈ P, OwnNd w B p.2 p.1.b
theorem OwnP.nil (w : World) (B : Nat) : OwnP w B (.slice none 0 0) [] := ⟨World.ownsRow_nil _ _ _ _, fun p hp => by cases hp⟩
theorem OwnP.rd {w : World} {B : Nat} {v : Value} {P : List (Ru × Value)} (h : OwnP w B v P) : RdP w v P := ⟨Rd.of_owns h.row, fun p hp => RdNd.of_own (h.bods p hp)⟩
theorem OwnP.below {w w' : World} {B : Nat} {v : Value} {P : List (Ru × Value)} (h : OwnP w B v P) (hb : Below w.heap.size w w') : OwnP w' B v P :=
  ⟨own_grown h.row (grown_below hb) (fun j hj => by cases hj), fun p hp => own_grown (h.bods p hp) (grown_below hb) (fun j hj => by cases hj)⟩
theorem OwnP.lower {w : World} {B C : Nat} {v : Value} {P : List (Ru × Value)} (h : OwnP w B v P) (hC : C ≤ B) : OwnP w C v P := ⟨own_lower h.row hC, fun p hp => own_lower (h.bods p hp) hC⟩
/-- a rule appended -/
theorem OwnP.snoc {w w' : World} {B : Nat} {v v' : Value} {P : List (Ru × Value)} {p : Ru × Value} (h : OwnP w B v P) (hb : OwnNd w B p.2 p.1.b) (hown : w'.ownsRow B 47 2 v' (P.length + 1) (flatP P ++ [.string p.1.h, p.2])) (hg : w.grownBy w' v.ownBlock) : OwnP w' B v' (P ++ [p]) := by
  refine ⟨?_, fun q hq => ?_⟩
  · rw [flatP_snoc, List.length_append]; exact hown
  · have hq2 : OwnNd w B q.2 q.1.b := by
      rcases List.mem_append.1 hq with hq | hq
      · exact h.bods q hq
      · rw [List.mem_singleton.1 hq]; exact hb
    exact own_grown hq2 hg (fun j hj => .inr (own_apart hq2 h.row (by decide) j hj))

set_option maxRecDepth 100000 in
set_option maxHeartbeats 6400000 in
theorem rCopyG_any (v : Value) (G : List Ru) (w : World) (h : RdRu w v G) (hl : LimG G) (hl2 : G.length ≤ 1099511627776) :
    Calls Tryz.prog 12 #[v] w fun e w' => ∃ v' P, e = .returned v' ∧ P.map (·.1) = G ∧ OwnP w' w.heap.size v' P ∧ Below w.heap.size w w' := by
  obtain ⟨P, rfl, hR⟩ := h
  have HR := Lib.hid hR
  have HL := Lib.hid hl
  obtain ⟨⟨_, ao, cap, rfl, -⟩, -⟩ := hR
  have hpl : P.length ≤ 1099511627776 := by rwa [List.length_map] at hl2
  clear hl hl2
  generalize hG : P.map (·.1) = G at *
  have HG := Lib.hid hG
  have HGL : Hid (G.length = P.length) := by unfold Hid; rw [← hG, List.length_map]
  clear hG
  have hgl := HGL.out
  go_enter Tryz.func12, Tryz.ntmps12
  go_wp2_with fail
  go_loopw [3, 4] (fun o i wr => ∃ (j : Nat) (P' : List (Ru × Value)), i = .int .i64 j ∧ j ≤ P.length ∧ Hid (P'.map (·.1) = G.take j) ∧ Hid (OwnP wr w.heap.size o P') ∧ Hid (Below w.heap.size w wr)) (fun _ i _ => P.length - (intOf i).toNat)
  case atStart => exact ⟨0, [], rfl, by omega, rfl, OwnP.nil _ _, Below.refl _ _⟩
  case round =>
    obtain ⟨j, P', rfl, hj, HP', HO, HBel⟩ := hrel
    rename_i u3
    have hws := HBel.out.size
    have hpl' : P'.length = j := by have := congrArg List.length HP'.out; rw [List.length_map, List.length_take] at this; omega
    by_cases hlt : j < P.length
    · obtain ⟨p, hp⟩ : ∃ p, P[j]? = some p := ⟨_, List.getElem?_eq_getElem hlt⟩
      obtain ⟨b, off, cp, e1, hb, hc, x0, x1, hrd⟩ := RdP.at HR.out hp
      simp only [Value.slice.injEq] at e1
      obtain ⟨rfl, -, rfl⟩ := e1
      have X0 := (HBel.out.cell (p := ⟨b, _, none⟩) hb).trans x0
      have X1 := (HBel.out.cell (p := ⟨b, _, none⟩) hb).trans x1
      have hbw : b < wr.heap.size := by omega
      have HGP : Hid (G[j]? = some p.1) := by unfold Hid; rw [← HG.out, List.getElem?_map, hp]; rfl
      have hbl : p.1.b.length ≤ 4398046511104 := Nat.le_trans (body_le (List.mem_of_getElem? HGP.out)) HL.out.nodes
      have HC := Lib.hid (rCopy_any p.2 p.1.b wr.drew (hrd.below HBel.out.drew) hbl)
      have HT : Hid (G.take (j + 1) = G.take j ++ [p.1]) := (nodesG_take G HGP.out).1
      obtain ⟨_, ao3, cp3, hv2, -⟩ := id hrd
      obtain ⟨⟨ph, pb⟩, pv⟩ := p
      simp only at hv2 X0 X1 HGP HC HT
      subst hv2
      clear x0 x1 hp hrd hbl
      go_wp2_with fail
      go_region_law (first
        | (refine step_appG1 elemRu rfl _ _ rfl HO2.row rfl (news := [.string ph, .slice ao2 pb.length cp2]) rfl rfl (by intro u hu; simp at hu; rcases hu with rfl | rfl <;> rfl) (by unfold maxLen; omega) (by omega) hw2 ?_; intro v3 w3 hown3 hg3)
        | (go_simp; go_at_call 31; refine (HC.out).mono ?_; rintro e w2 ⟨v2, rfl, ho2, hb2⟩
           obtain ⟨ao2, cp2, rfl⟩ : ∃ ao c, v2 = .slice ao pb.length c := by obtain ⟨_, ao, c, e, -⟩ := RdNd.of_own ho2; exact ⟨ao, c, e⟩
           have HO2 : OwnP w2 w.heap.size u3 P' := (HO.out.below (show Below wr.heap.size wr wr.drew from Below.drew (Below.refl _ _))).below hb2
           have hown2 : OwnNd w2 w.heap.size (.slice ao2 pb.length cp2) pb := own_lower ho2 hws
           have hw2 : w.heap.size ≤ w2.heap.size := Nat.le_trans hws hb2.size
           have hB2 : Below w.heap.size w w2 := HBel.out.drew.trans (hb2.mono hws)
           have k0 : w2.cell? ⟨b, off + j * 2, none⟩ = some (.string ph) := (hb2.cell (p := ⟨b, off + j * 2, none⟩) hbw).trans X0
           have k1 : w2.cell? ⟨b, off + j * 2 + 1, none⟩ = some (.slice ao3 pb.length cp3) := (hb2.cell (p := ⟨b, off + j * 2 + 1, none⟩) hbw).trans X1))
      all_goals
        have HO3 : Hid (OwnP w3 w.heap.size v3 (P' ++ [(⟨ph, pb⟩, .slice ao2 pb.length cp2)])) := OwnP.snoc (p := (⟨ph, pb⟩, .slice ao2 pb.length cp2)) HO2 hown2 hown3 hg3
        have HB3 : Hid (Below w.heap.size w w3) := hB2.grown hg3 hw2 (fun j hj => own_block HO2.row j hj)
        have HP3 : Hid ((P' ++ [((⟨ph, pb⟩, .slice ao2 pb.length cp2) : Ru × Value)]).map (·.1) = G.take (j + 1)) := by unfold Hid; rw [List.map_append, HP'.out, HT.out]; rfl
        clear hown3 hg3 ho2 hb2 hown2 HO2
        go_wp2_with fail
        go_roundw
        case rel => exact ⟨j + 1, _, by go_num, by omega, HP3.out, HO3.out, HB3.out⟩
        case measure => simp [intOf]; omega
    · obtain rfl : j = P.length := by omega
      have HE : Hid (P'.map (·.1) = G) := by have := HP'.out; rw [List.take_of_length_le (by have := HGL.out; omega)] at this; exact this
      go_wp2_with fail
      go_ret
      exact ⟨_, _, rfl, HE.out, HO.out, HBel.out⟩
/-- the bounds that the condition gives -/
structure Bulk (G : List Ru) (n : Nat) : Prop where
  len : G.length ≤ n
  nodes : nodesG G ≤ n
  head : ∀ r ∈ G, r.h.size ≤ n
  name : ∀ r ∈ G, ∀ x ∈ r.b, x.n.size ≤ n
theorem Bulk.lim {G : List Ru} {n : Nat} (h : Bulk G n) (hn : n ≤ 1048576) : LimG G := ⟨by have := h.len; omega, by have := h.nodes; omega, fun r hr => by have := h.head r hr; omega, fun r hr x hx => by have := h.name r hr x hx; omega⟩
theorem Bulk.mono {G : List Ru} {n m : Nat} (h : Bulk G n) (hn : n ≤ m) : Bulk G m := ⟨Nat.le_trans h.len hn, Nat.le_trans h.nodes hn, fun r hr => Nat.le_trans (h.head r hr) hn, fun r hr x hx => Nat.le_trans (h.name r hr x hx) hn⟩
end Go.Proofs.YtkmjmfcanlknjaaGreat
namespace Go.Proofs.YtkmjmfcanlknjaaGreat
open Go.RowKit

/-! ### plain: whatever machine steps over the marks as nextS says stops where the reader stops -/
structure Mach (L : List Mk) (PL : Nat → Int → Bool → Int) (pc : Nat → Int) : Prop where
  step : ∀ p o o' w w', p < L.length → 0 ≤ o → nextS o w (kd L p) = (o', w', true) → PL p o w = PL (p + 1) o' w'
  stuck : ∀ p o w, p ≤ L.length → (p < L.length → (nextS o w (kd L p)).2.2 = false) → (w = true ∨ 0 < o) → PL p o w = pc p
section
variable {PL : Nat → Int → Bool → Int} {pc : Nat → Int}
theorem mach_begin {L : List Mk} (hM : Mach L PL pc) {p : Nat} {o : Int} (h : beginsI (kd L p) = true) (ho : 0 ≤ o) : PL p o false = PL p o true := by
  have hp := begins_lt h
  by_cases h10 : kd L p = 10
  · rw [hM.step p o _ false _ hp ho (by rw [h10]; exact next_open o false), hM.step p o _ true _ hp ho (by rw [h10]; exact next_open o true)]
  · rw [hM.step p o _ false _ hp ho (next_begin h h10), hM.step p o _ true _ hp ho (next_begin h h10)]
structure AuM (L : List Mk) (PL : Nat → Int → Bool → Int) (pc : Nat → Int) (p : Nat) (r : PR) (fol : Int → Prop) : Prop where
  good : r.ok = true → ∀ o, 0 ≤ o → PL p o true = PL r.p o false
  bad : r.ok = false → ∀ o, 0 ≤ o → PL p o true = pc r.p
  fol : r.ok = true → fol (kd L r.p)
theorem pAtom_aum {E : Nat → PR} {L : List Mk} (hM : Mach L PL pc) {p : Nat} (hp : p ≤ L.length) (hB : p + 1 ≤ L.length → PB L (p + 1) (E (p + 1))) (hE : p + 1 ≤ L.length → AuM L PL pc (p + 1) (E (p + 1)) folE) : AuM L PL pc p (pAtom E L p) (fun _ => True) := by
  cases hb : beginsI (kd L p) with
  | false =>
    rw [pAtom_no' hb]
    exact ⟨fun h => by simp at h, fun _ o _ => hM.stuck p o true hp (fun _ => next_want hb) (.inl rfl), fun _ => trivial⟩
  | true =>
    have hlt := begins_lt hb
    by_cases h10 : kd L p = 10
    · have H := hE hlt
      have HB := hB hlt
      rw [pAtom_op' h10]
      have s0 : ∀ o, 0 ≤ o → PL p o true = PL (p + 1) (o + 1) true := fun o ho => hM.step p o _ true _ hlt ho (by rw [h10]; exact next_open o true)
      generalize E (p + 1) = r at *
      obtain ⟨ok, f, q⟩ := r
      cases ok with
      | false => exact ⟨fun h => by simp at h, fun _ o ho => by simp only [Bool.false_eq_true, if_false]; rw [s0 _ ho, H.bad rfl _ (by omega)], fun h => by simp at h⟩
      | true =>
        simp only [if_true]
        have hq := HB.le
        simp only at hq
        by_cases hc : kd L q = 11
        · rw [if_pos hc]
          have hql := kd_lt (L := L) (p := q) (by omega)
          refine ⟨fun _ o ho => ?_, fun h => by simp at h, fun _ => trivial⟩
          rw [s0 _ ho, H.good rfl _ (by omega)]
          simp only
          rw [hM.step q (o + 1) _ false _ hql (by omega) (by rw [hc]; exact next_close (by omega)), show o + 1 - 1 = o from by omega]
        · rw [if_neg hc]
          refine ⟨fun h => by simp at h, fun _ o ho => ?_, fun h => by simp at h⟩
          rw [s0 _ ho, H.good rfl _ (by omega)]
          exact hM.stuck q _ false hq (fun _ => next_fol (H.fol rfl) (fun h => absurd h hc)) (.inr (by omega))
    · obtain ⟨f, hf⟩ := pAtom_leaf (E := E) hb h10
      rw [hf]
      exact ⟨fun _ o ho => hM.step p o _ true _ hlt ho (next_begin hb h10), fun h => by simp at h, fun _ => trivial⟩
theorem pSuf_aum {L : List Mk} (hM : Mach L PL pc) {p0 : Nat} : ∀ (m p : Nat) (f : Fo), L.length - p ≤ m → AuM L PL pc p0 ⟨true, f, p⟩ (fun _ => True) → AuM L PL pc p0 (pSuf L m p f) folU
  | 0, p, f, hm, h => ⟨h.good, h.bad, fun _ => by
      have : kd L p = 0 := kd_none (by omega)
      show sufK (kd L p) = 0
      rw [this]; rfl⟩
  | m + 1, p, f, hm, h => by
    unfold pSuf
    split
    · rename_i hs
      exact ⟨h.good, h.bad, fun _ => hs⟩
    · rename_i hs
      have hlt := sufK_lt' hs
      refine pSuf_aum hM m (p + 1) _ (by omega) ⟨fun _ o ho => ?_, fun h => by simp at h, fun _ => trivial⟩
      rw [h.good rfl o ho]
      exact hM.step p o _ false _ hlt ho (next_suf hs)
theorem pUnit_aum {E : Nat → PR} {L : List Mk} (hM : Mach L PL pc) {p : Nat} (h : AuM L PL pc p (pAtom E L p) (fun _ => True)) : AuM L PL pc p (pUnit E L p) folU := by
  unfold pUnit
  generalize pAtom E L p = r at *
  obtain ⟨ok, f, q⟩ := r
  cases ok with
  | false => exact ⟨fun h => by simp at h, h.bad, fun h => by simp at h⟩
  | true => simp only [if_true]; exact pSuf_aum hM _ _ _ (Nat.le_refl _) h
theorem pMany_aum' {L : List Mk} (hM : Mach L PL pc) {p0 lo : Nat} {S : Nat → Option PR} {k : Int} {f0 f1 : Int → Prop} (hSb : ∀ p r, lo ≤ p → p ≤ L.length → S p = some r → p < L.length ∧ (r.ok = true → p < r.p ∧ r.p ≤ L.length)) (hSg : ∀ p r, lo ≤ p → p ≤ L.length → f0 (kd L p) → S p = some r → (r.ok = true → ∀ o, 0 ≤ o → PL p o false = PL r.p o false) ∧ (r.ok = false → ∀ o, 0 ≤ o → PL p o false = pc r.p) ∧ (r.ok = true → f0 (kd L r.p)))
    (hn : ∀ p, p ≤ L.length → f0 (kd L p) → S p = none → f1 (kd L p)) :
    ∀ (m p : Nat) (f : Fo) (n : Nat), lo ≤ p → p ≤ L.length → L.length - p ≤ m → AuM L PL pc p0 ⟨true, f, p⟩ f0 → AuM L PL pc p0 (pMany S k m p f n) f1
  | 0, p, f, n, hlo, hp, hm, h => by
    unfold pMany
    refine ⟨h.good, fun h => by simp at h, fun _ => hn p hp (h.fol rfl) ?_⟩
    cases hs : S p with
    | none => rfl
    | some r => have := (hSb p r hlo hp hs).1; omega
  | m + 1, p, f, n, hlo, hp, hm, h => by
    unfold pMany
    cases hs : S p with
    | none => exact ⟨h.good, fun h => by simp at h, fun _ => hn p hp (h.fol rfl) hs⟩
    | some r =>
      obtain ⟨g1, g2, g3⟩ := hSg p r hlo hp (h.fol rfl) hs
      obtain ⟨b1, b2⟩ := hSb p r hlo hp hs
      simp only
      cases hok : r.ok with
      | true =>
        rw [if_pos rfl]
        have b3 := b2 hok
        refine pMany_aum' hM hSb hSg hn m r.p _ _ (by omega) b3.2 (by omega) ⟨fun _ o ho => ?_, fun h => by simp at h, fun _ => g3 hok⟩
        rw [h.good rfl o ho]
        exact g1 hok o ho
      | false =>
        rw [if_neg (by simp)]
        refine ⟨fun h => absurd h (by simp [hok]), fun _ o ho => ?_, fun h => absurd h (by simp [hok])⟩
        rw [h.good rfl o ho]
        exact g2 hok o ho
theorem pPart_aum {E : Nat → PR} {L : List Mk} (hM : Mach L PL pc) {p : Nat} (hp : p ≤ L.length) (hB : ∀ q, q ≤ L.length → PB L q (E q)) (hU : ∀ q, p ≤ q → q ≤ L.length → AuM L PL pc q (pUnit E L q) folU) : AuM L PL pc p (pPart E L p) folP := by
  have H := hU p (Nat.le_refl _) hp
  have HB := pUnit_b (E := E) hp (fun h => hB _ h)
  unfold pPart
  have hS : ∀ q r, q ≤ L.length → sPart E L q = some r → beginsI (kd L q) = true ∧ r = pUnit E L q := by
    intro q r _ hs
    unfold sPart at hs
    split at hs
    · rename_i hb; simp only [Option.some.injEq] at hs; exact ⟨hb, hs.symm⟩
    · cases hs
  generalize hr : pUnit E L p = r at *
  obtain ⟨ok, f, q⟩ := r
  cases ok with
  | false => exact ⟨fun h => by simp at h, H.bad, fun h => by simp at h⟩
  | true =>
    simp only [if_true]
    have hq := HB.le
    have hpq := HB.ge
    simp only at hq hpq
    refine pMany_aum' hM (lo := p) (f0 := folU) ?_ ?_ ?_ _ _ _ _ hpq hq (Nat.le_refl _) H
    · intro q r _ hql hs
      obtain ⟨hb, rfl⟩ := hS q r hql hs
      have G := pUnit_b (E := E) (p := q) hql (fun h => hB _ h)
      exact ⟨begins_lt hb, fun h => ⟨G.lt h, G.le⟩⟩
    · intro q r hlo hql _ hs
      obtain ⟨hb, rfl⟩ := hS q r hql hs
      have G := hU q hlo hql
      exact ⟨fun h o ho => by rw [mach_begin hM hb ho]; exact G.good h o ho, fun h o ho => by rw [mach_begin hM hb ho]; exact G.bad h o ho, G.fol⟩
    · intro q hql hf hs
      refine ⟨hf, ?_⟩
      unfold sPart at hs
      split at hs
      · cases hs
      · rename_i hb; simpa using hb
theorem pExprS_aum {E : Nat → PR} {L : List Mk} (hM : Mach L PL pc) {p : Nat} (hp : p ≤ L.length) (hB : ∀ q, q ≤ L.length → PB L q (E q)) (hU : ∀ q, p ≤ q → q ≤ L.length → AuM L PL pc q (pPart E L q) folP) : AuM L PL pc p (pExprS E L p) folE := by
  have H := hU p (Nat.le_refl _) hp
  have HB := pPart_b (E := E) hp (fun q _ h => hB q h)
  unfold pExprS
  have hS : ∀ q r, q ≤ L.length → sExpr E L q = some r → kd L q = 6 ∧ r = pPart E L (q + 1) := by
    intro q r _ hs
    unfold sExpr at hs
    split at hs
    · rename_i hb; simp only [Option.some.injEq] at hs; exact ⟨hb, hs.symm⟩
    · cases hs
  generalize hr : pPart E L p = r at *
  obtain ⟨ok, f, q⟩ := r
  cases ok with
  | false => exact ⟨fun h => by simp at h, H.bad, fun h => by simp at h⟩
  | true =>
    simp only [if_true]
    have hq := HB.le
    have hpq := HB.ge
    simp only at hq hpq
    refine pMany_aum' hM (lo := p) (f0 := folP) ?_ ?_ ?_ _ _ _ _ hpq hq (Nat.le_refl _) H
    · intro q r _ hql hs
      obtain ⟨hb, rfl⟩ := hS q r hql hs
      have hlt := kd_lt (L := L) (p := q) (by omega)
      have G := pPart_b (E := E) (p := q + 1) hlt (fun x _ h => hB x h)
      exact ⟨hlt, fun h => ⟨by have := G.lt h; omega, G.le⟩⟩
    · intro q r hlo hql _ hs
      obtain ⟨hb, rfl⟩ := hS q r hql hs
      have hlt := kd_lt (L := L) (p := q) (by omega)
      have G := hU (q + 1) (by omega) hlt
      have st : ∀ o, 0 ≤ o → PL q o false = PL (q + 1) o true := fun o ho => hM.step q o _ false _ hlt ho (by rw [hb]; exact next_bar o)
      exact ⟨fun h o ho => by rw [st _ ho]; exact G.good h o ho, fun h o ho => by rw [st _ ho]; exact G.bad h o ho, G.fol⟩
    · intro q hql hf hs
      refine ⟨hf.1, hf.2, ?_⟩
      unfold sExpr at hs
      split at hs
      · cases hs
      · assumption
theorem pExpr_aum {L : List Mk} (hM : Mach L PL pc) : ∀ (n p : Nat), p ≤ L.length → L.length - p < n → AuM L PL pc p (pExpr L n p) folE
  | 0, p, _, h => by omega
  | n + 1, p, hp, h => by
    have hB : ∀ q, q ≤ L.length → PB L q (pExpr L n q) := fun q hq => pExpr_b L n q hq
    have hU : ∀ q, p ≤ q → q ≤ L.length → AuM L PL pc q (pUnit (pExpr L n) L q) folU := fun q hpq hq =>
      pUnit_aum hM (pAtom_aum hM hq (fun h => hB _ h) (fun h2 => pExpr_aum hM n (q + 1) h2 (by omega)))
    exact pExprS_aum hM hp hB (fun q hpq hq => pPart_aum hM hq hB (fun x hx hx2 => hU x (by omega) hx2))
end
end Go.Proofs.YtkmjmfcanlknjaaGreat
namespace Go.Proofs.YtkmjmfcanlknjaaGreat
open Go.RowKit

/-! ### plain: the marks of a longer text, and of a text cut off where a mark begins -/
theorem nextM_same (s s' : ByteArray) (k E : Nat) (hz : (nextM s k).k ≠ 0) (hE : E = (nextM s k).p + (nextM s k).t.size) (hle : E ≤ s'.size) (hbt : ∀ i, i < E → bt s' i = bt s i)
    (hex : s'.extract (nextM s k).p E = s.extract (nextM s k).p E) (hmax : (nextM s k).k ≤ 3 → E < s'.size → innerI (bt s' E) = false) : nextM s' k = nextM s k := by
  have M := mfacts s k hz
  have h1 := M.one
  have h3 := M.ge
  have hsk : skipTo s' k = (nextM s k).p := by
    rw [skipTo_run s' k ((nextM s k).p - k) (by omega) (fun j hj => by
      rw [hbt _ (by omega)]; exact M.blanks _ (by omega) (by omega)), show k + ((nextM s k).p - k) = (nextM s k).p from by omega]
    refine skipTo_no _ _ (by omega) ?_
    rw [hbt _ (by omega)]
    refine kindI_blank _ ?_
    rw [M.first]; exact hz
  have e4 : endM s' (nextM s k).p = E := by
    unfold endM
    rw [hbt _ (by omega), M.first]
    by_cases h4 : (nextM s k).k ≤ 3
    · rw [if_pos h4]
      have hr := wordTo_run' s' ((nextM s k).p + 1) ((nextM s k).t.size - 1) (by omega) (fun j hj => by
        rw [hbt _ (by omega), show (nextM s k).p + 1 + j = (nextM s k).p + (1 + j) from by omega, ← M.bts _ (by omega)]
        exact M.word h4 _ (by omega))
      rw [hr, show (nextM s k).p + 1 + ((nextM s k).t.size - 1) = E from by omega]
      by_cases hq : E < s'.size
      · exact wordTo_no _ _ hq (hmax h4 hq)
      · exact wordTo_end _ _ (by omega)
    · rw [if_neg h4]
      have := M.sign (by omega)
      omega
  have e6 : nextM s' k = ⟨kindI (bt s' (nextM s k).p), (nextM s k).p, s'.extract (nextM s k).p (endM s' (nextM s k).p)⟩ := by
    conv => lhs; unfold nextM markAt
    rw [hsk, if_pos ⟨by omega, by rw [hbt _ (by omega), M.first]; exact hz⟩]; rfl
  rw [e6, e4, hbt _ (by omega), M.first, hex, hE, M.piece]

theorem skip_max (s : ByteArray) : ∀ (n a : Nat), s.size - a = n → skipTo s a < s.size → blankI (bt s (skipTo s a)) = false := by
  intro n
  induction n with
  | zero => intro a h h2; rw [skipTo_end s a (by omega)] at h2; omega
  | succ n ih =>
    intro a h h2
    have hl : a < s.size := by omega
    by_cases hb : blankI (bt s a) = true
    · rw [skipTo_yes s a hl hb] at h2 ⊢; exact ih (a + 1) (by omega) h2
    · rw [skipTo_no s a hl (by simpa using hb)]; simpa using hb
theorem cut_ext (s s' : ByteArray) (hlt : s.size < s'.size) (hbt : ∀ i, i < s.size → bt s' i = bt s i) (hex : ∀ a b, b ≤ s.size → s'.extract a b = s.extract a b) (hsp : innerI (bt s' s.size) = false) :
    ∀ (n k : Nat), k ≤ s.size → s.size - k ≤ n → ∃ M b, cut s' k = ((cut s k).1 ++ M, b) ∧ ((cut s k).2 < s.size → M = [] ∧ b = (cut s k).2)
  | n, k, hk, hn => by
    by_cases hz : (nextM s k).k = 0
    · rw [cut_none s k hk hz]
      refine ⟨(cut s' k).1, (cut s' k).2, rfl, fun h => ?_⟩
      simp only [nextM_p] at h ⊢
      have hsk : skipTo s' k = skipTo s k := by
        rw [skipTo_run s' k (skipTo s k - k) (by have := skipTo_ge s k; omega) (fun j hj => by
          rw [hbt _ (by omega)]; exact (skip_blank s _ k (k + j) rfl (by omega) (by omega)).1), show k + (skipTo s k - k) = skipTo s k from by have := skipTo_ge s k; omega]
        refine skipTo_no _ _ (by omega) ?_
        rw [hbt _ h]
        exact skip_max s _ k rfl h
      have hz2 : (nextM s' k).k = 0 := by
        have e : (nextM s k).k = 0 := hz
        unfold nextM markAt at e ⊢
        rw [hsk, hbt _ h]
        split
        · rename_i hc
          rw [if_pos ⟨h, hc.2⟩] at e
          exact e
        · rfl
      rw [cut_none s' k (by omega) hz2, nextM_p, hsk]
      exact ⟨rfl, rfl⟩
    · have M := mfacts s k hz
      have h1 := M.one
      have h2 := M.le
      have h3 := M.ge
      have hnm : nextM s' k = nextM s k := by
        refine nextM_same s s' k _ hz rfl (by omega) (fun i hi => hbt i (by omega)) (hex _ _ h2) (fun h4 _ => ?_)
        by_cases hq : (nextM s k).p + (nextM s k).t.size < s.size
        · rw [hbt _ hq]; exact M.max h4 hq
        · rw [show (nextM s k).p + (nextM s k).t.size = s.size from by omega]; exact hsp
      cases n with
      | zero => omega
      | succ n =>
        obtain ⟨N, b, e, hb⟩ := cut_ext s s' hlt hbt hex hsp n ((nextM s k).p + (nextM s k).t.size) h2 (by omega)
        refine ⟨N, b, ?_, ?_⟩
        · rw [cut_some s' k (by omega) (by rw [hnm]; exact hz), hnm, e, cut_some s k hk hz]; rfl
        · rw [cut_some s k hk hz]; exact hb

theorem cut_at (s : ByteArray) : ∀ (n k p : Nat) (m : Mk), k ≤ s.size → s.size - k ≤ n → (cut s k).1[p]? = some m → k ≤ m.p ∧ m.p ≤ s.size ∧ cut (s.extract 0 m.p) k = ((cut s k).1.take p, m.p)
  | n, k, p, m, hk, hn, hm => by
    by_cases hz : (nextM s k).k = 0
    · rw [cut_none s k hk hz] at hm; simp at hm
    · have M := mfacts s k hz
      have h1 := M.one
      have h2 := M.le
      have h3 := M.ge
      rw [cut_some s k hk hz] at hm ⊢
      have hbt : ∀ q, q ≤ s.size → ∀ i, i < q → bt (s.extract 0 q) i = bt s i := fun q hq i hi => by
        have := bt_extract s 0 q i hq (by omega)
        rwa [Nat.zero_add] at this
      cases p with
      | zero =>
        simp only [List.getElem?_cons_zero, Option.some.injEq] at hm
        subst hm
        refine ⟨h3, by omega, ?_⟩
        have hbl : ∀ q, k ≤ q → q < (nextM s k).p → blankI (bt s q) = true := M.blanks
        clear M
        generalize (nextM s k).t.size = z at *
        have e0 : (nextM s k :: (cut s ((nextM s k).p + z)).1).take 0 = [] := rfl
        rw [e0]
        generalize (nextM s k).p = a at *
        clear e0 hz
        have hts : (s.extract 0 a).size = a := by rw [ByteArray.size_extract]; omega
        have hsk : skipTo (s.extract 0 a) k = a := by
          rw [skipTo_run _ k (a - k) (by omega) (fun j hj => by
            rw [hbt _ (by omega) _ (by omega)]; exact hbl _ (by omega) (by omega)), show k + (a - k) = a from by omega]
          exact skipTo_end _ _ (by omega)
        have hz2 : (nextM (s.extract 0 a) k).k = 0 := by
          unfold nextM markAt; rw [hsk, if_neg (by omega)]
        rw [cut_none _ k (by omega) hz2, nextM_p, hsk]
      | succ p =>
        simp only [List.getElem?_cons_succ] at hm
        cases n with
        | zero => omega
        | succ n =>
          obtain ⟨i1, hmp, i2⟩ := cut_at s n _ p m h2 (by omega) hm
          have hts : (s.extract 0 m.p).size = m.p := by rw [ByteArray.size_extract]; omega
          have hnm : nextM (s.extract 0 m.p) k = nextM s k := by
            refine nextM_same s _ k _ hz rfl (by omega) (fun i hi => hbt _ hmp i (by omega)) (extract_pre s _ _ _ (by omega)) (fun h4 hq => ?_)
            rw [hbt _ hmp _ (by omega)]; exact M.max h4 (by omega)
          refine ⟨by omega, hmp, ?_⟩
          rw [cut_some _ k (by omega) (by rw [hnm]; exact hz), hnm, i2]; rfl
end Go.Proofs.YtkmjmfcanlknjaaGreat
namespace Go.Proofs.YtkmjmfcanlknjaaGreat
open Go.RowKit

/-! ### plain: two lists of marks that agree up to a place are read alike up to it -/
def Ag (L L' : List Mk) (m : Nat) : Prop := ∀ i, i < m → kd L i = kd L' i ∧ tx L i = tx L' i
def EAg (E E' : Nat → PR) (L L' : List Mk) (m p0 : Nat) : Prop := ∀ q, p0 < q → q ≤ L.length → q ≤ L'.length → (E q).p < m → E' q = E q
def EB (E : Nat → PR) (L : List Mk) (p0 : Nat) : Prop := ∀ q, p0 < q → q ≤ L.length → PB L q (E q)
theorem pAtom_ag {E E' : Nat → PR} {L L' : List Mk} {m p0 p : Nat} (hA : Ag L L' m) (hE : EAg E E' L L' m p0) (hB : EB E L p0) (hp : p0 ≤ p) (h : (pAtom E L p).p < m) : pAtom E' L' p = pAtom E L p := by
  cases hb : beginsI (kd L p) with
  | false =>
    have e : pAtom E L p = ⟨false, .nil, p⟩ := by unfold pAtom; rw [if_neg (by simp [hb])]
    rw [e] at h ⊢
    simp only at h
    have hk := (hA p h).1
    unfold pAtom; rw [← hk, if_neg (by simp [hb])]
  | true =>
    have hlt := begins_lt hb
    have hge : p < m := by
      have := (pAtom_b (E := E) (L := L) (p := p) (by omega) (fun h => hB _ (by omega) h)).ge
      omega
    obtain ⟨hk, ht⟩ := hA p hge
    have hlt' : p < L'.length := begins_lt (by rw [← hk]; exact hb)
    have HE := hE (p + 1) (by omega) (by omega) (by omega)
    unfold pAtom at h ⊢
    rw [if_pos hb] at h
    rw [← hk, ← ht, if_pos hb, if_pos hb]
    split
    · rfl
    · rename_i h1
      rw [if_neg h1] at h
      split
      · rfl
      · rename_i h2
        rw [if_neg h2] at h
        split
        · rfl
        · rename_i h3
          rw [if_neg h3] at h
          have hx : (E (p + 1)).p < m := by
            split at h
            · split at h
              · simp only at h; omega
              · exact h
            · exact h
          rw [HE hx, ← (hA _ hx).1]
theorem pSuf_geA {L : List Mk} : ∀ (a p : Nat) (f : Fo), p ≤ (pSuf L a p f).p
  | 0, p, f => Nat.le_refl _
  | a + 1, p, f => by
    unfold pSuf
    split
    · exact Nat.le_refl _
    · have := pSuf_geA (L := L) a (p + 1) (.cons ⟨sufK (kd L p), ⟨#[]⟩, 1⟩ f .nil); omega
theorem pSuf_ag {L L' : List Mk} {m : Nat} (hA : Ag L L' m) : ∀ (a b p : Nat) (f : Fo), L.length - p ≤ a → L'.length - p ≤ b → (pSuf L a p f).p < m → pSuf L' b p f = pSuf L a p f
  | 0, b, p, f, ha, hb, h => by
    have hpm : p < m := h
    have hk := (hA p hpm).1
    rw [kd_none (by omega)] at hk
    cases b with
    | zero => rfl
    | succ b => show (if sufK (kd L' p) = 0 then _ else _) = _; rw [← hk]; rfl
  | a + 1, b, p, f, ha, hb, h => by
    have hpm : p < m := by have := pSuf_geA (L := L) (a + 1) p f; omega
    have hk := (hA p hpm).1
    unfold pSuf at h
    by_cases hs : sufK (kd L p) = 0
    · have e : pSuf L (a + 1) p f = ⟨true, f, p⟩ := by unfold pSuf; rw [if_pos hs]
      rw [e]
      cases b with
      | zero => rfl
      | succ b => unfold pSuf; rw [← hk, if_pos hs]
    · rw [if_neg hs] at h
      have e : pSuf L (a + 1) p f = pSuf L a (p + 1) (.cons ⟨sufK (kd L p), ⟨#[]⟩, 1⟩ f .nil) := by
        conv => lhs; unfold pSuf
        rw [if_neg hs]
      have hlt' : p < L'.length := sufK_lt (by rw [← hk]; exact hs)
      cases b with
      | zero => omega
      | succ b =>
        have e' : pSuf L' (b + 1) p f = pSuf L' b (p + 1) (.cons ⟨sufK (kd L p), ⟨#[]⟩, 1⟩ f .nil) := by
          conv => lhs; unfold pSuf
          rw [← hk, if_neg hs]
        rw [e, e']
        exact pSuf_ag hA a b (p + 1) _ (by omega) (by omega) h
theorem pUnit_ag {E E' : Nat → PR} {L L' : List Mk} {m p0 p : Nat} (hA : Ag L L' m) (hE : EAg E E' L L' m p0) (hB : EB E L p0) (hp : p0 ≤ p) (h : (pUnit E L p).p < m) : pUnit E' L' p = pUnit E L p := by
  unfold pUnit at h ⊢
  cases hok : (pAtom E L p).ok with
  | true =>
    rw [hok, if_pos rfl] at h
    have hx : (pAtom E L p).p < m := by have := pSuf_geA (L := L) (L.length - (pAtom E L p).p) (pAtom E L p).p (pAtom E L p).f; omega
    rw [pAtom_ag hA hE hB hp hx, hok, if_pos rfl, if_pos rfl]
    exact pSuf_ag hA _ _ _ _ (Nat.le_refl _) (Nat.le_refl _) h
  | false =>
    rw [hok, if_neg (by simp)] at h
    rw [pAtom_ag hA hE hB hp h, hok, if_neg (by simp), if_neg (by simp)]
/-- what a step of a loop must keep -/
structure StAg (S S' : Nat → Option PR) (L L' : List Mk) (m p0 : Nat) : Prop where
  no : ∀ q, p0 ≤ q → q < m → S q = none → S' q = none
  yes : ∀ q r, p0 ≤ q → q < m → S q = some r → r.p < m → S' q = some r
  lt : ∀ q r, p0 ≤ q → S q = some r → q < L.length ∧ q ≤ r.p ∧ (r.ok = true → q < r.p)
  lt' : ∀ q r, p0 ≤ q → S' q = some r → q < L'.length
theorem pMany_geA {S S' : Nat → Option PR} {L L' : List Mk} {m p0 : Nat} {k : Int} (H : StAg S S' L L' m p0) : ∀ (a p : Nat) (f : Fo) (n : Nat), p0 ≤ p → p ≤ (pMany S k a p f n).p
  | 0, p, f, n, _ => Nat.le_refl _
  | a + 1, p, f, n, hp => by
    unfold pMany
    cases hs : S p with
    | none => exact Nat.le_refl _
    | some r =>
      obtain ⟨h1, h2, h3⟩ := H.lt p r hp hs
      simp only
      split
      · have := pMany_geA (k := k) H a r.p (f.app r.f) (n + 1) (by omega); omega
      · exact h2
theorem pMany_ag {S S' : Nat → Option PR} {L L' : List Mk} {m p0 : Nat} {k : Int} (H : StAg S S' L L' m p0) : ∀ (a b p : Nat) (f : Fo) (n : Nat), p0 ≤ p → L.length - p ≤ a → L'.length - p ≤ b → (pMany S k a p f n).p < m → pMany S' k b p f n = pMany S k a p f n
  | 0, b, p, f, n, hp, ha, hb, h => by
    have hpm : p < m := h
    have hn : S p = none := by
      cases hs : S p with
      | none => rfl
      | some r => have := (H.lt p r hp hs).1; omega
    have hn' := H.no p hp hpm hn
    cases b with
    | zero => rfl
    | succ b => unfold pMany; rw [hn']
  | a + 1, b, p, f, n, hp, ha, hb, h => by
    have hpm : p < m := by have := pMany_geA (k := k) H (a + 1) p f n hp; omega
    cases hs : S p with
    | none =>
      have e : pMany S k (a + 1) p f n = ⟨true, wrapF k n f, p⟩ := by unfold pMany; rw [hs]
      have hn' := H.no p hp hpm hs
      rw [e]
      cases b with
      | zero => rfl
      | succ b => unfold pMany; rw [hn']
    | some r =>
      obtain ⟨h1, h2, h3⟩ := H.lt p r hp hs
      have e : pMany S k (a + 1) p f n = if r.ok then pMany S k a r.p (f.app r.f) (n + 1) else r := by
        conv => lhs; unfold pMany
        rw [hs]
      rw [e] at h ⊢
      have hrm : r.p < m := by
        split at h
        · have := pMany_geA (k := k) H a r.p (f.app r.f) (n + 1) (by omega); omega
        · exact h
      have hs' := H.yes p r hp hpm hs hrm
      have hl' := H.lt' p r hp hs'
      cases b with
      | zero => omega
      | succ b =>
        have e' : pMany S' k (b + 1) p f n = if r.ok then pMany S' k b r.p (f.app r.f) (n + 1) else r := by
          conv => lhs; unfold pMany
          rw [hs']
        rw [e']
        split
        · rename_i hok
          have := h3 hok
          rw [if_pos hok] at h
          exact pMany_ag H a b r.p _ _ (by omega) (by omega) (by omega) h
        · rfl
theorem sPart_ag {E E' : Nat → PR} {L L' : List Mk} {m p0 : Nat} (hA : Ag L L' m) (hE : EAg E E' L L' m p0) (hB : EB E L p0) : StAg (sPart E L) (sPart E' L') L L' m p0 := by
  refine ⟨fun q hq hm hs => ?_, fun q r hq hm hs hr => ?_, fun q r hq hs => ?_, fun q r hq hs => ?_⟩
  · unfold sPart at hs ⊢
    rw [← (hA q hm).1]
    split at hs
    · cases hs
    · rename_i hb; rw [if_neg hb]
  · unfold sPart at hs ⊢
    rw [← (hA q hm).1]
    split at hs
    · rename_i hb
      simp only [Option.some.injEq] at hs
      subst hs
      rw [if_pos hb, pUnit_ag hA hE hB hq hr]
    · cases hs
  · unfold sPart at hs
    split at hs
    · rename_i hb
      simp only [Option.some.injEq] at hs
      subst hs
      have hlt := begins_lt hb
      have G := pUnit_b (E := E) (L := L) (p := q) (by omega) (fun h => hB _ (by omega) h)
      exact ⟨hlt, G.ge, G.lt⟩
    · cases hs
  · unfold sPart at hs
    split at hs
    · rename_i hb; exact begins_lt hb
    · cases hs
theorem pPart_ag {E E' : Nat → PR} {L L' : List Mk} {m p0 p : Nat} (hA : Ag L L' m) (hE : EAg E E' L L' m p0) (hB : EB E L p0) (hp : p0 ≤ p) (hpl : p ≤ L.length) (h : (pPart E L p).p < m) : pPart E' L' p = pPart E L p := by
  have H := sPart_ag hA hE hB
  have G := pUnit_b (E := E) (L := L) (p := p) hpl (fun h => hB _ (by omega) h)
  have g := G.ge
  unfold pPart at h ⊢
  cases hok : (pUnit E L p).ok with
  | true =>
    rw [hok, if_pos rfl] at h
    have hx : (pUnit E L p).p < m := by
      have := pMany_geA (k := 4) H (L.length - (pUnit E L p).p) (pUnit E L p).p (pUnit E L p).f 1 (by omega); omega
    rw [pUnit_ag hA hE hB hp hx, hok, if_pos rfl, if_pos rfl]
    exact pMany_ag H _ _ _ _ _ (by omega) (Nat.le_refl _) (Nat.le_refl _) h
  | false =>
    rw [hok, if_neg (by simp)] at h
    rw [pUnit_ag hA hE hB hp h, hok, if_neg (by simp), if_neg (by simp)]
theorem sExpr_ag {E E' : Nat → PR} {L L' : List Mk} {m p0 : Nat} (hA : Ag L L' m) (hE : EAg E E' L L' m p0) (hB : EB E L p0) : StAg (sExpr E L) (sExpr E' L') L L' m p0 := by
  refine ⟨fun q hq hm hs => ?_, fun q r hq hm hs hr => ?_, fun q r hq hs => ?_, fun q r hq hs => ?_⟩
  · unfold sExpr at hs ⊢
    rw [← (hA q hm).1]
    split at hs
    · cases hs
    · rename_i hb; rw [if_neg hb]
  · unfold sExpr at hs ⊢
    rw [← (hA q hm).1]
    split at hs
    · rename_i hb
      simp only [Option.some.injEq] at hs
      subst hs
      have hlt : q < L.length := kd_lt (by omega)
      rw [if_pos hb, pPart_ag hA hE hB (by omega) (by omega) hr]
    · cases hs
  · unfold sExpr at hs
    split at hs
    · rename_i hb
      simp only [Option.some.injEq] at hs
      subst hs
      have hlt : q < L.length := kd_lt (by omega)
      have G := pPart_b (E := E) (L := L) (p := q + 1) (by omega) (fun x h1 h2 => hB _ (by omega) h2)
      exact ⟨hlt, by have := G.ge; omega, fun _ => by have := G.ge; omega⟩
    · cases hs
  · unfold sExpr at hs
    split at hs
    · rename_i hb; exact kd_lt (by omega)
    · cases hs
theorem pExprS_ag {E E' : Nat → PR} {L L' : List Mk} {m p : Nat} (hA : Ag L L' m) (hE : EAg E E' L L' m p) (hB : EB E L p) (hpl : p ≤ L.length) (h : (pExprS E L p).p < m) : pExprS E' L' p = pExprS E L p := by
  have H := sExpr_ag hA hE hB
  have G := pPart_b (E := E) (L := L) (p := p) hpl hB
  have g := G.ge
  unfold pExprS at h ⊢
  cases hok : (pPart E L p).ok with
  | true =>
    rw [hok, if_pos rfl] at h
    have hx : (pPart E L p).p < m := by
      have := pMany_geA (k := 5) H (L.length - (pPart E L p).p) (pPart E L p).p (pPart E L p).f 1 (by omega); omega
    rw [pPart_ag hA hE hB (Nat.le_refl _) hpl hx, hok, if_pos rfl, if_pos rfl]
    exact pMany_ag H _ _ _ _ _ (by omega) (Nat.le_refl _) (Nat.le_refl _) h
  | false =>
    rw [hok, if_neg (by simp)] at h
    rw [pPart_ag hA hE hB (Nat.le_refl _) hpl h, hok, if_neg (by simp), if_neg (by simp)]
theorem pExpr_ag {L L' : List Mk} {m : Nat} (hA : Ag L L' m) : ∀ (n n' p : Nat), p ≤ L.length → p ≤ L'.length → L.length - p + 1 ≤ n → L'.length - p + 1 ≤ n' → (pExpr L n p).p < m → pExpr L' n' p = pExpr L n p
  | 0, n', p, _, _, h1, _, _ => by omega
  | n + 1, 0, p, _, _, _, h2, _ => by omega
  | n + 1, n' + 1, p, hp, hp', h1, h2, h => by
    show pExprS (pExpr L' n') L' p = pExprS (pExpr L n) L p
    refine pExprS_ag hA (fun q hq a b hm => ?_) (fun q hq a => pExpr_b L n q a) hp h
    exact pExpr_ag hA n n' q a b (by omega) (by omega) hm
end Go.Proofs.YtkmjmfcanlknjaaGreat
namespace Go.Proofs.YtkmjmfcanlknjaaGreat
open Go.RowKit

/-! ### plain: the marks of a piece of a text -/
theorem ext_list (s : ByteArray) (b : Nat) : (s.extract b s.size).data.toList = s.data.toList.drop b := by
  rw [ByteArray.data_extract, Array.toList_extract, List.extract_eq_take_drop]
  exact List.take_of_length_le (by rw [List.length_drop, Array.length_toList]; exact Nat.le_refl _)
theorem bt_sh (s : ByteArray) (b i : Nat) : bt (s.extract b s.size) i = bt s (b + i) := by
  unfold bt; rw [ext_list, List.getD_eq_getElem?_getD, List.getElem?_drop, ← List.getD_eq_getElem?_getD]
theorem skip_sh (s : ByteArray) (b i : Nat) : skipTo s (b + i) = skipTo (s.extract b s.size) i + b := by
  unfold skipTo; rw [ext_list, List.drop_drop]; omega
theorem word_sh (s : ByteArray) (b i : Nat) : wordTo s (b + i) = wordTo (s.extract b s.size) i + b := by
  unfold wordTo; rw [ext_list, List.drop_drop]; omega
theorem ext_size (s : ByteArray) (b : Nat) : (s.extract b s.size).size = s.size - b := by rw [ByteArray.size_extract]; omega
def shM (b : Nat) (m : Mk) : Mk := ⟨m.k, m.p + b, m.t⟩
theorem ext_ext (s : ByteArray) (b i j : Nat) (hb : b ≤ s.size) (hj : j ≤ s.size - b) : (s.extract b s.size).extract i j = s.extract (b + i) (b + j) := by
  rw [ByteArray.extract_extract]
  congr 1
  omega
theorem mark_sh (s : ByteArray) (b a : Nat) (hb : b ≤ s.size) : markAt s (b + a) = shM b (markAt (s.extract b s.size) a) := by
  unfold markAt
  rw [bt_sh, ext_size]
  by_cases h : b + a < s.size ∧ kindI (bt s (b + a)) ≠ 0
  · rw [if_pos h, if_pos (show a < s.size - b ∧ kindI (bt s (b + a)) ≠ 0 from ⟨by omega, h.2⟩)]
    unfold shM
    have hw := wordTo_le s (b + a + 1) (by omega)
    rw [show b + a + 1 = b + (a + 1) from by omega, word_sh] at hw ⊢
    simp only [Mk.mk.injEq, true_and]
    refine ⟨by omega, ?_⟩
    rw [ext_ext _ _ _ _ hb (by split <;> omega)]
    congr 1
    split <;> omega
  · rw [if_neg h, if_neg (fun h2 => h ⟨by omega, h2.2⟩)]
    unfold shM; simp; omega
theorem next_sh (s : ByteArray) (b i : Nat) (hb : b ≤ s.size) : nextM s (b + i) = shM b (nextM (s.extract b s.size) i) := by
  unfold nextM; rw [skip_sh, show skipTo (s.extract b s.size) i + b = b + skipTo (s.extract b s.size) i from by omega, mark_sh s b _ hb]
theorem cutF_sh (s : ByteArray) (b : Nat) (hb : b ≤ s.size) : ∀ n i, cutF n s (b + i) = ((cutF n (s.extract b s.size) i).1.map (shM b), (cutF n (s.extract b s.size) i).2 + (if n = 0 then b else b))
  | 0, i => by simp [cutF]; omega
  | n + 1, i => by
    have e1 : cutF (n + 1) s (b + i) = if (nextM s (b + i)).k = 0 then ([], (nextM s (b + i)).p) else ((nextM s (b + i)) :: (cutF n s ((nextM s (b + i)).p + (nextM s (b + i)).t.size)).1, (cutF n s ((nextM s (b + i)).p + (nextM s (b + i)).t.size)).2) := rfl
    have e2 : cutF (n + 1) (s.extract b s.size) i = if (nextM (s.extract b s.size) i).k = 0 then ([], (nextM (s.extract b s.size) i).p) else ((nextM (s.extract b s.size) i) :: (cutF n (s.extract b s.size) ((nextM (s.extract b s.size) i).p + (nextM (s.extract b s.size) i).t.size)).1, (cutF n (s.extract b s.size) ((nextM (s.extract b s.size) i).p + (nextM (s.extract b s.size) i).t.size)).2) := rfl
    rw [e1, e2, next_sh s b i hb]
    generalize nextM (s.extract b s.size) i = m
    have ek : (shM b m).k = m.k := rfl
    have et : (shM b m).t = m.t := rfl
    have ep : (shM b m).p = m.p + b := rfl
    rw [ek, et, ep]
    by_cases h : m.k = 0
    · rw [if_pos h, if_pos h]; simp
    · rw [if_neg h, if_neg h, show m.p + b + m.t.size = b + (m.p + m.t.size) from by omega, cutF_sh s b hb n]
      simp
theorem cut_sh (s : ByteArray) (b i : Nat) (hb : b ≤ s.size) : cut s (b + i) = ((cut (s.extract b s.size) i).1.map (shM b), (cut (s.extract b s.size) i).2 + b) := by
  unfold cut
  rw [cutF_sh s b hb, ext_size, show s.size + 1 - (b + i) = s.size - b + 1 - i from by omega]
  simp
/-- from a mark on: the marks from there -/
theorem cut_from (s : ByteArray) : ∀ (n k p : Nat) (m : Mk), k ≤ s.size → s.size - k ≤ n → (cut s k).1[p]? = some m → cut s m.p = ((cut s k).1.drop p, (cut s k).2)
  | n, k, p, m, h, hn, hm => by
    by_cases hz : (nextM s k).k = 0
    · rw [cut_none s k h hz] at hm; simp at hm
    · have hc := cut_some s k h hz
      have hs := nextM_size s k hz
      rw [hc] at hm
      cases p with
      | zero =>
        simp only [List.getElem?_cons_zero, Option.some.injEq] at hm
        subst hm
        have e : nextM s (nextM s k).p = nextM s k := by
          rw [nextM_p]
          unfold nextM
          have h1 : skipTo s (skipTo s k) = skipTo s k := by
            have hlt : skipTo s k < s.size := by rw [← nextM_p]; omega
            exact skipTo_no s _ hlt (skip_max s _ k rfl hlt)
          rw [h1]
        have hp : (nextM s k).p ≤ s.size := by omega
        rw [cut_some s (nextM s k).p hp (by rw [e]; exact hz), e, hc]; rfl
      | succ p =>
        simp only [List.getElem?_cons_succ] at hm
        cases n with
        | zero => omega
        | succ n =>
          rw [cut_from s n _ p m hs.2.1 (by omega) hm, hc]; rfl
/-- the place of a mark, or of what stands behind all -/
def plN (L : List Mk) (en : Nat) (p : Nat) : Nat := match L[p]? with | some m => m.p | none => en
theorem plN_plc (L : List Mk) (en p : Nat) : plc L (en : Int) p = (plN L en p : Int) := by unfold plc plN; cases L[p]? <;> rfl
theorem cut_empty (s : ByteArray) (h : s.size = 0) : cut s 0 = ([], 0) := by have := cut_end s; rw [h] at this; exact this
/-- the marks of the piece from the mark p to the mark p + n -/
theorem cut_piece (s : ByteArray) (p n : Nat) (hp : p + n ≤ (cut s 0).1.length) :
    plN (cut s 0).1 (cut s 0).2 p ≤ plN (cut s 0).1 (cut s 0).2 (p + n) ∧ plN (cut s 0).1 (cut s 0).2 (p + n) ≤ s.size ∧
    (cut (s.extract (plN (cut s 0).1 (cut s 0).2 p) (plN (cut s 0).1 (cut s 0).2 (p + n))) 0).1.map (shM (plN (cut s 0).1 (cut s 0).2 p)) = ((cut s 0).1.drop p).take n ∧
    (cut (s.extract (plN (cut s 0).1 (cut s 0).2 p) (plN (cut s 0).1 (cut s 0).2 (p + n))) 0).2 + plN (cut s 0).1 (cut s 0).2 p = plN (cut s 0).1 (cut s 0).2 (p + n) := by
  have hlen := cut_len s s.size 0 (by omega) (by omega)
  have h1 : plN (cut s 0).1 (cut s 0).2 (p + n) ≤ s.size ∧ cut (s.extract 0 (plN (cut s 0).1 (cut s 0).2 (p + n))) 0 = ((cut s 0).1.take (p + n), plN (cut s 0).1 (cut s 0).2 (p + n)) := by
    cases hm : (cut s 0).1[p + n]? with
    | some m =>
      have := cut_at s s.size 0 (p + n) m (by omega) (by omega) hm
      unfold plN; rw [hm]; exact this.2
    | none =>
      have hl := List.getElem?_eq_none_iff.1 hm
      have e := cut_pre s s.size 0 (cut s 0).2 (by omega) (by omega) rfl
      unfold plN; rw [hm]; exact ⟨hlen.2.2, by rw [e, List.take_of_length_le hl]⟩
  generalize hc : plN (cut s 0).1 (cut s 0).2 (p + n) = c at *
  generalize ha : plN (cut s 0).1 (cut s 0).2 p = a at *
  obtain ⟨hcs, h2⟩ := h1
  cases n with
  | zero =>
    rw [Nat.add_zero] at hc
    have e : a = c := by rw [← ha, ← hc]
    subst e
    have e0 : (s.extract a a).size = 0 := by rw [ByteArray.size_extract]; omega
    rw [cut_empty _ e0]
    exact ⟨Nat.le_refl _, hcs, by simp, by simp⟩
  | succ n =>
    obtain ⟨m, hm⟩ : ∃ m, (cut s 0).1[p]? = some m := ⟨_, List.getElem?_eq_getElem (by omega)⟩
    have hma : m.p = a := by rw [← ha]; unfold plN; rw [hm]
    have hsz : (s.extract 0 c).size = c := by rw [ByteArray.size_extract]; omega
    have hm2 : (cut (s.extract 0 c) 0).1[p]? = some m := by rw [h2, List.getElem?_take, if_pos (by omega)]; exact hm
    have hle := (cut_at (s.extract 0 c) (s.extract 0 c).size 0 p m (by omega) (by omega) hm2).2.1
    have hf := cut_from (s.extract 0 c) (s.extract 0 c).size 0 p m (by omega) (by omega) hm2
    rw [hma, h2] at hf
    rw [hsz, hma] at hle
    have hx : (s.extract 0 c).extract a (s.extract 0 c).size = s.extract a c := by
      rw [hsz, ByteArray.extract_extract]; congr 1 <;> omega
    have hsh := cut_sh (s.extract 0 c) a 0 (by omega)
    rw [hx, Nat.add_zero, hf] at hsh
    have k1 := congrArg (·.1) hsh
    have k2 := congrArg (·.2) hsh
    simp only at k1 k2
    refine ⟨hle, hcs, ?_, by omega⟩
    rw [← k1, List.drop_take]
    congr 1
    omega
/-! ### plain: the rules of a list of marks -/
def stopK (k : Int) : Bool := k == 4 || k == 5
def seg (L : List Mk) (p : Nat) : List Mk := (L.drop p).takeWhile fun m => !stopK m.k
theorem tw_take {α} (q : α → Bool) (l : List α) : l.takeWhile q = l.take (l.takeWhile q).length := by
  induction l with
  | nil => rfl
  | cons x l ih =>
    by_cases h : q x = true
    · rw [List.takeWhile_cons_of_pos h]; simp only [List.length_cons, List.take_succ_cons]; rw [← ih]
    · rw [List.takeWhile_cons_of_neg h]; rfl
theorem seg_le (L : List Mk) (p : Nat) (hp : p ≤ L.length) : p + (seg L p).length ≤ L.length := by
  have := tw_le (fun m : Mk => !stopK m.k) (L.drop p)
  rw [List.length_drop] at this
  unfold seg; omega
theorem seg_take (L : List Mk) (p : Nat) : seg L p = (L.drop p).take (seg L p).length := tw_take _ _
theorem seg_get (L : List Mk) (p i : Nat) (h : i < (seg L p).length) : (seg L p)[i]? = L[p + i]? := by
  rw [seg_take, List.getElem?_take, if_pos h, List.getElem?_drop]
theorem seg_kd (L : List Mk) (p i : Nat) (h : i < (seg L p).length) : kd (seg L p) i = kd L (p + i) ∧ tx (seg L p) i = tx L (p + i) := by
  unfold kd tx; rw [seg_get L p i h]; exact ⟨rfl, rfl⟩
theorem tw_all {α} (q : α → Bool) (l : List α) : ∀ x ∈ l.takeWhile q, q x = true := by
  induction l with
  | nil => intro x h; cases h
  | cons y l ih =>
    intro x h
    by_cases hq : q y = true
    · rw [List.takeWhile_cons_of_pos hq] at h
      rcases List.mem_cons.1 h with rfl | h
      · exact hq
      · exact ih x h
    · rw [List.takeWhile_cons_of_neg hq] at h; cases h
theorem tw_stop {α} (q : α → Bool) (l : List α) (x : α) (h : l[(l.takeWhile q).length]? = some x) : q x = false := by
  induction l with
  | nil => simp at h
  | cons y l ih =>
    by_cases hq : q y = true
    · rw [List.takeWhile_cons_of_pos hq] at h
      simp only [List.length_cons, List.getElem?_cons_succ] at h
      exact ih h
    · rw [List.takeWhile_cons_of_neg hq] at h
      simp only [List.length_nil, List.getElem?_cons_zero, Option.some.injEq] at h
      subst h; simpa using hq
theorem seg_in (L : List Mk) (p i : Nat) (h : i < (seg L p).length) : kd L (p + i) ≠ 4 ∧ kd L (p + i) ≠ 5 := by
  obtain ⟨m, hm⟩ : ∃ m, (seg L p)[i]? = some m := ⟨_, List.getElem?_eq_getElem h⟩
  have h2 := tw_all _ _ m (List.mem_of_getElem? hm)
  rw [seg_get L p i h] at hm
  rw [kd_some hm]
  simp [stopK] at h2
  exact h2
theorem seg_end (L : List Mk) (p : Nat) (h : p + (seg L p).length < L.length) : kd L (p + (seg L p).length) = 4 ∨ kd L (p + (seg L p).length) = 5 := by
  obtain ⟨m, hm⟩ : ∃ m, L[p + (seg L p).length]? = some m := ⟨_, List.getElem?_eq_getElem h⟩
  have h2 := tw_stop (fun m : Mk => !stopK m.k) (L.drop p) m (by rw [List.getElem?_drop]; exact hm)
  rw [kd_some hm]
  simp [stopK] at h2
  by_cases h4 : m.k = 4
  · exact .inl h4
  · exact .inr (h2 h4)
def bodyP (L : List Mk) (p : Nat) : PR := pExpr (seg L p) ((seg L p).length + 1) 0
theorem bodyP_b (L : List Mk) (p : Nat) : PB (seg L p) 0 (bodyP L p) := pExpr_b _ _ _ (Nat.zero_le _)
def ruleP (L : List Mk) (p : Nat) : Option Ru × Nat :=
  if kd L p ≠ 1 then (none, p)
  else if kd L (p + 1) ≠ 4 then (none, p + 1)
  else if (bodyP L (p + 2)).ok = true ∧ (bodyP L (p + 2)).p = (seg L (p + 2)).length ∧ kd L (p + 2 + (seg L (p + 2)).length) = 5 then (some ⟨tx L p, (bodyP L (p + 2)).f.flat⟩, p + 2 + (seg L (p + 2)).length + 1)
  else (none, p + 2 + (bodyP L (p + 2)).p)
structure GR where
  ok : Bool
  g : List Ru
  p : Nat
def rulesP (L : List Mk) : Nat → Nat → List Ru → GR
  | 0, p, g => ⟨true, g, p⟩
  | n + 1, p, g => match ruleP L p with
    | (none, q) => ⟨false, [], q⟩
    | (some r, q) => if q < L.length then rulesP L n q (g ++ [r]) else ⟨true, g ++ [r], q⟩
def gParsed (s : ByteArray) : GR := rulesP (cut s 0).1 ((cut s 0).1.length + 1) 0 []
theorem ruleP_lt {L : List Mk} {p q : Nat} {r : Ru} (h : ruleP L p = (some r, q)) : p + 2 ≤ L.length ∧ p + 3 ≤ q ∧ q ≤ L.length := by
  unfold ruleP at h
  split at h
  · cases h
  · split at h
    · cases h
    · split at h
      · rename_i h1 h2 h3
        have k1 := kd_lt (L := L) (p := p + 1) (by omega)
        have k2 := kd_lt (L := L) (p := p + 2 + (seg L (p + 2)).length) (by omega)
        simp only [Prod.mk.injEq, Option.some.injEq] at h
        omega
      · cases h
/-- what is answered of a piece between marks -/
theorem read_piece (s : ByteArray) (p : Nat) (hp : p ≤ (cut s 0).1.length) (hs : s.size ≤ 2048) :
    readS (s.extract (plN (cut s 0).1 (cut s 0).2 p) (plN (cut s 0).1 (cut s 0).2 (p + (seg (cut s 0).1 p).length))) =
      if (bodyP (cut s 0).1 p).ok = true ∧ (bodyP (cut s 0).1 p).p = (seg (cut s 0).1 p).length then ((bodyP (cut s 0).1 p).f.flat, 0, 0)
      else ([], (plN (cut s 0).1 (cut s 0).2 (p + (bodyP (cut s 0).1 p).p) : Int) - (plN (cut s 0).1 (cut s 0).2 p : Int), 172) := by
  obtain ⟨h1, h2, h3, h4⟩ := cut_piece s p (seg (cut s 0).1 p).length (seg_le _ _ hp)
  rw [← seg_take] at h3
  have hb := (bodyP_b (cut s 0).1 p).le
  have hplq : ∀ i, i ≤ (seg (cut s 0).1 p).length → plc (cut (s.extract (plN (cut s 0).1 (cut s 0).2 p) (plN (cut s 0).1 (cut s 0).2 (p + (seg (cut s 0).1 p).length))) 0).1 (cut (s.extract (plN (cut s 0).1 (cut s 0).2 p) (plN (cut s 0).1 (cut s 0).2 (p + (seg (cut s 0).1 p).length))) 0).2 i = (plN (cut s 0).1 (cut s 0).2 (p + i) : Int) - (plN (cut s 0).1 (cut s 0).2 p : Int) := by
    intro i hi
    by_cases hlt : i < (seg (cut s 0).1 p).length
    · have e := seg_get (cut s 0).1 p i hlt
      rw [← h3, List.getElem?_map] at e
      obtain ⟨m, hm⟩ : ∃ m, (cut s 0).1[p + i]? = some m := ⟨_, List.getElem?_eq_getElem (by have := seg_le (cut s 0).1 p hp; omega)⟩
      rw [hm] at e
      obtain ⟨m', hm', rfl⟩ := Option.map_eq_some_iff.1 e
      unfold plc
      rw [hm']
      have : plN (cut s 0).1 (cut s 0).2 (p + i) = m'.p + plN (cut s 0).1 (cut s 0).2 p := by
        conv => lhs; unfold plN
        rw [hm]; rfl
      rw [this]; simp
    · obtain rfl : i = (seg (cut s 0).1 p).length := by omega
      have hl : (cut (s.extract (plN (cut s 0).1 (cut s 0).2 p) (plN (cut s 0).1 (cut s 0).2 (p + (seg (cut s 0).1 p).length))) 0).1.length = (seg (cut s 0).1 p).length := by have := congrArg List.length h3; rw [List.length_map] at this; exact this
      unfold plc
      rw [List.getElem?_eq_none (by omega)]
      simp only
      omega
  generalize hpc : s.extract (plN (cut s 0).1 (cut s 0).2 p) (plN (cut s 0).1 (cut s 0).2 (p + (seg (cut s 0).1 p).length)) = pc at *
  have hsz : pc.size = plN (cut s 0).1 (cut s 0).2 (p + (seg (cut s 0).1 p).length) - plN (cut s 0).1 (cut s 0).2 p := by rw [← hpc, ByteArray.size_extract]; omega
  have hpar : parsed pc = bodyP (cut s 0).1 p := by
    have hl : (cut pc 0).1.length = (seg (cut s 0).1 p).length := by rw [← h3, List.length_map]
    have hag : Ag (seg (cut s 0).1 p) (cut pc 0).1 ((seg (cut s 0).1 p).length + 1) := by
      intro i _
      unfold kd tx
      rw [← h3, List.getElem?_map]
      cases (cut pc 0).1[i]? <;> exact ⟨rfl, rfl⟩
    exact pExpr_ag hag ((seg (cut s 0).1 p).length + 1) ((cut pc 0).1.length + 1) 0 (by omega) (by omega) (by omega) (by omega) (by unfold bodyP at hb; omega)
  have hl : (cut pc 0).1.length = (seg (cut s 0).1 p).length := by rw [← h3, List.length_map]
  unfold readS
  rw [if_neg (by omega), hpar, hl, hplq _ hb]
  by_cases hc : (bodyP (cut s 0).1 p).ok = true ∧ (bodyP (cut s 0).1 p).p = (seg (cut s 0).1 p).length
  · rw [if_pos ⟨hc.1, hc.2, by omega⟩, if_pos hc]
  · rw [if_neg (fun h => hc ⟨h.1, h.2.1⟩), if_neg hc]
/-! ### plain: the reference's walk over the marks -/
structure GW where
  pt : Int
  o : Int
  w : Bool
  s : Bool
def nextG (g : GW) (k : Int) : GW × Bool :=
  if g.pt = 0 then (⟨1, 0, false, false⟩, k == 1)
  else if g.pt = 1 then (⟨2, 0, true, false⟩, k == 4)
  else if k = 5 ∧ g.w = false ∧ g.o = 0 then (⟨0, 0, false, true⟩, true)
  else (⟨2, (nextS g.o g.w k).1, (nextS g.o g.w k).2.1, false⟩, (nextS g.o g.w k).2.2)
def gF (L : List Mk) (en : Int) (bad : Bool) : Nat → Nat → GW → Int
  | 0, _, g => if bad = true ∨ g.s = false then en else -1
  | m + 1, p, g => if (nextG g (kd L p)).2 = true then gF L en bad m (p + 1) (nextG g (kd L p)).1 else plcR L en p
def gl (L : List Mk) (en : Int) (bad : Bool) (p : Nat) (g : GW) : Int := gF L en bad (L.length - p) p g
theorem gl_end {L : List Mk} {en : Int} {bad : Bool} {p : Nat} {g : GW} (hp : L.length ≤ p) (hg : g.s = false) : gl L en bad p g = plcR L en p := by
  unfold gl
  rw [show L.length - p = 0 from by omega]
  unfold gF plcR
  rw [if_pos (.inr hg), List.getElem?_eq_none hp]
theorem gl_step {L : List Mk} {en : Int} {bad : Bool} {p : Nat} {g : GW} (hp : p < L.length) : gl L en bad p g = if (nextG g (kd L p)).2 = true then gl L en bad (p + 1) (nextG g (kd L p)).1 else plcR L en p := by
  unfold gl
  rw [show L.length - p = (L.length - (p + 1)) + 1 from by omega]
  rfl
theorem nextS_stop (o : Int) (w : Bool) {k : Int} (h : k = 4 ∨ k = 5) : (nextS o w k).2.2 = false := by
  cases w
  · exact next_fol (by rcases h with rfl | rfl <;> exact ⟨by decide, by decide, by decide⟩) (fun h11 => by omega)
  · exact next_want (by rcases h with rfl | rfl <;> decide)
theorem nextG2 {o : Int} {w : Bool} {k : Int} (h : ¬ (k = 5 ∧ w = false ∧ o = 0)) : nextG ⟨2, o, w, false⟩ k = (⟨2, (nextS o w k).1, (nextS o w k).2.1, false⟩, (nextS o w k).2.2) := by
  unfold nextG
  rw [if_neg (by simp), if_neg (by simp)]
  exact if_neg h
theorem gl_mach (L : List Mk) (en : Int) (bad : Bool) (p : Nat) (hp : p ≤ L.length) :
    Mach (seg L p) (fun i o w => gl L en bad (p + i) ⟨2, o, w, false⟩) (fun i => plcR L en (p + i)) := by
  have hle := seg_le L p hp
  constructor
  · intro i o o' w w' hi ho h
    obtain ⟨n4, n5⟩ := seg_in L p i hi
    rw [(seg_kd L p i hi).1] at h
    show gl L en bad (p + i) ⟨2, o, w, false⟩ = gl L en bad (p + i + 1) ⟨2, o', w', false⟩
    rw [gl_step (by omega), nextG2 (fun h2 => n5 h2.1)]
    simp only [h, if_true]
  · intro i o w hi h1 h2
    by_cases hlt : i < (seg L p).length
    · obtain ⟨n4, n5⟩ := seg_in L p i hlt
      have h1' := h1 hlt
      rw [(seg_kd L p i hlt).1] at h1'
      show gl L en bad (p + i) ⟨2, o, w, false⟩ = _
      rw [gl_step (by omega), nextG2 (fun h2 => n5 h2.1)]
      simp only [h1', Bool.false_eq_true, if_false]
    · obtain rfl : i = (seg L p).length := by omega
      show gl L en bad (p + (seg L p).length) ⟨2, o, w, false⟩ = _
      by_cases he : p + (seg L p).length < L.length
      · have hk := seg_end L p he
        rw [gl_step he, nextG2 (by
          rintro ⟨_, hw, ho⟩
          rcases h2 with h2 | h2
          · rw [hw] at h2; cases h2
          · omega)]
        simp only [nextS_stop o w hk, Bool.false_eq_true, if_false]
      · exact gl_end (by omega) rfl
theorem gl_rule (L : List Mk) (en : Int) (bad : Bool) (p : Nat) (sm : Bool) (hp : p < L.length ∨ (p = L.length ∧ sm = false)) :
    gl L en bad p ⟨0, 0, false, sm⟩ = match ruleP L p with | (none, q) => plcR L en q | (some _, q) => gl L en bad q ⟨0, 0, false, true⟩ := by
  unfold ruleP
  by_cases h1 : kd L p = 1
  · have hlt := kd_lt (L := L) (p := p) (by omega)
    rw [if_neg (by simpa using h1)]
    have s1 : gl L en bad p ⟨0, 0, false, sm⟩ = gl L en bad (p + 1) ⟨1, 0, false, false⟩ := by
      rw [gl_step hlt, h1]; simp [nextG]
    rw [s1]
    by_cases h2 : kd L (p + 1) = 4
    · have hlt2 := kd_lt (L := L) (p := p + 1) (by omega)
      rw [if_neg (by simpa using h2)]
      have s2 : gl L en bad (p + 1) ⟨1, 0, false, false⟩ = gl L en bad (p + 2) ⟨2, 0, true, false⟩ := by
        rw [gl_step hlt2, h2]; simp [nextG]
      rw [s2]
      have hM := gl_mach L en bad (p + 2) hlt2
      have hA := pExpr_aum hM ((seg L (p + 2)).length + 1) 0 (Nat.zero_le _) (by omega)
      have hB := (bodyP_b L (p + 2)).le
      change AuM _ _ _ 0 (bodyP L (p + 2)) folE at hA
      generalize bodyP L (p + 2) = r at *
      have hle := seg_le L (p + 2) hlt2
      cases hok : r.ok with
      | false =>
        rw [if_neg (by simp)]
        exact hA.bad hok 0 (by omega)
      | true =>
        have g := hA.good hok 0 (by omega)
        have hf := hA.fol hok
        change gl L en bad (p + 2) _ = gl L en bad (p + 2 + r.p) _ at g
        rw [g]
        by_cases hrp : r.p = (seg L (p + 2)).length
        · rw [← hrp]
          by_cases h5 : kd L (p + 2 + r.p) = 5
          · rw [if_pos ⟨rfl, rfl, h5⟩]
            have hlt3 := kd_lt (L := L) (p := p + 2 + r.p) (by omega)
            rw [gl_step hlt3, h5]
            simp [nextG]
          · rw [if_neg (fun h => h5 h.2.2)]
            by_cases he : p + 2 + r.p < L.length
            · have hk := seg_end L (p + 2) (by omega)
              rw [← hrp] at hk
              rw [gl_step he, nextG2 (fun h => h5 h.1)]
              simp only [nextS_stop _ _ hk, Bool.false_eq_true, if_false]
            · exact gl_end (by omega) rfl
        · rw [if_neg (fun h => hrp h.2.1)]
          have hlt3 : r.p < (seg L (p + 2)).length := by omega
          obtain ⟨n4, n5⟩ := seg_in L (p + 2) r.p hlt3
          have e := (seg_kd L (p + 2) r.p hlt3).1
          rw [e] at hf
          rw [gl_step (by omega), nextG2 (fun h => n5 h.1)]
          simp only [next_fol hf (fun _ => by omega : kd L (p + 2 + r.p) = 11 → ¬ (0 : Int) < 0), Bool.false_eq_true, if_false]
    · rw [if_pos (by simpa using h2)]
      by_cases hlt2 : p + 1 < L.length
      · rw [gl_step hlt2]; simp [nextG, h2]
      · exact gl_end (by omega) rfl
  · rw [if_pos (by simpa using h1)]
    rcases hp with hp | ⟨hp, rfl⟩
    · rw [gl_step hp]; simp [nextG, h1]
    · exact gl_end (by omega) rfl
theorem gl_rules (L : List Mk) (en : Int) (bad : Bool) : ∀ (n p : Nat) (g : List Ru) (sm : Bool), L.length - p < n → (p < L.length ∨ (p = L.length ∧ sm = false)) →
    gl L en bad p ⟨0, 0, false, sm⟩ = if (rulesP L n p g).ok = true then (if bad = true then en else -1) else plcR L en (rulesP L n p g).p
  | 0, p, g, sm, hn, hp => by omega
  | n + 1, p, g, sm, hn, hp => by
    rw [gl_rule L en bad p sm hp]
    unfold rulesP
    cases hr : ruleP L p with
    | mk o q =>
      cases o with
      | none => simp
      | some r =>
        have hlt := ruleP_lt hr
        simp only
        by_cases hq : q < L.length
        · rw [if_pos hq]
          exact gl_rules L en bad n q (g ++ [r]) true (by omega) (.inl hq)
        · rw [if_neg hq]
          simp only [if_true]
          unfold gl
          rw [show L.length - q = 0 from by omega]
          unfold gF
          simp
theorem placeG (s : ByteArray) : gF (cut s 0).1 ((cut s 0).2 : Nat) (decide ((cut s 0).2 < s.size)) (cut s 0).1.length 0 ⟨0, 0, false, false⟩ =
    if (gParsed s).ok = true then (if (cut s 0).2 < s.size then ((cut s 0).2 : Int) else -1) else plcR (cut s 0).1 ((cut s 0).2 : Nat) (gParsed s).p := by
  have := gl_rules (cut s 0).1 ((cut s 0).2 : Nat) (decide ((cut s 0).2 < s.size)) ((cut s 0).1.length + 1) 0 [] false (by omega) (by rcases Nat.eq_zero_or_pos (cut s 0).1.length with h | h; exact .inr ⟨h.symm, rfl⟩; exact .inl h)
  have e : gl (cut s 0).1 ((cut s 0).2 : Nat) (decide ((cut s 0).2 < s.size)) 0 ⟨0, 0, false, false⟩ = gF (cut s 0).1 ((cut s 0).2 : Nat) (decide ((cut s 0).2 < s.size)) (cut s 0).1.length 0 ⟨0, 0, false, false⟩ := rfl
  rw [← e, this]
  simp only [decide_eq_true_eq]
  rfl
/-! ### plain: names that are too long -/
def longG (G : List Ru) : Bool := G.any fun r => decide (16 < r.h.size) || longN r.b
theorem longM_app (A B : List Mk) : longM (A ++ B) = (longM A || longM B) := by unfold longM; rw [List.any_append]
theorem long_list (L : List Mk) (hL : ∀ m ∈ L, (3 < m.k → m.t.size = 1) ∧ 1 ≤ m.k) (n : Nat) (h : (pExpr L n 0).ok = true) (hp : (pExpr L n 0).p = L.length) : longN (pExpr L n 0).f.flat = longM L := by
  have V := pExpr_vf L n 0
  rw [Bool.eq_iff_iff]
  unfold longN longM
  rw [List.any_eq_true, List.any_eq_true]
  constructor
  · rintro ⟨x, hx, hs⟩
    have hv := (Fo.all_flat _).1 (V.all h) x hx
    simp only [decide_eq_true_eq] at hs
    rcases hv with h1 | ⟨_, _, m, hm, _, ht⟩ | ⟨_, _, m, hm, _, ht⟩ | h1 | h1
    · rw [h1.2.1] at hs; exact absurd hs (by decide)
    · exact ⟨m, hm, by rw [← ht]; simpa using hs⟩
    · exact ⟨m, hm, by rw [← ht]; simpa using hs⟩
    · rw [h1.2.1] at hs; exact absurd hs (by decide)
    · rw [h1.2.1] at hs; exact absurd hs (by decide)
  · rintro ⟨m, hm, hs⟩
    simp only [decide_eq_true_eq] at hs
    obtain ⟨i, hi⟩ := List.getElem?_of_mem hm
    have hil := (List.getElem?_eq_some_iff.1 hi).1
    obtain ⟨c1, c2⟩ := V.cov h i (Nat.zero_le _) (by rw [hp]; exact hil)
    have hk : kd L i = m.k := kd_some hi
    have ht : tx L i = m.t := tx_some hi
    obtain ⟨m1, hr⟩ := hL m hm
    have h3 : ¬ 3 < m.k := fun h => by have := m1 h; omega
    obtain ⟨x, hx, e⟩ := c2 (by omega)
    exact ⟨x, hx, by rw [e, ht]; simpa using hs⟩
theorem drop_get {L : List Mk} {p : Nat} (h : p < L.length) : ∃ m, L[p]? = some m ∧ L.drop p = m :: L.drop (p + 1) := ⟨L[p], List.getElem?_eq_getElem h, List.drop_eq_getElem_cons h⟩
theorem long_one {m : Mk} (h : (3 < m.k → m.t.size = 1)) (hk : 3 < m.k) : longM [m] = false := by
  have := h hk
  simp [longM, this]
theorem long_rule {L : List Mk} (hL : ∀ m ∈ L, (3 < m.k → m.t.size = 1) ∧ 1 ≤ m.k) {p q : Nat} {r : Ru} (h : ruleP L p = (some r, q)) :
    longM (L.drop p) = (longG [r] || longM (L.drop q)) := by
  have hlt := ruleP_lt h
  unfold ruleP at h
  split at h
  · cases h
  · split at h
    · cases h
    · split at h
      · rename_i h1 h2 h3
        simp only [Prod.mk.injEq, Option.some.injEq] at h
        obtain ⟨rfl, rfl⟩ := h
        simp only [ne_eq, Decidable.not_not] at h1 h2
        obtain ⟨m0, g0, d0⟩ := drop_get (L := L) (p := p) (by omega)
        obtain ⟨m1, g1, d1⟩ := drop_get (L := L) (p := p + 1) (by omega)
        obtain ⟨m2, g2, d2⟩ := drop_get (L := L) (p := p + 2 + (seg L (p + 2)).length) (by omega)
        have hseg : L.drop (p + 2) = seg L (p + 2) ++ L.drop (p + 2 + (seg L (p + 2)).length) := by
          conv => lhs; rw [← List.take_append_drop (seg L (p + 2)).length (L.drop (p + 2))]
          rw [← seg_take, List.drop_drop]
        have hsl : longN (bodyP L (p + 2)).f.flat = longM (seg L (p + 2)) := long_list _ (fun m hm => hL m (List.mem_of_mem_drop ((List.takeWhile_sublist _).subset hm))) _ h3.1 h3.2.1
        rw [d0, d1, show p + 1 + 1 = p + 2 from rfl, hseg, d2]
        have e : m0 :: m1 :: (seg L (p + 2) ++ m2 :: L.drop (p + 2 + (seg L (p + 2)).length + 1)) = [m0] ++ ([m1] ++ (seg L (p + 2) ++ ([m2] ++ L.drop (p + 2 + (seg L (p + 2)).length + 1)))) := by simp
        rw [e, longM_app, longM_app, longM_app, longM_app]
        rw [kd_some g1] at h2
        have h5 := h3.2.2
        rw [kd_some g2] at h5
        rw [long_one (hL m1 (List.mem_of_getElem? g1)).1 (by omega), long_one (hL m2 (List.mem_of_getElem? g2)).1 (by omega), ← hsl, tx_some g0]
        simp [longG, longM, Bool.or_assoc]
      · cases h
theorem longG_app (A B : List Ru) : longG (A ++ B) = (longG A || longG B) := by unfold longG; rw [List.any_append]
theorem long_rules {L : List Mk} (hL : ∀ m ∈ L, (3 < m.k → m.t.size = 1) ∧ 1 ≤ m.k) : ∀ (n p : Nat) (g : List Ru), L.length - p < n → (rulesP L n p g).ok = true → longG (rulesP L n p g).g = (longG g || longM (L.drop p))
  | 0, p, g, hn, h => by omega
  | n + 1, p, g, hn, h => by
    unfold rulesP at h ⊢
    cases hr : ruleP L p with
    | mk o q =>
      rw [hr] at h
      cases o with
      | none => simp at h
      | some r =>
        have hlt := ruleP_lt hr
        have hl := long_rule hL hr
        simp only at h ⊢
        by_cases hq : q < L.length
        · rw [if_pos hq] at h ⊢
          rw [long_rules hL n q (g ++ [r]) (by omega) h, longG_app, hl, Bool.or_assoc]
        · rw [if_neg hq]
          simp only
          rw [longG_app, hl, List.drop_eq_nil_of_le (by omega)]
          simp [longM]
theorem long_sameG (s : ByteArray) (h : (gParsed s).ok = true) : longG (gParsed s).g = longM (cut s 0).1 := by
  have := long_rules (L := (cut s 0).1) (fun m hm => ⟨(cut_marks s m hm).1, (cut_kinds s m hm).1⟩) ((cut s 0).1.length + 1) 0 [] (by omega) h
  rw [List.drop_zero] at this
  exact this
/-! ### plain: what Parse answers -/
noncomputable def parseG (s : ByteArray) : List Ru × Int × Int :=
  if 2048 < s.size then ([], 0, 3)
  else if (gParsed s).ok = false then ([], plc (cut s 0).1 (cut s 0).2 (gParsed s).p, 172)
  else if (cut s 0).2 < s.size then ([], ((cut s 0).2 : Nat), 172)
  else if longG (gParsed s).g = true then ([], 0, 173)
  else if checkG (gParsed s).g ≠ 0 then ([], 0, checkG (gParsed s).g)
  else ((gParsed s).g, 0, 0)
/-- how large the rules are that are read -/
theorem rules_size (L : List Mk) : ∀ (n p : Nat) (g : List Ru), L.length - p < n → p ≤ L.length → (rulesP L n p g).ok = true →
    (rulesP L n p g).g.length ≤ g.length + (L.length - p) ∧ nodesG (rulesP L n p g).g ≤ nodesG g + 2 * (L.length - p)
  | 0, p, g, hn, _, h => by omega
  | n + 1, p, g, hn, hp, h => by
    unfold rulesP at h ⊢
    cases hr : ruleP L p with
    | mk o q =>
      rw [hr] at h
      cases o with
      | none => simp at h
      | some r =>
        have hlt := ruleP_lt hr
        have hsz : r.b.length ≤ 2 * (q - p) := by
          unfold ruleP at hr
          split at hr
          · cases hr
          · split at hr
            · cases hr
            · split at hr
              · rename_i h3
                simp only [Prod.mk.injEq, Option.some.injEq] at hr
                obtain ⟨rfl, rfl⟩ := hr
                have := (bodyP_b L (p + 2)).size h3.1
                rw [Fo.flat_len]; omega
              · cases hr
        have hn1 : nodesG (g ++ [r]) = nodesG g + r.b.length := by simp [nodesG]
        have hl1 : (g ++ [r]).length = g.length + 1 := by simp
        simp only at h ⊢
        by_cases hq : q < L.length
        · rw [if_pos hq] at h ⊢
          have := rules_size L n q (g ++ [r]) (by omega) (by omega) h
          omega
        · rw [if_neg hq]
          simp only
          omega
end Go.Proofs.YtkmjmfcanlknjaaGreat
namespace Go.Proofs.YtkmjmfcanlknjaaGreat
open Go.RowKit

/-! ### the reader of grammars -/
structure Rdg (w : World) (Br : Nat) (s : ByteArray) (vl : Value) (L : List Mk) (p : Nat) (en : Int) : Prop where
  box : w.heap[Br]? = some (.cells #[.string s, vl, .int .i64 p, .int .i64 en] 67 (0, 0))
  rd : RdMk w vl L
  apart : ∀ a n c, vl = .slice (some a) n c → a.block ≠ Br
variable {w w' : World} {Br : Nat} {s : ByteArray} {vl : Value} {L : List Mk} {p : Nat} {en : Int}
theorem Rdg.kept (h : Rdg w Br s vl L p en) (hg : w.grownBy w' none) : Rdg w' Br s vl L p en :=
  ⟨(hg.block Br (Array.getElem?_eq_some_iff.1 h.box).1 (by simp)).trans h.box,
   Rd.mono h.rd (fun b o hb => World.cell?_of_block (a := ⟨b, o, none⟩) (hg.block b hb (by simp))) hg.size, h.apart⟩
theorem Rdg.cells (h : Rdg w Br s vl L p en) :
    w.cell? ⟨Br, 0, none⟩ = some (.string s) ∧ w.cell? ⟨Br, 1, none⟩ = some vl ∧ w.cell? ⟨Br, 2, none⟩ = some (.int .i64 p) ∧ w.cell? ⟨Br, 3, none⟩ = some (.int .i64 en) ∧ w.frozen? ⟨Br, 2, none⟩ = false := by
  have := h.box
  refine ⟨by simp [World.cell?, this], by simp [World.cell?, this], by simp [World.cell?, this], by simp [World.cell?, this], by simp [World.frozen?, this]⟩
theorem Rdg.lt (h : Rdg w Br s vl L p en) : Br < w.heap.size := (Array.getElem?_eq_some_iff.1 h.box).1
/-- the next mark -/
theorem Rdg.step (h : Rdg w Br s vl L p en) (q : Nat) : Rdg (w.setCell ⟨Br, 2, none⟩ (.int .i64 q)) Br s vl L q en := by
  refine ⟨?_, ?_, h.apart⟩
  · have hb := h.box
    simp only [World.setCell]
    rw [Array.getElem?_modify, if_pos rfl, hb]
    rfl
  · obtain ⟨h1, ao, cap, h2, h3, h4, h5⟩ := h.rd
    refine ⟨h1, ao, cap, h2, h3, h4, h5.imp id ?_⟩
    rintro ⟨b, off, h6, h7, h8⟩
    have hne : b ≠ Br := h.apart ⟨b, off, none⟩ _ _ (by rw [h2, h6])
    refine ⟨b, off, h6, by simpa [World.setCell] using h7, fun j u hj => ?_⟩
    rw [World.cell?_of_block (a := ⟨b, off + j, none⟩) (w := w) (Below.heap_setCell _ _ _ _ hne)]
    exact h8 j u hj
theorem Rdg.moved {q : Nat} (h : Rdg w Br s vl L p en) (hg : w.grownBy w' (some Br)) (hb : w'.heap[Br]? = some (.cells #[.string s, vl, .int .i64 q, .int .i64 en] 67 (0, 0))) : Rdg w' Br s vl L q en := by
  refine ⟨hb, ?_, h.apart⟩
  obtain ⟨h1, ao, cap, h2, h3, h4, h5⟩ := h.rd
  refine ⟨h1, ao, cap, h2, h3, h4, h5.imp id ?_⟩
  rintro ⟨b, off, h6, h7, h8⟩
  have hne : b ≠ Br := h.apart ⟨b, off, none⟩ _ _ (by rw [h2, h6])
  refine ⟨b, off, h6, by have := hg.size; omega, fun j u hj => ?_⟩
  exact hg.cell (h8 j u hj) (by simpa using hne)
/-- the reader's place -/
def posG (w : World) (Br : Nat) : Nat := match w.cell? ⟨Br, 2, none⟩ with | some (.int _ n) => n.toNat | _ => 0
theorem Rdg.pos (h : Rdg w Br s vl L p en) : posG w Br = p := by
  unfold posG; rw [h.cells.2.2.1]; simp
def wrongG (x : Int) : List PanicEntry := [{ v := .iface 60 (.agg #[.int .i64 x]), recovered := false }]

set_option maxRecDepth 100000 in
set_option maxHeartbeats 1600000 in
theorem xPlaceG_any (h : Rdg w Br s vl L p en) (hp : p ≤ L.length) :
    Calls Tryz.prog 112 #[.pointer (some ⟨Br, 0, none⟩)] w fun e w' => e = .returned (.int .i64 (plc L en p)) ∧ ∃ m, w' = w.drewN m := by
  have HR := Lib.hid h
  obtain ⟨c0, c1, c2, c3, -⟩ := h.cells
  obtain ⟨_, ao, cap, rfl, -⟩ := h.rd
  clear h
  by_cases hlt : p < L.length
  · obtain ⟨m, hm⟩ : ∃ m, L[p]? = some m := ⟨_, List.getElem?_eq_getElem hlt⟩
    obtain ⟨b, off, cp, e1, l1, k1, x0, x1, x2⟩ := RdMk.at HR.out.rd hm
    simp only [Value.slice.injEq] at e1
    obtain ⟨rfl, -, rfl⟩ := e1
    have HK : Hid (plc L en p = m.p) := by unfold Hid plc; rw [hm]
    have hne : decide ((L.length : Int) ≤ p) = false := by simp; omega
    have hne2 : decide (L.length ≤ p) = false := by simp; omega
    clear hm x0 x2
    go_enter Tryz.func112, Tryz.ntmps112
    go_wp2
    go_quiet (fail)
    go_wp2
    go_quiet (fail)
    go_wp2
    go_ret
    exact ⟨lit_i64 HK.out.symm, _, World.drewN_drewN _ _ _⟩
  · obtain rfl : p = L.length := by omega
    have HK : Hid (plc L en L.length = en) := by unfold Hid plc; rw [List.getElem?_eq_none (Nat.le_refl _)]
    go_enter Tryz.func112, Tryz.ntmps112
    go_wp2
    go_quiet (fail)
    go_wp2
    go_ret
    exact ⟨lit_i64 HK.out.symm, _, rfl⟩
/-- what take leaves -/
def TakeR (Br : Nat) (s : ByteArray) (vl : Value) (L : List Mk) (p : Nat) (en k : Int) (w : World) (e : Ending) (w' : World) : Prop :=
  w.grownBy w' (some Br) ∧ ((kd L p = k ∧ e = .returned (.string (tx L p)) ∧ Rdg w' Br s vl L (p + 1) en) ∨ (kd L p ≠ k ∧ e = .panicked (wrongG (plc L en p))))
theorem ret_str {a b : ByteArray} (h : a = b) : Ending.returned (.string a) = .returned (.string b) := by rw [h]
set_option maxRecDepth 100000 in
set_option maxHeartbeats 3200000 in
theorem xTake_any (h : Rdg w Br s vl L p en) (hp : p ≤ L.length) (hL : L.length ≤ 4294967296) (k : Int) (hk : 1 ≤ k) :
    Calls Tryz.prog 77 #[.pointer (some ⟨Br, 0, none⟩), .int .i64 k] w (TakeR Br s vl L p en k w) := by
  have HR := Lib.hid h
  obtain ⟨c0, c1, c2, c3, f2⟩ := h.cells
  obtain ⟨_, ao, cap, rfl, -⟩ := h.rd
  clear h
  by_cases hlt : p < L.length
  · obtain ⟨m, hm⟩ : ∃ m, L[p]? = some m := ⟨_, List.getElem?_eq_getElem hlt⟩
    obtain ⟨b, off, cp, e1, l1, k1, x0, x1, x2⟩ := RdMk.at HR.out.rd hm
    simp only [Value.slice.injEq] at e1
    obtain ⟨rfl, -, rfl⟩ := e1
    have HK : Hid (kd L p = m.k) := kd_some hm
    have HT : Hid (tx L p = m.t) := tx_some hm
    have hne : decide ((L.length : Int) ≤ p) = false := by simp; omega
    have hne2 : decide (L.length ≤ p) = false := by simp; omega
    have hbr : b ≠ Br := HR.out.apart _ _ _ rfl
    clear hm x1
    by_cases hmk : m.k = k
    · have hkk : (m.k != k) = false := by simpa using hmk
      have HM := Lib.hid hmk
      clear hmk
      go_enter Tryz.func77, Tryz.ntmps77
      go_wp2
      go_quiet (fail)
      go_wp2
      have HR2 := Lib.hid (HR.out.kept (grown_drewN w nq none))
      have HR3 : Hid (Rdg ((w.drewN nq).setCell ⟨Br, 2, none⟩ (.int .i64 ((p + 1 : Nat) : Int))) Br s (.slice (some ⟨b, off, none⟩) L.length cap) L (p + 1) en) := HR2.out.step (p + 1)
      have HG3 : Hid (w.grownBy ((w.drewN nq).setCell ⟨Br, 2, none⟩ (.int .i64 ((p + 1 : Nat) : Int))) (some Br)) := grown_then (grown_drewN _ _ _) (grown_set _ _ _ _) (fun j hj => by cases hj; exact .inr rfl)
      have e9 : (((p + 1 : Nat)) : Int) = (p : Int) + 1 := by omega
      rw [e9] at HR3 HG3
      obtain ⟨-, d1, d2, -, -⟩ := HR3.out.cells
      have y2 : ((w.drewN nq).setCell ⟨Br, 2, none⟩ (.int .i64 ((p : Int) + 1))).cell? ⟨b, off + p * 3 + 2, none⟩ = some (.string m.t) := by
        rw [World.cell?_of_block (a := ⟨b, off + p * 3 + 2, none⟩) (w := w.drewN nq) (Below.heap_setCell _ _ _ _ hbr)]
        exact x2
      rw [e9] at d2
      have hw1 : IntKind.i64.wrap ((p : Int) + 1 - 1) = (p : Int) := by rw [show ((p : Int) + 1 - 1) = p from by omega]; exact IntWalk.i64_in _ (by omega)
      have hp1 : (p : Int) < L.length := by omega
      have hp0 : (0 : Int) ≤ p := by omega
      clear c0 c1 c2 c3 f2 x0 x2 hne hne2 hkk
      generalize (w.drewN nq).setCell ⟨Br, 2, none⟩ (.int .i64 ((p : Int) + 1)) = w3 at *
      go_quiet (fail)
      go_wp2
      go_ret
      exact ⟨grown_then HG3.out (grown_drewN _ _ none) (by simp), .inl ⟨HK.out.trans HM.out, ret_str HT.out.symm, HR3.out.kept (grown_drewN _ _ _)⟩⟩
    · have hkk : (m.k != k) = true := by simpa using hmk
      have HM := Lib.hid hmk
      have HP := Lib.hid (xPlaceG_any (w := w) HR.out hp)
      clear hmk
      go_enter Tryz.func77, Tryz.ntmps77
      go_wp2
      go_quiet (fail)
      have HR2 := Lib.hid (HR.out.kept (grown_drewN w nq none))
      have HG2 := Lib.hid (grown_drewN w nq none)
      clear c0 c1 c2 c3 f2 x0 x2
      generalize w.drewN nq = w2 at *
      go_wp2_with fail
      refine (xPlaceG_any HR2.out hp).mono ?_
      rintro e w3 ⟨rfl, nq3, rfl⟩
      have HG3 := Lib.hid (grown_then HG2.out (grown_drewN w2 nq3 none) (by simp))
      go_wp2_with fail
      exact ⟨rfl, grown_none HG3.out, .inr ⟨by rw [HK.out]; exact HM.out, rfl⟩⟩
  · obtain rfl : p = L.length := by omega
    have HK : Hid (kd L L.length = 0) := kd_none (Nat.le_refl _)
    go_enter Tryz.func77, Tryz.ntmps77
    go_wp2
    go_quiet (fail)
    have HR2 := Lib.hid (HR.out.kept (grown_drewN w nq none))
    have HG2 := Lib.hid (grown_drewN w nq none)
    clear c0 c1 c2 c3 f2
    generalize w.drewN nq = w2 at *
    go_wp2_with fail
    refine (xPlaceG_any HR2.out hp).mono ?_
    rintro e w3 ⟨rfl, nq3, rfl⟩
    have HG3 := Lib.hid (grown_then HG2.out (grown_drewN w2 nq3 none) (by simp))
    go_wp2_with fail
    exact ⟨rfl, grown_none HG3.out, .inr ⟨by rw [HK.out]; omega, rfl⟩⟩
/-- what body leaves -/
def BodyQ (Br : Nat) (s : ByteArray) (vl : Value) (L : List Mk) (en : Int) (p sg : Nat) (ok : Bool) (rp : Nat) (fl : List Nd) (w : World) (e : Ending) (w' : World) : Prop :=
  w.grownBy w' (some Br) ∧
  (((ok = true ∧ rp = sg) ∧ (∃ v, e = .returned v ∧ OwnNd w' w.heap.size v fl) ∧ Rdg w' Br s vl L (p + sg) en) ∨
   (¬ (ok = true ∧ rp = sg) ∧ e = .panicked (wrongG (plc L en (p + rp)))))
theorem wrongG_eq {x y : Int} (h : x = y) : Ending.panicked (wrongG x) = .panicked (wrongG y) := by rw [h]
theorem plN_le (s : ByteArray) (p : Nat) (hp : p ≤ (cut s 0).1.length) : plN (cut s 0).1 (cut s 0).2 p ≤ s.size := by
  have := (cut_piece s p 0 (by omega)).2.1
  rwa [Nat.add_zero] at this
set_option maxRecDepth 100000 in
set_option maxHeartbeats 6400000 in
theorem xBody_any (h : Rdg w Br s vl (cut s 0).1 p ((cut s 0).2 : Nat)) (hp : p ≤ (cut s 0).1.length) (hs : s.size ≤ 2048) :
    Calls Tryz.prog 78 #[.pointer (some ⟨Br, 0, none⟩)] w (BodyQ Br s vl (cut s 0).1 ((cut s 0).2 : Nat) p (seg (cut s 0).1 p).length (bodyP (cut s 0).1 p).ok (bodyP (cut s 0).1 p).p (bodyP (cut s 0).1 p).f.flat w) := by
  have HR := Lib.hid h
  have HP := Lib.hid (read_piece s p hp hs)
  obtain ⟨hA1, hA2, -, -⟩ := cut_piece s p (seg (cut s 0).1 p).length (seg_le _ _ hp)
  have hrb := (bodyP_b (cut s 0).1 p).le
  have hsl := seg_le (cut s 0).1 p hp
  have hM := plN_le s (p + (bodyP (cut s 0).1 p).p) (by omega)
  have hlen := (cut_len s s.size 0 (by omega) (by omega)).1
  have HSI := Lib.hid (seg_in (cut s 0).1 p)
  have HSE := Lib.hid (seg_end (cut s 0).1 p)
  have HPl := Lib.hid (plN_plc (cut s 0).1 (cut s 0).2)
  obtain ⟨_, ao, cap, rfl, -⟩ := h.rd
  clear h
  generalize (cut s 0).1 = L at *
  generalize (cut s 0).2 = q at *
  generalize hsg : (seg L p).length = sg at *
  clear hsg
  generalize bodyP L p = r at *
  obtain ⟨ok, f, rp⟩ := r
  simp only at hrb hM HP ⊢
  generalize hA : plN L q p = A at *
  generalize hZ : plN L q (p + sg) = Z at *
  generalize hMM : plN L q (p + rp) = M at *
  have HA := Lib.hid hA
  have HZ := Lib.hid hZ
  have HMM := Lib.hid hMM
  clear hA hZ hMM
  have HA2 : Hid (plc L (q : Int) p = (A : Int)) := by unfold Hid; rw [HPl.out, HA.out]
  have HZ2 : Hid (plc L (q : Int) (p + sg) = (Z : Int)) := by unfold Hid; rw [HPl.out, HZ.out]
  have HPz : Hid (∀ (vl : Value) (x : World), Rdg x Br s vl L (p + sg) (q : Int) → Calls Tryz.prog 112 #[.pointer (some ⟨Br, 0, none⟩)] x fun e w' => e = .returned (.int .i64 (Z : Int)) ∧ ∃ m, w' = x.drewN m) := fun vl x hx => by
    have h2 := xPlaceG_any hx (by omega)
    rw [HZ2.out] at h2; exact h2
  have HM2 : Hid (plc L (q : Int) (p + rp) = (M : Int)) := by unfold Hid; rw [HPl.out, HMM.out]
  go_enter Tryz.func78, Tryz.ntmps78
  go_wp2_with fail
  refine (xPlaceG_any HR.out hp).mono ?_
  rintro e w1 ⟨rfl, n1, rfl⟩
  rw [HA2.out]
  have HR1 := Lib.hid (HR.out.kept (grown_drewN w n1 none))
  have HG1 := Lib.hid (grown_drewN w n1 (some Br))
  clear HR
  generalize w.drewN n1 = w1 at *
  go_wp2_with fail
  go_loopw [] (fun wr => ∃ j : Nat, j ≤ sg ∧ Hid (Rdg wr Br s (.slice ao L.length cap) L (p + j) (q : Int)) ∧ Hid (w.grownBy wr (some Br))) (fun wr => p + sg - posG wr Br)
  case atStart => exact ⟨0, by omega, HR1.out, HG1.out⟩
  case round =>
    clear HR1 HG1
    obtain ⟨j, hj, HR, HG⟩ := hrel
    obtain ⟨c0, c1, c2, c3, f2⟩ := HR.out.cells
    by_cases hlt : p + j < L.length
    · obtain ⟨m, hm⟩ : ∃ m, L[p + j]? = some m := ⟨_, List.getElem?_eq_getElem hlt⟩
      obtain ⟨b, off, cp, e1, l1, k1, x0, x1, x2⟩ := RdMk.at HR.out.rd hm
      simp only [Value.slice.injEq] at e1
      obtain ⟨rfl, -, rfl⟩ := e1
      have hkd := kd_some hm
      have hlt1 : decide ((p : Int) + (j : Int) < L.length) = true := by simp; omega
      have hlt2 : decide (p + j < L.length) = true := by simp; omega
      clear hm x1 x2
      by_cases hjs : j < sg
      · obtain ⟨n4, n5⟩ := HSI.out j hjs
        rw [hkd] at n4 n5
        have m4 : (m.k != 4) = true := by simpa using n4
        have m5 : (m.k != 5) = true := by simpa using n5
        clear hkd n4 n5
        go_wp2
        go_quiet (fail)
        go_wp2
        have HR3 : Hid (Rdg ((wr.drewN nq).setCell ⟨Br, 2, none⟩ (.int .i64 ((p : Int) + (j : Int) + 1))) Br s (.slice (some ⟨b, off, none⟩) L.length cap) L (p + (j + 1)) (q : Int)) := by
          have h2 := (HR.out.kept (grown_drewN wr nq none)).step (p + (j + 1))
          rw [show ((p + (j + 1) : Nat) : Int) = (p : Int) + (j : Int) + 1 from by omega] at h2
          exact h2
        exact ⟨⟨j + 1, by omega, HR3.out, HG.out.trans (grown_then (grown_drewN _ _ _) (grown_set _ _ _ _) (fun j hj => by cases hj; exact .inr rfl))⟩, by rw [HR3.out.pos, HR.out.pos]; omega⟩
      · obtain rfl : j = sg := by omega
        have h45 := HSE.out hlt
        rw [hkd] at h45
        clear hkd
        have hout : (m.k != 5) = false ∨ ((m.k != 5) = true ∧ (m.k != 4) = false) := by
          rcases h45 with h | h
          · exact .inr ⟨by simp [h], by simp [h]⟩
          · exact .inl (by simp [h])
        clear h45
        rcases hout with m5 | ⟨m5, m4⟩
        all_goals
          go_wp2
          go_quiet (fail)
          have HR4 := Lib.hid (HR.out.kept (grown_drewN wr nq none))
          have HG4 := Lib.hid (HG.out.trans (grown_drewN wr nq (some Br)))
          clear c0 c1 c2 c3 f2 x0 HR HG hlt1 hlt2
          generalize wr.drewN nq = w2 at *
          obtain ⟨c0, c1, c2, c3, f2⟩ := HR4.out.cells
          have hAZ : (A : Int) ≤ Z := by omega
          have hA0 : (0 : Int) ≤ A := by omega
          have hZs : (Z : Int) ≤ s.size := by omega
          go_wp2_with fail
          go_quiet ((go_at_call 112; exact Calls.quiet_of (HPz.out _ _ (HR4.out.kept (grown_drewN _ _ none)))))
          go_wp2_with fail
          have HR5 := Lib.hid (HR4.out.kept (grown_drewN w2 nq none))
          have HG5 := Lib.hid (HG4.out.trans (grown_drewN w2 nq (some Br)))
          clear c0 c1 c2 c3 f2 HR4 HG4
          generalize w2.drewN nq = w3 at *
          have hszp : (s.extract A Z).size = Z - A := by rw [ByteArray.size_extract]; omega
          have HRd := Lib.hid (xRead_any (s.extract A Z) w3)
          rw [HP.out] at HRd
          generalize s.extract A Z = pc at *
          by_cases hgood : ok = true ∧ rp = j
          · rw [if_pos hgood] at HRd
            refine (HRd.out).mono ?_
            rintro e w5 ⟨v5, rfl, ho5, hb5⟩
            have HO6 : Hid (OwnNd w5 w.heap.size v5 f.flat) := own_lower ho5 HG5.out.size
            have HR6 := Lib.hid (HR5.out.kept (grown_below hb5))
            have HG6 := Lib.hid (HG5.out.trans (grown_none (row := some Br) (grown_below hb5)))
            obtain ⟨_, a5, c5, rfl, -⟩ := Rd.of_owns ho5
            have HGd := Lib.hid hgood
            clear hb5 ho5 hgood
            go_wp2_with fail
            go_ret
            exact ⟨HG6.out, .inl ⟨HGd.out, ⟨_, rfl, HO6.out⟩, HR6.out⟩⟩
          · rw [if_neg hgood] at HRd
            refine (HRd.out).mono ?_
            rintro e w5 ⟨v5, rfl, ho5, hb5⟩
            have HR6 := Lib.hid (HR5.out.kept (grown_below hb5))
            have HG6 := Lib.hid (HG5.out.trans (grown_none (row := some Br) (grown_below hb5)))
            obtain ⟨_, a5, c5, rfl, -⟩ := Rd.of_owns ho5
            have HGd := Lib.hid hgood
            clear hb5 ho5 hgood
            by_cases hMZ : M = Z
            · have hq9 : (((M : Int) - (A : Int)) == ((pc.size : Nat) : Int)) = true := by rw [hszp]; simp; omega
              have HMZ := Lib.hid hMZ
              clear hMZ hszp
              go_wp2_with fail
              refine (HPz.out _ _ HR6.out).mono ?_
              rintro e w6 ⟨rfl, nq6, rfl⟩
              have HG7 := Lib.hid (HG6.out.trans (grown_drewN w5 nq6 (some Br)))
              go_wp2_with fail
              exact ⟨rfl, HG7.out, .inr ⟨HGd.out, wrongG_eq (by rw [HM2.out, HMZ.out])⟩⟩
            · have hq9 : (((M : Int) - (A : Int)) == ((pc.size : Nat) : Int)) = false := by rw [hszp]; simp; omega
              clear hMZ hszp
              have hs1 : (0 : Int) ≤ A := by omega
              have hs2 : (A : Int) + ((M : Int) - A) ≤ 4096 := by omega
              have hs3 : (0 : Int) ≤ (A : Int) + ((M : Int) - A) := by omega
              go_wp2_with fail
              exact ⟨rfl, HG6.out, .inr ⟨HGd.out, wrongG_eq (by rw [HM2.out]; omega)⟩⟩
    · obtain rfl : j = sg := by omega
      have hlt1 : decide ((p : Int) + (j : Int) < L.length) = false := by simp; omega
      have hlt2 : decide (p + j < L.length) = false := by simp; omega
      go_wp2
      go_quiet (fail)
      have HR4 := Lib.hid (HR.out.kept (grown_drewN wr nq none))
      have HG4 := Lib.hid (HG.out.trans (grown_drewN wr nq (some Br)))
      clear c0 c1 c2 c3 f2 HR HG hlt1 hlt2
      generalize wr.drewN nq = w2 at *
      obtain ⟨c0, c1, c2, c3, f2⟩ := HR4.out.cells
      have hAZ : (A : Int) ≤ Z := by omega
      have hA0 : (0 : Int) ≤ A := by omega
      have hZs : (Z : Int) ≤ s.size := by omega
      go_wp2_with fail
      go_quiet ((go_at_call 112; exact Calls.quiet_of (HPz.out _ _ (HR4.out.kept (grown_drewN _ _ none)))))
      go_wp2_with fail
      have HR5 := Lib.hid (HR4.out.kept (grown_drewN w2 nq none))
      have HG5 := Lib.hid (HG4.out.trans (grown_drewN w2 nq (some Br)))
      clear c0 c1 c2 c3 f2 HR4 HG4
      generalize w2.drewN nq = w3 at *
      have hszp : (s.extract A Z).size = Z - A := by rw [ByteArray.size_extract]; omega
      have HRd := Lib.hid (xRead_any (s.extract A Z) w3)
      rw [HP.out] at HRd
      generalize s.extract A Z = pc at *
      by_cases hgood : ok = true ∧ rp = j
      · rw [if_pos hgood] at HRd
        refine (HRd.out).mono ?_
        rintro e w5 ⟨v5, rfl, ho5, hb5⟩
        have HO6 : Hid (OwnNd w5 w.heap.size v5 f.flat) := own_lower ho5 HG5.out.size
        have HR6 := Lib.hid (HR5.out.kept (grown_below hb5))
        have HG6 := Lib.hid (HG5.out.trans (grown_none (row := some Br) (grown_below hb5)))
        obtain ⟨_, a5, c5, rfl, -⟩ := Rd.of_owns ho5
        have HGd := Lib.hid hgood
        clear hb5 ho5 hgood
        go_wp2_with fail
        go_ret
        exact ⟨HG6.out, .inl ⟨HGd.out, ⟨_, rfl, HO6.out⟩, HR6.out⟩⟩
      · rw [if_neg hgood] at HRd
        refine (HRd.out).mono ?_
        rintro e w5 ⟨v5, rfl, ho5, hb5⟩
        have HR6 := Lib.hid (HR5.out.kept (grown_below hb5))
        have HG6 := Lib.hid (HG5.out.trans (grown_none (row := some Br) (grown_below hb5)))
        obtain ⟨_, a5, c5, rfl, -⟩ := Rd.of_owns ho5
        have HGd := Lib.hid hgood
        clear hb5 ho5 hgood
        by_cases hMZ : M = Z
        · have hq9 : (((M : Int) - (A : Int)) == ((pc.size : Nat) : Int)) = true := by rw [hszp]; simp; omega
          have HMZ := Lib.hid hMZ
          clear hMZ hszp
          go_wp2_with fail
          refine (HPz.out _ _ HR6.out).mono ?_
          rintro e w6 ⟨rfl, nq6, rfl⟩
          have HG7 := Lib.hid (HG6.out.trans (grown_drewN w5 nq6 (some Br)))
          go_wp2_with fail
          exact ⟨rfl, HG7.out, .inr ⟨HGd.out, wrongG_eq (by rw [HM2.out, HMZ.out])⟩⟩
        · have hq9 : (((M : Int) - (A : Int)) == ((pc.size : Nat) : Int)) = false := by rw [hszp]; simp; omega
          clear hMZ hszp
          have hs1 : (0 : Int) ≤ A := by omega
          have hs2 : (A : Int) + ((M : Int) - A) ≤ 4096 := by omega
          have hs3 : (0 : Int) ≤ (A : Int) + ((M : Int) - A) := by omega
          go_wp2_with fail
          exact ⟨rfl, HG6.out, .inr ⟨HGd.out, wrongG_eq (by rw [HM2.out]; omega)⟩⟩
end Go.Proofs.YtkmjmfcanlknjaaGreat
namespace Go.Proofs.YtkmjmfcanlknjaaGreat
open Go.RowKit

theorem OwnP.grown {w w' : World} {B : Nat} {v : Value} {P : List (Ru × Value)} {row : Option Nat} (h : OwnP w B v P) (hg : w.grownBy w' row) (hr : ∀ j, row = some j → j < B) : OwnP w' B v P :=
  ⟨own_grown h.row hg (fun j hj => .inl (hr j hj)), fun p hp => own_grown (h.bods p hp) hg (fun j hj => .inl (hr j hj))⟩
/-- what rules leaves -/
def RulesQ (Br : Nat) (L : List Mk) (en : Int) (R : GR) (w : World) (e : Ending) (w' : World) : Prop :=
  w.grownBy w' (some Br) ∧ ((R.ok = true ∧ ∃ v P, e = .returned v ∧ P.map (·.1) = R.g ∧ OwnP w' w.heap.size v P) ∨ (R.ok = false ∧ e = .panicked (wrongG (plc L en R.p))))
/-- where the reading of the rules stands -/
def AtR (L : List Mk) (R : GR) (g : List Ru) (q : Nat) : Prop :=
  (∃ n, L.length - q < n ∧ (g = [] ∨ q < L.length) ∧ R = rulesP L n q g) ∨ (g ≠ [] ∧ L.length ≤ q ∧ R = ⟨true, g, q⟩)
theorem AtR.bad {L : List Mk} {g : List Ru} {q n x : Nat} {R : GR} (hn : L.length - q < n) (hR : R = rulesP L n q g) (h : ruleP L q = (none, x)) : R.ok = false ∧ R.p = x := by
  obtain ⟨n', rfl⟩ : ∃ n', n = n' + 1 := ⟨n - 1, by omega⟩
  subst hR
  unfold rulesP
  rw [h]; exact ⟨rfl, rfl⟩
theorem AtR.good {L : List Mk} {g : List Ru} {q n x : Nat} {r : Ru} {R : GR} (hn : L.length - q < n) (hR : R = rulesP L n q g) (h : ruleP L q = (some r, x)) : AtR L R (g ++ [r]) x := by
  obtain ⟨n', rfl⟩ : ∃ n', n = n' + 1 := ⟨n - 1, by omega⟩
  have hl := ruleP_lt h
  have e : rulesP L (n' + 1) q g = if x < L.length then rulesP L n' x (g ++ [r]) else ⟨true, g ++ [r], x⟩ := by
    conv => lhs; unfold rulesP
    rw [h]
  rw [e] at hR
  by_cases hx : x < L.length
  · rw [if_pos hx] at hR
    exact .inl ⟨n', by omega, .inr hx, hR⟩
  · rw [if_neg hx] at hR
    exact .inr ⟨by simp, by omega, hR⟩
theorem ruleP_eq1 {L : List Mk} {p : Nat} (h : kd L p ≠ 1) : ruleP L p = (none, p) := by unfold ruleP; rw [if_pos h]
theorem ruleP_eq2 {L : List Mk} {p : Nat} (h : kd L p = 1) (h2 : kd L (p + 1) ≠ 4) : ruleP L p = (none, p + 1) := by unfold ruleP; rw [if_neg (by omega), if_pos h2]
theorem ruleP_eq3 {L : List Mk} {p : Nat} (h : kd L p = 1) (h2 : kd L (p + 1) = 4) (h3 : ¬ ((bodyP L (p + 1 + 1)).ok = true ∧ (bodyP L (p + 1 + 1)).p = (seg L (p + 1 + 1)).length)) : ruleP L p = (none, p + 1 + 1 + (bodyP L (p + 1 + 1)).p) := by
  unfold ruleP; rw [if_neg (by omega), if_neg (by omega), if_neg (fun h => h3 ⟨h.1, h.2.1⟩)]
theorem ruleP_eq4 {L : List Mk} {p : Nat} (h : kd L p = 1) (h2 : kd L (p + 1) = 4) (h3 : (bodyP L (p + 1 + 1)).ok = true ∧ (bodyP L (p + 1 + 1)).p = (seg L (p + 1 + 1)).length) (h5 : kd L (p + 1 + 1 + (seg L (p + 1 + 1)).length) ≠ 5) : ruleP L p = (none, p + 1 + 1 + (seg L (p + 1 + 1)).length) := by
  unfold ruleP; rw [if_neg (by omega), if_neg (by omega), if_neg (fun h => h5 h.2.2), ← h3.2]
theorem ruleP_eq5 {L : List Mk} {p : Nat} (h : kd L p = 1) (h2 : kd L (p + 1) = 4) (h3 : (bodyP L (p + 1 + 1)).ok = true ∧ (bodyP L (p + 1 + 1)).p = (seg L (p + 1 + 1)).length) (h5 : kd L (p + 1 + 1 + (seg L (p + 1 + 1)).length) = 5) : ruleP L p = (some ⟨tx L p, (bodyP L (p + 1 + 1)).f.flat⟩, p + 1 + 1 + (seg L (p + 1 + 1)).length + 1) := by
  unfold ruleP; rw [if_neg (by omega), if_neg (by omega), if_pos ⟨h3.1, h3.2, h5⟩]
set_option maxRecDepth 100000 in
set_option maxHeartbeats 12800000 in
theorem xRules_any {w : World} {Br : Nat} {s : ByteArray} {vl : Value} (h : Rdg w Br s vl (cut s 0).1 0 ((cut s 0).2 : Nat)) (hs : s.size ≤ 2048) :
    Calls Tryz.prog 38 #[.pointer (some ⟨Br, 0, none⟩)] w (RulesQ Br (cut s 0).1 ((cut s 0).2 : Nat) (gParsed s) w) := by
  have HR0 := Lib.hid h
  have HR := Lib.hid h
  have hBw := h.lt
  have hlen := (cut_len s s.size 0 (by omega) (by omega)).1
  have HAt : Hid (AtR (cut s 0).1 (gParsed s) [] 0) := .inl ⟨(cut s 0).1.length + 1, by omega, .inl rfl, rfl⟩
  have HBd := Lib.hid (fun (w : World) (p : Nat) (h : Rdg w Br s vl (cut s 0).1 p ((cut s 0).2 : Nat)) (hp : p ≤ (cut s 0).1.length) => xBody_any h hp hs)
  obtain ⟨_, ao, cap, rfl, -⟩ := h.rd
  clear h
  generalize (cut s 0).1 = L at *
  generalize (cut s 0).2 = qe at *
  generalize gParsed s = R at *
  go_enter Tryz.func38, Tryz.ntmps38
  go_wp2_with fail
  go_loopw [3] (fun o wr => ∃ (P' : List (Ru × Value)) (q : Nat), q ≤ L.length ∧ P'.length ≤ q ∧ Hid (OwnP wr w.heap.size o P') ∧ Hid (Rdg wr Br s (.slice ao L.length cap) L q (qe : Int)) ∧ Hid (w.grownBy wr (some Br)) ∧ Hid (AtR L R (P'.map (·.1)) q)) (fun _ wr => L.length - posG wr Br)
  case atStart => exact ⟨[], 0, by omega, by simp, OwnP.nil _ _, HR.out, ⟨rfl, rfl, rfl, Nat.le_refl _, fun _ _ _ => rfl⟩, HAt.out⟩
  case round =>
    clear HR HAt
    obtain ⟨P', q, hq, hPq, HO, HR, HG, HAt⟩ := hrel
    obtain ⟨c0, c1, c2, c3, f2⟩ := HR.out.cells
    obtain ⟨_, ou, cu, e3, -⟩ := Rd.of_owns HO.out.row
    subst e3
    have hlc : Hid (decide ((q : Int) < L.length) = decide (q < L.length)) := by unfold Hid; simp
    rcases HAt.out with ⟨n, hn, hgq, hRe⟩ | ⟨hne, hge, hRe⟩
    · have hcond : (((P'.length : Nat) : Int) == 0) = true ∨ ((((P'.length : Nat) : Int) == 0) = false ∧ decide ((q : Int) < L.length) = true ∧ decide (q < L.length) = true) := by
        by_cases h0 : P'.length = 0
        · exact .inl (by rw [h0]; rfl)
        · refine .inr ⟨by simp only [beq_eq_false_iff_ne, ne_eq]; omega, ?_, ?_⟩
          · rcases hgq with h | h
            · rw [List.map_eq_nil_iff] at h; subst h; simp at h0
            · simp; omega
          · rcases hgq with h | h
            · rw [List.map_eq_nil_iff] at h; subst h; simp at h0
            · simp; omega
      have HRe := Lib.hid hRe
      clear hRe hgq
      rcases hcond with h0 | ⟨h0, h0a, h0b⟩
      all_goals
        go_wp2
        go_quiet (fail)
        have HR2 := Lib.hid (HR.out.kept (grown_drewN wr nq none))
        have HG2 := Lib.hid (HG.out.trans (grown_drewN wr nq (some Br)))
        have HO2 := Lib.hid (HO.out.grown (grown_drewN wr nq none) (fun j hj => by cases hj))
        clear c0 c1 c2 c3 f2 h0
        generalize wr.drewN nq = w2 at *
        go_wp2_with fail
        refine (xTake_any HR2.out hq (by omega) 1 (by omega)).mono ?_
        rintro e w3 ⟨hg3, (⟨hk1, rfl, hr3⟩ | ⟨hk1, rfl⟩)⟩
        rotate_left
        · have HB := Lib.hid (AtR.bad hn HRe.out (ruleP_eq1 hk1))
          have HG3 := Lib.hid (HG2.out.trans hg3)
          clear hg3 hk1
          go_wp2_with fail
          exact ⟨rfl, HG3.out, .inr ⟨HB.out.1, wrongG_eq (by rw [HB.out.2])⟩⟩
        · have HG3 := Lib.hid (HG2.out.trans hg3)
          have HO3 := Lib.hid (HO2.out.grown hg3 (fun j hj => by cases hj; exact hBw))
          have HR3 := Lib.hid hr3
          have hq1 : q < L.length := kd_lt (by omega)
          have HK1 := Lib.hid hk1
          clear hg3 hk1 hr3
          go_wp2_with fail
          refine (xTake_any HR3.out (by omega) (by omega) 4 (by omega)).mono ?_
          rintro e w4 ⟨hg4, (⟨hk2, rfl, hr4⟩ | ⟨hk2, rfl⟩)⟩
          rotate_left
          · have HB := Lib.hid (AtR.bad hn HRe.out (ruleP_eq2 HK1.out hk2))
            have HG4 := Lib.hid (HG3.out.trans hg4)
            clear hg4 hk2
            go_wp2_with fail
            exact ⟨rfl, HG4.out, .inr ⟨HB.out.1, wrongG_eq (by rw [HB.out.2])⟩⟩
          · have HG4 := Lib.hid (HG3.out.trans hg4)
            have HO4 := Lib.hid (HO3.out.grown hg4 (fun j hj => by cases hj; exact hBw))
            have HR4 := Lib.hid hr4
            have hq2 : q + 1 < L.length := kd_lt (by omega)
            have HK2 := Lib.hid hk2
            clear hg4 hk2 hr4
            go_wp2_with fail
            refine (HBd.out _ (q + 1 + 1) HR4.out (by omega)).mono ?_
            rintro e w5 ⟨hg5, (⟨hb1, ⟨v5, rfl, ho5⟩, hr5⟩ | ⟨hb1, rfl⟩)⟩
            rotate_left
            · have HB := Lib.hid (AtR.bad hn HRe.out (ruleP_eq3 HK1.out HK2.out hb1))
              have HG5 := Lib.hid (HG4.out.trans hg5)
              clear hg5 hb1
              go_wp2_with fail
              exact ⟨rfl, HG5.out, .inr ⟨HB.out.1, wrongG_eq (by rw [HB.out.2])⟩⟩
            · have HG5 := Lib.hid (HG4.out.trans hg5)
              have HO5 := Lib.hid (HO4.out.grown hg5 (fun j hj => by cases hj; exact hBw))
              have HV5 : Hid (OwnNd w5 w.heap.size v5 (bodyP L (q + 1 + 1)).f.flat) := own_lower ho5 HG4.out.size
              have HR5 := Lib.hid hr5
              have HB1 := Lib.hid hb1
              have hsl := seg_le L (q + 1 + 1) (by omega)
              obtain ⟨_, a5, c5, rfl, -⟩ := Rd.of_owns ho5
              clear hg5 hb1 hr5 ho5
              generalize hsg : (seg L (q + 1 + 1)).length = sg at *
              have HSg := Lib.hid hsg
              clear hsg
              go_wp2_with fail
              refine (xTake_any HR5.out (by omega) (by omega) 5 (by omega)).mono ?_
              rintro e w6 ⟨hg6, (⟨hk3, rfl, hr6⟩ | ⟨hk3, rfl⟩)⟩
              rotate_left
              · have HB := Lib.hid (AtR.bad hn HRe.out (ruleP_eq4 HK1.out HK2.out (by rw [HSg.out]; exact HB1.out) (by rw [HSg.out]; exact hk3)))
                have HG6 := Lib.hid (HG5.out.trans hg6)
                clear hg6 hk3
                go_wp2_with fail
                exact ⟨rfl, HG6.out, .inr ⟨HB.out.1, wrongG_eq (by rw [HB.out.2, HSg.out])⟩⟩
              · have HG6 := Lib.hid (HG5.out.trans hg6)
                have HO6 := Lib.hid (HO5.out.grown hg6 (fun j hj => by cases hj; exact hBw))
                have HV6 : Hid (OwnNd w6 w.heap.size (.slice a5 (bodyP L (q + 1 + 1)).f.flat.length c5) (bodyP L (q + 1 + 1)).f.flat) := own_grown HV5.out hg6 (fun j hj => by cases hj; exact .inl hBw)
                have HR6 := Lib.hid hr6
                have hq3 : q + 1 + 1 + sg < L.length := kd_lt (by omega)
                have HGo := Lib.hid (AtR.good hn HRe.out (ruleP_eq5 HK1.out HK2.out (by rw [HSg.out]; exact HB1.out) (by rw [HSg.out]; exact hk3)))
                have hw6 := HG6.out.size
                have hro := HO6.out.row
                clear hg6 hk3 hr6
                generalize hfl : (bodyP L (q + 1 + 1)).f.flat = fl at *
                have HFl := Lib.hid hfl
                clear hfl
                generalize htx : tx L q = th at *
                have HTx := Lib.hid htx
                clear htx
                go_wp2_with (at_builtin; go_must (refine wpList_appG1 elemRu rfl _ _ rfl hro rfl (news := [.string th, .slice a5 fl.length c5]) rfl rfl (by intro u hu; simp at hu; rcases hu with rfl | rfl <;> rfl) (by unfold maxLen; omega) (by omega) hw6 ?_); intro v7 w7 hown7 hg7)
                have HO7 : Hid (OwnP w7 w.heap.size v7 (P' ++ [(⟨th, fl⟩, .slice a5 fl.length c5)])) := OwnP.snoc (p := (⟨th, fl⟩, .slice a5 fl.length c5)) HO6.out HV6.out hown7 hg7
                have hob : ∀ g, (Value.slice ou P'.length cu).ownBlock = some g → w.heap.size ≤ g := fun g hg => own_block hro g hg
                have HG7 : Hid (w.grownBy w7 (some Br)) := grown_then HG6.out hg7 (fun j hj => .inl (hob j hj))
                have HR7 : Hid (Rdg w7 Br s (.slice ao L.length cap) L (q + 1 + 1 + sg + 1) (qe : Int)) := by
                  refine HR0.out.moved HG7.out ?_
                  exact (hg7.block Br HR6.out.lt (fun e => by have := hob Br e.symm; omega)).trans HR6.out.box
                have HAt7 : Hid (AtR L R ((P' ++ [((⟨th, fl⟩, .slice a5 fl.length c5) : Ru × Value)]).map (·.1)) (q + 1 + 1 + sg + 1)) := by
                  have := HGo.out
                  rw [HSg.out] at this
                  unfold Hid
                  rw [List.map_append]; exact this
                clear hown7 hg7 hro
                go_wp2_with fail
                go_roundw
                case rel => exact ⟨_, q + 1 + 1 + sg + 1, by omega, by simp; omega, HO7.out, HR7.out, HG7.out, HAt7.out⟩
                case measure => rw [HR7.out.pos, HR.out.pos]; omega
    · have hne2 : P'.length ≠ 0 := fun h => hne (by rw [List.length_eq_zero_iff.1 h]; rfl)
      have h0 : (((P'.length : Nat) : Int) == 0) = false := by simp only [beq_eq_false_iff_ne, ne_eq]; omega
      have h0a : decide ((q : Int) < L.length) = false := by simp; omega
      have h0b : decide (q < L.length) = false := by simp; omega
      have HRe := Lib.hid hRe
      clear hRe hne hne2
      go_wp2
      go_quiet (fail)
      have HG2 := Lib.hid (HG.out.trans (grown_drewN wr nq (some Br)))
      have HO2 := Lib.hid (HO.out.grown (grown_drewN wr nq none) (fun j hj => by cases hj))
      clear c0 c1 c2 c3 f2 h0
      generalize wr.drewN nq = w2 at *
      go_wp2_with fail
      go_ret
      exact ⟨HG2.out, .inl ⟨by rw [HRe.out], _, _, rfl, by rw [HRe.out], HO2.out⟩⟩
end Go.Proofs.YtkmjmfcanlknjaaGreat
namespace Go.Proofs.YtkmjmfcanlknjaaGreat
open Go.RowKit

/-! ### a head -/
theorem one_rd (w : World) (t : TypeId) (q : Nat × Nat) (x : Nd) : RdNd (w.alloc (.cells #[.int .i64 x.k, .string x.n, .int .i64 x.c] t q)) (.slice (some ⟨w.heap.size, 0, none⟩) 1 1) [x] := by
  have hb := World.alloc_heap_new w (.cells #[.int .i64 x.k, .string x.n, .int .i64 x.c] t q)
  refine ⟨rfl, some ⟨w.heap.size, 0, none⟩, 1, rfl, Nat.le_refl 1, by decide, .inr ⟨w.heap.size, 0, rfl, (Array.getElem?_eq_some_iff.1 hb).1, fun j u hj => ?_⟩⟩
  have hlt : j < 3 := (List.getElem?_eq_some_iff.1 hj).1
  unfold World.cell?
  simp only [hb]
  rw [← hj]
  have : j = 0 ∨ j = 1 ∨ j = 2 := by omega
  rcases this with rfl | rfl | rfl <;> rfl
theorem tree_one (s : ByteArray) : treeB [⟨2, s, 0⟩] = nameB s 1 := by
  show (decide (0 < 1) && trB 1 [⟨2, s, 0⟩] 1) = _
  have hm : mayB ⟨2, s, 0⟩ = nameB s 1 := by simp [mayB]
  rw [trB_cons, if_neg (by omega), hm]
  cases h : nameB s 1 with
  | true => rw [if_pos ⟨rfl, by simp⟩, trB_nil]; rfl
  | false => rw [if_neg (by simp)]; rfl
theorem chk_one (s : ByteArray) : ChkS [⟨2, s, 0⟩] (if nameB s 1 = true then 0 else 170) := by
  cases h : nameB s 1 with
  | false => exact .inr (.inl ⟨by simp, by rw [tree_one, h], by simp⟩)
  | true =>
    have hm : mayN ⟨2, s, 0⟩ := (mayB_iff _).1 (by simp [mayB, h])
    refine .inr (.inr ⟨by simp, ⟨2, s, 0⟩, .nil, ⟨rfl, ⟨rfl, trivial, trivial⟩, ⟨hm, trivial, trivial⟩⟩, ?_⟩)
    have hs := hm.size
    rw [if_pos rfl]
    unfold boundsF
    have e : txN ⟨2, s, 0⟩ Fo.nil.tx = s := rfl
    simp only at hs
    rw [e, if_neg (by simp [Fo.height]), if_neg (by omega)]
set_option maxRecDepth 100000 in
set_option maxHeartbeats 1600000 in
theorem xHeaded_any (s : ByteArray) (w : World) : Calls Tryz.prog 62 #[.string s] w fun e w' => e = .returned (.bool (nameB s 1)) ∧ Below w.heap.size w w' := by
  have HC := Lib.hid (fun v w h => xCheck_any v [⟨2, s, 0⟩] _ w h (chk_one s) (by simp))
  have HR := Lib.hid (fun w t q => one_rd w t q ⟨2, s, 0⟩)
  cases hb : nameB s 1 with
  | true =>
    rw [hb, if_pos rfl] at HC
    clear hb
    go_enter Tryz.func62, Tryz.ntmps62
    go_wp2_with fail
    refine (HC.out _ _ (HR.out _ _ _)).mono ?_
    rintro e w2 ⟨rfl, hb2⟩
    have HB2 := Lib.hid ((below1 w _).trans (hb2.mono (by simp)))
    clear hb2
    go_wp2_with fail
    go_ret
    exact ⟨rfl, HB2.out⟩
  | false =>
    rw [hb, if_neg (by simp)] at HC
    clear hb
    go_enter Tryz.func62, Tryz.ntmps62
    go_wp2_with fail
    refine (HC.out _ _ (HR.out _ _ _)).mono ?_
    rintro e w2 ⟨rfl, hb2⟩
    have HB2 := Lib.hid ((below1 w _).trans (hb2.mono (by simp)))
    clear hb2
    go_wp2_with fail
    go_ret
    exact ⟨rfl, HB2.out⟩
/-! ### is a rule wrong? -/
def badR (r : Ru) : Bool := !(nameB r.h 1 && treeB r.b)
set_option maxRecDepth 100000 in
set_option maxHeartbeats 1600000 in
theorem xBad_any (r : Ru) (v : Value) (w : World) (h : RdNd w v r.b) (hl : r.b.length ≤ 16777216) :
    Calls Tryz.prog 61 #[.agg #[.string r.h, v]] w fun e w' => e = .returned (.bool (badR r)) ∧ Below w.heap.size w w' := by
  obtain ⟨rh, rb⟩ := r
  simp only at h hl
  obtain ⟨hh, em, hT⟩ := treeS_ex rb
  have HH := Lib.hid (fun w h => xHeightT_any v rb hh em w h hT hl)
  have HX := Lib.hid xHeaded_any
  have HV := Lib.hid h
  have hz : (hh == 0) = !treeB rb := by
    rcases hT with ⟨h1, rfl, -⟩ | ⟨x, k, hG, rfl, -⟩
    · rw [h1]; rfl
    · rw [hG.tree]; simp; omega
  obtain ⟨_, ao, cap, rfl, -⟩ := h
  have HB : Hid (badR ⟨rh, rb⟩ = (!nameB rh 1 || (hh == 0))) := by unfold Hid badR; rw [hz]; cases nameB rh 1 <;> cases treeB rb <;> rfl
  clear hz hT
  generalize badR ⟨rh, rb⟩ = bd at *
  generalize rb.length = n at *
  cases hb : nameB rh 1 with
  | false =>
    rw [hb] at HB
    have HX2 := Lib.hid (HX.out rh)
    rw [hb] at HX2
    clear hb HX
    go_enter Tryz.func61, Tryz.ntmps61
    go_wp2_with (go_at_call 62; refine (HX2.out _).mono ?_; rintro e w2 ⟨rfl, hb2⟩; have HB2 := Lib.hid ((below1 w _).trans (hb2.mono (by simp))); clear hb2)
    go_ret
    exact ⟨by rw [HB.out]; rfl, HB2.out⟩
  | true =>
    rw [hb] at HB
    have HX2 := Lib.hid (HX.out rh)
    rw [hb] at HX2
    clear hb HX
    have hB1 : Hid (Below w.heap.size w (w.alloc (.cells #[.string rh, .slice ao n cap] 47))) := below1 w _
    go_enter Tryz.func61, Tryz.ntmps61
    go_wp2_with fail
    have c1 : (w.alloc (.cells #[.string rh, .slice ao n cap] 47)).cell? ⟨w.heap.size, 1, none⟩ = some (.slice ao n cap) := by simp
    have hlt : w.heap.size < (w.alloc (.cells #[.string rh, .slice ao n cap] 47)).heap.size := by simp
    generalize w.alloc (.cells #[.string rh, .slice ao n cap] 47) = w1 at *
    refine (HX2.out _).mono ?_
    rintro e w2 ⟨rfl, hb2⟩
    have C1 := (hb2.cell (p := ⟨w.heap.size, 1, none⟩) hlt).trans c1
    have HB2 := Lib.hid (hB1.out.trans (hb2.mono hB1.out.size))
    clear hb2 c1
    go_wp2_with (go_at_call 63; refine (HH.out _ (HV.out.below HB2.out)).mono ?_; rintro e w3 ⟨rfl, hb3⟩; have HB3 := Lib.hid (HB2.out.trans (hb3.mono HB2.out.size)); clear hb3)
    go_ret
    exact ⟨by rw [HB.out]; rfl, HB3.out⟩
noncomputable def deepR (r : Ru) : Bool := decide (16 < heightN r.b)
set_option maxRecDepth 100000 in
set_option maxHeartbeats 1600000 in
theorem xDeepR_any (r : Ru) (v : Value) (w : World) (h : RdNd w v r.b) (hl : r.b.length ≤ 16777216) (ht : treeB r.b = true) :
    Calls Tryz.prog 68 #[.agg #[.string r.h, v]] w fun e w' => e = .returned (.bool (deepR r)) ∧ Below w.heap.size w w' := by
  obtain ⟨rh, rb⟩ := r
  simp only at h hl ht
  obtain ⟨hh, em, hT⟩ := treeS_ex rb
  have HH := Lib.hid (fun w h => xHeightT_any v rb hh em w h hT hl)
  have HV := Lib.hid h
  have hz : hh = heightN rb := by
    rcases hT with ⟨h1, -, -⟩ | ⟨x, k, hG, rfl, -⟩
    · rw [ht] at h1; cases h1
    · rw [heightN_eq hG]
  subst hz
  obtain ⟨_, ao, cap, rfl, -⟩ := h
  have HB : Hid (deepR ⟨rh, rb⟩ = decide (16 < heightN rb)) := rfl
  clear hT ht
  generalize deepR ⟨rh, rb⟩ = bd at *
  generalize heightN rb = hn at *
  generalize rb.length = n at *
  go_enter Tryz.func68, Tryz.ntmps68
  go_wp2_with (go_at_call 63; refine (HH.out _ (HV.out.below (below1 w _))).mono ?_; rintro e w3 ⟨rfl, hb3⟩; have HB3 := Lib.hid ((below1 w _).trans (hb3.mono (by simp))); clear hb3)
  go_ret
  exact ⟨by rw [HB.out]; congr 1; simp; omega, HB3.out⟩
def SomeIx (a : Bool) (r : Int) : Prop := (r = -1 ∧ a = false) ∨ (0 ≤ r ∧ a = true)

set_option maxRecDepth 100000 in
set_option maxHeartbeats 1600000 in
theorem xBadIx_any (v : Value) (G : List Ru) (w : World) (h : RdRu w v G) (hl : G.length ≤ 140737488355328) (hn : nodesG G ≤ 16777216) :
    Calls Tryz.prog 101 #[v, .func (.func 61) #[] #[]] w fun e w' => ∃ r, e = .returned (.int .i64 r) ∧ Hid (SomeIx (G.any badR) r) ∧ Below w.heap.size w w' := by
  obtain ⟨P, rfl, hR⟩ := h
  have HR := Lib.hid hR
  have HN := Lib.hid hn
  obtain ⟨⟨_, ao, cap, rfl, -⟩, -⟩ := hR
  have hpl : P.length ≤ 140737488355328 := by rwa [List.length_map] at hl
  clear hn hl
  generalize hG : P.map (·.1) = G at *
  have HG := Lib.hid hG
  have HGL : Hid (G.length = P.length) := by unfold Hid; rw [← hG, List.length_map]
  clear hG
  go_enter Tryz.func101, Tryz.ntmps101
  go_wp2_with fail
  go_loopw [8] (fun i wr => ∃ j : Nat, j ≤ P.length ∧ i = .int .i64 j ∧ Hid (∀ q x, q < j → G[q]? = some x → badR x = false) ∧ Hid (Below w.heap.size w wr)) (fun i _ => P.length - (intOf i).toNat)
  case atStart => exact ⟨0, by omega, rfl, fun q x h => by omega, Below.refl _ _⟩
  case round =>
    obtain ⟨j, hj, rfl, HQ, HBel⟩ := hrel
    have hws := HBel.out.size
    by_cases hlt : j < P.length
    · obtain ⟨p, hp⟩ : ∃ p, P[j]? = some p := ⟨_, List.getElem?_eq_getElem hlt⟩
      obtain ⟨b, off, cp, e1, hb, hc, x0, x1, hrd⟩ := RdP.at HR.out hp
      simp only [Value.slice.injEq] at e1
      obtain ⟨rfl, -, rfl⟩ := e1
      have X0 := (HBel.out.cell (p := ⟨b, _, none⟩) hb).trans x0
      have X1 := (HBel.out.cell (p := ⟨b, _, none⟩) hb).trans x1
      have hbw : b < wr.heap.size := by omega
      have HGP : Hid (G[j]? = some p.1) := by unfold Hid; rw [← HG.out, List.getElem?_map, hp]; rfl
      have hmem := List.mem_of_getElem? HGP.out
      have hbn : p.1.b.length ≤ 16777216 := Nat.le_trans (body_le hmem) HN.out
      have HC := Lib.hid (xBad_any p.1 p.2 wr (hrd.below HBel.out) hbn)
      obtain ⟨_, ao3, cp3, hv2, -⟩ := id hrd
      obtain ⟨⟨ph, pb⟩, pv⟩ := p
      simp only at hv2 X0 X1 HGP HC
      subst hv2
      clear x0 x1 hp hrd hbn hmem
      cases hd : badR ⟨ph, pb⟩ with
      | true =>
        rw [hd] at HC
        have HLg : Hid (SomeIx (G.any badR) j) := .inr ⟨by omega, List.any_eq_true.2 ⟨_, List.mem_of_getElem? HGP.out, hd⟩⟩
        clear hd
        go_wp2_with (go_at_call 61; refine (HC.out).mono ?_; rintro e w2 ⟨rfl, hb2⟩)
        go_ret
        exact ⟨_, rfl, HLg.out, HBel.out.trans (hb2.mono hws)⟩
      | false =>
        rw [hd] at HC
        have HQ2 : Hid (∀ q y, q < j + 1 → G[q]? = some y → badR y = false) := fun q y hq hy => by
          by_cases h : q = j
          · subst h; rw [HGP.out] at hy; injection hy with hy; subst hy; exact hd
          · exact HQ.out q y (by omega) hy
        clear hd
        go_wp2_with (go_at_call 61; refine (HC.out).mono ?_; rintro e w2 ⟨rfl, hb2⟩; have HB2 := Lib.hid hb2; clear hb2)
        go_roundw
        case rel => exact ⟨j + 1, by omega, by go_num, HQ2.out, HBel.out.trans (HB2.out.mono hws)⟩
        case measure => simp [intOf]; omega
    · have HLg : Hid (SomeIx (G.any badR) (-1)) := by
        refine .inl ⟨rfl, ?_⟩
        rw [List.any_eq_false]
        intro x hx
        obtain ⟨q, hq⟩ := List.getElem?_of_mem hx
        have := HQ.out q x (by have := (List.getElem?_eq_some_iff.1 hq).1; have := HGL.out; omega) hq
        simpa using this
      go_wp2_with fail
      go_ret
      exact ⟨_, rfl, HLg.out, HBel.out⟩
set_option maxRecDepth 100000 in
set_option maxHeartbeats 1600000 in
theorem xBadCo_any (v : Value) (G : List Ru) (w : World) (h : RdRu w v G) (hl : G.length ≤ 140737488355328) (hn : nodesG G ≤ 16777216) :
    Calls Tryz.prog 59 #[v, .func (.func 61) #[] #[]] w fun e w' => e = .returned (.bool (G.any badR)) ∧ Below w.heap.size w w' := by
  have HI := Lib.hid (xBadIx_any v G w h hl hn)
  obtain ⟨P, rfl, hR⟩ := h
  obtain ⟨⟨_, ao, cap, rfl, -⟩, -⟩ := hR
  generalize P.map (·.1) = G at *
  go_enter Tryz.func59, Tryz.ntmps59
  go_wp2_with fail
  refine (HI.out).mono ?_
  rintro e w1 ⟨r, rfl, HL, hb1⟩
  rcases HL.out with ⟨rfl, h2⟩ | ⟨h1, h2⟩
  · have H2 := Lib.hid h2
    clear h2 HL HI
    go_wp2_with fail
    go_ret
    exact ⟨by rw [H2.out]; rfl, hb1⟩
  · have H2 := Lib.hid h2
    clear h2 HL HI
    go_wp2_with fail
    go_ret
    exact ⟨by rw [H2.out]; simp, hb1⟩

set_option maxRecDepth 100000 in
set_option maxHeartbeats 1600000 in
theorem xDpIx_any (v : Value) (G : List Ru) (w : World) (h : RdRu w v G) (hl : G.length ≤ 140737488355328) (hn : nodesG G ≤ 16777216) (ht : treesB G = true) :
    Calls Tryz.prog 101 #[v, .func (.func 68) #[] #[]] w fun e w' => ∃ r, e = .returned (.int .i64 r) ∧ Hid (SomeIx (G.any deepR) r) ∧ Below w.heap.size w w' := by
  obtain ⟨P, rfl, hR⟩ := h
  have HR := Lib.hid hR
  have HN := Lib.hid hn
  obtain ⟨⟨_, ao, cap, rfl, -⟩, -⟩ := hR
  have hpl : P.length ≤ 140737488355328 := by rwa [List.length_map] at hl
  clear hn hl
  generalize hG : P.map (·.1) = G at *
  have HG := Lib.hid hG
  have HGL : Hid (G.length = P.length) := by unfold Hid; rw [← hG, List.length_map]
  clear hG
  have HTr := Lib.hid ht
  clear ht
  go_enter Tryz.func101, Tryz.ntmps101
  go_wp2_with fail
  go_loopw [8] (fun i wr => ∃ j : Nat, j ≤ P.length ∧ i = .int .i64 j ∧ Hid (∀ q x, q < j → G[q]? = some x → deepR x = false) ∧ Hid (Below w.heap.size w wr)) (fun i _ => P.length - (intOf i).toNat)
  case atStart => exact ⟨0, by omega, rfl, fun q x h => by omega, Below.refl _ _⟩
  case round =>
    obtain ⟨j, hj, rfl, HQ, HBel⟩ := hrel
    have hws := HBel.out.size
    by_cases hlt : j < P.length
    · obtain ⟨p, hp⟩ : ∃ p, P[j]? = some p := ⟨_, List.getElem?_eq_getElem hlt⟩
      obtain ⟨b, off, cp, e1, hb, hc, x0, x1, hrd⟩ := RdP.at HR.out hp
      simp only [Value.slice.injEq] at e1
      obtain ⟨rfl, -, rfl⟩ := e1
      have X0 := (HBel.out.cell (p := ⟨b, _, none⟩) hb).trans x0
      have X1 := (HBel.out.cell (p := ⟨b, _, none⟩) hb).trans x1
      have hbw : b < wr.heap.size := by omega
      have HGP : Hid (G[j]? = some p.1) := by unfold Hid; rw [← HG.out, List.getElem?_map, hp]; rfl
      have hmem := List.mem_of_getElem? HGP.out
      have hbn : p.1.b.length ≤ 16777216 := Nat.le_trans (body_le hmem) HN.out
      have HC := Lib.hid (xDeepR_any p.1 p.2 wr (hrd.below HBel.out) hbn (trees_mem HTr.out hmem).2)
      obtain ⟨_, ao3, cp3, hv2, -⟩ := id hrd
      obtain ⟨⟨ph, pb⟩, pv⟩ := p
      simp only at hv2 X0 X1 HGP HC
      subst hv2
      clear x0 x1 hp hrd hbn hmem
      cases hd : deepR ⟨ph, pb⟩ with
      | true =>
        rw [hd] at HC
        have HLg : Hid (SomeIx (G.any deepR) j) := .inr ⟨by omega, List.any_eq_true.2 ⟨_, List.mem_of_getElem? HGP.out, hd⟩⟩
        clear hd
        go_wp2_with (go_at_call 68; refine (HC.out).mono ?_; rintro e w2 ⟨rfl, hb2⟩)
        go_ret
        exact ⟨_, rfl, HLg.out, HBel.out.trans (hb2.mono hws)⟩
      | false =>
        rw [hd] at HC
        have HQ2 : Hid (∀ q y, q < j + 1 → G[q]? = some y → deepR y = false) := fun q y hq hy => by
          by_cases h : q = j
          · subst h; rw [HGP.out] at hy; injection hy with hy; subst hy; exact hd
          · exact HQ.out q y (by omega) hy
        clear hd
        go_wp2_with (go_at_call 68; refine (HC.out).mono ?_; rintro e w2 ⟨rfl, hb2⟩; have HB2 := Lib.hid hb2; clear hb2)
        go_roundw
        case rel => exact ⟨j + 1, by omega, by go_num, HQ2.out, HBel.out.trans (HB2.out.mono hws)⟩
        case measure => simp [intOf]; omega
    · have HLg : Hid (SomeIx (G.any deepR) (-1)) := by
        refine .inl ⟨rfl, ?_⟩
        rw [List.any_eq_false]
        intro x hx
        obtain ⟨q, hq⟩ := List.getElem?_of_mem hx
        have := HQ.out q x (by have := (List.getElem?_eq_some_iff.1 hq).1; have := HGL.out; omega) hq
        simpa using this
      go_wp2_with fail
      go_ret
      exact ⟨_, rfl, HLg.out, HBel.out⟩
set_option maxRecDepth 100000 in
set_option maxHeartbeats 1600000 in
theorem xDpCo_any (v : Value) (G : List Ru) (w : World) (h : RdRu w v G) (hl : G.length ≤ 140737488355328) (hn : nodesG G ≤ 16777216) (ht : treesB G = true) :
    Calls Tryz.prog 59 #[v, .func (.func 68) #[] #[]] w fun e w' => e = .returned (.bool (G.any deepR)) ∧ Below w.heap.size w w' := by
  have HI := Lib.hid (xDpIx_any v G w h hl hn ht)
  obtain ⟨P, rfl, hR⟩ := h
  obtain ⟨⟨_, ao, cap, rfl, -⟩, -⟩ := hR
  generalize P.map (·.1) = G at *
  go_enter Tryz.func59, Tryz.ntmps59
  go_wp2_with fail
  refine (HI.out).mono ?_
  rintro e w1 ⟨r, rfl, HL, hb1⟩
  rcases HL.out with ⟨rfl, h2⟩ | ⟨h1, h2⟩
  · have H2 := Lib.hid h2
    clear h2 HL HI
    go_wp2_with fail
    go_ret
    exact ⟨by rw [H2.out]; rfl, hb1⟩
  · have H2 := Lib.hid h2
    clear h2 HL HI
    go_wp2_with fail
    go_ret
    exact ⟨by rw [H2.out]; simp, hb1⟩
end Go.Proofs.YtkmjmfcanlknjaaGreat
namespace Go.Proofs.YtkmjmfcanlknjaaGreat
open Go.RowKit

/-! ### bnf.long -/
theorem xLongN_any (x : Nd) (w : World) :
    Calls Tryz.prog 81 #[.agg #[.int .i64 x.k, .string x.n, .int .i64 x.c]] w fun e w' => e = .returned (.bool (decide (16 < x.n.size))) ∧ Below w.heap.size w w' := by
  by_cases h : 16 < x.n.size
  · have HD : Hid (decide (16 < x.n.size) = true) := by unfold Hid; simpa using h
    go_enter Tryz.func81, Tryz.ntmps81
    go_wp2_with fail
    go_ret
    exact ⟨by first | (rw [HD.out]; rfl) | (simp; omega) | (simp [h]; omega), below1 _ _⟩
  · have HD : Hid (decide (16 < x.n.size) = false) := by unfold Hid; simpa using h
    go_enter Tryz.func81, Tryz.ntmps81
    go_wp2_with fail
    go_ret
    exact ⟨by first | (rw [HD.out]; rfl) | (simp; omega) | (simp [h]; omega), below1 _ _⟩
set_option maxRecDepth 100000 in
set_option maxHeartbeats 1600000 in
theorem xLongNIx_any (v : Value) (l : List Nd) (w : World) (h : RdNd w v l) (hl : l.length ≤ 140737488355328) :
    Calls Tryz.prog 114 #[v, .func (.func 81) #[] #[]] w fun e w' => ∃ r, e = .returned (.int .i64 r) ∧ Hid (LongIx l r) ∧ Below w.heap.size w w' := by
  have HR := Lib.hid h
  obtain ⟨_, ao, cap, rfl, -⟩ := h
  go_enter Tryz.func114, Tryz.ntmps114
  go_wp2_with fail
  go_loopw [8] (fun i wr => ∃ j : Nat, j ≤ l.length ∧ i = .int .i64 j ∧ Hid (∀ q x, q < j → l[q]? = some x → ¬ 16 < x.n.size) ∧ Hid (Below w.heap.size w wr)) (fun i _ => l.length - (intOf i).toNat)
  case atStart => exact ⟨0, by omega, rfl, fun q x h => by omega, Below.refl _ _⟩
  case round =>
    obtain ⟨j, hj, rfl, HQ, HBel⟩ := hrel
    by_cases hlt : j < l.length
    · obtain ⟨x, hx⟩ : ∃ x, l[j]? = some x := ⟨_, List.getElem?_eq_getElem hlt⟩
      obtain ⟨b, off, cp, e1, hb, hc, x0, x1, x2⟩ := RdNd.at HR.out hx
      simp only [Value.slice.injEq] at e1
      obtain ⟨rfl, -, rfl⟩ := e1
      have X0 := (HBel.out.cell (p := ⟨b, _, none⟩) hb).trans x0
      have X1 := (HBel.out.cell (p := ⟨b, _, none⟩) hb).trans x1
      have X2 := (HBel.out.cell (p := ⟨b, _, none⟩) hb).trans x2
      have HL := Lib.hid (fun w => xLongN_any x w)
      have HX := Lib.hid hx
      have hws := HBel.out.size
      clear x0 x1 x2 hx
      cases hd : decide (16 < x.n.size) with
      | true =>
        rw [hd] at HL
        have HLg : Hid (LongIx l j) := .inr ⟨by omega, by unfold longN; rw [List.any_eq_true]; exact ⟨x, List.mem_of_getElem? HX.out, hd⟩⟩
        clear hd
        go_wp2_with (go_at_call 81; refine (HL.out _).mono ?_; rintro e w2 ⟨rfl, hb2⟩)
        go_ret
        exact ⟨_, rfl, HLg.out, HBel.out.trans (hb2.mono hws)⟩
      | false =>
        rw [hd] at HL
        have HQ2 : Hid (∀ q y, q < j + 1 → l[q]? = some y → ¬ 16 < y.n.size) := fun q y hq hy => by
          by_cases h : q = j
          · subst h; rw [HX.out] at hy; injection hy with hy; subst hy; simpa using hd
          · exact HQ.out q y (by omega) hy
        clear hd
        go_wp2_with (go_at_call 81; refine (HL.out _).mono ?_; rintro e w2 ⟨rfl, hb2⟩; have HB2 := Lib.hid hb2; clear hb2)
        go_roundw
        case rel => exact ⟨j + 1, by omega, by go_num, HQ2.out, HBel.out.trans (HB2.out.mono hws)⟩
        case measure => simp [intOf]; omega
    · have HLg : Hid (LongIx l (-1)) := by
        refine .inl ⟨rfl, ?_⟩
        unfold longN
        rw [List.any_eq_false]
        intro x hx
        obtain ⟨q, hq⟩ := List.getElem?_of_mem hx
        have := HQ.out q x (by have := (List.getElem?_eq_some_iff.1 hq).1; omega) hq
        simpa using this
      go_wp2_with fail
      go_ret
      exact ⟨_, rfl, HLg.out, HBel.out⟩
set_option maxHeartbeats 1600000 in
theorem xLongNCo_any (v : Value) (l : List Nd) (w : World) (h : RdNd w v l) (hl : l.length ≤ 140737488355328) :
    Calls Tryz.prog 80 #[v, .func (.func 81) #[] #[]] w fun e w' => e = .returned (.bool (longN l)) ∧ Below w.heap.size w w' := by
  have HI := Lib.hid (xLongNIx_any v l w h hl)
  obtain ⟨_, ao, cap, rfl, -⟩ := h
  go_enter Tryz.func80, Tryz.ntmps80
  go_wp2_with fail
  refine (HI.out).mono ?_
  rintro e w1 ⟨r, rfl, HL, hb1⟩
  rcases HL.out with ⟨rfl, h2⟩ | ⟨h1, h2⟩
  · have H2 := Lib.hid h2
    clear h2 HL HI
    go_wp2_with fail
    go_ret
    exact ⟨by rw [H2.out]; rfl, hb1⟩
  · have H2 := Lib.hid h2
    clear h2 HL HI
    go_wp2_with fail
    go_ret
    exact ⟨by rw [H2.out]; rfl, hb1⟩

def longR (r : Ru) : Bool := decide (16 < r.h.size) || longN r.b
theorem longG_any (G : List Ru) : longG G = G.any longR := rfl
set_option maxRecDepth 100000 in
set_option maxHeartbeats 1600000 in
theorem xLongR_any (r : Ru) (v : Value) (w : World) (h : RdNd w v r.b) (hl : r.b.length ≤ 16777216) :
    Calls Tryz.prog 79 #[.agg #[.string r.h, v]] w fun e w' => e = .returned (.bool (longR r)) ∧ Below w.heap.size w w' := by
  obtain ⟨rh, rb⟩ := r
  simp only at h hl
  have HC := Lib.hid (fun w h => xLongNCo_any v rb w h (by omega))
  have HV := Lib.hid h
  obtain ⟨_, ao, cap, rfl, -⟩ := h
  by_cases hh : 16 < rh.size
  · have hh2 : decide (16 < rh.size) = true := by simpa using hh
    have HB : Hid (longR ⟨rh, rb⟩ = true) := by unfold Hid longR; simp only; rw [hh2]; rfl
    go_enter Tryz.func79, Tryz.ntmps79
    go_wp2_with fail
    go_ret
    exact ⟨by rw [HB.out]; rfl, below1 _ _⟩
  · have hh2 : decide (16 < rh.size) = false := by simpa using hh
    have hh3 : decide ((16 : Int) < (rh.size : Int)) = false := by simp; omega
    have HB : Hid (longR ⟨rh, rb⟩ = longN rb) := by unfold Hid longR; simp only; rw [hh2]; rfl
    have HB1 : Hid (Below w.heap.size w (w.alloc (.cells #[.string rh, .slice ao rb.length cap] 47))) := below1 w _
    generalize rb.length = n at *
    go_enter Tryz.func79, Tryz.ntmps79
    go_wp2_with fail
    refine (HC.out _ (HV.out.below HB1.out)).mono ?_
    rintro e w2 ⟨rfl, hb2⟩
    have HB2 := Lib.hid (HB1.out.trans (hb2.mono HB1.out.size))
    clear hb2
    go_wp2_with fail
    go_ret
    exact ⟨by rw [HB.out]; rfl, HB2.out⟩
set_option maxRecDepth 100000 in
set_option maxHeartbeats 1600000 in
theorem xLongIx_any (v : Value) (G : List Ru) (w : World) (h : RdRu w v G) (hl : G.length ≤ 140737488355328) (hn : nodesG G ≤ 16777216) :
    Calls Tryz.prog 101 #[v, .func (.func 79) #[] #[]] w fun e w' => ∃ r, e = .returned (.int .i64 r) ∧ Hid (SomeIx (G.any longR) r) ∧ Below w.heap.size w w' := by
  obtain ⟨P, rfl, hR⟩ := h
  have HR := Lib.hid hR
  have HN := Lib.hid hn
  obtain ⟨⟨_, ao, cap, rfl, -⟩, -⟩ := hR
  have hpl : P.length ≤ 140737488355328 := by rwa [List.length_map] at hl
  clear hn hl
  generalize hG : P.map (·.1) = G at *
  have HG := Lib.hid hG
  have HGL : Hid (G.length = P.length) := by unfold Hid; rw [← hG, List.length_map]
  clear hG
  go_enter Tryz.func101, Tryz.ntmps101
  go_wp2_with fail
  go_loopw [8] (fun i wr => ∃ j : Nat, j ≤ P.length ∧ i = .int .i64 j ∧ Hid (∀ q x, q < j → G[q]? = some x → longR x = false) ∧ Hid (Below w.heap.size w wr)) (fun i _ => P.length - (intOf i).toNat)
  case atStart => exact ⟨0, by omega, rfl, fun q x h => by omega, Below.refl _ _⟩
  case round =>
    obtain ⟨j, hj, rfl, HQ, HBel⟩ := hrel
    have hws := HBel.out.size
    by_cases hlt : j < P.length
    · obtain ⟨p, hp⟩ : ∃ p, P[j]? = some p := ⟨_, List.getElem?_eq_getElem hlt⟩
      obtain ⟨b, off, cp, e1, hb, hc, x0, x1, hrd⟩ := RdP.at HR.out hp
      simp only [Value.slice.injEq] at e1
      obtain ⟨rfl, -, rfl⟩ := e1
      have X0 := (HBel.out.cell (p := ⟨b, _, none⟩) hb).trans x0
      have X1 := (HBel.out.cell (p := ⟨b, _, none⟩) hb).trans x1
      have hbw : b < wr.heap.size := by omega
      have HGP : Hid (G[j]? = some p.1) := by unfold Hid; rw [← HG.out, List.getElem?_map, hp]; rfl
      have hmem := List.mem_of_getElem? HGP.out
      have hbn : p.1.b.length ≤ 16777216 := Nat.le_trans (body_le hmem) HN.out
      have HC := Lib.hid (xLongR_any p.1 p.2 wr (hrd.below HBel.out) hbn)
      obtain ⟨_, ao3, cp3, hv2, -⟩ := id hrd
      obtain ⟨⟨ph, pb⟩, pv⟩ := p
      simp only at hv2 X0 X1 HGP HC
      subst hv2
      clear x0 x1 hp hrd hbn hmem
      cases hd : longR ⟨ph, pb⟩ with
      | true =>
        rw [hd] at HC
        have HLg : Hid (SomeIx (G.any longR) j) := .inr ⟨by omega, List.any_eq_true.2 ⟨_, List.mem_of_getElem? HGP.out, hd⟩⟩
        clear hd
        go_wp2_with (go_at_call 79; refine (HC.out).mono ?_; rintro e w2 ⟨rfl, hb2⟩)
        go_ret
        exact ⟨_, rfl, HLg.out, HBel.out.trans (hb2.mono hws)⟩
      | false =>
        rw [hd] at HC
        have HQ2 : Hid (∀ q y, q < j + 1 → G[q]? = some y → longR y = false) := fun q y hq hy => by
          by_cases h : q = j
          · subst h; rw [HGP.out] at hy; injection hy with hy; subst hy; exact hd
          · exact HQ.out q y (by omega) hy
        clear hd
        go_wp2_with (go_at_call 79; refine (HC.out).mono ?_; rintro e w2 ⟨rfl, hb2⟩; have HB2 := Lib.hid hb2; clear hb2)
        go_roundw
        case rel => exact ⟨j + 1, by omega, by go_num, HQ2.out, HBel.out.trans (HB2.out.mono hws)⟩
        case measure => simp [intOf]; omega
    · have HLg : Hid (SomeIx (G.any longR) (-1)) := by
        refine .inl ⟨rfl, ?_⟩
        rw [List.any_eq_false]
        intro x hx
        obtain ⟨q, hq⟩ := List.getElem?_of_mem hx
        have := HQ.out q x (by have := (List.getElem?_eq_some_iff.1 hq).1; have := HGL.out; omega) hq
        simpa using this
      go_wp2_with fail
      go_ret
      exact ⟨_, rfl, HLg.out, HBel.out⟩
set_option maxRecDepth 100000 in
set_option maxHeartbeats 1600000 in
theorem xLongCo_any (v : Value) (G : List Ru) (w : World) (h : RdRu w v G) (hl : G.length ≤ 140737488355328) (hn : nodesG G ≤ 16777216) :
    Calls Tryz.prog 59 #[v, .func (.func 79) #[] #[]] w fun e w' => e = .returned (.bool (G.any longR)) ∧ Below w.heap.size w w' := by
  have HI := Lib.hid (xLongIx_any v G w h hl hn)
  obtain ⟨P, rfl, hR⟩ := h
  obtain ⟨⟨_, ao, cap, rfl, -⟩, -⟩ := hR
  generalize P.map (·.1) = G at *
  go_enter Tryz.func59, Tryz.ntmps59
  go_wp2_with fail
  refine (HI.out).mono ?_
  rintro e w1 ⟨r, rfl, HL, hb1⟩
  rcases HL.out with ⟨rfl, h2⟩ | ⟨h1, h2⟩
  · have H2 := Lib.hid h2
    clear h2 HL HI
    go_wp2_with fail
    go_ret
    exact ⟨by rw [H2.out]; rfl, hb1⟩
  · have H2 := Lib.hid h2
    clear h2 HL HI
    go_wp2_with fail
    go_ret
    exact ⟨by rw [H2.out]; simp, hb1⟩

set_option maxRecDepth 100000 in
set_option maxHeartbeats 1600000 in
theorem xLongG_any (v : Value) (G : List Ru) (w : World) (h : RdRu w v G) (hl : G.length ≤ 140737488355328) (hn : nodesG G ≤ 16777216) :
    Calls Tryz.prog 39 #[v] w fun e w' => e = .returned (.bool (longG G)) ∧ Below w.heap.size w w' := by
  have HI := Lib.hid (xLongCo_any v G w h hl hn)
  obtain ⟨P, rfl, hR⟩ := h
  obtain ⟨⟨_, ao, cap, rfl, -⟩, -⟩ := hR
  rw [longG_any]
  generalize P.map (·.1) = G at *
  go_enter Tryz.func39, Tryz.ntmps39
  go_wp2_with fail
  refine (HI.out).mono ?_
  rintro e w1 ⟨rfl, hb1⟩
  go_wp2_with fail
  go_ret
  exact ⟨rfl, hb1⟩
end Go.Proofs.YtkmjmfcanlknjaaGreat
namespace Go.Proofs.YtkmjmfcanlknjaaGreat
open Go.Shelf Go.RowKit
def bldRen : Go.Shelf.Ren := ⟨fun | 170 => 93 | 156 => 133 | 165 => 154 | 166 => 91 | 169 => 92 | 240 => 119 | 241 => 164 | 276 => 135 | 277 => 167 | n => n, fun | 31 => 40 | 9 => 9 | 3 => 3 | 4 => 4 | 0 => 0 | 20 => 20 | 72 => 119 | 76 => 123 | 70 => 116 | 37 => 117 | 75 => 122 | 127 => 148 | 164 => 164 | 5 => 5 | 80 => 125 | n => n, fun | n => n⟩
theorem bldW : Go.Proofs.Lays.n166 Tryz.prog Tryz.lays156_ren := {
  mixed := by kernel_rfl
  f166 := Tryz.func91.trans (congrArg some (by kernel_rfl))
  f240 := Tryz.func119.trans (congrArg some (by kernel_rfl))
  f276 := Tryz.func135.trans (congrArg some (by kernel_rfl))
  t0 := Tryz.underlying0
  a0 := Tryz.isAgg0
  z0 := Tryz.sizeOf0
  v0 := Tryz.zeroValue0
  t3 := Tryz.underlying3
  a3 := Tryz.isAgg3
  z3 := Tryz.sizeOf3
  v3 := Tryz.zeroValue3
  t4 := Tryz.underlying4
  a4 := Tryz.isAgg4
  z4 := Tryz.sizeOf4
  v4 := Tryz.zeroValue4
  t9 := Tryz.underlying9
  a9 := Tryz.isAgg9
  z9 := Tryz.sizeOf9
  v9 := Tryz.zeroValue9
  t20 := Tryz.underlying20
  a20 := Tryz.isAgg20
  z20 := Tryz.sizeOf20
  v20 := Tryz.zeroValue20
  t37 := Tryz.underlying117
  a37 := Tryz.isAgg117
  z37 := Tryz.sizeOf117
  v37 := Tryz.zeroValue117
  t70 := Tryz.underlying116
  a70 := Tryz.isAgg116
  z70 := Tryz.sizeOf116
  v70 := Tryz.zeroValue116
  t72 := Tryz.underlying119
  a72 := Tryz.isAgg119
  z72 := Tryz.sizeOf119
  v72 := Tryz.zeroValue119
  t75 := Tryz.underlying122
  a75 := Tryz.isAgg122
  z75 := Tryz.sizeOf122
  v75 := Tryz.zeroValue122
  t164 := Tryz.underlying164
  a164 := Tryz.isAgg164
  z164 := Tryz.sizeOf164
  v164 := Tryz.zeroValue164 }
theorem bldS : Go.Proofs.Lays.n169 Tryz.prog Tryz.lays156_ren := {
  mixed := by kernel_rfl
  f169 := Tryz.func92.trans (congrArg some (by kernel_rfl))
  t0 := Tryz.underlying0
  a0 := Tryz.isAgg0
  z0 := Tryz.sizeOf0
  v0 := Tryz.zeroValue0
  t3 := Tryz.underlying3
  a3 := Tryz.isAgg3
  z3 := Tryz.sizeOf3
  v3 := Tryz.zeroValue3
  t9 := Tryz.underlying9
  a9 := Tryz.isAgg9
  z9 := Tryz.sizeOf9
  v9 := Tryz.zeroValue9
  t37 := Tryz.underlying117
  a37 := Tryz.isAgg117
  z37 := Tryz.sizeOf117
  v37 := Tryz.zeroValue117
  t70 := Tryz.underlying116
  a70 := Tryz.isAgg116
  z70 := Tryz.sizeOf116
  v70 := Tryz.zeroValue116
  t72 := Tryz.underlying119
  a72 := Tryz.isAgg119
  z72 := Tryz.sizeOf119
  v72 := Tryz.zeroValue119
  t127 := Tryz.underlying148
  a127 := Tryz.isAgg148
  z127 := Tryz.sizeOf148
  v127 := Tryz.zeroValue148 }
theorem bldL : Go.Proofs.Lays.n170 Tryz.prog bldRen := {
  mixed := by kernel_rfl
  f170 := Tryz.func93.trans (congrArg some (by kernel_rfl))
  t0 := Tryz.underlying0
  a0 := Tryz.isAgg0
  z0 := Tryz.sizeOf0
  v0 := Tryz.zeroValue0
  t3 := Tryz.underlying3
  a3 := Tryz.isAgg3
  z3 := Tryz.sizeOf3
  v3 := Tryz.zeroValue3
  t37 := Tryz.underlying117
  a37 := Tryz.isAgg117
  z37 := Tryz.sizeOf117
  v37 := Tryz.zeroValue117
  t70 := Tryz.underlying116
  a70 := Tryz.isAgg116
  z70 := Tryz.sizeOf116
  v70 := Tryz.zeroValue116
  t72 := Tryz.underlying119
  a72 := Tryz.isAgg119
  z72 := Tryz.sizeOf119
  v72 := Tryz.zeroValue119 }
theorem bld_write (s : ByteArray) (w : World) (B b : Nat) (bs : List Value) (h : Lib.IsBuilder 119 5 B b bs w) (hlen : bs.length + s.size ≤ 140737488355328) (hBw : B ≤ w.heap.size) :
    Calls Tryz.prog 91 #[.pointer (some ⟨b, 0, none⟩), .string s] w fun e w' => e = .returned (.tuple #[.int .i64 s.size, .nilIface]) ∧ (Lib.BuilderAt 119 5 B b (.pointer (some ⟨b, 0, none⟩)) (bs ++ Lib.strCells s) w' ∧ Below B w w') :=
  Any.Builder_WriteString bldW Tryz.Builder_Extra_156 B b bs s w h hlen hBw
theorem bld_string (w : World) (B b : Nat) (s : ByteArray) (h : Lib.IsBuilder 119 5 B b (Lib.strCells s) w) (hBw : B ≤ w.heap.size) :
    Calls Tryz.prog 92 #[.pointer (some ⟨b, 0, none⟩)] w fun e w' => e = .returned (.string s) ∧ Lib.IsBuilderF 119 5 B b (Lib.strCells s) w' ∧ Below B w w' :=
  Any.Builder_String_any_f bldS Tryz.Builder_Extra_156 B b s.data.toList w (Lib.IsBuilderF.of h) hBw
theorem bld_len (w : World) (B b : Nat) (bs : List Value) (h : Lib.IsBuilderF 119 5 B b bs w) :
    Calls Tryz.prog 93 #[.pointer (some ⟨b, 0, none⟩)] w fun e w' => e = .returned (.int .i64 bs.length) ∧ w' = w :=
  Any.Builder_Len_f bldL B b bs w h
end Go.Proofs.YtkmjmfcanlknjaaGreat
namespace Go.Proofs.YtkmjmfcanlknjaaGreat
open Go.RowKit

/-! ### the occurrences -/
set_option maxRecDepth 100000 in
set_option maxHeartbeats 3200000 in
theorem xOccG_any (v : Value) (G : List Ru) (w : World) (h : RdRu w v G) (hl : LimG G) :
    Calls Tryz.prog 22 #[v] w fun e w' => e = .returned (.int .i64 (occG G)) ∧ Below w.heap.size w w' := by
  obtain ⟨P, rfl, hR⟩ := h
  have HR := Lib.hid hR
  have HL := Lib.hid hl
  obtain ⟨⟨_, ao, cap, rfl, -⟩, -⟩ := hR
  have hpl : P.length ≤ 4398046511104 := by have := hl.len; rwa [List.length_map] at this
  clear hl
  generalize hG : P.map (·.1) = G at *
  have HG := Lib.hid hG
  have HGL : Hid (G.length = P.length) := by unfold Hid; rw [← hG, List.length_map]
  clear hG
  have hle : Hid (∀ j, occG (G.take j) ≤ 4398046511104) := fun j => Nat.le_trans (occG_len _) (Nat.le_trans (nodesG_le G j) HL.out.nodes)
  go_enter Tryz.func22, Tryz.ntmps22
  go_wp2_with fail
  go_loopw [3, 8] (fun o i wr => ∃ j : Nat, i = .int .i64 j ∧ o = .int .i64 (occG (G.take j)) ∧ j ≤ P.length ∧ Hid (Below w.heap.size w wr)) (fun _ i _ => P.length - (intOf i).toNat)
  case atStart => exact ⟨0, rfl, rfl, by omega, Below.refl _ _⟩
  case round =>
    obtain ⟨j, rfl, rfl, hj, HBel⟩ := hrel
    have hws := HBel.out.size
    by_cases hlt : j < P.length
    · obtain ⟨p, hp⟩ : ∃ p, P[j]? = some p := ⟨_, List.getElem?_eq_getElem hlt⟩
      obtain ⟨b, off, cp, e1, hb, hc, x0, x1, hrd⟩ := RdP.at HR.out hp
      simp only [Value.slice.injEq] at e1
      obtain ⟨rfl, -, rfl⟩ := e1
      have X0 := (HBel.out.cell (p := ⟨b, _, none⟩) hb).trans x0
      have X1 := (HBel.out.cell (p := ⟨b, _, none⟩) hb).trans x1
      have hbw : b < wr.heap.size := by omega
      have HGP : Hid (G[j]? = some p.1) := by unfold Hid; rw [← HG.out, List.getElem?_map, hp]; rfl
      have hbl : p.1.b.length ≤ 4398046511104 := Nat.le_trans (body_le (List.mem_of_getElem? HGP.out)) HL.out.nodes
      have HC := Lib.hid (fun wx h => xOcc_any p.2 p.1.b wx h hbl)
      have HT := Lib.hid (occG_take G HGP.out)
      have h1 := hle.out j
      have h2 := hle.out (j + 1)
      rw [HT.out] at h2
      have HV := Lib.hid (hrd.below HBel.out)
      obtain ⟨_, ao3, cp3, hv2, -⟩ := id hrd
      obtain ⟨⟨ph, pb⟩, pv⟩ := p
      simp only at hv2 X0 X1 HGP HC HT HV h2
      subst hv2
      clear x0 x1 hp hrd hbl
      generalize (nmF pb 0).length = oc at *
      generalize occG (G.take j) = oj at *
      go_wp2_with (go_at_call 49; refine (HC.out _ (HV.out.below (below1 wr _))).mono ?_; rintro e w2 ⟨rfl, hb2⟩; have HB2 := Lib.hid (HBel.out.trans (((below1 wr _).trans (hb2.mono (by simp))).mono hws)); clear hb2)
      go_roundw
      case rel => exact ⟨j + 1, by go_num, by rw [HT.out]; simp, by omega, HB2.out⟩
      case measure => simp [intOf]; omega
    · obtain rfl : j = P.length := by omega
      have HE : Hid (occG (G.take P.length) = occG G) := by unfold Hid; rw [List.take_of_length_le (by have := HGL.out; omega)]
      go_wp2_with fail
      go_ret
      rw [HE.out]
      exact ⟨rfl, HBel.out⟩
/-! ### the text -/
theorem isB_below {T e : TypeId} {B b : Nat} {bs : List Value} {w w' : World} (h : Lib.IsBuilder T e B b bs w) (hb : Below w.heap.size w w') : Lib.IsBuilder T e B b bs w' := by
  have key : ∀ p, Lib.BuilderAt T e B b p bs w → Lib.BuilderAt T e B b p bs w' := by
    rintro p ⟨h1, v, h2, h3, h4⟩
    exact ⟨h1, v, (hb.block b (Lib.BuilderAt.lt ⟨h1, v, h2, h3, h4⟩)).trans h2, own_grown h3 (grown_below hb) (fun j hj => by cases hj), h4⟩
  exact h.elim (fun h => .inl (key _ h)) (fun h => .inr (key _ h))
theorem isB_lt {T e : TypeId} {B b : Nat} {bs : List Value} {w : World} (h : Lib.IsBuilder T e B b bs w) : b < w.heap.size := h.elim (·.lt) (·.lt)
theorem strCells_app (a b : ByteArray) : Lib.strCells (a ++ b) = Lib.strCells a ++ Lib.strCells b := by
  simp [Lib.strCells, ByteArray.data_append]
theorem strCells_len (a : ByteArray) : (Lib.strCells a).length = a.size := Lib.strCells_length a
/-- a body's printing: its text, or it is too wide -/
theorem prS_deep {N : List Nd} (ht : treeB N = true) (hd : ¬ 16 < heightN N) : (PrS N (textN N) 0 ∧ (textN N).size ≤ 2048) ∨ (∃ e, e ≠ 0 ∧ PrS N ⟨#[]⟩ e ∧ 2048 < (textN N).size) := by
  have hG := pickT_good ht
  have hh := heightN_eq hG
  have htx := textN_eq hG
  have hmin := good_min hG
  generalize (pickT N).1 = x at *
  generalize (pickT N).2 = k at *
  rw [htx]
  by_cases h1 : 2048 < (txN x k.tx).size
  · right
    by_cases h2 : 2048 < N.length
    · exact ⟨3, by omega, .inl ⟨by omega, .inl ⟨h2, rfl⟩, rfl⟩, h1⟩
    · exact ⟨174, by omega, .inl ⟨by omega, .inr (.inr ⟨by omega, x, k, hG, by unfold boundsF; rw [if_neg (by omega), if_pos h1]⟩), rfl⟩, h1⟩
  · left
    exact ⟨.inr ⟨rfl, by omega, x, k, hG, by unfold boundsF; rw [if_neg (by omega), if_neg h1], rfl⟩, by omega⟩
set_option maxRecDepth 100000 in
set_option maxHeartbeats 3200000 in
theorem xText_any (v : Value) (G : List Ru) (w : World) (h : RdRu w v G) (hl : G.length ≤ 64) (hn : nodesG G ≤ 16777216) (ht : treesB G = true) (hd : deepB G = false) :
    Calls Tryz.prog 44 #[v] w fun e w' => ∃ t, e = .returned (.tuple #[.string t, .bool (decide ((textG G).size ≤ 2048))]) ∧ ((textG G).size ≤ 2048 → t = textG G) ∧ Below w.heap.size w w' := by
  obtain ⟨P, rfl, hR⟩ := h
  have HR := Lib.hid hR
  have HTr := Lib.hid ht
  have HDp := Lib.hid hd
  have HN := Lib.hid hn
  obtain ⟨⟨_, ao, cap, rfl, -⟩, -⟩ := hR
  have hpl : P.length ≤ 64 := by rwa [List.length_map] at hl
  have hts := text_size _ ht
  rw [List.length_map] at hts
  have hts2 : (textG (P.map (·.1))).size ≤ 1099511627776 := by omega
  clear hl ht hd hn hts
  generalize hG : P.map (·.1) = G at *
  have HG := Lib.hid hG
  have HGL : Hid (G.length = P.length) := by unfold Hid; rw [← hG, List.length_map]
  clear hG
  have HTS := Lib.hid hts2
  clear hts2
  go_enter Tryz.func44, Tryz.ntmps44
  go_wp2_with fail
  go_loopw [11] (fun i wr => ∃ j : Nat, i = .int .i64 j ∧ j ≤ P.length ∧ Hid (Lib.IsBuilder 119 5 w.heap.size w.heap.size (Lib.strCells (textG (G.take j))) wr) ∧ Hid (Below w.heap.size w wr)) (fun i _ => P.length - (intOf i).toNat)
  case atStart => exact ⟨0, rfl, by omega, Lib.fresh_isBuilder _ _ w, below1 _ _⟩
  case round =>
    obtain ⟨j, rfl, hj, HBd, HBel⟩ := hrel
    have hws := HBel.out.size
    have hbw0 := isB_lt HBd.out
    by_cases hlt : j < P.length
    · obtain ⟨p, hp⟩ : ∃ p, P[j]? = some p := ⟨_, List.getElem?_eq_getElem hlt⟩
      obtain ⟨b, off, cp, e1, hb, hc, x0, x1, hrd⟩ := RdP.at HR.out hp
      simp only [Value.slice.injEq] at e1
      obtain ⟨rfl, -, rfl⟩ := e1
      have X0 := (HBel.out.cell (p := ⟨b, _, none⟩) hb).trans x0
      have X1 := (HBel.out.cell (p := ⟨b, _, none⟩) hb).trans x1
      have hbw : b < wr.heap.size := by omega
      have HGP : Hid (G[j]? = some p.1) := by unfold Hid; rw [← HG.out, List.getElem?_map, hp]; rfl
      have hmem := List.mem_of_getElem? HGP.out
      have hbl : p.1.b.length ≤ 4398046511104 := Nat.le_trans (body_le hmem) (by have := HN.out; omega)
      obtain ⟨hnm, htr⟩ := trees_mem HTr.out hmem
      have hdr : ¬ 16 < heightN p.1.b := by
        have h2 : (G.any fun r => decide (16 < heightN r.b)) = false := HDp.out
        rw [List.any_eq_false] at h2
        simpa using h2 _ hmem
      have HV := Lib.hid (hrd.below HBel.out)
      have HP := Lib.hid (fun t e wx h hS => xPrint_any p.2 p.1.b t e wx h hS hbl)
      have HT := Lib.hid (textG_take G HGP.out)
      have hle := textG_le G (j + 1)
      rw [HT.out, ByteArray.size_append] at hle
      have hru := rule_le G hmem
      have hsum : (textR p.1).size = p.1.h.size + 3 + (textN p.1.b).size + 3 := by
        unfold textR; rw [ByteArray.size_append, ByteArray.size_append, ByteArray.size_append]; rfl
      have htx := HTS.out
      have HTR : Hid (textR p.1 = p.1.h ++ (⟨#[32, 61, 32]⟩ : ByteArray) ++ textN p.1.b ++ (⟨#[32, 59, 10]⟩ : ByteArray)) := rfl
      obtain ⟨_, ao3, cp3, hv2, -⟩ := id hrd
      have hcase := prS_deep htr hdr
      obtain ⟨⟨ph, pb⟩, pv⟩ := p
      simp only at hv2 X0 X1 HGP HP HT HV hle hru hsum hcase HTR
      subst hv2
      clear x0 x1 hp hrd hbl hmem hnm htr hdr
      have HB1 : Hid (Below w.heap.size w (wr.alloc (.cells #[.string ph, .slice ao3 pb.length cp3] 47))) := HBel.out.alloc hws _
      have HBd1 : Hid (Lib.IsBuilder 119 5 w.heap.size w.heap.size (Lib.strCells (textG (G.take j))) (wr.alloc (.cells #[.string ph, .slice ao3 pb.length cp3] 47))) := isB_below HBd.out (below1 _ _)
      have HV1 : Hid (RdNd (wr.alloc (.cells #[.string ph, .slice ao3 pb.length cp3] 47)) (.slice ao3 pb.length cp3) pb) := HV.out.below (below1 _ _)
      have c0 : (wr.alloc (.cells #[.string ph, .slice ao3 pb.length cp3] 47)).cell? ⟨wr.heap.size, 0, none⟩ = some (.string ph) := by simp
      have hsz : wr.heap.size + 1 ≤ (wr.alloc (.cells #[.string ph, .slice ao3 pb.length cp3] 47)).heap.size := by simp
      go_wp2_with fail
      generalize wr.alloc (.cells #[.string ph, .slice ao3 pb.length cp3] 47) = w1 at *
      clear X0 X1 HBel HBd HV
      rcases hcase with ⟨hS, hw⟩ | ⟨e, he, hS, hw⟩
      · refine (HP.out _ _ _ HV1.out hS).mono ?_
        rintro en w2 ⟨rfl, hb2⟩
        have C0 := (hb2.cell (p := ⟨wr.heap.size, 0, none⟩) (by show wr.heap.size < w1.heap.size; omega)).trans c0
        have HB2 := Lib.hid (HB1.out.trans (hb2.mono HB1.out.size))
        have HBd2 := Lib.hid (isB_below HBd1.out hb2)
        have hw2 := hb2.size
        clear hb2 c0 hS HP
        have hcl : (Lib.strCells (textG (G.take j))).length = (textG (G.take j)).size := strCells_len _
        have HWS := Lib.hid (fun s hs => Go.Proofs.YtkmjmfcanlknjaaGreat.bld_write s w2 _ _ _ HBd2.out hs (by have := HB2.out.size; omega))
        generalize textN pb = tn at *
        have he1 : (⟨#[32, 61, 32]⟩ : ByteArray).size = 3 := rfl
        have he2 : (⟨#[32, 59, 10]⟩ : ByteArray).size = 3 := rfl
        go_wp2_with (go_at_call 91; refine (HWS.out _ (by rw [hcl, ByteArray.size_append, ByteArray.size_append, ByteArray.size_append, he1, he2]; omega)).mono ?_; rintro en w3 ⟨rfl, hbd3, hb3⟩; have HBd3 := Lib.hid hbd3; have HB3 := Lib.hid hb3; clear hbd3 hb3)
        go_roundw
        case rel =>
          refine ⟨j + 1, by go_num, by omega, ?_, HB2.out.trans HB3.out⟩
          have := HBd3.out
          unfold Hid
          rw [HT.out, HTR.out, strCells_app]
          exact .inr this
        case measure => simp [intOf]; omega
      · refine (HP.out _ _ _ HV1.out hS).mono ?_
        rintro en w2 ⟨rfl, hb2⟩
        have HB2 := Lib.hid (HB1.out.trans (hb2.mono HB1.out.size))
        have hbig : ¬ (textG G).size ≤ 2048 := by omega
        have hbd : decide ((textG G).size ≤ 2048) = false := by simpa using hbig
        have HD := Lib.hid hbd
        have HBg := Lib.hid hbig
        clear hb2 hS HP hbd hbig
        go_wp2_with fail
        go_ret2
        exact ⟨⟨#[]⟩, by rw [HD.out]; rfl, fun h => absurd h HBg.out, HB2.out⟩
    · obtain rfl : j = P.length := by omega
      have HE : Hid (G.take P.length = G) := by unfold Hid; rw [List.take_of_length_le (by have := HGL.out; omega)]
      rw [HE.out] at HBd
      have HS := Lib.hid (Go.Proofs.YtkmjmfcanlknjaaGreat.bld_string wr _ _ (textG G) HBd.out (by omega))
      have HLn := Lib.hid (fun wx h => Go.Proofs.YtkmjmfcanlknjaaGreat.bld_len wx w.heap.size w.heap.size (Lib.strCells (textG G)) h)
      have hcl : (Lib.strCells (textG G)).length = (textG G).size := strCells_len _
      have htx := HTS.out
      generalize (Lib.strCells (textG G)).length = ln at *
      have hd : decide (((textG G).size : Int) ≤ 2048) = decide ((textG G).size ≤ 2048) := by congr 1; simp; omega
      have HD := Lib.hid hd
      clear hd
      go_wp2_with fail
      refine (HS.out).mono ?_
      rintro en w2 ⟨rfl, hF, hb2⟩
      have HB2 := Lib.hid (HBel.out.trans hb2)
      have HF := Lib.hid hF
      clear hF hb2
      go_wp2_with fail
      refine (HLn.out _ HF.out).mono ?_
      rintro en w3 ⟨rfl, rfl⟩
      go_wp2_with fail
      go_ret2
      refine ⟨_, by rw [← HD.out]; rfl, fun _ => rfl, HB2.out⟩
end Go.Proofs.YtkmjmfcanlknjaaGreat
namespace Go.Proofs.YtkmjmfcanlknjaaGreat
open Go.RowKit

theorem any_bad (G : List Ru) : G.any badR = !treesB G := by
  unfold treesB
  induction G with
  | nil => rfl
  | cons r G ih => rw [List.any_cons, List.all_cons, ih, Bool.not_and]; rfl
theorem any_deep (G : List Ru) : G.any deepR = deepB G := rfl
def fnV (n : Nat) : Value := .func (.func n) #[] #[]
/-! ### the questions -/
set_option maxRecDepth 100000 in
set_option maxHeartbeats 1600000 in
theorem xQ0_any (v : Value) (G : List Ru) (w : World) (h : RdRu w v G) :
    Calls Tryz.prog 60 #[v] w fun e w' => e = .returned (.bool (ansQ G 0)) ∧ Below w.heap.size w w' := by
  obtain ⟨P, rfl, hR⟩ := h
  obtain ⟨⟨_, ao, cap, rfl, -⟩, -⟩ := hR
  have HA : Hid (ansQ (P.map (·.1)) 0 = decide (P.length < 1 ∨ 64 < P.length)) := by
    show decide ((P.map (·.1)).length < 1 ∨ 64 < (P.map (·.1)).length) = _
    rw [List.length_map]
  generalize ansQ (P.map (·.1)) 0 = q at *
  generalize P.length = n at *
  by_cases h1 : n < 1
  · go_enter Tryz.func60, Tryz.ntmps60
    go_wp2_with fail
    go_ret
    exact ⟨by rw [HA.out, decide_eq_true (.inl h1)]; rfl, Below.refl _ _⟩
  · have hd : decide (n < 1 ∨ 64 < n) = (decide ((n : Int) < 1) || decide ((64 : Int) < n)) := by rw [← Bool.decide_or, decide_eq_decide]; omega
    rw [hd] at HA
    clear hd
    go_enter Tryz.func60, Tryz.ntmps60
    go_wp2_with fail
    go_ret
    exact ⟨by rw [HA.out]; rfl, Below.refl _ _⟩
set_option maxRecDepth 100000 in
set_option maxHeartbeats 1600000 in
theorem xQ1_any (v : Value) (G : List Ru) (bx : Nat) (w : World) (h : RdRu w v G) (hl : G.length ≤ 140737488355328) (hn : nodesG G ≤ 16777216) (hx : w.cell? ⟨bx, 0, none⟩ = some (.func (.func 61) #[] #[])) :
    Calls Tryz.prog 58 #[v, .pointer (some ⟨bx, 0, none⟩)] w fun e w' => e = .returned (.bool (ansQ G 1)) ∧ Below w.heap.size w w' := by
  have HC := Lib.hid (xBadCo_any v G w h hl hn)
  have HA : Hid (ansQ G 1 = G.any badR) := (any_bad G).symm
  obtain ⟨P, rfl, hR⟩ := h
  obtain ⟨⟨_, ao, cap, rfl, -⟩, -⟩ := hR
  clear hn hl
  generalize P.map (·.1) = G at *
  go_enter Tryz.func58, Tryz.ntmps58
  go_wp2_with fail
  refine (HC.out).mono ?_
  rintro e w2 ⟨rfl, hb2⟩
  go_wp2_with fail
  go_ret
  exact ⟨by rw [HA.out]; rfl, hb2⟩
set_option maxRecDepth 100000 in
set_option maxHeartbeats 1600000 in
theorem xQ5_any (v : Value) (G : List Ru) (bx : Nat) (w : World) (h : RdRu w v G) (hl : G.length ≤ 140737488355328) (hn : nodesG G ≤ 16777216) (ht : treesB G = true) (hx : w.cell? ⟨bx, 0, none⟩ = some (.func (.func 68) #[] #[])) :
    Calls Tryz.prog 58 #[v, .pointer (some ⟨bx, 0, none⟩)] w fun e w' => e = .returned (.bool (ansQ G 5)) ∧ Below w.heap.size w w' := by
  have HC := Lib.hid (xDpCo_any v G w h hl hn ht)
  have HA : Hid (ansQ G 5 = G.any deepR) := rfl
  obtain ⟨P, rfl, hR⟩ := h
  obtain ⟨⟨_, ao, cap, rfl, -⟩, -⟩ := hR
  clear hn hl ht
  generalize P.map (·.1) = G at *
  go_enter Tryz.func58, Tryz.ntmps58
  go_wp2_with fail
  refine (HC.out).mono ?_
  rintro e w2 ⟨rfl, hb2⟩
  go_wp2_with fail
  go_ret
  exact ⟨by rw [HA.out]; rfl, hb2⟩
set_option maxRecDepth 100000 in
set_option maxHeartbeats 1600000 in
theorem xQ2_any (v : Value) (G : List Ru) (w : World) (h : RdRu w v G) (hl : LimG G) :
    Calls Tryz.prog 64 #[v] w fun e w' => e = .returned (.bool (ansQ G 2)) ∧ Below w.heap.size w w' := by
  have H1 := Lib.hid (xHeads_any v G w h hl)
  have H2 := Lib.hid (fun w h => xMissing_any v G w h hl)
  have HV := Lib.hid h
  have hm : missing G ≤ 4398046511104 := by
    unfold missing
    exact Nat.le_trans (List.length_filter_le _ _) (Nat.le_trans (used_len 2 G) hl.nodes)
  have hh : (heads G).length ≤ 4398046511104 := Nat.le_trans (heads_len G) hl.len
  have HA : Hid (ansQ G 2 = decide (16 < (heads G).length + missing G)) := rfl
  obtain ⟨P, rfl, hR⟩ := h
  obtain ⟨⟨_, ao, cap, rfl, -⟩, -⟩ := hR
  clear hl
  generalize P.map (·.1) = G at *
  generalize ansQ G 2 = q at *
  go_enter Tryz.func64, Tryz.ntmps64
  go_wp2_with fail
  refine (H1.out).mono ?_
  rintro e w1 ⟨v1, rfl, ho1, hb1⟩
  obtain ⟨ao1, cp1, rfl⟩ := own_str_shape ho1
  have HB1 := Lib.hid hb1
  clear ho1 hb1
  generalize (heads G).length = nh at *
  go_wp2_with fail
  refine (H2.out _ (HV.out.below HB1.out)).mono ?_
  rintro e w2 ⟨rfl, hb2⟩
  have HB2 := Lib.hid (HB1.out.trans (hb2.mono HB1.out.size))
  clear hb2
  generalize missing G = nm at *
  go_wp2_with fail
  go_ret
  exact ⟨by rw [HA.out]; congr 1; simp; omega, HB2.out⟩
set_option maxRecDepth 100000 in
set_option maxHeartbeats 1600000 in
theorem xQ3_any (v : Value) (G : List Ru) (w : World) (h : RdRu w v G) (hl : LimG G) :
    Calls Tryz.prog 66 #[v] w fun e w' => e = .returned (.bool (ansQ G 3)) ∧ Below w.heap.size w w' := by
  have H1 := Lib.hid (xLabels_any v G w h hl)
  have hh : (used 3 G).length ≤ 4398046511104 := Nat.le_trans (used_len 3 G) hl.nodes
  have HA : Hid (ansQ G 3 = decide (16 < (used 3 G).length)) := rfl
  obtain ⟨P, rfl, hR⟩ := h
  obtain ⟨⟨_, ao, cap, rfl, -⟩, -⟩ := hR
  clear hl
  generalize P.map (·.1) = G at *
  generalize ansQ G 3 = q at *
  go_enter Tryz.func66, Tryz.ntmps66
  go_wp2_with fail
  refine (H1.out).mono ?_
  rintro e w1 ⟨v1, rfl, ho1, hb1⟩
  obtain ⟨ao1, cp1, rfl⟩ := own_str_shape ho1
  have HB1 := Lib.hid hb1
  clear ho1 hb1
  generalize (used 3 G).length = nh at *
  go_wp2_with fail
  go_ret
  exact ⟨by rw [HA.out]; congr 1; simp; omega, HB1.out⟩
set_option maxRecDepth 100000 in
set_option maxHeartbeats 1600000 in
theorem xQ4_any (v : Value) (G : List Ru) (w : World) (h : RdRu w v G) (hl : LimG G) :
    Calls Tryz.prog 67 #[v] w fun e w' => e = .returned (.bool (ansQ G 4)) ∧ Below w.heap.size w w' := by
  have H1 := Lib.hid (xOccG_any v G w h hl)
  have HA : Hid (ansQ G 4 = decide (64 < occG G)) := rfl
  obtain ⟨P, rfl, hR⟩ := h
  obtain ⟨⟨_, ao, cap, rfl, -⟩, -⟩ := hR
  clear hl
  generalize P.map (·.1) = G at *
  generalize ansQ G 4 = q at *
  generalize occG G = oc at *
  go_enter Tryz.func67, Tryz.ntmps67
  go_wp2_with fail
  refine (H1.out).mono ?_
  rintro e w1 ⟨rfl, hb1⟩
  go_wp2_with fail
  go_ret
  exact ⟨by rw [HA.out]; congr 1; simp; omega, hb1⟩
set_option maxRecDepth 100000 in
set_option maxHeartbeats 1600000 in
theorem xQ6_any (v : Value) (G : List Ru) (w : World) (h : RdRu w v G) (hl : LimG G) :
    Calls Tryz.prog 69 #[v] w fun e w' => e = .returned (.bool (ansQ G 6)) ∧ Below w.heap.size w w' := by
  have H1 := Lib.hid (xMissing_any v G w h hl)
  have HA : Hid (ansQ G 6 = decide (0 < missing G)) := rfl
  obtain ⟨P, rfl, hR⟩ := h
  obtain ⟨⟨_, ao, cap, rfl, -⟩, -⟩ := hR
  clear hl
  generalize P.map (·.1) = G at *
  generalize ansQ G 6 = q at *
  generalize missing G = oc at *
  go_enter Tryz.func69, Tryz.ntmps69
  go_wp2_with fail
  refine (H1.out).mono ?_
  rintro e w1 ⟨rfl, hb1⟩
  go_wp2_with fail
  go_ret
  exact ⟨by rw [HA.out]; first | rfl | (congr 1; simp), hb1⟩
set_option maxRecDepth 100000 in
set_option maxHeartbeats 1600000 in
theorem xQ7_any (v : Value) (G : List Ru) (w : World) (h : RdRu w v G) (hl : G.length ≤ 64) (hn : nodesG G ≤ 16777216) (ht : treesB G = true) (hd : deepB G = false) :
    Calls Tryz.prog 70 #[v] w fun e w' => e = .returned (.bool (ansQ G 7)) ∧ Below w.heap.size w w' := by
  have H1 := Lib.hid (xText_any v G w h hl hn ht hd)
  have HA : Hid (ansQ G 7 = !decide ((textG G).size ≤ 2048)) := by
    show decide (2048 < (textG G).size) = _
    rw [← decide_not, decide_eq_decide]; omega
  obtain ⟨P, rfl, hR⟩ := h
  obtain ⟨⟨_, ao, cap, rfl, -⟩, -⟩ := hR
  clear hl hn ht hd
  generalize P.map (·.1) = G at *
  generalize ansQ G 7 = q at *
  generalize textG G = tx at *
  go_enter Tryz.func70, Tryz.ntmps70
  go_wp2_with fail
  refine (H1.out).mono ?_
  rintro e w1 ⟨t, rfl, -, hb1⟩
  go_wp2_with fail
  go_ret
  exact ⟨by rw [HA.out]; rfl, hb1⟩
/-! ### the list of the questions -/
set_option maxRecDepth 100000 in
set_option maxHeartbeats 1600000 in
theorem xOrder1_any (g : Nat) (w : World) :
    Calls Tryz.prog 57 #[.func (.func g) #[] #[]] w fun e w' => e = .returned (.func (.func 58) #[] #[.pointer (some ⟨w.heap.size, 0, none⟩)]) ∧ w' = w.alloc (.cells #[.func (.func g) #[] #[]] 88) := by
  go_enter Tryz.func57, Tryz.ntmps57
  go_wp2_with fail
  go_ret
  exact ⟨rfl, rfl⟩
def orderV (B : Nat) : List Value :=
  [.func (.func 60) #[] #[], .int .i64 180, .func (.func 58) #[] #[.pointer (some ⟨B, 0, none⟩)], .int .i64 170,
   .func (.func 64) #[] #[], .int .i64 181, .func (.func 66) #[] #[], .int .i64 182,
   .func (.func 67) #[] #[], .int .i64 183, .func (.func 58) #[] #[.pointer (some ⟨B + 1, 0, none⟩)], .int .i64 171,
   .func (.func 69) #[] #[], .int .i64 184, .func (.func 70) #[] #[], .int .i64 174]
theorem new_cells0 (w : World) (xs : List Value) (t : TypeId) (B C : Obj) (j : Nat) (u : Value) (h : xs[j]? = some u) : (((w.alloc (.cells xs.toArray t)).alloc B).alloc C).cell? ⟨w.heap.size, j, none⟩ = some u := by
  have h1 : (w.alloc (.cells xs.toArray t)).cell? ⟨w.heap.size, j, none⟩ = some u := by have := cells_new w xs t j u h; rwa [Addr.add_lit, Nat.zero_add] at this
  exact ((below2 _ B C).cell (p := ⟨w.heap.size, j, none⟩) (by simp)).trans h1
theorem new_cells1 (w : World) (A : Obj) (xs : List Value) (t : TypeId) (C : Obj) (j : Nat) (u : Value) (h : xs[j]? = some u) : (((w.alloc A).alloc (.cells xs.toArray t)).alloc C).cell? ⟨w.heap.size + 1, j, none⟩ = some u := by
  have h1 : ((w.alloc A).alloc (.cells xs.toArray t)).cell? ⟨w.heap.size + 1, j, none⟩ = some u := by have := cells_new (w.alloc A) xs t j u h; rw [Addr.add_lit, Nat.zero_add] at this; simpa using this
  exact ((below1 _ C).cell (p := ⟨w.heap.size + 1, j, none⟩) (by simp)).trans h1
theorem new_cells2 (w : World) (A B : Obj) (xs : List Value) (t : TypeId) (j : Nat) (u : Value) (h : xs[j]? = some u) : (((w.alloc A).alloc B).alloc (.cells xs.toArray t)).cell? ⟨w.heap.size + 2, j, none⟩ = some u := by
  have := cells_new ((w.alloc A).alloc B) xs t j u h
  rw [Addr.add_lit, Nat.zero_add] at this
  simpa using this
structure Asks (w w' : World) : Prop where
  below : Below w.heap.size w w'
  size : w.heap.size + 2 < w'.heap.size
  b0 : w'.cell? ⟨w.heap.size, 0, none⟩ = some (.func (.func 61) #[] #[])
  b1 : w'.cell? ⟨w.heap.size + 1, 0, none⟩ = some (.func (.func 68) #[] #[])
  at_ : ∀ j u, (orderV w.heap.size)[j]? = some u → w'.cell? ⟨w.heap.size + 2, j, none⟩ = some u
set_option maxRecDepth 100000 in
set_option maxHeartbeats 1600000 in
theorem xOrder_any (w : World) :
    Calls Tryz.prog 30 #[] w fun e w' => e = .returned (.slice (some ⟨w.heap.size + 2, 0, none⟩) 8 8) ∧ Asks w w' := by
  go_enter Tryz.func30, Tryz.ntmps30
  go_wp2_with (go_at_call 57; refine (xOrder1_any _ _).mono ?_; rintro e w1 ⟨rfl, rfl⟩)
  go_ret
  refine ⟨by simp, ?_⟩
  exact ⟨below3 _ _ _ _, by simp, new_cells0 w [.func (.func 61) #[] #[]] _ _ _ 0 _ rfl, new_cells1 w _ [.func (.func 68) #[] #[]] _ _ 0 _ rfl, fun j u hj => new_cells2 w _ _ (orderV w.heap.size) _ j u hj⟩
end Go.Proofs.YtkmjmfcanlknjaaGreat
namespace Go.Proofs.YtkmjmfcanlknjaaGreat
open Go.RowKit

theorem order_len (B : Nat) : (orderV B).length = 16 := rfl
theorem none_lim {G : List Ru} {j : Nat} (h : NoneQ G j) (hj : 1 ≤ j) : ¬ (G.length < 1 ∨ 64 < G.length) := by simpa [ansQ] using h 0 hj
theorem none_trees {G : List Ru} {j : Nat} (h : NoneQ G j) (hj : 2 ≤ j) : treesB G = true := by simpa [ansQ] using h 1 hj
theorem none_deep {G : List Ru} {j : Nat} (h : NoneQ G j) (hj : 6 ≤ j) : deepB G = false := h 5 hj

set_option maxRecDepth 100000 in
set_option maxHeartbeats 6400000 in
theorem xCheckG_any (v : Value) (G : List Ru) (w : World) (h : RdRu w v G) (hl : LimG G) (hn : nodesG G ≤ 16777216) :
    Calls Tryz.prog 11 #[v] w fun e w' => e = .returned (.int .i64 (checkG G)) ∧ Below w.heap.size w w' := by
  have HV := Lib.hid h
  have HO := Lib.hid (xOrder_any w)
  have H0 := Lib.hid (fun w h => xQ0_any v G w h)
  have H1 := Lib.hid (fun bx w h hx => xQ1_any v G bx w h (by have := hl.len; omega) hn hx)
  have H2 := Lib.hid (fun w h => xQ2_any v G w h hl)
  have H3 := Lib.hid (fun w h => xQ3_any v G w h hl)
  have H4 := Lib.hid (fun w h => xQ4_any v G w h hl)
  have H5 := Lib.hid (fun bx w h ht hx => xQ5_any v G bx w h (by have := hl.len; omega) hn ht hx)
  have H6 := Lib.hid (fun w h => xQ6_any v G w h hl)
  have H7 := Lib.hid (fun w h hl ht hd => xQ7_any v G w h hl hn ht hd)
  obtain ⟨P, rfl, hR⟩ := h
  obtain ⟨⟨_, ao, cap, rfl, -⟩, -⟩ := hR
  clear hl hn
  generalize P.map (·.1) = G at *
  go_enter Tryz.func11, Tryz.ntmps11
  go_wp2_with fail
  refine (HO.out).mono ?_
  rintro e w1 ⟨rfl, hA⟩
  have HB1 := Lib.hid hA.below
  have hs1 := hA.size
  have HB0 := Lib.hid hA.b0
  have HBx := Lib.hid hA.b1
  have HAt := Lib.hid hA.at_
  clear hA
  generalize hB : w.heap.size = B at *
  go_wp2_with fail
  go_loopw [7] (fun i wr => ∃ j : Nat, i = .int .i64 j ∧ j ≤ 8 ∧ Hid (NoneQ G j) ∧ Hid (Below w1.heap.size w1 wr)) (fun i _ => 8 - (intOf i).toNat)
  case atStart => exact ⟨0, rfl, by omega, fun i hi => by omega, Below.refl _ _⟩
  case round =>
    obtain ⟨j, rfl, hj, HN, HBel⟩ := hrel
    have hws := HBel.out.size
    by_cases hlt : j < 8
    · have HVr : Hid (RdRu wr (.slice ao P.length cap) G) := HV.out.below (by rw [hB]; exact HB1.out.trans (HBel.out.mono (by omega)))
      have cell : ∀ (q : Nat) (u : Value), (orderV B)[q]? = some u → wr.cell? ⟨B + 2, q, none⟩ = some u := fun q u hq => (HBel.out.cell (p := ⟨B + 2, q, none⟩) (by show B + 2 < w1.heap.size; omega)).trans (HAt.out q u hq)
      have b0 := (HBel.out.cell (p := ⟨B, 0, none⟩) (by show B < w1.heap.size; omega)).trans HB0.out
      have b1 := (HBel.out.cell (p := ⟨B + 1, 0, none⟩) (by show B + 1 < w1.heap.size; omega)).trans HBx.out
      have hj8 : j = 0 ∨ j = 1 ∨ j = 2 ∨ j = 3 ∨ j = 4 ∨ j = 5 ∨ j = 6 ∨ j = 7 := by omega
      rcases hj8 with rfl | rfl | rfl | rfl | rfl | rfl | rfl | rfl
      · have x0 := cell 0 _ rfl
        have x1 := cell 1 _ rfl
        have HQ : Hid (∀ wx, Below wr.heap.size wr wx → Calls Tryz.prog 60 #[.slice ao P.length cap] wx fun e w' => e = .returned (.bool (ansQ G 0)) ∧ Below wx.heap.size wx w') := fun wx hb => by
          have h := HVr.out.below hb
          exact H0.out wx h
        have c1 : (wr.alloc (.cells #[.func (.func 60) #[] #[], .int .i64 180] 53)).cell? ⟨wr.heap.size, 1, none⟩ = some (.int .i64 180) := by simp
        have hb1 : Below wr.heap.size wr (wr.alloc (.cells #[.func (.func 60) #[] #[], .int .i64 180] 53)) := below1 _ _
        have hsz : wr.heap.size + 1 ≤ (wr.alloc (.cells #[.func (.func 60) #[] #[], .int .i64 180] 53)).heap.size := by simp
        clear b0 b1 cell HVr
        cases ha : ansQ G 0 with
        | true =>
          rw [ha] at HQ
          have HE : Hid (checkG G = 180) := check_first G 0 (by omega) HN.out ha
          clear ha
          go_wp2_with fail
          generalize (wr.alloc (.cells #[.func (.func 60) #[] #[], .int .i64 180] 53)) = w2 at *
          clear x0 x1
          refine (HQ.out _ hb1).mono ?_
          rintro e w3 ⟨rfl, hb3⟩
          have C1 := (hb3.cell (p := ⟨wr.heap.size, 1, none⟩) (by show wr.heap.size < w2.heap.size; omega)).trans c1
          have HB3 := Lib.hid (HBel.out.trans ((hb1.trans (hb3.mono hb1.size)).mono hws))
          clear hb3 c1
          go_wp2_with fail
          go_ret
          exact ⟨by rw [HE.out]; rfl, by rw [hB]; exact HB1.out.trans (HB3.out.mono (by omega))⟩
        | false =>
          rw [ha] at HQ
          have HN2 := Lib.hid (HN.out.snoc ha)
          clear ha
          go_wp2_with fail
          generalize (wr.alloc (.cells #[.func (.func 60) #[] #[], .int .i64 180] 53)) = w2 at *
          clear x0 x1
          refine (HQ.out _ hb1).mono ?_
          rintro e w3 ⟨rfl, hb3⟩
          have HB3 := Lib.hid (HBel.out.trans ((hb1.trans (hb3.mono hb1.size)).mono hws))
          clear hb3 c1
          go_wp2_with fail
          go_roundw
          case rel => exact ⟨1, by go_num, by omega, HN2.out, HB3.out⟩
          case measure => simp [intOf]
      · have x0 := cell 2 _ rfl
        have x1 := cell 3 _ rfl
        have HQ : Hid (∀ wx, Below wr.heap.size wr wx → Calls Tryz.prog 58 #[.slice ao P.length cap, .pointer (some ⟨B, 0, none⟩)] wx fun e w' => e = .returned (.bool (ansQ G 1)) ∧ Below wx.heap.size wx w') := fun wx hb => by
          have h := HVr.out.below hb
          exact H1.out B wx h ((hb.cell (p := ⟨B, 0, none⟩) (by show B < wr.heap.size; omega)).trans b0)
        have c1 : (wr.alloc (.cells #[.func (.func 58) #[] #[.pointer (some ⟨B, 0, none⟩)], .int .i64 170] 53)).cell? ⟨wr.heap.size, 1, none⟩ = some (.int .i64 170) := by simp
        have hb1 : Below wr.heap.size wr (wr.alloc (.cells #[.func (.func 58) #[] #[.pointer (some ⟨B, 0, none⟩)], .int .i64 170] 53)) := below1 _ _
        have hsz : wr.heap.size + 1 ≤ (wr.alloc (.cells #[.func (.func 58) #[] #[.pointer (some ⟨B, 0, none⟩)], .int .i64 170] 53)).heap.size := by simp
        clear b0 b1 cell HVr
        cases ha : ansQ G 1 with
        | true =>
          rw [ha] at HQ
          have HE : Hid (checkG G = 170) := check_first G 1 (by omega) HN.out ha
          clear ha
          go_wp2_with fail
          generalize (wr.alloc (.cells #[.func (.func 58) #[] #[.pointer (some ⟨B, 0, none⟩)], .int .i64 170] 53)) = w2 at *
          clear x0 x1
          refine (HQ.out _ hb1).mono ?_
          rintro e w3 ⟨rfl, hb3⟩
          have C1 := (hb3.cell (p := ⟨wr.heap.size, 1, none⟩) (by show wr.heap.size < w2.heap.size; omega)).trans c1
          have HB3 := Lib.hid (HBel.out.trans ((hb1.trans (hb3.mono hb1.size)).mono hws))
          clear hb3 c1
          go_wp2_with fail
          go_ret
          exact ⟨by rw [HE.out]; rfl, by rw [hB]; exact HB1.out.trans (HB3.out.mono (by omega))⟩
        | false =>
          rw [ha] at HQ
          have HN2 := Lib.hid (HN.out.snoc ha)
          clear ha
          go_wp2_with fail
          generalize (wr.alloc (.cells #[.func (.func 58) #[] #[.pointer (some ⟨B, 0, none⟩)], .int .i64 170] 53)) = w2 at *
          clear x0 x1
          refine (HQ.out _ hb1).mono ?_
          rintro e w3 ⟨rfl, hb3⟩
          have HB3 := Lib.hid (HBel.out.trans ((hb1.trans (hb3.mono hb1.size)).mono hws))
          clear hb3 c1
          go_wp2_with fail
          go_roundw
          case rel => exact ⟨2, by go_num, by omega, HN2.out, HB3.out⟩
          case measure => simp [intOf]
      · have x0 := cell 4 _ rfl
        have x1 := cell 5 _ rfl
        have HQ : Hid (∀ wx, Below wr.heap.size wr wx → Calls Tryz.prog 64 #[.slice ao P.length cap] wx fun e w' => e = .returned (.bool (ansQ G 2)) ∧ Below wx.heap.size wx w') := fun wx hb => by
          have h := HVr.out.below hb
          exact H2.out wx h
        have c1 : (wr.alloc (.cells #[.func (.func 64) #[] #[], .int .i64 181] 53)).cell? ⟨wr.heap.size, 1, none⟩ = some (.int .i64 181) := by simp
        have hb1 : Below wr.heap.size wr (wr.alloc (.cells #[.func (.func 64) #[] #[], .int .i64 181] 53)) := below1 _ _
        have hsz : wr.heap.size + 1 ≤ (wr.alloc (.cells #[.func (.func 64) #[] #[], .int .i64 181] 53)).heap.size := by simp
        clear b0 b1 cell HVr
        cases ha : ansQ G 2 with
        | true =>
          rw [ha] at HQ
          have HE : Hid (checkG G = 181) := check_first G 2 (by omega) HN.out ha
          clear ha
          go_wp2_with fail
          generalize (wr.alloc (.cells #[.func (.func 64) #[] #[], .int .i64 181] 53)) = w2 at *
          clear x0 x1
          refine (HQ.out _ hb1).mono ?_
          rintro e w3 ⟨rfl, hb3⟩
          have C1 := (hb3.cell (p := ⟨wr.heap.size, 1, none⟩) (by show wr.heap.size < w2.heap.size; omega)).trans c1
          have HB3 := Lib.hid (HBel.out.trans ((hb1.trans (hb3.mono hb1.size)).mono hws))
          clear hb3 c1
          go_wp2_with fail
          go_ret
          exact ⟨by rw [HE.out]; rfl, by rw [hB]; exact HB1.out.trans (HB3.out.mono (by omega))⟩
        | false =>
          rw [ha] at HQ
          have HN2 := Lib.hid (HN.out.snoc ha)
          clear ha
          go_wp2_with fail
          generalize (wr.alloc (.cells #[.func (.func 64) #[] #[], .int .i64 181] 53)) = w2 at *
          clear x0 x1
          refine (HQ.out _ hb1).mono ?_
          rintro e w3 ⟨rfl, hb3⟩
          have HB3 := Lib.hid (HBel.out.trans ((hb1.trans (hb3.mono hb1.size)).mono hws))
          clear hb3 c1
          go_wp2_with fail
          go_roundw
          case rel => exact ⟨3, by go_num, by omega, HN2.out, HB3.out⟩
          case measure => simp [intOf]
      · have x0 := cell 6 _ rfl
        have x1 := cell 7 _ rfl
        have HQ : Hid (∀ wx, Below wr.heap.size wr wx → Calls Tryz.prog 66 #[.slice ao P.length cap] wx fun e w' => e = .returned (.bool (ansQ G 3)) ∧ Below wx.heap.size wx w') := fun wx hb => by
          have h := HVr.out.below hb
          exact H3.out wx h
        have c1 : (wr.alloc (.cells #[.func (.func 66) #[] #[], .int .i64 182] 53)).cell? ⟨wr.heap.size, 1, none⟩ = some (.int .i64 182) := by simp
        have hb1 : Below wr.heap.size wr (wr.alloc (.cells #[.func (.func 66) #[] #[], .int .i64 182] 53)) := below1 _ _
        have hsz : wr.heap.size + 1 ≤ (wr.alloc (.cells #[.func (.func 66) #[] #[], .int .i64 182] 53)).heap.size := by simp
        clear b0 b1 cell HVr
        cases ha : ansQ G 3 with
        | true =>
          rw [ha] at HQ
          have HE : Hid (checkG G = 182) := check_first G 3 (by omega) HN.out ha
          clear ha
          go_wp2_with fail
          generalize (wr.alloc (.cells #[.func (.func 66) #[] #[], .int .i64 182] 53)) = w2 at *
          clear x0 x1
          refine (HQ.out _ hb1).mono ?_
          rintro e w3 ⟨rfl, hb3⟩
          have C1 := (hb3.cell (p := ⟨wr.heap.size, 1, none⟩) (by show wr.heap.size < w2.heap.size; omega)).trans c1
          have HB3 := Lib.hid (HBel.out.trans ((hb1.trans (hb3.mono hb1.size)).mono hws))
          clear hb3 c1
          go_wp2_with fail
          go_ret
          exact ⟨by rw [HE.out]; rfl, by rw [hB]; exact HB1.out.trans (HB3.out.mono (by omega))⟩
        | false =>
          rw [ha] at HQ
          have HN2 := Lib.hid (HN.out.snoc ha)
          clear ha
          go_wp2_with fail
          generalize (wr.alloc (.cells #[.func (.func 66) #[] #[], .int .i64 182] 53)) = w2 at *
          clear x0 x1
          refine (HQ.out _ hb1).mono ?_
          rintro e w3 ⟨rfl, hb3⟩
          have HB3 := Lib.hid (HBel.out.trans ((hb1.trans (hb3.mono hb1.size)).mono hws))
          clear hb3 c1
          go_wp2_with fail
          go_roundw
          case rel => exact ⟨4, by go_num, by omega, HN2.out, HB3.out⟩
          case measure => simp [intOf]
      · have x0 := cell 8 _ rfl
        have x1 := cell 9 _ rfl
        have HQ : Hid (∀ wx, Below wr.heap.size wr wx → Calls Tryz.prog 67 #[.slice ao P.length cap] wx fun e w' => e = .returned (.bool (ansQ G 4)) ∧ Below wx.heap.size wx w') := fun wx hb => by
          have h := HVr.out.below hb
          exact H4.out wx h
        have c1 : (wr.alloc (.cells #[.func (.func 67) #[] #[], .int .i64 183] 53)).cell? ⟨wr.heap.size, 1, none⟩ = some (.int .i64 183) := by simp
        have hb1 : Below wr.heap.size wr (wr.alloc (.cells #[.func (.func 67) #[] #[], .int .i64 183] 53)) := below1 _ _
        have hsz : wr.heap.size + 1 ≤ (wr.alloc (.cells #[.func (.func 67) #[] #[], .int .i64 183] 53)).heap.size := by simp
        clear b0 b1 cell HVr
        cases ha : ansQ G 4 with
        | true =>
          rw [ha] at HQ
          have HE : Hid (checkG G = 183) := check_first G 4 (by omega) HN.out ha
          clear ha
          go_wp2_with fail
          generalize (wr.alloc (.cells #[.func (.func 67) #[] #[], .int .i64 183] 53)) = w2 at *
          clear x0 x1
          refine (HQ.out _ hb1).mono ?_
          rintro e w3 ⟨rfl, hb3⟩
          have C1 := (hb3.cell (p := ⟨wr.heap.size, 1, none⟩) (by show wr.heap.size < w2.heap.size; omega)).trans c1
          have HB3 := Lib.hid (HBel.out.trans ((hb1.trans (hb3.mono hb1.size)).mono hws))
          clear hb3 c1
          go_wp2_with fail
          go_ret
          exact ⟨by rw [HE.out]; rfl, by rw [hB]; exact HB1.out.trans (HB3.out.mono (by omega))⟩
        | false =>
          rw [ha] at HQ
          have HN2 := Lib.hid (HN.out.snoc ha)
          clear ha
          go_wp2_with fail
          generalize (wr.alloc (.cells #[.func (.func 67) #[] #[], .int .i64 183] 53)) = w2 at *
          clear x0 x1
          refine (HQ.out _ hb1).mono ?_
          rintro e w3 ⟨rfl, hb3⟩
          have HB3 := Lib.hid (HBel.out.trans ((hb1.trans (hb3.mono hb1.size)).mono hws))
          clear hb3 c1
          go_wp2_with fail
          go_roundw
          case rel => exact ⟨5, by go_num, by omega, HN2.out, HB3.out⟩
          case measure => simp [intOf]
      · have x0 := cell 10 _ rfl
        have x1 := cell 11 _ rfl
        have HQ : Hid (∀ wx, Below wr.heap.size wr wx → Calls Tryz.prog 58 #[.slice ao P.length cap, .pointer (some ⟨B + 1, 0, none⟩)] wx fun e w' => e = .returned (.bool (ansQ G 5)) ∧ Below wx.heap.size wx w') := fun wx hb => by
          have h := HVr.out.below hb
          exact H5.out (B + 1) wx h (none_trees HN.out (by omega)) ((hb.cell (p := ⟨B + 1, 0, none⟩) (by show B + 1 < wr.heap.size; omega)).trans b1)
        have c1 : (wr.alloc (.cells #[.func (.func 58) #[] #[.pointer (some ⟨B + 1, 0, none⟩)], .int .i64 171] 53)).cell? ⟨wr.heap.size, 1, none⟩ = some (.int .i64 171) := by simp
        have hb1 : Below wr.heap.size wr (wr.alloc (.cells #[.func (.func 58) #[] #[.pointer (some ⟨B + 1, 0, none⟩)], .int .i64 171] 53)) := below1 _ _
        have hsz : wr.heap.size + 1 ≤ (wr.alloc (.cells #[.func (.func 58) #[] #[.pointer (some ⟨B + 1, 0, none⟩)], .int .i64 171] 53)).heap.size := by simp
        clear b0 b1 cell HVr
        cases ha : ansQ G 5 with
        | true =>
          rw [ha] at HQ
          have HE : Hid (checkG G = 171) := check_first G 5 (by omega) HN.out ha
          clear ha
          go_wp2_with fail
          generalize (wr.alloc (.cells #[.func (.func 58) #[] #[.pointer (some ⟨B + 1, 0, none⟩)], .int .i64 171] 53)) = w2 at *
          clear x0 x1
          refine (HQ.out _ hb1).mono ?_
          rintro e w3 ⟨rfl, hb3⟩
          have C1 := (hb3.cell (p := ⟨wr.heap.size, 1, none⟩) (by show wr.heap.size < w2.heap.size; omega)).trans c1
          have HB3 := Lib.hid (HBel.out.trans ((hb1.trans (hb3.mono hb1.size)).mono hws))
          clear hb3 c1
          go_wp2_with fail
          go_ret
          exact ⟨by rw [HE.out]; rfl, by rw [hB]; exact HB1.out.trans (HB3.out.mono (by omega))⟩
        | false =>
          rw [ha] at HQ
          have HN2 := Lib.hid (HN.out.snoc ha)
          clear ha
          go_wp2_with fail
          generalize (wr.alloc (.cells #[.func (.func 58) #[] #[.pointer (some ⟨B + 1, 0, none⟩)], .int .i64 171] 53)) = w2 at *
          clear x0 x1
          refine (HQ.out _ hb1).mono ?_
          rintro e w3 ⟨rfl, hb3⟩
          have HB3 := Lib.hid (HBel.out.trans ((hb1.trans (hb3.mono hb1.size)).mono hws))
          clear hb3 c1
          go_wp2_with fail
          go_roundw
          case rel => exact ⟨6, by go_num, by omega, HN2.out, HB3.out⟩
          case measure => simp [intOf]
      · have x0 := cell 12 _ rfl
        have x1 := cell 13 _ rfl
        have HQ : Hid (∀ wx, Below wr.heap.size wr wx → Calls Tryz.prog 69 #[.slice ao P.length cap] wx fun e w' => e = .returned (.bool (ansQ G 6)) ∧ Below wx.heap.size wx w') := fun wx hb => by
          have h := HVr.out.below hb
          exact H6.out wx h
        have c1 : (wr.alloc (.cells #[.func (.func 69) #[] #[], .int .i64 184] 53)).cell? ⟨wr.heap.size, 1, none⟩ = some (.int .i64 184) := by simp
        have hb1 : Below wr.heap.size wr (wr.alloc (.cells #[.func (.func 69) #[] #[], .int .i64 184] 53)) := below1 _ _
        have hsz : wr.heap.size + 1 ≤ (wr.alloc (.cells #[.func (.func 69) #[] #[], .int .i64 184] 53)).heap.size := by simp
        clear b0 b1 cell HVr
        cases ha : ansQ G 6 with
        | true =>
          rw [ha] at HQ
          have HE : Hid (checkG G = 184) := check_first G 6 (by omega) HN.out ha
          clear ha
          go_wp2_with fail
          generalize (wr.alloc (.cells #[.func (.func 69) #[] #[], .int .i64 184] 53)) = w2 at *
          clear x0 x1
          refine (HQ.out _ hb1).mono ?_
          rintro e w3 ⟨rfl, hb3⟩
          have C1 := (hb3.cell (p := ⟨wr.heap.size, 1, none⟩) (by show wr.heap.size < w2.heap.size; omega)).trans c1
          have HB3 := Lib.hid (HBel.out.trans ((hb1.trans (hb3.mono hb1.size)).mono hws))
          clear hb3 c1
          go_wp2_with fail
          go_ret
          exact ⟨by rw [HE.out]; rfl, by rw [hB]; exact HB1.out.trans (HB3.out.mono (by omega))⟩
        | false =>
          rw [ha] at HQ
          have HN2 := Lib.hid (HN.out.snoc ha)
          clear ha
          go_wp2_with fail
          generalize (wr.alloc (.cells #[.func (.func 69) #[] #[], .int .i64 184] 53)) = w2 at *
          clear x0 x1
          refine (HQ.out _ hb1).mono ?_
          rintro e w3 ⟨rfl, hb3⟩
          have HB3 := Lib.hid (HBel.out.trans ((hb1.trans (hb3.mono hb1.size)).mono hws))
          clear hb3 c1
          go_wp2_with fail
          go_roundw
          case rel => exact ⟨7, by go_num, by omega, HN2.out, HB3.out⟩
          case measure => simp [intOf]
      · have x0 := cell 14 _ rfl
        have x1 := cell 15 _ rfl
        have HQ : Hid (∀ wx, Below wr.heap.size wr wx → Calls Tryz.prog 70 #[.slice ao P.length cap] wx fun e w' => e = .returned (.bool (ansQ G 7)) ∧ Below wx.heap.size wx w') := fun wx hb => by
          have h := HVr.out.below hb
          exact H7.out wx h (by have := none_lim HN.out (by omega); omega) (none_trees HN.out (by omega)) (none_deep HN.out (by omega))
        have c1 : (wr.alloc (.cells #[.func (.func 70) #[] #[], .int .i64 174] 53)).cell? ⟨wr.heap.size, 1, none⟩ = some (.int .i64 174) := by simp
        have hb1 : Below wr.heap.size wr (wr.alloc (.cells #[.func (.func 70) #[] #[], .int .i64 174] 53)) := below1 _ _
        have hsz : wr.heap.size + 1 ≤ (wr.alloc (.cells #[.func (.func 70) #[] #[], .int .i64 174] 53)).heap.size := by simp
        clear b0 b1 cell HVr
        cases ha : ansQ G 7 with
        | true =>
          rw [ha] at HQ
          have HE : Hid (checkG G = 174) := check_first G 7 (by omega) HN.out ha
          clear ha
          go_wp2_with fail
          generalize (wr.alloc (.cells #[.func (.func 70) #[] #[], .int .i64 174] 53)) = w2 at *
          clear x0 x1
          refine (HQ.out _ hb1).mono ?_
          rintro e w3 ⟨rfl, hb3⟩
          have C1 := (hb3.cell (p := ⟨wr.heap.size, 1, none⟩) (by show wr.heap.size < w2.heap.size; omega)).trans c1
          have HB3 := Lib.hid (HBel.out.trans ((hb1.trans (hb3.mono hb1.size)).mono hws))
          clear hb3 c1
          go_wp2_with fail
          go_ret
          exact ⟨by rw [HE.out]; rfl, by rw [hB]; exact HB1.out.trans (HB3.out.mono (by omega))⟩
        | false =>
          rw [ha] at HQ
          have HN2 := Lib.hid (HN.out.snoc ha)
          clear ha
          go_wp2_with fail
          generalize (wr.alloc (.cells #[.func (.func 70) #[] #[], .int .i64 174] 53)) = w2 at *
          clear x0 x1
          refine (HQ.out _ hb1).mono ?_
          rintro e w3 ⟨rfl, hb3⟩
          have HB3 := Lib.hid (HBel.out.trans ((hb1.trans (hb3.mono hb1.size)).mono hws))
          clear hb3 c1
          go_wp2_with fail
          go_roundw
          case rel => exact ⟨8, by go_num, by omega, HN2.out, HB3.out⟩
          case measure => simp [intOf]
    · obtain rfl : j = 8 := by omega
      have HE : Hid (checkG G = 0) := check_none G HN.out
      go_wp2_with fail
      go_ret
      exact ⟨by rw [HE.out]; rfl, by rw [hB]; exact HB1.out.trans (HBel.out.mono (by omega))⟩
end Go.Proofs.YtkmjmfcanlknjaaGreat
