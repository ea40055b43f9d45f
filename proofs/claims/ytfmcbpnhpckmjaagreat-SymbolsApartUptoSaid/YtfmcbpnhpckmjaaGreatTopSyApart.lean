/- PROVED: SymbolsApart returns true whatever its arguments; each argument reads behind the call as it read before. CONDITION: the arguments' bulk is at most 1048576 (the second form). -/
import Derived.Test.YtfmcbpnhpckmjaaGreatPk4
import Derived.Laws.OwnMore
import Derived.Test.YtfmcbpnhpckmjaaGreatRows
import Derived.Carry
import Derived.ProofKit
import Derived.OpenShut
import Derived.ShutString
import Derived.JoinedCond
namespace Go.Proofs.YtfmcbpnhpckmjaaGreat
open Go.RowKit Go.Maps

/-! ### plain: a row of rules that is written over -/
def setN (x : ByteArray) : List Nd → Nat → List Nd
  | [], _ => []
  | y :: l, 0 => ⟨y.k, x, y.c⟩ :: l
  | y :: l, j + 1 => y :: setN x l j
theorem setN_len (x : ByteArray) : ∀ (l : List Nd) (j : Nat), (setN x l j).length = l.length
  | [], _ => rfl
  | _ :: _, 0 => rfl
  | _ :: l, j + 1 => by simp [setN, setN_len x l j]
theorem flatNd_set (x : ByteArray) : ∀ (l : List Nd) (j : Nat), (flatNd l).set (j * 3 + 1) (.string x) = flatNd (setN x l j)
  | [], j => by simp [setN, flatNd]
  | y :: l, 0 => by simp [setN, flatNd, Nd.cells]
  | y :: l, j + 1 => by
    have h1 : flatNd (y :: l) = .int .i64 y.k :: .string y.n :: .int .i64 y.c :: flatNd l := by simp [flatNd, Nd.cells]
    have h2 : flatNd (setN x (y :: l) (j + 1)) = .int .i64 y.k :: .string y.n :: .int .i64 y.c :: flatNd (setN x l j) := by simp [setN, flatNd, Nd.cells]
    rw [h1, h2, ← flatNd_set x l j, show (j + 1) * 3 + 1 = j * 3 + 1 + 1 + 1 + 1 from by omega]
    simp only [List.set_cons_succ]
def setH (x : ByteArray) : List (Ru × Value) → Nat → List (Ru × Value)
  | [], _ => []
  | p :: l, 0 => (⟨x, p.1.b⟩, p.2) :: l
  | p :: l, j + 1 => p :: setH x l j
theorem setH_snd (x : ByteArray) : ∀ (l : List (Ru × Value)) (j : Nat), (setH x l j).map (·.2) = l.map (·.2)
  | [], _ => rfl
  | _ :: _, 0 => rfl
  | _ :: l, j + 1 => by simp [setH, setH_snd x l j]
theorem setH_len (x : ByteArray) (l : List (Ru × Value)) (j : Nat) : (setH x l j).length = l.length := by
  have := congrArg List.length (setH_snd x l j); simpa using this
theorem flatP_set (x : ByteArray) : ∀ (l : List (Ru × Value)) (j : Nat), (flatP l).set (j * 2) (.string x) = flatP (setH x l j)
  | [], j => by simp [setH, flatP]
  | y :: l, 0 => by simp [setH, flatP]
  | y :: l, j + 1 => by
    have h1 : flatP (y :: l) = .string y.1.h :: y.2 :: flatP l := by simp [flatP]
    have h2 : flatP (setH x (y :: l) (j + 1)) = .string y.1.h :: y.2 :: flatP (setH x l j) := by simp [setH, flatP]
    rw [h1, h2, ← flatP_set x l j, show (j + 1) * 2 = j * 2 + 1 + 1 from by omega]
    simp only [List.set_cons_succ]
theorem setH_mem (x : ByteArray) : ∀ (l : List (Ru × Value)) (j : Nat) (p : Ru × Value), p ∈ setH x l j → ∃ q ∈ l, p.2 = q.2 ∧ p.1.b = q.1.b
  | [], _, p, h => by simp [setH] at h
  | y :: l, 0, p, h => by
    rcases List.mem_cons.1 (show p ∈ (⟨x, y.1.b⟩, y.2) :: l from h) with rfl | h
    · exact ⟨y, by simp, rfl, rfl⟩
    · exact ⟨p, by simp [h], rfl, rfl⟩
  | y :: l, j + 1, p, h => by
    rcases List.mem_cons.1 (show p ∈ y :: setH x l j from h) with rfl | h
    · exact ⟨p, by simp, rfl, rfl⟩
    · obtain ⟨q, hq, h1, h2⟩ := setH_mem x l j p h
      exact ⟨q, by simp [hq], h1, h2⟩
def setB (x : ByteArray) (g j : Nat) (p : Ru × Value) : Ru × Value := if p.2.ownBlock = some g then (⟨p.1.h, setN x p.1.b j⟩, p.2) else p
theorem setB_snd (x : ByteArray) (g j : Nat) (p : Ru × Value) : (setB x g j p).2 = p.2 := by unfold setB; split <;> rfl
theorem setB_h (x : ByteArray) (g j : Nat) (p : Ru × Value) : (setB x g j p).1.h = p.1.h := by unfold setB; split <;> rfl
theorem flatP_setB (x : ByteArray) (g j : Nat) : ∀ l : List (Ru × Value), flatP (l.map (setB x g j)) = flatP l
  | [] => rfl
  | p :: l => by
    have := flatP_setB x g j l
    simp only [flatP, List.map_cons, List.flatMap_cons, setB_snd, setB_h] at this ⊢
    rw [this]
/-- rules of one's own, whose bodies lie at V: whatever their names are -/
def Sheet (w : World) (B : Nat) (v : Value) (V : List Value) : Prop := ∃ P : List (Ru × Value), P.map (·.2) = V ∧ OwnP w B v P
theorem Sheet.below {w w' : World} {B : Nat} {v : Value} {V : List Value} (h : Sheet w B v V) (hb : Below w.heap.size w w') : Sheet w' B v V := by
  obtain ⟨P, h1, h2⟩ := h; exact ⟨P, h1, h2.below hb⟩
theorem Sheet.shape {w : World} {B : Nat} {v : Value} {V : List Value} (h : Sheet w B v V) : ∃ a c, v = .slice a V.length c := by
  obtain ⟨P, rfl, h2⟩ := h
  obtain ⟨_, ao, cap, e, -⟩ := Rd.of_owns h2.row
  exact ⟨ao, cap, by rw [List.length_map]; exact e⟩
theorem Sheet.at {w : World} {B : Nat} {v : Value} {V : List Value} (h : Sheet w B v V) {i : Nat} {u : Value} (hi : V[i]? = some u) :
    ∃ g cap, v = .slice (some ⟨g, 0, none⟩) V.length cap ∧ B ≤ g ∧ g < w.heap.size ∧ w.cell? ⟨g, i * 2 + 1, none⟩ = some u ∧ (∃ y, w.cell? ⟨g, i * 2, none⟩ = some (.string y)) ∧ ∀ o, w.frozen? ⟨g, o, none⟩ = false := by
  obtain ⟨P, rfl, h2⟩ := h
  obtain ⟨p, hp, rfl⟩ : ∃ p, P[i]? = some p ∧ p.2 = u := by
    rw [List.getElem?_map] at hi
    cases hp : P[i]? with
    | none => rw [hp] at hi; cases hi
    | some p => rw [hp] at hi; exact ⟨p, rfl, by simpa using hi⟩
  have hl : i < P.length := (List.getElem?_eq_some_iff.1 hp).1
  obtain ⟨g, cap, rfl, hB, hg, hc, -⟩ := own_src h2.row (by omega)
  obtain ⟨f0, f1⟩ := flatP_at P i p hp
  have hfl := flatP_len P
  refine ⟨g, cap, by rw [List.length_map], hB, hg, ?_, ⟨p.1.h, ?_⟩, fun o => h2.row.frozenAt o⟩
  · rw [h2.row.cellAt _ (by omega)]; exact f1
  · rw [h2.row.cellAt _ (by omega)]; exact f0
theorem Sheet.head {w : World} {B : Nat} {V : List Value} {g cap : Nat} (h : Sheet w B (.slice (some ⟨g, 0, none⟩) V.length cap) V) (i : Nat) (x : ByteArray) :
    Sheet (w.setCell ⟨g, i * 2, none⟩ (.string x)) B (.slice (some ⟨g, 0, none⟩) V.length cap) V := by
  obtain ⟨P, hV, h2⟩ := h
  have hl : V.length = P.length := by rw [← hV, List.length_map]
  rw [hl] at h2 ⊢
  obtain ⟨s1, s2⟩ := h2.row.stored (i * 2) (.string x)
  refine ⟨setH x P i, by rw [setH_snd, hV], ?_, fun p hp => ?_⟩
  · rw [setH_len, ← flatP_set]; exact s1
  · obtain ⟨q, hq, e1, e2⟩ := setH_mem x P i p hp
    rw [e1, e2]
    have hb := h2.bods q hq
    exact own_grown hb s2 (fun j hj => by cases hj; exact .inr (own_apart hb h2.row (by decide) g rfl))
theorem Sheet.body {w : World} {B : Nat} {v : Value} {V : List Value} (h : Sheet w B v V) {i : Nat} {u : Value} (hi : V[i]? = some u) :
    ∃ a m c, u = .slice a m c ∧ m ≤ maxLen ∧ (0 < m → ∃ g, a = some ⟨g, 0, none⟩ ∧ B ≤ g ∧ g < w.heap.size ∧ (∀ j, j < m → ∃ y, w.cell? ⟨g, j * 3 + 1, none⟩ = some (.string y)) ∧ ∀ o, w.frozen? ⟨g, o, none⟩ = false) := by
  obtain ⟨P, rfl, h2⟩ := h
  obtain ⟨p, hp, rfl⟩ : ∃ p, P[i]? = some p ∧ p.2 = u := by
    rw [List.getElem?_map] at hi
    cases hp : P[i]? with
    | none => rw [hp] at hi; cases hi
    | some p => rw [hp] at hi; exact ⟨p, rfl, by simpa using hi⟩
  have hb := h2.bods p (List.mem_of_getElem? hp)
  obtain ⟨_, ao, cap, e, hle, hmx, -⟩ := Rd.of_owns hb
  refine ⟨ao, p.1.b.length, cap, e, by omega, fun hm => ?_⟩
  obtain ⟨g, cap2, e2, hB, hg, hle2, hc⟩ := own_src hb hm
  have e3 := e.symm.trans e2
  simp only [Value.slice.injEq] at e3
  obtain ⟨rfl, -, rfl⟩ := e3
  unfold OwnNd at hb
  rw [e] at hb
  refine ⟨g, rfl, hB, hg, fun j hj => ?_, fun o => hb.frozenAt o⟩
  obtain ⟨x, hx⟩ : ∃ x, p.1.b[j]? = some x := ⟨_, List.getElem?_eq_getElem hj⟩
  have f1 := (flatNd_at p.1.b j x hx).2.1
  refine ⟨x.n, ?_⟩
  rw [hb.cellAt _ (by omega), show j * 3 + 1 = 3 * j + 1 from by omega]
  exact f1
theorem Sheet.name {w : World} {B : Nat} {v : Value} {V : List Value} (h : Sheet w B v V) {i : Nat} {g m c : Nat} (hi : V[i]? = some (.slice (some ⟨g, 0, none⟩) m c)) (j : Nat) (x : ByteArray) :
    Sheet (w.setCell ⟨g, j * 3 + 1, none⟩ (.string x)) B v V := by
  obtain ⟨P, rfl, h2⟩ := h
  obtain ⟨p, hp, hpu⟩ : ∃ p, P[i]? = some p ∧ p.2 = .slice (some ⟨g, 0, none⟩) m c := by
    rw [List.getElem?_map] at hi
    cases hp : P[i]? with
    | none => rw [hp] at hi; cases hi
    | some p => rw [hp] at hi; exact ⟨p, rfl, by simpa using hi⟩
  have hb := h2.bods p (List.mem_of_getElem? hp)
  have hgr := grown_set w g (j * 3 + 1) (.string x)
  refine ⟨P.map (setB x g j), ?_, ?_, fun q hq => ?_⟩
  · rw [List.map_map]; exact List.map_congr_left fun q _ => setB_snd x g j q
  · rw [List.length_map, flatP_setB]
    refine own_grown h2.row hgr (fun j hj => .inr (own_apart h2.row hb (by decide) j (by rw [hpu]; exact hj)))
  · obtain ⟨r, hr, rfl⟩ := List.mem_map.1 hq
    have hbq := h2.bods r hr
    rw [setB_snd]
    unfold setB
    by_cases hg : r.2.ownBlock = some g
    · rw [if_pos hg]
      rcases hbq.2 with ⟨e, _⟩ | ⟨g2, cap, cur, e, -⟩
      · rw [e] at hg; simp [Value.ownBlock] at hg
      · rw [e] at hg; simp only [Value.ownBlock, Option.some.injEq] at hg
        subst hg
        unfold OwnNd at hbq ⊢
        rw [e] at hbq ⊢
        have := (hbq.stored (j * 3 + 1) (.string x)).1
        rw [flatNd_set] at this
        simp only
        rw [setN_len]; exact this
    · rw [if_neg hg]
      exact own_grown hbq hgr (fun j hj => by cases hj; exact .inr hg)
end Go.Proofs.YtfmcbpnhpckmjaaGreat
namespace Go.Proofs.YtfmcbpnhpckmjaaGreat
open Go.RowKit Go.Maps

theorem xNames_nil (w : World) : Calls Tryz.prog 11 #[.pointer none] w fun e w' => e = .returned (.slice none 0 0) ∧ w = w' := by
  go_enter Tryz.func11, Tryz.ntmps11
  go_wp2_with (go_at_call 31; refine (xThere_nil _).mono ?_; rintro e w1 ⟨rfl, rfl⟩)
  go_ret
  exact ⟨rfl, rfl⟩
theorem xLabels_nil (w : World) : Calls Tryz.prog 13 #[.pointer none] w fun e w' => e = .returned (.slice none 0 0) ∧ w = w' := by
  go_enter Tryz.func13, Tryz.ntmps13
  go_wp2_with (go_at_call 31; refine (xThere_nil _).mono ?_; rintro e w1 ⟨rfl, rfl⟩)
  go_ret
  exact ⟨rfl, rfl⟩
theorem rdRu_shape {w : World} {v : Value} {G : List Ru} (h : RdRu w v G) : ∃ a c, v = .slice a G.length c := by
  obtain ⟨P, rfl, hR⟩ := h
  obtain ⟨⟨_, ao, cap, rfl, -⟩, -⟩ := hR
  exact ⟨ao, cap, by rw [List.length_map]⟩
theorem own_str_poke {w : World} {B g n c : Nat} {l : List ByteArray} (h : OwnStr w B (.slice (some ⟨g, 0, none⟩) n c) l) (i : Nat) (x : ByteArray) (hn : n = l.length) :
    ∃ l' : List ByteArray, l'.length = l.length ∧ OwnStr (w.setCell ⟨g, i, none⟩ (.string x)) B (.slice (some ⟨g, 0, none⟩) n c) l' := by
  subst hn
  refine ⟨l.set i x, by simp, ?_⟩
  have := (World.ownsRow.stored h i (.string x)).1
  have e : (strs l).set i (.string x) = strs (l.set i x) := by unfold strs; rw [List.map_set]
  rw [e] at this
  unfold OwnStr
  rw [List.length_set]; exact this
/-! ### the law SymbolsApart -/
set_option maxRecDepth 100000 in
set_option maxHeartbeats 12800000 in
theorem symbolsApart_any (v : Value) (G : List Ru) (w : World) (h : RdRu w v G) (hb : Bulk G 1048576) :
    Calls Tryz.prog 4 #[v] w fun e w' => e = .returned (.bool true) ∧ Below w.heap.size w w' := by
  have hl := hb.lim (by omega)
  have hl2 := hb.len
  have hn := hb.nodes
  clear hb
  have HV := Lib.hid h
  have HC := Lib.hid (rCopyG_any v G w h hl (by omega))
  have H3 := Lib.hid (fun w h => rCheckG_any v G w h hl (by omega))
  have H4 := Lib.hid (fun w h => rHeads_any v G w h hl)
  have H5 := Lib.hid (fun w h => rLabels_any v G w h hl)
  have hhl := heads_le G hl2
  have hul := used_le 3 G hn
  obtain ⟨a0, c0, rfl⟩ := rdRu_shape h
  by_cases hc : checkG G = 0
  · have HO := Lib.hid (fun v w h => xOf_ok v G w h hl (by omega) hc)
    rw [hc] at H3
    clear hl hn h hc
    go_enter Tryz.func4, Tryz.ntmps4
    go_wp2_with fail
    refine (HC.out).mono ?_
    rintro e w1 ⟨v1, P1, rfl, hP1, ho1, hb1⟩
    have HB1 := Lib.hid hb1
    have HS1 : Hid (Sheet w1 w.heap.size v1 (P1.map (·.2))) := ⟨P1, rfl, ho1⟩
    have HR1 : Hid (RdRu w1 v1 G) := ⟨P1, hP1, ho1.rd⟩
    have HOwn1 : Hid (∀ g, v1.ownBlock = some g → g < w1.heap.size) := fun g hg => (ho1.row.lt g hg).2
    have HOb1 : Hid (∀ u ∈ P1.map (·.2), ∀ g, u.ownBlock = some g → g < w1.heap.size) := fun u hu g hg => by
      obtain ⟨p, hp, rfl⟩ := List.mem_map.1 hu
      exact ((ho1.bods p hp).lt g hg).2
    obtain ⟨a1, c1, rfl⟩ := HS1.out.shape
    generalize P1.map (·.2) = V at *
    have hVl : V.length ≤ 1048576 := by
      obtain ⟨a2, c2, e⟩ := rdRu_shape HR1.out
      simp only [Value.slice.injEq] at e
      omega
    clear hP1 ho1 hb1 HC
    go_wp2_with fail
    refine (HO.out _ _ HR1.out).mono ?_
    rintro e w2 ⟨tb, rfl, hT, hb2⟩
    have HS2 := Lib.hid (HS1.out.below hb2)
    have HT2 := Lib.hid hT
    have HB2 := Lib.hid (HB1.out.trans (hb2.mono HB1.out.size))
    have hw12 : w1.heap.size ≤ w2.heap.size := hb2.size
    clear hT hb2 HR1 HO HS1
    go_wp2_with fail
    refine (H3.out _ (HV.out.below HB2.out)).mono ?_
    rintro e w3 ⟨rfl, hb3⟩
    have HS3 := Lib.hid (HS2.out.below hb3)
    have HT3 := Lib.hid (HT2.out.below hb3)
    have HB3 := Lib.hid (HB2.out.trans (hb3.mono HB2.out.size))
    clear hb3 HS2 HT2 HB2 H3
    go_wp2_with fail
    go_loopw [6] (fun i wr => ∃ k : Nat, i = .int .i64 k ∧ k ≤ V.length ∧ Hid (Sheet wr w.heap.size (.slice a1 V.length c1) V) ∧ Hid (TabAt wr w1.heap.size tb G) ∧ Hid (Below w.heap.size w wr)) (fun i _ => V.length - (intOf i).toNat)
    case atStart => exact ⟨0, rfl, by omega, HS3.out, HT3.out, HB3.out⟩
    case round =>
      clear HS3 HT3 HB3
      obtain ⟨k, rfl, hk, HS, HT, HB⟩ := hrel
      by_cases hlt : k < V.length
      · obtain ⟨u, hu⟩ : ∃ u, V[k]? = some u := ⟨_, List.getElem?_eq_getElem hlt⟩
        obtain ⟨g, cp, e1, hBg, hg, x1, ⟨y, x0⟩, hf⟩ := HS.out.at hu
        simp only [Value.slice.injEq] at e1
        obtain ⟨rfl, -, rfl⟩ := e1
        have hgB := HOwn1.out g rfl
        have HSa : Hid (Sheet (wr.setCell ⟨g, k * 2, none⟩ (.string ⟨#[88]⟩)) w.heap.size (.slice (some ⟨g, 0, none⟩) V.length c1) V) := HS.out.head k _
        have HTa : Hid (TabAt (wr.setCell ⟨g, k * 2, none⟩ (.string ⟨#[88]⟩)) w1.heap.size tb G) := HT.out.grown (grown_set wr g _ _) (fun j hj => by cases hj; exact hgB)
        have HBa : Hid (Below w.heap.size w (wr.setCell ⟨g, k * 2, none⟩ (.string ⟨#[88]⟩))) := HB.out.setCell (p := ⟨g, k * 2, none⟩) hBg _
        have hf0 := hf (k * 2)
        obtain ⟨ab, m, cb, rfl, hm, -⟩ := HSa.out.body hu
        have HU := Lib.hid hu
        unfold maxLen at hm
        go_wp2_with fail
        clear hf HS HT HB x1 x0 hf0 hu
        generalize wr.setCell ⟨g, k * 2, none⟩ (.string ⟨#[88]⟩) = wa at *
        go_loopw [7] (fun i wr2 => ∃ q : Nat, i = .int .i64 q ∧ q ≤ m ∧ Hid (Sheet wr2 w.heap.size (.slice (some ⟨g, 0, none⟩) V.length c1) V) ∧ Hid (TabAt wr2 w1.heap.size tb G) ∧ Hid (Below w.heap.size w wr2)) (fun i _ => m - (intOf i).toNat)
        case atStart => exact ⟨0, rfl, by omega, HSa.out, HTa.out, HBa.out⟩
        case round =>
          clear HSa HTa HBa
          obtain ⟨q, rfl, hq, HS, HT, HB⟩ := hrel
          obtain ⟨g', cp, e1, hBg', hg', x1, -, hf⟩ := HS.out.at HU.out
          simp only [Value.slice.injEq, Option.some.injEq, Addr.mk.injEq, and_true, true_and] at e1
          obtain ⟨rfl, rfl⟩ := e1
          by_cases hltq : q < m
          · obtain ⟨a', m', c', e2, -, hb⟩ := HS.out.body HU.out
            simp only [Value.slice.injEq] at e2
            obtain ⟨rfl, rfl, rfl⟩ := e2
            obtain ⟨g2, rfl, hB2, hg2, hcell, hf2⟩ := hb (by omega)
            obtain ⟨y, x0⟩ := hcell q hltq
            have hf0 := hf2 (q * 3 + 1)
            have hgB2 := HOb1.out _ (List.mem_of_getElem? HU.out) g2 rfl
            have HSb : Hid (Sheet (wr.setCell ⟨g2, q * 3 + 1, none⟩ (.string ⟨#[120]⟩)) w.heap.size (.slice (some ⟨g, 0, none⟩) V.length c1) V) := HS.out.name HU.out q _
            have HTb : Hid (TabAt (wr.setCell ⟨g2, q * 3 + 1, none⟩ (.string ⟨#[120]⟩)) w1.heap.size tb G) := HT.out.grown (grown_set _ g2 _ _) (fun j hj => by cases hj; exact hgB2)
            have HBb : Hid (Below w.heap.size w (wr.setCell ⟨g2, q * 3 + 1, none⟩ (.string ⟨#[120]⟩))) := HB.out.setCell (p := ⟨g2, q * 3 + 1, none⟩) hB2 _
            clear hf hf2 hcell HS HT HB hb
            go_wp2_with fail
            go_roundw
            case rel => exact ⟨q + 1, by go_num, by omega, HSb.out, HTb.out, HBb.out⟩
            case measure => simp [intOf]; omega
          · obtain rfl : q = m := by omega
            go_wp2_with fail
            go_roundw
            case rel => exact ⟨k + 1, by go_num, by omega, HS.out, HT.out, HB.out⟩
            case measure => simp [intOf]; omega
      · obtain rfl : k = V.length := by omega
        obtain ⟨wo, rfl⟩ : ∃ wo : World, wo = wr := ⟨_, rfl⟩
        go_wp2_with fail
        refine (xNames_tab HT.out (by omega)).mono ?_
        rintro e w4 ⟨v4, rfl, ho4, hb4⟩
        obtain ⟨l4, hl4, HO4⟩ : ∃ l4 : List ByteArray, l4.length = (heads G).length ∧ Hid (OwnStr w4 wo.heap.size v4 l4) := ⟨_, rfl, ho4⟩
        obtain ⟨a4, c4, rfl⟩ := own_str_shape HO4.out
        have hl4' : l4.length ≤ 1048576 := by omega
        have HB4 := Lib.hid hb4
        clear ho4 hb4 hl4
        generalize hn4 : l4.length = n4 at *
        have HN4 := Lib.hid hn4
        clear hn4
        go_wp2_with fail
        go_loopw [9] (fun i wr => ∃ (q : Nat) (l' : List ByteArray), i = .int .i64 q ∧ q ≤ n4 ∧ Hid (l'.length = n4) ∧ Hid (OwnStr wr wo.heap.size (.slice a4 n4 c4) l') ∧ Hid (Below wo.heap.size wo wr)) (fun i _ => n4 - (intOf i).toNat)
        case atStart => exact ⟨0, l4, rfl, by omega, HN4.out, HO4.out, HB4.out⟩
        case round =>
          clear HO4 HB4 HN4
          obtain ⟨q, l', rfl, hq, HN, HO, HBq⟩ := hrel
          by_cases hltq : q < n4
          · obtain ⟨x, hx⟩ : ∃ x, l'[q]? = some x := ⟨_, List.getElem?_eq_getElem (by rw [HN.out]; exact hltq)⟩
            obtain ⟨g4, cap4, e4, hBg4, hg4, hle4, hcs⟩ := own_src HO.out (by rw [HN.out]; omega)
            simp only [Value.slice.injEq] at e4
            obtain ⟨rfl, -, rfl⟩ := e4
            obtain ⟨bb, off, cp2, e5, hbb, hcc, x0⟩ := RdS.at (RdS.of_own HO.out) hx
            simp only [Value.slice.injEq, Option.some.injEq, Addr.mk.injEq, and_true] at e5
            obtain ⟨⟨rfl, rfl⟩, -, rfl⟩ := e5
            have x1 : wr.cell? ⟨g4, q, none⟩ = some (.string x) := by simpa using x0
            have hf0 : wr.frozen? ⟨g4, q, none⟩ = false := by
              have ho := HO.out
              unfold OwnStr at ho
              rw [HN.out] at ho
              exact ho.frozenAt q
            obtain ⟨l2, hl2, ho2⟩ := own_str_poke HO.out q ⟨#[89]⟩ HN.out.symm
            have HN2 : Hid (l2.length = n4) := hl2.trans HN.out
            have HO2 := Lib.hid ho2
            have HB2 : Hid (Below wo.heap.size wo (wr.setCell ⟨g4, q, none⟩ (.string ⟨#[89]⟩))) := HBq.out.setCell (p := ⟨g4, q, none⟩) hBg4 _
            clear hcs x0 hx hl2 ho2 HN HO HBq
            go_wp2_with fail
            go_roundw
            case rel => exact ⟨q + 1, l2, by go_num, by omega, HN2.out, HO2.out, HB2.out⟩
            case measure => simp [intOf]; omega
          · obtain rfl : q = n4 := by omega
            have T5 := Lib.hid (HT.out.below HBq.out)
            have B5 := Lib.hid (HB.out.trans (HBq.out.mono HB.out.size))
            clear HN HO HBq HT HB
            go_wp2_with fail
            refine (xNames_tab T5.out (by omega)).mono ?_
            rintro e w5 ⟨v5, rfl, ho5, hb5⟩
            have T6 := Lib.hid (T5.out.below hb5)
            have B6 := Lib.hid (B5.out.trans (hb5.mono B5.out.size))
            have O6 := Lib.hid (RdS.of_own ho5)
            clear T5 B5 hb5 ho5
            go_wp2_with fail
            refine (H4.out _ (HV.out.below B6.out)).mono ?_
            rintro e w6 ⟨v6, rfl, ho6, hb6⟩
            have T7 := Lib.hid (T6.out.below hb6)
            have B7 := Lib.hid (B6.out.trans (hb6.mono B6.out.size))
            have O7 := Lib.hid (O6.out.below hb6)
            have Q7 := Lib.hid (RdS.of_own ho6)
            clear T6 B6 O6 hb6 ho6
            go_wp2_with fail
            refine (rSameTexts_any _ _ _ _ _ O7.out Q7.out (by omega) (by omega)).mono ?_
            rintro e w7 ⟨rfl, hb7⟩
            have T8 := Lib.hid (T7.out.below hb7)
            have B8 := Lib.hid (B7.out.trans (hb7.mono B7.out.size))
            clear hb7 T7 B7 O7 Q7
            rw [decide_eq_true (rfl : heads G = heads G)]
            go_wp2_with fail
            refine (xLabels_tab T8.out (by omega)).mono ?_
            rintro e w8 ⟨v8, rfl, ho8, hb8⟩
            have B9 := Lib.hid (B8.out.trans (hb8.mono B8.out.size))
            have O9 := Lib.hid (RdS.of_own ho8)
            clear T8 B8 hb8 ho8
            go_wp2_with fail
            refine (H5.out _ (HV.out.below B9.out)).mono ?_
            rintro e w9 ⟨v9, rfl, ho9, hb9⟩
            have B10 := Lib.hid (B9.out.trans (hb9.mono B9.out.size))
            have O10 := Lib.hid (O9.out.below hb9)
            have Q10 := Lib.hid (RdS.of_own ho9)
            clear B9 O9 hb9 ho9
            go_wp2_with fail
            refine (rSameTexts_any _ _ _ _ _ O10.out Q10.out (by omega) (by omega)).mono ?_
            rintro e w10 ⟨rfl, hb10⟩
            have B11 := Lib.hid (B10.out.trans (hb10.mono B10.out.size))
            clear hb10
            rw [decide_eq_true (rfl : used 3 G = used 3 G)]
            go_wp2_with fail
            go_ret
            exact ⟨rfl, B11.out⟩
  · have HO := Lib.hid (fun v w h => xOf_err v G w h hl (by omega) hc)
    clear hl hn h
    generalize checkG G = c at *
    have hcb : (c == 0) = false := by simpa using hc
    have hcc : (c != c) = false := by simp
    clear hc
    go_enter Tryz.func4, Tryz.ntmps4
    go_wp2_with fail
    refine (HC.out).mono ?_
    rintro e w1 ⟨v1, P1, rfl, hP1, ho1, hb1⟩
    have HB1 := Lib.hid hb1
    have HR1 : Hid (RdRu w1 v1 G) := ⟨P1, hP1, ho1.rd⟩
    clear hP1 ho1 hb1 HC
    go_wp2_with fail
    refine (HO.out _ _ HR1.out).mono ?_
    rintro e w2 ⟨rfl, hb2⟩
    have HB2 := Lib.hid (HB1.out.trans (hb2.mono HB1.out.size))
    clear hb2 HR1 HO
    go_wp2_with fail
    refine (H3.out _ (HV.out.below HB2.out)).mono ?_
    rintro e w3 ⟨rfl, hb3⟩
    have HB3 := Lib.hid (HB2.out.trans (hb3.mono HB2.out.size))
    clear hb3 HB2 H3
    go_wp2_with (first
      | (go_at_call 11; refine (xNames_nil _).mono ?_; rintro e w4 ⟨rfl, rfl⟩)
      | (go_at_call 13; refine (xLabels_nil _).mono ?_; rintro e w4 ⟨rfl, rfl⟩))
    go_ret
    exact ⟨rfl, HB3.out⟩
end Go.Proofs.YtfmcbpnhpckmjaaGreat
namespace Go.Proofs.YtfmcbpnhpckmjaaGreat.symbolsApart
open Go.ChangeShapes Go.WideShapes Go.ChangeAt Go.RowKit
open Go.ChangeMaps (open_string shut_string)

theorem laid : laidOutB Tryz.prog = true := by kernel_rfl

theorem own : ownKnob Tryz.prog.godebug = none := by kernel_rfl

set_option maxRecDepth 100000 in
theorem contract (H : Type) (enc : TypeId × Value → H) (W : World) (base : Nat) (args : Array Value) (ds gs : List (DataW H)) (before : List MemPlace)
    (hval : ∀ (j : Nat) t v, Tryz.f4.params[j]? = some t → args[j]? = some v → Value.okWide Tryz.prog W .any base t v)
    (hW : DataW.Whole enc Tryz.prog Tryz.f4.params.toList Rows.symbolsApartSpec.vars false W args.toList ds gs before) (hk : Rows.uptoSmall H (ds ++ gs) = true) :
    Calls Tryz.prog 4 args W fun e W' => ∃ v, e = .returned v ∧ Rows.symbolsApartSpec.post enc Tryz.prog Tryz.f4 false true false false W args v W' := by
  have hW' := hW
  obtain ⟨p, q, hA0, hV, rfl, hfz, hnd⟩ := hW
  have hA : DataW.TrodAll enc Tryz.prog W 0 (fun _ => true) true Tryz.f4.params.toList args.toList ds p := hA0
  rw [Tryz.params4] at hA hval
  obtain ⟨v0, vs0, d0, ds0, p0, q0, hargs, rfl, rfl, h0, r0⟩ := trodAll_cons hA
  obtain ⟨rfl, rfl, rfl⟩ := trodAll_nil r0
  obtain rfl : args = #[v0] := by cases args; simp_all
  obtain ⟨rfl, rfl⟩ := trodVars_none hV
  have hlt0 : ∀ x ∈ p0, x.block < W.heap.size := fun x hx => by simpa using hW'.lt x (by simp [hx])
  obtain ⟨a0, w0, t0⟩ := open_rules (hval 0 22 v0 rfl rfl) h0
  clear hA0
  have hb : Rows.uptoBulkAll [d0] ≤ 1048576 := of_decide_eq_true hk
  simp only [Rows.uptoBulkAll] at hb
  simp only [List.append_nil] at hW'
  refine (symbolsApart_any v0 a0 W w0 (t0.mono (by omega))).mono fun e W' ⟨he, bel⟩ => ?_
  subst he
  exact ⟨_, rfl, _, _, _, [], _, [], hW', trodAll_mk1 (shut_bool Tryz.underlying4 _), (trodAll_cons_mk (Below.trod laid (by kernel_rfl) (of_decide_eq_true (by kernel_rfl)) h0 bel hlt0) trodAll_mk0), rfl, bel.frame _, fun h => by cases h⟩

set_option maxRecDepth 100000 in
theorem lifted (os : Os) (started : os.Started) (H : Type) (enc : TypeId × Value → H) (F : Stop.Interp) :
    ReturnsInHanded {} Tryz.checked os 4 .any ((Rows.OpenSpec.upto Rows.symbolsApartSpec).pre6 enc Tryz.prog Tryz.f4 Rows.symbolsApartUptoRow.domain false) (((Rows.OpenSpec.upto Rows.symbolsApartSpec).at F).post enc Tryz.prog Tryz.f4 false true false false) := by
  refine returnsInHanded_of_cond (C := Tryz.checked) (s := Rows.OpenSpec.upto Rows.symbolsApartSpec) (k := Rows.uptoSmall) rfl own started (by kernel_rfl) Tryz.func4
    (OpenSpec.witness (enc := enc) (C := Tryz.checked) (s := Rows.OpenSpec.upto Rows.symbolsApartSpec) (k := Rows.uptoSmall) rfl false ⟨#[], #[.slice none 0 0], []⟩ 8 (by kernel_rfl) (by kernel_rfl) (by kernel_rfl)
      (x := ([.nil], [], [])) (by kernel_rfl) rfl (by kernel_rfl)) ?_
  intro W base args ds gs before hval hW _ hk _
  exact contract H enc W base args ds gs before hval hW hk

theorem proved : Rows.SymbolsApartUptoSaid :=
  OpenClaim.holds_of_cond 4 Tryz.f4 rfl rfl rfl rfl rfl rfl rfl ⟨rfl, rfl, rfl, rfl, rfl⟩ rfl rfl rfl rfl rfl (by kernel_rfl) Tryz.func4 (by kernel_rfl)
    (of_decide_eq_true (by kernel_rfl)) (by unfold Func.isWrapper; first | (rw [if_pos (by decide +kernel)]; kernel_rfl) | (rw [if_neg (by decide +kernel)]; exact ⟨rfl, rfl⟩))
    (fun os started H enc _ F => lifted os started H enc F)
#print axioms proved
end Go.Proofs.YtfmcbpnhpckmjaaGreat.symbolsApart
