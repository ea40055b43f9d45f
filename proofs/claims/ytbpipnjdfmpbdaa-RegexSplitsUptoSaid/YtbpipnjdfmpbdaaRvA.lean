import Derived.Test.YtbpipnjdfmpbdaaRtX
namespace Go.Proofs.Ytbpipnjdfmpbdaa
open Go.RowKit Go.Shelf

/-! ### rows of bools -/
def bools (l : List Bool) : List Value := l.map Value.bool
def OwnB (w : World) (B : Nat) (v : Value) (l : List Bool) : Prop := w.ownsRow B 4 1 v l.length (bools l)
def RdB (w : World) (v : Value) (l : List Bool) : Prop := Rd w v l.length 1 (bools l)
theorem RdB.of_own {w : World} {B : Nat} {v : Value} {l : List Bool} (h : OwnB w B v l) : RdB w v l := Rd.of_owns h
theorem RdB.below {w w' : World} {v : Value} {l : List Bool} (h : RdB w v l) (hb : Below w.heap.size w w') : RdB w' v l := Rd.below h hb
theorem RdB.pos {w : World} {v : Value} {l : List Bool} (h : RdB w v l) (h0 : 0 < l.length) :
    ∃ b off cap, v = .slice (some ⟨b, off, none⟩) l.length cap ∧ b < w.heap.size ∧ l.length ≤ cap ∧ ∀ (j : Nat) (q : Bool), l[j]? = some q → w.cell? ⟨b, off + j, none⟩ = some (.bool q) := by
  obtain ⟨b, off, cap, e, h1, h2, h3⟩ := Rd.at h h0
  exact ⟨b, off, cap, e, h1, h2, fun j q hq => h3 j _ (by unfold bools; rw [List.getElem?_map, hq]; rfl)⟩
theorem OwnB.pos {w : World} {B : Nat} {v : Value} {l : List Bool} (h : OwnB w B v l) (h0 : 0 < l.length) :
    ∃ g cap, v = .slice (some ⟨g, 0, none⟩) l.length cap ∧ B ≤ g ∧ g < w.heap.size ∧ l.length ≤ cap ∧ ∀ (j : Nat) (q : Bool), l[j]? = some q → w.cell? ⟨g, j, none⟩ = some (.bool q) ∧ w.frozen? ⟨g, j, none⟩ = false := by
  rcases h.2 with ⟨_, h2⟩ | ⟨g, cap, cur, h2, h3, h4, h5, h6, h7, h8⟩
  · omega
  · refine ⟨g, cap, h2, h3, (Array.getElem?_eq_some_iff.1 h4).1, h5, fun j q hq => ⟨?_, by simp [World.frozen?, h4]⟩⟩
    have := h.cells (g := g) (by rw [h2]; rfl) j (.bool q) (by unfold bools; rw [List.getElem?_map, hq]; rfl)
    simpa [Addr.add_lit] using this
theorem OwnB.set {w : World} {B g cap n : Nat} {l : List Bool} (h : OwnB w B (.slice (some ⟨g, 0, none⟩) n cap) l) (hn : l.length = n) (j : Nat) (q : Bool) :
    OwnB (w.setCell ⟨g, j, none⟩ (.bool q)) B (.slice (some ⟨g, 0, none⟩) n cap) (l.set j q) ∧ w.grownBy (w.setCell ⟨g, j, none⟩ (.bool q)) (some g) := by
  subst hn
  unfold OwnB at h ⊢
  have := World.ownsRow.stored h j (.bool q)
  refine ⟨?_, this.2⟩
  rw [List.length_set]
  have e : bools (l.set j q) = (bools l).set j (.bool q) := by unfold bools; rw [List.map_set]
  rw [e]; exact this.1
theorem infoB : ∃ i, Try.prog.info? 4 = some i ∧ i.zero = some (.bool false) ∧ i.size = 1 ∧ i.bytes = 1 := by
  have h : (Try.prog.info? 4).map (fun i => (i.zero, i.size, i.bytes)) = some (some (.bool false), 1, 1) := by kernel_rfl
  exact info_parts h
theorem madeB (n : Nat) : (madeCells (Value.bool false).cells (n * 1)).toList = bools (List.replicate n false) := by
  rw [Nat.mul_one]
  unfold bools madeCells
  simp [Value.cells]
  have e : (fun x : Nat => ([Value.bool false][x % 1]?.getD default)) = fun _ => Value.bool false := by
    funext x; rw [Nat.mod_one]; rfl
  rw [e, List.map_const']; simp
/-! ### join -/
def orL (t m : List Bool) : List Bool := List.zipWith (fun a b => a || b) t m
def chL (t m : List Bool) : List Bool := List.zipWith (fun a b => b && !a) t m
theorem orL_len {t m : List Bool} (h : m.length = t.length) : (orL t m).length = t.length := by unfold orL; simp [h]
theorem orL_at {t m : List Bool} {j : Nat} {a b : Bool} (h1 : t[j]? = some a) (h2 : m[j]? = some b) : (orL t m)[j]? = some (a || b) := by unfold orL; rw [List.getElem?_zipWith, h1, h2]
theorem chL_at {t m : List Bool} {j : Nat} {a b : Bool} (h1 : t[j]? = some a) (h2 : m[j]? = some b) : (chL t m)[j]? = some (b && !a) := by unfold chL; rw [List.getElem?_zipWith, h1, h2]
theorem mix_step {t m : List Bool} (h : m.length = t.length) {j : Nat} {a b : Bool} (h1 : t[j]? = some a) (h2 : m[j]? = some b) : ((orL t m).take j ++ t.drop j).set j (a || b) = (orL t m).take (j + 1) ++ t.drop (j + 1) := by
  have hj : j < t.length := (List.getElem?_eq_some_iff.1 h1).1
  have e1 : ((orL t m).take j).length = j := by rw [List.length_take, orL_len h]; omega
  rw [List.set_append_right _ _ (by omega), e1, Nat.sub_self, List.take_add_one, orL_at h1 h2, List.drop_eq_getElem_cons hj, List.set_cons_zero]
  simp

set_option maxRecDepth 100000 in
set_option maxHeartbeats 1600000 in
theorem xJoin_any (B g cap n : Nat) (t : List Bool) (b off cm : Nat) (m : List Bool) (w : World) (hT : OwnB w B (.slice (some ⟨g, 0, none⟩) n cap) t) (hn : t.length = n) (hm : m.length = n) (hl : n ≤ 4611686018427387904) (hcm : n ≤ cm)
    (hM : ∀ (j : Nat) (q : Bool), m[j]? = some q → w.cell? ⟨b, off + j, none⟩ = some (.bool q)) (hb : b < w.heap.size) (hne : b ≠ g) :
    Calls Try.prog 90 #[.slice (some ⟨g, 0, none⟩) n cap, .slice (some ⟨b, off, none⟩) n cm] w fun e w' => e = .returned (.bool ((chL t m).any id)) ∧ OwnB w' B (.slice (some ⟨g, 0, none⟩) n cap) (orL t m) ∧ w.grownBy w' (some g) := by
  have HM := Lib.hid hM
  have hmt : m.length = t.length := by omega
  have HN := Lib.hid hn
  have HMn := Lib.hid hm
  go_enter Try.func90, Try.ntmps90
  go_wp2_with fail
  go_loopw [5, 10] (fun c i wr => ∃ j : Nat, i = .int .i64 j ∧ j ≤ n ∧ c = .bool (((chL t m).take j).any id) ∧ Hid (OwnB wr B (.slice (some ⟨g, 0, none⟩) n cap) ((orL t m).take j ++ t.drop j)) ∧ Hid (w.grownBy wr (some g))) (fun _ i _ => n - (intOf i).toNat)
  case atStart => exact ⟨0, rfl, Nat.zero_le _, rfl, by unfold Hid; simpa using hT, World.grownBy.refl w (some g)⟩
  case round =>
    obtain ⟨j, rfl, hj, rfl, HO, HG⟩ := hrel
    by_cases hlt : j < n
    · obtain ⟨a, ha⟩ : ∃ a, t[j]? = some a := ⟨_, List.getElem?_eq_getElem (by omega)⟩
      obtain ⟨q, hq⟩ : ∃ q, m[j]? = some q := ⟨_, List.getElem?_eq_getElem (by omega)⟩
      have hlen : ((orL t m).take j ++ t.drop j).length = n := by
        rw [List.length_append, List.length_take, List.length_drop, orL_len hmt]; omega
      have hat : ((orL t m).take j ++ t.drop j)[j]? = some a := by
        have e1 : ((orL t m).take j).length = j := by rw [List.length_take, orL_len hmt]; omega
        rw [List.getElem?_append_right (by omega), e1, Nat.sub_self, List.getElem?_drop, Nat.add_zero]
        exact ha
      obtain ⟨g2, cap2, e2, hBg, hgl, hnc, hcs⟩ := HO.out.pos (by omega)
      simp only [Value.slice.injEq, Option.some.injEq, Addr.mk.injEq] at e2
      obtain ⟨⟨rfl, -, -⟩, -, rfl⟩ := e2
      obtain ⟨cT, fT⟩ := hcs j a hat
      have cM : wr.cell? ⟨b, off + j, none⟩ = some (.bool q) := (World.cell?_of_block (a := ⟨b, off + j, none⟩) (HG.out.block b hb (by simpa using hne))).trans (HM.out j q hq)
      have HCh := Lib.hid (any_snoc (chL t m) j _ (chL_at ha hq)).1
      have HSt : ∀ u : Bool, u = (a || q) → Hid (OwnB (wr.setCell ⟨g, j, none⟩ (.bool u)) B (.slice (some ⟨g, 0, none⟩) n cap) ((orL t m).take (j + 1) ++ t.drop (j + 1)) ∧ w.grownBy (wr.setCell ⟨g, j, none⟩ (.bool u)) (some g)) := by
        intro u hu
        have := OwnB.set HO.out hlen j u
        rw [hu, mix_step hmt ha hq] at this
        rw [hu]
        exact ⟨this.1, grown_then HG.out this.2 (fun q hq => .inr (by simpa using hq))⟩
      have HSt2 := Lib.hid HSt
      clear ha hq hat hcs HSt hlen
      generalize ((chL t m).take j).any id = c at *
      cases c <;> cases a <;> cases q
      all_goals
        go_wp2_with fail
        go_roundw
        case rel => exact ⟨j + 1, by go_num, by omega, by rw [HCh.out]; rfl, (HSt2.out _ rfl).out.1, (HSt2.out _ rfl).out.2⟩
        case measure => simp [intOf]; omega
    · obtain rfl : j = n := by omega
      have e1 : (chL t m).take j = chL t m := List.take_of_length_le (by unfold chL; simp; omega)
      have e2 : (orL t m).take j ++ t.drop j = orL t m := by rw [List.take_of_length_le (by rw [orL_len hmt]; omega), List.drop_eq_nil_of_le (by omega), List.append_nil]
      rw [e1]
      rw [e2] at HO
      go_wp2_with fail
      go_ret
      exact ⟨rfl, HO.out, HG.out⟩
end Go.Proofs.Ytbpipnjdfmpbdaa
namespace Go.Proofs.Ytbpipnjdfmpbdaa
open Go.RowKit Go.Shelf

theorem mixG {x f : List Bool} (h : f.length = x.length) {j : Nat} {a : Bool} (h1 : x[j]? = some a) : (x.take j ++ f.drop j).set j a = x.take (j + 1) ++ f.drop (j + 1) := by
  have hj : j < x.length := (List.getElem?_eq_some_iff.1 h1).1
  have e1 : (x.take j).length = j := by rw [List.length_take]; omega
  rw [List.set_append_right _ _ (by omega), e1, Nat.sub_self, List.take_add_one, h1, List.drop_eq_getElem_cons (by omega : j < f.length), List.set_cons_zero]
  simp
set_option maxRecDepth 100000 in
set_option maxHeartbeats 1600000 in
theorem rOr_any (va vb : Value) (A C : List Bool) (w : World) (hA : RdB w va A) (hC : RdB w vb C) (n : Nat) (hn : A.length = n) (hm : C.length = n) (h0 : 0 < n) (hl : n ≤ 1099511627776) :
    Calls Try.prog 91 #[va, vb] w fun e w' => ∃ v, e = .returned v ∧ OwnB w' w.heap.size v (orL A C) ∧ Below w.heap.size w w' := by
  obtain ⟨b1, o1, c1, rfl, hb1, hc1, ha⟩ := hA.pos (by omega)
  obtain ⟨b2, o2, c2, rfl, hb2, hc2, hc⟩ := hC.pos (by omega)
  obtain ⟨i0, hi, hz, hz1, hz2⟩ := infoB
  have hol : (orL A C).length = n := by rw [orL_len (by omega)]; exact hn
  have HA := Lib.hid ha
  have HC := Lib.hid hc
  have HOl := Lib.hid hol
  have HNa := Lib.hid hn
  have HNc := Lib.hid hm
  rw [hn, hm]
  rw [hn] at hc1
  rw [hm] at hc2
  clear ha hc hol hA hC
  go_enter Try.func91, Try.ntmps91
  go_wp2_with (at_make; refine wpList_make_full _ rfl _ _ 85 rfl w.heap.size 4 i0 (.bool false) 1 Try.underlying85 hi hz hz1 .i64 .i64 _ _ n rfl rfl rfl rfl (by rw [hz2]; omega) (by unfold maxLen; omega) (Nat.le_refl _) ?_; intro w1 hown1 hg1; rw [madeB] at hown1)
  have hO1 : OwnB w1 w.heap.size (.slice (some ⟨w.heap.size, 0, none⟩) n n) (List.replicate n false) := by unfold OwnB; rw [List.length_replicate]; exact hown1
  have HB1 := Lib.hid (below_grown hg1)
  clear hown1 hg1
  go_loopw [6] (fun i wr => ∃ j : Nat, i = .int .i64 j ∧ j ≤ n ∧ Hid (OwnB wr w.heap.size (.slice (some ⟨w.heap.size, 0, none⟩) n n) ((orL A C).take j ++ (List.replicate n false).drop j)) ∧ Hid (Below w.heap.size w wr)) (fun i _ => n - (intOf i).toNat)
  case atStart => exact ⟨0, rfl, Nat.zero_le _, by unfold Hid; simpa using hO1, HB1.out⟩
  case round =>
    obtain ⟨j, rfl, hj, HO, HBel⟩ := hrel
    by_cases hlt : j < n
    · obtain ⟨a, haj⟩ : ∃ a, A[j]? = some a := ⟨_, List.getElem?_eq_getElem (by have := HNa.out; omega)⟩
      obtain ⟨c, hcj⟩ : ∃ c, C[j]? = some c := ⟨_, List.getElem?_eq_getElem (by have := HNc.out; omega)⟩
      have hlen : ((orL A C).take j ++ (List.replicate n false).drop j).length = n := by
        rw [List.length_append, List.length_take, List.length_drop, HOl.out, List.length_replicate]; omega
      obtain ⟨q0, hq0⟩ : ∃ q0, ((orL A C).take j ++ (List.replicate n false).drop j)[j]? = some q0 := ⟨_, List.getElem?_eq_getElem (by omega)⟩
      obtain ⟨g2, cap2, e2, hBg, hgl, hnc, hcs⟩ := HO.out.pos (by omega)
      simp only [Value.slice.injEq, Option.some.injEq, Addr.mk.injEq] at e2
      obtain ⟨⟨rfl, -, -⟩, -, rfl⟩ := e2
      obtain ⟨cT, fT⟩ := hcs j q0 hq0
      have cA := (HBel.out.cell (p := ⟨b1, o1 + j, none⟩) hb1).trans (HA.out j a haj)
      have cC := (HBel.out.cell (p := ⟨b2, o2 + j, none⟩) hb2).trans (HC.out j c hcj)
      have HSt : Hid (∀ u : Bool, u = (a || c) → OwnB (wr.setCell ⟨w.heap.size, j, none⟩ (.bool u)) w.heap.size (.slice (some ⟨w.heap.size, 0, none⟩) n n) ((orL A C).take (j + 1) ++ (List.replicate n false).drop (j + 1)) ∧ Below w.heap.size w (wr.setCell ⟨w.heap.size, j, none⟩ (.bool u))) := by
        intro u hu
        have := OwnB.set HO.out hlen j u
        rw [hu, mixG (by rw [HOl.out, List.length_replicate]) (orL_at haj hcj)] at this
        rw [hu]
        exact ⟨this.1, HBel.out.setCell (p := ⟨w.heap.size, j, none⟩) (Nat.le_refl _) _⟩
      clear haj hcj hq0 hcs hlen
      cases a <;> cases c
      all_goals
        go_wp2_with fail
        go_roundw
        case rel => exact ⟨j + 1, by go_num, by omega, (HSt.out _ rfl).1, (HSt.out _ rfl).2⟩
        case measure => simp [intOf]; omega
    · obtain rfl : j = n := by omega
      have e2 : (orL A C).take j ++ (List.replicate j false).drop j = orL A C := by rw [List.take_of_length_le (by rw [HOl.out]; exact Nat.le_refl _), List.drop_eq_nil_of_le (by simp), List.append_nil]
      rw [e2] at HO
      go_wp2_with fail
      go_ret
      exact ⟨_, rfl, HO.out, HBel.out⟩

/-! ### matrices -/
def St (L : List Bool) (k : Nat) : Prop := L[k]? = some true
theorem st_set (L : List Bool) (k m : Nat) (hk : k < L.length) : St (L.set k true) m ↔ m = k ∨ St L m := by
  unfold St
  rw [List.getElem?_set]
  by_cases h : k = m
  · subst h; simp [hk]
  · rw [if_neg h]
    constructor
    · exact .inr
    · rintro (rfl | h2)
      · exact absurd rfl h
      · exact h2
theorem st_rep (n m : Nat) : ¬ St (List.replicate n false) m := by
  unfold St
  rw [List.getElem?_replicate]
  split <;> simp
theorem idx_lt {i j n : Nat} (hi : i < n) (hj : j < n) : i * n + j < n * n := by
  have : (i + 1) * n ≤ n * n := Nat.mul_le_mul_right _ hi
  rw [Nat.succ_mul] at this
  omega
theorem idx_inj {i j p q n : Nat} (hj : j < n) (hq : q < n) (h : p * n + q = i * n + j) : p = i ∧ q = j := by
  have h0 : 0 < n := by omega
  have e1 : (p * n + q) / n = p := by rw [Nat.mul_comm, Nat.mul_add_div h0, Nat.div_eq_of_lt hq]; omega
  have e2 : (i * n + j) / n = i := by rw [Nat.mul_comm, Nat.mul_add_div h0, Nat.div_eq_of_lt hj]; omega
  have : p = i := by rw [← e1, ← e2, h]
  subst this
  exact ⟨rfl, by omega⟩
theorem sq_le {n : Nat} (h : n ≤ 65) : n * n ≤ 4225 := Nat.mul_le_mul h h

set_option maxRecDepth 100000 in
set_option maxHeartbeats 1600000 in
theorem rOne_any (n : Nat) (w : World) (h0 : 0 < n) (hl : n ≤ 65) :
    Calls Try.prog 92 #[.int .i64 n] w fun e w' => ∃ v L, e = .returned v ∧ OwnB w' w.heap.size v L ∧ L.length = n * n ∧ (∀ p q, p < n → q < n → (St L (p * n + q) ↔ p = q)) ∧ Below w.heap.size w w' := by
  obtain ⟨i0, hi, hz, hz1, hz2⟩ := infoB
  have hsq := sq_le hl
  have HLt := Lib.hid (fun i (h : i < n) => idx_lt h h)
  obtain ⟨N, hN⟩ : ∃ N, N = n * n := ⟨_, rfl⟩
  have hNi : ((n : Int) * (n : Int)) = (N : Int) := by rw [hN]; simp
  have HN := Lib.hid hN
  rw [← hN] at hsq HLt ⊢
  clear hN
  go_enter Try.func92, Try.ntmps92
  go_wp2_with (at_make; refine wpList_make_full _ rfl _ _ 85 rfl w.heap.size 4 i0 (.bool false) 1 Try.underlying85 hi hz hz1 .i64 .i64 _ _ N rfl rfl rfl rfl (by rw [hz2]; omega) (by unfold maxLen; omega) (Nat.le_refl _) ?_; intro w1 hown1 hg1; rw [madeB] at hown1)
  have hO1 : OwnB w1 w.heap.size (.slice (some ⟨w.heap.size, 0, none⟩) N N) (List.replicate N false) := by unfold OwnB; rw [List.length_replicate]; exact hown1
  have HB1 := Lib.hid (below_grown hg1)
  clear hown1 hg1
  go_loopw [4] (fun i wr => ∃ (j : Nat) (L : List Bool), i = .int .i64 j ∧ j ≤ n ∧ L.length = N ∧ Hid (OwnB wr w.heap.size (.slice (some ⟨w.heap.size, 0, none⟩) N N) L) ∧ Hid (∀ p q, p < n → q < n → (St L (p * n + q) ↔ p = q ∧ p < j)) ∧ Hid (Below w.heap.size w wr)) (fun i _ => n - (intOf i).toNat)
  case atStart => exact ⟨0, _, rfl, Nat.zero_le _, by simp, hO1, fun p q _ _ => ⟨fun h => absurd h (st_rep _ _), fun h => by omega⟩, HB1.out⟩
  case round =>
    obtain ⟨j, L, rfl, hj, hL, HO, HS, HBel⟩ := hrel
    by_cases hlt : j < n
    · have hix := HLt.out j hlt
      obtain ⟨r, hr⟩ : ∃ r, r = j * n := ⟨_, rfl⟩
      have hri : ((j : Int) * (n : Int)) = (r : Int) := by rw [hr]; simp
      have HR := Lib.hid hr
      rw [← hr] at hix
      obtain ⟨q0, hq0⟩ : ∃ q0, L[r + j]? = some q0 := ⟨_, List.getElem?_eq_getElem (by omega)⟩
      obtain ⟨g2, cap2, e2, hBg, hgl, hnc, hcs⟩ := HO.out.pos (by omega)
      simp only [Value.slice.injEq, Option.some.injEq, Addr.mk.injEq] at e2
      obtain ⟨⟨rfl, -, -⟩, -, rfl⟩ := e2
      obtain ⟨cT, fT⟩ := hcs (r + j) q0 hq0
      have HSt := Lib.hid (OwnB.set HO.out hL (r + j) true).1
      have HBs : Hid (Below w.heap.size w (wr.setCell ⟨w.heap.size, r + j, none⟩ (.bool true))) := HBel.out.setCell (p := ⟨w.heap.size, r + j, none⟩) (Nat.le_refl _) _
      have HS2 : Hid (∀ p q, p < n → q < n → (St (L.set (r + j) true) (p * n + q) ↔ p = q ∧ p < j + 1)) := by
        intro p q hp hq
        rw [st_set _ _ _ (by omega), HS.out p q hp hq, HR.out]
        constructor
        · rintro (h | h)
          · obtain ⟨rfl, rfl⟩ := idx_inj hlt hq h
            exact ⟨rfl, by omega⟩
          · exact ⟨h.1, by omega⟩
        · rintro ⟨rfl, h⟩
          by_cases hpj : p = j
          · left; rw [hpj]
          · exact .inr ⟨rfl, by omega⟩
      have hLs : (L.set (r + j) true).length = N := by rw [List.length_set]; exact hL
      clear hcs hq0 hr
      go_wp2_with fail
      go_roundw
      case rel => exact ⟨j + 1, _, by go_num, by omega, hLs, HSt.out, HS2.out, HBs.out⟩
      case measure => simp [intOf]; omega
    · obtain rfl : j = n := by omega
      have HS2 : Hid (∀ p q, p < j → q < j → (St L (p * j + q) ↔ p = q)) := fun p q hp hq => by
        rw [HS.out p q hp hq]; exact ⟨fun h => h.1, fun h => ⟨h, hp⟩⟩
      go_wp2_with fail
      go_ret
      exact ⟨_, L, rfl, HO.out, hL, HS2.out, HBel.out⟩
end Go.Proofs.Ytbpipnjdfmpbdaa
namespace Go.Proofs.Ytbpipnjdfmpbdaa

/-! ### plain: products of matrices -/
def MulTo (n : Nat) (A C L : List Bool) (i k j : Nat) : Prop := ∀ p q, p < n → q < n → (St L (p * n + q) ↔
  (p < i ∧ ∃ r, r < n ∧ St A (p * n + r) ∧ St C (r * n + q)) ∨ (p = i ∧ ∃ r, r < k ∧ St A (p * n + r) ∧ St C (r * n + q)) ∨ (p = i ∧ St A (i * n + k) ∧ St C (k * n + q) ∧ q < j))
theorem mulTo_zero (n N : Nat) (A C : List Bool) : MulTo n A C (List.replicate N false) 0 0 0 := by
  intro p q _ _
  refine ⟨fun h => absurd h (st_rep _ _), ?_⟩
  rintro (⟨h, _⟩ | ⟨_, r, h, _⟩ | ⟨_, _, _, h⟩) <;> omega
theorem mulTo_skip {n : Nat} {A C L : List Bool} {i k : Nat} (ha : ¬ St A (i * n + k)) (h : MulTo n A C L i k 0) : MulTo n A C L i (k + 1) 0 := by
  intro p q hp hq
  rw [h p q hp hq]
  constructor
  · rintro (h1 | ⟨rfl, r, h1, h2⟩ | ⟨_, _, _, h1⟩)
    · exact .inl h1
    · exact .inr (.inl ⟨rfl, r, by omega, h2⟩)
    · omega
  · rintro (h1 | ⟨rfl, r, h1, h2, h3⟩ | ⟨_, _, _, h1⟩)
    · exact .inl h1
    · by_cases hr : r = k
      · subst hr; exact absurd h2 ha
      · exact .inr (.inl ⟨rfl, r, by omega, h2, h3⟩)
    · omega
theorem mulTo_col {n : Nat} {A C L : List Bool} {i k : Nat} (h : MulTo n A C L i k n) : MulTo n A C L i (k + 1) 0 := by
  intro p q hp hq
  rw [h p q hp hq]
  constructor
  · rintro (h1 | ⟨rfl, r, h1, h2⟩ | ⟨rfl, h1, h2, _⟩)
    · exact .inl h1
    · exact .inr (.inl ⟨rfl, r, by omega, h2⟩)
    · exact .inr (.inl ⟨rfl, k, by omega, h1, h2⟩)
  · rintro (h1 | ⟨rfl, r, h1, h2, h3⟩ | ⟨_, _, _, h1⟩)
    · exact .inl h1
    · by_cases hr : r = k
      · subst hr; exact .inr (.inr ⟨rfl, h2, h3, hq⟩)
      · exact .inr (.inl ⟨rfl, r, by omega, h2, h3⟩)
    · omega
theorem mulTo_row {n : Nat} {A C L : List Bool} {i : Nat} (h : MulTo n A C L i n 0) : MulTo n A C L (i + 1) 0 0 := by
  intro p q hp hq
  rw [h p q hp hq]
  constructor
  · rintro (⟨h1, h2⟩ | ⟨rfl, h2⟩ | ⟨_, _, _, h1⟩)
    · exact .inl ⟨by omega, h2⟩
    · exact .inl ⟨by omega, h2⟩
    · omega
  · rintro (⟨h1, h2⟩ | ⟨_, r, h1, _⟩ | ⟨_, _, _, h1⟩)
    · by_cases hp2 : p = i
      · exact .inr (.inl ⟨hp2, h2⟩)
      · exact .inl ⟨by omega, h2⟩
    · omega
    · omega
theorem mulTo_set {n : Nat} {A C L : List Bool} {i k j : Nat} (hL : L.length = n * n) (hi : i < n) (hj : j < n) (ha : St A (i * n + k)) (hc : St C (k * n + j)) (h : MulTo n A C L i k j) : MulTo n A C (L.set (i * n + j) true) i k (j + 1) := by
  intro p q hp hq
  have hix := idx_lt hi hj
  rw [st_set _ _ _ (by omega), h p q hp hq]
  constructor
  · rintro (h1 | h1 | h1 | ⟨h1, h2, h3, h4⟩)
    · obtain ⟨rfl, rfl⟩ := idx_inj hj hq h1
      exact .inr (.inr ⟨rfl, ha, hc, by omega⟩)
    · exact .inl h1
    · exact .inr (.inl h1)
    · exact .inr (.inr ⟨h1, h2, h3, by omega⟩)
  · rintro (h1 | h1 | ⟨h1, h2, h3, h4⟩)
    · exact .inr (.inl h1)
    · exact .inr (.inr (.inl h1))
    · by_cases hqj : q = j
      · left; rw [h1, hqj]
      · exact .inr (.inr (.inr ⟨h1, h2, h3, by omega⟩))
theorem mulTo_no {n : Nat} {A C L : List Bool} {i k j : Nat} (hc : ¬ St C (k * n + j)) (h : MulTo n A C L i k j) : MulTo n A C L i k (j + 1) := by
  intro p q hp hq
  rw [h p q hp hq]
  constructor
  · rintro (h1 | h1 | ⟨h1, h2, h3, h4⟩)
    · exact .inl h1
    · exact .inr (.inl h1)
    · exact .inr (.inr ⟨h1, h2, h3, by omega⟩)
  · rintro (h1 | h1 | ⟨h1, h2, h3, h4⟩)
    · exact .inl h1
    · exact .inr (.inl h1)
    · by_cases hqj : q = j
      · subst hqj; exact absurd h3 hc
      · exact .inr (.inr ⟨h1, h2, h3, by omega⟩)
theorem mulTo_end {n : Nat} {A C L : List Bool} (h : MulTo n A C L n 0 0) (p q : Nat) (hp : p < n) (hq : q < n) : St L (p * n + q) ↔ ∃ r, r < n ∧ St A (p * n + r) ∧ St C (r * n + q) := by
  rw [h p q hp hq]
  constructor
  · rintro (⟨_, h1⟩ | ⟨_, r, h1, _⟩ | ⟨_, _, _, h1⟩)
    · exact h1
    · omega
    · omega
  · exact fun h1 => .inl ⟨hp, h1⟩
/-! ### plain: the closure -/
def AR (n : Nat) (A : List Bool) (p q : Nat) : Prop := p < n ∧ q < n ∧ St A (p * n + q)
def PK (n : Nat) (A : List Bool) : Nat → Nat → Nat → Prop
  | 0, p, q => AR n A p q
  | k + 1, p, q => PK n A k p q ∨ (PK n A k p k ∧ PK n A k k q)
theorem pk_mono (n : Nat) (A : List Bool) (p q : Nat) : ∀ (d k : Nat), PK n A k p q → PK n A (k + d) p q
  | 0, k, h => h
  | d + 1, k, h => .inl (pk_mono n A p q d k h)
theorem pk_trans (n : Nat) (A : List Bool) : ∀ (k r p q : Nat), r < k → PK n A k p r → PK n A k r q → PK n A k p q
  | 0, r, p, q, h, _, _ => by omega
  | k + 1, r, p, q, h, h1, h2 => by
    by_cases hr : r = k
    · subst hr
      have a1 : PK n A r p r := by rcases h1 with h1 | h1; exact h1; exact h1.1
      have a2 : PK n A r r q := by rcases h2 with h2 | h2; exact h2; exact h2.2
      exact .inr ⟨a1, a2⟩
    · have hrk : r < k := by omega
      rcases h1 with h1 | ⟨h1, h1'⟩ <;> rcases h2 with h2 | ⟨h2, h2'⟩
      · exact .inl (pk_trans n A k r p q hrk h1 h2)
      · exact .inr ⟨pk_trans n A k r p k hrk h1 h2, h2'⟩
      · exact .inr ⟨h1, pk_trans n A k r k q hrk h1' h2⟩
      · exact .inr ⟨h1, h2'⟩
theorem pk_gen (n : Nat) (A : List Bool) (p q : Nat) (h : Relation.TransGen (AR n A) p q) : PK n A n p q := by
  induction h with
  | single h => have := pk_mono n A _ _ n 0 h; rwa [Nat.zero_add] at this
  | tail _ h ih =>
    have h2 := pk_mono n A _ _ n 0 h
    rw [Nat.zero_add] at h2
    exact pk_trans n A n _ _ _ h.1 ih h2
structure PlusTo (n : Nat) (A L : List Bool) (k i j : Nat) : Prop where
  sound : ∀ p q, p < n → q < n → St L (p * n + q) → Relation.TransGen (AR n A) p q
  old : ∀ p q, p < n → q < n → PK n A k p q → St L (p * n + q)
  new : ∀ p q, p < n → q < n → (p < i ∨ (p = i ∧ q < j)) → PK n A (k + 1) p q → St L (p * n + q)
theorem plusTo_zero {n : Nat} {A L : List Bool} (h : ∀ p q, p < n → q < n → (St L (p * n + q) ↔ St A (p * n + q))) : PlusTo n A L 0 0 0 :=
  ⟨fun p q hp hq hs => .single ⟨hp, hq, (h p q hp hq).1 hs⟩, fun p q hp hq hk => (h p q hp hq).2 hk.2.2, fun p q _ _ h => by omega⟩
theorem plusTo_set {n : Nat} {A L : List Bool} {k i j : Nat} (hL : L.length = n * n) (hk : k < n) (hi : i < n) (hj : j < n) (h1 : St L (i * n + k)) (h2 : St L (k * n + j)) (h : PlusTo n A L k i j) : PlusTo n A (L.set (i * n + j) true) k i (j + 1) := by
  have hix := idx_lt hi hj
  refine ⟨fun p q hp hq hs => ?_, fun p q hp hq hk2 => ?_, fun p q hp hq hpq hk2 => ?_⟩
  · rw [st_set _ _ _ (by omega)] at hs
    rcases hs with hs | hs
    · obtain ⟨rfl, rfl⟩ := idx_inj hj hq hs
      exact Relation.TransGen.trans (h.sound _ _ hp hk h1) (h.sound _ _ hk hq h2)
    · exact h.sound p q hp hq hs
  · rw [st_set _ _ _ (by omega)]
    exact .inr (h.old p q hp hq hk2)
  · rw [st_set _ _ _ (by omega)]
    by_cases he : p = i ∧ q = j
    · left; rw [he.1, he.2]
    · exact .inr (h.new p q hp hq (by omega) hk2)
theorem plusTo_no {n : Nat} {A L : List Bool} {k i j : Nat} (hk : k < n) (hno : ¬ (St L (i * n + k) ∧ St L (k * n + j))) (h : PlusTo n A L k i j) : PlusTo n A L k i (j + 1) := by
  refine ⟨h.sound, h.old, fun p q hp hq hpq hk2 => ?_⟩
  by_cases he : p = i ∧ q = j
  · obtain ⟨rfl, rfl⟩ := he
    rcases hk2 with hk2 | hk2
    · exact h.old p q hp hq hk2
    · exact absurd ⟨h.old _ _ hp hk hk2.1, h.old _ _ hk hq hk2.2⟩ hno
  · exact h.new p q hp hq (by omega) hk2
theorem plusTo_row {n : Nat} {A L : List Bool} {k i : Nat} (h : PlusTo n A L k i n) : PlusTo n A L k (i + 1) 0 :=
  ⟨h.sound, h.old, fun p q hp hq hpq hk2 => h.new p q hp hq (by omega) hk2⟩
theorem plusTo_phase {n : Nat} {A L : List Bool} {k : Nat} (h : PlusTo n A L k n 0) : PlusTo n A L (k + 1) 0 0 :=
  ⟨h.sound, fun p q hp hq hk2 => h.new p q hp hq (.inl hp) hk2, fun p q _ _ h => by omega⟩
theorem plusTo_end {n : Nat} {A L : List Bool} (h : PlusTo n A L n 0 0) (p q : Nat) (hp : p < n) (hq : q < n) : St L (p * n + q) ↔ Relation.TransGen (AR n A) p q :=
  ⟨h.sound p q hp hq, fun ht => h.old p q hp hq (pk_gen n A p q ht)⟩
end Go.Proofs.Ytbpipnjdfmpbdaa
namespace Go.Proofs.Ytbpipnjdfmpbdaa
open Go.RowKit Go.Shelf

theorem st_val {L : List Bool} {k : Nat} {q : Bool} (h : L[k]? = some q) : St L k ↔ q = true := by
  unfold St; rw [h]; simp

set_option maxRecDepth 100000 in
set_option maxHeartbeats 3200000 in
theorem rMul_any (va vb : Value) (A C : List Bool) (n : Nat) (w : World) (hA : RdB w va A) (hC : RdB w vb C) (h0 : 0 < n) (hl : n ≤ 65) (hAn : A.length = n * n) (hCn : C.length = n * n) :
    Calls Try.prog 93 #[va, vb, .int .i64 n] w fun e w' => ∃ v L, e = .returned v ∧ OwnB w' w.heap.size v L ∧ L.length = n * n ∧ (∀ p q, p < n → q < n → (St L (p * n + q) ↔ ∃ r, r < n ∧ St A (p * n + r) ∧ St C (r * n + q))) ∧ Below w.heap.size w w' := by
  have hpos : 0 < n * n := Nat.mul_pos h0 h0
  obtain ⟨b1, o1, c1, rfl, hb1, hc1, ha⟩ := hA.pos (by omega)
  obtain ⟨b2, o2, c2, rfl, hb2, hc2, hc⟩ := hC.pos (by omega)
  obtain ⟨i0, hi, hz, hz1, hz2⟩ := infoB
  have hsq := sq_le hl
  have HLt := Lib.hid (fun i j (h : i < n) (h' : j < n) => idx_lt h h')
  have HZ := Lib.hid (mulTo_zero n (n * n) A C)
  have HSet : Hid (∀ (L : List Bool) (i k j : Nat), L.length = n * n → i < n → j < n → St A (i * n + k) → St C (k * n + j) → MulTo n A C L i k j → MulTo n A C (L.set (i * n + j) true) i k (j + 1)) := fun L i k j a b c d e f => mulTo_set a b c d e f
  rw [hAn] at hc1 ⊢
  rw [hCn] at hc2 ⊢
  obtain ⟨N, hN⟩ : ∃ N, N = n * n := ⟨_, rfl⟩
  have hNi : ((n : Int) * (n : Int)) = (N : Int) := by rw [hN]; simp
  have HN := Lib.hid hN
  rw [← hN] at hsq HLt hAn hCn hc1 hc2 HZ HSet ⊢
  have HA := Lib.hid ha
  have HC := Lib.hid hc
  have HAn := Lib.hid hAn
  have HCn := Lib.hid hCn
  clear hN ha hc hA hC hAn hCn hpos
  go_enter Try.func93, Try.ntmps93
  go_wp2_with (at_make; refine wpList_make_full _ rfl _ _ 85 rfl w.heap.size 4 i0 (.bool false) 1 Try.underlying85 hi hz hz1 .i64 .i64 _ _ N rfl rfl rfl rfl (by rw [hz2]; omega) (by unfold maxLen; omega) (Nat.le_refl _) ?_; intro w1 hown1 hg1; rw [madeB] at hown1)
  have hO1 : OwnB w1 w.heap.size (.slice (some ⟨w.heap.size, 0, none⟩) N N) (List.replicate N false) := by unfold OwnB; rw [List.length_replicate]; exact hown1
  have HB1 := Lib.hid (below_grown hg1)
  clear hown1 hg1
  go_loopw [8] (fun i wr => ∃ (i' : Nat) (L : List Bool), i = .int .i64 i' ∧ i' ≤ n ∧ L.length = N ∧ Hid (OwnB wr w.heap.size (.slice (some ⟨w.heap.size, 0, none⟩) N N) L) ∧ Hid (MulTo n A C L i' 0 0) ∧ Hid (Below w.heap.size w wr)) (fun i _ => n - (intOf i).toNat)
  case atStart => exact ⟨0, _, rfl, Nat.zero_le _, by simp, hO1, HZ.out, HB1.out⟩
  case round =>
    obtain ⟨i, L0, rfl, hi', hL0, HO0, HS0, HBel0⟩ := hrel
    by_cases hlt : i < n
    · obtain ⟨ri, hri⟩ : ∃ r, r = i * n := ⟨_, rfl⟩
      have hrii : ((i : Int) * (n : Int)) = (ri : Int) := by rw [hri]; simp
      have HRi := Lib.hid hri
      have hLti := HLt.out i 0 hlt h0
      rw [← hri] at hLti
      clear hri
      go_wp2_with fail
      go_loopw [9] (fun k wr => ∃ (k' : Nat) (L : List Bool), k = .int .i64 k' ∧ k' ≤ n ∧ L.length = N ∧ Hid (OwnB wr w.heap.size (.slice (some ⟨w.heap.size, 0, none⟩) N N) L) ∧ Hid (MulTo n A C L i k' 0) ∧ Hid (Below w.heap.size w wr)) (fun k _ => n - (intOf k).toNat)
      case atStart => exact ⟨0, L0, rfl, Nat.zero_le _, hL0, HO0.out, HS0.out, HBel0.out⟩
      case round =>
        obtain ⟨k, L1, rfl, hk', hL1, HO1, HS1, HBel1⟩ := hrel
        by_cases hltk : k < n
        · have hik := HLt.out i k hlt hltk
          rw [← HRi.out] at hik
          obtain ⟨qa, hqa⟩ : ∃ q, A[ri + k]? = some q := ⟨_, List.getElem?_eq_getElem (by have := HAn.out; omega)⟩
          have cA := (HBel1.out.cell (p := ⟨b1, o1 + (ri + k), none⟩) hb1).trans (HA.out _ qa hqa)
          obtain ⟨rk, hrk⟩ : ∃ r, r = k * n := ⟨_, rfl⟩
          have hrki : ((k : Int) * (n : Int)) = (rk : Int) := by rw [hrk]; simp
          have HRk := Lib.hid hrk
          have hLtk := HLt.out k 0 hltk h0
          rw [← hrk] at hLtk
          have HQa := Lib.hid (st_val hqa)
          clear hrk hqa
          cases qa with
          | false =>
            have HS2 : Hid (MulTo n A C L1 i (k + 1) 0) := mulTo_skip (by rw [← HRi.out, HQa.out]; simp) HS1.out
            go_wp2_with fail
            go_roundw
            case rel => exact ⟨k + 1, L1, by go_num, by omega, hL1, HO1.out, HS2.out, HBel1.out⟩
            case measure => simp [intOf]; omega
          | true =>
            have HAik : Hid (St A (i * n + k)) := by unfold Hid; rw [← HRi.out, HQa.out]
            go_wp2_with fail
            go_loopw [10] (fun j wr => ∃ (j' : Nat) (L : List Bool), j = .int .i64 j' ∧ j' ≤ n ∧ L.length = N ∧ Hid (OwnB wr w.heap.size (.slice (some ⟨w.heap.size, 0, none⟩) N N) L) ∧ Hid (MulTo n A C L i k j') ∧ Hid (Below w.heap.size w wr)) (fun j _ => n - (intOf j).toNat)
            case atStart => exact ⟨0, L1, rfl, Nat.zero_le _, hL1, HO1.out, HS1.out, HBel1.out⟩
            case round =>
              obtain ⟨j, L2, rfl, hj', hL2, HO2, HS2, HBel2⟩ := hrel
              by_cases hltj : j < n
              · have hkj := HLt.out k j hltk hltj
                rw [← HRk.out] at hkj
                have hij := HLt.out i j hlt hltj
                rw [← HRi.out] at hij
                obtain ⟨qc, hqc⟩ : ∃ q, C[rk + j]? = some q := ⟨_, List.getElem?_eq_getElem (by have := HCn.out; omega)⟩
                have cC := (HBel2.out.cell (p := ⟨b2, o2 + (rk + j), none⟩) hb2).trans (HC.out _ qc hqc)
                have HQc := Lib.hid (st_val hqc)
                clear hqc
                cases qc with
                | false =>
                  have HS3 : Hid (MulTo n A C L2 i k (j + 1)) := mulTo_no (by rw [← HRk.out, HQc.out]; simp) HS2.out
                  go_wp2_with fail
                  go_roundw
                  case rel => exact ⟨j + 1, L2, by go_num, by omega, hL2, HO2.out, HS3.out, HBel2.out⟩
                  case measure => simp [intOf]; omega
                | true =>
                  obtain ⟨q0, hq0⟩ : ∃ q0, L2[ri + j]? = some q0 := ⟨_, List.getElem?_eq_getElem (by omega)⟩
                  obtain ⟨g2, cap2, e2, hBg, hgl, hnc, hcs⟩ := HO2.out.pos (by omega)
                  simp only [Value.slice.injEq, Option.some.injEq, Addr.mk.injEq] at e2
                  obtain ⟨⟨rfl, -, -⟩, -, rfl⟩ := e2
                  obtain ⟨cT, fT⟩ := hcs (ri + j) q0 hq0
                  have HSt := Lib.hid (OwnB.set HO2.out hL2 (ri + j) true).1
                  have HBs : Hid (Below w.heap.size w (wr.setCell ⟨w.heap.size, ri + j, none⟩ (.bool true))) := HBel2.out.setCell (p := ⟨w.heap.size, ri + j, none⟩) (Nat.le_refl _) _
                  have HS3 : Hid (MulTo n A C (L2.set (ri + j) true) i k (j + 1)) := by
                    have := HSet.out L2 i k j hL2 hlt hltj HAik.out (by rw [← HRk.out, HQc.out]) HS2.out
                    rwa [← HRi.out] at this
                  have hLs : (L2.set (ri + j) true).length = N := by rw [List.length_set]; exact hL2
                  clear hcs hq0
                  go_wp2_with fail
                  go_roundw
                  case rel => exact ⟨j + 1, _, by go_num, by omega, hLs, HSt.out, HS3.out, HBs.out⟩
                  case measure => simp [intOf]; omega
              · obtain rfl : j = n := by omega
                have HS3 := Lib.hid (mulTo_col HS2.out)
                go_wp2_with fail
                go_roundw
                case rel => exact ⟨k + 1, L2, by go_num, by omega, hL2, HO2.out, HS3.out, HBel2.out⟩
                case measure => simp [intOf]; omega
        · obtain rfl : k = n := by omega
          have HS3 := Lib.hid (mulTo_row HS1.out)
          go_wp2_with fail
          go_roundw
          case rel => exact ⟨i + 1, L1, by go_num, by omega, hL1, HO1.out, HS3.out, HBel1.out⟩
          case measure => simp [intOf]; omega
    · obtain rfl : i = n := by omega
      have HS2 := Lib.hid (fun p q => mulTo_end HS0.out p q)
      go_wp2_with fail
      go_ret
      exact ⟨_, L0, rfl, HO0.out, hL0, HS2.out, HBel0.out⟩

theorem st_or (A C : List Bool) (k : Nat) (h : A.length = C.length) : St (orL A C) k ↔ St A k ∨ St C k := by
  by_cases hk : k < A.length
  · have h1 := List.getElem?_eq_getElem hk
    have h2 := List.getElem?_eq_getElem (l := C) (i := k) (by omega)
    unfold St
    rw [orL_at h1 h2, h1, h2]
    simp
  · unfold St
    rw [List.getElem?_eq_none (by rw [orL_len (by omega)]; omega), List.getElem?_eq_none (by omega), List.getElem?_eq_none (by omega)]
    simp

set_option maxRecDepth 100000 in
set_option maxHeartbeats 3200000 in
theorem rPlus_any (va : Value) (A : List Bool) (n : Nat) (w : World) (hA : RdB w va A) (h0 : 0 < n) (hl : n ≤ 65) (hAn : A.length = n * n) :
    Calls Try.prog 94 #[va, .int .i64 n] w fun e w' => ∃ v L, e = .returned v ∧ OwnB w' w.heap.size v L ∧ L.length = n * n ∧ (∀ p q, p < n → q < n → (St L (p * n + q) ↔ Relation.TransGen (AR n A) p q)) ∧ Below w.heap.size w w' := by
  have hpos : 0 < n * n := Nat.mul_pos h0 h0
  have hsq := sq_le hl
  have HOr := Lib.hid (rOr_any va va A A w hA hA (n * n) hAn hAn hpos (by omega))
  have hol : (orL A A).length = n * n := by rw [orL_len rfl]; exact hAn
  have HZ : Hid (PlusTo n A (orL A A) 0 0 0) := plusTo_zero fun p q _ _ => by rw [st_or _ _ _ rfl]; simp
  obtain ⟨b1, o1, c1, rfl, hb1, hc1, ha⟩ := hA.pos (by omega)
  have HLt := Lib.hid (fun i j (h : i < n) (h' : j < n) => idx_lt h h')
  have HSet : Hid (∀ (L : List Bool) (i k j : Nat), L.length = n * n → k < n → i < n → j < n → St L (i * n + k) → St L (k * n + j) → PlusTo n A L k i j → PlusTo n A (L.set (i * n + j) true) k i (j + 1)) := fun L i k j a b c d e f g => plusTo_set a b c d e f g
  rw [hAn] at hc1 HOr ⊢
  generalize orL A A = O at *
  obtain ⟨N, hN⟩ : ∃ N, N = n * n := ⟨_, rfl⟩
  have HN := Lib.hid hN
  rw [← hN] at hsq HLt hol hc1 HSet hpos HOr ⊢
  clear hN ha hA hAn
  go_enter Try.func94, Try.ntmps94
  go_wp2_with fail
  refine (HOr.out).mono ?_
  rintro e w1 ⟨v1, rfl, ho1, hb1⟩
  have HO1 := Lib.hid ho1
  have HB1 := Lib.hid hb1
  obtain ⟨g, cap, rfl, hBg, hgl, hnc, -⟩ := ho1.pos (by omega)
  rw [hol] at hnc HO1 ⊢
  clear ho1 hb1
  go_wp2_with fail
  go_loopw [6] (fun k wr => ∃ (k' : Nat) (L : List Bool), k = .int .i64 k' ∧ k' ≤ n ∧ L.length = N ∧ Hid (OwnB wr w.heap.size (.slice (some ⟨g, 0, none⟩) N cap) L) ∧ Hid (PlusTo n A L k' 0 0) ∧ Hid (Below w.heap.size w wr)) (fun k _ => n - (intOf k).toNat)
  case atStart => exact ⟨0, O, rfl, Nat.zero_le _, hol, HO1.out, HZ.out, HB1.out⟩
  case round =>
    obtain ⟨k, L0, rfl, hk', hL0, HO0, HS0, HBel0⟩ := hrel
    by_cases hltk : k < n
    · obtain ⟨rk, hrk⟩ : ∃ r, r = k * n := ⟨_, rfl⟩
      have hrki : ((k : Int) * (n : Int)) = (rk : Int) := by rw [hrk]; simp
      have HRk := Lib.hid hrk
      have hLtk := HLt.out k 0 hltk h0
      rw [← hrk] at hLtk
      clear hrk
      go_wp2_with fail
      go_loopw [7] (fun i wr => ∃ (i' : Nat) (L : List Bool), i = .int .i64 i' ∧ i' ≤ n ∧ L.length = N ∧ Hid (OwnB wr w.heap.size (.slice (some ⟨g, 0, none⟩) N cap) L) ∧ Hid (PlusTo n A L k i' 0) ∧ Hid (Below w.heap.size w wr)) (fun i _ => n - (intOf i).toNat)
      case atStart => exact ⟨0, L0, rfl, Nat.zero_le _, hL0, HO0.out, HS0.out, HBel0.out⟩
      case round =>
        obtain ⟨i, L1, rfl, hi', hL1, HO1, HS1, HBel1⟩ := hrel
        by_cases hlt : i < n
        · obtain ⟨ri, hri⟩ : ∃ r, r = i * n := ⟨_, rfl⟩
          have hrii : ((i : Int) * (n : Int)) = (ri : Int) := by rw [hri]; simp
          have HRi := Lib.hid hri
          have hik := HLt.out i k hlt hltk
          rw [← hri] at hik
          clear hri
          go_wp2_with fail
          go_loopw [8] (fun j wr => ∃ (j' : Nat) (L : List Bool), j = .int .i64 j' ∧ j' ≤ n ∧ L.length = N ∧ Hid (OwnB wr w.heap.size (.slice (some ⟨g, 0, none⟩) N cap) L) ∧ Hid (PlusTo n A L k i j') ∧ Hid (Below w.heap.size w wr)) (fun j _ => n - (intOf j).toNat)
          case atStart => exact ⟨0, L1, rfl, Nat.zero_le _, hL1, HO1.out, HS1.out, HBel1.out⟩
          case round =>
            obtain ⟨j, L2, rfl, hj', hL2, HO2, HS2, HBel2⟩ := hrel
            by_cases hltj : j < n
            · have hkj := HLt.out k j hltk hltj
              rw [← HRk.out] at hkj
              have hij := HLt.out i j hlt hltj
              rw [← HRi.out] at hij
              obtain ⟨qa, hqa⟩ : ∃ q, L2[ri + k]? = some q := ⟨_, List.getElem?_eq_getElem (by omega)⟩
              obtain ⟨qc, hqc⟩ : ∃ q, L2[rk + j]? = some q := ⟨_, List.getElem?_eq_getElem (by omega)⟩
              obtain ⟨q0, hq0⟩ : ∃ q0, L2[ri + j]? = some q0 := ⟨_, List.getElem?_eq_getElem (by omega)⟩
              obtain ⟨g2, cap2, e2, hBg2, hgl2, hnc2, hcs⟩ := HO2.out.pos (by omega)
              simp only [Value.slice.injEq, Option.some.injEq, Addr.mk.injEq] at e2
              obtain ⟨⟨rfl, -, -⟩, -, rfl⟩ := e2
              obtain ⟨cA, -⟩ := hcs (ri + k) qa hqa
              obtain ⟨cC, -⟩ := hcs (rk + j) qc hqc
              obtain ⟨cT, fT⟩ := hcs (ri + j) q0 hq0
              have HQa := Lib.hid (st_val hqa)
              have HQc := Lib.hid (st_val hqc)
              clear hqa hqc hq0 hcs
              by_cases hb : qa = true ∧ qc = true
              · obtain ⟨rfl, rfl⟩ := hb
                have HSt := Lib.hid (OwnB.set HO2.out hL2 (ri + j) true).1
                have HBs : Hid (Below w.heap.size w (wr.setCell ⟨g, ri + j, none⟩ (.bool true))) := HBel2.out.setCell (p := ⟨g, ri + j, none⟩) hBg _
                have HS3 : Hid (PlusTo n A (L2.set (ri + j) true) k i (j + 1)) := by
                  have := HSet.out L2 i k j hL2 hltk hlt hltj (by rw [← HRi.out, HQa.out]) (by rw [← HRk.out, HQc.out]) HS2.out
                  rwa [← HRi.out] at this
                have hLs : (L2.set (ri + j) true).length = N := by rw [List.length_set]; exact hL2
                go_wp2_with fail
                go_roundw
                case rel => exact ⟨j + 1, _, by go_num, by omega, hLs, HSt.out, HS3.out, HBs.out⟩
                case measure => simp [intOf]; omega
              · have HS3 : Hid (PlusTo n A L2 k i (j + 1)) := plusTo_no hltk (by rw [← HRi.out, ← HRk.out, HQa.out, HQc.out]; exact hb) HS2.out
                cases qa <;> cases qc
                all_goals first
                  | (exact absurd ⟨rfl, rfl⟩ hb)
                  | (clear hb
                     go_wp2_with fail
                     go_roundw
                     case rel => exact ⟨j + 1, L2, by go_num, by omega, hL2, HO2.out, HS3.out, HBel2.out⟩
                     case measure => simp [intOf]; omega)
            · obtain rfl : j = n := by omega
              have HS3 := Lib.hid (plusTo_row HS2.out)
              go_wp2_with fail
              go_roundw
              case rel => exact ⟨i + 1, L2, by go_num, by omega, hL2, HO2.out, HS3.out, HBel2.out⟩
              case measure => simp [intOf]; omega
        · obtain rfl : i = n := by omega
          have HS3 := Lib.hid (plusTo_phase HS1.out)
          go_wp2_with fail
          go_roundw
          case rel => exact ⟨k + 1, L1, by go_num, by omega, hL1, HO1.out, HS3.out, HBel1.out⟩
          case measure => simp [intOf]; omega
    · obtain rfl : k = n := by omega
      have HS2 := Lib.hid (fun p q => plusTo_end HS0.out p q)
      go_wp2_with fail
      go_ret
      exact ⟨_, L0, rfl, HO0.out, hL0, HS2.out, HBel0.out⟩
end Go.Proofs.Ytbpipnjdfmpbdaa
namespace Go.Proofs.Ytbpipnjdfmpbdaa

/-! ### plain: which pieces of a word a tree has -/
def anyR (l : List (Nat → Nat → Prop)) (i j : Nat) : Prop := ∃ r, r ∈ l ∧ r i j
def seqR : List (Nat → Nat → Prop) → Nat → Nat → Prop
  | [], i, j => i = j
  | r :: l, i, j => ∃ q, r i q ∧ seqR l q j
def spN (W : List ByteArray) (x : Nd) (ks : List (Nat → Nat → Prop)) (i j : Nat) : Prop :=
  if x.k = 1 then i = j else if x.k = 2 ∨ x.k = 3 then j = i + 1 ∧ W[i]? = some x.n else if x.k = 4 then seqR ks i j else if x.k = 5 then anyR ks i j
  else if x.k = 6 then i = j ∨ Relation.TransGen (anyR ks) i j else if x.k = 7 then Relation.TransGen (anyR ks) i j else i = j ∨ anyR ks i j
def Fo.sp (W : List ByteArray) : Fo → List (Nat → Nat → Prop)
  | .nil => []
  | .cons x k r => spN W x (k.sp W) :: r.sp W
theorem sp_len (W : List ByteArray) (f : Fo) : (f.sp W).length = f.len := by
  induction f with
  | nil => rfl
  | cons x k r _ ih => simp [Fo.sp, Fo.len, ih]
theorem sp_get (W : List ByteArray) (f : Fo) : ∀ (i : Nat) (y : Nd) (kk : Fo), f.get i = .cons y kk .nil → (f.sp W)[i]? = some (spN W y (kk.sp W)) := by
  induction f with
  | nil => intro i y kk h; cases h
  | cons x k r _ ih =>
    intro i y kk h
    cases i with
    | zero =>
      simp only [Fo.get, Fo.cons.injEq, and_true] at h
      obtain ⟨rfl, rfl⟩ := h
      rfl
    | succ i => simpa [Fo.sp] using ih i y kk h
theorem seqR_snoc (l : List (Nat → Nat → Prop)) (r : Nat → Nat → Prop) : ∀ i j, seqR (l ++ [r]) i j ↔ ∃ q, seqR l i q ∧ r q j := by
  induction l with
  | nil =>
    intro i j
    constructor
    · rintro ⟨q, h, rfl⟩; exact ⟨i, rfl, h⟩
    · rintro ⟨q, rfl, h⟩; exact ⟨j, h, rfl⟩
  | cons a l ih =>
    intro i j
    constructor
    · rintro ⟨q, h1, h2⟩
      obtain ⟨p, h3, h4⟩ := (ih q j).1 h2
      exact ⟨p, ⟨q, h1, h3⟩, h4⟩
    · rintro ⟨p, ⟨q, h1, h3⟩, h4⟩
      exact ⟨q, h1, (ih q j).2 ⟨p, h3, h4⟩⟩
theorem anyR_snoc (l : List (Nat → Nat → Prop)) (r : Nat → Nat → Prop) (i j : Nat) : anyR (l ++ [r]) i j ↔ anyR l i j ∨ r i j := by
  unfold anyR
  constructor
  · rintro ⟨s, h1, h2⟩
    rcases List.mem_append.1 h1 with h | h
    · exact .inl ⟨s, h, h2⟩
    · rw [List.mem_singleton.1 h] at h2; exact .inr h2
  · rintro (⟨s, h1, h2⟩ | h)
    · exact ⟨s, List.mem_append_left _ h1, h2⟩
    · exact ⟨r, by simp, h⟩
theorem anyR_one (r : Nat → Nat → Prop) (i j : Nat) : anyR [r] i j ↔ r i j := by unfold anyR; simp
/-- it leads to no place behind the word -/
def BdR (n : Nat) (R : Nat → Nat → Prop) : Prop := ∀ i j, i < n → R i j → j < n
theorem bd_any {n : Nat} {l : List (Nat → Nat → Prop)} (h : ∀ r, r ∈ l → BdR n r) : BdR n (anyR l) := fun i j hi ⟨r, hr, h2⟩ => h r hr i j hi h2
theorem bd_seq {n : Nat} : ∀ {l : List (Nat → Nat → Prop)}, (∀ r, r ∈ l → BdR n r) → BdR n (seqR l)
  | [], _ => fun i j hi h => by have : i = j := h; omega
  | r :: l, h => fun i j hi ⟨q, h1, h2⟩ => bd_seq (fun s hs => h s (List.mem_cons_of_mem _ hs)) q j (h r (List.mem_cons_self ..) i q hi h1) h2
theorem bd_gen {n : Nat} {R : Nat → Nat → Prop} (h : BdR n R) : BdR n (Relation.TransGen R) := fun i j hi hR => by
  induction hR with
  | single h1 => exact h _ _ hi h1
  | tail _ h1 ih => exact h _ _ ih h1
theorem bd_sp (W : List ByteArray) (f : Fo) : ∀ r, r ∈ f.sp W → BdR (W.length + 1) r := by
  induction f with
  | nil => intro r h; cases h
  | cons x k r ih1 ih2 =>
    intro s hs
    rcases List.mem_cons.1 hs with rfl | hs
    · intro i j hi h
      unfold spN at h
      split at h
      · omega
      · split at h
        · obtain ⟨rfl, h2⟩ := h
          have := (List.getElem?_eq_some_iff.1 h2).1
          omega
        · split at h
          · exact bd_seq ih1 i j hi h
          · split at h
            · exact bd_any ih1 i j hi h
            · split at h
              · rcases h with h | h
                · omega
                · exact bd_gen (bd_any ih1) i j hi h
              · split at h
                · exact bd_gen (bd_any ih1) i j hi h
                · rcases h with h | h
                  · omega
                  · exact bd_any ih1 i j hi h
    · exact ih2 s hs
theorem bd_one (W : List ByteArray) (x : Nd) (k : Fo) : BdR (W.length + 1) (spN W x (k.sp W)) := bd_sp W (.cons x k .nil) _ (List.mem_cons_self ..)
/-- a matrix holds a relation -/
structure MxS (n : Nat) (L : List Bool) (R : Nat → Nat → Prop) : Prop where
  len : L.length = n * n
  at' : ∀ p q, p < n → q < n → (St L (p * n + q) ↔ R p q)
theorem MxS.iff {n : Nat} {L : List Bool} {R S : Nat → Nat → Prop} (h : MxS n L R) (he : ∀ p q, p < n → q < n → (R p q ↔ S p q)) : MxS n L S := ⟨h.len, fun p q hp hq => (h.at' p q hp hq).trans (he p q hp hq)⟩
theorem MxS.or {n : Nat} {L M : List Bool} {R S : Nat → Nat → Prop} (h : MxS n L R) (k : MxS n M S) : MxS n (orL L M) (fun p q => R p q ∨ S p q) :=
  ⟨by rw [orL_len (by rw [h.len, k.len])]; exact h.len, fun p q hp hq => by rw [st_or _ _ _ (by rw [h.len, k.len]), h.at' p q hp hq, k.at' p q hp hq]⟩
theorem MxS.mul {n : Nat} {L A C : List Bool} {R S : Nat → Nat → Prop} (hL : L.length = n * n) (h : ∀ p q, p < n → q < n → (St L (p * n + q) ↔ ∃ r, r < n ∧ St A (p * n + r) ∧ St C (r * n + q))) (hA : MxS n A R) (hC : MxS n C S) (hb : BdR n R) : MxS n L (fun p q => ∃ r, R p r ∧ S r q) := by
  refine ⟨hL, fun p q hp hq => ?_⟩
  rw [h p q hp hq]
  constructor
  · rintro ⟨r, hr, h1, h2⟩
    exact ⟨r, (hA.at' p r hp hr).1 h1, (hC.at' r q hr hq).1 h2⟩
  · rintro ⟨r, h1, h2⟩
    have hr := hb p r hp h1
    exact ⟨r, hr, (hA.at' p r hp hr).2 h1, (hC.at' r q hr hq).2 h2⟩
theorem gen_ar {n : Nat} {A : List Bool} {R : Nat → Nat → Prop} (h : MxS n A R) (hb : BdR n R) (p q : Nat) (hp : p < n) : Relation.TransGen (AR n A) p q ↔ Relation.TransGen R p q := by
  constructor
  · intro ht
    induction ht with
    | single h1 => exact .single ((h.at' _ _ h1.1 h1.2.1).1 h1.2.2)
    | tail _ h1 ih => exact .tail ih ((h.at' _ _ h1.1 h1.2.1).1 h1.2.2)
  · intro ht
    have hbg := bd_gen hb
    induction ht with
    | single h1 => exact .single ⟨hp, hb _ _ hp h1, (h.at' _ _ hp (hb _ _ hp h1)).2 h1⟩
    | @tail b c h0 h1 ih =>
      have hbn := hbg p b hp h0
      have hcn := hb b c hbn h1
      exact .tail ih ⟨hbn, hcn, (h.at' _ _ hbn hcn).2 h1⟩
theorem MxS.plus {n : Nat} {L A : List Bool} {R : Nat → Nat → Prop} (hL : L.length = n * n) (h : ∀ p q, p < n → q < n → (St L (p * n + q) ↔ Relation.TransGen (AR n A) p q)) (hA : MxS n A R) (hb : BdR n R) : MxS n L (Relation.TransGen R) :=
  ⟨hL, fun p q hp hq => by rw [h p q hp hq, gen_ar hA hb p q hp]⟩
theorem MxS.zero (n : Nat) : MxS n (List.replicate (n * n) false) (anyR []) := ⟨by simp, fun p q _ _ => ⟨fun h => absurd h (st_rep _ _), fun ⟨r, hr, _⟩ => by cases hr⟩⟩
end Go.Proofs.Ytbpipnjdfmpbdaa
