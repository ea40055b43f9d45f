import Derived.Test.YtbpipnjdfmpbdaaRows
import Derived.Test.YtbpipnjdfmpbdaaRtM
import Derived.Deep.Strs
import Derived.WideShapes
import Derived.Test.YtbpipnjdfmpbdaaRvD
namespace Go.Proofs.Ytbpipnjdfmpbdaa
open Go.ChangeShapes Go.WideShapes Go.RowKit Go.Deep Go.Deep

theorem spot_noneN {w : World} {b o : Nat} {sp : Option Nat} {v : Value} (h : w.cell? ⟨b, o, sp⟩ = some v) : sp = none := by
  cases sp with
  | none => rfl
  | some s => unfold World.cell? at h; split at h <;> simp at h
theorem bulk_append {H : Type} (l r : List (DataW H)) : Rows.uptoBulkAll (l ++ r) = Rows.uptoBulkAll l + Rows.uptoBulkAll r := by
  induction l with
  | nil => simp [Rows.uptoBulkAll]
  | cons x l ih => simp only [List.cons_append, Rows.uptoBulkAll, ih]; omega
theorem bulk_pos {H : Type} (x : DataW H) : 1 ≤ Rows.uptoBulk x := by
  unfold Rows.uptoBulk
  split <;> omega
theorem bulk_len {H : Type} (l : List (DataW H)) : l.length ≤ Rows.uptoBulkAll l := by
  induction l with
  | nil => simp [Rows.uptoBulkAll]
  | cons x l ih => have := bulk_pos x; simp only [List.length_cons, Rows.uptoBulkAll]; omega
set_option maxRecDepth 100000 in
/-- one node, read -/
theorem open_node {H : Type} {enc : TypeId × Value → H} {w : World} {base : Nat} {spare : Nat → Bool} {held : Bool} {fuel : Nat} {cs : List Value} {x : DataW H × List MemPlace} (h : DataW.trod enc Try.prog w base spare held fuel 39 cs = some x) :
    ∃ m : Nd, cs = m.cells := by
  obtain ⟨y0, y1, y2, n, rfl, hl, h0, h1, h2⟩ := trod_struct3 Try.underlying39 h
  obtain ⟨k, e0, rfl, _⟩ := DataW.trod_int (k := .i64) (by kernel_rfl) h0
  obtain ⟨t, e1, rfl, _⟩ := DataW.trod_string (by kernel_rfl) h1
  obtain ⟨p, e2, rfl, _⟩ := DataW.trod_int (k := .i64) (by kernel_rfl) h2
  have hl3 : cs.length = 3 := by rw [hl]; kernel_rfl
  obtain ⟨c0, c1, c2, rfl⟩ : ∃ c0 c1 c2, cs = [c0, c1, c2] := by
    match cs, hl3 with
    | [c0, c1, c2], _ => exact ⟨c0, c1, c2, rfl⟩
  refine ⟨⟨k, t, p⟩, ?_⟩
  have k0 : Try.prog.cellsOf 37 = 1 := by kernel_rfl
  have k1 : Try.prog.cellsOf 3 = 1 := by kernel_rfl
  have k2 : Try.prog.cellsOf 9 = 1 := by kernel_rfl
  simp [k0] at e0
  simp [k2] at e1
  simp [k1] at e2
  rw [e0, e1, e2]; rfl
set_option maxRecDepth 100000 in
/-- a list of nodes, read -/
theorem open_nodes {H : Type} {enc : TypeId × Value → H} {w : World} {base : Nat} {spare : Nat → Bool} {held : Bool} {r : Reach} {b0 : Nat} {v : Value} {d : DataW H} {ps : List MemPlace}
    (hval : Value.okWide Try.prog w r b0 22 v) (h : DataW.Trod enc Try.prog w base spare held 22 v d ps) :
    ∃ l : List Nd, RdNd w v l ∧ l.length ≤ Rows.uptoBulk d ∧ (l = [] ∨ ∃ el sp, d = .slice el sp ∧ el.length = l.length) := by
  obtain ⟨ao, len, cap, rfl⟩ := okWide_slice Try.underlying22 hval
  obtain ⟨fuel, hf⟩ := h
  have hC : Try.prog.cellsOf 39 = 3 := by kernel_rfl
  rcases open_slice Try.underlying22 hf with ⟨hcs, hx⟩ | ⟨a, len', cap', m, n, D, Pl, hcs, hb, hle, hmax, hm, hx, hi⟩
  · simp [Value.cells] at hcs
    obtain ⟨rfl, rfl, rfl⟩ := hcs
    exact ⟨[], Rd.nil _ _, by simp, .inl rfl⟩
  · simp [Value.cells] at hcs
    obtain ⟨rfl, rfl, rfl⟩ := hcs
    simp only [Prod.mk.injEq] at hx
    obtain ⟨rfl, rfl⟩ := hx
    have hml : len ≤ m := by rw [hm]; split <;> omega
    rw [hC] at hi
    have key : ∀ k, k ≤ len → ∃ l : List Nd, l.length = k ∧ (∀ j u, (flatNd l)[j]? = some u → w.cell? (a.add j) = some u) := by
      intro k
      induction k with
      | zero => exact fun _ => ⟨[], rfl, by simp [flatNd]⟩
      | succ k ih =>
        intro hk
        obtain ⟨l, h1, h2⟩ := ih (by omega)
        obtain ⟨cs', hc, ht⟩ := hi k (by omega)
        obtain ⟨mk, rfl⟩ := open_node ht
        obtain ⟨_, _, hcell⟩ := World.cells?_some hc
        refine ⟨l ++ [mk], by simp [h1], ?_⟩
        intro j u hj
        have e : flatNd (l ++ [mk]) = flatNd l ++ mk.cells := by simp [flatNd]
        rw [e, List.getElem?_append] at hj
        have hfl := flatNd_len l
        split at hj
        · exact h2 j u hj
        · rename_i hge
          have hj3 : j - (flatNd l).length < 3 := by
            have := (List.getElem?_eq_some_iff.1 hj).1
            simpa [Nd.cells] using this
          have := hcell (j - (flatNd l).length) hj3
          rw [hj, Go.Deep.add_add] at this
          rw [← this]
          congr 2
          omega
    obtain ⟨l, h1, h2⟩ := key len (Nat.le_refl _)
    refine ⟨l, ?_, ?_, .inr ⟨_, _, rfl, by simp [h1]⟩⟩
    · refine ⟨by rw [flatNd_len], some a, cap, by rw [h1], by omega, hmax, ?_⟩
      by_cases h0 : l.length = 0
      · exact .inl h0
      · right
        obtain ⟨mk, hmk⟩ : ∃ mk, l[0]? = some mk := ⟨_, List.getElem?_eq_getElem (by omega)⟩
        have hz := h2 0 _ (flatNd_at l 0 mk hmk).1
        obtain ⟨b, o, sp⟩ := a
        have hadd : ((⟨b, o, sp⟩ : Addr).add 0) = ⟨b, o, sp⟩ := rfl
        rw [hadd] at hz
        obtain rfl := spot_noneN hz
        refine ⟨b, o, rfl, ?_, ?_⟩
        · unfold World.cell? at hz
          split at hz
          · rename_i hg
            exact (Array.getElem?_eq_some_iff.1 hg).1
          all_goals simp at hz
        · intro j u hj
          have := h2 j u hj
          rwa [show (⟨b, o, none⟩ : Addr).add j = ⟨b, o + j, none⟩ from by unfold Addr.add; split <;> simp_all] at this
    · simp only [Rows.uptoBulk]
      have := bulk_len ((List.range len).map D)
      simp at this
      omega
end Go.Proofs.Ytbpipnjdfmpbdaa
namespace Go.Proofs.Ytbpipnjdfmpbdaa
open Go.ChangeShapes Go.WideShapes Go.RowKit Go.Deep Go.Deep

theorem strs_len (l : List ByteArray) : (strs l).length = l.length := by unfold strs; simp
set_option maxRecDepth 100000 in
theorem open_word {H : Type} {enc : TypeId × Value → H} {w : World} {base : Nat} {spare : Nat → Bool} {held : Bool} {fuel : Nat} {cs : List Value} {x : DataW H × List MemPlace} (h : DataW.trod enc Try.prog w base spare held fuel 9 cs = some x) :
    ∃ m : ByteArray, cs = [.string m] := by
  obtain ⟨t, e1, _, _⟩ := DataW.trod_string (by kernel_rfl) h
  exact ⟨t, e1⟩
set_option maxRecDepth 100000 in
/-- a list of words, read -/
theorem open_words {H : Type} {enc : TypeId × Value → H} {w : World} {base : Nat} {spare : Nat → Bool} {held : Bool} {r : Reach} {b0 : Nat} {v : Value} {d : DataW H} {ps : List MemPlace}
    (hval : Value.okWide Try.prog w r b0 53 v) (h : DataW.Trod enc Try.prog w base spare held 53 v d ps) :
    ∃ l : List ByteArray, RdW w v l ∧ l.length ≤ Rows.uptoBulk d ∧ (l = [] ∨ ∃ el sp, d = .slice el sp ∧ el.length = l.length) := by
  obtain ⟨ao, len, cap, rfl⟩ := okWide_slice Try.underlying53 hval
  obtain ⟨fuel, hf⟩ := h
  have hC : Try.prog.cellsOf 9 = 1 := by kernel_rfl
  rcases open_slice Try.underlying53 hf with ⟨hcs, hx⟩ | ⟨a, len', cap', m, n, D, Pl, hcs, hb, hle, hmax, hm, hx, hi⟩
  · simp [Value.cells] at hcs
    obtain ⟨rfl, rfl, rfl⟩ := hcs
    exact ⟨[], Rd.nil _ _, by simp, .inl rfl⟩
  · simp [Value.cells] at hcs
    obtain ⟨rfl, rfl, rfl⟩ := hcs
    simp only [Prod.mk.injEq] at hx
    obtain ⟨rfl, rfl⟩ := hx
    have hml : len ≤ m := by rw [hm]; split <;> omega
    rw [hC] at hi
    have key : ∀ k, k ≤ len → ∃ l : List ByteArray, l.length = k ∧ (∀ j u, (strs l)[j]? = some u → w.cell? (a.add j) = some u) := by
      intro k
      induction k with
      | zero => exact fun _ => ⟨[], rfl, by simp [strs]⟩
      | succ k ih =>
        intro hk
        obtain ⟨l, h1, h2⟩ := ih (by omega)
        obtain ⟨cs', hc, ht⟩ := hi k (by omega)
        obtain ⟨mk, rfl⟩ := open_word ht
        obtain ⟨_, _, hcell⟩ := World.cells?_some hc
        refine ⟨l ++ [mk], by simp [h1], ?_⟩
        intro j u hj
        have e : strs (l ++ [mk]) = strs l ++ [.string mk] := by simp [strs]
        rw [e, List.getElem?_append] at hj
        have hfl := strs_len l
        split at hj
        · exact h2 j u hj
        · rename_i hge
          have hj3 : j - (strs l).length < 1 := by
            have := (List.getElem?_eq_some_iff.1 hj).1
            simpa [] using this
          have := hcell (j - (strs l).length) hj3
          rw [hj, Go.Deep.add_add] at this
          rw [← this]
          congr 2
          omega
    obtain ⟨l, h1, h2⟩ := key len (Nat.le_refl _)
    refine ⟨l, ?_, ?_, .inr ⟨_, _, rfl, by simp [h1]⟩⟩
    · refine ⟨by rw [strs_len, Nat.mul_one], some a, cap, by rw [h1], by omega, hmax, ?_⟩
      by_cases h0 : l.length = 0
      · exact .inl h0
      · right
        obtain ⟨mk, hmk⟩ : ∃ mk, l[0]? = some mk := ⟨_, List.getElem?_eq_getElem (by omega)⟩
        have hz := h2 0 (.string mk) (by unfold strs; rw [List.getElem?_map, hmk]; rfl)
        obtain ⟨b, o, sp⟩ := a
        have hadd : ((⟨b, o, sp⟩ : Addr).add 0) = ⟨b, o, sp⟩ := rfl
        rw [hadd] at hz
        obtain rfl := spot_noneN hz
        refine ⟨b, o, rfl, ?_, ?_⟩
        · unfold World.cell? at hz
          split at hz
          · rename_i hg
            exact (Array.getElem?_eq_some_iff.1 hg).1
          all_goals simp at hz
        · intro j u hj
          have := h2 j u hj
          rwa [show (⟨b, o, none⟩ : Addr).add j = ⟨b, o + j, none⟩ from by unfold Addr.add; split <;> simp_all] at this
    · simp only [Rows.uptoBulk]
      have := bulk_len ((List.range len).map D)
      simp at this
      omega
end Go.Proofs.Ytbpipnjdfmpbdaa
