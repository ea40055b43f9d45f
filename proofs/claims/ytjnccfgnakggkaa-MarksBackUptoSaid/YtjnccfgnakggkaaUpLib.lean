import Derived.Test.YtjnccfgnakggkaaRows
import Derived.Test.YtjnccfgnakggkaaLib
import Derived.Deep.Strs
import Derived.WideShapes
namespace Go.Proofs.Ytjnccfgnakggkaa
open Go.ChangeShapes Go.WideShapes Go.RowKit Go.Deep Go.Deep

theorem spot_none {w : World} {b o : Nat} {sp : Option Nat} {v : Value} (h : w.cell? ⟨b, o, sp⟩ = some v) : sp = none := by
  cases sp with
  | none => rfl
  | some s => unfold World.cell? at h; split at h <;> simp at h
theorem cell_lt {w : World} {b o : Nat} {v : Value} (h : w.cell? ⟨b, o, none⟩ = some v) : b < w.heap.size := by
  unfold World.cell? at h
  split at h
  · rename_i hg
    exact (Array.getElem?_eq_some_iff.1 hg).1
  all_goals simp at h
theorem all_append {H : Type} (l r : List (DataW H)) : Rows.uptoBulkAll (l ++ r) = Rows.uptoBulkAll l + Rows.uptoBulkAll r := by
  induction l with
  | nil => simp [Rows.uptoBulkAll]
  | cons x l ih => simp only [List.cons_append, Rows.uptoBulkAll, ih]; omega
theorem flat_len {α : Type} (f : α → List Value) (size : Nat) (hf : ∀ a, (f a).length = size) (l : List α) : (l.flatMap f).length = l.length * size := by
  induction l with
  | nil => simp
  | cons x r ih => rw [List.flatMap_cons, List.length_append, hf, ih, List.length_cons, Nat.add_mul]; omega
/-- a slice whose elements read, one by one, as f says -/
theorem open_list {α : Type} (f : α → List Value) (R : α → Prop) (bulk : α → Nat) (size : Nat) (hsz : 0 < size) (hf : ∀ a, (f a).length = size) {H : Type} {enc : TypeId × Value → H} {w : World} {base : Nat} {spare : Nat → Bool} {held : Bool} {r : Reach} {b0 : Nat} {t e : TypeId} {v : Value} {d : DataW H} {ps : List MemPlace}
    (ht : Try.prog.underlying t = some (.slice e)) (hC : Try.prog.cellsOf e = size)
    (hel : ∀ {fuel : Nat} {cs : List Value} {x : DataW H × List MemPlace}, DataW.trod enc Try.prog w base spare held fuel e cs = some x → ∃ a, cs = f a ∧ R a ∧ bulk a ≤ Rows.uptoBulk x.1)
    (hval : Value.okWide Try.prog w r b0 t v) (h : DataW.Trod enc Try.prog w base spare held t v d ps) :
    ∃ l : List α, Rd w v l.length size (l.flatMap f) ∧ (∀ a ∈ l, R a) ∧ (l.map bulk).sum ≤ Rows.uptoBulk d := by
  obtain ⟨ao, len, cap, rfl⟩ := okWide_slice ht hval
  obtain ⟨fuel, hf'⟩ := h
  rcases open_slice ht hf' with ⟨hcs, hx⟩ | ⟨a, len', cap', m, n, D, Pl, hcs, hb, hle, hmax, hm, hx, hi⟩
  · simp [Value.cells] at hcs
    obtain ⟨rfl, rfl, rfl⟩ := hcs
    exact ⟨[], Rd.nil _ _, by simp, by simp⟩
  · simp [Value.cells] at hcs
    obtain ⟨rfl, rfl, rfl⟩ := hcs
    simp only [Prod.mk.injEq] at hx
    obtain ⟨rfl, rfl⟩ := hx
    have hml : len ≤ m := by rw [hm]; split <;> omega
    rw [hC] at hi
    have key : ∀ k, k ≤ len → ∃ l : List α, l.length = k ∧ (∀ j u, (l.flatMap f)[j]? = some u → w.cell? (a.add j) = some u) ∧ (∀ a ∈ l, R a) ∧ (l.map bulk).sum ≤ Rows.uptoBulkAll ((List.range k).map D) := by
      intro k
      induction k with
      | zero => exact fun _ => ⟨[], rfl, by simp, by simp, by simp⟩
      | succ k ih =>
        intro hk
        obtain ⟨l, h1, h2, hR, h3⟩ := ih (by omega)
        obtain ⟨cs', hc, ht'⟩ := hi k (by omega)
        obtain ⟨mk, rfl, hRm, hbulk⟩ := hel ht'
        obtain ⟨_, _, hcell⟩ := World.cells?_some hc
        refine ⟨l ++ [mk], by simp [h1], ?_, ?_, ?_⟩
        · intro j u hj
          have e : (l ++ [mk]).flatMap f = l.flatMap f ++ f mk := by simp
          rw [e, List.getElem?_append] at hj
          have hfl := flat_len f size hf l
          split at hj
          · exact h2 j u hj
          · rename_i hge
            have hj3 : j - (l.flatMap f).length < size := by
              have := (List.getElem?_eq_some_iff.1 hj).1
              rwa [hf] at this
            have := hcell (j - (l.flatMap f).length) hj3
            rw [hj, Go.Deep.add_add] at this
            rw [← this]
            congr 2
            rw [hfl, h1] at hge ⊢
            omega
        · intro b hb
          rcases List.mem_append.1 hb with hb | hb
          · exact hR b hb
          · simp at hb; subst hb; exact hRm
        · rw [List.map_append, List.sum_append, List.range_succ, List.map_append, all_append]
          simp only [List.map_cons, List.map_nil, Rows.uptoBulkAll, List.sum_cons, List.sum_nil]
          simp only at hbulk
          omega
    obtain ⟨l, h1, h2, hR, h3⟩ := key len (Nat.le_refl _)
    refine ⟨l, ?_, hR, ?_⟩
    · refine ⟨flat_len f size hf l, some a, cap, by rw [h1], by omega, hmax, ?_⟩
      by_cases h0 : l.length = 0
      · exact .inl h0
      · right
        have hfl := flat_len f size hf l
        have hpos : 0 < (l.flatMap f).length := by rw [hfl]; exact Nat.mul_pos (by omega) hsz
        obtain ⟨u, hu⟩ : ∃ u, (l.flatMap f)[0]? = some u := ⟨_, List.getElem?_eq_getElem hpos⟩
        have hz := h2 0 _ hu
        obtain ⟨b, o, sp⟩ := a
        have hadd : ((⟨b, o, sp⟩ : Addr).add 0) = ⟨b, o, sp⟩ := rfl
        rw [hadd] at hz
        obtain rfl := spot_none hz
        refine ⟨b, o, rfl, cell_lt hz, ?_⟩
        intro j u hj
        have := h2 j u hj
        rwa [show (⟨b, o, none⟩ : Addr).add j = ⟨b, o + j, none⟩ from by unfold Addr.add; split <;> simp_all] at this
    · simp only [Rows.uptoBulk]
      omega
end Go.Proofs.Ytjnccfgnakggkaa
