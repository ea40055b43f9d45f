import Derived.Test.YtjnccfgnakggkaaMkBkP
namespace Go.Proofs.Ytjnccfgnakggkaa
open Go.RowKit

theorem cut_good_all (s : ByteArray) : ∀ n k, k ≤ s.size → s.size - k ≤ n →
    (∀ m ∈ (cut s k).1, kindM m.t = (m.k, true) ∧ m.p ≤ s.size) ∧ ((cut s k).1.map (fun m => m.t.size)).sum ≤ s.size - k := by
  intro n
  induction n with
  | zero =>
    intro k h hn
    obtain rfl : k = s.size := by omega
    rw [cut_end]
    simp
  | succ n ih =>
    intro k h hn
    by_cases hz : (nextM s k).k = 0
    · rw [cut_none s k h hz]; simp
    · rw [cut_some s k h hz]
      have M := mfacts s k hz
      have h1 := M.one
      have h2 := M.le
      have h3 := M.ge
      obtain ⟨i1, i2⟩ := ih ((nextM s k).p + (nextM s k).t.size) h2 (by omega)
      refine ⟨?_, ?_⟩
      · intro m hm
        rcases List.mem_cons.1 hm with rfl | hm
        · exact ⟨M.kind, by omega⟩
        · exact i1 m hm
      · simp only [List.map_cons, List.sum_cons]
        omega
def chM (b : List UInt8) (m : Mk) : Ch := ⟨b, m.k, m.t⟩
/-- as Text writes them -/
def chT : List Mk → List Ch
  | [] => []
  | m :: r => chM [] m :: r.map (chM [32])
/-- with blanks ahead of each -/
def chW (ex : List UInt8) (l : List Mk) : List Ch := l.map (chM (32 :: ex))
theorem layL_chT (l : List Mk) : (joinM (l.map (·.t))).data.toList = layL (chT l) := by
  unfold joinM
  cases l with
  | nil => simp [chT, layL, Lib.join_nil]
  | cons m r =>
    simp only [List.map_cons, Lib.join_cons, chT, layL, chM, List.flatMap_cons, List.nil_append, Lib.joinTail]
    congr 1
    induction r with
    | nil => simp
    | cons x r ih => simp at ih ⊢; rw [ih]; simp [chM]
theorem chT_at (l : List Mk) (i : Nat) (m : Mk) (h : l[i]? = some m) : ∃ b, (chT l)[i]? = some (chM b m) := by
  cases l with
  | nil => simp at h
  | cons x r =>
    cases i with
    | zero => simp at h; subst h; exact ⟨[], rfl⟩
    | succ i => exact ⟨[32], by simp at h; simp [chT, h]⟩
theorem chT_len (l : List Mk) : (chT l).length = l.length := by cases l <;> simp [chT]
theorem chT_mem (l : List Mk) (c : Ch) (h : c ∈ chT l) : (∃ m ∈ l, c.k = m.k ∧ c.t = m.t) ∧ (c.b = [] ∨ c.b = [32]) := by
  cases l with
  | nil => simp [chT] at h
  | cons x r =>
    rcases List.mem_cons.1 h with rfl | h
    · exact ⟨⟨x, by simp, rfl, rfl⟩, .inl rfl⟩
    · obtain ⟨m, hm, rfl⟩ := List.mem_map.1 h
      exact ⟨⟨m, by simp [hm], rfl, rfl⟩, .inr rfl⟩
theorem placed_t (l : List Ch) : ∀ q, (placed l q).map (fun m => (m.k, m.t)) = l.map (fun c => (c.k, c.t)) := by
  induction l with
  | nil => intro q; rfl
  | cons c r ih => intro q; simp [placed, ih]
theorem scan_chT (l : List Mk) (hl : ∀ m ∈ l, kindM m.t = (m.k, true)) : scanM (joinM (l.map (·.t))) = (placed (chT l) 0, 0, 0) := by
  have h := cut_lay (joinM (l.map (·.t))) (chT l) [] (by rw [layL_chT]; rfl) ?_ ?_ ?_
  · simp only [List.length_nil] at h
    unfold scanM
    rw [h]
    simp
  · intro c hc
    obtain ⟨⟨m, hm, e1, e2⟩, _⟩ := chT_mem l c hc
    rw [e1, e2]
    exact oneMk _ _ (hl m hm)
  · intro c hc x hx
    obtain ⟨_, e | e⟩ := chT_mem l c hc
    · rw [e] at hx; cases hx
    · rw [e] at hx; simp at hx; subst hx; rfl
  · intro c hc
    cases l with
    | nil => cases hc
    | cons y r =>
      obtain ⟨m, _, rfl⟩ := List.mem_map.1 (show c ∈ r.map (chM [32]) from hc)
      simp [chM]
theorem scan_chW (w : ByteArray) (ex : List UInt8) (l : List Mk) (hw : w.data.toList = layL (chW ex l)) (hl : ∀ m ∈ l, kindM m.t = (m.k, true)) (hex : ∀ x ∈ ex, blankI (x.toNat : Int) = true) : scanM w = (placed (chW ex l) 0, 0, 0) := by
  have h := cut_lay w (chW ex l) [] (by rw [hw]; rfl) ?_ ?_ ?_
  · simp only [List.length_nil] at h
    unfold scanM
    rw [h]
    simp
  · intro c hc
    obtain ⟨m, hm, rfl⟩ := List.mem_map.1 hc
    exact oneMk _ _ (hl m hm)
  · intro c hc x hx
    obtain ⟨m, hm, rfl⟩ := List.mem_map.1 hc
    rcases List.mem_cons.1 hx with rfl | hx
    · rfl
    · exact hex x hx
  · intro c hc
    obtain ⟨m, hm, rfl⟩ := List.mem_map.1 (List.mem_of_mem_tail hc)
    simp [chM]
theorem chT_kt (l : List Mk) : (chT l).map (fun c => (c.k, c.t)) = l.map (fun m => (m.k, m.t)) := by
  cases l with
  | nil => rfl
  | cons m r => simp [chT, chM]
theorem chW_kt (ex : List UInt8) (l : List Mk) : (chW ex l).map (fun c => (c.k, c.t)) = l.map (fun m => (m.k, m.t)) := by simp [chW, chM]
theorem text_kt (K L : List Mk) (h : K.map (fun m => (m.k, m.t)) = L.map (fun m => (m.k, m.t))) : K.map (·.t) = L.map (·.t) := by
  have := congrArg (List.map Prod.snd) h
  simp only [List.map_map] at this; exact this
theorem textM_mk (K L : List Mk) (h : K.map (fun m => (m.k, m.t)) = L.map (fun m => (m.k, m.t))) (hl : ∀ m ∈ L, kindM m.t = (m.k, true)) : textM (K.map Mk.i) = (joinM (L.map (·.t)), 0) := by
  have e : (K.map Mk.i).map (·.t) = L.map (·.t) := by rw [← text_kt K L h]; simp [Mk.i]
  rw [textM_good, e]
  intro i m hm
  rw [List.getElem?_map] at hm
  obtain ⟨x, hx, rfl⟩ := Option.map_eq_some_iff.1 hm
  have h2 := congrArg (fun l => l[i]?) h
  simp only [List.getElem?_map, hx] at h2
  obtain ⟨y, hy, e2⟩ := Option.map_eq_some_iff.1 h2.symm
  simp only [Prod.mk.injEq] at e2
  have := hl y (List.mem_of_getElem? hy)
  unfold okMi Mk.i
  simp only
  rw [← e2.1, ← e2.2, this]
  simp
theorem at_kt (K L : List Mk) (h : K.map (fun m => (m.k, m.t)) = L.map (fun m => (m.k, m.t))) (i : Nat) (m : Mk) (hm : L[i]? = some m) : ∃ p, K[i]? = some ⟨m.k, p, m.t⟩ := by
  have h2 := congrArg (fun l => l[i]?) h
  simp only [List.getElem?_map, hm] at h2
  obtain ⟨y, hy, e2⟩ := Option.map_eq_some_iff.1 h2
  simp only [Prod.mk.injEq] at e2
  exact ⟨y.p, by rw [hy, ← e2.1, ← e2.2]⟩
theorem tot_mk (L : List Mk) : tot (L.map Mk.i) = (L.map (fun m => m.t.size)).sum + L.length := by
  induction L with
  | nil => rfl
  | cons m r ih => rw [List.map_cons, tot_cons, ih]; simp [Mk.i]; omega
theorem tot_kt (K L : List Mk) (h : K.map (fun m => (m.k, m.t)) = L.map (fun m => (m.k, m.t))) : tot (K.map Mk.i) = tot (L.map Mk.i) := by
  have e : ∀ l : List Mk, tot (l.map Mk.i) = ((l.map (·.t)).map (fun t => t.size + 1)).sum := by intro l; simp [tot]; rfl
  rw [e, e, text_kt K L h]
end Go.Proofs.Ytjnccfgnakggkaa
