import Derived.Test.YtbpipnjdfmpbdaaRtI
import Derived.Test.YtbpipnjdfmpbdaaRrH
namespace Go.Proofs.Ytbpipnjdfmpbdaa
open Go.RowKit Go.Shelf

/-! ### plain: which list is one tree -/
def trB (lim : Nat) (l : List Nd) (w : Nat) : Bool := decide (endL lim l w = some l.length)
theorem trB_nil (lim w : Nat) : trB lim [] w = decide (w = 0) := by
  unfold trB endL
  by_cases h : w = 0 <;> simp [h]
theorem trB_cons (lim : Nat) (x : Nd) (l : List Nd) (w : Nat) : trB lim (x :: l) w = if w = 0 then false else if mayB x = true ∧ x.c ≤ lim then trB lim l (w - 1 + x.c.toNat) else false := by
  unfold trB
  conv => lhs; unfold endL
  by_cases h : w = 0
  · simp [h]
  · rw [if_neg h, if_neg h]
    by_cases h2 : mayB x = true ∧ x.c ≤ lim
    · rw [if_pos h2, if_pos h2]
      cases endL lim l (w - 1 + x.c.toNat) with
      | none => simp
      | some k => simp
    · rw [if_neg h2, if_neg h2]; simp
def treeB (N : List Nd) : Bool := decide (0 < N.length) && trB N.length N 1
theorem Fo.split (f : Fo) : ∀ n, n ≤ f.len → ∃ a b : Fo, f = a.app b ∧ a.len = n := by
  induction f with
  | nil => intro n h; simp [Fo.len] at h; exact ⟨.nil, .nil, rfl, by rw [h]; rfl⟩
  | cons x k r _ ih =>
    intro n h
    cases n with
    | zero => exact ⟨.nil, _, rfl, rfl⟩
    | succ n =>
      obtain ⟨a, b, h1, h2⟩ := ih n (by simp only [Fo.len] at h; omega)
      exact ⟨.cons x k a, b, by rw [h1]; rfl, by simp only [Fo.len]; omega⟩
theorem Fo.wf_app_inv (f g : Fo) (h : (f.app g).wf) : f.wf ∧ g.wf := by
  induction f with
  | nil => exact ⟨trivial, h⟩
  | cons x k r _ ih => exact ⟨⟨h.1, h.2.1, (ih h.2.2).1⟩, (ih h.2.2).2⟩
theorem Fo.all_app_inv {P : Nd → Prop} (f g : Fo) (h : (f.app g).all P) : f.all P ∧ g.all P := by
  induction f with
  | nil => exact ⟨trivial, h⟩
  | cons x k r _ ih => exact ⟨⟨h.1, h.2.1, (ih h.2.2).1⟩, (ih h.2.2).2⟩
theorem tr_sound {lim : Nat} : ∀ (l : List Nd) (w : Nat), trB lim l w = true → ∃ f : Fo, f.flat = l ∧ f.len = w ∧ f.wf ∧ f.all mayN := by
  intro l
  induction l with
  | nil => intro w h; rw [trB_nil] at h; exact ⟨.nil, rfl, by have := of_decide_eq_true h; rw [this]; rfl, trivial, trivial⟩
  | cons x l ih =>
    intro w h
    rw [trB_cons] at h
    split at h
    · cases h
    · split at h
      · rename_i hw hx
        obtain ⟨f, h1, h2, h3, h4⟩ := ih _ h
        have hm := (mayB_iff x).1 hx.1
        have hc := hm.c
        obtain ⟨a, b, rfl, hb⟩ := Fo.split f x.c.toNat (by omega)
        have h5 := Fo.wf_app_inv a b h3
        have h6 := Fo.all_app_inv a b h4
        rw [Fo.len_app] at h2
        refine ⟨.cons x a b, ?_, ?_, ⟨by omega, h5.1, h5.2⟩, ⟨hm, h6.1, h6.2⟩⟩
        · rw [← h1, Fo.flat_app]; rfl
        · simp only [Fo.len]; omega
      · cases h
theorem tree_sound {N : List Nd} (h : treeB N = true) : ∃ x k, N = (Fo.cons x k .nil).flat ∧ (Fo.cons x k .nil).wf ∧ (Fo.cons x k .nil).all mayN := by
  unfold treeB at h
  rw [Bool.and_eq_true] at h
  obtain ⟨f, h1, h2, h3, h4⟩ := tr_sound _ _ h.2
  obtain ⟨x, k, rfl⟩ := len_one f h2
  exact ⟨x, k, h1.symm, h3, h4⟩
theorem tree_full (x : Nd) (k : Fo) (hwf : (Fo.cons x k .nil).wf) (hall : (Fo.cons x k .nil).all mayN) : treeB (Fo.cons x k .nil).flat = true := by
  have h := end_forest (lim := (Fo.cons x k .nil).size) (Fo.cons x k .nil) 0 [] hwf hall (Nat.le_refl _)
  rw [List.append_nil] at h
  unfold treeB trB
  rw [Fo.flat_len]
  have e : (Fo.cons x k .nil).len + 0 = 1 := rfl
  rw [e] at h
  rw [h, endL_zero]
  simp [Fo.size]
theorem Fo.flat_inj (f : Fo) : ∀ (g : Fo) (A B : List Nd), f.wf → g.wf → f.len = g.len → f.flat ++ A = g.flat ++ B → f = g ∧ A = B := by
  induction f with
  | nil =>
    intro g A B _ _ hl h
    cases g with
    | nil => exact ⟨rfl, h⟩
    | cons y k r => simp [Fo.len] at hl
  | cons x k r ih1 ih2 =>
    intro g A B hf hg hl h
    cases g with
    | nil => simp [Fo.len] at hl
    | cons y k2 r2 =>
      simp only [Fo.flat, List.cons_append, List.append_assoc, List.cons.injEq] at h
      obtain ⟨rfl, h⟩ := h
      obtain ⟨rfl, h3⟩ := ih1 k2 _ _ hf.2.1 hg.2.1 (by have := hf.1; have := hg.1; omega) h
      obtain ⟨rfl, h4⟩ := ih2 r2 _ _ hf.2.2 hg.2.2 (by simp only [Fo.len] at hl; omega) h3
      exact ⟨rfl, h4⟩
/-- a tree that may be -/
structure GoodT (N : List Nd) (x : Nd) (k : Fo) : Prop where
  flat : N = (Fo.cons x k .nil).flat
  wf : (Fo.cons x k .nil).wf
  all : (Fo.cons x k .nil).all mayN
theorem GoodT.len {N : List Nd} {x : Nd} {k : Fo} (h : GoodT N x k) : N.length = k.size + 1 := by rw [h.flat, Fo.flat_len]; simp [Fo.size]
theorem GoodT.tree {N : List Nd} {x : Nd} {k : Fo} (h : GoodT N x k) : treeB N = true := by rw [h.flat]; exact tree_full x k h.wf h.all
/-- what Check answers -/
def ChkS (N : List Nd) (e : Int) : Prop :=
  (2048 < N.length ∧ e = 3) ∨ (N.length ≤ 2048 ∧ treeB N = false ∧ e = 170) ∨ (N.length ≤ 2048 ∧ ∃ x k, GoodT N x k ∧ e = boundsF x k)
theorem chkS_ex (N : List Nd) : ∃ e, ChkS N e := by
  by_cases h : 2048 < N.length
  · exact ⟨3, .inl ⟨h, rfl⟩⟩
  · cases ht : treeB N with
    | false => exact ⟨170, .inr (.inl ⟨by omega, ht, rfl⟩)⟩
    | true =>
      obtain ⟨x, k, h1, h2, h3⟩ := tree_sound ht
      exact ⟨boundsF x k, .inr (.inr ⟨by omega, x, k, ⟨h1, h2, h3⟩, rfl⟩)⟩
/-- what Print answers -/
def PrS (N : List Nd) (t : ByteArray) (e : Int) : Prop :=
  (e ≠ 0 ∧ ChkS N e ∧ t = ⟨#[]⟩) ∨ (e = 0 ∧ N.length ≤ 2048 ∧ ∃ x k, GoodT N x k ∧ boundsF x k = 0 ∧ t = txN x k.tx)
theorem prS_ex (N : List Nd) : ∃ t e, PrS N t e := by
  obtain ⟨e, h⟩ := chkS_ex N
  by_cases he : e = 0
  · rcases h with ⟨_, h⟩ | ⟨_, _, h⟩ | ⟨h1, x, k, h2, h3⟩
    · omega
    · omega
    · exact ⟨_, 0, .inr ⟨rfl, h1, x, k, h2, by omega, rfl⟩⟩
  · exact ⟨_, e, .inl ⟨he, h, rfl⟩⟩
theorem PrS.chk {N : List Nd} {t : ByteArray} {e : Int} (h : PrS N t e) : ChkS N e := by
  rcases h with ⟨_, h, _⟩ | ⟨rfl, h1, x, k, h2, h3, _⟩
  · exact h
  · exact .inr (.inr ⟨h1, x, k, h2, h3.symm⟩)
end Go.Proofs.Ytbpipnjdfmpbdaa
namespace Go.Proofs.Ytbpipnjdfmpbdaa
open Go.RowKit Go.Shelf

/-! ### named, may, whole -/
set_option maxHeartbeats 400000 in
theorem xUpper_any (c : Int) (w : World) :
    Calls Try.prog 108 #[.int .u8 c] w fun e w' => e = .returned (.bool (upperI c)) ∧ w = w' := by
  go_enter Try.func108, Try.ntmps108
  go_wp2
  all_goals go_ret
  all_goals refine ⟨congrArg (fun b => Ending.returned (.bool b)) ?_, rfl⟩
  all_goals (rw [Bool.eq_iff_iff]; simp [upperI]; omega)
set_option maxHeartbeats 400000 in
theorem xLower_any (c : Int) (w : World) :
    Calls Try.prog 109 #[.int .u8 c] w fun e w' => e = .returned (.bool (lowerI c)) ∧ w = w' := by
  go_enter Try.func109, Try.ntmps109
  go_wp2
  all_goals go_ret
  all_goals refine ⟨congrArg (fun b => Ending.returned (.bool b)) ?_, rfl⟩
  all_goals (rw [Bool.eq_iff_iff]; simp [lowerI]; omega)

set_option maxRecDepth 100000 in
set_option maxHeartbeats 3200000 in
theorem xNamed_any (s : ByteArray) (fv : Value) (k : Int) (w : World) (hc : (fv = .func (.func 108) #[] #[] ∧ k = 1) ∨ (fv = .func (.func 109) #[] #[] ∧ k = 2)) :
    Calls Try.prog 107 #[.string s, fv] w fun e w' => e = .returned (.bool (nameB s k)) ∧ w = w' := by
  by_cases h1 : s.size < 1
  · have HN : Hid (nameB s k = false) := by unfold Hid nameB; rw [decide_eq_false (by omega)]; rfl
    go_enter Try.func107, Try.ntmps107
    go_wp2_with fail
    go_ret
    exact ⟨by rw [HN.out]; rfl, rfl⟩
  · by_cases h2 : 16 < s.size
    · have HN : Hid (nameB s k = false) := by unfold Hid nameB; rw [decide_eq_true (by omega), decide_eq_false (by omega)]; rfl
      go_enter Try.func107, Try.ntmps107
      go_wp2_with fail
      go_ret
      exact ⟨by rw [HN.out]; rfl, rfl⟩
    · have HN : Hid (nameB s k = (s.data.toList.all (fun c => innerI c.toNat) && kindI (bt s 0) == k)) := by
        unfold Hid nameB; rw [decide_eq_true (by omega), decide_eq_true (by omega)]; rfl
      have h0 : 0 < s.size := by omega
      have HU : Hid (∀ (j : Nat) (h : j < s.size) w, Calls Try.prog 108 #[.int .u8 (s[j].toNat : Int)] w fun e w' => e = .returned (.bool (upperI (bt s j))) ∧ w = w') := by
        intro j h w; rw [← bt_get s j h]; exact xUpper_any _ _
      have HL : Hid (∀ (j : Nat) (h : j < s.size) w, Calls Try.prog 109 #[.int .u8 (s[j].toNat : Int)] w fun e w' => e = .returned (.bool (lowerI (bt s j))) ∧ w = w') := by
        intro j h w; rw [← bt_get s j h]; exact xLower_any _ _
      have HU0 : Hid (∀ w, Calls Try.prog 108 #[.int .u8 (s[0].toNat : Int)] w fun e w' => e = .returned (.bool (kindI (bt s 0) == 1)) ∧ w = w') := by
        intro w; rw [← (upper_kind s 0).1]; exact HU.out 0 h0 w
      have HL0 : Hid (∀ w, Calls Try.prog 109 #[.int .u8 (s[0].toNat : Int)] w fun e w' => e = .returned (.bool (kindI (bt s 0) == 2)) ∧ w = w') := by
        intro w; rw [← (upper_kind s 0).2]; exact HL.out 0 h0 w
      have HAll := Lib.hid (all_inner s)
      have HB := Lib.hid (fun j h => bt_get s j h)
      cases hk : (kindI (bt s 0) == k) with
      | false =>
        have HF : Hid (nameB s k = false) := by unfold Hid; rw [HN.out, hk, Bool.and_false]
        rcases hc with ⟨rfl, rfl⟩ | ⟨rfl, rfl⟩
        all_goals
          first | rw [hk] at HU0 | rw [hk] at HL0
          clear hk
          go_enter Try.func107, Try.ntmps107
          go_wp2_with (first | (go_at_call 108; refine (HU0.out _).mono ?_; rintro e w' ⟨rfl, rfl⟩) | (go_at_call 109; refine (HL0.out _).mono ?_; rintro e w' ⟨rfl, rfl⟩))
          go_ret
          exact ⟨by rw [HF.out]; rfl, rfl⟩
      | true =>
        have HN2 : Hid (nameB s k = s.data.toList.all (fun c => innerI c.toNat)) := by unfold Hid; rw [HN.out, hk, Bool.and_true]
        rcases hc with ⟨rfl, rfl⟩ | ⟨rfl, rfl⟩
        all_goals
          first | rw [hk] at HU0 | rw [hk] at HL0
          clear hk
          go_enter Try.func107, Try.ntmps107
          go_wp2_with (first | (go_at_call 108; refine (HU0.out _).mono ?_; rintro e w' ⟨rfl, rfl⟩) | (go_at_call 109; refine (HL0.out _).mono ?_; rintro e w' ⟨rfl, rfl⟩))
          clear HU0 HL0 HN
          go_loop [24] (fun i => ∃ j : Nat, j ≤ s.size ∧ i = .int .i64 j ∧ Hid (∀ q, q < j → innerI (bt s q) = true)) (fun i => s.size - (intOf i).toNat)
          case atStart => exact ⟨0, by omega, rfl, fun q h => by omega⟩
          case round =>
            obtain ⟨j, hj, rfl, HQ⟩ := hrel
            by_cases hlt : j < s.size
            · have HUj := Lib.hid (HU.out j hlt)
              have HLj := Lib.hid (HL.out j hlt)
              have HI : Hid (innerI (bt s j) = (lowerI (bt s j) || upperI (bt s j) || (decide (48 ≤ (s[j].toNat : Int)) && decide ((s[j].toNat : Int) ≤ 57)) || ((s[j].toNat : Int) == 95))) := by
                unfold Hid; rw [← HB.out j hlt]; rfl
              generalize upperI (bt s j) = u at *
              generalize lowerI (bt s j) = l at *
              have HF : Hid (innerI (bt s j) = false → s.data.toList.all (fun c => innerI c.toNat) = false) := by
                intro hi
                rw [Bool.eq_false_iff]
                intro h
                have := HAll.out.1 h j hlt
                rw [hi] at this; cases this
              have HQ2 : Hid (innerI (bt s j) = true → ∀ q, q < j + 1 → innerI (bt s q) = true) := fun hi q hq => by
                by_cases h : q = j
                · subst h; exact hi
                · exact HQ.out q (by omega)
              have hdig : (48 ≤ (s[j].toNat : Int) ∧ (s[j].toNat : Int) ≤ 57 ∧ ((s[j].toNat : Int) == 95) = false) ∨ ((s[j].toNat : Int) < 48 ∧ ((s[j].toNat : Int) == 95) = false) ∨ (48 ≤ (s[j].toNat : Int) ∧ 57 < (s[j].toNat : Int) ∧ ((s[j].toNat : Int) == 95) = true) ∨ (48 ≤ (s[j].toNat : Int) ∧ 57 < (s[j].toNat : Int) ∧ ((s[j].toNat : Int) == 95) = false) := by
                simp only [beq_iff_eq, beq_eq_false_iff_ne]; omega
              cases u <;> cases l <;> rcases hdig with ⟨d1, d2, d3⟩ | ⟨d1, d3⟩ | ⟨d1, d2, d3⟩ | ⟨d1, d2, d3⟩
              all_goals
                go_wp2_with (first | (go_at_call 108; refine (HUj.out _).mono ?_; rintro e w' ⟨rfl, rfl⟩) | (go_at_call 109; refine (HLj.out _).mono ?_; rintro e w' ⟨rfl, rfl⟩))
              all_goals first
                | (have hi : innerI (bt s j) = true := by (rw [HI.out, d3]; simp; try omega)
                   go_round
                   case rel => exact ⟨j + 1, by omega, by go_num, HQ2.out hi⟩
                   case measure => simp [intOf]; omega)
                | (have hi : innerI (bt s j) = false := by (rw [HI.out, d3]; simp; try omega)
                   go_ret
                   exact ⟨by rw [HN2.out, HF.out hi]; rfl, rfl⟩)
                | (exfalso; rename_i hx; simp at hx; omega)
            · have HF : Hid (s.data.toList.all (fun c => innerI c.toNat) = true) := HAll.out.2 (fun q hq => HQ.out q (by omega))
              go_wp2_with fail
              go_ret
              exact ⟨by rw [HN2.out, HF.out]; rfl, rfl⟩
end Go.Proofs.Ytbpipnjdfmpbdaa
namespace Go.Proofs.Ytbpipnjdfmpbdaa
open Go.RowKit Go.Shelf

theorem nd_box (w : World) (a b c : Value) (t : TypeId) : (w.alloc (.cells #[a, b, c] t)).cell? ⟨w.heap.size, 2, none⟩ = some c := by
  rw [World.cell?_alloc_at _ _ _ _ rfl]; rfl

set_option maxRecDepth 100000 in
set_option maxHeartbeats 3200000 in
theorem xMay_any (x : Nd) (w : World) :
    Calls Try.prog 85 #[.agg #[.int .i64 x.k, .string x.n, .int .i64 x.c]] w fun e w' => e = .returned (.bool (mayB x)) ∧ Below w.heap.size w w' := by
  have HU := Lib.hid (fun w => xNamed_any x.n _ 1 w (.inl ⟨rfl, rfl⟩))
  have HL := Lib.hid (fun w => xNamed_any x.n _ 2 w (.inr ⟨rfl, rfl⟩))
  have hcase : x.k = 1 ∨ x.k = 2 ∨ x.k = 3 ∨ x.k = 4 ∨ x.k = 5 ∨ x.k = 6 ∨ x.k = 7 ∨ x.k = 8 ∨ (x.k ≠ 1 ∧ x.k ≠ 2 ∧ x.k ≠ 3 ∧ x.k ≠ 4 ∧ x.k ≠ 5 ∧ x.k ≠ 6 ∧ x.k ≠ 7 ∧ x.k ≠ 8) := by omega
  obtain ⟨k, t, c⟩ := x
  simp only at hcase HU HL ⊢
  rcases hcase with rfl | rfl | rfl | rfl | rfl | rfl | rfl | rfl | h
  · have HM : Hid (mayB ⟨1, t, c⟩ = (t.toList.isEmpty && c == 0)) := rfl
    cases h1 : t.toList.isEmpty <;> cases h2 : (c == 0)
    all_goals
      have h1' := h1
      rw [h1, h2] at HM
      go_enter Try.func85, Try.ntmps85
      go_wp2_with fail
      go_ret
      exact ⟨by rw [HM.out]; rfl, below1 _ _⟩
  · have HM : Hid (mayB ⟨2, t, c⟩ = (nameB t 1 && c == 0)) := rfl
    generalize nameB t 1 = n1 at *
    cases n1 <;> cases h2 : (c == 0)
    all_goals
      rw [h2] at HM
      go_enter Try.func85, Try.ntmps85
      go_wp2_with (go_at_call 107; refine (HU.out _).mono ?_; rintro e w' ⟨rfl, rfl⟩)
      go_ret
      exact ⟨by rw [HM.out]; rfl, below1 _ _⟩
  · have HM : Hid (mayB ⟨3, t, c⟩ = (nameB t 2 && c == 0)) := rfl
    generalize nameB t 2 = n1 at *
    cases n1 <;> cases h2 : (c == 0)
    all_goals
      rw [h2] at HM
      go_enter Try.func85, Try.ntmps85
      go_wp2_with (go_at_call 107; refine (HL.out _).mono ?_; rintro e w' ⟨rfl, rfl⟩)
      go_ret
      exact ⟨by rw [HM.out]; rfl, below1 _ _⟩
  · have HM : Hid (mayB ⟨4, t, c⟩ = (t.toList.isEmpty && decide (2 ≤ c))) := rfl
    cases h1 : t.toList.isEmpty <;> cases h2 : decide (2 ≤ c)
    all_goals
      rw [h1, h2] at HM
      go_enter Try.func85, Try.ntmps85
      go_wp2_with fail
      go_ret
      exact ⟨by rw [HM.out]; rfl, below1 _ _⟩
  · have HM : Hid (mayB ⟨5, t, c⟩ = (t.toList.isEmpty && decide (2 ≤ c))) := rfl
    cases h1 : t.toList.isEmpty <;> cases h2 : decide (2 ≤ c)
    all_goals
      rw [h1, h2] at HM
      go_enter Try.func85, Try.ntmps85
      go_wp2_with fail
      go_ret
      exact ⟨by rw [HM.out]; rfl, below1 _ _⟩
  · have HM : Hid (mayB ⟨6, t, c⟩ = (t.toList.isEmpty && c == 1)) := rfl
    cases h1 : t.toList.isEmpty <;> cases h2 : (c == 1)
    all_goals
      rw [h1, h2] at HM
      go_enter Try.func85, Try.ntmps85
      go_wp2_with fail
      go_ret
      exact ⟨by rw [HM.out]; rfl, below1 _ _⟩
  · have HM : Hid (mayB ⟨7, t, c⟩ = (t.toList.isEmpty && c == 1)) := rfl
    cases h1 : t.toList.isEmpty <;> cases h2 : (c == 1)
    all_goals
      rw [h1, h2] at HM
      go_enter Try.func85, Try.ntmps85
      go_wp2_with fail
      go_ret
      exact ⟨by rw [HM.out]; rfl, below1 _ _⟩
  · have HM : Hid (mayB ⟨8, t, c⟩ = (t.toList.isEmpty && c == 1)) := rfl
    cases h1 : t.toList.isEmpty <;> cases h2 : (c == 1)
    all_goals
      rw [h1, h2] at HM
      go_enter Try.func85, Try.ntmps85
      go_wp2_with fail
      go_ret
      exact ⟨by rw [HM.out]; rfl, below1 _ _⟩
  · obtain ⟨a1, a2, a3, a4, a5, a6, a7, a8⟩ := h
    have HM : Hid (mayB ⟨k, t, c⟩ = false) := by
      unfold Hid mayB
      simp only
      rw [if_neg a1, if_neg a2, if_neg a3, if_neg (by omega), if_neg (by omega)]
    have b1 : (k == 1) = false := by simpa using a1
    have b2 : (k == 2) = false := by simpa using a2
    have b3 : (k == 3) = false := by simpa using a3
    have b4 : (k == 4) = false := by simpa using a4
    have b5 : (k == 5) = false := by simpa using a5
    have b6 : (k == 6) = false := by simpa using a6
    have b7 : (k == 7) = false := by simpa using a7
    have b8 : (k == 8) = false := by simpa using a8
    clear a1 a2 a3 a4 a5 a6 a7 a8
    go_enter Try.func85, Try.ntmps85
    go_wp2_with fail
    go_ret
    exact ⟨by rw [HM.out]; rfl, below1 _ _⟩

set_option maxRecDepth 100000 in
set_option maxHeartbeats 3200000 in
theorem xWhole_any (v : Value) (N : List Nd) (w : World) (h : RdNd w v N) (hl : N.length ≤ 16777216) :
    Calls Try.prog 55 #[v] w fun e w' => e = .returned (.bool (treeB N)) ∧ Below w.heap.size w w' := by
  have HR := Lib.hid h
  obtain ⟨_, ao, cap, rfl, -⟩ := id h
  have htg0 : treeB N = (decide (0 < N.length) && trB N.length (N.drop 0) 1) := rfl
  obtain ⟨n, hn⟩ : ∃ n, n = N.length := ⟨_, rfl⟩
  have HN := Lib.hid hn
  rw [← hn] at hl HR htg0 ⊢
  clear h hn
  generalize treeB N = tg at *
  have HT := Lib.hid htg0
  clear htg0
  go_enter Try.func55, Try.ntmps55
  go_wp2_with fail
  go_loopw [3, 8] (fun o a wr => ∃ (t want : Nat), a = .int .i64 t ∧ o = .int .i64 want ∧ t ≤ n ∧ want ≤ 1 + t * 16777216 ∧ Hid (Below w.heap.size w wr) ∧ Hid (tg = (decide (0 < n) && trB n (N.drop t) want))) (fun _ a _ => n - (intOf a).toNat)
  case atStart => exact ⟨0, 1, rfl, rfl, by omega, by omega, Below.refl _ _, HT.out⟩
  case round =>
    obtain ⟨t, want, rfl, rfl, ht, hw, HBel, HE⟩ := hrel
    have hws := HBel.out.size
    by_cases hlt : t < n
    · obtain ⟨x, hx⟩ : ∃ x, N[t]? = some x := ⟨_, List.getElem?_eq_getElem (by have := HN.out; omega)⟩
      obtain ⟨b, off, cp, e1, hb, hc, x0, x1, x2⟩ := RdNd.at (l := N) (by have := HR.out; rw [HN.out] at this; exact this) hx
      rw [← HN.out] at e1
      simp only [Value.slice.injEq] at e1
      obtain ⟨rfl, -, rfl⟩ := e1
      have X0 := (HBel.out.cell (p := ⟨b, _, none⟩) hb).trans x0
      have X1 := (HBel.out.cell (p := ⟨b, _, none⟩) hb).trans x1
      have X2 := (HBel.out.cell (p := ⟨b, _, none⟩) hb).trans x2
      have hd : N.drop t = x :: N.drop (t + 1) := by
        have hlt2 : t < N.length := by have := HN.out; omega
        rw [List.drop_eq_getElem_cons hlt2]
        have := List.getElem?_eq_getElem hlt2
        rw [hx] at this
        simp only [Option.some.injEq] at this
        rw [← this]
      have hn0 : decide (0 < n) = true := decide_eq_true (by omega)
      have HE2 : Hid (tg = if want = 0 then false else if mayB x = true ∧ x.c ≤ n then trB n (N.drop (t + 1)) (want - 1 + x.c.toNat) else false) := by
        unfold Hid
        rw [HE.out, hd, trB_cons, hn0]; rfl
      have HN0 := Lib.hid hn0
      have HM := Lib.hid (fun w => xMay_any x w)
      have hbw : b < wr.heap.size := by omega
      clear x0 x1 x2 hx hd hn0
      by_cases hw0 : want = 0
      · have HE3 : Hid (tg = false) := by unfold Hid; rw [HE2.out, if_pos hw0]
        subst hw0
        go_wp2_with fail
        go_ret
        exact ⟨congrArg (fun x => Ending.returned (.bool x)) HE3.out.symm, HBel.out.trans ((below1 _ _).mono hws)⟩
      · have hwp : 0 < want := by omega
        have hz0 : ((want : Int) == 0) = false := by simp; omega
        cases hmb : mayB x with
        | false =>
          rw [hmb] at HM
          have HE3 : Hid (tg = false) := by unfold Hid; rw [HE2.out, if_neg hw0, if_neg (by rw [hmb]; simp)]
          clear hmb hw0
          go_wp2_with (go_at_call 85; refine (HM.out _).mono ?_; rintro e w2 ⟨rfl, hb2⟩)
          go_ret
          exact ⟨congrArg (fun x => Ending.returned (.bool x)) HE3.out.symm, (HBel.out.alloc hws _).trans (hb2.mono (by simp; omega))⟩
        | true =>
          rw [hmb] at HM
          have hc0 := ((mayB_iff x).1 hmb).c
          by_cases hcl : x.c ≤ n
          · have HE3 : Hid (tg = (decide (0 < n) && trB n (N.drop (t + 1)) (want - 1 + x.c.toNat))) := by unfold Hid; rw [HE2.out, if_neg hw0, if_pos ⟨hmb, hcl⟩, HN0.out]; rfl
            obtain ⟨c, hc⟩ : ∃ c : Nat, x.c = c := ⟨x.c.toNat, by omega⟩
            rw [hc] at X2 HE3 hcl HM
            have hcn : c ≤ n := by omega
            have hcn2 : decide ((n : Int) < (c : Int)) = false := by simp; omega
            clear hmb HE2 hw0
            go_wp2_with (go_at_call 85; refine (HM.out _).mono ?_; rintro e w2 ⟨rfl, hb2⟩; have HB2 := Lib.hid hb2; have X2' : w2.cell? ⟨wr.heap.size, 2, none⟩ = some (.int .i64 c) := (hb2.cell (p := ⟨wr.heap.size, 2, none⟩) (by simp)).trans (nd_box _ _ _ _ _); clear hb2)
            have HB3 : Hid (Below w.heap.size w w2) := (HBel.out.alloc hws _).trans (HB2.out.mono (by simp; omega))
            clear X2 X2' X0 X1
            go_roundw
            case rel => exact ⟨t + 1, want - 1 + c, by go_num, by go_num, by omega, by omega, HB3.out, by unfold Hid; have := HE3.out; simpa using this⟩
            case measure => simp [intOf]; omega
          · have HE3 : Hid (tg = false) := by unfold Hid; rw [HE2.out, if_neg hw0, if_neg (by rintro ⟨_, h⟩; exact hcl h)]
            have hcl' : (n : Int) < x.c := by omega
            clear hmb HE2 hw0
            go_wp2_with (go_at_call 85; refine (HM.out _).mono ?_; rintro e w2 ⟨rfl, hb2⟩; have HB2 := Lib.hid hb2; have X2' : w2.cell? ⟨wr.heap.size, 2, none⟩ = some (.int .i64 x.c) := (hb2.cell (p := ⟨wr.heap.size, 2, none⟩) (by simp)).trans (nd_box _ _ _ _ _); clear hb2)
            go_ret
            exact ⟨congrArg (fun x => Ending.returned (.bool x)) HE3.out.symm, (HBel.out.alloc hws _).trans (HB2.out.mono (by simp; omega))⟩
    · obtain rfl : t = n := by omega
      have HE3 : Hid (tg = (decide (0 < t) && decide (want = 0))) := by
        unfold Hid
        rw [HE.out, List.drop_eq_nil_of_le (by have := HN.out; omega), trB_nil]
      by_cases hw0 : want = 0
      · subst hw0
        by_cases ht0 : t = 0
        · have HE4 : Hid (tg = false) := by unfold Hid; rw [HE3.out, ht0]; rfl
          subst ht0
          go_wp2_with fail
          go_ret
          exact ⟨congrArg (fun x => Ending.returned (.bool x)) HE4.out.symm, HBel.out⟩
        · have HE4 : Hid (tg = true) := by unfold Hid; rw [HE3.out, decide_eq_true (by omega)]; rfl
          have htp : 0 < t := by omega
          clear ht0
          go_wp2_with fail
          go_ret
          exact ⟨congrArg (fun x => Ending.returned (.bool x)) HE4.out.symm, HBel.out⟩
      · have HE4 : Hid (tg = false) := by unfold Hid; rw [HE3.out, decide_eq_false hw0, Bool.and_false]
        have hwp : 0 < want := by omega
        clear hw0
        go_wp2_with fail
        go_ret
        exact ⟨congrArg (fun x => Ending.returned (.bool x)) HE4.out.symm, HBel.out⟩

set_option maxRecDepth 100000 in
set_option maxHeartbeats 1600000 in
theorem rIsTree_any (v : Value) (N : List Nd) (w : World) (h : RdNd w v N) (hl : N.length ≤ 16777216) :
    Calls Try.prog 60 #[v] w fun e w' => e = .returned (.bool (treeB N)) ∧ Below w.heap.size w w' := by
  by_cases h0 : N.length = 0
  · obtain ⟨_, ao, cap, rfl, -⟩ := h
    have HT : Hid (treeB N = false) := by unfold Hid treeB; rw [h0]; rfl
    rw [h0]
    go_enter Try.func60, Try.ntmps60
    go_wp2_with fail
    go_ret
    exact ⟨congrArg (fun x => Ending.returned (.bool x)) HT.out.symm, Below.refl _ _⟩
  · have HE := Lib.hid (rEnd_any v N 0 w h hl (Nat.zero_le _))
    have hT : treeB N = (endR 0 (endL N.length (N.drop 0) 1) == (N.length : Int)) := by
      unfold treeB trB
      rw [decide_eq_true (by omega : 0 < N.length), List.drop_zero, Bool.true_and]
      cases endL N.length N 1 with
      | none => simp [endR]
      | some k =>
        simp only [endR, Option.some.injEq, Nat.zero_add]
        rw [Bool.eq_iff_iff]; simp; omega
    have HT := Lib.hid hT
    obtain ⟨_, ao, cap, rfl, -⟩ := h
    clear hT
    generalize endR 0 (endL N.length (N.drop 0) 1) = en at *
    generalize treeB N = tg at *
    have hn : 0 < N.length := by omega
    generalize N.length = n at *
    rw [show ((0 : Nat) : Int) = 0 from rfl] at HE
    clear h0
    go_enter Try.func60, Try.ntmps60
    go_wp2_with (go_at_call 89; refine (HE.out).mono ?_; rintro e w2 ⟨rfl, hb2⟩)
    go_ret
    exact ⟨congrArg (fun x => Ending.returned (.bool x)) HT.out.symm, hb2⟩
end Go.Proofs.Ytbpipnjdfmpbdaa
namespace Go.Proofs.Ytbpipnjdfmpbdaa
open Go.RowKit Go.Shelf

set_option maxRecDepth 100000 in
set_option maxHeartbeats 1600000 in
theorem xCheck_any (v : Value) (N : List Nd) (e : Int) (w : World) (h : RdNd w v N) (hS : ChkS N e) (hl : N.length ≤ 4398046511104) :
    Calls Try.prog 25 #[v] w fun en w' => en = .returned (.int .i64 e) ∧ Below w.heap.size w w' := by
  rcases hS with ⟨h1, rfl⟩ | ⟨h1, h2, rfl⟩ | ⟨h1, x, k, hG, rfl⟩
  · obtain ⟨_, ao, cap, rfl, -⟩ := h
    generalize N.length = n at *
    go_enter Try.func25, Try.ntmps25
    go_wp2_with fail
    go_ret
    exact ⟨rfl, Below.refl _ _⟩
  · have HW := Lib.hid (xWhole_any v N w h (by omega))
    rw [h2] at HW
    obtain ⟨_, ao, cap, rfl, -⟩ := h
    generalize N.length = n at *
    clear h2
    go_enter Try.func25, Try.ntmps25
    go_wp2_with (go_at_call 55; refine (HW.out).mono ?_; rintro en w2 ⟨rfl, hb2⟩)
    go_ret
    exact ⟨rfl, hb2⟩
  · have HW := Lib.hid (xWhole_any v N w h (by omega))
    rw [hG.tree] at HW
    have HBd : Hid (∀ wx, Below w.heap.size w wx → Calls Try.prog 41 #[v] wx fun e w' => e = .returned (.int .i64 (boundsF x k)) ∧ Below wx.heap.size wx w') := by
      intro wx hb
      have h2 := h.below hb
      have hln := hG.len
      obtain ⟨b, off, cap, rfl, hc, hat⟩ := NdAt.of_rd h2 (by omega)
      rw [hln] at hc ⊢
      rw [hG.flat] at hat
      exact xBounded_any b off cap x k wx hat hG.wf hG.all hc (by omega)
    clear hG
    obtain ⟨_, ao, cap, rfl, -⟩ := h
    generalize N.length = n at *
    generalize boundsF x k = bd at *
    go_enter Try.func25, Try.ntmps25
    go_wp2_with (first | (go_at_call 55; refine (HW.out).mono ?_; rintro en w2 ⟨rfl, hb2⟩; have HB2 := Lib.hid hb2; clear hb2) | (go_at_call 41; refine (HBd.out _ HB2.out).mono ?_; rintro en w3 ⟨rfl, hb3⟩))
    go_ret
    exact ⟨rfl, HB2.out.trans (hb3.mono HB2.out.size)⟩

set_option maxRecDepth 100000 in
set_option maxHeartbeats 1600000 in
theorem rCheck_any (v : Value) (N : List Nd) (e : Int) (w : World) (h : RdNd w v N) (hS : ChkS N e) (hl : N.length ≤ 4398046511104) :
    Calls Try.prog 31 #[v] w fun en w' => en = .returned (.int .i64 e) ∧ Below w.heap.size w w' := by
  rcases hS with ⟨h1, rfl⟩ | ⟨h1, h2, rfl⟩ | ⟨h1, x, k, hG, rfl⟩
  · obtain ⟨_, ao, cap, rfl, -⟩ := h
    generalize N.length = n at *
    go_enter Try.func31, Try.ntmps31
    go_wp2_with fail
    go_ret
    exact ⟨rfl, Below.refl _ _⟩
  · have HW := Lib.hid (rIsTree_any v N w h (by omega))
    rw [h2] at HW
    obtain ⟨_, ao, cap, rfl, -⟩ := h
    generalize N.length = n at *
    clear h2
    go_enter Try.func31, Try.ntmps31
    go_wp2_with (go_at_call 60; refine (HW.out).mono ?_; rintro en w2 ⟨rfl, hb2⟩)
    go_ret
    exact ⟨rfl, hb2⟩
  · have HW := Lib.hid (rIsTree_any v N w h (by omega))
    rw [hG.tree] at HW
    have HBd : Hid (∀ wx, Below w.heap.size w wx → Calls Try.prog 44 #[v] wx fun e w' => e = .returned (.int .i64 (boundsF x k)) ∧ Below wx.heap.size wx w') := by
      intro wx hb
      have h2 := h.below hb
      have hln := hG.len
      exact rBounds_any v _ x k [] wx h2 (by omega) ⟨by rw [List.drop_zero, List.append_nil]; exact hG.flat, hG.wf, hG.all⟩
    clear hG
    obtain ⟨_, ao, cap, rfl, -⟩ := h
    generalize N.length = n at *
    generalize boundsF x k = bd at *
    go_enter Try.func31, Try.ntmps31
    go_wp2_with (first | (go_at_call 60; refine (HW.out).mono ?_; rintro en w2 ⟨rfl, hb2⟩; have HB2 := Lib.hid hb2; clear hb2) | (go_at_call 44; refine (HBd.out _ HB2.out).mono ?_; rintro en w3 ⟨rfl, hb3⟩))
    go_ret
    exact ⟨rfl, HB2.out.trans (hb3.mono HB2.out.size)⟩

set_option maxRecDepth 100000 in
set_option maxHeartbeats 1600000 in
theorem xPrint_any (v : Value) (N : List Nd) (t : ByteArray) (e : Int) (w : World) (h : RdNd w v N) (hS : PrS N t e) (hl : N.length ≤ 4398046511104) :
    Calls Try.prog 22 #[v] w fun en w' => en = .returned (.tuple #[.string t, .int .i64 e]) ∧ Below w.heap.size w w' := by
  have HC := Lib.hid (xCheck_any v N e w h hS.chk hl)
  rcases hS with ⟨h1, -, rfl⟩ | ⟨rfl, h1, x, k, hG, -, rfl⟩
  · obtain ⟨_, ao, cap, rfl, -⟩ := h
    generalize N.length = n at *
    have he : (e != 0) = true := by simpa using h1
    clear h1
    go_enter Try.func22, Try.ntmps22
    go_wp2_with (go_at_call 25; refine (HC.out).mono ?_; rintro en w2 ⟨rfl, hb2⟩)
    go_ret2
    exact ⟨rfl, hb2⟩
  · have HT : Hid (∀ wx, Below w.heap.size w wx → Calls Try.prog 53 #[v] wx fun en w' => en = .returned (.string (txN x k.tx)) ∧ Below wx.heap.size wx w') := by
      intro wx hb
      have h2 := h.below hb
      have hln := hG.len
      obtain ⟨b, off, cap, rfl, hc, hat⟩ := NdAt.of_rd h2 (by omega)
      rw [hln] at hc ⊢
      rw [hG.flat] at hat
      exact text_all 16777216 (Nat.le_refl _) x k wx b off cap (by omega) hG.all hG.wf hat hc
    clear hG
    obtain ⟨_, ao, cap, rfl, -⟩ := h
    generalize N.length = n at *
    generalize txN x k.tx = t at *
    go_enter Try.func22, Try.ntmps22
    go_wp2_with (first | (go_at_call 25; refine (HC.out).mono ?_; rintro en w2 ⟨rfl, hb2⟩; have HB2 := Lib.hid hb2; clear hb2) | (go_at_call 53; refine (HT.out _ HB2.out).mono ?_; rintro en w3 ⟨rfl, hb3⟩))
    go_ret2
    exact ⟨rfl, HB2.out.trans (hb3.mono HB2.out.size)⟩

set_option maxRecDepth 100000 in
set_option maxHeartbeats 1600000 in
theorem rPrint_any (v : Value) (N : List Nd) (t : ByteArray) (e : Int) (w : World) (h : RdNd w v N) (hS : PrS N t e) (hl : N.length ≤ 4398046511104) :
    Calls Try.prog 24 #[v] w fun en w' => en = .returned (.tuple #[.string t, .int .i64 e]) ∧ Below w.heap.size w w' := by
  have HC := Lib.hid (rCheck_any v N e w h hS.chk hl)
  rcases hS with ⟨h1, -, rfl⟩ | ⟨rfl, h1, x, k, hG, -, rfl⟩
  · obtain ⟨_, ao, cap, rfl, -⟩ := h
    generalize N.length = n at *
    have he : (e != 0) = true := by simpa using h1
    clear h1
    go_enter Try.func24, Try.ntmps24
    go_wp2_with (go_at_call 31; refine (HC.out).mono ?_; rintro en w2 ⟨rfl, hb2⟩)
    go_ret2
    exact ⟨rfl, hb2⟩
  · have HT : Hid (∀ wx, Below w.heap.size w wx → Calls Try.prog 54 #[v, .int .i64 0] wx fun en w' => en = .returned (.string (txN x k.tx)) ∧ Below wx.heap.size wx w') := by
      intro wx hb
      have h2 := h.below hb
      have hln := hG.len
      exact rText_all (k.size + 1) v N 0 x k [] wx (Nat.le_refl _) h2 (by omega) ⟨by rw [List.drop_zero, List.append_nil]; exact hG.flat, hG.wf, hG.all⟩
    clear hG
    obtain ⟨_, ao, cap, rfl, -⟩ := h
    generalize N.length = n at *
    generalize txN x k.tx = t at *
    go_enter Try.func24, Try.ntmps24
    go_wp2_with (first | (go_at_call 31; refine (HC.out).mono ?_; rintro en w2 ⟨rfl, hb2⟩; have HB2 := Lib.hid hb2; clear hb2) | (go_at_call 54; refine (HT.out _ HB2.out).mono ?_; rintro en w3 ⟨rfl, hb3⟩))
    go_ret2
    exact ⟨rfl, HB2.out.trans (hb3.mono HB2.out.size)⟩

set_option maxRecDepth 100000 in
set_option maxHeartbeats 1600000 in
theorem rCopy_any (v : Value) (N : List Nd) (w : World) (h : RdNd w v N) (hl : N.length ≤ 4398046511104) :
    Calls Try.prog 23 #[v] w fun en w' => ∃ v', en = .returned v' ∧ OwnNd w' w.heap.size v' N ∧ Below w.heap.size w w' := by
  by_cases h0 : N.length = 0
  · obtain ⟨_, ao, cap, rfl, -⟩ := h
    obtain rfl : N = [] := List.length_eq_zero_iff.1 h0
    go_enter Try.func23, Try.ntmps23
    go_wp2_with (at_builtin; go_must (refine wpList_app0 elemNd rfl _ _ rfl rfl (Nat.le_refl _) rfl ?_))
    go_ret
    exact ⟨_, rfl, World.ownsRow_nil _ _ _ _, Below.refl _ _⟩
  · obtain ⟨b, off, cap, rfl, hc, hat⟩ := NdAt.of_rd h (by omega)
    have hsrc : Hid (∀ j u, (flatNd N)[j]? = some u → w.cell? ((⟨b, off, none⟩ : Addr).add j) = some u) := by
      obtain ⟨_, ao2, cap2, e2, _, _, h5⟩ := id h
      simp only [Value.slice.injEq] at e2
      obtain ⟨rfl, -, -⟩ := e2
      rcases h5 with h5 | ⟨b2, off2, h6, h7, h8⟩
      · omega
      · simp only [Option.some.injEq, Addr.mk.injEq] at h6
        obtain ⟨rfl, rfl, -⟩ := h6
        intro j u hj
        rw [Addr.add_lit]
        exact h8 j u hj
    clear h hat hc
    have hown0 := World.ownsRow_nil w w.heap.size 39 3
    go_enter Try.func23, Try.ntmps23
    go_wp2_with (at_builtin; go_must (refine wpList_appG elemNd rfl _ _ rfl hown0 rfl (news := flatNd N) rfl (flatNd_len _) hsrc.out (flatNd_one _) (by unfold maxLen; omega) (by omega) (Nat.le_refl _) ?_); intro v' w4 hown4 hg4)
    go_ret
    refine ⟨_, rfl, by have := hown4; simp only [Nat.zero_add, List.nil_append] at this; exact this, ?_⟩
    exact below_grown (by simpa [Value.ownBlock] using hg4)
end Go.Proofs.Ytbpipnjdfmpbdaa
