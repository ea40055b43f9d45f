import Derived.Test.YtbpipnjdfmpbdaaRtT
namespace Go.Proofs.Ytbpipnjdfmpbdaa
open Go.RowKit Go.Shelf

/-! ### plain: has a tree the empty word -/
def empN (x : Nd) (es : List Bool) : Bool := if x.k = 1 ∨ x.k = 6 ∨ x.k = 8 then true else if x.k = 4 ∨ x.k = 7 then es.all id else if x.k = 5 then es.any id else false
def Fo.emp : Fo → List Bool
  | .nil => []
  | .cons x k r => empN x k.emp :: r.emp
theorem Fo.emp_len (f : Fo) : f.emp.length = f.len := by
  induction f with
  | nil => rfl
  | cons x k r _ ih => simp [Fo.emp, Fo.len, ih]
theorem emp_get (f : Fo) : ∀ (i : Nat) (y : Nd) (kk : Fo), f.get i = .cons y kk .nil → f.emp[i]? = some (empN y kk.emp) := by
  induction f with
  | nil => intro i y kk h; cases h
  | cons x k r _ ih =>
    intro i y kk h
    cases i with
    | zero =>
      simp only [Fo.get, Fo.cons.injEq, and_true] at h
      obtain ⟨rfl, rfl⟩ := h
      rfl
    | succ i => simpa [Fo.emp] using ih i y kk h
theorem any_not (l : List Bool) : (l.map not).any id = !l.all id := by
  induction l with
  | nil => rfl
  | cons b l ih => cases b <;> simp_all
def AnyIx (bs : List Bool) (r : Int) : Prop := (r = -1 ∧ bs.any id = false) ∨ (0 ≤ r ∧ bs.any id = true)

set_option maxRecDepth 100000 in
set_option maxHeartbeats 1600000 in
theorem xIdxE_any (b off B : Nat) (v : Value) (l : List (Nat × Nat)) (bs : List Bool) (w : World) (h : w.ownsRow B 22 1 v l.length (l.map (pieceV b off))) (hl : l.length ≤ 140737488355328) (hbs : bs.length = l.length)
    (HF : ∀ (j : Nat) (p : Nat × Nat) (q : Bool), l[j]? = some p → bs[j]? = some q → ∀ wx, Below w.heap.size w wx → Calls Try.prog 59 #[.slice (some ⟨b, off + p.1 * 3, none⟩) p.2 p.2] wx fun e w' => e = .returned (.bool q) ∧ Below wx.heap.size wx w') :
    Calls Try.prog 110 #[v, .func (.func 59) #[] #[]] w fun e w' => ∃ r, e = .returned (.int .i64 r) ∧ Hid (AnyIx bs r) ∧ Below w.heap.size w w' := by
  have HO := Lib.hid h
  have HFn := Lib.hid HF
  have HBs := Lib.hid hbs
  obtain ⟨_, ao, cap, rfl, hlc, -⟩ := Rd.of_owns h
  clear h HF hbs
  go_enter Try.func110, Try.ntmps110
  go_wp2_with fail
  go_loopw [8] (fun i wr => ∃ j : Nat, j ≤ l.length ∧ i = .int .i64 j ∧ Hid (∀ (q : Nat) (x : Bool), q < j → bs[q]? = some x → x = false) ∧ Hid (Below w.heap.size w wr)) (fun i _ => l.length - (intOf i).toNat)
  case atStart => exact ⟨0, by omega, rfl, fun q x h => by omega, Below.refl _ _⟩
  case round =>
    obtain ⟨j, hj, rfl, HQ, HBel⟩ := hrel
    by_cases hlt : j < l.length
    · obtain ⟨p, hp⟩ : ∃ p, l[j]? = some p := ⟨_, List.getElem?_eq_getElem hlt⟩
      obtain ⟨q, hq⟩ : ∃ q, bs[j]? = some q := ⟨_, List.getElem?_eq_getElem (by have := HBs.out; omega)⟩
      obtain ⟨g, gc, e0, hg1, hg2, hg3, hcs⟩ := own_src HO.out (by omega)
      simp only [Value.slice.injEq] at e0
      obtain ⟨rfl, -, rfl⟩ := e0
      have hcell := hcs j (pieceV b off p) (by rw [List.getElem?_map, hp]; rfl)
      rw [Addr.add_lit, Nat.zero_add] at hcell
      have X0 : wr.cell? ⟨g, j, none⟩ = some (.slice (some ⟨b, off + p.1 * 3, none⟩) p.2 p.2) := by
        rw [HBel.out.cell (p := ⟨g, j, none⟩) hg2, hcell]; rfl
      have HC := Lib.hid (HFn.out j p q hp hq)
      have HQv := Lib.hid hq
      have hws := HBel.out.size
      clear hcs hcell hp hq
      cases q with
      | true =>
        have HA : Hid (AnyIx bs j) := .inr ⟨by omega, by rw [List.any_eq_true]; exact ⟨true, List.mem_of_getElem? HQv.out, rfl⟩⟩
        go_wp2_with (go_at_call 59; refine (HC.out _ HBel.out).mono ?_; rintro e w2 ⟨rfl, hb2⟩)
        go_ret
        exact ⟨_, rfl, HA.out, HBel.out.trans (hb2.mono hws)⟩
      | false =>
        have HQ2 : Hid (∀ (q : Nat) (y : Bool), q < j + 1 → bs[q]? = some y → y = false) := fun q y hq hy => by
          by_cases h : q = j
          · subst h; rw [HQv.out] at hy; injection hy with hy; exact hy.symm
          · exact HQ.out q y (by omega) hy
        go_wp2_with (go_at_call 59; refine (HC.out _ HBel.out).mono ?_; rintro e w2 ⟨rfl, hb2⟩; have HB2 := Lib.hid hb2; clear hb2)
        go_roundw
        case rel => exact ⟨j + 1, by omega, by go_num, HQ2.out, HBel.out.trans (HB2.out.mono hws)⟩
        case measure => simp [intOf]; omega
    · have HA : Hid (AnyIx bs (-1)) := by
        refine .inl ⟨rfl, ?_⟩
        rw [List.any_eq_false]
        intro x hx
        obtain ⟨q, hq⟩ := List.getElem?_of_mem hx
        have := HQ.out q x (by have := (List.getElem?_eq_some_iff.1 hq).1; have := HBs.out; omega) hq
        rw [this]; simp
      go_wp2_with fail
      go_ret
      exact ⟨_, rfl, HA.out, HBel.out⟩
set_option maxHeartbeats 1600000 in
theorem xConE_any (b off B : Nat) (v : Value) (l : List (Nat × Nat)) (bs : List Bool) (w : World) (h : w.ownsRow B 22 1 v l.length (l.map (pieceV b off))) (hl : l.length ≤ 140737488355328) (hbs : bs.length = l.length)
    (HF : ∀ (j : Nat) (p : Nat × Nat) (q : Bool), l[j]? = some p → bs[j]? = some q → ∀ wx, Below w.heap.size w wx → Calls Try.prog 59 #[.slice (some ⟨b, off + p.1 * 3, none⟩) p.2 p.2] wx fun e w' => e = .returned (.bool q) ∧ Below wx.heap.size wx w') :
    Calls Try.prog 87 #[v, .func (.func 59) #[] #[]] w fun e w' => e = .returned (.bool (bs.any id)) ∧ Below w.heap.size w w' := by
  have HI := Lib.hid (xIdxE_any b off B v l bs w h hl hbs HF)
  obtain ⟨_, ao, cap, rfl, hlc, -⟩ := Rd.of_owns h
  clear HF h hbs
  go_enter Try.func87, Try.ntmps87
  go_wp2_with fail
  refine (HI.out).mono ?_
  rintro e w1 ⟨r, rfl, HL, hb1⟩
  rcases HL.out with ⟨rfl, h2⟩ | ⟨h1, h2⟩
  · have H2 := Lib.hid h2
    clear h2 HL HI
    go_wp2_with fail
    go_ret
    exact ⟨by rw [H2.out]; rfl, hb1⟩
  · have H2 := Lib.hid h2
    clear h2 HL HI
    go_wp2_with fail
    go_ret
    exact ⟨by rw [H2.out]; rfl, hb1⟩

set_option maxRecDepth 100000 in
set_option maxHeartbeats 1600000 in
theorem xIdxN_any (b off B : Nat) (v : Value) (l : List (Nat × Nat)) (bs : List Bool) (w : World) (h : w.ownsRow B 22 1 v l.length (l.map (pieceV b off))) (hl : l.length ≤ 140737488355328) (hbs : bs.length = l.length)
    (HF : ∀ (j : Nat) (p : Nat × Nat) (q : Bool), l[j]? = some p → bs[j]? = some q → ∀ wx, Below w.heap.size w wx → Calls Try.prog 88 #[.slice (some ⟨b, off + p.1 * 3, none⟩) p.2 p.2] wx fun e w' => e = .returned (.bool q) ∧ Below wx.heap.size wx w') :
    Calls Try.prog 110 #[v, .func (.func 88) #[] #[]] w fun e w' => ∃ r, e = .returned (.int .i64 r) ∧ Hid (AnyIx bs r) ∧ Below w.heap.size w w' := by
  have HO := Lib.hid h
  have HFn := Lib.hid HF
  have HBs := Lib.hid hbs
  obtain ⟨_, ao, cap, rfl, hlc, -⟩ := Rd.of_owns h
  clear h HF hbs
  go_enter Try.func110, Try.ntmps110
  go_wp2_with fail
  go_loopw [8] (fun i wr => ∃ j : Nat, j ≤ l.length ∧ i = .int .i64 j ∧ Hid (∀ (q : Nat) (x : Bool), q < j → bs[q]? = some x → x = false) ∧ Hid (Below w.heap.size w wr)) (fun i _ => l.length - (intOf i).toNat)
  case atStart => exact ⟨0, by omega, rfl, fun q x h => by omega, Below.refl _ _⟩
  case round =>
    obtain ⟨j, hj, rfl, HQ, HBel⟩ := hrel
    by_cases hlt : j < l.length
    · obtain ⟨p, hp⟩ : ∃ p, l[j]? = some p := ⟨_, List.getElem?_eq_getElem hlt⟩
      obtain ⟨q, hq⟩ : ∃ q, bs[j]? = some q := ⟨_, List.getElem?_eq_getElem (by have := HBs.out; omega)⟩
      obtain ⟨g, gc, e0, hg1, hg2, hg3, hcs⟩ := own_src HO.out (by omega)
      simp only [Value.slice.injEq] at e0
      obtain ⟨rfl, -, rfl⟩ := e0
      have hcell := hcs j (pieceV b off p) (by rw [List.getElem?_map, hp]; rfl)
      rw [Addr.add_lit, Nat.zero_add] at hcell
      have X0 : wr.cell? ⟨g, j, none⟩ = some (.slice (some ⟨b, off + p.1 * 3, none⟩) p.2 p.2) := by
        rw [HBel.out.cell (p := ⟨g, j, none⟩) hg2, hcell]; rfl
      have HC := Lib.hid (HFn.out j p q hp hq)
      have HQv := Lib.hid hq
      have hws := HBel.out.size
      clear hcs hcell hp hq
      cases q with
      | true =>
        have HA : Hid (AnyIx bs j) := .inr ⟨by omega, by rw [List.any_eq_true]; exact ⟨true, List.mem_of_getElem? HQv.out, rfl⟩⟩
        go_wp2_with (go_at_call 88; refine (HC.out _ HBel.out).mono ?_; rintro e w2 ⟨rfl, hb2⟩)
        go_ret
        exact ⟨_, rfl, HA.out, HBel.out.trans (hb2.mono hws)⟩
      | false =>
        have HQ2 : Hid (∀ (q : Nat) (y : Bool), q < j + 1 → bs[q]? = some y → y = false) := fun q y hq hy => by
          by_cases h : q = j
          · subst h; rw [HQv.out] at hy; injection hy with hy; exact hy.symm
          · exact HQ.out q y (by omega) hy
        go_wp2_with (go_at_call 88; refine (HC.out _ HBel.out).mono ?_; rintro e w2 ⟨rfl, hb2⟩; have HB2 := Lib.hid hb2; clear hb2)
        go_roundw
        case rel => exact ⟨j + 1, by omega, by go_num, HQ2.out, HBel.out.trans (HB2.out.mono hws)⟩
        case measure => simp [intOf]; omega
    · have HA : Hid (AnyIx bs (-1)) := by
        refine .inl ⟨rfl, ?_⟩
        rw [List.any_eq_false]
        intro x hx
        obtain ⟨q, hq⟩ := List.getElem?_of_mem hx
        have := HQ.out q x (by have := (List.getElem?_eq_some_iff.1 hq).1; have := HBs.out; omega) hq
        rw [this]; simp
      go_wp2_with fail
      go_ret
      exact ⟨_, rfl, HA.out, HBel.out⟩
set_option maxHeartbeats 1600000 in
theorem xConN_any (b off B : Nat) (v : Value) (l : List (Nat × Nat)) (bs : List Bool) (w : World) (h : w.ownsRow B 22 1 v l.length (l.map (pieceV b off))) (hl : l.length ≤ 140737488355328) (hbs : bs.length = l.length)
    (HF : ∀ (j : Nat) (p : Nat × Nat) (q : Bool), l[j]? = some p → bs[j]? = some q → ∀ wx, Below w.heap.size w wx → Calls Try.prog 88 #[.slice (some ⟨b, off + p.1 * 3, none⟩) p.2 p.2] wx fun e w' => e = .returned (.bool q) ∧ Below wx.heap.size wx w') :
    Calls Try.prog 87 #[v, .func (.func 88) #[] #[]] w fun e w' => e = .returned (.bool (bs.any id)) ∧ Below w.heap.size w w' := by
  have HI := Lib.hid (xIdxN_any b off B v l bs w h hl hbs HF)
  obtain ⟨_, ao, cap, rfl, hlc, -⟩ := Rd.of_owns h
  clear HF h hbs
  go_enter Try.func87, Try.ntmps87
  go_wp2_with fail
  refine (HI.out).mono ?_
  rintro e w1 ⟨r, rfl, HL, hb1⟩
  rcases HL.out with ⟨rfl, h2⟩ | ⟨h1, h2⟩
  · have H2 := Lib.hid h2
    clear h2 HL HI
    go_wp2_with fail
    go_ret
    exact ⟨by rw [H2.out]; rfl, hb1⟩
  · have H2 := Lib.hid h2
    clear h2 HL HI
    go_wp2_with fail
    go_ret
    exact ⟨by rw [H2.out]; rfl, hb1⟩

/-! ### empty -/
def EmOk (n : Nat) : Prop := ∀ (x : Nd) (k : Fo) (w : World) (b off cap : Nat), k.size + 1 ≤ n → (Fo.cons x k .nil).wf → (Fo.cons x k .nil).all mayN → NdAt w b off (Fo.cons x k .nil).flat → k.size + 1 ≤ cap →
  Calls Try.prog 59 #[.slice (some ⟨b, off, none⟩) (k.size + 1) cap] w fun e w' => e = .returned (.bool (empN x k.emp)) ∧ Below w.heap.size w w'
theorem xEmpty1_any (v : Value) (q : Bool) (w : World) (H : Calls Try.prog 59 #[v] w fun e w' => e = .returned (.bool q) ∧ Below w.heap.size w w') :
    Calls Try.prog 88 #[v] w fun e w' => e = .returned (.bool (!q)) ∧ Below w.heap.size w w' := by
  have HC := Lib.hid H
  clear H
  go_enter Try.func88, Try.ntmps88
  go_wp2_with (go_at_call 59; refine (HC.out).mono ?_; rintro e w2 ⟨rfl, hb2⟩)
  go_ret
  exact ⟨rfl, hb2⟩

set_option maxRecDepth 100000 in
set_option maxHeartbeats 3200000 in
theorem xEmpty_step (n : Nat) (hn : n ≤ 16777216) (ih : EmOk n) : EmOk (n + 1) := by
  intro x k w b off cap hkn hwf hall h hcap
  have hb := h.lt
  obtain ⟨c0, c1, c2⟩ := h.cell 0 x rfl
  rw [Nat.zero_mul, Nat.add_zero] at c0 c1 c2
  have hfl : (Fo.cons x k .nil).flat.length = k.size + 1 := by rw [Fo.flat_len]; simp [Fo.size]
  have HKd : Hid (∀ wx, Below w.heap.size w wx → Calls Try.prog 81 #[.slice (some ⟨b, off, none⟩) (k.size + 1) cap] wx (KRet b off k wx)) := by
    intro wx hbx
    have := xKids_any b off cap x k _ wx (h.below hbx) rfl hwf.1 hwf.2.1 (by rw [hfl]; exact hcap) (by rw [hfl]; omega)
    rw [hfl] at this
    exact this
  have hkl := Fo.len_le k
  have HF : Hid (∀ (j : Nat) (p : Nat × Nat) (q : Bool), (k.pieces 1)[j]? = some p → k.emp[j]? = some q → ∀ wx, Below w.heap.size w wx → Calls Try.prog 59 #[.slice (some ⟨b, off + p.1 * 3, none⟩) p.2 p.2] wx fun e w' => e = .returned (.bool q) ∧ Below wx.heap.size wx w') := by
    intro j pc q hpc hq wx hbx
    have hj : j < k.len := by have := (List.getElem?_eq_some_iff.1 hpc).1; rwa [Fo.pieces_len] at this
    obtain ⟨y, kk, hy1, hy2, hy3, hy4, -⟩ := Fo.get_cons k j hj
    obtain ⟨q1, qa, qb, q2, q3, q4, q5, q6⟩ := Fo.flat_get k j 1 pc hpc
    rw [hy1] at q2 q4
    have hps : pc.2 = kk.size + 1 := by rw [← q4, Fo.flat_len]; simp [Fo.size]
    have hNP : NdAt wx b (off + pc.1 * 3) (Fo.cons y kk .nil).flat := by
      have := (h.below hbx).piece (x :: qa) (Fo.cons y kk .nil).flat qb (by simp only [Fo.flat, List.append_nil] at q2 ⊢; rw [q2]; simp)
      rw [List.length_cons, q3, show pc.1 - 1 + 1 = pc.1 from by omega] at this
      exact this
    rw [emp_get k j y kk hy1] at hq
    injection hq with hq
    rw [hps, ← hq]
    exact ih y kk wx b _ _ (by omega) ⟨(hy4 hwf.2.1).1, (hy4 hwf.2.1).2, trivial⟩ (by have := Fo.all_get k hall.2.1 j; rw [hy1] at this; exact this) hNP (Nat.le_refl _)
  have hmk := hall.1.k
  have hpos : 0 < k.size + 1 := by omega
  have h32 : k.size ≤ 16777216 := by omega
  clear h ih hfl
  have hcase : (x.k = 1 ∨ x.k = 6 ∨ x.k = 8) ∨ (x.k = 2 ∨ x.k = 3) ∨ (x.k = 4 ∨ x.k = 7) ∨ x.k = 5 := by omega
  rcases hcase with hk | hk | hk | hk
  · have HE : Hid (empN x k.emp = true) := by unfold Hid empN; rw [if_pos hk]
    generalize k.size + 1 = n at *
    rcases hk with hk | hk | hk
    all_goals
      rw [hk] at c0
      clear hk hmk
      go_enter Try.func59, Try.ntmps59
      go_wp2_with fail
      go_ret
      exact ⟨congrArg (fun b => Ending.returned (.bool b)) HE.out.symm, Below.refl _ _⟩
  · have HE : Hid (empN x k.emp = false) := by unfold Hid empN; rw [if_neg (by omega), if_neg (by omega), if_neg (by omega)]
    generalize k.size + 1 = n at *
    rcases hk with hk | hk
    all_goals
      rw [hk] at c0
      clear hk hmk
      go_enter Try.func59, Try.ntmps59
      go_wp2_with fail
      go_ret
      exact ⟨congrArg (fun b => Ending.returned (.bool b)) HE.out.symm, Below.refl _ _⟩
  · have HE : Hid (empN x k.emp = k.emp.all id) := by unfold Hid empN; rw [if_neg (by omega), if_pos hk]
    have HAn := Lib.hid (any_not k.emp)
    have HCn : Hid (∀ (v : Value) (wx : World), Below w.heap.size w wx → wx.ownsRow w.heap.size 22 1 v k.len ((k.pieces 1).map (pieceV b off)) → Calls Try.prog 87 #[v, .func (.func 88) #[] #[]] wx fun e w' => e = .returned (.bool (!k.emp.all id)) ∧ Below wx.heap.size wx w') := by
      intro v wx hbx ho
      rw [← HAn.out]
      refine xConN_any b off w.heap.size v (k.pieces 1) (k.emp.map not) wx (by rw [Fo.pieces_len]; exact ho) (by rw [Fo.pieces_len]; omega) (by rw [List.length_map, Fo.emp_len, Fo.pieces_len]) ?_
      intro j p q hp hq wy hby
      rw [List.getElem?_map] at hq
      cases he : k.emp[j]? with
      | none => rw [he] at hq; cases hq
      | some q0 =>
        rw [he] at hq
        simp only [Option.map, Option.some.injEq] at hq
        rw [← hq]
        exact xEmpty1_any _ _ _ (HF.out j p q0 hp he wy (hbx.trans (hby.mono hbx.size)))
    generalize k.emp.all id = r at *
    generalize k.size + 1 = n at *
    rcases hk with hk | hk
    all_goals
      rw [hk] at c0
      clear hk hmk
      go_enter Try.func59, Try.ntmps59
      go_wp2_with fail
      refine (HKd.out _ (Below.refl _ _)).mono ?_
      rintro e w1 ⟨v1, rfl, ho1, hb1⟩
      have HO1 := Lib.hid ho1
      have HB1 := Lib.hid hb1
      obtain ⟨_, ao, cp, rfl, -⟩ := Rd.of_owns ho1
      clear ho1 hb1
      go_wp2_with fail
      refine (HCn.out _ _ HB1.out HO1.out).mono ?_
      rintro e w2 ⟨rfl, hb2⟩
      have HB2 := Lib.hid (HB1.out.trans (hb2.mono HB1.out.size))
      clear hb2
      go_wp2_with fail
      go_ret
      refine ⟨congrArg (fun b => Ending.returned (.bool b)) ?_, HB2.out⟩
      rw [HE.out]
  · have HE : Hid (empN x k.emp = k.emp.any id) := by unfold Hid empN; rw [if_neg (by omega), if_neg (by omega), if_pos hk]
    have HCn : Hid (∀ (v : Value) (wx : World), Below w.heap.size w wx → wx.ownsRow w.heap.size 22 1 v k.len ((k.pieces 1).map (pieceV b off)) → Calls Try.prog 87 #[v, .func (.func 59) #[] #[]] wx fun e w' => e = .returned (.bool (k.emp.any id)) ∧ Below wx.heap.size wx w') := by
      intro v wx hbx ho
      refine xConE_any b off w.heap.size v (k.pieces 1) k.emp wx (by rw [Fo.pieces_len]; exact ho) (by rw [Fo.pieces_len]; omega) (by rw [Fo.emp_len, Fo.pieces_len]) ?_
      intro j p q hp hq wy hby
      exact HF.out j p q hp hq wy (hbx.trans (hby.mono hbx.size))
    generalize k.emp.any id = r at *
    generalize k.size + 1 = n at *
    rw [hk] at c0
    clear hk hmk
    go_enter Try.func59, Try.ntmps59
    go_wp2_with fail
    refine (HKd.out _ (Below.refl _ _)).mono ?_
    rintro e w1 ⟨v1, rfl, ho1, hb1⟩
    have HO1 := Lib.hid ho1
    have HB1 := Lib.hid hb1
    obtain ⟨_, ao, cp, rfl, -⟩ := Rd.of_owns ho1
    clear ho1 hb1
    go_wp2_with fail
    refine (HCn.out _ _ HB1.out HO1.out).mono ?_
    rintro e w2 ⟨rfl, hb2⟩
    have HB2 := Lib.hid (HB1.out.trans (hb2.mono HB1.out.size))
    clear hb2
    go_wp2_with fail
    go_ret
    exact ⟨congrArg (fun b => Ending.returned (.bool b)) HE.out.symm, HB2.out⟩
theorem xEmpty_all : ∀ n, n ≤ 16777217 → EmOk n
  | 0, _ => fun x k w b off cap hk => by omega
  | n + 1, hn => xEmpty_step n (by omega) (xEmpty_all n (by omega))

/-! ### EmptyAt -/
def RemOk (n : Nat) : Prop := ∀ (v : Value) (N : List Nd) (p : Nat) (x : Nd) (k : Fo) (R : List Nd) (w : World), k.size + 1 ≤ n → RdNd w v N → N.length ≤ 16777216 → TreeAt N p x k R →
  Calls Try.prog 62 #[v, .int .i64 p] w fun e w' => e = .returned (.bool (empN x k.emp)) ∧ Below w.heap.size w w'
theorem any_snoc (l : List Bool) (j : Nat) (q : Bool) (h : l[j]? = some q) : (l.take (j + 1)).any id = ((l.take j).any id || q) ∧ (l.take (j + 1)).all id = ((l.take j).all id && q) := by
  rw [List.take_add_one, h]; simp

set_option maxRecDepth 100000 in
set_option maxHeartbeats 6400000 in
theorem rEmpty_step (n : Nat) (ih : RemOk n) : RemOk (n + 1) := by
  intro v N p x k R w hkn h hl hT
  have HKd := Lib.hid (rKids_any v N p x k R w h hl hT)
  obtain ⟨h1, h2, h3⟩ := hT.head
  have HR := Lib.hid h
  have HT := Lib.hid hT
  have HIh := Lib.hid ih
  have hkl := Fo.len_le k
  obtain ⟨b, off, cap, rfl, hb, hcap, x0, x1, x2⟩ := RdNd.at h h1
  have HX := Lib.hid hl
  have hpn : p < N.length := by omega
  have HKn : Hid (k.size ≤ n) := by unfold Hid; omega
  have hks : k.size ≤ 16777216 := by omega
  have hmk := hT.all.1.k
  clear h h1 h2 hT ih hkn h3 x1 x2
  go_enter Try.func62, Try.ntmps62
  go_wp2_with fail
  refine (HKd.out).mono ?_
  rintro e w1 ⟨v1, rfl, ho1, hb1⟩
  have HB1 := Lib.hid hb1
  have HK1 := Lib.hid ho1
  obtain ⟨ao1, cp1, rfl, hcp⟩ := OwnI.shape ho1
  rw [starts_len] at hcp HK1 ⊢
  clear ho1 hb1
  go_wp2_with fail
  go_loopw [7, 8, 9] (fun s a i wr => ∃ j : Nat, i = .int .i64 j ∧ j ≤ k.len ∧ s = .bool ((k.emp.take j).any id) ∧ a = .bool ((k.emp.take j).all id) ∧ Hid (Below w1.heap.size w1 wr)) (fun _ _ i _ => k.len - (intOf i).toNat)
  case atStart => exact ⟨0, rfl, Nat.zero_le _, rfl, rfl, Below.refl _ _⟩
  case round =>
    obtain ⟨j, rfl, hj, rfl, rfl, HBel0⟩ := hrel
    have HBel : Hid (Below w.heap.size w wr) := HB1.out.trans (HBel0.out.mono HB1.out.size)
    have hwr := HBel.out.size
    by_cases hlt : j < k.len
    · obtain ⟨g, gc, e0, hg1, hg2, hg3, hcs⟩ := own_src HK1.out (by rw [starts_len]; omega)
      rw [starts_len] at e0
      simp only [Value.slice.injEq] at e0
      obtain ⟨rfl, -, rfl⟩ := e0
      obtain ⟨y, kk, hy1, hy2, hy3, hy4, -⟩ := Fo.get_cons k j hlt
      obtain ⟨pc, hpc⟩ : ∃ q, (k.pieces (p + 1))[j]? = some q := ⟨_, List.getElem?_eq_getElem (by rw [Fo.pieces_len]; exact hlt)⟩
      obtain ⟨R2, hTk⟩ := treeAt_kid HT.out _ pc hpc y kk hy1 (hy4 HT.out.wf.2.1)
      have hsj : (intsV (starts k (p + 1)))[j]? = some (.int .i64 pc.1) := by
        unfold intsV starts
        rw [List.getElem?_map, List.getElem?_map, hpc]; rfl
      have c0 := hcs _ _ hsj
      rw [Addr.add_lit, Nat.zero_add] at c0
      have C0 := (HBel0.out.cell (p := ⟨g, j, none⟩) hg2).trans c0
      have HC : Hid (∀ wx, Below wr.heap.size wr wx → Calls Try.prog 62 #[.slice (some ⟨b, off, none⟩) N.length cap, .int .i64 pc.1] wx fun e w' => e = .returned (.bool (empN y kk.emp)) ∧ Below wx.heap.size wx w') :=
        fun wx hbx => HIh.out _ N pc.1 y kk _ wx (by have := HKn.out; omega) (HR.out.below (HBel.out.trans (hbx.mono hwr))) HX.out hTk
      obtain ⟨t1, t2⟩ := any_snoc k.emp j _ (emp_get k j y kk hy1)
      have HT1 := Lib.hid t1
      have HT2 := Lib.hid t2
      have hgw : g < wr.heap.size := by have := HBel0.out.size; omega
      clear hcs hy1 hy2 hy3 hy4 hpc hTk hsj c0 t1 t2
      generalize empN y kk.emp = q at *
      generalize (k.emp.take j).any id = s at *
      generalize (k.emp.take j).all id = a at *
      cases s <;> cases a <;> cases q
      all_goals
        go_wp2_with (go_at_call 62; refine (HC.out _ (Below.refl _ _)).mono ?_; rintro e w3 ⟨rfl, hb3⟩; have HB3 := Lib.hid hb3; clear hb3)
        go_roundw
        case rel => exact ⟨j + 1, by go_num, by omega, by rw [HT1.out]; rfl, by rw [HT2.out]; rfl, HBel0.out.trans (HB3.out.mono HBel0.out.size)⟩
        case measure => simp [intOf]; omega
    · obtain rfl : j = k.len := by omega
      have e1 : k.emp.take k.len = k.emp := List.take_of_length_le (by rw [Fo.emp_len]; exact Nat.le_refl _)
      rw [e1]
      have HE : Hid (empN x k.emp = if x.k = 2 ∨ x.k = 3 then false else if x.k = 5 then k.emp.any id else if x.k = 4 ∨ x.k = 7 then k.emp.all id else true) := by
        unfold Hid empN
        by_cases h1 : x.k = 1 ∨ x.k = 6 ∨ x.k = 8
        · rw [if_pos h1, if_neg (by omega), if_neg (by omega), if_neg (by omega)]
        · rw [if_neg h1]
          by_cases h2 : x.k = 4 ∨ x.k = 7
          · rw [if_pos h2, if_neg (by omega), if_neg (by omega), if_pos h2]
          · rw [if_neg h2]
            by_cases h3 : x.k = 5
            · rw [if_pos h3, if_neg (by omega), if_pos h3]
            · rw [if_neg h3, if_pos (by omega)]
      clear hlt
      generalize k.emp.any id = s at *
      generalize k.emp.all id = a at *
      have hc : x.k = 1 ∨ x.k = 2 ∨ x.k = 3 ∨ x.k = 4 ∨ x.k = 5 ∨ x.k = 6 ∨ x.k = 7 ∨ x.k = 8 := by omega
      generalize x.k = xk at *
      clear hmk
      rcases hc with rfl | rfl | rfl | rfl | rfl | rfl | rfl | rfl
      all_goals
        go_wp2_with fail
        go_ret
        refine ⟨congrArg (fun b => Ending.returned (.bool b)) ?_, HBel.out⟩
        rw [HE.out]; simp
theorem rEmpty_all : ∀ n, RemOk n
  | 0 => fun v N p x k R w hk => by omega
  | n + 1 => rEmpty_step n (rEmpty_all n)
end Go.Proofs.Ytbpipnjdfmpbdaa
