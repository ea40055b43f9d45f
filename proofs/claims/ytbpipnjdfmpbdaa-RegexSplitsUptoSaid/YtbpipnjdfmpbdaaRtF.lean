import Derived.Test.YtbpipnjdfmpbdaaRtE
namespace Go.Proofs.Ytbpipnjdfmpbdaa
open Go.RowKit Go.Shelf

/-- a tree stands at a place of a list -/
structure TreeAt (N : List Nd) (p : Nat) (x : Nd) (k : Fo) (R : List Nd) : Prop where
  drop : N.drop p = (Fo.cons x k .nil).flat ++ R
  wf : (Fo.cons x k .nil).wf
  all : (Fo.cons x k .nil).all mayN
theorem TreeAt.head {N : List Nd} {p : Nat} {x : Nd} {k : Fo} {R : List Nd} (h : TreeAt N p x k R) : N[p]? = some x ∧ N.drop (p + 1) = k.flat ++ R ∧ p + k.size + 1 ≤ N.length := by
  have e : (Fo.cons x k .nil).flat ++ R = x :: (k.flat ++ R) := by simp [Fo.flat]
  have hd := h.drop
  rw [e] at hd
  obtain ⟨h1, h2, h3⟩ := drop_head hd
  refine ⟨h1, h2, ?_⟩
  have := congrArg List.length hd
  simp only [List.length_drop, List.length_cons, List.length_append, Fo.flat_len] at this
  omega
/-- where the trees of a forest begin -/
def starts (k : Fo) (s : Nat) : List Nat := (k.pieces s).map (·.1)
theorem starts_cons (y : Nd) (kk r : Fo) (s : Nat) : starts (Fo.cons y kk r) s = s :: starts r (s + kk.size + 1) := rfl
theorem starts_len (k : Fo) (s : Nat) : (starts k s).length = k.len := by unfold starts; rw [List.length_map, Fo.pieces_len]
theorem end_tree {N : List Nd} {p : Nat} {x : Nd} {k : Fo} {R : List Nd} (h : TreeAt N p x k R) : endR p (endL N.length (N.drop p) 1) = ((p + k.size + 1 : Nat) : Int) := by
  have hh := h.head.2.2
  have := end_forest (lim := N.length) (Fo.cons x k .nil) 0 R h.wf h.all (by simp only [Fo.size]; omega)
  rw [endL_zero] at this
  rw [h.drop]
  have e : (Fo.cons x k .nil).len + 0 = 1 := rfl
  rw [e] at this
  rw [this]
  simp only [Option.map, endR, Fo.size]
  congr 1; omega

set_option maxRecDepth 100000 in
set_option maxHeartbeats 3200000 in
theorem rKids_any (v : Value) (N : List Nd) (p : Nat) (x : Nd) (k : Fo) (R : List Nd) (w : World) (h : RdNd w v N) (hl : N.length ≤ 16777216) (hT : TreeAt N p x k R) :
    Calls Try.prog 84 #[v, .int .i64 p] w fun e w' => ∃ v', e = .returned v' ∧ OwnI w' w.heap.size v' (starts k (p + 1)) ∧ Below w.heap.size w w' := by
  obtain ⟨h1, h2, h3⟩ := hT.head
  have HR := Lib.hid h
  obtain ⟨b, off, cap, rfl, hb, hcap, x0, x1, x2⟩ := RdNd.at h h1
  rw [hT.wf.1] at x2
  have hkl := Fo.len_le k
  obtain ⟨n, hn⟩ : ∃ n, n = N.length := ⟨_, rfl⟩
  have HN := Lib.hid hn
  rw [← hn] at hl h3 HR hcap ⊢
  have HD := Lib.hid h2
  have HT := Lib.hid hT
  have HEnd : Hid (∀ (wx : World) (s : Nat) y kk R2, Below w.heap.size w wx → TreeAt N s y kk R2 → Calls Try.prog 89 #[.slice (some ⟨b, off, none⟩) n cap, .int .i64 s] wx fun e w' => e = .returned (.int .i64 ((s + kk.size + 1 : Nat) : Int)) ∧ Below wx.heap.size wx w') := by
    intro wx s y kk R2 hbx hT2
    have := rEnd_any (.slice (some ⟨b, off, none⟩) n cap) N s wx (by have := HR.out; exact this.below hbx) (by omega) (by have := hT2.head.2.2; omega)
    rw [end_tree hT2] at this
    exact this
  have hpn : p < n := by omega
  clear h h1 h2 hT hn x0 x1
  go_enter Try.func84, Try.ntmps84
  go_wp2_with fail
  go_loopw [5, 6, 7] (fun o a i wr => ∃ (j s : Nat) (r : Fo) (done : List Nat), i = .int .i64 j ∧ a = .int .i64 s ∧ OwnI wr w.heap.size o done ∧ Hid (done.length = j) ∧ j + r.len = k.len ∧ s + r.size ≤ n ∧ Hid (Below w.heap.size w wr) ∧
    Hid (starts k (p + 1) = done ++ starts r s ∧ N.drop s = r.flat ++ R ∧ r.wf ∧ r.all mayN)) (fun _ _ i _ => k.len - (intOf i).toNat)
  case atStart => exact ⟨0, p + 1, k, [], rfl, by go_num, World.ownsRow_nil _ _ _ _, rfl, by omega, by omega, Below.refl _ _, rfl, HD.out, HT.out.wf.2.1, HT.out.all.2.1⟩
  case round =>
    obtain ⟨j, s, r, done, rfl, rfl, hown, HDj, hjr, hsr, HBel, HRr⟩ := hrel
    have hws := HBel.out.size
    have X2 := (HBel.out.cell (p := ⟨b, _, none⟩) hb).trans x2
    by_cases hlt : j < k.len
    · obtain ⟨y, kk, r', rfl⟩ : ∃ y kk r', r = Fo.cons y kk r' := by
        cases r with
        | nil => simp [Fo.len] at hjr; omega
        | cons y kk r' => exact ⟨y, kk, r', rfl⟩
      simp only [Fo.len, Fo.size] at hjr hsr
      have HTk : Hid (TreeAt N s y kk (r'.flat ++ R)) := ⟨by rw [HRr.out.2.1]; simp [Fo.flat], ⟨HRr.out.2.2.1.1, HRr.out.2.2.1.2.1, trivial⟩, ⟨HRr.out.2.2.2.1, HRr.out.2.2.2.2.1, trivial⟩⟩
      have HJr := Lib.hid hjr
      have hdl : done.length ≤ 16777216 := by have := HDj.out; omega
      have HX2 := Lib.hid X2
      clear hjr
      go_wp2_with (at_builtin; go_must (refine wpList_appG1 elemInt rfl _ _ rfl hown rfl (news := [.int .i64 s]) rfl rfl (by intro u hu; simp at hu; subst hu; rfl) (by unfold maxLen; omega) (by omega) hws ?_); intro v' w3 hown3 hg3)
      have HB3 : Hid (Below w.heap.size w w3) := HBel.out.grown hg3 hws (fun j hj => own_block hown j hj)
      have HO3 : Hid (OwnI w3 w.heap.size v' (done ++ [s])) := OwnI.snoc hown3
      have HE3 := Lib.hid (HEnd.out w3 s y kk _ HB3.out HTk.out)
      clear hown3 hg3
      refine (HE3.out).mono ?_
      rintro e w4 ⟨rfl, hb4⟩
      have HB4 : Hid (Below w.heap.size w w4) := HB3.out.trans (hb4.mono HB3.out.size)
      have HO4 : Hid (OwnI w4 w.heap.size v' (done ++ [s])) := own_grown HO3.out (grown_below hb4) (by simp)
      have HD2 : Hid (N.drop (s + kk.size + 1) = r'.flat ++ R) := by
        unfold Hid
        rw [show s + kk.size + 1 = s + (kk.size + 1) from by omega, ← List.drop_drop, HTk.out.drop]
        rw [List.drop_append_of_le_length (by rw [Fo.flat_len]; simp [Fo.size])]
        rw [List.drop_eq_nil_of_le (by rw [Fo.flat_len]; simp [Fo.size])]
        rfl
      clear hb4 X2
      go_wp2_with fail
      go_roundw
      case rel => exact ⟨j + 1, s + kk.size + 1, r', done ++ [s], by go_num, rfl, HO4.out, by unfold Hid; rw [List.length_append, HDj.out]; rfl, by have := HJr.out; omega, by omega, HB4.out, by rw [HRr.out.1, starts_cons]; simp, HD2.out, HRr.out.2.2.1.2.2, HRr.out.2.2.2.2.2⟩
      case measure => simp [intOf]; omega
    · have HE : Hid (starts k (p + 1) = done) := by
        have hr0 : r = .nil := by
          cases r with
          | nil => rfl
          | cons y kk r' => simp [Fo.len] at hjr; omega
        have := HRr.out.1
        rw [hr0] at this
        unfold Hid
        simpa [starts, Fo.pieces] using this
      obtain ⟨ao, cp, rfl, -⟩ := OwnI.shape hown
      go_wp2_with fail
      go_ret
      exact ⟨_, rfl, by rw [HE.out]; exact hown, HBel.out⟩
def HtOk (n : Nat) : Prop := ∀ (v : Value) (N : List Nd) (p : Nat) (x : Nd) (k : Fo) (R : List Nd) (w : World), k.size + 1 ≤ n → RdNd w v N → N.length ≤ 16777216 → TreeAt N p x k R →
  Calls Try.prog 61 #[v, .int .i64 p] w fun e w' => e = .returned (.int .i64 ((k.height + 1 : Nat) : Int)) ∧ Below w.heap.size w w'
theorem height_le (f : Fo) : f.height ≤ f.size := by
  induction f with
  | nil => exact Nat.le_refl _
  | cons x k r h1 h2 => simp only [Fo.height, Fo.size]; omega

set_option maxRecDepth 100000 in
set_option maxHeartbeats 3200000 in
theorem rHeight_step (n : Nat) (ih : HtOk n) : HtOk (n + 1) := by
  intro v N p x k R w hkn h hl hT
  have HKd := Lib.hid (rKids_any v N p x k R w h hl hT)
  obtain ⟨h1, h2, h3⟩ := hT.head
  have HR := Lib.hid h
  have HD := Lib.hid h2
  have HT := Lib.hid hT
  have HIh := Lib.hid ih
  have hkl := Fo.len_le k
  have hkh := height_le k
  obtain ⟨_, ao, cap, rfl, -⟩ := id h
  have HX := Lib.hid hl
  clear h h1 h2 hT ih
  go_enter Try.func61, Try.ntmps61
  go_wp2_with fail
  refine (HKd.out).mono ?_
  rintro e w1 ⟨v1, rfl, ho1, hb1⟩
  obtain ⟨ao1, cp1, rfl, hcp⟩ := OwnI.shape ho1
  rw [starts_len] at hcp ⊢
  have HO1 := Lib.hid ho1
  have HB1 := Lib.hid hb1
  clear ho1 hb1 HKd
  go_wp2_with fail
  go_loopw [5, 7] (fun m i wr => ∃ (j s most : Nat) (r : Fo) (done : List Nat), i = .int .i64 j ∧ m = .int .i64 most ∧ Hid (done.length = j) ∧ j + r.len = k.len ∧ most ≤ N.length ∧ Hid (Below w1.heap.size w1 wr) ∧
    Hid (starts k (p + 1) = done ++ starts r s ∧ N.drop s = r.flat ++ R ∧ r.wf ∧ r.all mayN ∧ max most r.height = k.height ∧ r.size ≤ k.size)) (fun _ i _ => k.len - (intOf i).toNat)
  case atStart => exact ⟨0, p + 1, 0, k, [], rfl, rfl, rfl, by omega, by omega, Below.refl _ _, rfl, HD.out, HT.out.wf.2.1, HT.out.all.2.1, by omega, Nat.le_refl _⟩
  case round =>
    obtain ⟨j, s, most, r, done, rfl, rfl, HDj, hjr, hm, HBel, HRr⟩ := hrel
    have HB2 : Hid (Below w.heap.size w wr) := HB1.out.trans (HBel.out.mono HB1.out.size)
    by_cases hlt : j < k.len
    · obtain ⟨y, kk, r', rfl⟩ : ∃ y kk r', r = Fo.cons y kk r' := by
        cases r with
        | nil => simp [Fo.len] at hjr; omega
        | cons y kk r' => exact ⟨y, kk, r', rfl⟩
      simp only [Fo.len] at hjr
      have hsz := HRr.out.2.2.2.2.2
      simp only [Fo.size] at hsz
      have HTk : Hid (TreeAt N s y kk (r'.flat ++ R)) := ⟨by rw [HRr.out.2.1]; simp [Fo.flat], ⟨HRr.out.2.2.1.1, HRr.out.2.2.1.2.1, trivial⟩, ⟨HRr.out.2.2.2.1.1, HRr.out.2.2.2.1.2.1, trivial⟩⟩
      obtain ⟨g, gc, e0, hg1, hg2, hg3, hcs⟩ := own_src HO1.out (by rw [starts_len]; omega)
      rw [starts_len] at e0
      simp only [Value.slice.injEq] at e0
      obtain ⟨rfl, -, rfl⟩ := e0
      have hsj : (intsV (starts k (p + 1)))[j]? = some (.int .i64 s) := by
        unfold intsV
        rw [List.getElem?_map, HRr.out.1, starts_cons, List.getElem?_append_right (by rw [HDj.out]; exact Nat.le_refl _), HDj.out, Nat.sub_self]; rfl
      have c0 := hcs j _ hsj
      rw [Addr.add_lit, Nat.zero_add] at c0
      have C0 := (HBel.out.cell (p := ⟨g, j, none⟩) hg2).trans c0
      have HC : Hid (Calls Try.prog 61 #[.slice ao N.length cap, .int .i64 s] wr fun e w' => e = .returned (.int .i64 ((kk.height + 1 : Nat) : Int)) ∧ Below wr.heap.size wr w') :=
        HIh.out _ N s y kk _ wr (by omega) (HR.out.below HB2.out) HX.out HTk.out
      have hkh2 := height_le kk
      have HJr := Lib.hid hjr
      have HD2 : Hid (N.drop (s + kk.size + 1) = r'.flat ++ R) := by
        unfold Hid
        rw [show s + kk.size + 1 = s + (kk.size + 1) from by omega, ← List.drop_drop, HTk.out.drop]
        rw [List.drop_append_of_le_length (by rw [Fo.flat_len]; simp [Fo.size])]
        rw [List.drop_eq_nil_of_le (by rw [Fo.flat_len]; simp [Fo.size])]
        rfl
      have hmx := HRr.out.2.2.2.2.1
      have HMx : Hid (max (max most (kk.height + 1)) r'.height = k.height) := by unfold Hid; simp only [Fo.height] at hmx; omega
      have hgw : g < wr.heap.size := by have := HBel.out.size; omega
      clear hcs hsj c0 hjr hmx
      by_cases hlt2 : most < kk.height + 1
      all_goals
        go_wp2_with (go_at_call 61; refine (HC.out).mono ?_; rintro e w3 ⟨rfl, hb3⟩; have HB3 := Lib.hid hb3; clear hb3)
        have HB4 : Hid (Below w1.heap.size w1 w3) := HBel.out.trans (HB3.out.mono HBel.out.size)
        go_roundw
        case rel =>
          first
            | exact ⟨j + 1, s + kk.size + 1, kk.height + 1, r', done ++ [s], by go_num, by go_num, by unfold Hid; rw [List.length_append, HDj.out]; rfl, by have := HJr.out; omega, by omega, HB4.out, by rw [HRr.out.1, starts_cons]; simp, HD2.out, HRr.out.2.2.1.2.2, HRr.out.2.2.2.1.2.2, by have := HMx.out; omega, by omega⟩
            | exact ⟨j + 1, s + kk.size + 1, most, r', done ++ [s], by go_num, by go_num, by unfold Hid; rw [List.length_append, HDj.out]; rfl, by have := HJr.out; omega, by omega, HB4.out, by rw [HRr.out.1, starts_cons]; simp, HD2.out, HRr.out.2.2.1.2.2, HRr.out.2.2.2.1.2.2, by have := HMx.out; omega, by omega⟩
        case measure => simp [intOf]; omega
    · have HE : Hid (most = k.height) := by
        have hr0 : r = .nil := by
          cases r with
          | nil => rfl
          | cons y kk r' => simp [Fo.len] at hjr; omega
        have := HRr.out.2.2.2.2.1
        rw [hr0] at this
        unfold Hid
        simpa [Fo.height] using this
      go_wp2_with fail
      go_ret
      exact ⟨congrArg (fun x : Int => Ending.returned (.int .i64 x)) (by rw [← HE.out]; omega), HB2.out⟩
theorem rHeight_all : ∀ n, HtOk n
  | 0 => fun v N p x k R w hk => by omega
  | n + 1 => rHeight_step n (rHeight_all n)
end Go.Proofs.Ytbpipnjdfmpbdaa
