import Derived.Test.YtbpipnjdfmpbdaaRtF
namespace Go.Proofs.Ytbpipnjdfmpbdaa
open Go.RowKit Go.Shelf

theorem join_snoc (sep : List UInt8) (l : List (List UInt8)) (x : List UInt8) : Lib.join (l ++ [x]) sep = if l = [] then x else Lib.join l sep ++ (sep ++ x) := by
  cases l with
  | nil => simp [Lib.join_one]
  | cons y r => rw [if_neg (by simp), List.cons_append, Lib.join_cons, Lib.join_cons]; simp [Lib.joinTail]
theorem joinS_snoc (sep : ByteArray) (l : List ByteArray) (x : ByteArray) : joinS sep (l ++ [x]) = if l = [] then x else joinS sep l ++ sep ++ x := by
  unfold joinS
  rw [List.map_append, List.map_cons, List.map_nil, join_snoc]
  cases l with
  | nil => simp
  | cons y r =>
    rw [if_neg (by simp), if_neg (by simp)]
    apply ByteArray.ext
    simp [ByteArray.data_append]
def accS (x : Nd) (k : Fo) (j : Nat) : ByteArray := x.n ++ joinS (sepK x.k) ((k.tx.take j).map fun p => brk x.k p.1 p.2)
theorem acc_zero (x : Nd) (k : Fo) : accS x k 0 = x.n := by
  unfold accS
  have : joinS (sepK x.k) ((k.tx.take 0).map fun p => brk x.k p.1 p.2) = ⟨#[]⟩ := by unfold joinS; simp [Lib.join_nil]
  rw [this]
  apply ByteArray.ext
  simp [ByteArray.data_append]
theorem take_snoc' {α} (l : List α) (i : Nat) (m : α) (h : l[i]? = some m) : l.take (i + 1) = l.take i ++ [m] := by
  rw [List.take_add_one, h]; rfl
theorem acc_step (x : Nd) (k : Fo) (j : Nat) (p : Int × ByteArray) (h : k.tx[j]? = some p) : accS x k (j + 1) = if j = 0 then accS x k 0 ++ brk x.k p.1 p.2 else accS x k j ++ sepK x.k ++ brk x.k p.1 p.2 := by
  have hlt : j < k.tx.length := (List.getElem?_eq_some_iff.1 h).1
  by_cases h0 : j = 0
  · subst h0
    rw [if_pos rfl, acc_zero]
    unfold accS
    rw [take_snoc' _ _ _ h, List.map_append, List.map_cons, List.map_nil, joinS_snoc, if_pos (by simp)]
  · rw [if_neg h0]
    unfold accS
    rw [take_snoc' _ _ _ h, List.map_append, List.map_cons, List.map_nil, joinS_snoc, if_neg (by
      intro h2
      have h3 := congrArg List.length h2
      rw [List.length_map, List.length_take, List.length_nil] at h3
      omega)]
    simp only [ByteArray.append_assoc]
theorem acc_size (x : Nd) (k : Fo) (j : Nat) (hx : x.n.size ≤ 16) (hall : k.all mayN) : (accS x k j).size ≤ 16 + 32 * k.size := by
  have HSz := Fo.tx_size k (by
    have key : ∀ f : Fo, f.all mayN → f.all fun x => x.n.size ≤ 16 := by
      intro f
      induction f with
      | nil => intro _; trivial
      | cons y a b2 i1 i2 => intro h; exact ⟨h.1.size, i1 h.2.1, i2 h.2.2⟩
    exact key k hall)
  unfold accS
  rw [ByteArray.size_append]
  have h1 := joinS_size (sepK x.k) ((k.tx.take j).map fun p => brk x.k p.1 p.2)
  rw [List.map_map] at h1
  have hsp := sepK_size x.k
  have h4 : ∀ l : List (Int × ByteArray), (l.map ((fun x_1 => x_1.size + (sepK x.k).size) ∘ fun p => brk x.k p.1 p.2)).sum ≤ (l.map fun p => p.2.size + 5).sum := by
    intro l
    induction l with
    | nil => simp
    | cons p l ih =>
      have := brk_size x.k p.1 p.2
      simp only [List.map_cons, List.sum_cons, Function.comp] at ih ⊢
      omega
  have h5 : ((k.tx.take j).map fun p => p.2.size + 5).sum ≤ (k.tx.map fun p => p.2.size + 5).sum := by
    conv => rhs; rw [← List.take_append_drop j k.tx, List.map_append, List.sum_append]
    omega
  have := h4 (k.tx.take j)
  omega
theorem acc_all (x : Nd) (k : Fo) (hx1 : x.k ≠ 1) (hm : mayN x) (hc : x.c = k.len) : txN x k.tx = accS x k k.len ++ signK x.k := by
  have hall : (k.tx.take k.len) = k.tx := List.take_of_length_le (by rw [Fo.tx_len]; exact Nat.le_refl _)
  unfold txN
  rw [if_neg hx1]
  rcases hm with h | h | h | h | h
  · exact absurd h.1 hx1
  · have hk : k = .nil := nil_height (by have := h.2.1; omega)
    subst hk
    rw [if_pos (.inl h.1)]
    show x.n = accS x .nil 0 ++ _
    rw [acc_zero, show signK x.k = ⟨#[]⟩ from by unfold signK; rw [if_neg (by omega), if_neg (by omega), if_neg (by omega)]]
    apply ByteArray.ext; simp [ByteArray.data_append]
  · have hk : k = .nil := nil_height (by have := h.2.1; omega)
    subst hk
    rw [if_pos (.inr h.1)]
    show x.n = accS x .nil 0 ++ _
    rw [acc_zero, show signK x.k = ⟨#[]⟩ from by unfold signK; rw [if_neg (by omega), if_neg (by omega), if_neg (by omega)]]
    apply ByteArray.ext; simp [ByteArray.data_append]
  · rw [if_neg (by omega)]
    unfold accS
    rw [hall, h.2.1]
    have : ∀ t : ByteArray, (⟨#[]⟩ : ByteArray) ++ t = t := by intro t; apply ByteArray.ext; simp [ByteArray.data_append]
    rw [this]
  · rw [if_neg (by omega)]
    unfold accS
    rw [hall, h.2.1]
    have : ∀ t : ByteArray, (⟨#[]⟩ : ByteArray) ++ t = t := by intro t; apply ByteArray.ext; simp [ByteArray.data_append]
    rw [this]
theorem app_nil (t : ByteArray) : t ++ (⟨#[]⟩ : ByteArray) = t := by apply ByteArray.ext; simp [ByteArray.data_append]
def TxOk (n : Nat) : Prop := ∀ (v : Value) (N : List Nd) (p : Nat) (x : Nd) (k : Fo) (R : List Nd) (w : World), k.size + 1 ≤ n → RdNd w v N → N.length ≤ 16777216 → TreeAt N p x k R →
  Calls Try.prog 54 #[v, .int .i64 p] w fun e w' => e = .returned (.string (txN x k.tx)) ∧ Below w.heap.size w w'
def brkT (x : Nd) (yk : Int) (ty : ByteArray) : ByteArray := brk x.k yk ty

set_option maxRecDepth 100000 in
set_option maxHeartbeats 32000000 in
theorem rText_step (n : Nat) (ih : TxOk n) : TxOk (n + 1) := by
  intro v N p x k R w hkn h hl hT
  have HKd := Lib.hid (rKids_any v N p x k R w h hl hT)
  obtain ⟨h1, h2, h3⟩ := hT.head
  have HR := Lib.hid h
  have HD := Lib.hid h2
  have HT := Lib.hid hT
  have HIh := Lib.hid ih
  have hkl := Fo.len_le k
  obtain ⟨b, off, cap, rfl, hb, hcap, x0, x1, x2⟩ := RdNd.at h h1
  have hmk := hT.all.1.k
  have HAcc : Hid (x.k ≠ 1 → txN x k.tx = accS x k k.len ++ signK x.k) := fun h1 => acc_all x k h1 hT.all.1 hT.wf.1
  have HAs : Hid (∀ j, (accS x k j).size ≤ 16 + 32 * k.size) := fun j => acc_size x k j hT.all.1.size hT.all.2.1
  have HX := Lib.hid hl
  have hpn : p < N.length := by omega
  clear h h1 h2 hT ih x2
  by_cases hk1 : x.k = 1
  · have HTx : Hid (txN x k.tx = ⟨#[37]⟩) := by unfold Hid txN; rw [if_pos hk1]
    rw [hk1] at x0
    clear hk1 HKd HAcc
    go_enter Try.func54, Try.ntmps54
    go_wp2_with fail
    go_ret
    exact ⟨congrArg (fun t => Ending.returned (.string t)) HTx.out.symm, Below.refl _ _⟩
  · have HTx : Hid (txN x k.tx = accS x k k.len ++ signK x.k) := HAcc.out hk1
    have HN0 : Hid (x.n = accS x k 0) := (acc_zero x k).symm
    have hcase : x.k = 2 ∨ x.k = 3 ∨ x.k = 4 ∨ x.k = 5 ∨ x.k = 6 ∨ x.k = 7 ∨ x.k = 8 := by omega
    clear HAcc hmk hk1
    rw [HN0.out] at x1
    rcases hcase with hk | hk | hk | hk | hk | hk | hk
    · have HKx := Lib.hid hk
      rw [hk] at x0
      clear hk
      go_enter Try.func54, Try.ntmps54
      go_wp2_with fail
      refine (HKd.out).mono ?_
      rintro e w1 ⟨v1, rfl, ho1, hb1⟩
      obtain ⟨ao1, cp1, rfl, hcp⟩ := OwnI.shape ho1
      rw [starts_len] at hcp ⊢
      have HO1 := Lib.hid ho1
      have HB1 := Lib.hid hb1
      clear ho1 hb1 HKd
      go_wp2_with fail
      go_loopw [6, 8] (fun m i wr => ∃ (j s : Nat) (r : Fo) (done : List Nat), i = .int .i64 j ∧ m = .string (accS x k j) ∧ Hid (done.length = j) ∧ j + r.len = k.len ∧ Hid (Below w1.heap.size w1 wr) ∧
        Hid (starts k (p + 1) = done ++ starts r s ∧ N.drop s = r.flat ++ R ∧ r.wf ∧ r.all mayN ∧ r.size ≤ k.size ∧ r.tx = k.tx.drop j)) (fun _ i _ => k.len - (intOf i).toNat)
      case atStart => exact ⟨0, p + 1, k, [], rfl, rfl, rfl, by omega, Below.refl _ _, rfl, HD.out, HT.out.wf.2.1, HT.out.all.2.1, Nat.le_refl _, rfl⟩
      case round =>
        obtain ⟨j, s, r, done, rfl, rfl, HDj, hjr, HBel, HRr⟩ := hrel
        have HB2 : Hid (Below w.heap.size w wr) := HB1.out.trans (HBel.out.mono HB1.out.size)
        have ha0 := HAs.out j
        by_cases hlt : j < k.len
        · exfalso
          have hm := HT.out.all.1
          have hc := HT.out.wf.1
          have hkk := HKx.out
          rcases hm with h | h | h | h | h
          all_goals omega
        · obtain rfl : j = k.len := by omega
          have hsg := signK_size x.k
          have HTy : Hid (signK x.k = signK _) := congrArg signK HKx.out
          generalize accS x k k.len = acc at *
          go_wp2_with fail
          go_ret
          refine ⟨congrArg (fun t => Ending.returned (.string t)) ?_, HB2.out⟩
          rw [HTx.out, HTy.out]
          first | rfl | exact (app_nil _).symm
    · have HKx := Lib.hid hk
      rw [hk] at x0
      clear hk
      go_enter Try.func54, Try.ntmps54
      go_wp2_with fail
      refine (HKd.out).mono ?_
      rintro e w1 ⟨v1, rfl, ho1, hb1⟩
      obtain ⟨ao1, cp1, rfl, hcp⟩ := OwnI.shape ho1
      rw [starts_len] at hcp ⊢
      have HO1 := Lib.hid ho1
      have HB1 := Lib.hid hb1
      clear ho1 hb1 HKd
      go_wp2_with fail
      go_loopw [6, 8] (fun m i wr => ∃ (j s : Nat) (r : Fo) (done : List Nat), i = .int .i64 j ∧ m = .string (accS x k j) ∧ Hid (done.length = j) ∧ j + r.len = k.len ∧ Hid (Below w1.heap.size w1 wr) ∧
        Hid (starts k (p + 1) = done ++ starts r s ∧ N.drop s = r.flat ++ R ∧ r.wf ∧ r.all mayN ∧ r.size ≤ k.size ∧ r.tx = k.tx.drop j)) (fun _ i _ => k.len - (intOf i).toNat)
      case atStart => exact ⟨0, p + 1, k, [], rfl, rfl, rfl, by omega, Below.refl _ _, rfl, HD.out, HT.out.wf.2.1, HT.out.all.2.1, Nat.le_refl _, rfl⟩
      case round =>
        obtain ⟨j, s, r, done, rfl, rfl, HDj, hjr, HBel, HRr⟩ := hrel
        have HB2 : Hid (Below w.heap.size w wr) := HB1.out.trans (HBel.out.mono HB1.out.size)
        have ha0 := HAs.out j
        by_cases hlt : j < k.len
        · exfalso
          have hm := HT.out.all.1
          have hc := HT.out.wf.1
          have hkk := HKx.out
          rcases hm with h | h | h | h | h
          all_goals omega
        · obtain rfl : j = k.len := by omega
          have hsg := signK_size x.k
          have HTy : Hid (signK x.k = signK _) := congrArg signK HKx.out
          generalize accS x k k.len = acc at *
          go_wp2_with fail
          go_ret
          refine ⟨congrArg (fun t => Ending.returned (.string t)) ?_, HB2.out⟩
          rw [HTx.out, HTy.out]
          first | rfl | exact (app_nil _).symm
    · have HKx := Lib.hid hk
      rw [hk] at x0
      clear hk
      go_enter Try.func54, Try.ntmps54
      go_wp2_with fail
      refine (HKd.out).mono ?_
      rintro e w1 ⟨v1, rfl, ho1, hb1⟩
      obtain ⟨ao1, cp1, rfl, hcp⟩ := OwnI.shape ho1
      rw [starts_len] at hcp ⊢
      have HO1 := Lib.hid ho1
      have HB1 := Lib.hid hb1
      clear ho1 hb1 HKd
      go_wp2_with fail
      go_loopw [6, 8] (fun m i wr => ∃ (j s : Nat) (r : Fo) (done : List Nat), i = .int .i64 j ∧ m = .string (accS x k j) ∧ Hid (done.length = j) ∧ j + r.len = k.len ∧ Hid (Below w1.heap.size w1 wr) ∧
        Hid (starts k (p + 1) = done ++ starts r s ∧ N.drop s = r.flat ++ R ∧ r.wf ∧ r.all mayN ∧ r.size ≤ k.size ∧ r.tx = k.tx.drop j)) (fun _ i _ => k.len - (intOf i).toNat)
      case atStart => exact ⟨0, p + 1, k, [], rfl, rfl, rfl, by omega, Below.refl _ _, rfl, HD.out, HT.out.wf.2.1, HT.out.all.2.1, Nat.le_refl _, rfl⟩
      case round =>
        obtain ⟨j, s, r, done, rfl, rfl, HDj, hjr, HBel, HRr⟩ := hrel
        have HB2 : Hid (Below w.heap.size w wr) := HB1.out.trans (HBel.out.mono HB1.out.size)
        have ha0 := HAs.out j
        by_cases hlt : j < k.len
        · obtain ⟨y, kk, r', rfl⟩ : ∃ y kk r', r = Fo.cons y kk r' := by
            cases r with
            | nil => simp [Fo.len] at hjr; omega
            | cons y kk r' => exact ⟨y, kk, r', rfl⟩
          simp only [Fo.len] at hjr
          obtain ⟨r1, r2, r3, r4, r5, r6⟩ := HRr.out
          simp only [Fo.size] at r5
          have hTk : TreeAt N s y kk (r'.flat ++ R) := ⟨by rw [r2]; simp [Fo.flat], ⟨r3.1, r3.2.1, trivial⟩, ⟨r4.1, r4.2.1, trivial⟩⟩
          have HTk := Lib.hid hTk
          obtain ⟨g, gc, e0, hg1, hg2, hg3, hcs⟩ := own_src HO1.out (by rw [starts_len]; omega)
          rw [starts_len] at e0
          simp only [Value.slice.injEq] at e0
          obtain ⟨rfl, -, rfl⟩ := e0
          have hsj : (intsV (starts k (p + 1)))[j]? = some (.int .i64 s) := by
            unfold intsV
            rw [List.getElem?_map, r1, starts_cons, List.getElem?_append_right (by rw [HDj.out]; exact Nat.le_refl _), HDj.out, Nat.sub_self]; rfl
          have c0 := hcs j _ hsj
          rw [Addr.add_lit, Nat.zero_add] at c0
          have C0 := (HBel.out.cell (p := ⟨g, j, none⟩) hg2).trans c0
          have hrb := HR.out.below HB2.out
          obtain ⟨b', off', cap', e1, hb', -, y0, -, -⟩ := RdNd.at hrb hTk.head.1
          simp only [Value.slice.injEq, Option.some.injEq, Addr.mk.injEq] at e1
          obtain ⟨⟨rfl, rfl, -⟩, -, rfl⟩ := e1
          have hsN : s < N.length := by have := hTk.head.2.2; omega
          have HC : Hid (Calls Try.prog 54 #[.slice (some ⟨b, off, none⟩) N.length cap, .int .i64 s] wr fun e w' => e = .returned (.string (txN y kk.tx)) ∧ Below wr.heap.size wr w') :=
            HIh.out _ N s y kk _ wr (by omega) hrb HX.out hTk
          have htx : k.tx[j]? = some (y.k, txN y kk.tx) := by
            have := congrArg (fun l => l[0]?) r6
            simp only [Fo.tx, List.getElem?_cons_zero, List.getElem?_drop, Nat.add_zero] at this
            exact this.symm
          have hts : (txN y kk.tx).size ≤ 1073741824 := by
            have h1 := HAs.out (j + 1)
            rw [acc_step x k j _ htx] at h1
            have h2 : (txN y kk.tx).size ≤ (brk x.k y.k (txN y kk.tx)).size := by
              unfold brk; split
              · rw [ByteArray.size_append, ByteArray.size_append]; omega
              · exact Nat.le_refl _
            simp only at h1
            split at h1
            · rw [ByteArray.size_append] at h1; omega
            · rw [ByteArray.size_append] at h1; omega
          have HD2 : Hid (N.drop (s + kk.size + 1) = r'.flat ++ R) := by
            unfold Hid
            rw [show s + kk.size + 1 = s + (kk.size + 1) from by omega, ← List.drop_drop, hTk.drop]
            rw [List.drop_append_of_le_length (by rw [Fo.flat_len]; simp [Fo.size])]
            rw [List.drop_eq_nil_of_le (by rw [Fo.flat_len]; simp [Fo.size])]
            rfl
          have HNx : Hid (starts k (p + 1) = (done ++ [s]) ++ starts r' (s + kk.size + 1) ∧ r'.wf ∧ r'.all mayN ∧ r'.size ≤ k.size ∧ r'.tx = k.tx.drop (j + 1)) := by
            refine ⟨by rw [r1, starts_cons]; simp, r3.2.2, r4.2.2, by omega, ?_⟩
            rw [← List.drop_drop, ← r6]; rfl
          have HDj2 : Hid ((done ++ [s]).length = j + 1) := by unfold Hid; rw [List.length_append, HDj.out]; rfl
          have hstep := acc_step x k j _ htx
          simp only at hstep
          rw [HKx.out, show sepK 4 = (⟨#[32]⟩ : ByteArray) from rfl] at hstep
          have hbrk : (y.k = 5 ∧ brk 4 y.k (txN y kk.tx) = (⟨#[40]⟩ : ByteArray) ++ txN y kk.tx ++ (⟨#[41]⟩ : ByteArray)) ∨ (y.k ≠ 5 ∧ y.k = 4 ∧ brk 4 y.k (txN y kk.tx) = (⟨#[40]⟩ : ByteArray) ++ txN y kk.tx ++ (⟨#[41]⟩ : ByteArray)) ∨ (y.k ≠ 5 ∧ y.k ≠ 4 ∧ brk 4 y.k (txN y kk.tx) = txN y kk.tx) := by
            by_cases h5 : y.k = 5
            · exact .inl ⟨h5, by rw [h5]; rfl⟩
            · by_cases h4 : y.k = 4
              · exact .inr (.inl ⟨h5, h4, by rw [h4]; rfl⟩)
              · refine .inr (.inr ⟨h5, h4, ?_⟩)
                unfold brk brkB
                rw [show (y.k == 5) = false from by simpa using h5, show (y.k == 4) = false from by simpa using h4]; rfl
          have hgw : g < wr.heap.size := by have := HBel.out.size; omega
          have hbw : b < wr.heap.size := hb'
          have HJr := Lib.hid hjr
          have ha1 := HAs.out (j + 1)
          clear hcs hsj c0 hjr r1 r2 r3 r4 r5 r6 hrb hTk htx x0 x1
          generalize txN y kk.tx = ty at *
          generalize hyk : y.k = yk at *
          generalize brk 4 yk ty = bk at *
          generalize hae : accS x k (j + 1) = a1 at *
          generalize haj : accS x k j = aj at *
          have HAj := Lib.hid haj
          have HAe := Lib.hid hae
          have HSt := Lib.hid hstep
          clear haj hae hstep hyk
          rcases hbrk with ⟨t5, rfl⟩ | ⟨t5, t4, rfl⟩ | ⟨t5, t4, rfl⟩
          · have u5 : (yk == 5) = true := by simpa using t5
            have V := trivial
            clear t5 V
            by_cases hj0 : j = 0
            · have HA1 := Lib.hid (HSt.out.trans (if_pos hj0))
              subst hj0
              go_wp2_with (go_at_call 54; refine (HC.out).mono ?_; rintro e w3 ⟨rfl, hb3⟩; have HB3 := Lib.hid hb3; clear hb3)
              have HB4 : Hid (Below w1.heap.size w1 w3) := HBel.out.trans (HB3.out.mono HBel.out.size)
              go_roundw
              case rel => exact ⟨0 + 1, s + kk.size + 1, r', done ++ [s], by go_num, congrArg Value.string (by rw [HAe.out, HA1.out, HAj.out]), HDj2.out, by have := HJr.out; omega, HB4.out, HNx.out.1, HD2.out, HNx.out.2.1, HNx.out.2.2.1, HNx.out.2.2.2.1, HNx.out.2.2.2.2⟩
              case measure => simp [intOf]; omega
            · have HA1 := Lib.hid (HSt.out.trans (if_neg hj0))
              have hjp : 0 < j := by omega
              clear hj0
              go_wp2_with (go_at_call 54; refine (HC.out).mono ?_; rintro e w3 ⟨rfl, hb3⟩; have HB3 := Lib.hid hb3; clear hb3)
              have HB4 : Hid (Below w1.heap.size w1 w3) := HBel.out.trans (HB3.out.mono HBel.out.size)
              go_roundw
              case rel => exact ⟨j + 1, s + kk.size + 1, r', done ++ [s], by go_num, congrArg Value.string (by rw [HAe.out, HA1.out]), HDj2.out, by have := HJr.out; omega, HB4.out, HNx.out.1, HD2.out, HNx.out.2.1, HNx.out.2.2.1, HNx.out.2.2.2.1, HNx.out.2.2.2.2⟩
              case measure => simp [intOf]; omega
          · have u5 : (yk == 5) = false := by simpa using t5
            have u4 : (yk == 4) = true := by simpa using t4
            clear t5 t4
            by_cases hj0 : j = 0
            · have HA1 := Lib.hid (HSt.out.trans (if_pos hj0))
              subst hj0
              go_wp2_with (go_at_call 54; refine (HC.out).mono ?_; rintro e w3 ⟨rfl, hb3⟩; have HB3 := Lib.hid hb3; clear hb3)
              have HB4 : Hid (Below w1.heap.size w1 w3) := HBel.out.trans (HB3.out.mono HBel.out.size)
              go_roundw
              case rel => exact ⟨0 + 1, s + kk.size + 1, r', done ++ [s], by go_num, congrArg Value.string (by rw [HAe.out, HA1.out, HAj.out]), HDj2.out, by have := HJr.out; omega, HB4.out, HNx.out.1, HD2.out, HNx.out.2.1, HNx.out.2.2.1, HNx.out.2.2.2.1, HNx.out.2.2.2.2⟩
              case measure => simp [intOf]; omega
            · have HA1 := Lib.hid (HSt.out.trans (if_neg hj0))
              have hjp : 0 < j := by omega
              clear hj0
              go_wp2_with (go_at_call 54; refine (HC.out).mono ?_; rintro e w3 ⟨rfl, hb3⟩; have HB3 := Lib.hid hb3; clear hb3)
              have HB4 : Hid (Below w1.heap.size w1 w3) := HBel.out.trans (HB3.out.mono HBel.out.size)
              go_roundw
              case rel => exact ⟨j + 1, s + kk.size + 1, r', done ++ [s], by go_num, congrArg Value.string (by rw [HAe.out, HA1.out]), HDj2.out, by have := HJr.out; omega, HB4.out, HNx.out.1, HD2.out, HNx.out.2.1, HNx.out.2.2.1, HNx.out.2.2.2.1, HNx.out.2.2.2.2⟩
              case measure => simp [intOf]; omega
          · have u5 : (yk == 5) = false := by simpa using t5
            have u4 : (yk == 4) = false := by simpa using t4
            clear t5 t4
            by_cases hj0 : j = 0
            · have HA1 := Lib.hid (HSt.out.trans (if_pos hj0))
              subst hj0
              go_wp2_with (go_at_call 54; refine (HC.out).mono ?_; rintro e w3 ⟨rfl, hb3⟩; have HB3 := Lib.hid hb3; clear hb3)
              have HB4 : Hid (Below w1.heap.size w1 w3) := HBel.out.trans (HB3.out.mono HBel.out.size)
              go_roundw
              case rel => exact ⟨0 + 1, s + kk.size + 1, r', done ++ [s], by go_num, congrArg Value.string (by rw [HAe.out, HA1.out, HAj.out]), HDj2.out, by have := HJr.out; omega, HB4.out, HNx.out.1, HD2.out, HNx.out.2.1, HNx.out.2.2.1, HNx.out.2.2.2.1, HNx.out.2.2.2.2⟩
              case measure => simp [intOf]; omega
            · have HA1 := Lib.hid (HSt.out.trans (if_neg hj0))
              have hjp : 0 < j := by omega
              clear hj0
              go_wp2_with (go_at_call 54; refine (HC.out).mono ?_; rintro e w3 ⟨rfl, hb3⟩; have HB3 := Lib.hid hb3; clear hb3)
              have HB4 : Hid (Below w1.heap.size w1 w3) := HBel.out.trans (HB3.out.mono HBel.out.size)
              go_roundw
              case rel => exact ⟨j + 1, s + kk.size + 1, r', done ++ [s], by go_num, congrArg Value.string (by rw [HAe.out, HA1.out]), HDj2.out, by have := HJr.out; omega, HB4.out, HNx.out.1, HD2.out, HNx.out.2.1, HNx.out.2.2.1, HNx.out.2.2.2.1, HNx.out.2.2.2.2⟩
              case measure => simp [intOf]; omega
        · obtain rfl : j = k.len := by omega
          have hsg := signK_size x.k
          have HTy : Hid (signK x.k = signK _) := congrArg signK HKx.out
          generalize accS x k k.len = acc at *
          go_wp2_with fail
          go_ret
          refine ⟨congrArg (fun t => Ending.returned (.string t)) ?_, HB2.out⟩
          rw [HTx.out, HTy.out]
          first | rfl | exact (app_nil _).symm
    · have HKx := Lib.hid hk
      rw [hk] at x0
      clear hk
      go_enter Try.func54, Try.ntmps54
      go_wp2_with fail
      refine (HKd.out).mono ?_
      rintro e w1 ⟨v1, rfl, ho1, hb1⟩
      obtain ⟨ao1, cp1, rfl, hcp⟩ := OwnI.shape ho1
      rw [starts_len] at hcp ⊢
      have HO1 := Lib.hid ho1
      have HB1 := Lib.hid hb1
      clear ho1 hb1 HKd
      go_wp2_with fail
      go_loopw [6, 8] (fun m i wr => ∃ (j s : Nat) (r : Fo) (done : List Nat), i = .int .i64 j ∧ m = .string (accS x k j) ∧ Hid (done.length = j) ∧ j + r.len = k.len ∧ Hid (Below w1.heap.size w1 wr) ∧
        Hid (starts k (p + 1) = done ++ starts r s ∧ N.drop s = r.flat ++ R ∧ r.wf ∧ r.all mayN ∧ r.size ≤ k.size ∧ r.tx = k.tx.drop j)) (fun _ i _ => k.len - (intOf i).toNat)
      case atStart => exact ⟨0, p + 1, k, [], rfl, rfl, rfl, by omega, Below.refl _ _, rfl, HD.out, HT.out.wf.2.1, HT.out.all.2.1, Nat.le_refl _, rfl⟩
      case round =>
        obtain ⟨j, s, r, done, rfl, rfl, HDj, hjr, HBel, HRr⟩ := hrel
        have HB2 : Hid (Below w.heap.size w wr) := HB1.out.trans (HBel.out.mono HB1.out.size)
        have ha0 := HAs.out j
        by_cases hlt : j < k.len
        · obtain ⟨y, kk, r', rfl⟩ : ∃ y kk r', r = Fo.cons y kk r' := by
            cases r with
            | nil => simp [Fo.len] at hjr; omega
            | cons y kk r' => exact ⟨y, kk, r', rfl⟩
          simp only [Fo.len] at hjr
          obtain ⟨r1, r2, r3, r4, r5, r6⟩ := HRr.out
          simp only [Fo.size] at r5
          have hTk : TreeAt N s y kk (r'.flat ++ R) := ⟨by rw [r2]; simp [Fo.flat], ⟨r3.1, r3.2.1, trivial⟩, ⟨r4.1, r4.2.1, trivial⟩⟩
          have HTk := Lib.hid hTk
          obtain ⟨g, gc, e0, hg1, hg2, hg3, hcs⟩ := own_src HO1.out (by rw [starts_len]; omega)
          rw [starts_len] at e0
          simp only [Value.slice.injEq] at e0
          obtain ⟨rfl, -, rfl⟩ := e0
          have hsj : (intsV (starts k (p + 1)))[j]? = some (.int .i64 s) := by
            unfold intsV
            rw [List.getElem?_map, r1, starts_cons, List.getElem?_append_right (by rw [HDj.out]; exact Nat.le_refl _), HDj.out, Nat.sub_self]; rfl
          have c0 := hcs j _ hsj
          rw [Addr.add_lit, Nat.zero_add] at c0
          have C0 := (HBel.out.cell (p := ⟨g, j, none⟩) hg2).trans c0
          have hrb := HR.out.below HB2.out
          obtain ⟨b', off', cap', e1, hb', -, y0, -, -⟩ := RdNd.at hrb hTk.head.1
          simp only [Value.slice.injEq, Option.some.injEq, Addr.mk.injEq] at e1
          obtain ⟨⟨rfl, rfl, -⟩, -, rfl⟩ := e1
          have hsN : s < N.length := by have := hTk.head.2.2; omega
          have HC : Hid (Calls Try.prog 54 #[.slice (some ⟨b, off, none⟩) N.length cap, .int .i64 s] wr fun e w' => e = .returned (.string (txN y kk.tx)) ∧ Below wr.heap.size wr w') :=
            HIh.out _ N s y kk _ wr (by omega) hrb HX.out hTk
          have htx : k.tx[j]? = some (y.k, txN y kk.tx) := by
            have := congrArg (fun l => l[0]?) r6
            simp only [Fo.tx, List.getElem?_cons_zero, List.getElem?_drop, Nat.add_zero] at this
            exact this.symm
          have hts : (txN y kk.tx).size ≤ 1073741824 := by
            have h1 := HAs.out (j + 1)
            rw [acc_step x k j _ htx] at h1
            have h2 : (txN y kk.tx).size ≤ (brk x.k y.k (txN y kk.tx)).size := by
              unfold brk; split
              · rw [ByteArray.size_append, ByteArray.size_append]; omega
              · exact Nat.le_refl _
            simp only at h1
            split at h1
            · rw [ByteArray.size_append] at h1; omega
            · rw [ByteArray.size_append] at h1; omega
          have HD2 : Hid (N.drop (s + kk.size + 1) = r'.flat ++ R) := by
            unfold Hid
            rw [show s + kk.size + 1 = s + (kk.size + 1) from by omega, ← List.drop_drop, hTk.drop]
            rw [List.drop_append_of_le_length (by rw [Fo.flat_len]; simp [Fo.size])]
            rw [List.drop_eq_nil_of_le (by rw [Fo.flat_len]; simp [Fo.size])]
            rfl
          have HNx : Hid (starts k (p + 1) = (done ++ [s]) ++ starts r' (s + kk.size + 1) ∧ r'.wf ∧ r'.all mayN ∧ r'.size ≤ k.size ∧ r'.tx = k.tx.drop (j + 1)) := by
            refine ⟨by rw [r1, starts_cons]; simp, r3.2.2, r4.2.2, by omega, ?_⟩
            rw [← List.drop_drop, ← r6]; rfl
          have HDj2 : Hid ((done ++ [s]).length = j + 1) := by unfold Hid; rw [List.length_append, HDj.out]; rfl
          have hstep := acc_step x k j _ htx
          simp only at hstep
          rw [HKx.out, show sepK 5 = (⟨#[32, 124, 32]⟩ : ByteArray) from rfl] at hstep
          have hbrk : (y.k = 5 ∧ brk 5 y.k (txN y kk.tx) = (⟨#[40]⟩ : ByteArray) ++ txN y kk.tx ++ (⟨#[41]⟩ : ByteArray)) ∨ (y.k ≠ 5 ∧ y.k = 4 ∧ brk 5 y.k (txN y kk.tx) = txN y kk.tx) ∨ (y.k ≠ 5 ∧ y.k ≠ 4 ∧ brk 5 y.k (txN y kk.tx) = txN y kk.tx) := by
            by_cases h5 : y.k = 5
            · exact .inl ⟨h5, by rw [h5]; rfl⟩
            · by_cases h4 : y.k = 4
              · exact .inr (.inl ⟨h5, h4, by rw [h4]; rfl⟩)
              · refine .inr (.inr ⟨h5, h4, ?_⟩)
                unfold brk brkB
                rw [show (y.k == 5) = false from by simpa using h5, show (y.k == 4) = false from by simpa using h4]; rfl
          have hgw : g < wr.heap.size := by have := HBel.out.size; omega
          have hbw : b < wr.heap.size := hb'
          have HJr := Lib.hid hjr
          have ha1 := HAs.out (j + 1)
          clear hcs hsj c0 hjr r1 r2 r3 r4 r5 r6 hrb hTk htx x0 x1
          generalize txN y kk.tx = ty at *
          generalize hyk : y.k = yk at *
          generalize brk 5 yk ty = bk at *
          generalize hae : accS x k (j + 1) = a1 at *
          generalize haj : accS x k j = aj at *
          have HAj := Lib.hid haj
          have HAe := Lib.hid hae
          have HSt := Lib.hid hstep
          clear haj hae hstep hyk
          rcases hbrk with ⟨t5, rfl⟩ | ⟨t5, t4, rfl⟩ | ⟨t5, t4, rfl⟩
          · have u5 : (yk == 5) = true := by simpa using t5
            have V := trivial
            clear t5 V
            by_cases hj0 : j = 0
            · have HA1 := Lib.hid (HSt.out.trans (if_pos hj0))
              subst hj0
              go_wp2_with (go_at_call 54; refine (HC.out).mono ?_; rintro e w3 ⟨rfl, hb3⟩; have HB3 := Lib.hid hb3; clear hb3)
              have HB4 : Hid (Below w1.heap.size w1 w3) := HBel.out.trans (HB3.out.mono HBel.out.size)
              go_roundw
              case rel => exact ⟨0 + 1, s + kk.size + 1, r', done ++ [s], by go_num, congrArg Value.string (by rw [HAe.out, HA1.out, HAj.out]), HDj2.out, by have := HJr.out; omega, HB4.out, HNx.out.1, HD2.out, HNx.out.2.1, HNx.out.2.2.1, HNx.out.2.2.2.1, HNx.out.2.2.2.2⟩
              case measure => simp [intOf]; omega
            · have HA1 := Lib.hid (HSt.out.trans (if_neg hj0))
              have hjp : 0 < j := by omega
              clear hj0
              go_wp2_with (go_at_call 54; refine (HC.out).mono ?_; rintro e w3 ⟨rfl, hb3⟩; have HB3 := Lib.hid hb3; clear hb3)
              have HB4 : Hid (Below w1.heap.size w1 w3) := HBel.out.trans (HB3.out.mono HBel.out.size)
              go_roundw
              case rel => exact ⟨j + 1, s + kk.size + 1, r', done ++ [s], by go_num, congrArg Value.string (by rw [HAe.out, HA1.out]), HDj2.out, by have := HJr.out; omega, HB4.out, HNx.out.1, HD2.out, HNx.out.2.1, HNx.out.2.2.1, HNx.out.2.2.2.1, HNx.out.2.2.2.2⟩
              case measure => simp [intOf]; omega
          · have u5 : (yk == 5) = false := by simpa using t5
            have u4 : (yk == 4) = true := by simpa using t4
            clear t5 t4
            by_cases hj0 : j = 0
            · have HA1 := Lib.hid (HSt.out.trans (if_pos hj0))
              subst hj0
              go_wp2_with (go_at_call 54; refine (HC.out).mono ?_; rintro e w3 ⟨rfl, hb3⟩; have HB3 := Lib.hid hb3; clear hb3)
              have HB4 : Hid (Below w1.heap.size w1 w3) := HBel.out.trans (HB3.out.mono HBel.out.size)
              go_roundw
              case rel => exact ⟨0 + 1, s + kk.size + 1, r', done ++ [s], by go_num, congrArg Value.string (by rw [HAe.out, HA1.out, HAj.out]), HDj2.out, by have := HJr.out; omega, HB4.out, HNx.out.1, HD2.out, HNx.out.2.1, HNx.out.2.2.1, HNx.out.2.2.2.1, HNx.out.2.2.2.2⟩
              case measure => simp [intOf]; omega
            · have HA1 := Lib.hid (HSt.out.trans (if_neg hj0))
              have hjp : 0 < j := by omega
              clear hj0
              go_wp2_with (go_at_call 54; refine (HC.out).mono ?_; rintro e w3 ⟨rfl, hb3⟩; have HB3 := Lib.hid hb3; clear hb3)
              have HB4 : Hid (Below w1.heap.size w1 w3) := HBel.out.trans (HB3.out.mono HBel.out.size)
              go_roundw
              case rel => exact ⟨j + 1, s + kk.size + 1, r', done ++ [s], by go_num, congrArg Value.string (by rw [HAe.out, HA1.out]), HDj2.out, by have := HJr.out; omega, HB4.out, HNx.out.1, HD2.out, HNx.out.2.1, HNx.out.2.2.1, HNx.out.2.2.2.1, HNx.out.2.2.2.2⟩
              case measure => simp [intOf]; omega
          · have u5 : (yk == 5) = false := by simpa using t5
            have u4 : (yk == 4) = false := by simpa using t4
            clear t5 t4
            by_cases hj0 : j = 0
            · have HA1 := Lib.hid (HSt.out.trans (if_pos hj0))
              subst hj0
              go_wp2_with (go_at_call 54; refine (HC.out).mono ?_; rintro e w3 ⟨rfl, hb3⟩; have HB3 := Lib.hid hb3; clear hb3)
              have HB4 : Hid (Below w1.heap.size w1 w3) := HBel.out.trans (HB3.out.mono HBel.out.size)
              go_roundw
              case rel => exact ⟨0 + 1, s + kk.size + 1, r', done ++ [s], by go_num, congrArg Value.string (by rw [HAe.out, HA1.out, HAj.out]), HDj2.out, by have := HJr.out; omega, HB4.out, HNx.out.1, HD2.out, HNx.out.2.1, HNx.out.2.2.1, HNx.out.2.2.2.1, HNx.out.2.2.2.2⟩
              case measure => simp [intOf]; omega
            · have HA1 := Lib.hid (HSt.out.trans (if_neg hj0))
              have hjp : 0 < j := by omega
              clear hj0
              go_wp2_with (go_at_call 54; refine (HC.out).mono ?_; rintro e w3 ⟨rfl, hb3⟩; have HB3 := Lib.hid hb3; clear hb3)
              have HB4 : Hid (Below w1.heap.size w1 w3) := HBel.out.trans (HB3.out.mono HBel.out.size)
              go_roundw
              case rel => exact ⟨j + 1, s + kk.size + 1, r', done ++ [s], by go_num, congrArg Value.string (by rw [HAe.out, HA1.out]), HDj2.out, by have := HJr.out; omega, HB4.out, HNx.out.1, HD2.out, HNx.out.2.1, HNx.out.2.2.1, HNx.out.2.2.2.1, HNx.out.2.2.2.2⟩
              case measure => simp [intOf]; omega
        · obtain rfl : j = k.len := by omega
          have hsg := signK_size x.k
          have HTy : Hid (signK x.k = signK _) := congrArg signK HKx.out
          generalize accS x k k.len = acc at *
          go_wp2_with fail
          go_ret
          refine ⟨congrArg (fun t => Ending.returned (.string t)) ?_, HB2.out⟩
          rw [HTx.out, HTy.out]
          first | rfl | exact (app_nil _).symm
    · have HKx := Lib.hid hk
      rw [hk] at x0
      clear hk
      go_enter Try.func54, Try.ntmps54
      go_wp2_with fail
      refine (HKd.out).mono ?_
      rintro e w1 ⟨v1, rfl, ho1, hb1⟩
      obtain ⟨ao1, cp1, rfl, hcp⟩ := OwnI.shape ho1
      rw [starts_len] at hcp ⊢
      have HO1 := Lib.hid ho1
      have HB1 := Lib.hid hb1
      clear ho1 hb1 HKd
      go_wp2_with fail
      go_loopw [6, 8] (fun m i wr => ∃ (j s : Nat) (r : Fo) (done : List Nat), i = .int .i64 j ∧ m = .string (accS x k j) ∧ Hid (done.length = j) ∧ j + r.len = k.len ∧ Hid (Below w1.heap.size w1 wr) ∧
        Hid (starts k (p + 1) = done ++ starts r s ∧ N.drop s = r.flat ++ R ∧ r.wf ∧ r.all mayN ∧ r.size ≤ k.size ∧ r.tx = k.tx.drop j)) (fun _ i _ => k.len - (intOf i).toNat)
      case atStart => exact ⟨0, p + 1, k, [], rfl, rfl, rfl, by omega, Below.refl _ _, rfl, HD.out, HT.out.wf.2.1, HT.out.all.2.1, Nat.le_refl _, rfl⟩
      case round =>
        obtain ⟨j, s, r, done, rfl, rfl, HDj, hjr, HBel, HRr⟩ := hrel
        have HB2 : Hid (Below w.heap.size w wr) := HB1.out.trans (HBel.out.mono HB1.out.size)
        have ha0 := HAs.out j
        by_cases hlt : j < k.len
        · obtain ⟨y, kk, r', rfl⟩ : ∃ y kk r', r = Fo.cons y kk r' := by
            cases r with
            | nil => simp [Fo.len] at hjr; omega
            | cons y kk r' => exact ⟨y, kk, r', rfl⟩
          simp only [Fo.len] at hjr
          obtain ⟨r1, r2, r3, r4, r5, r6⟩ := HRr.out
          simp only [Fo.size] at r5
          have hTk : TreeAt N s y kk (r'.flat ++ R) := ⟨by rw [r2]; simp [Fo.flat], ⟨r3.1, r3.2.1, trivial⟩, ⟨r4.1, r4.2.1, trivial⟩⟩
          have HTk := Lib.hid hTk
          obtain ⟨g, gc, e0, hg1, hg2, hg3, hcs⟩ := own_src HO1.out (by rw [starts_len]; omega)
          rw [starts_len] at e0
          simp only [Value.slice.injEq] at e0
          obtain ⟨rfl, -, rfl⟩ := e0
          have hsj : (intsV (starts k (p + 1)))[j]? = some (.int .i64 s) := by
            unfold intsV
            rw [List.getElem?_map, r1, starts_cons, List.getElem?_append_right (by rw [HDj.out]; exact Nat.le_refl _), HDj.out, Nat.sub_self]; rfl
          have c0 := hcs j _ hsj
          rw [Addr.add_lit, Nat.zero_add] at c0
          have C0 := (HBel.out.cell (p := ⟨g, j, none⟩) hg2).trans c0
          have hrb := HR.out.below HB2.out
          obtain ⟨b', off', cap', e1, hb', -, y0, -, -⟩ := RdNd.at hrb hTk.head.1
          simp only [Value.slice.injEq, Option.some.injEq, Addr.mk.injEq] at e1
          obtain ⟨⟨rfl, rfl, -⟩, -, rfl⟩ := e1
          have hsN : s < N.length := by have := hTk.head.2.2; omega
          have HC : Hid (Calls Try.prog 54 #[.slice (some ⟨b, off, none⟩) N.length cap, .int .i64 s] wr fun e w' => e = .returned (.string (txN y kk.tx)) ∧ Below wr.heap.size wr w') :=
            HIh.out _ N s y kk _ wr (by omega) hrb HX.out hTk
          have htx : k.tx[j]? = some (y.k, txN y kk.tx) := by
            have := congrArg (fun l => l[0]?) r6
            simp only [Fo.tx, List.getElem?_cons_zero, List.getElem?_drop, Nat.add_zero] at this
            exact this.symm
          have hts : (txN y kk.tx).size ≤ 1073741824 := by
            have h1 := HAs.out (j + 1)
            rw [acc_step x k j _ htx] at h1
            have h2 : (txN y kk.tx).size ≤ (brk x.k y.k (txN y kk.tx)).size := by
              unfold brk; split
              · rw [ByteArray.size_append, ByteArray.size_append]; omega
              · exact Nat.le_refl _
            simp only at h1
            split at h1
            · rw [ByteArray.size_append] at h1; omega
            · rw [ByteArray.size_append] at h1; omega
          have HD2 : Hid (N.drop (s + kk.size + 1) = r'.flat ++ R) := by
            unfold Hid
            rw [show s + kk.size + 1 = s + (kk.size + 1) from by omega, ← List.drop_drop, hTk.drop]
            rw [List.drop_append_of_le_length (by rw [Fo.flat_len]; simp [Fo.size])]
            rw [List.drop_eq_nil_of_le (by rw [Fo.flat_len]; simp [Fo.size])]
            rfl
          have HNx : Hid (starts k (p + 1) = (done ++ [s]) ++ starts r' (s + kk.size + 1) ∧ r'.wf ∧ r'.all mayN ∧ r'.size ≤ k.size ∧ r'.tx = k.tx.drop (j + 1)) := by
            refine ⟨by rw [r1, starts_cons]; simp, r3.2.2, r4.2.2, by omega, ?_⟩
            rw [← List.drop_drop, ← r6]; rfl
          have HDj2 : Hid ((done ++ [s]).length = j + 1) := by unfold Hid; rw [List.length_append, HDj.out]; rfl
          have hstep := acc_step x k j _ htx
          simp only at hstep
          rw [HKx.out, show sepK 6 = (⟨#[]⟩ : ByteArray) from rfl] at hstep
          have hbrk : (y.k = 5 ∧ brk 6 y.k (txN y kk.tx) = (⟨#[40]⟩ : ByteArray) ++ txN y kk.tx ++ (⟨#[41]⟩ : ByteArray)) ∨ (y.k ≠ 5 ∧ y.k = 4 ∧ brk 6 y.k (txN y kk.tx) = (⟨#[40]⟩ : ByteArray) ++ txN y kk.tx ++ (⟨#[41]⟩ : ByteArray)) ∨ (y.k ≠ 5 ∧ y.k ≠ 4 ∧ brk 6 y.k (txN y kk.tx) = txN y kk.tx) := by
            by_cases h5 : y.k = 5
            · exact .inl ⟨h5, by rw [h5]; rfl⟩
            · by_cases h4 : y.k = 4
              · exact .inr (.inl ⟨h5, h4, by rw [h4]; rfl⟩)
              · refine .inr (.inr ⟨h5, h4, ?_⟩)
                unfold brk brkB
                rw [show (y.k == 5) = false from by simpa using h5, show (y.k == 4) = false from by simpa using h4]; rfl
          have hgw : g < wr.heap.size := by have := HBel.out.size; omega
          have hbw : b < wr.heap.size := hb'
          have HJr := Lib.hid hjr
          have ha1 := HAs.out (j + 1)
          clear hcs hsj c0 hjr r1 r2 r3 r4 r5 r6 hrb hTk htx x0 x1
          generalize txN y kk.tx = ty at *
          generalize hyk : y.k = yk at *
          generalize brk 6 yk ty = bk at *
          generalize hae : accS x k (j + 1) = a1 at *
          generalize haj : accS x k j = aj at *
          have HAj := Lib.hid haj
          have HAe := Lib.hid hae
          have HSt := Lib.hid hstep
          clear haj hae hstep hyk
          rcases hbrk with ⟨t5, rfl⟩ | ⟨t5, t4, rfl⟩ | ⟨t5, t4, rfl⟩
          · have u5 : (yk == 5) = true := by simpa using t5
            have V := trivial
            clear t5 V
            by_cases hj0 : j = 0
            · have HA1 := Lib.hid (HSt.out.trans (if_pos hj0))
              subst hj0
              go_wp2_with (go_at_call 54; refine (HC.out).mono ?_; rintro e w3 ⟨rfl, hb3⟩; have HB3 := Lib.hid hb3; clear hb3)
              have HB4 : Hid (Below w1.heap.size w1 w3) := HBel.out.trans (HB3.out.mono HBel.out.size)
              go_roundw
              case rel => exact ⟨0 + 1, s + kk.size + 1, r', done ++ [s], by go_num, congrArg Value.string (by rw [HAe.out, HA1.out, HAj.out]), HDj2.out, by have := HJr.out; omega, HB4.out, HNx.out.1, HD2.out, HNx.out.2.1, HNx.out.2.2.1, HNx.out.2.2.2.1, HNx.out.2.2.2.2⟩
              case measure => simp [intOf]; omega
            · have HA1 := Lib.hid (HSt.out.trans (if_neg hj0))
              have hjp : 0 < j := by omega
              clear hj0
              go_wp2_with (go_at_call 54; refine (HC.out).mono ?_; rintro e w3 ⟨rfl, hb3⟩; have HB3 := Lib.hid hb3; clear hb3)
              have HB4 : Hid (Below w1.heap.size w1 w3) := HBel.out.trans (HB3.out.mono HBel.out.size)
              go_roundw
              case rel => exact ⟨j + 1, s + kk.size + 1, r', done ++ [s], by go_num, congrArg Value.string (by rw [HAe.out, HA1.out, app_nil]), HDj2.out, by have := HJr.out; omega, HB4.out, HNx.out.1, HD2.out, HNx.out.2.1, HNx.out.2.2.1, HNx.out.2.2.2.1, HNx.out.2.2.2.2⟩
              case measure => simp [intOf]; omega
          · have u5 : (yk == 5) = false := by simpa using t5
            have u4 : (yk == 4) = true := by simpa using t4
            clear t5 t4
            by_cases hj0 : j = 0
            · have HA1 := Lib.hid (HSt.out.trans (if_pos hj0))
              subst hj0
              go_wp2_with (go_at_call 54; refine (HC.out).mono ?_; rintro e w3 ⟨rfl, hb3⟩; have HB3 := Lib.hid hb3; clear hb3)
              have HB4 : Hid (Below w1.heap.size w1 w3) := HBel.out.trans (HB3.out.mono HBel.out.size)
              go_roundw
              case rel => exact ⟨0 + 1, s + kk.size + 1, r', done ++ [s], by go_num, congrArg Value.string (by rw [HAe.out, HA1.out, HAj.out]), HDj2.out, by have := HJr.out; omega, HB4.out, HNx.out.1, HD2.out, HNx.out.2.1, HNx.out.2.2.1, HNx.out.2.2.2.1, HNx.out.2.2.2.2⟩
              case measure => simp [intOf]; omega
            · have HA1 := Lib.hid (HSt.out.trans (if_neg hj0))
              have hjp : 0 < j := by omega
              clear hj0
              go_wp2_with (go_at_call 54; refine (HC.out).mono ?_; rintro e w3 ⟨rfl, hb3⟩; have HB3 := Lib.hid hb3; clear hb3)
              have HB4 : Hid (Below w1.heap.size w1 w3) := HBel.out.trans (HB3.out.mono HBel.out.size)
              go_roundw
              case rel => exact ⟨j + 1, s + kk.size + 1, r', done ++ [s], by go_num, congrArg Value.string (by rw [HAe.out, HA1.out, app_nil]), HDj2.out, by have := HJr.out; omega, HB4.out, HNx.out.1, HD2.out, HNx.out.2.1, HNx.out.2.2.1, HNx.out.2.2.2.1, HNx.out.2.2.2.2⟩
              case measure => simp [intOf]; omega
          · have u5 : (yk == 5) = false := by simpa using t5
            have u4 : (yk == 4) = false := by simpa using t4
            clear t5 t4
            by_cases hj0 : j = 0
            · have HA1 := Lib.hid (HSt.out.trans (if_pos hj0))
              subst hj0
              go_wp2_with (go_at_call 54; refine (HC.out).mono ?_; rintro e w3 ⟨rfl, hb3⟩; have HB3 := Lib.hid hb3; clear hb3)
              have HB4 : Hid (Below w1.heap.size w1 w3) := HBel.out.trans (HB3.out.mono HBel.out.size)
              go_roundw
              case rel => exact ⟨0 + 1, s + kk.size + 1, r', done ++ [s], by go_num, congrArg Value.string (by rw [HAe.out, HA1.out, HAj.out]), HDj2.out, by have := HJr.out; omega, HB4.out, HNx.out.1, HD2.out, HNx.out.2.1, HNx.out.2.2.1, HNx.out.2.2.2.1, HNx.out.2.2.2.2⟩
              case measure => simp [intOf]; omega
            · have HA1 := Lib.hid (HSt.out.trans (if_neg hj0))
              have hjp : 0 < j := by omega
              clear hj0
              go_wp2_with (go_at_call 54; refine (HC.out).mono ?_; rintro e w3 ⟨rfl, hb3⟩; have HB3 := Lib.hid hb3; clear hb3)
              have HB4 : Hid (Below w1.heap.size w1 w3) := HBel.out.trans (HB3.out.mono HBel.out.size)
              go_roundw
              case rel => exact ⟨j + 1, s + kk.size + 1, r', done ++ [s], by go_num, congrArg Value.string (by rw [HAe.out, HA1.out, app_nil]), HDj2.out, by have := HJr.out; omega, HB4.out, HNx.out.1, HD2.out, HNx.out.2.1, HNx.out.2.2.1, HNx.out.2.2.2.1, HNx.out.2.2.2.2⟩
              case measure => simp [intOf]; omega
        · obtain rfl : j = k.len := by omega
          have hsg := signK_size x.k
          have HTy : Hid (signK x.k = signK _) := congrArg signK HKx.out
          generalize accS x k k.len = acc at *
          go_wp2_with fail
          go_ret
          refine ⟨congrArg (fun t => Ending.returned (.string t)) ?_, HB2.out⟩
          rw [HTx.out, HTy.out]
          first | rfl | exact (app_nil _).symm
    · have HKx := Lib.hid hk
      rw [hk] at x0
      clear hk
      go_enter Try.func54, Try.ntmps54
      go_wp2_with fail
      refine (HKd.out).mono ?_
      rintro e w1 ⟨v1, rfl, ho1, hb1⟩
      obtain ⟨ao1, cp1, rfl, hcp⟩ := OwnI.shape ho1
      rw [starts_len] at hcp ⊢
      have HO1 := Lib.hid ho1
      have HB1 := Lib.hid hb1
      clear ho1 hb1 HKd
      go_wp2_with fail
      go_loopw [6, 8] (fun m i wr => ∃ (j s : Nat) (r : Fo) (done : List Nat), i = .int .i64 j ∧ m = .string (accS x k j) ∧ Hid (done.length = j) ∧ j + r.len = k.len ∧ Hid (Below w1.heap.size w1 wr) ∧
        Hid (starts k (p + 1) = done ++ starts r s ∧ N.drop s = r.flat ++ R ∧ r.wf ∧ r.all mayN ∧ r.size ≤ k.size ∧ r.tx = k.tx.drop j)) (fun _ i _ => k.len - (intOf i).toNat)
      case atStart => exact ⟨0, p + 1, k, [], rfl, rfl, rfl, by omega, Below.refl _ _, rfl, HD.out, HT.out.wf.2.1, HT.out.all.2.1, Nat.le_refl _, rfl⟩
      case round =>
        obtain ⟨j, s, r, done, rfl, rfl, HDj, hjr, HBel, HRr⟩ := hrel
        have HB2 : Hid (Below w.heap.size w wr) := HB1.out.trans (HBel.out.mono HB1.out.size)
        have ha0 := HAs.out j
        by_cases hlt : j < k.len
        · obtain ⟨y, kk, r', rfl⟩ : ∃ y kk r', r = Fo.cons y kk r' := by
            cases r with
            | nil => simp [Fo.len] at hjr; omega
            | cons y kk r' => exact ⟨y, kk, r', rfl⟩
          simp only [Fo.len] at hjr
          obtain ⟨r1, r2, r3, r4, r5, r6⟩ := HRr.out
          simp only [Fo.size] at r5
          have hTk : TreeAt N s y kk (r'.flat ++ R) := ⟨by rw [r2]; simp [Fo.flat], ⟨r3.1, r3.2.1, trivial⟩, ⟨r4.1, r4.2.1, trivial⟩⟩
          have HTk := Lib.hid hTk
          obtain ⟨g, gc, e0, hg1, hg2, hg3, hcs⟩ := own_src HO1.out (by rw [starts_len]; omega)
          rw [starts_len] at e0
          simp only [Value.slice.injEq] at e0
          obtain ⟨rfl, -, rfl⟩ := e0
          have hsj : (intsV (starts k (p + 1)))[j]? = some (.int .i64 s) := by
            unfold intsV
            rw [List.getElem?_map, r1, starts_cons, List.getElem?_append_right (by rw [HDj.out]; exact Nat.le_refl _), HDj.out, Nat.sub_self]; rfl
          have c0 := hcs j _ hsj
          rw [Addr.add_lit, Nat.zero_add] at c0
          have C0 := (HBel.out.cell (p := ⟨g, j, none⟩) hg2).trans c0
          have hrb := HR.out.below HB2.out
          obtain ⟨b', off', cap', e1, hb', -, y0, -, -⟩ := RdNd.at hrb hTk.head.1
          simp only [Value.slice.injEq, Option.some.injEq, Addr.mk.injEq] at e1
          obtain ⟨⟨rfl, rfl, -⟩, -, rfl⟩ := e1
          have hsN : s < N.length := by have := hTk.head.2.2; omega
          have HC : Hid (Calls Try.prog 54 #[.slice (some ⟨b, off, none⟩) N.length cap, .int .i64 s] wr fun e w' => e = .returned (.string (txN y kk.tx)) ∧ Below wr.heap.size wr w') :=
            HIh.out _ N s y kk _ wr (by omega) hrb HX.out hTk
          have htx : k.tx[j]? = some (y.k, txN y kk.tx) := by
            have := congrArg (fun l => l[0]?) r6
            simp only [Fo.tx, List.getElem?_cons_zero, List.getElem?_drop, Nat.add_zero] at this
            exact this.symm
          have hts : (txN y kk.tx).size ≤ 1073741824 := by
            have h1 := HAs.out (j + 1)
            rw [acc_step x k j _ htx] at h1
            have h2 : (txN y kk.tx).size ≤ (brk x.k y.k (txN y kk.tx)).size := by
              unfold brk; split
              · rw [ByteArray.size_append, ByteArray.size_append]; omega
              · exact Nat.le_refl _
            simp only at h1
            split at h1
            · rw [ByteArray.size_append] at h1; omega
            · rw [ByteArray.size_append] at h1; omega
          have HD2 : Hid (N.drop (s + kk.size + 1) = r'.flat ++ R) := by
            unfold Hid
            rw [show s + kk.size + 1 = s + (kk.size + 1) from by omega, ← List.drop_drop, hTk.drop]
            rw [List.drop_append_of_le_length (by rw [Fo.flat_len]; simp [Fo.size])]
            rw [List.drop_eq_nil_of_le (by rw [Fo.flat_len]; simp [Fo.size])]
            rfl
          have HNx : Hid (starts k (p + 1) = (done ++ [s]) ++ starts r' (s + kk.size + 1) ∧ r'.wf ∧ r'.all mayN ∧ r'.size ≤ k.size ∧ r'.tx = k.tx.drop (j + 1)) := by
            refine ⟨by rw [r1, starts_cons]; simp, r3.2.2, r4.2.2, by omega, ?_⟩
            rw [← List.drop_drop, ← r6]; rfl
          have HDj2 : Hid ((done ++ [s]).length = j + 1) := by unfold Hid; rw [List.length_append, HDj.out]; rfl
          have hstep := acc_step x k j _ htx
          simp only at hstep
          rw [HKx.out, show sepK 7 = (⟨#[]⟩ : ByteArray) from rfl] at hstep
          have hbrk : (y.k = 5 ∧ brk 7 y.k (txN y kk.tx) = (⟨#[40]⟩ : ByteArray) ++ txN y kk.tx ++ (⟨#[41]⟩ : ByteArray)) ∨ (y.k ≠ 5 ∧ y.k = 4 ∧ brk 7 y.k (txN y kk.tx) = (⟨#[40]⟩ : ByteArray) ++ txN y kk.tx ++ (⟨#[41]⟩ : ByteArray)) ∨ (y.k ≠ 5 ∧ y.k ≠ 4 ∧ brk 7 y.k (txN y kk.tx) = txN y kk.tx) := by
            by_cases h5 : y.k = 5
            · exact .inl ⟨h5, by rw [h5]; rfl⟩
            · by_cases h4 : y.k = 4
              · exact .inr (.inl ⟨h5, h4, by rw [h4]; rfl⟩)
              · refine .inr (.inr ⟨h5, h4, ?_⟩)
                unfold brk brkB
                rw [show (y.k == 5) = false from by simpa using h5, show (y.k == 4) = false from by simpa using h4]; rfl
          have hgw : g < wr.heap.size := by have := HBel.out.size; omega
          have hbw : b < wr.heap.size := hb'
          have HJr := Lib.hid hjr
          have ha1 := HAs.out (j + 1)
          clear hcs hsj c0 hjr r1 r2 r3 r4 r5 r6 hrb hTk htx x0 x1
          generalize txN y kk.tx = ty at *
          generalize hyk : y.k = yk at *
          generalize brk 7 yk ty = bk at *
          generalize hae : accS x k (j + 1) = a1 at *
          generalize haj : accS x k j = aj at *
          have HAj := Lib.hid haj
          have HAe := Lib.hid hae
          have HSt := Lib.hid hstep
          clear haj hae hstep hyk
          rcases hbrk with ⟨t5, rfl⟩ | ⟨t5, t4, rfl⟩ | ⟨t5, t4, rfl⟩
          · have u5 : (yk == 5) = true := by simpa using t5
            have V := trivial
            clear t5 V
            by_cases hj0 : j = 0
            · have HA1 := Lib.hid (HSt.out.trans (if_pos hj0))
              subst hj0
              go_wp2_with (go_at_call 54; refine (HC.out).mono ?_; rintro e w3 ⟨rfl, hb3⟩; have HB3 := Lib.hid hb3; clear hb3)
              have HB4 : Hid (Below w1.heap.size w1 w3) := HBel.out.trans (HB3.out.mono HBel.out.size)
              go_roundw
              case rel => exact ⟨0 + 1, s + kk.size + 1, r', done ++ [s], by go_num, congrArg Value.string (by rw [HAe.out, HA1.out, HAj.out]), HDj2.out, by have := HJr.out; omega, HB4.out, HNx.out.1, HD2.out, HNx.out.2.1, HNx.out.2.2.1, HNx.out.2.2.2.1, HNx.out.2.2.2.2⟩
              case measure => simp [intOf]; omega
            · have HA1 := Lib.hid (HSt.out.trans (if_neg hj0))
              have hjp : 0 < j := by omega
              clear hj0
              go_wp2_with (go_at_call 54; refine (HC.out).mono ?_; rintro e w3 ⟨rfl, hb3⟩; have HB3 := Lib.hid hb3; clear hb3)
              have HB4 : Hid (Below w1.heap.size w1 w3) := HBel.out.trans (HB3.out.mono HBel.out.size)
              go_roundw
              case rel => exact ⟨j + 1, s + kk.size + 1, r', done ++ [s], by go_num, congrArg Value.string (by rw [HAe.out, HA1.out, app_nil]), HDj2.out, by have := HJr.out; omega, HB4.out, HNx.out.1, HD2.out, HNx.out.2.1, HNx.out.2.2.1, HNx.out.2.2.2.1, HNx.out.2.2.2.2⟩
              case measure => simp [intOf]; omega
          · have u5 : (yk == 5) = false := by simpa using t5
            have u4 : (yk == 4) = true := by simpa using t4
            clear t5 t4
            by_cases hj0 : j = 0
            · have HA1 := Lib.hid (HSt.out.trans (if_pos hj0))
              subst hj0
              go_wp2_with (go_at_call 54; refine (HC.out).mono ?_; rintro e w3 ⟨rfl, hb3⟩; have HB3 := Lib.hid hb3; clear hb3)
              have HB4 : Hid (Below w1.heap.size w1 w3) := HBel.out.trans (HB3.out.mono HBel.out.size)
              go_roundw
              case rel => exact ⟨0 + 1, s + kk.size + 1, r', done ++ [s], by go_num, congrArg Value.string (by rw [HAe.out, HA1.out, HAj.out]), HDj2.out, by have := HJr.out; omega, HB4.out, HNx.out.1, HD2.out, HNx.out.2.1, HNx.out.2.2.1, HNx.out.2.2.2.1, HNx.out.2.2.2.2⟩
              case measure => simp [intOf]; omega
            · have HA1 := Lib.hid (HSt.out.trans (if_neg hj0))
              have hjp : 0 < j := by omega
              clear hj0
              go_wp2_with (go_at_call 54; refine (HC.out).mono ?_; rintro e w3 ⟨rfl, hb3⟩; have HB3 := Lib.hid hb3; clear hb3)
              have HB4 : Hid (Below w1.heap.size w1 w3) := HBel.out.trans (HB3.out.mono HBel.out.size)
              go_roundw
              case rel => exact ⟨j + 1, s + kk.size + 1, r', done ++ [s], by go_num, congrArg Value.string (by rw [HAe.out, HA1.out, app_nil]), HDj2.out, by have := HJr.out; omega, HB4.out, HNx.out.1, HD2.out, HNx.out.2.1, HNx.out.2.2.1, HNx.out.2.2.2.1, HNx.out.2.2.2.2⟩
              case measure => simp [intOf]; omega
          · have u5 : (yk == 5) = false := by simpa using t5
            have u4 : (yk == 4) = false := by simpa using t4
            clear t5 t4
            by_cases hj0 : j = 0
            · have HA1 := Lib.hid (HSt.out.trans (if_pos hj0))
              subst hj0
              go_wp2_with (go_at_call 54; refine (HC.out).mono ?_; rintro e w3 ⟨rfl, hb3⟩; have HB3 := Lib.hid hb3; clear hb3)
              have HB4 : Hid (Below w1.heap.size w1 w3) := HBel.out.trans (HB3.out.mono HBel.out.size)
              go_roundw
              case rel => exact ⟨0 + 1, s + kk.size + 1, r', done ++ [s], by go_num, congrArg Value.string (by rw [HAe.out, HA1.out, HAj.out]), HDj2.out, by have := HJr.out; omega, HB4.out, HNx.out.1, HD2.out, HNx.out.2.1, HNx.out.2.2.1, HNx.out.2.2.2.1, HNx.out.2.2.2.2⟩
              case measure => simp [intOf]; omega
            · have HA1 := Lib.hid (HSt.out.trans (if_neg hj0))
              have hjp : 0 < j := by omega
              clear hj0
              go_wp2_with (go_at_call 54; refine (HC.out).mono ?_; rintro e w3 ⟨rfl, hb3⟩; have HB3 := Lib.hid hb3; clear hb3)
              have HB4 : Hid (Below w1.heap.size w1 w3) := HBel.out.trans (HB3.out.mono HBel.out.size)
              go_roundw
              case rel => exact ⟨j + 1, s + kk.size + 1, r', done ++ [s], by go_num, congrArg Value.string (by rw [HAe.out, HA1.out, app_nil]), HDj2.out, by have := HJr.out; omega, HB4.out, HNx.out.1, HD2.out, HNx.out.2.1, HNx.out.2.2.1, HNx.out.2.2.2.1, HNx.out.2.2.2.2⟩
              case measure => simp [intOf]; omega
        · obtain rfl : j = k.len := by omega
          have hsg := signK_size x.k
          have HTy : Hid (signK x.k = signK _) := congrArg signK HKx.out
          generalize accS x k k.len = acc at *
          go_wp2_with fail
          go_ret
          refine ⟨congrArg (fun t => Ending.returned (.string t)) ?_, HB2.out⟩
          rw [HTx.out, HTy.out]
          first | rfl | exact (app_nil _).symm
    · have HKx := Lib.hid hk
      rw [hk] at x0
      clear hk
      go_enter Try.func54, Try.ntmps54
      go_wp2_with fail
      refine (HKd.out).mono ?_
      rintro e w1 ⟨v1, rfl, ho1, hb1⟩
      obtain ⟨ao1, cp1, rfl, hcp⟩ := OwnI.shape ho1
      rw [starts_len] at hcp ⊢
      have HO1 := Lib.hid ho1
      have HB1 := Lib.hid hb1
      clear ho1 hb1 HKd
      go_wp2_with fail
      go_loopw [6, 8] (fun m i wr => ∃ (j s : Nat) (r : Fo) (done : List Nat), i = .int .i64 j ∧ m = .string (accS x k j) ∧ Hid (done.length = j) ∧ j + r.len = k.len ∧ Hid (Below w1.heap.size w1 wr) ∧
        Hid (starts k (p + 1) = done ++ starts r s ∧ N.drop s = r.flat ++ R ∧ r.wf ∧ r.all mayN ∧ r.size ≤ k.size ∧ r.tx = k.tx.drop j)) (fun _ i _ => k.len - (intOf i).toNat)
      case atStart => exact ⟨0, p + 1, k, [], rfl, rfl, rfl, by omega, Below.refl _ _, rfl, HD.out, HT.out.wf.2.1, HT.out.all.2.1, Nat.le_refl _, rfl⟩
      case round =>
        obtain ⟨j, s, r, done, rfl, rfl, HDj, hjr, HBel, HRr⟩ := hrel
        have HB2 : Hid (Below w.heap.size w wr) := HB1.out.trans (HBel.out.mono HB1.out.size)
        have ha0 := HAs.out j
        by_cases hlt : j < k.len
        · obtain ⟨y, kk, r', rfl⟩ : ∃ y kk r', r = Fo.cons y kk r' := by
            cases r with
            | nil => simp [Fo.len] at hjr; omega
            | cons y kk r' => exact ⟨y, kk, r', rfl⟩
          simp only [Fo.len] at hjr
          obtain ⟨r1, r2, r3, r4, r5, r6⟩ := HRr.out
          simp only [Fo.size] at r5
          have hTk : TreeAt N s y kk (r'.flat ++ R) := ⟨by rw [r2]; simp [Fo.flat], ⟨r3.1, r3.2.1, trivial⟩, ⟨r4.1, r4.2.1, trivial⟩⟩
          have HTk := Lib.hid hTk
          obtain ⟨g, gc, e0, hg1, hg2, hg3, hcs⟩ := own_src HO1.out (by rw [starts_len]; omega)
          rw [starts_len] at e0
          simp only [Value.slice.injEq] at e0
          obtain ⟨rfl, -, rfl⟩ := e0
          have hsj : (intsV (starts k (p + 1)))[j]? = some (.int .i64 s) := by
            unfold intsV
            rw [List.getElem?_map, r1, starts_cons, List.getElem?_append_right (by rw [HDj.out]; exact Nat.le_refl _), HDj.out, Nat.sub_self]; rfl
          have c0 := hcs j _ hsj
          rw [Addr.add_lit, Nat.zero_add] at c0
          have C0 := (HBel.out.cell (p := ⟨g, j, none⟩) hg2).trans c0
          have hrb := HR.out.below HB2.out
          obtain ⟨b', off', cap', e1, hb', -, y0, -, -⟩ := RdNd.at hrb hTk.head.1
          simp only [Value.slice.injEq, Option.some.injEq, Addr.mk.injEq] at e1
          obtain ⟨⟨rfl, rfl, -⟩, -, rfl⟩ := e1
          have hsN : s < N.length := by have := hTk.head.2.2; omega
          have HC : Hid (Calls Try.prog 54 #[.slice (some ⟨b, off, none⟩) N.length cap, .int .i64 s] wr fun e w' => e = .returned (.string (txN y kk.tx)) ∧ Below wr.heap.size wr w') :=
            HIh.out _ N s y kk _ wr (by omega) hrb HX.out hTk
          have htx : k.tx[j]? = some (y.k, txN y kk.tx) := by
            have := congrArg (fun l => l[0]?) r6
            simp only [Fo.tx, List.getElem?_cons_zero, List.getElem?_drop, Nat.add_zero] at this
            exact this.symm
          have hts : (txN y kk.tx).size ≤ 1073741824 := by
            have h1 := HAs.out (j + 1)
            rw [acc_step x k j _ htx] at h1
            have h2 : (txN y kk.tx).size ≤ (brk x.k y.k (txN y kk.tx)).size := by
              unfold brk; split
              · rw [ByteArray.size_append, ByteArray.size_append]; omega
              · exact Nat.le_refl _
            simp only at h1
            split at h1
            · rw [ByteArray.size_append] at h1; omega
            · rw [ByteArray.size_append] at h1; omega
          have HD2 : Hid (N.drop (s + kk.size + 1) = r'.flat ++ R) := by
            unfold Hid
            rw [show s + kk.size + 1 = s + (kk.size + 1) from by omega, ← List.drop_drop, hTk.drop]
            rw [List.drop_append_of_le_length (by rw [Fo.flat_len]; simp [Fo.size])]
            rw [List.drop_eq_nil_of_le (by rw [Fo.flat_len]; simp [Fo.size])]
            rfl
          have HNx : Hid (starts k (p + 1) = (done ++ [s]) ++ starts r' (s + kk.size + 1) ∧ r'.wf ∧ r'.all mayN ∧ r'.size ≤ k.size ∧ r'.tx = k.tx.drop (j + 1)) := by
            refine ⟨by rw [r1, starts_cons]; simp, r3.2.2, r4.2.2, by omega, ?_⟩
            rw [← List.drop_drop, ← r6]; rfl
          have HDj2 : Hid ((done ++ [s]).length = j + 1) := by unfold Hid; rw [List.length_append, HDj.out]; rfl
          have hstep := acc_step x k j _ htx
          simp only at hstep
          rw [HKx.out, show sepK 8 = (⟨#[]⟩ : ByteArray) from rfl] at hstep
          have hbrk : (y.k = 5 ∧ brk 8 y.k (txN y kk.tx) = (⟨#[40]⟩ : ByteArray) ++ txN y kk.tx ++ (⟨#[41]⟩ : ByteArray)) ∨ (y.k ≠ 5 ∧ y.k = 4 ∧ brk 8 y.k (txN y kk.tx) = (⟨#[40]⟩ : ByteArray) ++ txN y kk.tx ++ (⟨#[41]⟩ : ByteArray)) ∨ (y.k ≠ 5 ∧ y.k ≠ 4 ∧ brk 8 y.k (txN y kk.tx) = txN y kk.tx) := by
            by_cases h5 : y.k = 5
            · exact .inl ⟨h5, by rw [h5]; rfl⟩
            · by_cases h4 : y.k = 4
              · exact .inr (.inl ⟨h5, h4, by rw [h4]; rfl⟩)
              · refine .inr (.inr ⟨h5, h4, ?_⟩)
                unfold brk brkB
                rw [show (y.k == 5) = false from by simpa using h5, show (y.k == 4) = false from by simpa using h4]; rfl
          have hgw : g < wr.heap.size := by have := HBel.out.size; omega
          have hbw : b < wr.heap.size := hb'
          have HJr := Lib.hid hjr
          have ha1 := HAs.out (j + 1)
          clear hcs hsj c0 hjr r1 r2 r3 r4 r5 r6 hrb hTk htx x0 x1
          generalize txN y kk.tx = ty at *
          generalize hyk : y.k = yk at *
          generalize brk 8 yk ty = bk at *
          generalize hae : accS x k (j + 1) = a1 at *
          generalize haj : accS x k j = aj at *
          have HAj := Lib.hid haj
          have HAe := Lib.hid hae
          have HSt := Lib.hid hstep
          clear haj hae hstep hyk
          rcases hbrk with ⟨t5, rfl⟩ | ⟨t5, t4, rfl⟩ | ⟨t5, t4, rfl⟩
          · have u5 : (yk == 5) = true := by simpa using t5
            have V := trivial
            clear t5 V
            by_cases hj0 : j = 0
            · have HA1 := Lib.hid (HSt.out.trans (if_pos hj0))
              subst hj0
              go_wp2_with (go_at_call 54; refine (HC.out).mono ?_; rintro e w3 ⟨rfl, hb3⟩; have HB3 := Lib.hid hb3; clear hb3)
              have HB4 : Hid (Below w1.heap.size w1 w3) := HBel.out.trans (HB3.out.mono HBel.out.size)
              go_roundw
              case rel => exact ⟨0 + 1, s + kk.size + 1, r', done ++ [s], by go_num, congrArg Value.string (by rw [HAe.out, HA1.out, HAj.out]), HDj2.out, by have := HJr.out; omega, HB4.out, HNx.out.1, HD2.out, HNx.out.2.1, HNx.out.2.2.1, HNx.out.2.2.2.1, HNx.out.2.2.2.2⟩
              case measure => simp [intOf]; omega
            · have HA1 := Lib.hid (HSt.out.trans (if_neg hj0))
              have hjp : 0 < j := by omega
              clear hj0
              go_wp2_with (go_at_call 54; refine (HC.out).mono ?_; rintro e w3 ⟨rfl, hb3⟩; have HB3 := Lib.hid hb3; clear hb3)
              have HB4 : Hid (Below w1.heap.size w1 w3) := HBel.out.trans (HB3.out.mono HBel.out.size)
              go_roundw
              case rel => exact ⟨j + 1, s + kk.size + 1, r', done ++ [s], by go_num, congrArg Value.string (by rw [HAe.out, HA1.out, app_nil]), HDj2.out, by have := HJr.out; omega, HB4.out, HNx.out.1, HD2.out, HNx.out.2.1, HNx.out.2.2.1, HNx.out.2.2.2.1, HNx.out.2.2.2.2⟩
              case measure => simp [intOf]; omega
          · have u5 : (yk == 5) = false := by simpa using t5
            have u4 : (yk == 4) = true := by simpa using t4
            clear t5 t4
            by_cases hj0 : j = 0
            · have HA1 := Lib.hid (HSt.out.trans (if_pos hj0))
              subst hj0
              go_wp2_with (go_at_call 54; refine (HC.out).mono ?_; rintro e w3 ⟨rfl, hb3⟩; have HB3 := Lib.hid hb3; clear hb3)
              have HB4 : Hid (Below w1.heap.size w1 w3) := HBel.out.trans (HB3.out.mono HBel.out.size)
              go_roundw
              case rel => exact ⟨0 + 1, s + kk.size + 1, r', done ++ [s], by go_num, congrArg Value.string (by rw [HAe.out, HA1.out, HAj.out]), HDj2.out, by have := HJr.out; omega, HB4.out, HNx.out.1, HD2.out, HNx.out.2.1, HNx.out.2.2.1, HNx.out.2.2.2.1, HNx.out.2.2.2.2⟩
              case measure => simp [intOf]; omega
            · have HA1 := Lib.hid (HSt.out.trans (if_neg hj0))
              have hjp : 0 < j := by omega
              clear hj0
              go_wp2_with (go_at_call 54; refine (HC.out).mono ?_; rintro e w3 ⟨rfl, hb3⟩; have HB3 := Lib.hid hb3; clear hb3)
              have HB4 : Hid (Below w1.heap.size w1 w3) := HBel.out.trans (HB3.out.mono HBel.out.size)
              go_roundw
              case rel => exact ⟨j + 1, s + kk.size + 1, r', done ++ [s], by go_num, congrArg Value.string (by rw [HAe.out, HA1.out, app_nil]), HDj2.out, by have := HJr.out; omega, HB4.out, HNx.out.1, HD2.out, HNx.out.2.1, HNx.out.2.2.1, HNx.out.2.2.2.1, HNx.out.2.2.2.2⟩
              case measure => simp [intOf]; omega
          · have u5 : (yk == 5) = false := by simpa using t5
            have u4 : (yk == 4) = false := by simpa using t4
            clear t5 t4
            by_cases hj0 : j = 0
            · have HA1 := Lib.hid (HSt.out.trans (if_pos hj0))
              subst hj0
              go_wp2_with (go_at_call 54; refine (HC.out).mono ?_; rintro e w3 ⟨rfl, hb3⟩; have HB3 := Lib.hid hb3; clear hb3)
              have HB4 : Hid (Below w1.heap.size w1 w3) := HBel.out.trans (HB3.out.mono HBel.out.size)
              go_roundw
              case rel => exact ⟨0 + 1, s + kk.size + 1, r', done ++ [s], by go_num, congrArg Value.string (by rw [HAe.out, HA1.out, HAj.out]), HDj2.out, by have := HJr.out; omega, HB4.out, HNx.out.1, HD2.out, HNx.out.2.1, HNx.out.2.2.1, HNx.out.2.2.2.1, HNx.out.2.2.2.2⟩
              case measure => simp [intOf]; omega
            · have HA1 := Lib.hid (HSt.out.trans (if_neg hj0))
              have hjp : 0 < j := by omega
              clear hj0
              go_wp2_with (go_at_call 54; refine (HC.out).mono ?_; rintro e w3 ⟨rfl, hb3⟩; have HB3 := Lib.hid hb3; clear hb3)
              have HB4 : Hid (Below w1.heap.size w1 w3) := HBel.out.trans (HB3.out.mono HBel.out.size)
              go_roundw
              case rel => exact ⟨j + 1, s + kk.size + 1, r', done ++ [s], by go_num, congrArg Value.string (by rw [HAe.out, HA1.out, app_nil]), HDj2.out, by have := HJr.out; omega, HB4.out, HNx.out.1, HD2.out, HNx.out.2.1, HNx.out.2.2.1, HNx.out.2.2.2.1, HNx.out.2.2.2.2⟩
              case measure => simp [intOf]; omega
        · obtain rfl : j = k.len := by omega
          have hsg := signK_size x.k
          have HTy : Hid (signK x.k = signK _) := congrArg signK HKx.out
          generalize accS x k k.len = acc at *
          go_wp2_with fail
          go_ret
          refine ⟨congrArg (fun t => Ending.returned (.string t)) ?_, HB2.out⟩
          rw [HTx.out, HTy.out]
          first | rfl | exact (app_nil _).symm
theorem rText_all : ∀ n, TxOk n
  | 0 => fun v N p x k R w hk => by omega
  | n + 1 => rText_step n (rText_all n)
end Go.Proofs.Ytbpipnjdfmpbdaa
