/- The walks and facts that the laws lean on, part 3. No condition of its own: each theorem tells its own. -/
import Derived.Test.YtkmjmfcanlknjaaGreatPk2
import Derived.Shelf.Strings.Builder1
import Derived.Shelf.Strings.Builder2
import Derived.Shelf.Strings.OnBuilder
import Derived.Shelf.Utf8.RuneCount
import Derived.Shelf.Strings.Search1
import Derived.Shelf.Strings.Search2
import Derived.Shelf.Strings.Search3
import Derived.Shelf.Strings.Count
import Derived.Shelf.LaysM
import Derived.Shelf.Strings.Shaped
import Derived.Shelf.Strings.LastIndex
import Derived.Shelf.Strings.Split
import Derived.Shelf.Strings.RuneCount
import Derived.Test.YtkmjmfcanlknjaaGreatProg
import Derived.Deep.RegionHeld3
import Derived.Deep.DeepCutAuto
import Derived.Shelf.SlicesE.Clone
namespace Go.Proofs.YtkmjmfcanlknjaaGreat
open Go.RowKit Go.Shelf

theorem join_snoc (sep : List UInt8) (l : List (List UInt8)) (x : List UInt8) : Lib.join (l ++ [x]) sep = if l = [] then x else Lib.join l sep ++ (sep ++ x) := by
  cases l with
  | nil => simp [Lib.join_one]
  | cons y r => rw [if_neg (by simp), List.cons_append, Lib.join_cons, Lib.join_cons]; simp [Lib.joinTail]
theorem joinS_snoc (sep : ByteArray) (l : List ByteArray) (x : ByteArray) : joinS sep (l ++ [x]) = if l = [] then x else joinS sep l ++ sep ++ x := by
  unfold joinS
  rw [List.map_append, List.map_cons, List.map_nil, join_snoc]
  cases l with
  | nil => simp
  | cons y r =>
    rw [if_neg (by simp), if_neg (by simp)]
    apply ByteArray.ext
    simp [ByteArray.data_append]
def accS (x : Nd) (k : Fo) (j : Nat) : ByteArray := x.n ++ joinS (sepK x.k) ((k.tx.take j).map fun p => brk x.k p.1 p.2)
theorem acc_zero (x : Nd) (k : Fo) : accS x k 0 = x.n := by
  unfold accS
  have : joinS (sepK x.k) ((k.tx.take 0).map fun p => brk x.k p.1 p.2) = ⟨#[]⟩ := by unfold joinS; simp [Lib.join_nil]
  rw [this]
  apply ByteArray.ext
  simp [ByteArray.data_append]
theorem take_snoc' {α} (l : List α) (i : Nat) (m : α) (h : l[i]? = some m) : l.take (i + 1) = l.take i ++ [m] := by
  rw [List.take_add_one, h]; rfl
theorem acc_step (x : Nd) (k : Fo) (j : Nat) (p : Int × ByteArray) (h : k.tx[j]? = some p) : accS x k (j + 1) = if j = 0 then accS x k 0 ++ brk x.k p.1 p.2 else accS x k j ++ sepK x.k ++ brk x.k p.1 p.2 := by
  have hlt : j < k.tx.length := (List.getElem?_eq_some_iff.1 h).1
  by_cases h0 : j = 0
  · subst h0
    rw [if_pos rfl, acc_zero]
    unfold accS
    rw [take_snoc' _ _ _ h, List.map_append, List.map_cons, List.map_nil, joinS_snoc, if_pos (by simp)]
  · rw [if_neg h0]
    unfold accS
    rw [take_snoc' _ _ _ h, List.map_append, List.map_cons, List.map_nil, joinS_snoc, if_neg (by
      intro h2
      have h3 := congrArg List.length h2
      rw [List.length_map, List.length_take, List.length_nil] at h3
      omega)]
    simp only [ByteArray.append_assoc]
theorem acc_size (x : Nd) (k : Fo) (j : Nat) (hx : x.n.size ≤ 16) (hall : k.all mayN) : (accS x k j).size ≤ 16 + 32 * k.size := by
  have HSz := Fo.tx_size k (by
    have key : ∀ f : Fo, f.all mayN → f.all fun x => x.n.size ≤ 16 := by
      intro f
      induction f with
      | nil => intro _; trivial
      | cons y a b2 i1 i2 => intro h; exact ⟨h.1.size, i1 h.2.1, i2 h.2.2⟩
    exact key k hall)
  unfold accS
  rw [ByteArray.size_append]
  have h1 := joinS_size (sepK x.k) ((k.tx.take j).map fun p => brk x.k p.1 p.2)
  rw [List.map_map] at h1
  have hsp := sepK_size x.k
  have h4 : ∀ l : List (Int × ByteArray), (l.map ((fun x_1 => x_1.size + (sepK x.k).size) ∘ fun p => brk x.k p.1 p.2)).sum ≤ (l.map fun p => p.2.size + 5).sum := by
    intro l
    induction l with
    | nil => simp
    | cons p l ih =>
      have := brk_size x.k p.1 p.2
      simp only [List.map_cons, List.sum_cons, Function.comp] at ih ⊢
      omega
  have h5 : ((k.tx.take j).map fun p => p.2.size + 5).sum ≤ (k.tx.map fun p => p.2.size + 5).sum := by
    conv => rhs; rw [← List.take_append_drop j k.tx, List.map_append, List.sum_append]
    omega
  have := h4 (k.tx.take j)
  omega
theorem acc_all (x : Nd) (k : Fo) (hx1 : x.k ≠ 1) (hm : mayN x) (hc : x.c = k.len) : txN x k.tx = accS x k k.len ++ signK x.k := by
  have hall : (k.tx.take k.len) = k.tx := List.take_of_length_le (by rw [Fo.tx_len]; exact Nat.le_refl _)
  unfold txN
  rw [if_neg hx1]
  rcases hm with h | h | h | h | h
  · exact absurd h.1 hx1
  · have hk : k = .nil := nil_height (by have := h.2.1; omega)
    subst hk
    rw [if_pos (.inl h.1)]
    show x.n = accS x .nil 0 ++ _
    rw [acc_zero, show signK x.k = ⟨#[]⟩ from by unfold signK; rw [if_neg (by omega), if_neg (by omega), if_neg (by omega)]]
    apply ByteArray.ext; simp [ByteArray.data_append]
  · have hk : k = .nil := nil_height (by have := h.2.1; omega)
    subst hk
    rw [if_pos (.inr h.1)]
    show x.n = accS x .nil 0 ++ _
    rw [acc_zero, show signK x.k = ⟨#[]⟩ from by unfold signK; rw [if_neg (by omega), if_neg (by omega), if_neg (by omega)]]
    apply ByteArray.ext; simp [ByteArray.data_append]
  · rw [if_neg (by omega)]
    unfold accS
    rw [hall, h.2.1]
    have : ∀ t : ByteArray, (⟨#[]⟩ : ByteArray) ++ t = t := by intro t; apply ByteArray.ext; simp [ByteArray.data_append]
    rw [this]
  · rw [if_neg (by omega)]
    unfold accS
    rw [hall, h.2.1]
    have : ∀ t : ByteArray, (⟨#[]⟩ : ByteArray) ++ t = t := by intro t; apply ByteArray.ext; simp [ByteArray.data_append]
    rw [this]
theorem app_nil (t : ByteArray) : t ++ (⟨#[]⟩ : ByteArray) = t := by apply ByteArray.ext; simp [ByteArray.data_append]
def TxOk (n : Nat) : Prop := ∀ (v : Value) (N : List Nd) (p : Nat) (x : Nd) (k : Fo) (R : List Nd) (w : World), k.size + 1 ≤ n → RdNd w v N → N.length ≤ 16777216 → TreeAt N p x k R →
  Calls Tryz.prog 74 #[v, .int .i64 p] w fun e w' => e = .returned (.string (txN x k.tx)) ∧ Below w.heap.size w w'
def brkT (x : Nd) (yk : Int) (ty : ByteArray) : ByteArray := brk x.k yk ty

set_option maxRecDepth 100000 in
set_option maxHeartbeats 32000000 in
theorem rText_step (n : Nat) (ih : TxOk n) : TxOk (n + 1) := by
  intro v N p x k R w hkn h hl hT
  have HKd := Lib.hid (rKids_any v N p x k R w h hl hT)
  obtain ⟨h1, h2, h3⟩ := hT.head
  have HR := Lib.hid h
  have HD := Lib.hid h2
  have HT := Lib.hid hT
  have HIh := Lib.hid ih
  have hkl := Fo.len_le k
  obtain ⟨b, off, cap, rfl, hb, hcap, x0, x1, x2⟩ := RdNd.at h h1
  have hmk := hT.all.1.k
  have HAcc : Hid (x.k ≠ 1 → txN x k.tx = accS x k k.len ++ signK x.k) := fun h1 => acc_all x k h1 hT.all.1 hT.wf.1
  have HAs : Hid (∀ j, (accS x k j).size ≤ 16 + 32 * k.size) := fun j => acc_size x k j hT.all.1.size hT.all.2.1
  have HX := Lib.hid hl
  have hpn : p < N.length := by omega
  clear h h1 h2 hT ih x2
  by_cases hk1 : x.k = 1
  · have HTx : Hid (txN x k.tx = ⟨#[37]⟩) := by unfold Hid txN; rw [if_pos hk1]
    rw [hk1] at x0
    clear hk1 HKd HAcc
    go_enter Tryz.func74, Tryz.ntmps74
    go_wp2_with fail
    go_ret
    exact ⟨congrArg (fun t => Ending.returned (.string t)) HTx.out.symm, Below.refl _ _⟩
  · have HTx : Hid (txN x k.tx = accS x k k.len ++ signK x.k) := HAcc.out hk1
    have HN0 : Hid (x.n = accS x k 0) := (acc_zero x k).symm
    have hcase : x.k = 2 ∨ x.k = 3 ∨ x.k = 4 ∨ x.k = 5 ∨ x.k = 6 ∨ x.k = 7 ∨ x.k = 8 := by omega
    clear HAcc hmk hk1
    rw [HN0.out] at x1
    rcases hcase with hk | hk | hk | hk | hk | hk | hk
    · have HKx := Lib.hid hk
      rw [hk] at x0
      clear hk
      go_enter Tryz.func74, Tryz.ntmps74
      go_wp2_with fail
      refine (HKd.out).mono ?_
      rintro e w1 ⟨v1, rfl, ho1, hb1⟩
      obtain ⟨ao1, cp1, rfl, hcp⟩ := OwnI.shape ho1
      rw [starts_len] at hcp ⊢
      have HO1 := Lib.hid ho1
      have HB1 := Lib.hid hb1
      clear ho1 hb1 HKd
      go_wp2_with fail
      go_loopw [6, 8] (fun m i wr => ∃ (j s : Nat) (r : Fo) (done : List Nat), i = .int .i64 j ∧ m = .string (accS x k j) ∧ Hid (done.length = j) ∧ j + r.len = k.len ∧ Hid (Below w1.heap.size w1 wr) ∧
        Hid (starts k (p + 1) = done ++ starts r s ∧ N.drop s = r.flat ++ R ∧ r.wf ∧ r.all mayN ∧ r.size ≤ k.size ∧ r.tx = k.tx.drop j)) (fun _ i _ => k.len - (intOf i).toNat)
      case atStart => exact ⟨0, p + 1, k, [], rfl, rfl, rfl, by omega, Below.refl _ _, rfl, HD.out, HT.out.wf.2.1, HT.out.all.2.1, Nat.le_refl _, rfl⟩
      case round =>
        obtain ⟨j, s, r, done, rfl, rfl, HDj, hjr, HBel, HRr⟩ := hrel
        have HB2 : Hid (Below w.heap.size w wr) := HB1.out.trans (HBel.out.mono HB1.out.size)
        have ha0 := HAs.out j
        by_cases hlt : j < k.len
        · exfalso
          have hm := HT.out.all.1
          have hc := HT.out.wf.1
          have hkk := HKx.out
          rcases hm with h | h | h | h | h
          all_goals omega
        · obtain rfl : j = k.len := by omega
          have hsg := signK_size x.k
          have HTy : Hid (signK x.k = signK _) := congrArg signK HKx.out
          generalize accS x k k.len = acc at *
          go_wp2_with fail
          go_ret
          refine ⟨congrArg (fun t => Ending.returned (.string t)) ?_, HB2.out⟩
          rw [HTx.out, HTy.out]
          first | rfl | exact (app_nil _).symm
    · have HKx := Lib.hid hk
      rw [hk] at x0
      clear hk
      go_enter Tryz.func74, Tryz.ntmps74
      go_wp2_with fail
      refine (HKd.out).mono ?_
      rintro e w1 ⟨v1, rfl, ho1, hb1⟩
      obtain ⟨ao1, cp1, rfl, hcp⟩ := OwnI.shape ho1
      rw [starts_len] at hcp ⊢
      have HO1 := Lib.hid ho1
      have HB1 := Lib.hid hb1
      clear ho1 hb1 HKd
      go_wp2_with fail
      go_loopw [6, 8] (fun m i wr => ∃ (j s : Nat) (r : Fo) (done : List Nat), i = .int .i64 j ∧ m = .string (accS x k j) ∧ Hid (done.length = j) ∧ j + r.len = k.len ∧ Hid (Below w1.heap.size w1 wr) ∧
        Hid (starts k (p + 1) = done ++ starts r s ∧ N.drop s = r.flat ++ R ∧ r.wf ∧ r.all mayN ∧ r.size ≤ k.size ∧ r.tx = k.tx.drop j)) (fun _ i _ => k.len - (intOf i).toNat)
      case atStart => exact ⟨0, p + 1, k, [], rfl, rfl, rfl, by omega, Below.refl _ _, rfl, HD.out, HT.out.wf.2.1, HT.out.all.2.1, Nat.le_refl _, rfl⟩
      case round =>
        obtain ⟨j, s, r, done, rfl, rfl, HDj, hjr, HBel, HRr⟩ := hrel
        have HB2 : Hid (Below w.heap.size w wr) := HB1.out.trans (HBel.out.mono HB1.out.size)
        have ha0 := HAs.out j
        by_cases hlt : j < k.len
        · exfalso
          have hm := HT.out.all.1
          have hc := HT.out.wf.1
          have hkk := HKx.out
          rcases hm with h | h | h | h | h
          all_goals omega
        · obtain rfl : j = k.len := by omega
          have hsg := signK_size x.k
          have HTy : Hid (signK x.k = signK _) := congrArg signK HKx.out
          generalize accS x k k.len = acc at *
          go_wp2_with fail
          go_ret
          refine ⟨congrArg (fun t => Ending.returned (.string t)) ?_, HB2.out⟩
          rw [HTx.out, HTy.out]
          first | rfl | exact (app_nil _).symm
    · have HKx := Lib.hid hk
      rw [hk] at x0
      clear hk
      go_enter Tryz.func74, Tryz.ntmps74
      go_wp2_with fail
      refine (HKd.out).mono ?_
      rintro e w1 ⟨v1, rfl, ho1, hb1⟩
      obtain ⟨ao1, cp1, rfl, hcp⟩ := OwnI.shape ho1
      rw [starts_len] at hcp ⊢
      have HO1 := Lib.hid ho1
      have HB1 := Lib.hid hb1
      clear ho1 hb1 HKd
      go_wp2_with fail
      go_loopw [6, 8] (fun m i wr => ∃ (j s : Nat) (r : Fo) (done : List Nat), i = .int .i64 j ∧ m = .string (accS x k j) ∧ Hid (done.length = j) ∧ j + r.len = k.len ∧ Hid (Below w1.heap.size w1 wr) ∧
        Hid (starts k (p + 1) = done ++ starts r s ∧ N.drop s = r.flat ++ R ∧ r.wf ∧ r.all mayN ∧ r.size ≤ k.size ∧ r.tx = k.tx.drop j)) (fun _ i _ => k.len - (intOf i).toNat)
      case atStart => exact ⟨0, p + 1, k, [], rfl, rfl, rfl, by omega, Below.refl _ _, rfl, HD.out, HT.out.wf.2.1, HT.out.all.2.1, Nat.le_refl _, rfl⟩
      case round =>
        obtain ⟨j, s, r, done, rfl, rfl, HDj, hjr, HBel, HRr⟩ := hrel
        have HB2 : Hid (Below w.heap.size w wr) := HB1.out.trans (HBel.out.mono HB1.out.size)
        have ha0 := HAs.out j
        by_cases hlt : j < k.len
        · obtain ⟨y, kk, r', rfl⟩ : ∃ y kk r', r = Fo.cons y kk r' := by
            cases r with
            | nil => simp [Fo.len] at hjr; omega
            | cons y kk r' => exact ⟨y, kk, r', rfl⟩
          simp only [Fo.len] at hjr
          obtain ⟨r1, r2, r3, r4, r5, r6⟩ := HRr.out
          simp only [Fo.size] at r5
          have hTk : TreeAt N s y kk (r'.flat ++ R) := ⟨by rw [r2]; simp [Fo.flat], ⟨r3.1, r3.2.1, trivial⟩, ⟨r4.1, r4.2.1, trivial⟩⟩
          have HTk := Lib.hid hTk
          obtain ⟨g, gc, e0, hg1, hg2, hg3, hcs⟩ := own_src HO1.out (by rw [starts_len]; omega)
          rw [starts_len] at e0
          simp only [Value.slice.injEq] at e0
          obtain ⟨rfl, -, rfl⟩ := e0
          have hsj : (intsV (starts k (p + 1)))[j]? = some (.int .i64 s) := by
            unfold intsV
            rw [List.getElem?_map, r1, starts_cons, List.getElem?_append_right (by rw [HDj.out]; exact Nat.le_refl _), HDj.out, Nat.sub_self]; rfl
          have c0 := hcs j _ hsj
          rw [Addr.add_lit, Nat.zero_add] at c0
          have C0 := (HBel.out.cell (p := ⟨g, j, none⟩) hg2).trans c0
          have hrb := HR.out.below HB2.out
          obtain ⟨b', off', cap', e1, hb', -, y0, -, -⟩ := RdNd.at hrb hTk.head.1
          simp only [Value.slice.injEq, Option.some.injEq, Addr.mk.injEq] at e1
          obtain ⟨⟨rfl, rfl, -⟩, -, rfl⟩ := e1
          have hsN : s < N.length := by have := hTk.head.2.2; omega
          have HC : Hid (Calls Tryz.prog 74 #[.slice (some ⟨b, off, none⟩) N.length cap, .int .i64 s] wr fun e w' => e = .returned (.string (txN y kk.tx)) ∧ Below wr.heap.size wr w') :=
            HIh.out _ N s y kk _ wr (by omega) hrb HX.out hTk
          have htx : k.tx[j]? = some (y.k, txN y kk.tx) := by
            have := congrArg (fun l => l[0]?) r6
            simp only [Fo.tx, List.getElem?_cons_zero, List.getElem?_drop, Nat.add_zero] at this
            exact this.symm
          have hts : (txN y kk.tx).size ≤ 1073741824 := by
            have h1 := HAs.out (j + 1)
            rw [acc_step x k j _ htx] at h1
            have h2 : (txN y kk.tx).size ≤ (brk x.k y.k (txN y kk.tx)).size := by
              unfold brk; split
              · rw [ByteArray.size_append, ByteArray.size_append]; omega
              · exact Nat.le_refl _
            simp only at h1
            split at h1
            · rw [ByteArray.size_append] at h1; omega
            · rw [ByteArray.size_append] at h1; omega
          have HD2 : Hid (N.drop (s + kk.size + 1) = r'.flat ++ R) := by
            unfold Hid
            rw [show s + kk.size + 1 = s + (kk.size + 1) from by omega, ← List.drop_drop, hTk.drop]
            rw [List.drop_append_of_le_length (by rw [Fo.flat_len]; simp [Fo.size])]
            rw [List.drop_eq_nil_of_le (by rw [Fo.flat_len]; simp [Fo.size])]
            rfl
          have HNx : Hid (starts k (p + 1) = (done ++ [s]) ++ starts r' (s + kk.size + 1) ∧ r'.wf ∧ r'.all mayN ∧ r'.size ≤ k.size ∧ r'.tx = k.tx.drop (j + 1)) := by
            refine ⟨by rw [r1, starts_cons]; simp, r3.2.2, r4.2.2, by omega, ?_⟩
            rw [← List.drop_drop, ← r6]; rfl
          have HDj2 : Hid ((done ++ [s]).length = j + 1) := by unfold Hid; rw [List.length_append, HDj.out]; rfl
          have hstep := acc_step x k j _ htx
          simp only at hstep
          rw [HKx.out, show sepK 4 = (⟨#[32]⟩ : ByteArray) from rfl] at hstep
          have hbrk : (y.k = 5 ∧ brk 4 y.k (txN y kk.tx) = (⟨#[40]⟩ : ByteArray) ++ txN y kk.tx ++ (⟨#[41]⟩ : ByteArray)) ∨ (y.k ≠ 5 ∧ y.k = 4 ∧ brk 4 y.k (txN y kk.tx) = (⟨#[40]⟩ : ByteArray) ++ txN y kk.tx ++ (⟨#[41]⟩ : ByteArray)) ∨ (y.k ≠ 5 ∧ y.k ≠ 4 ∧ brk 4 y.k (txN y kk.tx) = txN y kk.tx) := by
            by_cases h5 : y.k = 5
            · exact .inl ⟨h5, by rw [h5]; rfl⟩
            · by_cases h4 : y.k = 4
              · exact .inr (.inl ⟨h5, h4, by rw [h4]; rfl⟩)
              · refine .inr (.inr ⟨h5, h4, ?_⟩)
                unfold brk brkB
                rw [show (y.k == 5) = false from by simpa using h5, show (y.k == 4) = false from by simpa using h4]; rfl
          have hgw : g < wr.heap.size := by have := HBel.out.size; omega
          have hbw : b < wr.heap.size := hb'
          have HJr := Lib.hid hjr
          have ha1 := HAs.out (j + 1)
          clear hcs hsj c0 hjr r1 r2 r3 r4 r5 r6 hrb hTk htx x0 x1
          generalize txN y kk.tx = ty at *
          generalize hyk : y.k = yk at *
          generalize brk 4 yk ty = bk at *
          generalize hae : accS x k (j + 1) = a1 at *
          generalize haj : accS x k j = aj at *
          have HAj := Lib.hid haj
          have HAe := Lib.hid hae
          have HSt := Lib.hid hstep
          clear haj hae hstep hyk
          rcases hbrk with ⟨t5, rfl⟩ | ⟨t5, t4, rfl⟩ | ⟨t5, t4, rfl⟩
          · have u5 : (yk == 5) = true := by simpa using t5
            have V := trivial
            clear t5 V
            by_cases hj0 : j = 0
            · have HA1 := Lib.hid (HSt.out.trans (if_pos hj0))
              subst hj0
              go_wp2_with (go_at_call 74; refine (HC.out).mono ?_; rintro e w3 ⟨rfl, hb3⟩; have HB3 := Lib.hid hb3; clear hb3)
              have HB4 : Hid (Below w1.heap.size w1 w3) := HBel.out.trans (HB3.out.mono HBel.out.size)
              go_roundw
              case rel => exact ⟨0 + 1, s + kk.size + 1, r', done ++ [s], by go_num, congrArg Value.string (by rw [HAe.out, HA1.out, HAj.out]), HDj2.out, by have := HJr.out; omega, HB4.out, HNx.out.1, HD2.out, HNx.out.2.1, HNx.out.2.2.1, HNx.out.2.2.2.1, HNx.out.2.2.2.2⟩
              case measure => simp [intOf]; omega
            · have HA1 := Lib.hid (HSt.out.trans (if_neg hj0))
              have hjp : 0 < j := by omega
              clear hj0
              go_wp2_with (go_at_call 74; refine (HC.out).mono ?_; rintro e w3 ⟨rfl, hb3⟩; have HB3 := Lib.hid hb3; clear hb3)
              have HB4 : Hid (Below w1.heap.size w1 w3) := HBel.out.trans (HB3.out.mono HBel.out.size)
              go_roundw
              case rel => exact ⟨j + 1, s + kk.size + 1, r', done ++ [s], by go_num, congrArg Value.string (by rw [HAe.out, HA1.out]), HDj2.out, by have := HJr.out; omega, HB4.out, HNx.out.1, HD2.out, HNx.out.2.1, HNx.out.2.2.1, HNx.out.2.2.2.1, HNx.out.2.2.2.2⟩
              case measure => simp [intOf]; omega
          · have u5 : (yk == 5) = false := by simpa using t5
            have u4 : (yk == 4) = true := by simpa using t4
            clear t5 t4
            by_cases hj0 : j = 0
            · have HA1 := Lib.hid (HSt.out.trans (if_pos hj0))
              subst hj0
              go_wp2_with (go_at_call 74; refine (HC.out).mono ?_; rintro e w3 ⟨rfl, hb3⟩; have HB3 := Lib.hid hb3; clear hb3)
              have HB4 : Hid (Below w1.heap.size w1 w3) := HBel.out.trans (HB3.out.mono HBel.out.size)
              go_roundw
              case rel => exact ⟨0 + 1, s + kk.size + 1, r', done ++ [s], by go_num, congrArg Value.string (by rw [HAe.out, HA1.out, HAj.out]), HDj2.out, by have := HJr.out; omega, HB4.out, HNx.out.1, HD2.out, HNx.out.2.1, HNx.out.2.2.1, HNx.out.2.2.2.1, HNx.out.2.2.2.2⟩
              case measure => simp [intOf]; omega
            · have HA1 := Lib.hid (HSt.out.trans (if_neg hj0))
              have hjp : 0 < j := by omega
              clear hj0
              go_wp2_with (go_at_call 74; refine (HC.out).mono ?_; rintro e w3 ⟨rfl, hb3⟩; have HB3 := Lib.hid hb3; clear hb3)
              have HB4 : Hid (Below w1.heap.size w1 w3) := HBel.out.trans (HB3.out.mono HBel.out.size)
              go_roundw
              case rel => exact ⟨j + 1, s + kk.size + 1, r', done ++ [s], by go_num, congrArg Value.string (by rw [HAe.out, HA1.out]), HDj2.out, by have := HJr.out; omega, HB4.out, HNx.out.1, HD2.out, HNx.out.2.1, HNx.out.2.2.1, HNx.out.2.2.2.1, HNx.out.2.2.2.2⟩
              case measure => simp [intOf]; omega
          · have u5 : (yk == 5) = false := by simpa using t5
            have u4 : (yk == 4) = false := by simpa using t4
            clear t5 t4
            by_cases hj0 : j = 0
            · have HA1 := Lib.hid (HSt.out.trans (if_pos hj0))
              subst hj0
              go_wp2_with (go_at_call 74; refine (HC.out).mono ?_; rintro e w3 ⟨rfl, hb3⟩; have HB3 := Lib.hid hb3; clear hb3)
              have HB4 : Hid (Below w1.heap.size w1 w3) := HBel.out.trans (HB3.out.mono HBel.out.size)
              go_roundw
              case rel => exact ⟨0 + 1, s + kk.size + 1, r', done ++ [s], by go_num, congrArg Value.string (by rw [HAe.out, HA1.out, HAj.out]), HDj2.out, by have := HJr.out; omega, HB4.out, HNx.out.1, HD2.out, HNx.out.2.1, HNx.out.2.2.1, HNx.out.2.2.2.1, HNx.out.2.2.2.2⟩
              case measure => simp [intOf]; omega
            · have HA1 := Lib.hid (HSt.out.trans (if_neg hj0))
              have hjp : 0 < j := by omega
              clear hj0
              go_wp2_with (go_at_call 74; refine (HC.out).mono ?_; rintro e w3 ⟨rfl, hb3⟩; have HB3 := Lib.hid hb3; clear hb3)
              have HB4 : Hid (Below w1.heap.size w1 w3) := HBel.out.trans (HB3.out.mono HBel.out.size)
              go_roundw
              case rel => exact ⟨j + 1, s + kk.size + 1, r', done ++ [s], by go_num, congrArg Value.string (by rw [HAe.out, HA1.out]), HDj2.out, by have := HJr.out; omega, HB4.out, HNx.out.1, HD2.out, HNx.out.2.1, HNx.out.2.2.1, HNx.out.2.2.2.1, HNx.out.2.2.2.2⟩
              case measure => simp [intOf]; omega
        · obtain rfl : j = k.len := by omega
          have hsg := signK_size x.k
          have HTy : Hid (signK x.k = signK _) := congrArg signK HKx.out
          generalize accS x k k.len = acc at *
          go_wp2_with fail
          go_ret
          refine ⟨congrArg (fun t => Ending.returned (.string t)) ?_, HB2.out⟩
          rw [HTx.out, HTy.out]
          first | rfl | exact (app_nil _).symm
    · have HKx := Lib.hid hk
      rw [hk] at x0
      clear hk
      go_enter Tryz.func74, Tryz.ntmps74
      go_wp2_with fail
      refine (HKd.out).mono ?_
      rintro e w1 ⟨v1, rfl, ho1, hb1⟩
      obtain ⟨ao1, cp1, rfl, hcp⟩ := OwnI.shape ho1
      rw [starts_len] at hcp ⊢
      have HO1 := Lib.hid ho1
      have HB1 := Lib.hid hb1
      clear ho1 hb1 HKd
      go_wp2_with fail
      go_loopw [6, 8] (fun m i wr => ∃ (j s : Nat) (r : Fo) (done : List Nat), i = .int .i64 j ∧ m = .string (accS x k j) ∧ Hid (done.length = j) ∧ j + r.len = k.len ∧ Hid (Below w1.heap.size w1 wr) ∧
        Hid (starts k (p + 1) = done ++ starts r s ∧ N.drop s = r.flat ++ R ∧ r.wf ∧ r.all mayN ∧ r.size ≤ k.size ∧ r.tx = k.tx.drop j)) (fun _ i _ => k.len - (intOf i).toNat)
      case atStart => exact ⟨0, p + 1, k, [], rfl, rfl, rfl, by omega, Below.refl _ _, rfl, HD.out, HT.out.wf.2.1, HT.out.all.2.1, Nat.le_refl _, rfl⟩
      case round =>
        obtain ⟨j, s, r, done, rfl, rfl, HDj, hjr, HBel, HRr⟩ := hrel
        have HB2 : Hid (Below w.heap.size w wr) := HB1.out.trans (HBel.out.mono HB1.out.size)
        have ha0 := HAs.out j
        by_cases hlt : j < k.len
        · obtain ⟨y, kk, r', rfl⟩ : ∃ y kk r', r = Fo.cons y kk r' := by
            cases r with
            | nil => simp [Fo.len] at hjr; omega
            | cons y kk r' => exact ⟨y, kk, r', rfl⟩
          simp only [Fo.len] at hjr
          obtain ⟨r1, r2, r3, r4, r5, r6⟩ := HRr.out
          simp only [Fo.size] at r5
          have hTk : TreeAt N s y kk (r'.flat ++ R) := ⟨by rw [r2]; simp [Fo.flat], ⟨r3.1, r3.2.1, trivial⟩, ⟨r4.1, r4.2.1, trivial⟩⟩
          have HTk := Lib.hid hTk
          obtain ⟨g, gc, e0, hg1, hg2, hg3, hcs⟩ := own_src HO1.out (by rw [starts_len]; omega)
          rw [starts_len] at e0
          simp only [Value.slice.injEq] at e0
          obtain ⟨rfl, -, rfl⟩ := e0
          have hsj : (intsV (starts k (p + 1)))[j]? = some (.int .i64 s) := by
            unfold intsV
            rw [List.getElem?_map, r1, starts_cons, List.getElem?_append_right (by rw [HDj.out]; exact Nat.le_refl _), HDj.out, Nat.sub_self]; rfl
          have c0 := hcs j _ hsj
          rw [Addr.add_lit, Nat.zero_add] at c0
          have C0 := (HBel.out.cell (p := ⟨g, j, none⟩) hg2).trans c0
          have hrb := HR.out.below HB2.out
          obtain ⟨b', off', cap', e1, hb', -, y0, -, -⟩ := RdNd.at hrb hTk.head.1
          simp only [Value.slice.injEq, Option.some.injEq, Addr.mk.injEq] at e1
          obtain ⟨⟨rfl, rfl, -⟩, -, rfl⟩ := e1
          have hsN : s < N.length := by have := hTk.head.2.2; omega
          have HC : Hid (Calls Tryz.prog 74 #[.slice (some ⟨b, off, none⟩) N.length cap, .int .i64 s] wr fun e w' => e = .returned (.string (txN y kk.tx)) ∧ Below wr.heap.size wr w') :=
            HIh.out _ N s y kk _ wr (by omega) hrb HX.out hTk
          have htx : k.tx[j]? = some (y.k, txN y kk.tx) := by
            have := congrArg (fun l => l[0]?) r6
            simp only [Fo.tx, List.getElem?_cons_zero, List.getElem?_drop, Nat.add_zero] at this
            exact this.symm
          have hts : (txN y kk.tx).size ≤ 1073741824 := by
            have h1 := HAs.out (j + 1)
            rw [acc_step x k j _ htx] at h1
            have h2 : (txN y kk.tx).size ≤ (brk x.k y.k (txN y kk.tx)).size := by
              unfold brk; split
              · rw [ByteArray.size_append, ByteArray.size_append]; omega
              · exact Nat.le_refl _
            simp only at h1
            split at h1
            · rw [ByteArray.size_append] at h1; omega
            · rw [ByteArray.size_append] at h1; omega
          have HD2 : Hid (N.drop (s + kk.size + 1) = r'.flat ++ R) := by
            unfold Hid
            rw [show s + kk.size + 1 = s + (kk.size + 1) from by omega, ← List.drop_drop, hTk.drop]
            rw [List.drop_append_of_le_length (by rw [Fo.flat_len]; simp [Fo.size])]
            rw [List.drop_eq_nil_of_le (by rw [Fo.flat_len]; simp [Fo.size])]
            rfl
          have HNx : Hid (starts k (p + 1) = (done ++ [s]) ++ starts r' (s + kk.size + 1) ∧ r'.wf ∧ r'.all mayN ∧ r'.size ≤ k.size ∧ r'.tx = k.tx.drop (j + 1)) := by
            refine ⟨by rw [r1, starts_cons]; simp, r3.2.2, r4.2.2, by omega, ?_⟩
            rw [← List.drop_drop, ← r6]; rfl
          have HDj2 : Hid ((done ++ [s]).length = j + 1) := by unfold Hid; rw [List.length_append, HDj.out]; rfl
          have hstep := acc_step x k j _ htx
          simp only at hstep
          rw [HKx.out, show sepK 5 = (⟨#[32, 124, 32]⟩ : ByteArray) from rfl] at hstep
          have hbrk : (y.k = 5 ∧ brk 5 y.k (txN y kk.tx) = (⟨#[40]⟩ : ByteArray) ++ txN y kk.tx ++ (⟨#[41]⟩ : ByteArray)) ∨ (y.k ≠ 5 ∧ y.k = 4 ∧ brk 5 y.k (txN y kk.tx) = txN y kk.tx) ∨ (y.k ≠ 5 ∧ y.k ≠ 4 ∧ brk 5 y.k (txN y kk.tx) = txN y kk.tx) := by
            by_cases h5 : y.k = 5
            · exact .inl ⟨h5, by rw [h5]; rfl⟩
            · by_cases h4 : y.k = 4
              · exact .inr (.inl ⟨h5, h4, by rw [h4]; rfl⟩)
              · refine .inr (.inr ⟨h5, h4, ?_⟩)
                unfold brk brkB
                rw [show (y.k == 5) = false from by simpa using h5, show (y.k == 4) = false from by simpa using h4]; rfl
          have hgw : g < wr.heap.size := by have := HBel.out.size; omega
          have hbw : b < wr.heap.size := hb'
          have HJr := Lib.hid hjr
          have ha1 := HAs.out (j + 1)
          clear hcs hsj c0 hjr r1 r2 r3 r4 r5 r6 hrb hTk htx x0 x1
          generalize txN y kk.tx = ty at *
          generalize hyk : y.k = yk at *
          generalize brk 5 yk ty = bk at *
          generalize hae : accS x k (j + 1) = a1 at *
          generalize haj : accS x k j = aj at *
          have HAj := Lib.hid haj
          have HAe := Lib.hid hae
          have HSt := Lib.hid hstep
          clear haj hae hstep hyk
          rcases hbrk with ⟨t5, rfl⟩ | ⟨t5, t4, rfl⟩ | ⟨t5, t4, rfl⟩
          · have u5 : (yk == 5) = true := by simpa using t5
            have V := trivial
            clear t5 V
            by_cases hj0 : j = 0
            · have HA1 := Lib.hid (HSt.out.trans (if_pos hj0))
              subst hj0
              go_wp2_with (go_at_call 74; refine (HC.out).mono ?_; rintro e w3 ⟨rfl, hb3⟩; have HB3 := Lib.hid hb3; clear hb3)
              have HB4 : Hid (Below w1.heap.size w1 w3) := HBel.out.trans (HB3.out.mono HBel.out.size)
              go_roundw
              case rel => exact ⟨0 + 1, s + kk.size + 1, r', done ++ [s], by go_num, congrArg Value.string (by rw [HAe.out, HA1.out, HAj.out]), HDj2.out, by have := HJr.out; omega, HB4.out, HNx.out.1, HD2.out, HNx.out.2.1, HNx.out.2.2.1, HNx.out.2.2.2.1, HNx.out.2.2.2.2⟩
              case measure => simp [intOf]; omega
            · have HA1 := Lib.hid (HSt.out.trans (if_neg hj0))
              have hjp : 0 < j := by omega
              clear hj0
              go_wp2_with (go_at_call 74; refine (HC.out).mono ?_; rintro e w3 ⟨rfl, hb3⟩; have HB3 := Lib.hid hb3; clear hb3)
              have HB4 : Hid (Below w1.heap.size w1 w3) := HBel.out.trans (HB3.out.mono HBel.out.size)
              go_roundw
              case rel => exact ⟨j + 1, s + kk.size + 1, r', done ++ [s], by go_num, congrArg Value.string (by rw [HAe.out, HA1.out]), HDj2.out, by have := HJr.out; omega, HB4.out, HNx.out.1, HD2.out, HNx.out.2.1, HNx.out.2.2.1, HNx.out.2.2.2.1, HNx.out.2.2.2.2⟩
              case measure => simp [intOf]; omega
          · have u5 : (yk == 5) = false := by simpa using t5
            have u4 : (yk == 4) = true := by simpa using t4
            clear t5 t4
            by_cases hj0 : j = 0
            · have HA1 := Lib.hid (HSt.out.trans (if_pos hj0))
              subst hj0
              go_wp2_with (go_at_call 74; refine (HC.out).mono ?_; rintro e w3 ⟨rfl, hb3⟩; have HB3 := Lib.hid hb3; clear hb3)
              have HB4 : Hid (Below w1.heap.size w1 w3) := HBel.out.trans (HB3.out.mono HBel.out.size)
              go_roundw
              case rel => exact ⟨0 + 1, s + kk.size + 1, r', done ++ [s], by go_num, congrArg Value.string (by rw [HAe.out, HA1.out, HAj.out]), HDj2.out, by have := HJr.out; omega, HB4.out, HNx.out.1, HD2.out, HNx.out.2.1, HNx.out.2.2.1, HNx.out.2.2.2.1, HNx.out.2.2.2.2⟩
              case measure => simp [intOf]; omega
            · have HA1 := Lib.hid (HSt.out.trans (if_neg hj0))
              have hjp : 0 < j := by omega
              clear hj0
              go_wp2_with (go_at_call 74; refine (HC.out).mono ?_; rintro e w3 ⟨rfl, hb3⟩; have HB3 := Lib.hid hb3; clear hb3)
              have HB4 : Hid (Below w1.heap.size w1 w3) := HBel.out.trans (HB3.out.mono HBel.out.size)
              go_roundw
              case rel => exact ⟨j + 1, s + kk.size + 1, r', done ++ [s], by go_num, congrArg Value.string (by rw [HAe.out, HA1.out]), HDj2.out, by have := HJr.out; omega, HB4.out, HNx.out.1, HD2.out, HNx.out.2.1, HNx.out.2.2.1, HNx.out.2.2.2.1, HNx.out.2.2.2.2⟩
              case measure => simp [intOf]; omega
          · have u5 : (yk == 5) = false := by simpa using t5
            have u4 : (yk == 4) = false := by simpa using t4
            clear t5 t4
            by_cases hj0 : j = 0
            · have HA1 := Lib.hid (HSt.out.trans (if_pos hj0))
              subst hj0
              go_wp2_with (go_at_call 74; refine (HC.out).mono ?_; rintro e w3 ⟨rfl, hb3⟩; have HB3 := Lib.hid hb3; clear hb3)
              have HB4 : Hid (Below w1.heap.size w1 w3) := HBel.out.trans (HB3.out.mono HBel.out.size)
              go_roundw
              case rel => exact ⟨0 + 1, s + kk.size + 1, r', done ++ [s], by go_num, congrArg Value.string (by rw [HAe.out, HA1.out, HAj.out]), HDj2.out, by have := HJr.out; omega, HB4.out, HNx.out.1, HD2.out, HNx.out.2.1, HNx.out.2.2.1, HNx.out.2.2.2.1, HNx.out.2.2.2.2⟩
              case measure => simp [intOf]; omega
            · have HA1 := Lib.hid (HSt.out.trans (if_neg hj0))
              have hjp : 0 < j := by omega
              clear hj0
              go_wp2_with (go_at_call 74; refine (HC.out).mono ?_; rintro e w3 ⟨rfl, hb3⟩; have HB3 := Lib.hid hb3; clear hb3)
              have HB4 : Hid (Below w1.heap.size w1 w3) := HBel.out.trans (HB3.out.mono HBel.out.size)
              go_roundw
              case rel => exact ⟨j + 1, s + kk.size + 1, r', done ++ [s], by go_num, congrArg Value.string (by rw [HAe.out, HA1.out]), HDj2.out, by have := HJr.out; omega, HB4.out, HNx.out.1, HD2.out, HNx.out.2.1, HNx.out.2.2.1, HNx.out.2.2.2.1, HNx.out.2.2.2.2⟩
              case measure => simp [intOf]; omega
        · obtain rfl : j = k.len := by omega
          have hsg := signK_size x.k
          have HTy : Hid (signK x.k = signK _) := congrArg signK HKx.out
          generalize accS x k k.len = acc at *
          go_wp2_with fail
          go_ret
          refine ⟨congrArg (fun t => Ending.returned (.string t)) ?_, HB2.out⟩
          rw [HTx.out, HTy.out]
          first | rfl | exact (app_nil _).symm
    · have HKx := Lib.hid hk
      rw [hk] at x0
      clear hk
      go_enter Tryz.func74, Tryz.ntmps74
      go_wp2_with fail
      refine (HKd.out).mono ?_
      rintro e w1 ⟨v1, rfl, ho1, hb1⟩
      obtain ⟨ao1, cp1, rfl, hcp⟩ := OwnI.shape ho1
      rw [starts_len] at hcp ⊢
      have HO1 := Lib.hid ho1
      have HB1 := Lib.hid hb1
      clear ho1 hb1 HKd
      go_wp2_with fail
      go_loopw [6, 8] (fun m i wr => ∃ (j s : Nat) (r : Fo) (done : List Nat), i = .int .i64 j ∧ m = .string (accS x k j) ∧ Hid (done.length = j) ∧ j + r.len = k.len ∧ Hid (Below w1.heap.size w1 wr) ∧
        Hid (starts k (p + 1) = done ++ starts r s ∧ N.drop s = r.flat ++ R ∧ r.wf ∧ r.all mayN ∧ r.size ≤ k.size ∧ r.tx = k.tx.drop j)) (fun _ i _ => k.len - (intOf i).toNat)
      case atStart => exact ⟨0, p + 1, k, [], rfl, rfl, rfl, by omega, Below.refl _ _, rfl, HD.out, HT.out.wf.2.1, HT.out.all.2.1, Nat.le_refl _, rfl⟩
      case round =>
        obtain ⟨j, s, r, done, rfl, rfl, HDj, hjr, HBel, HRr⟩ := hrel
        have HB2 : Hid (Below w.heap.size w wr) := HB1.out.trans (HBel.out.mono HB1.out.size)
        have ha0 := HAs.out j
        by_cases hlt : j < k.len
        · obtain ⟨y, kk, r', rfl⟩ : ∃ y kk r', r = Fo.cons y kk r' := by
            cases r with
            | nil => simp [Fo.len] at hjr; omega
            | cons y kk r' => exact ⟨y, kk, r', rfl⟩
          simp only [Fo.len] at hjr
          obtain ⟨r1, r2, r3, r4, r5, r6⟩ := HRr.out
          simp only [Fo.size] at r5
          have hTk : TreeAt N s y kk (r'.flat ++ R) := ⟨by rw [r2]; simp [Fo.flat], ⟨r3.1, r3.2.1, trivial⟩, ⟨r4.1, r4.2.1, trivial⟩⟩
          have HTk := Lib.hid hTk
          obtain ⟨g, gc, e0, hg1, hg2, hg3, hcs⟩ := own_src HO1.out (by rw [starts_len]; omega)
          rw [starts_len] at e0
          simp only [Value.slice.injEq] at e0
          obtain ⟨rfl, -, rfl⟩ := e0
          have hsj : (intsV (starts k (p + 1)))[j]? = some (.int .i64 s) := by
            unfold intsV
            rw [List.getElem?_map, r1, starts_cons, List.getElem?_append_right (by rw [HDj.out]; exact Nat.le_refl _), HDj.out, Nat.sub_self]; rfl
          have c0 := hcs j _ hsj
          rw [Addr.add_lit, Nat.zero_add] at c0
          have C0 := (HBel.out.cell (p := ⟨g, j, none⟩) hg2).trans c0
          have hrb := HR.out.below HB2.out
          obtain ⟨b', off', cap', e1, hb', -, y0, -, -⟩ := RdNd.at hrb hTk.head.1
          simp only [Value.slice.injEq, Option.some.injEq, Addr.mk.injEq] at e1
          obtain ⟨⟨rfl, rfl, -⟩, -, rfl⟩ := e1
          have hsN : s < N.length := by have := hTk.head.2.2; omega
          have HC : Hid (Calls Tryz.prog 74 #[.slice (some ⟨b, off, none⟩) N.length cap, .int .i64 s] wr fun e w' => e = .returned (.string (txN y kk.tx)) ∧ Below wr.heap.size wr w') :=
            HIh.out _ N s y kk _ wr (by omega) hrb HX.out hTk
          have htx : k.tx[j]? = some (y.k, txN y kk.tx) := by
            have := congrArg (fun l => l[0]?) r6
            simp only [Fo.tx, List.getElem?_cons_zero, List.getElem?_drop, Nat.add_zero] at this
            exact this.symm
          have hts : (txN y kk.tx).size ≤ 1073741824 := by
            have h1 := HAs.out (j + 1)
            rw [acc_step x k j _ htx] at h1
            have h2 : (txN y kk.tx).size ≤ (brk x.k y.k (txN y kk.tx)).size := by
              unfold brk; split
              · rw [ByteArray.size_append, ByteArray.size_append]; omega
              · exact Nat.le_refl _
            simp only at h1
            split at h1
            · rw [ByteArray.size_append] at h1; omega
            · rw [ByteArray.size_append] at h1; omega
          have HD2 : Hid (N.drop (s + kk.size + 1) = r'.flat ++ R) := by
            unfold Hid
            rw [show s + kk.size + 1 = s + (kk.size + 1) from by omega, ← List.drop_drop, hTk.drop]
            rw [List.drop_append_of_le_length (by rw [Fo.flat_len]; simp [Fo.size])]
            rw [List.drop_eq_nil_of_le (by rw [Fo.flat_len]; simp [Fo.size])]
            rfl
          have HNx : Hid (starts k (p + 1) = (done ++ [s]) ++ starts r' (s + kk.size + 1) ∧ r'.wf ∧ r'.all mayN ∧ r'.size ≤ k.size ∧ r'.tx = k.tx.drop (j + 1)) := by
            refine ⟨by rw [r1, starts_cons]; simp, r3.2.2, r4.2.2, by omega, ?_⟩
            rw [← List.drop_drop, ← r6]; rfl
          have HDj2 : Hid ((done ++ [s]).length = j + 1) := by unfold Hid; rw [List.length_append, HDj.out]; rfl
          have hstep := acc_step x k j _ htx
          simp only at hstep
          rw [HKx.out, show sepK 6 = (⟨#[]⟩ : ByteArray) from rfl] at hstep
          have hbrk : (y.k = 5 ∧ brk 6 y.k (txN y kk.tx) = (⟨#[40]⟩ : ByteArray) ++ txN y kk.tx ++ (⟨#[41]⟩ : ByteArray)) ∨ (y.k ≠ 5 ∧ y.k = 4 ∧ brk 6 y.k (txN y kk.tx) = (⟨#[40]⟩ : ByteArray) ++ txN y kk.tx ++ (⟨#[41]⟩ : ByteArray)) ∨ (y.k ≠ 5 ∧ y.k ≠ 4 ∧ brk 6 y.k (txN y kk.tx) = txN y kk.tx) := by
            by_cases h5 : y.k = 5
            · exact .inl ⟨h5, by rw [h5]; rfl⟩
            · by_cases h4 : y.k = 4
              · exact .inr (.inl ⟨h5, h4, by rw [h4]; rfl⟩)
              · refine .inr (.inr ⟨h5, h4, ?_⟩)
                unfold brk brkB
                rw [show (y.k == 5) = false from by simpa using h5, show (y.k == 4) = false from by simpa using h4]; rfl
          have hgw : g < wr.heap.size := by have := HBel.out.size; omega
          have hbw : b < wr.heap.size := hb'
          have HJr := Lib.hid hjr
          have ha1 := HAs.out (j + 1)
          clear hcs hsj c0 hjr r1 r2 r3 r4 r5 r6 hrb hTk htx x0 x1
          generalize txN y kk.tx = ty at *
          generalize hyk : y.k = yk at *
          generalize brk 6 yk ty = bk at *
          generalize hae : accS x k (j + 1) = a1 at *
          generalize haj : accS x k j = aj at *
          have HAj := Lib.hid haj
          have HAe := Lib.hid hae
          have HSt := Lib.hid hstep
          clear haj hae hstep hyk
          rcases hbrk with ⟨t5, rfl⟩ | ⟨t5, t4, rfl⟩ | ⟨t5, t4, rfl⟩
          · have u5 : (yk == 5) = true := by simpa using t5
            have V := trivial
            clear t5 V
            by_cases hj0 : j = 0
            · have HA1 := Lib.hid (HSt.out.trans (if_pos hj0))
              subst hj0
              go_wp2_with (go_at_call 74; refine (HC.out).mono ?_; rintro e w3 ⟨rfl, hb3⟩; have HB3 := Lib.hid hb3; clear hb3)
              have HB4 : Hid (Below w1.heap.size w1 w3) := HBel.out.trans (HB3.out.mono HBel.out.size)
              go_roundw
              case rel => exact ⟨0 + 1, s + kk.size + 1, r', done ++ [s], by go_num, congrArg Value.string (by rw [HAe.out, HA1.out, HAj.out]), HDj2.out, by have := HJr.out; omega, HB4.out, HNx.out.1, HD2.out, HNx.out.2.1, HNx.out.2.2.1, HNx.out.2.2.2.1, HNx.out.2.2.2.2⟩
              case measure => simp [intOf]; omega
            · have HA1 := Lib.hid (HSt.out.trans (if_neg hj0))
              have hjp : 0 < j := by omega
              clear hj0
              go_wp2_with (go_at_call 74; refine (HC.out).mono ?_; rintro e w3 ⟨rfl, hb3⟩; have HB3 := Lib.hid hb3; clear hb3)
              have HB4 : Hid (Below w1.heap.size w1 w3) := HBel.out.trans (HB3.out.mono HBel.out.size)
              go_roundw
              case rel => exact ⟨j + 1, s + kk.size + 1, r', done ++ [s], by go_num, congrArg Value.string (by rw [HAe.out, HA1.out, app_nil]), HDj2.out, by have := HJr.out; omega, HB4.out, HNx.out.1, HD2.out, HNx.out.2.1, HNx.out.2.2.1, HNx.out.2.2.2.1, HNx.out.2.2.2.2⟩
              case measure => simp [intOf]; omega
          · have u5 : (yk == 5) = false := by simpa using t5
            have u4 : (yk == 4) = true := by simpa using t4
            clear t5 t4
            by_cases hj0 : j = 0
            · have HA1 := Lib.hid (HSt.out.trans (if_pos hj0))
              subst hj0
              go_wp2_with (go_at_call 74; refine (HC.out).mono ?_; rintro e w3 ⟨rfl, hb3⟩; have HB3 := Lib.hid hb3; clear hb3)
              have HB4 : Hid (Below w1.heap.size w1 w3) := HBel.out.trans (HB3.out.mono HBel.out.size)
              go_roundw
              case rel => exact ⟨0 + 1, s + kk.size + 1, r', done ++ [s], by go_num, congrArg Value.string (by rw [HAe.out, HA1.out, HAj.out]), HDj2.out, by have := HJr.out; omega, HB4.out, HNx.out.1, HD2.out, HNx.out.2.1, HNx.out.2.2.1, HNx.out.2.2.2.1, HNx.out.2.2.2.2⟩
              case measure => simp [intOf]; omega
            · have HA1 := Lib.hid (HSt.out.trans (if_neg hj0))
              have hjp : 0 < j := by omega
              clear hj0
              go_wp2_with (go_at_call 74; refine (HC.out).mono ?_; rintro e w3 ⟨rfl, hb3⟩; have HB3 := Lib.hid hb3; clear hb3)
              have HB4 : Hid (Below w1.heap.size w1 w3) := HBel.out.trans (HB3.out.mono HBel.out.size)
              go_roundw
              case rel => exact ⟨j + 1, s + kk.size + 1, r', done ++ [s], by go_num, congrArg Value.string (by rw [HAe.out, HA1.out, app_nil]), HDj2.out, by have := HJr.out; omega, HB4.out, HNx.out.1, HD2.out, HNx.out.2.1, HNx.out.2.2.1, HNx.out.2.2.2.1, HNx.out.2.2.2.2⟩
              case measure => simp [intOf]; omega
          · have u5 : (yk == 5) = false := by simpa using t5
            have u4 : (yk == 4) = false := by simpa using t4
            clear t5 t4
            by_cases hj0 : j = 0
            · have HA1 := Lib.hid (HSt.out.trans (if_pos hj0))
              subst hj0
              go_wp2_with (go_at_call 74; refine (HC.out).mono ?_; rintro e w3 ⟨rfl, hb3⟩; have HB3 := Lib.hid hb3; clear hb3)
              have HB4 : Hid (Below w1.heap.size w1 w3) := HBel.out.trans (HB3.out.mono HBel.out.size)
              go_roundw
              case rel => exact ⟨0 + 1, s + kk.size + 1, r', done ++ [s], by go_num, congrArg Value.string (by rw [HAe.out, HA1.out, HAj.out]), HDj2.out, by have := HJr.out; omega, HB4.out, HNx.out.1, HD2.out, HNx.out.2.1, HNx.out.2.2.1, HNx.out.2.2.2.1, HNx.out.2.2.2.2⟩
              case measure => simp [intOf]; omega
            · have HA1 := Lib.hid (HSt.out.trans (if_neg hj0))
              have hjp : 0 < j := by omega
              clear hj0
              go_wp2_with (go_at_call 74; refine (HC.out).mono ?_; rintro e w3 ⟨rfl, hb3⟩; have HB3 := Lib.hid hb3; clear hb3)
              have HB4 : Hid (Below w1.heap.size w1 w3) := HBel.out.trans (HB3.out.mono HBel.out.size)
              go_roundw
              case rel => exact ⟨j + 1, s + kk.size + 1, r', done ++ [s], by go_num, congrArg Value.string (by rw [HAe.out, HA1.out, app_nil]), HDj2.out, by have := HJr.out; omega, HB4.out, HNx.out.1, HD2.out, HNx.out.2.1, HNx.out.2.2.1, HNx.out.2.2.2.1, HNx.out.2.2.2.2⟩
              case measure => simp [intOf]; omega
        · obtain rfl : j = k.len := by omega
          have hsg := signK_size x.k
          have HTy : Hid (signK x.k = signK _) := congrArg signK HKx.out
          generalize accS x k k.len = acc at *
          go_wp2_with fail
          go_ret
          refine ⟨congrArg (fun t => Ending.returned (.string t)) ?_, HB2.out⟩
          rw [HTx.out, HTy.out]
          first | rfl | exact (app_nil _).symm
    · have HKx := Lib.hid hk
      rw [hk] at x0
      clear hk
      go_enter Tryz.func74, Tryz.ntmps74
      go_wp2_with fail
      refine (HKd.out).mono ?_
      rintro e w1 ⟨v1, rfl, ho1, hb1⟩
      obtain ⟨ao1, cp1, rfl, hcp⟩ := OwnI.shape ho1
      rw [starts_len] at hcp ⊢
      have HO1 := Lib.hid ho1
      have HB1 := Lib.hid hb1
      clear ho1 hb1 HKd
      go_wp2_with fail
      go_loopw [6, 8] (fun m i wr => ∃ (j s : Nat) (r : Fo) (done : List Nat), i = .int .i64 j ∧ m = .string (accS x k j) ∧ Hid (done.length = j) ∧ j + r.len = k.len ∧ Hid (Below w1.heap.size w1 wr) ∧
        Hid (starts k (p + 1) = done ++ starts r s ∧ N.drop s = r.flat ++ R ∧ r.wf ∧ r.all mayN ∧ r.size ≤ k.size ∧ r.tx = k.tx.drop j)) (fun _ i _ => k.len - (intOf i).toNat)
      case atStart => exact ⟨0, p + 1, k, [], rfl, rfl, rfl, by omega, Below.refl _ _, rfl, HD.out, HT.out.wf.2.1, HT.out.all.2.1, Nat.le_refl _, rfl⟩
      case round =>
        obtain ⟨j, s, r, done, rfl, rfl, HDj, hjr, HBel, HRr⟩ := hrel
        have HB2 : Hid (Below w.heap.size w wr) := HB1.out.trans (HBel.out.mono HB1.out.size)
        have ha0 := HAs.out j
        by_cases hlt : j < k.len
        · obtain ⟨y, kk, r', rfl⟩ : ∃ y kk r', r = Fo.cons y kk r' := by
            cases r with
            | nil => simp [Fo.len] at hjr; omega
            | cons y kk r' => exact ⟨y, kk, r', rfl⟩
          simp only [Fo.len] at hjr
          obtain ⟨r1, r2, r3, r4, r5, r6⟩ := HRr.out
          simp only [Fo.size] at r5
          have hTk : TreeAt N s y kk (r'.flat ++ R) := ⟨by rw [r2]; simp [Fo.flat], ⟨r3.1, r3.2.1, trivial⟩, ⟨r4.1, r4.2.1, trivial⟩⟩
          have HTk := Lib.hid hTk
          obtain ⟨g, gc, e0, hg1, hg2, hg3, hcs⟩ := own_src HO1.out (by rw [starts_len]; omega)
          rw [starts_len] at e0
          simp only [Value.slice.injEq] at e0
          obtain ⟨rfl, -, rfl⟩ := e0
          have hsj : (intsV (starts k (p + 1)))[j]? = some (.int .i64 s) := by
            unfold intsV
            rw [List.getElem?_map, r1, starts_cons, List.getElem?_append_right (by rw [HDj.out]; exact Nat.le_refl _), HDj.out, Nat.sub_self]; rfl
          have c0 := hcs j _ hsj
          rw [Addr.add_lit, Nat.zero_add] at c0
          have C0 := (HBel.out.cell (p := ⟨g, j, none⟩) hg2).trans c0
          have hrb := HR.out.below HB2.out
          obtain ⟨b', off', cap', e1, hb', -, y0, -, -⟩ := RdNd.at hrb hTk.head.1
          simp only [Value.slice.injEq, Option.some.injEq, Addr.mk.injEq] at e1
          obtain ⟨⟨rfl, rfl, -⟩, -, rfl⟩ := e1
          have hsN : s < N.length := by have := hTk.head.2.2; omega
          have HC : Hid (Calls Tryz.prog 74 #[.slice (some ⟨b, off, none⟩) N.length cap, .int .i64 s] wr fun e w' => e = .returned (.string (txN y kk.tx)) ∧ Below wr.heap.size wr w') :=
            HIh.out _ N s y kk _ wr (by omega) hrb HX.out hTk
          have htx : k.tx[j]? = some (y.k, txN y kk.tx) := by
            have := congrArg (fun l => l[0]?) r6
            simp only [Fo.tx, List.getElem?_cons_zero, List.getElem?_drop, Nat.add_zero] at this
            exact this.symm
          have hts : (txN y kk.tx).size ≤ 1073741824 := by
            have h1 := HAs.out (j + 1)
            rw [acc_step x k j _ htx] at h1
            have h2 : (txN y kk.tx).size ≤ (brk x.k y.k (txN y kk.tx)).size := by
              unfold brk; split
              · rw [ByteArray.size_append, ByteArray.size_append]; omega
              · exact Nat.le_refl _
            simp only at h1
            split at h1
            · rw [ByteArray.size_append] at h1; omega
            · rw [ByteArray.size_append] at h1; omega
          have HD2 : Hid (N.drop (s + kk.size + 1) = r'.flat ++ R) := by
            unfold Hid
            rw [show s + kk.size + 1 = s + (kk.size + 1) from by omega, ← List.drop_drop, hTk.drop]
            rw [List.drop_append_of_le_length (by rw [Fo.flat_len]; simp [Fo.size])]
            rw [List.drop_eq_nil_of_le (by rw [Fo.flat_len]; simp [Fo.size])]
            rfl
          have HNx : Hid (starts k (p + 1) = (done ++ [s]) ++ starts r' (s + kk.size + 1) ∧ r'.wf ∧ r'.all mayN ∧ r'.size ≤ k.size ∧ r'.tx = k.tx.drop (j + 1)) := by
            refine ⟨by rw [r1, starts_cons]; simp, r3.2.2, r4.2.2, by omega, ?_⟩
            rw [← List.drop_drop, ← r6]; rfl
          have HDj2 : Hid ((done ++ [s]).length = j + 1) := by unfold Hid; rw [List.length_append, HDj.out]; rfl
          have hstep := acc_step x k j _ htx
          simp only at hstep
          rw [HKx.out, show sepK 7 = (⟨#[]⟩ : ByteArray) from rfl] at hstep
          have hbrk : (y.k = 5 ∧ brk 7 y.k (txN y kk.tx) = (⟨#[40]⟩ : ByteArray) ++ txN y kk.tx ++ (⟨#[41]⟩ : ByteArray)) ∨ (y.k ≠ 5 ∧ y.k = 4 ∧ brk 7 y.k (txN y kk.tx) = (⟨#[40]⟩ : ByteArray) ++ txN y kk.tx ++ (⟨#[41]⟩ : ByteArray)) ∨ (y.k ≠ 5 ∧ y.k ≠ 4 ∧ brk 7 y.k (txN y kk.tx) = txN y kk.tx) := by
            by_cases h5 : y.k = 5
            · exact .inl ⟨h5, by rw [h5]; rfl⟩
            · by_cases h4 : y.k = 4
              · exact .inr (.inl ⟨h5, h4, by rw [h4]; rfl⟩)
              · refine .inr (.inr ⟨h5, h4, ?_⟩)
                unfold brk brkB
                rw [show (y.k == 5) = false from by simpa using h5, show (y.k == 4) = false from by simpa using h4]; rfl
          have hgw : g < wr.heap.size := by have := HBel.out.size; omega
          have hbw : b < wr.heap.size := hb'
          have HJr := Lib.hid hjr
          have ha1 := HAs.out (j + 1)
          clear hcs hsj c0 hjr r1 r2 r3 r4 r5 r6 hrb hTk htx x0 x1
          generalize txN y kk.tx = ty at *
          generalize hyk : y.k = yk at *
          generalize brk 7 yk ty = bk at *
          generalize hae : accS x k (j + 1) = a1 at *
          generalize haj : accS x k j = aj at *
          have HAj := Lib.hid haj
          have HAe := Lib.hid hae
          have HSt := Lib.hid hstep
          clear haj hae hstep hyk
          rcases hbrk with ⟨t5, rfl⟩ | ⟨t5, t4, rfl⟩ | ⟨t5, t4, rfl⟩
          · have u5 : (yk == 5) = true := by simpa using t5
            have V := trivial
            clear t5 V
            by_cases hj0 : j = 0
            · have HA1 := Lib.hid (HSt.out.trans (if_pos hj0))
              subst hj0
              go_wp2_with (go_at_call 74; refine (HC.out).mono ?_; rintro e w3 ⟨rfl, hb3⟩; have HB3 := Lib.hid hb3; clear hb3)
              have HB4 : Hid (Below w1.heap.size w1 w3) := HBel.out.trans (HB3.out.mono HBel.out.size)
              go_roundw
              case rel => exact ⟨0 + 1, s + kk.size + 1, r', done ++ [s], by go_num, congrArg Value.string (by rw [HAe.out, HA1.out, HAj.out]), HDj2.out, by have := HJr.out; omega, HB4.out, HNx.out.1, HD2.out, HNx.out.2.1, HNx.out.2.2.1, HNx.out.2.2.2.1, HNx.out.2.2.2.2⟩
              case measure => simp [intOf]; omega
            · have HA1 := Lib.hid (HSt.out.trans (if_neg hj0))
              have hjp : 0 < j := by omega
              clear hj0
              go_wp2_with (go_at_call 74; refine (HC.out).mono ?_; rintro e w3 ⟨rfl, hb3⟩; have HB3 := Lib.hid hb3; clear hb3)
              have HB4 : Hid (Below w1.heap.size w1 w3) := HBel.out.trans (HB3.out.mono HBel.out.size)
              go_roundw
              case rel => exact ⟨j + 1, s + kk.size + 1, r', done ++ [s], by go_num, congrArg Value.string (by rw [HAe.out, HA1.out, app_nil]), HDj2.out, by have := HJr.out; omega, HB4.out, HNx.out.1, HD2.out, HNx.out.2.1, HNx.out.2.2.1, HNx.out.2.2.2.1, HNx.out.2.2.2.2⟩
              case measure => simp [intOf]; omega
          · have u5 : (yk == 5) = false := by simpa using t5
            have u4 : (yk == 4) = true := by simpa using t4
            clear t5 t4
            by_cases hj0 : j = 0
            · have HA1 := Lib.hid (HSt.out.trans (if_pos hj0))
              subst hj0
              go_wp2_with (go_at_call 74; refine (HC.out).mono ?_; rintro e w3 ⟨rfl, hb3⟩; have HB3 := Lib.hid hb3; clear hb3)
              have HB4 : Hid (Below w1.heap.size w1 w3) := HBel.out.trans (HB3.out.mono HBel.out.size)
              go_roundw
              case rel => exact ⟨0 + 1, s + kk.size + 1, r', done ++ [s], by go_num, congrArg Value.string (by rw [HAe.out, HA1.out, HAj.out]), HDj2.out, by have := HJr.out; omega, HB4.out, HNx.out.1, HD2.out, HNx.out.2.1, HNx.out.2.2.1, HNx.out.2.2.2.1, HNx.out.2.2.2.2⟩
              case measure => simp [intOf]; omega
            · have HA1 := Lib.hid (HSt.out.trans (if_neg hj0))
              have hjp : 0 < j := by omega
              clear hj0
              go_wp2_with (go_at_call 74; refine (HC.out).mono ?_; rintro e w3 ⟨rfl, hb3⟩; have HB3 := Lib.hid hb3; clear hb3)
              have HB4 : Hid (Below w1.heap.size w1 w3) := HBel.out.trans (HB3.out.mono HBel.out.size)
              go_roundw
              case rel => exact ⟨j + 1, s + kk.size + 1, r', done ++ [s], by go_num, congrArg Value.string (by rw [HAe.out, HA1.out, app_nil]), HDj2.out, by have := HJr.out; omega, HB4.out, HNx.out.1, HD2.out, HNx.out.2.1, HNx.out.2.2.1, HNx.out.2.2.2.1, HNx.out.2.2.2.2⟩
              case measure => simp [intOf]; omega
          · have u5 : (yk == 5) = false := by simpa using t5
            have u4 : (yk == 4) = false := by simpa using t4
            clear t5 t4
            by_cases hj0 : j = 0
            · have HA1 := Lib.hid (HSt.out.trans (if_pos hj0))
              subst hj0
              go_wp2_with (go_at_call 74; refine (HC.out).mono ?_; rintro e w3 ⟨rfl, hb3⟩; have HB3 := Lib.hid hb3; clear hb3)
              have HB4 : Hid (Below w1.heap.size w1 w3) := HBel.out.trans (HB3.out.mono HBel.out.size)
              go_roundw
              case rel => exact ⟨0 + 1, s + kk.size + 1, r', done ++ [s], by go_num, congrArg Value.string (by rw [HAe.out, HA1.out, HAj.out]), HDj2.out, by have := HJr.out; omega, HB4.out, HNx.out.1, HD2.out, HNx.out.2.1, HNx.out.2.2.1, HNx.out.2.2.2.1, HNx.out.2.2.2.2⟩
              case measure => simp [intOf]; omega
            · have HA1 := Lib.hid (HSt.out.trans (if_neg hj0))
              have hjp : 0 < j := by omega
              clear hj0
              go_wp2_with (go_at_call 74; refine (HC.out).mono ?_; rintro e w3 ⟨rfl, hb3⟩; have HB3 := Lib.hid hb3; clear hb3)
              have HB4 : Hid (Below w1.heap.size w1 w3) := HBel.out.trans (HB3.out.mono HBel.out.size)
              go_roundw
              case rel => exact ⟨j + 1, s + kk.size + 1, r', done ++ [s], by go_num, congrArg Value.string (by rw [HAe.out, HA1.out, app_nil]), HDj2.out, by have := HJr.out; omega, HB4.out, HNx.out.1, HD2.out, HNx.out.2.1, HNx.out.2.2.1, HNx.out.2.2.2.1, HNx.out.2.2.2.2⟩
              case measure => simp [intOf]; omega
        · obtain rfl : j = k.len := by omega
          have hsg := signK_size x.k
          have HTy : Hid (signK x.k = signK _) := congrArg signK HKx.out
          generalize accS x k k.len = acc at *
          go_wp2_with fail
          go_ret
          refine ⟨congrArg (fun t => Ending.returned (.string t)) ?_, HB2.out⟩
          rw [HTx.out, HTy.out]
          first | rfl | exact (app_nil _).symm
    · have HKx := Lib.hid hk
      rw [hk] at x0
      clear hk
      go_enter Tryz.func74, Tryz.ntmps74
      go_wp2_with fail
      refine (HKd.out).mono ?_
      rintro e w1 ⟨v1, rfl, ho1, hb1⟩
      obtain ⟨ao1, cp1, rfl, hcp⟩ := OwnI.shape ho1
      rw [starts_len] at hcp ⊢
      have HO1 := Lib.hid ho1
      have HB1 := Lib.hid hb1
      clear ho1 hb1 HKd
      go_wp2_with fail
      go_loopw [6, 8] (fun m i wr => ∃ (j s : Nat) (r : Fo) (done : List Nat), i = .int .i64 j ∧ m = .string (accS x k j) ∧ Hid (done.length = j) ∧ j + r.len = k.len ∧ Hid (Below w1.heap.size w1 wr) ∧
        Hid (starts k (p + 1) = done ++ starts r s ∧ N.drop s = r.flat ++ R ∧ r.wf ∧ r.all mayN ∧ r.size ≤ k.size ∧ r.tx = k.tx.drop j)) (fun _ i _ => k.len - (intOf i).toNat)
      case atStart => exact ⟨0, p + 1, k, [], rfl, rfl, rfl, by omega, Below.refl _ _, rfl, HD.out, HT.out.wf.2.1, HT.out.all.2.1, Nat.le_refl _, rfl⟩
      case round =>
        obtain ⟨j, s, r, done, rfl, rfl, HDj, hjr, HBel, HRr⟩ := hrel
        have HB2 : Hid (Below w.heap.size w wr) := HB1.out.trans (HBel.out.mono HB1.out.size)
        have ha0 := HAs.out j
        by_cases hlt : j < k.len
        · obtain ⟨y, kk, r', rfl⟩ : ∃ y kk r', r = Fo.cons y kk r' := by
            cases r with
            | nil => simp [Fo.len] at hjr; omega
            | cons y kk r' => exact ⟨y, kk, r', rfl⟩
          simp only [Fo.len] at hjr
          obtain ⟨r1, r2, r3, r4, r5, r6⟩ := HRr.out
          simp only [Fo.size] at r5
          have hTk : TreeAt N s y kk (r'.flat ++ R) := ⟨by rw [r2]; simp [Fo.flat], ⟨r3.1, r3.2.1, trivial⟩, ⟨r4.1, r4.2.1, trivial⟩⟩
          have HTk := Lib.hid hTk
          obtain ⟨g, gc, e0, hg1, hg2, hg3, hcs⟩ := own_src HO1.out (by rw [starts_len]; omega)
          rw [starts_len] at e0
          simp only [Value.slice.injEq] at e0
          obtain ⟨rfl, -, rfl⟩ := e0
          have hsj : (intsV (starts k (p + 1)))[j]? = some (.int .i64 s) := by
            unfold intsV
            rw [List.getElem?_map, r1, starts_cons, List.getElem?_append_right (by rw [HDj.out]; exact Nat.le_refl _), HDj.out, Nat.sub_self]; rfl
          have c0 := hcs j _ hsj
          rw [Addr.add_lit, Nat.zero_add] at c0
          have C0 := (HBel.out.cell (p := ⟨g, j, none⟩) hg2).trans c0
          have hrb := HR.out.below HB2.out
          obtain ⟨b', off', cap', e1, hb', -, y0, -, -⟩ := RdNd.at hrb hTk.head.1
          simp only [Value.slice.injEq, Option.some.injEq, Addr.mk.injEq] at e1
          obtain ⟨⟨rfl, rfl, -⟩, -, rfl⟩ := e1
          have hsN : s < N.length := by have := hTk.head.2.2; omega
          have HC : Hid (Calls Tryz.prog 74 #[.slice (some ⟨b, off, none⟩) N.length cap, .int .i64 s] wr fun e w' => e = .returned (.string (txN y kk.tx)) ∧ Below wr.heap.size wr w') :=
            HIh.out _ N s y kk _ wr (by omega) hrb HX.out hTk
          have htx : k.tx[j]? = some (y.k, txN y kk.tx) := by
            have := congrArg (fun l => l[0]?) r6
            simp only [Fo.tx, List.getElem?_cons_zero, List.getElem?_drop, Nat.add_zero] at this
            exact this.symm
          have hts : (txN y kk.tx).size ≤ 1073741824 := by
            have h1 := HAs.out (j + 1)
            rw [acc_step x k j _ htx] at h1
            have h2 : (txN y kk.tx).size ≤ (brk x.k y.k (txN y kk.tx)).size := by
              unfold brk; split
              · rw [ByteArray.size_append, ByteArray.size_append]; omega
              · exact Nat.le_refl _
            simp only at h1
            split at h1
            · rw [ByteArray.size_append] at h1; omega
            · rw [ByteArray.size_append] at h1; omega
          have HD2 : Hid (N.drop (s + kk.size + 1) = r'.flat ++ R) := by
            unfold Hid
            rw [show s + kk.size + 1 = s + (kk.size + 1) from by omega, ← List.drop_drop, hTk.drop]
            rw [List.drop_append_of_le_length (by rw [Fo.flat_len]; simp [Fo.size])]
            rw [List.drop_eq_nil_of_le (by rw [Fo.flat_len]; simp [Fo.size])]
            rfl
          have HNx : Hid (starts k (p + 1) = (done ++ [s]) ++ starts r' (s + kk.size + 1) ∧ r'.wf ∧ r'.all mayN ∧ r'.size ≤ k.size ∧ r'.tx = k.tx.drop (j + 1)) := by
            refine ⟨by rw [r1, starts_cons]; simp, r3.2.2, r4.2.2, by omega, ?_⟩
            rw [← List.drop_drop, ← r6]; rfl
          have HDj2 : Hid ((done ++ [s]).length = j + 1) := by unfold Hid; rw [List.length_append, HDj.out]; rfl
          have hstep := acc_step x k j _ htx
          simp only at hstep
          rw [HKx.out, show sepK 8 = (⟨#[]⟩ : ByteArray) from rfl] at hstep
          have hbrk : (y.k = 5 ∧ brk 8 y.k (txN y kk.tx) = (⟨#[40]⟩ : ByteArray) ++ txN y kk.tx ++ (⟨#[41]⟩ : ByteArray)) ∨ (y.k ≠ 5 ∧ y.k = 4 ∧ brk 8 y.k (txN y kk.tx) = (⟨#[40]⟩ : ByteArray) ++ txN y kk.tx ++ (⟨#[41]⟩ : ByteArray)) ∨ (y.k ≠ 5 ∧ y.k ≠ 4 ∧ brk 8 y.k (txN y kk.tx) = txN y kk.tx) := by
            by_cases h5 : y.k = 5
            · exact .inl ⟨h5, by rw [h5]; rfl⟩
            · by_cases h4 : y.k = 4
              · exact .inr (.inl ⟨h5, h4, by rw [h4]; rfl⟩)
              · refine .inr (.inr ⟨h5, h4, ?_⟩)
                unfold brk brkB
                rw [show (y.k == 5) = false from by simpa using h5, show (y.k == 4) = false from by simpa using h4]; rfl
          have hgw : g < wr.heap.size := by have := HBel.out.size; omega
          have hbw : b < wr.heap.size := hb'
          have HJr := Lib.hid hjr
          have ha1 := HAs.out (j + 1)
          clear hcs hsj c0 hjr r1 r2 r3 r4 r5 r6 hrb hTk htx x0 x1
          generalize txN y kk.tx = ty at *
          generalize hyk : y.k = yk at *
          generalize brk 8 yk ty = bk at *
          generalize hae : accS x k (j + 1) = a1 at *
          generalize haj : accS x k j = aj at *
          have HAj := Lib.hid haj
          have HAe := Lib.hid hae
          have HSt := Lib.hid hstep
          clear haj hae hstep hyk
          rcases hbrk with ⟨t5, rfl⟩ | ⟨t5, t4, rfl⟩ | ⟨t5, t4, rfl⟩
          · have u5 : (yk == 5) = true := by simpa using t5
            have V := trivial
            clear t5 V
            by_cases hj0 : j = 0
            · have HA1 := Lib.hid (HSt.out.trans (if_pos hj0))
              subst hj0
              go_wp2_with (go_at_call 74; refine (HC.out).mono ?_; rintro e w3 ⟨rfl, hb3⟩; have HB3 := Lib.hid hb3; clear hb3)
              have HB4 : Hid (Below w1.heap.size w1 w3) := HBel.out.trans (HB3.out.mono HBel.out.size)
              go_roundw
              case rel => exact ⟨0 + 1, s + kk.size + 1, r', done ++ [s], by go_num, congrArg Value.string (by rw [HAe.out, HA1.out, HAj.out]), HDj2.out, by have := HJr.out; omega, HB4.out, HNx.out.1, HD2.out, HNx.out.2.1, HNx.out.2.2.1, HNx.out.2.2.2.1, HNx.out.2.2.2.2⟩
              case measure => simp [intOf]; omega
            · have HA1 := Lib.hid (HSt.out.trans (if_neg hj0))
              have hjp : 0 < j := by omega
              clear hj0
              go_wp2_with (go_at_call 74; refine (HC.out).mono ?_; rintro e w3 ⟨rfl, hb3⟩; have HB3 := Lib.hid hb3; clear hb3)
              have HB4 : Hid (Below w1.heap.size w1 w3) := HBel.out.trans (HB3.out.mono HBel.out.size)
              go_roundw
              case rel => exact ⟨j + 1, s + kk.size + 1, r', done ++ [s], by go_num, congrArg Value.string (by rw [HAe.out, HA1.out, app_nil]), HDj2.out, by have := HJr.out; omega, HB4.out, HNx.out.1, HD2.out, HNx.out.2.1, HNx.out.2.2.1, HNx.out.2.2.2.1, HNx.out.2.2.2.2⟩
              case measure => simp [intOf]; omega
          · have u5 : (yk == 5) = false := by simpa using t5
            have u4 : (yk == 4) = true := by simpa using t4
            clear t5 t4
            by_cases hj0 : j = 0
            · have HA1 := Lib.hid (HSt.out.trans (if_pos hj0))
              subst hj0
              go_wp2_with (go_at_call 74; refine (HC.out).mono ?_; rintro e w3 ⟨rfl, hb3⟩; have HB3 := Lib.hid hb3; clear hb3)
              have HB4 : Hid (Below w1.heap.size w1 w3) := HBel.out.trans (HB3.out.mono HBel.out.size)
              go_roundw
              case rel => exact ⟨0 + 1, s + kk.size + 1, r', done ++ [s], by go_num, congrArg Value.string (by rw [HAe.out, HA1.out, HAj.out]), HDj2.out, by have := HJr.out; omega, HB4.out, HNx.out.1, HD2.out, HNx.out.2.1, HNx.out.2.2.1, HNx.out.2.2.2.1, HNx.out.2.2.2.2⟩
              case measure => simp [intOf]; omega
            · have HA1 := Lib.hid (HSt.out.trans (if_neg hj0))
              have hjp : 0 < j := by omega
              clear hj0
              go_wp2_with (go_at_call 74; refine (HC.out).mono ?_; rintro e w3 ⟨rfl, hb3⟩; have HB3 := Lib.hid hb3; clear hb3)
              have HB4 : Hid (Below w1.heap.size w1 w3) := HBel.out.trans (HB3.out.mono HBel.out.size)
              go_roundw
              case rel => exact ⟨j + 1, s + kk.size + 1, r', done ++ [s], by go_num, congrArg Value.string (by rw [HAe.out, HA1.out, app_nil]), HDj2.out, by have := HJr.out; omega, HB4.out, HNx.out.1, HD2.out, HNx.out.2.1, HNx.out.2.2.1, HNx.out.2.2.2.1, HNx.out.2.2.2.2⟩
              case measure => simp [intOf]; omega
          · have u5 : (yk == 5) = false := by simpa using t5
            have u4 : (yk == 4) = false := by simpa using t4
            clear t5 t4
            by_cases hj0 : j = 0
            · have HA1 := Lib.hid (HSt.out.trans (if_pos hj0))
              subst hj0
              go_wp2_with (go_at_call 74; refine (HC.out).mono ?_; rintro e w3 ⟨rfl, hb3⟩; have HB3 := Lib.hid hb3; clear hb3)
              have HB4 : Hid (Below w1.heap.size w1 w3) := HBel.out.trans (HB3.out.mono HBel.out.size)
              go_roundw
              case rel => exact ⟨0 + 1, s + kk.size + 1, r', done ++ [s], by go_num, congrArg Value.string (by rw [HAe.out, HA1.out, HAj.out]), HDj2.out, by have := HJr.out; omega, HB4.out, HNx.out.1, HD2.out, HNx.out.2.1, HNx.out.2.2.1, HNx.out.2.2.2.1, HNx.out.2.2.2.2⟩
              case measure => simp [intOf]; omega
            · have HA1 := Lib.hid (HSt.out.trans (if_neg hj0))
              have hjp : 0 < j := by omega
              clear hj0
              go_wp2_with (go_at_call 74; refine (HC.out).mono ?_; rintro e w3 ⟨rfl, hb3⟩; have HB3 := Lib.hid hb3; clear hb3)
              have HB4 : Hid (Below w1.heap.size w1 w3) := HBel.out.trans (HB3.out.mono HBel.out.size)
              go_roundw
              case rel => exact ⟨j + 1, s + kk.size + 1, r', done ++ [s], by go_num, congrArg Value.string (by rw [HAe.out, HA1.out, app_nil]), HDj2.out, by have := HJr.out; omega, HB4.out, HNx.out.1, HD2.out, HNx.out.2.1, HNx.out.2.2.1, HNx.out.2.2.2.1, HNx.out.2.2.2.2⟩
              case measure => simp [intOf]; omega
        · obtain rfl : j = k.len := by omega
          have hsg := signK_size x.k
          have HTy : Hid (signK x.k = signK _) := congrArg signK HKx.out
          generalize accS x k k.len = acc at *
          go_wp2_with fail
          go_ret
          refine ⟨congrArg (fun t => Ending.returned (.string t)) ?_, HB2.out⟩
          rw [HTx.out, HTy.out]
          first | rfl | exact (app_nil _).symm
theorem rText_all : ∀ n, TxOk n
  | 0 => fun v N p x k R w hk => by omega
  | n + 1 => rText_step n (rText_all n)
end Go.Proofs.YtkmjmfcanlknjaaGreat
namespace Go.Proofs.YtkmjmfcanlknjaaGreat
open Go.Shelf
def Tryz.lays156_ren : Go.Shelf.Ren := ⟨fun | 156 => 133 | 165 => 154 | 166 => 91 | 169 => 92 | 240 => 119 | 241 => 164 | 276 => 135 | 277 => 167 | n => n, fun | 31 => 40 | 9 => 9 | 3 => 3 | 4 => 4 | 0 => 0 | 20 => 20 | 72 => 119 | 76 => 123 | 70 => 116 | 37 => 117 | 75 => 122 | 127 => 148 | 164 => 164 | 5 => 5 | 80 => 125 | n => n, fun | n => n⟩
theorem Tryz.lays156 : Go.Proofs.Lays.n156 Tryz.prog Tryz.lays156_ren := {
  mixed := by kernel_rfl
  f156 := Tryz.func133.trans (congrArg some (by kernel_rfl))
  f165 := Tryz.func154.trans (congrArg some (by kernel_rfl))
  f166 := Tryz.func91.trans (congrArg some (by kernel_rfl))
  f169 := Tryz.func92.trans (congrArg some (by kernel_rfl))
  f240 := Tryz.func119.trans (congrArg some (by kernel_rfl))
  f241 := Tryz.func164.trans (congrArg some (by kernel_rfl))
  f276 := Tryz.func135.trans (congrArg some (by kernel_rfl))
  f277 := Tryz.func167.trans (congrArg some (by kernel_rfl))
  t0 := Tryz.underlying0
  a0 := Tryz.isAgg0
  z0 := Tryz.sizeOf0
  v0 := Tryz.zeroValue0
  t3 := Tryz.underlying3
  a3 := Tryz.isAgg3
  z3 := Tryz.sizeOf3
  v3 := Tryz.zeroValue3
  t4 := Tryz.underlying4
  a4 := Tryz.isAgg4
  z4 := Tryz.sizeOf4
  v4 := Tryz.zeroValue4
  t9 := Tryz.underlying9
  a9 := Tryz.isAgg9
  z9 := Tryz.sizeOf9
  v9 := Tryz.zeroValue9
  t20 := Tryz.underlying20
  a20 := Tryz.isAgg20
  z20 := Tryz.sizeOf20
  v20 := Tryz.zeroValue20
  t31 := Tryz.underlying40
  a31 := Tryz.isAgg40
  z31 := Tryz.sizeOf40
  v31 := Tryz.zeroValue40
  t37 := Tryz.underlying117
  a37 := Tryz.isAgg117
  z37 := Tryz.sizeOf117
  v37 := Tryz.zeroValue117
  t70 := Tryz.underlying116
  a70 := Tryz.isAgg116
  z70 := Tryz.sizeOf116
  v70 := Tryz.zeroValue116
  t72 := Tryz.underlying119
  a72 := Tryz.isAgg119
  z72 := Tryz.sizeOf119
  v72 := Tryz.zeroValue119
  t75 := Tryz.underlying122
  a75 := Tryz.isAgg122
  z75 := Tryz.sizeOf122
  v75 := Tryz.zeroValue122
  t76 := Tryz.underlying123
  a76 := Tryz.isAgg123
  z76 := Tryz.sizeOf123
  v76 := Tryz.zeroValue123
  t127 := Tryz.underlying148
  a127 := Tryz.isAgg148
  z127 := Tryz.sizeOf148
  v127 := Tryz.zeroValue148
  t164 := Tryz.underlying164
  a164 := Tryz.isAgg164
  z164 := Tryz.sizeOf164
  v164 := Tryz.zeroValue164 }
theorem Tryz.Builder_Extra_156 : Builder.Extra Tryz.prog Tryz.lays156_ren := {
  sizeBuilder := by kernel_rfl
  liesBuilder := by kernel_rfl
  t5 := Tryz.underlying5
  a5 := Tryz.isAgg5
  z5 := Tryz.sizeOf5
  v5 := Tryz.zeroValue5
  infoByte := by kernel_rfl
  cellsByte := by kernel_rfl
  sizeByte := by kernel_rfl
  neB5 := by decide }
open Go.RowKit in
theorem Tryz.strings_Join_none (a : Option Addr) (c : Nat) (sep : ByteArray) (w : World) :
    Calls Tryz.prog 133 #[.slice a 0 c, .string sep] w fun e w' => e = .returned (.string ⟨#[]⟩) ∧ w' = w := Any.strings_Join_none Tryz.lays156 Tryz.Builder_Extra_156 a c sep w
open Go.RowKit in
theorem Tryz.strings_Join (bk o c : Nat) (xs : List ByteArray) (sep : ByteArray) (w : World) (hcells : ∀ (j : Nat) x, xs[j]? = some x → w.cell? ⟨bk, o + j, none⟩ = some (.string x)) (hbk : bk < w.heap.size) (hN : xs.length ≤ 140737488355328) (hcap : xs.length ≤ c) (hlen : (Lib.join (xs.map (·.data.toList)) sep.data.toList).length ≤ 140737488355328) :
    Calls Tryz.prog 133 #[.slice (some ⟨bk, o, none⟩) xs.length c, .string sep] w fun e w' => e = .returned (.string ⟨(Lib.join (xs.map (·.data.toList)) sep.data.toList).toArray⟩) ∧ Below w.heap.size w w' := Any.strings_Join Tryz.lays156 Tryz.Builder_Extra_156 bk o c xs sep w hcells hbk hN hcap hlen
end Go.Proofs.YtkmjmfcanlknjaaGreat
namespace Go.Proofs.YtkmjmfcanlknjaaGreat
open Go.RowKit Go.Shelf

set_option maxHeartbeats 400000 in
theorem xSign_any (k : Int) (w : World) : Calls Tryz.prog 134 #[.int .i64 k] w fun e w' => e = .returned (.string (signK k)) ∧ w = w' := by
  go_enter Tryz.func134, Tryz.ntmps134
  go_wp2
  all_goals go_ret
  all_goals refine ⟨?_, rfl⟩
  all_goals simp_all [signK]

theorem elemStr : ElemOK Tryz.prog 40 9 1 16 :=
  ElemOK.mk' (z := .string ⟨#[]⟩) Tryz.underlying40 (by kernel_rfl) rfl (by decide)
def strs (l : List ByteArray) : List Value := l.map Value.string
def OwnStr (w : World) (B : Nat) (v : Value) (l : List ByteArray) : Prop := w.ownsRow B 9 1 v l.length (strs l)
theorem OwnStr.snoc {w : World} {B : Nat} {v : Value} {l : List ByteArray} {m : ByteArray} (h : w.ownsRow B 9 1 v (l.length + 1) (strs l ++ [.string m])) : OwnStr w B v (l ++ [m]) := by
  unfold OwnStr strs at *; rw [List.map_append, List.length_append]; exact h
theorem take_snoc {α} (l : List α) (i : Nat) (m : α) (h : l[i]? = some m) : l.take (i + 1) = l.take i ++ [m] := by
  rw [List.take_add_one, h]; rfl
/-- strings.Join of an owned list -/
theorem join_own {w : World} {B : Nat} {v : Value} {l : List ByteArray} (sep : ByteArray) (h : OwnStr w B v l) (hl : l.length ≤ 1099511627776) (hs : (joinS sep l).size ≤ 1099511627776) :
    Calls Tryz.prog 133 #[v, .string sep] w fun e w' => e = .returned (.string (joinS sep l)) ∧ Below w.heap.size w w' := by
  by_cases h0 : l = []
  · subst h0
    obtain ⟨_, ao, c, rfl, -⟩ := Rd.of_owns h
    refine (Tryz.strings_Join_none ao c sep w).mono ?_
    rintro e w' ⟨rfl, rfl⟩
    exact ⟨rfl, Below.refl _ _⟩
  · have hlen : 0 < l.length := by cases l with | nil => exact absurd rfl h0 | cons _ _ => simp
    obtain ⟨g, c, rfl, _, hg, hc, hcs⟩ := own_src h hlen
    refine Tryz.strings_Join g 0 c l sep w ?_ hg (by omega) hc ?_
    · intro j x hx
      have := hcs j (.string x) (by unfold strs; rw [List.getElem?_map, hx]; rfl)
      rw [Addr.add_lit] at this
      exact this
    · have : (joinS sep l).size = (Lib.join (l.map (·.data.toList)) sep.data.toList).length := by unfold joinS; simp [ByteArray.size]
      omega
def TRet (w : World) (t : ByteArray) (e : Ending) (w' : World) : Prop := e = .returned (.string t) ∧ Below w.heap.size w w'
/-- text answers the text of each tree of so many nodes at most -/
def TextOk (n : Nat) : Prop := ∀ (x : Nd) (k : Fo) (w : World) (b off cap : Nat), k.size + 1 ≤ n → (Fo.cons x k .nil).all mayN → (Fo.cons x k .nil).wf → NdAt w b off (Fo.cons x k .nil).flat → k.size + 1 ≤ cap →
  Calls Tryz.prog 118 #[.slice (some ⟨b, off, none⟩) (k.size + 1) cap] w (TRet w (txN x k.tx))

set_option maxRecDepth 100000 in
set_option maxHeartbeats 6400000 in
theorem xText_leaf (x : Nd) (k : Fo) (w : World) (b off cap : Nat) (hx : x.k = 1 ∨ x.k = 2 ∨ x.k = 3) (h : NdAt w b off (Fo.cons x k .nil).flat) :
    Calls Tryz.prog 118 #[.slice (some ⟨b, off, none⟩) (k.size + 1) cap] w (TRet w (txN x k.tx)) := by
  have hb := h.lt
  obtain ⟨c0, c1, c2⟩ := h.cell 0 x rfl
  rw [Nat.zero_mul, Nat.add_zero] at c0 c1 c2
  have hT : Hid (txN x k.tx = if x.k = 1 then ⟨#[37]⟩ else x.n) := by
    unfold Hid txN
    rcases hx with h | h | h
    · rw [if_pos h, if_pos h]
    · rw [if_neg (by omega), if_pos (.inl h), if_neg (by omega)]
    · rw [if_neg (by omega), if_pos (.inr h), if_neg (by omega)]
  have hpos : 0 < k.size + 1 := by omega
  generalize k.size + 1 = n at *
  clear h
  rcases hx with hk | hk | hk
  all_goals
    have HK := Lib.hid hk
    rw [hk] at c0
    clear hk
    go_enter Tryz.func118, Tryz.ntmps118
    go_wp2_with fail
    go_ret
    refine ⟨congrArg (fun t => Ending.returned (.string t)) ?_, below1 _ _⟩
    rw [hT.out, HK.out]; simp

set_option maxRecDepth 100000 in
set_option maxHeartbeats 6400000 in
theorem xText_step (n : Nat) (ih : TextOk n) (x : Nd) (k : Fo) (w : World) (b off cap : Nat) (hn : k.size ≤ n) (hns : n ≤ 16777216) (hx1 : x.k ≠ 1) (hx2 : x.k ≠ 2) (hx3 : x.k ≠ 3) (hall : (Fo.cons x k .nil).all mayN) (hwf : (Fo.cons x k .nil).wf) (h : NdAt w b off (Fo.cons x k .nil).flat) (hcap : k.size + 1 ≤ cap) :
    Calls Tryz.prog 118 #[.slice (some ⟨b, off, none⟩) (k.size + 1) cap] w (TRet w (txN x k.tx)) := by
  have hb := h.lt
  have HN := Lib.hid h
  obtain ⟨c0, c1, c2⟩ := h.cell 0 x rfl
  rw [Nat.zero_mul, Nat.add_zero] at c0 c1 c2
  have HT : Hid (txN x k.tx = joinS (sepK x.k) (k.tx.map fun p => brk x.k p.1 p.2) ++ signK x.k) := by
    unfold Hid txN; rw [if_neg hx1, if_neg (by rintro (h | h); exact hx2 h; exact hx3 h)]
  have hfl : (Fo.cons x k .nil).flat.length = k.size + 1 := by rw [Fo.flat_len]; simp [Fo.size]
  have HKd : Hid (∀ wx, NdAt wx b off (Fo.cons x k .nil).flat → Calls Tryz.prog 132 #[.slice (some ⟨b, off, none⟩) (k.size + 1) cap] wx (KRet b off k wx)) := by
    intro wx hw
    have := xKids_any b off cap x k _ wx hw rfl hwf.1 hwf.2.1 (by rw [hfl]; exact hcap) (by rw [hfl]; omega)
    rw [hfl] at this
    exact this
  have HSz : Hid ((k.tx.map fun p => p.2.size + 5).sum ≤ 32 * k.size) := Fo.tx_size k (by
    have := hall.2.1
    have key : ∀ f : Fo, f.all mayN → f.all fun x => x.n.size ≤ 16 := by
      intro f
      induction f with
      | nil => intro _; trivial
      | cons y a b2 i1 i2 => intro h; exact ⟨h.1.size, i1 h.2.1, i2 h.2.2⟩
    exact key k this)
  have hpos : 0 < k.size + 1 := by omega
  have e1 : (x.k == 1) = false := by simpa using hx1
  have e2 : (x.k == 2) = false := by simpa using hx2
  have e3 : (x.k == 3) = false := by simpa using hx3
  have hsep : Hid ((x.k = 5 ∧ sepK x.k = ⟨#[32, 124, 32]⟩) ∨ (x.k ≠ 5 ∧ x.k = 4 ∧ sepK x.k = ⟨#[32]⟩) ∨ (x.k ≠ 5 ∧ x.k ≠ 4 ∧ sepK x.k = ⟨#[]⟩)) := by
    unfold Hid sepK
    by_cases h5 : x.k = 5
    · exact .inl ⟨h5, by rw [if_pos h5]⟩
    · by_cases h4 : x.k = 4
      · exact .inr (.inl ⟨h5, h4, by rw [if_neg h5, if_pos h4]⟩)
      · exact .inr (.inr ⟨h5, h4, by rw [if_neg h5, if_neg h4]⟩)
  have HAl := Lib.hid hall
  have HWf := Lib.hid hwf
  have HIh := Lib.hid ih
  clear h hx1 hx2 hx3 hall hwf ih hfl
  rcases hsep.out with ⟨h5, hs⟩ | ⟨h5, h4, hs⟩ | ⟨h5, h4, hs⟩
  · rw [hs] at HT
    have e5 : (x.k == 5) = true := by simpa using h5
    have n5 : (x.k != 5) = false := by simpa using h5
    clear hs h5
    have HJs : Hid ((joinS ⟨#[32, 124, 32]⟩ (k.tx.map fun p => brk x.k p.1 p.2)).size ≤ 1099511627776) := by
      have h1 := joinS_size ⟨#[32, 124, 32]⟩ (k.tx.map fun p => brk x.k p.1 p.2)
      rw [List.map_map] at h1
      have h4 : (k.tx.map ((fun x_1 => x_1.size + (⟨#[32, 124, 32]⟩ : ByteArray).size) ∘ fun p => brk x.k p.1 p.2)).sum ≤ (k.tx.map fun p => p.2.size + 5).sum := by
        generalize k.tx = l
        induction l with
        | nil => simp
        | cons p l ih =>
          have := brk_size x.k p.1 p.2
          have hz : (⟨#[32, 124, 32]⟩ : ByteArray).size ≤ 3 := by decide
          simp only [List.map_cons, List.sum_cons, Function.comp] at ih ⊢
          omega
      have := HSz.out
      unfold Hid; omega
    clear hsep
    go_enter Tryz.func118, Tryz.ntmps118
    go_wp2_with fail
    have hb1 : Below w.heap.size w (w.alloc (.cells #[.int .i64 x.k, .string x.n, .int .i64 x.c] 57)) := below1 _ _
    have hbx : (w.alloc (.cells #[.int .i64 x.k, .string x.n, .int .i64 x.c] 57)).heap[w.heap.size]? = some (.cells #[.int .i64 x.k, .string x.n, .int .i64 x.c] 57 (0, 0)) := World.alloc_heap_new w _
    generalize w.alloc (.cells #[.int .i64 x.k, .string x.n, .int .i64 x.c] 57) = w1 at *
    have HKd1 := Lib.hid (HKd.out w1 (HN.out.below hb1))
    have hw1 : w.heap.size < w1.heap.size := (Array.getElem?_eq_some_iff.1 hbx).1
    have HBx := Lib.hid hbx
    have HB1 := Lib.hid hb1
    clear hbx hb1 c0 c1 c2 HKd
    refine (HKd1.out).mono ?_
    rintro e w2 ⟨v2, rfl, ho2, hb2⟩
    have HO2 := Lib.hid ho2
    have HB2 : Hid (Below w.heap.size w w2) := HB1.out.trans (hb2.mono HB1.out.size)
    have HBx2 : Hid (w2.heap[w.heap.size]? = some (.cells #[.int .i64 x.k, .string x.n, .int .i64 x.c] 57 (0, 0))) := (hb2.block _ hw1).trans HBx.out
    have hw2 : w.heap.size < w2.heap.size := (Array.getElem?_eq_some_iff.1 HBx2.out).1
    obtain ⟨_, ao, cp, rfl, -⟩ := Rd.of_owns ho2
    have hkl : k.len ≤ 16777216 := by have := Fo.len_le k; omega
    clear ho2 hb2 HKd1 HB1 HBx
    go_wp2_with fail
    go_loopw [5, 28] (fun o i wr => ∃ j : Nat, i = .int .i64 j ∧ j ≤ k.len ∧ Hid (OwnStr wr w2.heap.size o ((k.tx.take j).map fun p => brk x.k p.1 p.2)) ∧ Hid (Below w2.heap.size w2 wr)) (fun _ i _ => k.len - (intOf i).toNat)
    case atStart => exact ⟨0, rfl, Nat.zero_le _, World.ownsRow_nil _ _ _ _, Below.refl _ _⟩
    case round =>
      obtain ⟨j, rfl, hj, HOwn, HBel⟩ := hrel
      have HB3 : Hid (Below w.heap.size w wr) := HB2.out.trans (HBel.out.mono HB2.out.size)
      have hwr := HBel.out.size
      by_cases hlt : j < k.len
      · obtain ⟨g, gc, e0, hg1, hg2, hg3, hcs⟩ := own_src HO2.out (by omega)
        simp only [Value.slice.injEq] at e0
        obtain ⟨rfl, -, rfl⟩ := e0
        obtain ⟨y, kk, hy1, hy2, hy3, hy4, -⟩ := Fo.get_cons k j hlt
        obtain ⟨pc, hpc⟩ : ∃ p, (k.pieces 1)[j]? = some p := ⟨_, List.getElem?_eq_getElem (by rw [Fo.pieces_len]; exact hlt)⟩
        obtain ⟨q1, qa, qb, q2, q3, q4, q5, q6⟩ := Fo.flat_get k j 1 pc hpc
        rw [hy1] at q2 q4
        have hps : pc.2 = kk.size + 1 := by rw [← q4, Fo.flat_len]; simp [Fo.size]
        have hcell := hcs j (pieceV b off pc) (by rw [List.getElem?_map, hpc]; rfl)
        rw [Addr.add_lit, Nat.zero_add] at hcell
        have X0 : wr.cell? ⟨g, j, none⟩ = some (.slice (some ⟨b, off + pc.1 * 3, none⟩) (kk.size + 1) (kk.size + 1)) := by
          rw [HBel.out.cell (p := ⟨g, j, none⟩) hg2, hcell]; unfold pieceV; rw [hps]
        have hNP : NdAt wr b (off + pc.1 * 3) (Fo.cons y kk .nil).flat := by
          have := (HN.out.below HB3.out).piece (x :: qa) (Fo.cons y kk .nil).flat qb (by simp only [Fo.flat, List.append_nil] at q2 ⊢; rw [q2]; simp)
          rw [List.length_cons, q3, show pc.1 - 1 + 1 = pc.1 from by omega] at this
          exact this
        obtain ⟨y0, -, -⟩ := hNP.cell 0 y rfl
        rw [Nat.zero_mul, Nat.add_zero] at y0
        have HNP := Lib.hid hNP
        have HTx : Hid (Calls Tryz.prog 118 #[.slice (some ⟨b, off + pc.1 * 3, none⟩) (kk.size + 1) (kk.size + 1)] wr (TRet wr (txN y kk.tx))) :=
          HIh.out y kk wr b _ _ (by omega) (by have := Fo.all_get k HAl.out.2.1 j; rw [hy1] at this; exact this) ⟨(hy4 HWf.out.2.1).1, (hy4 HWf.out.2.1).2, trivial⟩ hNP (Nat.le_refl _)
        have HTk : Hid (k.tx.take (j + 1) = k.tx.take j ++ [(y.k, txN y kk.tx)]) := take_snoc _ _ _ hy2
        have hts : (txN y kk.tx).size ≤ 1073741824 := by
          have h1 := HSz.out
          have h2 : (txN y kk.tx).size + 5 ≤ (k.tx.map fun p => p.2.size + 5).sum := by
            have hm := List.mem_of_getElem? hy2
            have : ∀ l : List (Int × ByteArray), (y.k, txN y kk.tx) ∈ l → (txN y kk.tx).size + 5 ≤ (l.map fun p => p.2.size + 5).sum := by
              intro l
              induction l with
              | nil => intro h; cases h
              | cons z l ih =>
                intro h
                rcases List.mem_cons.1 h with h | h
                · rw [← h]; simp only [List.map_cons, List.sum_cons]; omega
                · have := ih h; simp only [List.map_cons, List.sum_cons]; omega
            exact this _ hm
          omega
        have hbrk : Hid ((y.k = 5 ∧ brk x.k y.k (txN y kk.tx) = (⟨#[40]⟩ : ByteArray) ++ txN y kk.tx ++ (⟨#[41]⟩ : ByteArray)) ∨ (y.k ≠ 5 ∧ y.k = 4 ∧ brk x.k y.k (txN y kk.tx) = txN y kk.tx) ∨ (y.k ≠ 5 ∧ y.k ≠ 4 ∧ brk x.k y.k (txN y kk.tx) = txN y kk.tx)) := by
          unfold Hid brk brkB
          by_cases h5 : y.k = 5
          · exact .inl ⟨h5, by rw [h5]; rfl⟩
          · by_cases h4 : y.k = 4
            · refine .inr (.inl ⟨h5, h4, ?_⟩)
              rw [h4, n5]; rfl
            · refine .inr (.inr ⟨h5, h4, ?_⟩)
              rw [show (y.k == 5) = false from by simpa using h5, show (y.k == 4) = false from by simpa using h4]; rfl
        have hlk : ((k.tx.take j).map fun p => brk x.k p.1 p.2).length ≤ 16777216 := by rw [List.length_map, List.length_take, Fo.tx_len]; omega
        have hbsz : b < wr.heap.size := by omega
        have hkpos : 0 < kk.size + 1 := by omega
        have hgb := hg2
        clear hcs hy1 hy2 hy3 hy4 hpc q1 q2 q3 q4 q5 q6 hps hcell hNP
        generalize txN y kk.tx = ty at *
        generalize hyk : y.k = yk at *
        generalize kk.size + 1 = kn at *
        go_wp2_with fail
        refine (HTx.out).mono ?_
        rintro e w4 ⟨rfl, hb4⟩
        have HOwn4 : Hid (OwnStr w4 w2.heap.size u5 ((k.tx.take j).map fun p => brk x.k p.1 p.2)) := own_grown HOwn.out (grown_below hb4) (by simp)
        have HBel4 : Hid (Below w2.heap.size w2 w4) := HBel.out.trans (hb4.mono hwr)
        have hw4 := HBel4.out.size
        have Y0 := (hb4.cell (p := ⟨b, _, none⟩) hbsz).trans y0
        have hbx4 : w4.heap[w.heap.size]? = some (.cells #[.int .i64 x.k, .string x.n, .int .i64 x.c] 57 (0, 0)) := (HBel4.out.block _ hw2).trans HBx2.out
        have K0 : w4.cell? ⟨w.heap.size, 0, none⟩ = some (.int .i64 x.k) := by simp [World.cell?, hbx4]
        clear hb4 y0 hbx4 X0 HTx
        rcases hbrk.out with ⟨h5, hbr⟩ | ⟨h5, h4, hbr⟩ | ⟨h5, h4, hbr⟩
        · have t5 : (yk == 5) = true := by simpa using h5
          have HBr := Lib.hid hbr
          clear hbrk h5 hbr
          go_wp2_with (at_builtin; go_must (refine wpList_appG1 elemStr rfl _ _ rfl HOwn4.out rfl (news := [.string _]) rfl rfl (by intro u hu; simp at hu; subst hu; rfl) (by unfold maxLen; omega) (by omega) hw4 ?_); intro v' w5 hown5 hg5)
          have HO5 : Hid (OwnStr w5 w2.heap.size v' ((k.tx.take (j + 1)).map fun p => brk x.k p.1 p.2)) := by
            rw [HTk.out, List.map_append]
            refine OwnStr.snoc ?_
            simp only
            rw [HBr.out]
            exact hown5
          have HB5 : Hid (Below w2.heap.size w2 w5) := HBel4.out.grown hg5 hw4 (fun j hj => own_block HOwn4.out j hj)
          clear hown5 hg5
          go_roundw
          case rel => exact ⟨j + 1, by go_num, by omega, HO5.out, HB5.out⟩
          case measure => simp [intOf]; omega
        · have t5 : (yk == 5) = false := by simpa using h5
          have t4 : (yk == 4) = true := by simpa using h4
          have HBr := Lib.hid hbr
          clear hbrk h5 h4 hbr
          go_wp2_with (at_builtin; go_must (refine wpList_appG1 elemStr rfl _ _ rfl HOwn4.out rfl (news := [.string _]) rfl rfl (by intro u hu; simp at hu; subst hu; rfl) (by unfold maxLen; omega) (by omega) hw4 ?_); intro v' w5 hown5 hg5)
          have HO5 : Hid (OwnStr w5 w2.heap.size v' ((k.tx.take (j + 1)).map fun p => brk x.k p.1 p.2)) := by
            rw [HTk.out, List.map_append]
            refine OwnStr.snoc ?_
            simp only
            rw [HBr.out]
            exact hown5
          have HB5 : Hid (Below w2.heap.size w2 w5) := HBel4.out.grown hg5 hw4 (fun j hj => own_block HOwn4.out j hj)
          clear hown5 hg5
          go_roundw
          case rel => exact ⟨j + 1, by go_num, by omega, HO5.out, HB5.out⟩
          case measure => simp [intOf]; omega
        · have t5 : (yk == 5) = false := by simpa using h5
          have t4 : (yk == 4) = false := by simpa using h4
          have HBr := Lib.hid hbr
          clear hbrk h5 h4 hbr
          go_wp2_with (at_builtin; go_must (refine wpList_appG1 elemStr rfl _ _ rfl HOwn4.out rfl (news := [.string _]) rfl rfl (by intro u hu; simp at hu; subst hu; rfl) (by unfold maxLen; omega) (by omega) hw4 ?_); intro v' w5 hown5 hg5)
          have HO5 : Hid (OwnStr w5 w2.heap.size v' ((k.tx.take (j + 1)).map fun p => brk x.k p.1 p.2)) := by
            rw [HTk.out, List.map_append]
            refine OwnStr.snoc ?_
            simp only
            rw [HBr.out]
            exact hown5
          have HB5 : Hid (Below w2.heap.size w2 w5) := HBel4.out.grown hg5 hw4 (fun j hj => own_block HOwn4.out j hj)
          clear hown5 hg5
          go_roundw
          case rel => exact ⟨j + 1, by go_num, by omega, HO5.out, HB5.out⟩
          case measure => simp [intOf]; omega
      · obtain rfl : j = k.len := by omega
        have hall : (k.tx.take k.len) = k.tx := List.take_of_length_le (by rw [Fo.tx_len]; exact Nat.le_refl _)
        rw [hall] at HOwn
        have hlk : (k.tx.map fun p => brk x.k p.1 p.2).length ≤ 1099511627776 := by rw [List.length_map, Fo.tx_len]; omega
        have HJ := Lib.hid (join_own ⟨#[32, 124, 32]⟩ (own_grown HOwn.out (grown_drewN wr 1 none) (by simp)) hlk HJs.out)
        have HSg := Lib.hid (xSign_any x.k)
        have hbx4 : wr.heap[w.heap.size]? = some (.cells #[.int .i64 x.k, .string x.n, .int .i64 x.c] 57 (0, 0)) := (HBel.out.block _ hw2).trans HBx2.out
        have K0 : wr.cell? ⟨w.heap.size, 0, none⟩ = some (.int .i64 x.k) := by simp [World.cell?, hbx4]
        obtain ⟨_, ao5, cp5, rfl, -⟩ := Rd.of_owns HOwn.out
        have hs1 := HJs.out
        have hs2 := signK_size x.k
        generalize (k.tx.map fun p => brk x.k p.1 p.2) = parts at *
        generalize joinS ⟨#[32, 124, 32]⟩ parts = js at *
        generalize signK x.k = sg at *
        have hwlt : w.heap.size < wr.heap.size := by omega
        have hsum : ¬ 9223372036854775807 < js.size + sg.size := by omega
        clear hbx4 hall
        go_wp2_with fail
        go_region_held3 (fun w' => w'.cell? ⟨w.heap.size, 0, none⟩ = some (.int .i64 x.k)) (first | go_keep | exact k0)
          (first
            | (go_at_call 133; refine (HJ.out).mono ?_; rintro e w5 ⟨rfl, hb5⟩; have k0 : w5.cell? ⟨w.heap.size, 0, none⟩ = some (.int .i64 x.k) := (hb5.cell (p := ⟨w.heap.size, 0, none⟩) hwlt).trans K0)
            | (go_at_call 134; refine (HSg.out _).mono ?_; rintro e w' ⟨rfl, rfl⟩))
        all_goals
          go_wp2_with fail
          go_ret
          exact ⟨congrArg (fun t => Ending.returned (.string t)) HT.out.symm, HB3.out.trans ((Below.trans (below_drewN (Below.refl wr.heap.size wr) 1) hb5).mono HB3.out.size)⟩
  · rw [hs] at HT
    have e5 : (x.k == 5) = false := by simpa using h5
    have e4 : (x.k == 4) = true := by simpa using h4
    have n5 : (x.k != 5) = true := by simpa using h5
    clear hs h5 h4
    have HJs : Hid ((joinS ⟨#[32]⟩ (k.tx.map fun p => brk x.k p.1 p.2)).size ≤ 1099511627776) := by
      have h1 := joinS_size ⟨#[32]⟩ (k.tx.map fun p => brk x.k p.1 p.2)
      rw [List.map_map] at h1
      have h4 : (k.tx.map ((fun x_1 => x_1.size + (⟨#[32]⟩ : ByteArray).size) ∘ fun p => brk x.k p.1 p.2)).sum ≤ (k.tx.map fun p => p.2.size + 5).sum := by
        generalize k.tx = l
        induction l with
        | nil => simp
        | cons p l ih =>
          have := brk_size x.k p.1 p.2
          have hz : (⟨#[32]⟩ : ByteArray).size ≤ 3 := by decide
          simp only [List.map_cons, List.sum_cons, Function.comp] at ih ⊢
          omega
      have := HSz.out
      unfold Hid; omega
    clear hsep
    go_enter Tryz.func118, Tryz.ntmps118
    go_wp2_with fail
    have hb1 : Below w.heap.size w (w.alloc (.cells #[.int .i64 x.k, .string x.n, .int .i64 x.c] 57)) := below1 _ _
    have hbx : (w.alloc (.cells #[.int .i64 x.k, .string x.n, .int .i64 x.c] 57)).heap[w.heap.size]? = some (.cells #[.int .i64 x.k, .string x.n, .int .i64 x.c] 57 (0, 0)) := World.alloc_heap_new w _
    generalize w.alloc (.cells #[.int .i64 x.k, .string x.n, .int .i64 x.c] 57) = w1 at *
    have HKd1 := Lib.hid (HKd.out w1 (HN.out.below hb1))
    have hw1 : w.heap.size < w1.heap.size := (Array.getElem?_eq_some_iff.1 hbx).1
    have HBx := Lib.hid hbx
    have HB1 := Lib.hid hb1
    clear hbx hb1 c0 c1 c2 HKd
    refine (HKd1.out).mono ?_
    rintro e w2 ⟨v2, rfl, ho2, hb2⟩
    have HO2 := Lib.hid ho2
    have HB2 : Hid (Below w.heap.size w w2) := HB1.out.trans (hb2.mono HB1.out.size)
    have HBx2 : Hid (w2.heap[w.heap.size]? = some (.cells #[.int .i64 x.k, .string x.n, .int .i64 x.c] 57 (0, 0))) := (hb2.block _ hw1).trans HBx.out
    have hw2 : w.heap.size < w2.heap.size := (Array.getElem?_eq_some_iff.1 HBx2.out).1
    obtain ⟨_, ao, cp, rfl, -⟩ := Rd.of_owns ho2
    have hkl : k.len ≤ 16777216 := by have := Fo.len_le k; omega
    clear ho2 hb2 HKd1 HB1 HBx
    go_wp2_with fail
    go_loopw [5, 28] (fun o i wr => ∃ j : Nat, i = .int .i64 j ∧ j ≤ k.len ∧ Hid (OwnStr wr w2.heap.size o ((k.tx.take j).map fun p => brk x.k p.1 p.2)) ∧ Hid (Below w2.heap.size w2 wr)) (fun _ i _ => k.len - (intOf i).toNat)
    case atStart => exact ⟨0, rfl, Nat.zero_le _, World.ownsRow_nil _ _ _ _, Below.refl _ _⟩
    case round =>
      obtain ⟨j, rfl, hj, HOwn, HBel⟩ := hrel
      have HB3 : Hid (Below w.heap.size w wr) := HB2.out.trans (HBel.out.mono HB2.out.size)
      have hwr := HBel.out.size
      by_cases hlt : j < k.len
      · obtain ⟨g, gc, e0, hg1, hg2, hg3, hcs⟩ := own_src HO2.out (by omega)
        simp only [Value.slice.injEq] at e0
        obtain ⟨rfl, -, rfl⟩ := e0
        obtain ⟨y, kk, hy1, hy2, hy3, hy4, -⟩ := Fo.get_cons k j hlt
        obtain ⟨pc, hpc⟩ : ∃ p, (k.pieces 1)[j]? = some p := ⟨_, List.getElem?_eq_getElem (by rw [Fo.pieces_len]; exact hlt)⟩
        obtain ⟨q1, qa, qb, q2, q3, q4, q5, q6⟩ := Fo.flat_get k j 1 pc hpc
        rw [hy1] at q2 q4
        have hps : pc.2 = kk.size + 1 := by rw [← q4, Fo.flat_len]; simp [Fo.size]
        have hcell := hcs j (pieceV b off pc) (by rw [List.getElem?_map, hpc]; rfl)
        rw [Addr.add_lit, Nat.zero_add] at hcell
        have X0 : wr.cell? ⟨g, j, none⟩ = some (.slice (some ⟨b, off + pc.1 * 3, none⟩) (kk.size + 1) (kk.size + 1)) := by
          rw [HBel.out.cell (p := ⟨g, j, none⟩) hg2, hcell]; unfold pieceV; rw [hps]
        have hNP : NdAt wr b (off + pc.1 * 3) (Fo.cons y kk .nil).flat := by
          have := (HN.out.below HB3.out).piece (x :: qa) (Fo.cons y kk .nil).flat qb (by simp only [Fo.flat, List.append_nil] at q2 ⊢; rw [q2]; simp)
          rw [List.length_cons, q3, show pc.1 - 1 + 1 = pc.1 from by omega] at this
          exact this
        obtain ⟨y0, -, -⟩ := hNP.cell 0 y rfl
        rw [Nat.zero_mul, Nat.add_zero] at y0
        have HNP := Lib.hid hNP
        have HTx : Hid (Calls Tryz.prog 118 #[.slice (some ⟨b, off + pc.1 * 3, none⟩) (kk.size + 1) (kk.size + 1)] wr (TRet wr (txN y kk.tx))) :=
          HIh.out y kk wr b _ _ (by omega) (by have := Fo.all_get k HAl.out.2.1 j; rw [hy1] at this; exact this) ⟨(hy4 HWf.out.2.1).1, (hy4 HWf.out.2.1).2, trivial⟩ hNP (Nat.le_refl _)
        have HTk : Hid (k.tx.take (j + 1) = k.tx.take j ++ [(y.k, txN y kk.tx)]) := take_snoc _ _ _ hy2
        have hts : (txN y kk.tx).size ≤ 1073741824 := by
          have h1 := HSz.out
          have h2 : (txN y kk.tx).size + 5 ≤ (k.tx.map fun p => p.2.size + 5).sum := by
            have hm := List.mem_of_getElem? hy2
            have : ∀ l : List (Int × ByteArray), (y.k, txN y kk.tx) ∈ l → (txN y kk.tx).size + 5 ≤ (l.map fun p => p.2.size + 5).sum := by
              intro l
              induction l with
              | nil => intro h; cases h
              | cons z l ih =>
                intro h
                rcases List.mem_cons.1 h with h | h
                · rw [← h]; simp only [List.map_cons, List.sum_cons]; omega
                · have := ih h; simp only [List.map_cons, List.sum_cons]; omega
            exact this _ hm
          omega
        have hbrk : Hid ((y.k = 5 ∧ brk x.k y.k (txN y kk.tx) = (⟨#[40]⟩ : ByteArray) ++ txN y kk.tx ++ (⟨#[41]⟩ : ByteArray)) ∨ (y.k ≠ 5 ∧ y.k = 4 ∧ brk x.k y.k (txN y kk.tx) = (⟨#[40]⟩ : ByteArray) ++ txN y kk.tx ++ (⟨#[41]⟩ : ByteArray)) ∨ (y.k ≠ 5 ∧ y.k ≠ 4 ∧ brk x.k y.k (txN y kk.tx) = txN y kk.tx)) := by
          unfold Hid brk brkB
          by_cases h5 : y.k = 5
          · exact .inl ⟨h5, by rw [h5]; rfl⟩
          · by_cases h4 : y.k = 4
            · refine .inr (.inl ⟨h5, h4, ?_⟩)
              rw [h4, n5]; rfl
            · refine .inr (.inr ⟨h5, h4, ?_⟩)
              rw [show (y.k == 5) = false from by simpa using h5, show (y.k == 4) = false from by simpa using h4]; rfl
        have hlk : ((k.tx.take j).map fun p => brk x.k p.1 p.2).length ≤ 16777216 := by rw [List.length_map, List.length_take, Fo.tx_len]; omega
        have hbsz : b < wr.heap.size := by omega
        have hkpos : 0 < kk.size + 1 := by omega
        have hgb := hg2
        clear hcs hy1 hy2 hy3 hy4 hpc q1 q2 q3 q4 q5 q6 hps hcell hNP
        generalize txN y kk.tx = ty at *
        generalize hyk : y.k = yk at *
        generalize kk.size + 1 = kn at *
        go_wp2_with fail
        refine (HTx.out).mono ?_
        rintro e w4 ⟨rfl, hb4⟩
        have HOwn4 : Hid (OwnStr w4 w2.heap.size u5 ((k.tx.take j).map fun p => brk x.k p.1 p.2)) := own_grown HOwn.out (grown_below hb4) (by simp)
        have HBel4 : Hid (Below w2.heap.size w2 w4) := HBel.out.trans (hb4.mono hwr)
        have hw4 := HBel4.out.size
        have Y0 := (hb4.cell (p := ⟨b, _, none⟩) hbsz).trans y0
        have hbx4 : w4.heap[w.heap.size]? = some (.cells #[.int .i64 x.k, .string x.n, .int .i64 x.c] 57 (0, 0)) := (HBel4.out.block _ hw2).trans HBx2.out
        have K0 : w4.cell? ⟨w.heap.size, 0, none⟩ = some (.int .i64 x.k) := by simp [World.cell?, hbx4]
        clear hb4 y0 hbx4 X0 HTx
        rcases hbrk.out with ⟨h5, hbr⟩ | ⟨h5, h4, hbr⟩ | ⟨h5, h4, hbr⟩
        · have t5 : (yk == 5) = true := by simpa using h5
          have HBr := Lib.hid hbr
          clear hbrk h5 hbr
          go_wp2_with (at_builtin; go_must (refine wpList_appG1 elemStr rfl _ _ rfl HOwn4.out rfl (news := [.string _]) rfl rfl (by intro u hu; simp at hu; subst hu; rfl) (by unfold maxLen; omega) (by omega) hw4 ?_); intro v' w5 hown5 hg5)
          have HO5 : Hid (OwnStr w5 w2.heap.size v' ((k.tx.take (j + 1)).map fun p => brk x.k p.1 p.2)) := by
            rw [HTk.out, List.map_append]
            refine OwnStr.snoc ?_
            simp only
            rw [HBr.out]
            exact hown5
          have HB5 : Hid (Below w2.heap.size w2 w5) := HBel4.out.grown hg5 hw4 (fun j hj => own_block HOwn4.out j hj)
          clear hown5 hg5
          go_roundw
          case rel => exact ⟨j + 1, by go_num, by omega, HO5.out, HB5.out⟩
          case measure => simp [intOf]; omega
        · have t5 : (yk == 5) = false := by simpa using h5
          have t4 : (yk == 4) = true := by simpa using h4
          have HBr := Lib.hid hbr
          clear hbrk h5 h4 hbr
          go_wp2_with (at_builtin; go_must (refine wpList_appG1 elemStr rfl _ _ rfl HOwn4.out rfl (news := [.string _]) rfl rfl (by intro u hu; simp at hu; subst hu; rfl) (by unfold maxLen; omega) (by omega) hw4 ?_); intro v' w5 hown5 hg5)
          have HO5 : Hid (OwnStr w5 w2.heap.size v' ((k.tx.take (j + 1)).map fun p => brk x.k p.1 p.2)) := by
            rw [HTk.out, List.map_append]
            refine OwnStr.snoc ?_
            simp only
            rw [HBr.out]
            exact hown5
          have HB5 : Hid (Below w2.heap.size w2 w5) := HBel4.out.grown hg5 hw4 (fun j hj => own_block HOwn4.out j hj)
          clear hown5 hg5
          go_roundw
          case rel => exact ⟨j + 1, by go_num, by omega, HO5.out, HB5.out⟩
          case measure => simp [intOf]; omega
        · have t5 : (yk == 5) = false := by simpa using h5
          have t4 : (yk == 4) = false := by simpa using h4
          have HBr := Lib.hid hbr
          clear hbrk h5 h4 hbr
          go_wp2_with (at_builtin; go_must (refine wpList_appG1 elemStr rfl _ _ rfl HOwn4.out rfl (news := [.string _]) rfl rfl (by intro u hu; simp at hu; subst hu; rfl) (by unfold maxLen; omega) (by omega) hw4 ?_); intro v' w5 hown5 hg5)
          have HO5 : Hid (OwnStr w5 w2.heap.size v' ((k.tx.take (j + 1)).map fun p => brk x.k p.1 p.2)) := by
            rw [HTk.out, List.map_append]
            refine OwnStr.snoc ?_
            simp only
            rw [HBr.out]
            exact hown5
          have HB5 : Hid (Below w2.heap.size w2 w5) := HBel4.out.grown hg5 hw4 (fun j hj => own_block HOwn4.out j hj)
          clear hown5 hg5
          go_roundw
          case rel => exact ⟨j + 1, by go_num, by omega, HO5.out, HB5.out⟩
          case measure => simp [intOf]; omega
      · obtain rfl : j = k.len := by omega
        have hall : (k.tx.take k.len) = k.tx := List.take_of_length_le (by rw [Fo.tx_len]; exact Nat.le_refl _)
        rw [hall] at HOwn
        have hlk : (k.tx.map fun p => brk x.k p.1 p.2).length ≤ 1099511627776 := by rw [List.length_map, Fo.tx_len]; omega
        have HJ := Lib.hid (join_own ⟨#[32]⟩ (own_grown HOwn.out (grown_drewN wr 1 none) (by simp)) hlk HJs.out)
        have HSg := Lib.hid (xSign_any x.k)
        have hbx4 : wr.heap[w.heap.size]? = some (.cells #[.int .i64 x.k, .string x.n, .int .i64 x.c] 57 (0, 0)) := (HBel.out.block _ hw2).trans HBx2.out
        have K0 : wr.cell? ⟨w.heap.size, 0, none⟩ = some (.int .i64 x.k) := by simp [World.cell?, hbx4]
        obtain ⟨_, ao5, cp5, rfl, -⟩ := Rd.of_owns HOwn.out
        have hs1 := HJs.out
        have hs2 := signK_size x.k
        generalize (k.tx.map fun p => brk x.k p.1 p.2) = parts at *
        generalize joinS ⟨#[32]⟩ parts = js at *
        generalize signK x.k = sg at *
        have hwlt : w.heap.size < wr.heap.size := by omega
        have hsum : ¬ 9223372036854775807 < js.size + sg.size := by omega
        clear hbx4 hall
        go_wp2_with fail
        go_region_held3 (fun w' => w'.cell? ⟨w.heap.size, 0, none⟩ = some (.int .i64 x.k)) (first | go_keep | exact k0)
          (first
            | (go_at_call 133; refine (HJ.out).mono ?_; rintro e w5 ⟨rfl, hb5⟩; have k0 : w5.cell? ⟨w.heap.size, 0, none⟩ = some (.int .i64 x.k) := (hb5.cell (p := ⟨w.heap.size, 0, none⟩) hwlt).trans K0)
            | (go_at_call 134; refine (HSg.out _).mono ?_; rintro e w' ⟨rfl, rfl⟩))
        all_goals
          go_wp2_with fail
          go_ret
          exact ⟨congrArg (fun t => Ending.returned (.string t)) HT.out.symm, HB3.out.trans ((Below.trans (below_drewN (Below.refl wr.heap.size wr) 1) hb5).mono HB3.out.size)⟩
  · rw [hs] at HT
    have e5 : (x.k == 5) = false := by simpa using h5
    have e4 : (x.k == 4) = false := by simpa using h4
    have n5 : (x.k != 5) = true := by simpa using h5
    clear hs h5 h4
    have HJs : Hid ((joinS ⟨#[]⟩ (k.tx.map fun p => brk x.k p.1 p.2)).size ≤ 1099511627776) := by
      have h1 := joinS_size ⟨#[]⟩ (k.tx.map fun p => brk x.k p.1 p.2)
      rw [List.map_map] at h1
      have h4 : (k.tx.map ((fun x_1 => x_1.size + (⟨#[]⟩ : ByteArray).size) ∘ fun p => brk x.k p.1 p.2)).sum ≤ (k.tx.map fun p => p.2.size + 5).sum := by
        generalize k.tx = l
        induction l with
        | nil => simp
        | cons p l ih =>
          have := brk_size x.k p.1 p.2
          have hz : (⟨#[]⟩ : ByteArray).size ≤ 3 := by decide
          simp only [List.map_cons, List.sum_cons, Function.comp] at ih ⊢
          omega
      have := HSz.out
      unfold Hid; omega
    clear hsep
    go_enter Tryz.func118, Tryz.ntmps118
    go_wp2_with fail
    have hb1 : Below w.heap.size w (w.alloc (.cells #[.int .i64 x.k, .string x.n, .int .i64 x.c] 57)) := below1 _ _
    have hbx : (w.alloc (.cells #[.int .i64 x.k, .string x.n, .int .i64 x.c] 57)).heap[w.heap.size]? = some (.cells #[.int .i64 x.k, .string x.n, .int .i64 x.c] 57 (0, 0)) := World.alloc_heap_new w _
    generalize w.alloc (.cells #[.int .i64 x.k, .string x.n, .int .i64 x.c] 57) = w1 at *
    have HKd1 := Lib.hid (HKd.out w1 (HN.out.below hb1))
    have hw1 : w.heap.size < w1.heap.size := (Array.getElem?_eq_some_iff.1 hbx).1
    have HBx := Lib.hid hbx
    have HB1 := Lib.hid hb1
    clear hbx hb1 c0 c1 c2 HKd
    refine (HKd1.out).mono ?_
    rintro e w2 ⟨v2, rfl, ho2, hb2⟩
    have HO2 := Lib.hid ho2
    have HB2 : Hid (Below w.heap.size w w2) := HB1.out.trans (hb2.mono HB1.out.size)
    have HBx2 : Hid (w2.heap[w.heap.size]? = some (.cells #[.int .i64 x.k, .string x.n, .int .i64 x.c] 57 (0, 0))) := (hb2.block _ hw1).trans HBx.out
    have hw2 : w.heap.size < w2.heap.size := (Array.getElem?_eq_some_iff.1 HBx2.out).1
    obtain ⟨_, ao, cp, rfl, -⟩ := Rd.of_owns ho2
    have hkl : k.len ≤ 16777216 := by have := Fo.len_le k; omega
    clear ho2 hb2 HKd1 HB1 HBx
    go_wp2_with fail
    go_loopw [5, 28] (fun o i wr => ∃ j : Nat, i = .int .i64 j ∧ j ≤ k.len ∧ Hid (OwnStr wr w2.heap.size o ((k.tx.take j).map fun p => brk x.k p.1 p.2)) ∧ Hid (Below w2.heap.size w2 wr)) (fun _ i _ => k.len - (intOf i).toNat)
    case atStart => exact ⟨0, rfl, Nat.zero_le _, World.ownsRow_nil _ _ _ _, Below.refl _ _⟩
    case round =>
      obtain ⟨j, rfl, hj, HOwn, HBel⟩ := hrel
      have HB3 : Hid (Below w.heap.size w wr) := HB2.out.trans (HBel.out.mono HB2.out.size)
      have hwr := HBel.out.size
      by_cases hlt : j < k.len
      · obtain ⟨g, gc, e0, hg1, hg2, hg3, hcs⟩ := own_src HO2.out (by omega)
        simp only [Value.slice.injEq] at e0
        obtain ⟨rfl, -, rfl⟩ := e0
        obtain ⟨y, kk, hy1, hy2, hy3, hy4, -⟩ := Fo.get_cons k j hlt
        obtain ⟨pc, hpc⟩ : ∃ p, (k.pieces 1)[j]? = some p := ⟨_, List.getElem?_eq_getElem (by rw [Fo.pieces_len]; exact hlt)⟩
        obtain ⟨q1, qa, qb, q2, q3, q4, q5, q6⟩ := Fo.flat_get k j 1 pc hpc
        rw [hy1] at q2 q4
        have hps : pc.2 = kk.size + 1 := by rw [← q4, Fo.flat_len]; simp [Fo.size]
        have hcell := hcs j (pieceV b off pc) (by rw [List.getElem?_map, hpc]; rfl)
        rw [Addr.add_lit, Nat.zero_add] at hcell
        have X0 : wr.cell? ⟨g, j, none⟩ = some (.slice (some ⟨b, off + pc.1 * 3, none⟩) (kk.size + 1) (kk.size + 1)) := by
          rw [HBel.out.cell (p := ⟨g, j, none⟩) hg2, hcell]; unfold pieceV; rw [hps]
        have hNP : NdAt wr b (off + pc.1 * 3) (Fo.cons y kk .nil).flat := by
          have := (HN.out.below HB3.out).piece (x :: qa) (Fo.cons y kk .nil).flat qb (by simp only [Fo.flat, List.append_nil] at q2 ⊢; rw [q2]; simp)
          rw [List.length_cons, q3, show pc.1 - 1 + 1 = pc.1 from by omega] at this
          exact this
        obtain ⟨y0, -, -⟩ := hNP.cell 0 y rfl
        rw [Nat.zero_mul, Nat.add_zero] at y0
        have HNP := Lib.hid hNP
        have HTx : Hid (Calls Tryz.prog 118 #[.slice (some ⟨b, off + pc.1 * 3, none⟩) (kk.size + 1) (kk.size + 1)] wr (TRet wr (txN y kk.tx))) :=
          HIh.out y kk wr b _ _ (by omega) (by have := Fo.all_get k HAl.out.2.1 j; rw [hy1] at this; exact this) ⟨(hy4 HWf.out.2.1).1, (hy4 HWf.out.2.1).2, trivial⟩ hNP (Nat.le_refl _)
        have HTk : Hid (k.tx.take (j + 1) = k.tx.take j ++ [(y.k, txN y kk.tx)]) := take_snoc _ _ _ hy2
        have hts : (txN y kk.tx).size ≤ 1073741824 := by
          have h1 := HSz.out
          have h2 : (txN y kk.tx).size + 5 ≤ (k.tx.map fun p => p.2.size + 5).sum := by
            have hm := List.mem_of_getElem? hy2
            have : ∀ l : List (Int × ByteArray), (y.k, txN y kk.tx) ∈ l → (txN y kk.tx).size + 5 ≤ (l.map fun p => p.2.size + 5).sum := by
              intro l
              induction l with
              | nil => intro h; cases h
              | cons z l ih =>
                intro h
                rcases List.mem_cons.1 h with h | h
                · rw [← h]; simp only [List.map_cons, List.sum_cons]; omega
                · have := ih h; simp only [List.map_cons, List.sum_cons]; omega
            exact this _ hm
          omega
        have hbrk : Hid ((y.k = 5 ∧ brk x.k y.k (txN y kk.tx) = (⟨#[40]⟩ : ByteArray) ++ txN y kk.tx ++ (⟨#[41]⟩ : ByteArray)) ∨ (y.k ≠ 5 ∧ y.k = 4 ∧ brk x.k y.k (txN y kk.tx) = (⟨#[40]⟩ : ByteArray) ++ txN y kk.tx ++ (⟨#[41]⟩ : ByteArray)) ∨ (y.k ≠ 5 ∧ y.k ≠ 4 ∧ brk x.k y.k (txN y kk.tx) = txN y kk.tx)) := by
          unfold Hid brk brkB
          by_cases h5 : y.k = 5
          · exact .inl ⟨h5, by rw [h5]; rfl⟩
          · by_cases h4 : y.k = 4
            · refine .inr (.inl ⟨h5, h4, ?_⟩)
              rw [h4, n5]; rfl
            · refine .inr (.inr ⟨h5, h4, ?_⟩)
              rw [show (y.k == 5) = false from by simpa using h5, show (y.k == 4) = false from by simpa using h4]; rfl
        have hlk : ((k.tx.take j).map fun p => brk x.k p.1 p.2).length ≤ 16777216 := by rw [List.length_map, List.length_take, Fo.tx_len]; omega
        have hbsz : b < wr.heap.size := by omega
        have hkpos : 0 < kk.size + 1 := by omega
        have hgb := hg2
        clear hcs hy1 hy2 hy3 hy4 hpc q1 q2 q3 q4 q5 q6 hps hcell hNP
        generalize txN y kk.tx = ty at *
        generalize hyk : y.k = yk at *
        generalize kk.size + 1 = kn at *
        go_wp2_with fail
        refine (HTx.out).mono ?_
        rintro e w4 ⟨rfl, hb4⟩
        have HOwn4 : Hid (OwnStr w4 w2.heap.size u5 ((k.tx.take j).map fun p => brk x.k p.1 p.2)) := own_grown HOwn.out (grown_below hb4) (by simp)
        have HBel4 : Hid (Below w2.heap.size w2 w4) := HBel.out.trans (hb4.mono hwr)
        have hw4 := HBel4.out.size
        have Y0 := (hb4.cell (p := ⟨b, _, none⟩) hbsz).trans y0
        have hbx4 : w4.heap[w.heap.size]? = some (.cells #[.int .i64 x.k, .string x.n, .int .i64 x.c] 57 (0, 0)) := (HBel4.out.block _ hw2).trans HBx2.out
        have K0 : w4.cell? ⟨w.heap.size, 0, none⟩ = some (.int .i64 x.k) := by simp [World.cell?, hbx4]
        clear hb4 y0 hbx4 X0 HTx
        rcases hbrk.out with ⟨h5, hbr⟩ | ⟨h5, h4, hbr⟩ | ⟨h5, h4, hbr⟩
        · have t5 : (yk == 5) = true := by simpa using h5
          have HBr := Lib.hid hbr
          clear hbrk h5 hbr
          go_wp2_with (at_builtin; go_must (refine wpList_appG1 elemStr rfl _ _ rfl HOwn4.out rfl (news := [.string _]) rfl rfl (by intro u hu; simp at hu; subst hu; rfl) (by unfold maxLen; omega) (by omega) hw4 ?_); intro v' w5 hown5 hg5)
          have HO5 : Hid (OwnStr w5 w2.heap.size v' ((k.tx.take (j + 1)).map fun p => brk x.k p.1 p.2)) := by
            rw [HTk.out, List.map_append]
            refine OwnStr.snoc ?_
            simp only
            rw [HBr.out]
            exact hown5
          have HB5 : Hid (Below w2.heap.size w2 w5) := HBel4.out.grown hg5 hw4 (fun j hj => own_block HOwn4.out j hj)
          clear hown5 hg5
          go_roundw
          case rel => exact ⟨j + 1, by go_num, by omega, HO5.out, HB5.out⟩
          case measure => simp [intOf]; omega
        · have t5 : (yk == 5) = false := by simpa using h5
          have t4 : (yk == 4) = true := by simpa using h4
          have HBr := Lib.hid hbr
          clear hbrk h5 h4 hbr
          go_wp2_with (at_builtin; go_must (refine wpList_appG1 elemStr rfl _ _ rfl HOwn4.out rfl (news := [.string _]) rfl rfl (by intro u hu; simp at hu; subst hu; rfl) (by unfold maxLen; omega) (by omega) hw4 ?_); intro v' w5 hown5 hg5)
          have HO5 : Hid (OwnStr w5 w2.heap.size v' ((k.tx.take (j + 1)).map fun p => brk x.k p.1 p.2)) := by
            rw [HTk.out, List.map_append]
            refine OwnStr.snoc ?_
            simp only
            rw [HBr.out]
            exact hown5
          have HB5 : Hid (Below w2.heap.size w2 w5) := HBel4.out.grown hg5 hw4 (fun j hj => own_block HOwn4.out j hj)
          clear hown5 hg5
          go_roundw
          case rel => exact ⟨j + 1, by go_num, by omega, HO5.out, HB5.out⟩
          case measure => simp [intOf]; omega
        · have t5 : (yk == 5) = false := by simpa using h5
          have t4 : (yk == 4) = false := by simpa using h4
          have HBr := Lib.hid hbr
          clear hbrk h5 h4 hbr
          go_wp2_with (at_builtin; go_must (refine wpList_appG1 elemStr rfl _ _ rfl HOwn4.out rfl (news := [.string _]) rfl rfl (by intro u hu; simp at hu; subst hu; rfl) (by unfold maxLen; omega) (by omega) hw4 ?_); intro v' w5 hown5 hg5)
          have HO5 : Hid (OwnStr w5 w2.heap.size v' ((k.tx.take (j + 1)).map fun p => brk x.k p.1 p.2)) := by
            rw [HTk.out, List.map_append]
            refine OwnStr.snoc ?_
            simp only
            rw [HBr.out]
            exact hown5
          have HB5 : Hid (Below w2.heap.size w2 w5) := HBel4.out.grown hg5 hw4 (fun j hj => own_block HOwn4.out j hj)
          clear hown5 hg5
          go_roundw
          case rel => exact ⟨j + 1, by go_num, by omega, HO5.out, HB5.out⟩
          case measure => simp [intOf]; omega
      · obtain rfl : j = k.len := by omega
        have hall : (k.tx.take k.len) = k.tx := List.take_of_length_le (by rw [Fo.tx_len]; exact Nat.le_refl _)
        rw [hall] at HOwn
        have hlk : (k.tx.map fun p => brk x.k p.1 p.2).length ≤ 1099511627776 := by rw [List.length_map, Fo.tx_len]; omega
        have HJ := Lib.hid (join_own ⟨#[]⟩ (own_grown HOwn.out (grown_drewN wr 1 none) (by simp)) hlk HJs.out)
        have HSg := Lib.hid (xSign_any x.k)
        have hbx4 : wr.heap[w.heap.size]? = some (.cells #[.int .i64 x.k, .string x.n, .int .i64 x.c] 57 (0, 0)) := (HBel.out.block _ hw2).trans HBx2.out
        have K0 : wr.cell? ⟨w.heap.size, 0, none⟩ = some (.int .i64 x.k) := by simp [World.cell?, hbx4]
        obtain ⟨_, ao5, cp5, rfl, -⟩ := Rd.of_owns HOwn.out
        have hs1 := HJs.out
        have hs2 := signK_size x.k
        generalize (k.tx.map fun p => brk x.k p.1 p.2) = parts at *
        generalize joinS ⟨#[]⟩ parts = js at *
        generalize signK x.k = sg at *
        have hwlt : w.heap.size < wr.heap.size := by omega
        have hsum : ¬ 9223372036854775807 < js.size + sg.size := by omega
        clear hbx4 hall
        go_wp2_with fail
        go_region_held3 (fun w' => w'.cell? ⟨w.heap.size, 0, none⟩ = some (.int .i64 x.k)) (first | go_keep | exact k0)
          (first
            | (go_at_call 133; refine (HJ.out).mono ?_; rintro e w5 ⟨rfl, hb5⟩; have k0 : w5.cell? ⟨w.heap.size, 0, none⟩ = some (.int .i64 x.k) := (hb5.cell (p := ⟨w.heap.size, 0, none⟩) hwlt).trans K0)
            | (go_at_call 134; refine (HSg.out _).mono ?_; rintro e w' ⟨rfl, rfl⟩))
        all_goals
          go_wp2_with fail
          go_ret
          exact ⟨congrArg (fun t => Ending.returned (.string t)) HT.out.symm, HB3.out.trans ((Below.trans (below_drewN (Below.refl wr.heap.size wr) 1) hb5).mono HB3.out.size)⟩
theorem text_all : ∀ n, n ≤ 16777216 → TextOk n
  | 0, _ => fun x k w b off cap hk => by omega
  | n + 1, hn => fun x k w b off cap hk hall hwf h hcap => by
    by_cases hx : x.k = 1 ∨ x.k = 2 ∨ x.k = 3
    · exact xText_leaf x k w b off cap hx h
    · exact xText_step n (text_all n (by omega)) x k w b off cap (by omega) (by omega) (fun h => hx (.inl h)) (fun h => hx (.inr (.inl h))) (fun h => hx (.inr (.inr h))) hall hwf h hcap
end Go.Proofs.YtkmjmfcanlknjaaGreat
namespace Go.Proofs.YtkmjmfcanlknjaaGreat
open Go.RowKit

/-! ### plain: which nodes a reading gives -/
def vN (L : List Mk) (x : Nd) : Prop :=
  (x.k = 1 ∧ x.n = ⟨#[]⟩ ∧ x.c = 0) ∨ (x.k = 2 ∧ x.c = 0 ∧ ∃ m ∈ L, m.k = 1 ∧ x.n = m.t) ∨ (x.k = 3 ∧ x.c = 0 ∧ ∃ m ∈ L, m.k = 2 ∧ x.n = m.t) ∨
  ((x.k = 4 ∨ x.k = 5) ∧ x.n = ⟨#[]⟩ ∧ 2 ≤ x.c) ∨ ((x.k = 6 ∨ x.k = 7 ∨ x.k = 8) ∧ x.n = ⟨#[]⟩ ∧ x.c = 1)
/-- of the marks from p to q: none is of the third kind, and each name is one of a node -/
def Cov (L : List Mk) (p q : Nat) (l : List Nd) : Prop := ∀ i, p ≤ i → i < q → kd L i ≠ 3 ∧ (kd L i = 1 ∨ kd L i = 2 → ∃ x ∈ l, x.n = tx L i)
structure VF (L : List Mk) (p : Nat) (r : PR) : Prop where
  all : r.ok = true → r.f.all (vN L)
  cov : r.ok = true → Cov L p r.p r.f.flat
  pos : r.ok = true → p ≤ r.p
theorem VF.no {L : List Mk} {p : Nat} {f : Fo} {q : Nat} : VF L p ⟨false, f, q⟩ := ⟨fun h => by simp at h, fun h => by simp at h, fun h => by simp at h⟩
theorem wrap_all {L : List Mk} {k : Int} {n : Nat} {f : Fo} (hk : k = 4 ∨ k = 5) (hn : 1 ≤ n) (hf : f.all (vN L)) : (wrapF k n f).all (vN L) := by
  unfold wrapF
  split
  · exact hf
  · refine ⟨.inr (.inr (.inr (.inl ⟨hk, rfl, ?_⟩))), hf, trivial⟩
    simp only; omega
theorem wrap_sub {k : Int} {n : Nat} {f : Fo} {x : Nd} (h : x ∈ f.flat) : x ∈ (wrapF k n f).flat := by
  unfold wrapF
  split
  · exact h
  · simp [Fo.flat, h]
theorem kd_mem {L : List Mk} {p : Nat} (h : p < L.length) : ∃ m ∈ L, kd L p = m.k ∧ tx L p = m.t := by
  have hm : L[p]? = some L[p] := List.getElem?_eq_getElem h
  exact ⟨L[p], List.getElem_mem h, kd_some hm, tx_some hm⟩
theorem leaf_vf {L : List Mk} {p : Nat} {k : Int} {t : ByteArray} (hv : vN L ⟨k, t, 0⟩) (h3 : kd L p ≠ 3) (hn : kd L p = 1 ∨ kd L p = 2 → t = tx L p) : VF L p ⟨true, leafF k t, p + 1⟩ := by
  refine ⟨fun _ => ⟨hv, trivial, trivial⟩, fun _ i h1 h2 => ?_, fun _ => by simp⟩
  simp only at h2
  obtain rfl : i = p := by omega
  exact ⟨h3, fun h => ⟨⟨k, t, 0⟩, by simp [leafF, Fo.flat], hn h⟩⟩
theorem pAtom_vf {E : Nat → PR} {L : List Mk} {p : Nat} (hE : VF L (p + 1) (E (p + 1))) : VF L p (pAtom E L p) := by
  cases hb : beginsI (kd L p) with
  | false => rw [pAtom_no' hb]; exact VF.no
  | true =>
    have hlt := begins_lt hb
    obtain ⟨m, hm, hk, ht⟩ := kd_mem hlt
    rcases begins_cases hb with h | h | h | h
    · rw [show pAtom E L p = ⟨true, leafF 2 (tx L p), p + 1⟩ from by unfold pAtom; rw [h]; rfl]
      exact leaf_vf (.inr (.inl ⟨rfl, rfl, m, hm, by omega, ht⟩)) (by omega) (fun _ => rfl)
    · rw [show pAtom E L p = ⟨true, leafF 3 (tx L p), p + 1⟩ from by unfold pAtom; rw [h]; rfl]
      exact leaf_vf (.inr (.inr (.inl ⟨rfl, rfl, m, hm, by omega, ht⟩))) (by omega) (fun _ => rfl)
    · rw [show pAtom E L p = ⟨true, leafF 1 ⟨#[]⟩, p + 1⟩ from by unfold pAtom; rw [h]; rfl]
      exact leaf_vf (.inl ⟨rfl, rfl, rfl⟩) (by omega) (fun h2 => by omega)
    · rw [pAtom_op' h]
      generalize E (p + 1) = r at *
      obtain ⟨ok, f, q⟩ := r
      cases ok with
      | false => simp only [Bool.false_eq_true, if_false]; exact VF.no
      | true =>
        simp only [if_true]
        by_cases hc : kd L q = 11
        · rw [if_pos hc]
          have hp1 := hE.pos rfl
          simp only at hp1
          refine ⟨fun _ => hE.all rfl, fun _ i h1 h2 => ?_, fun _ => by simp only; omega⟩
          simp only at h2
          by_cases hi : i = p
          · subst hi; exact ⟨by omega, fun h => by omega⟩
          · by_cases hi2 : i = q
            · subst hi2; exact ⟨by omega, fun h => by omega⟩
            · exact hE.cov rfl i (by omega) (by simp only; omega)
        · rw [if_neg hc]; exact VF.no
theorem pSuf_vf {L : List Mk} {p0 : Nat} : ∀ (m p : Nat) (f : Fo), f.len = 1 → VF L p0 ⟨true, f, p⟩ → VF L p0 (pSuf L m p f)
  | 0, p, f, _, h => h
  | m + 1, p, f, hf, h => by
    unfold pSuf
    by_cases hs : sufK (kd L p) = 0
    · rw [if_pos hs]; exact h
    · rw [if_neg hs]
      have hp := h.pos rfl
      simp only at hp
      refine pSuf_vf m (p + 1) _ rfl ⟨fun _ => ⟨.inr (.inr (.inr (.inr ⟨?_, rfl, rfl⟩))), h.all rfl, trivial⟩, fun _ i h1 h2 => ?_, fun _ => by simp only; omega⟩
      · rcases suf_cases hs with e | e | e <;> rw [e] <;> decide
      · simp only at h2
        by_cases hi : i = p
        · subst hi
          obtain e | e | e := suf_cases hs <;> exact ⟨by omega, fun h => by omega⟩
        · obtain ⟨c1, c2⟩ := h.cov rfl i h1 (by simp only; omega)
          refine ⟨c1, fun h => ?_⟩
          obtain ⟨x, hx, e⟩ := c2 h
          exact ⟨x, by simp [Fo.flat]; exact .inr hx, e⟩
theorem pUnit_vf {E : Nat → PR} {L : List Mk} {p : Nat} (hp : p ≤ L.length) (hB : p + 1 ≤ L.length → PB L (p + 1) (E (p + 1))) (h : VF L p (pAtom E L p)) : VF L p (pUnit E L p) := by
  have HB := pAtom_b hp hB
  unfold pUnit
  generalize pAtom E L p = r at *
  obtain ⟨ok, f, q⟩ := r
  cases ok with
  | false => simp only [Bool.false_eq_true, if_false]; exact VF.no
  | true => simp only [if_true]; exact pSuf_vf _ _ _ (HB.one rfl) h
theorem pMany_vf {L : List Mk} {p0 : Nat} {S : Nat → Option PR} {k : Int} (hk : k = 4 ∨ k = 5) (hS : ∀ p r, p ≤ L.length → S p = some r → r.ok = true → r.f.all (vN L) ∧ Cov L p r.p r.f.flat ∧ p ≤ r.p ∧ r.p ≤ L.length) :
    ∀ (m p : Nat) (f : Fo) (n : Nat), p ≤ L.length → 1 ≤ n → VF L p0 ⟨true, f, p⟩ → VF L p0 (pMany S k m p f n)
  | 0, p, f, n, hp, hn, h => ⟨fun _ => wrap_all hk hn (h.all rfl), fun _ i h1 h2 => by
      obtain ⟨c1, c2⟩ := h.cov rfl i h1 h2
      refine ⟨c1, fun h => ?_⟩
      obtain ⟨x, hx, e⟩ := c2 h
      exact ⟨x, wrap_sub hx, e⟩, h.pos⟩
  | m + 1, p, f, n, hp, hn, h => by
    unfold pMany
    cases hs : S p with
    | none =>
      refine ⟨fun _ => wrap_all hk hn (h.all rfl), fun _ i h1 h2 => ?_, h.pos⟩
      obtain ⟨c1, c2⟩ := h.cov rfl i h1 h2
      refine ⟨c1, fun h => ?_⟩
      obtain ⟨x, hx, e⟩ := c2 h
      exact ⟨x, wrap_sub hx, e⟩
    | some r =>
      simp only
      cases hok : r.ok with
      | false =>
        rw [if_neg (by simp)]
        exact ⟨fun h => absurd h (by simp [hok]), fun h => absurd h (by simp [hok]), fun h => absurd h (by simp [hok])⟩
      | true =>
        rw [if_pos rfl]
        obtain ⟨s1, s2, s3, s4⟩ := hS p r hp hs hok
        have hpp := h.pos rfl
        simp only at hpp
        refine pMany_vf hk hS m r.p _ _ s4 (by omega) ⟨fun _ => Fo.all_app _ _ (h.all rfl) s1, fun _ i h1 h2 => ?_, fun _ => by simp only; omega⟩
        simp only at h2
        by_cases hi : i < p
        · obtain ⟨c1, c2⟩ := h.cov rfl i h1 hi
          refine ⟨c1, fun h => ?_⟩
          obtain ⟨x, hx, e⟩ := c2 h
          exact ⟨x, by simp only [Fo.flat_app, List.mem_append]; exact .inl hx, e⟩
        · obtain ⟨c1, c2⟩ := s2 i (by omega) h2
          refine ⟨c1, fun h => ?_⟩
          obtain ⟨x, hx, e⟩ := c2 h
          exact ⟨x, by simp only [Fo.flat_app, List.mem_append]; exact .inr hx, e⟩
theorem pPart_vf {E : Nat → PR} {L : List Mk} {p : Nat} (hp : p ≤ L.length) (hB : ∀ q, q ≤ L.length → PB L q (E q)) (hE : ∀ q, VF L q (E q)) : VF L p (pPart E L p) := by
  have hU : ∀ q, q ≤ L.length → VF L q (pUnit E L q) := fun q hq => pUnit_vf hq (fun h => hB _ h) (pAtom_vf (hE _))
  have H := hU p hp
  have HB := pUnit_b (E := E) hp (fun h => hB _ h)
  unfold pPart
  generalize pUnit E L p = r at *
  obtain ⟨ok, f, q⟩ := r
  cases ok with
  | false => simp only [Bool.false_eq_true, if_false]; exact VF.no
  | true =>
    simp only [if_true]
    refine pMany_vf (.inl rfl) ?_ _ _ _ _ HB.le (Nat.le_refl _) H
    intro q r hq hs hok
    obtain ⟨hb, rfl⟩ := sPart_some hs
    have G := pUnit_b (E := E) (p := q) hq (fun h => hB _ h)
    exact ⟨(hU q hq).all hok, (hU q hq).cov hok, G.ge, G.le⟩
theorem pExprS_vf {E : Nat → PR} {L : List Mk} {p : Nat} (hp : p ≤ L.length) (hB : ∀ q, q ≤ L.length → PB L q (E q)) (hE : ∀ q, VF L q (E q)) : VF L p (pExprS E L p) := by
  have H := pPart_vf hp hB hE
  have HB := pPart_b (E := E) hp (fun q _ h => hB q h)
  unfold pExprS
  generalize pPart E L p = r at *
  obtain ⟨ok, f, q⟩ := r
  cases ok with
  | false => simp only [Bool.false_eq_true, if_false]; exact VF.no
  | true =>
    simp only [if_true]
    refine pMany_vf (.inr rfl) ?_ _ _ _ _ HB.le (Nat.le_refl _) H
    intro q r hq hs hok
    obtain ⟨hb, rfl⟩ := sExpr_some hs
    have hlt := kd_lt (L := L) (p := q) (by omega)
    have G := pPart_b (E := E) (p := q + 1) hlt (fun x _ h => hB x h)
    have V := pPart_vf hlt hB hE
    refine ⟨V.all hok, fun i h1 h2 => ?_, by have := G.ge; omega, G.le⟩
    by_cases hi : i = q
    · subst hi; exact ⟨by omega, fun h => by omega⟩
    · exact V.cov hok i (by omega) h2
theorem pExpr_vf (L : List Mk) : ∀ (n p : Nat), VF L p (pExpr L n p)
  | 0, p => ⟨fun h => by simp [pExpr] at h, fun h => by simp [pExpr] at h, fun h => by simp [pExpr] at h⟩
  | n + 1, p => by
    by_cases hp : p ≤ L.length
    · exact pExprS_vf hp (fun q hq => pExpr_b L n q hq) (fun q => pExpr_vf L n q)
    · have hk : kd L p = 0 := kd_none (by omega)
      have e : pExpr L (n + 1) p = ⟨false, .nil, p⟩ := by
        show pExprS _ _ _ = _
        unfold pExprS pPart pUnit pAtom
        rw [hk]; simp [beginsI]
      rw [e]; exact VF.no
/-- the marks of a text, as the reading needs them -/
theorem cut_marks (s : ByteArray) (m : Mk) (hm : m ∈ (cut s 0).1) : (3 < m.k → m.t.size = 1) ∧ 1 ≤ m.t.size ∧ (m.k ≤ 3 → (∀ q, q < m.t.size → innerI (bt m.t q) = true) ∧ kindI (bt m.t 0) = m.k) := by
  obtain ⟨a, _, M⟩ := cut_facts s s.size 0 (by omega) (by omega) m hm
  refine ⟨M.sign, M.one, fun h => ⟨M.word h, ?_⟩⟩
  rw [M.bts 0 M.one]
  exact M.first
theorem vN_may {s : ByteArray} {x : Nd} (h : vN (cut s 0).1 x) (hs : x.n.size ≤ 16) : mayN x := by
  rcases h with h | ⟨h1, h2, m, hm, hk, ht⟩ | ⟨h1, h2, m, hm, hk, ht⟩ | h | h
  · exact .inl h
  · obtain ⟨_, m1, m2⟩ := cut_marks s m hm
    obtain ⟨m3, m4⟩ := m2 (by omega)
    refine .inr (.inl ⟨h1, h2, ?_⟩)
    rw [ht] at hs ⊢
    exact ⟨m1, hs, by omega, m3⟩
  · obtain ⟨_, m1, m2⟩ := cut_marks s m hm
    obtain ⟨m3, m4⟩ := m2 (by omega)
    refine .inr (.inr (.inl ⟨h1, h2, ?_⟩))
    rw [ht] at hs ⊢
    exact ⟨m1, hs, by omega, m3⟩
  · exact .inr (.inr (.inr (.inl h)))
  · exact .inr (.inr (.inr (.inr h)))
def longN (l : List Nd) : Bool := l.any fun x => decide (16 < x.n.size)
def longM (l : List Mk) : Bool := l.any fun m => decide (16 < m.t.size)
theorem long_same (s : ByteArray) (n : Nat) (h : (pExpr (cut s 0).1 n 0).ok = true) (hp : (pExpr (cut s 0).1 n 0).p = (cut s 0).1.length) : longN (pExpr (cut s 0).1 n 0).f.flat = longM (cut s 0).1 := by
  have V := pExpr_vf (cut s 0).1 n 0
  rw [Bool.eq_iff_iff]
  unfold longN longM
  rw [List.any_eq_true, List.any_eq_true]
  constructor
  · rintro ⟨x, hx, hs⟩
    have hv := (Fo.all_flat _).1 (V.all h) x hx
    simp only [decide_eq_true_eq] at hs
    rcases hv with h1 | ⟨_, _, m, hm, _, ht⟩ | ⟨_, _, m, hm, _, ht⟩ | h1 | h1
    · rw [h1.2.1] at hs; exact absurd hs (by decide)
    · exact ⟨m, hm, by rw [← ht]; simpa using hs⟩
    · exact ⟨m, hm, by rw [← ht]; simpa using hs⟩
    · rw [h1.2.1] at hs; exact absurd hs (by decide)
    · rw [h1.2.1] at hs; exact absurd hs (by decide)
  · rintro ⟨m, hm, hs⟩
    simp only [decide_eq_true_eq] at hs
    obtain ⟨i, hi⟩ := List.getElem?_of_mem hm
    have hil := (List.getElem?_eq_some_iff.1 hi).1
    obtain ⟨c1, c2⟩ := V.cov h i (Nat.zero_le _) (by rw [hp]; exact hil)
    have hk : kd (cut s 0).1 i = m.k := kd_some hi
    have ht : tx (cut s 0).1 i = m.t := tx_some hi
    obtain ⟨m1, _, _⟩ := cut_marks s m hm
    have hr := cut_kinds s m hm
    have h3 : ¬ 3 < m.k := fun h => by have := m1 h; omega
    obtain ⟨x, hx, e⟩ := c2 (by omega)
    exact ⟨x, hx, by rw [e, ht]; simpa using hs⟩
end Go.Proofs.YtkmjmfcanlknjaaGreat
namespace Go.Proofs.YtkmjmfcanlknjaaGreat
open Go.RowKit Go.Shelf

def boundsF (x : Nd) (k : Fo) : Int := if 16 < k.height + 1 then 171 else if 2048 < (txN x k.tx).size then 174 else 0

set_option maxRecDepth 100000 in
set_option maxHeartbeats 1600000 in
theorem xBounded_any (b off cap : Nat) (x : Nd) (k : Fo) (w : World) (h : NdAt w b off (Fo.cons x k .nil).flat) (hwf : (Fo.cons x k .nil).wf) (hall : (Fo.cons x k .nil).all mayN) (hcap : k.size + 1 ≤ cap) (hl : k.size + 1 ≤ 16777216) :
    Calls Tryz.prog 124 #[.slice (some ⟨b, off, none⟩) (k.size + 1) cap] w fun e w' => e = .returned (.int .i64 (boundsF x k)) ∧ Below w.heap.size w w' := by
  have hfl : (Fo.cons x k .nil).flat.length = k.size + 1 := by rw [Fo.flat_len]; simp [Fo.size]
  have hht : (Fo.cons x k .nil).height = k.height + 1 := by simp [Fo.height]
  have HH := Lib.hid (xHeight_any b off cap (Fo.cons x k .nil) w h hwf (by rw [hfl]; exact hcap) (by rw [hfl]; omega))
  rw [hfl, hht] at HH
  have HT : Hid (∀ wx, Below w.heap.size w wx → Calls Tryz.prog 118 #[.slice (some ⟨b, off, none⟩) (k.size + 1) cap] wx (TRet wx (txN x k.tx))) :=
    fun wx hb => text_all 16777216 (Nat.le_refl _) x k wx b off cap hl hall hwf (h.below hb) hcap
  have hts : (txN x k.tx).size ≤ 32 * 16777216 := by
    have key : ∀ f : Fo, f.all mayN → f.all fun x => x.n.size ≤ 16 := by
      intro f
      induction f with
      | nil => intro _; trivial
      | cons y a b2 i1 i2 => intro h; exact ⟨h.1.size, i1 h.2.1, i2 h.2.2⟩
    have := Fo.tx_size (Fo.cons x k .nil) (key _ hall)
    simp only [Fo.tx, Fo.size, List.map_cons, List.map_nil, List.sum_cons, List.sum_nil] at this
    omega
  have HB : Hid (boundsF x k = if 16 < k.height + 1 then 171 else if 2048 < (txN x k.tx).size then 174 else 0) := rfl
  generalize txN x k.tx = t at *
  generalize k.height = hh at *
  generalize k.size + 1 = n at *
  generalize boundsF x k = bd at *
  clear h hwf hall hfl hht
  by_cases h1 : 16 < hh + 1
  · have HE : Hid (bd = 171) := by unfold Hid; rw [HB.out, if_pos h1]
    go_enter Tryz.func124, Tryz.ntmps124
    go_wp2_with (go_at_call 104; refine (HH.out).mono ?_; rintro e w1 ⟨rfl, hb1⟩)
    go_ret
    exact ⟨congrArg (fun z : Int => Ending.returned (.int .i64 z)) HE.out.symm, hb1⟩
  · by_cases h2 : 2048 < t.size
    · have HE : Hid (bd = 174) := by unfold Hid; rw [HB.out, if_neg h1, if_pos h2]
      go_enter Tryz.func124, Tryz.ntmps124
      go_wp2_with (first | (go_at_call 104; refine (HH.out).mono ?_; rintro e w1 ⟨rfl, hb1⟩; have HB1 := Lib.hid hb1; clear hb1) | (go_at_call 118; refine (HT.out _ HB1.out).mono ?_; rintro e w2 ⟨rfl, hb2⟩))
      go_ret
      exact ⟨congrArg (fun z : Int => Ending.returned (.int .i64 z)) HE.out.symm, HB1.out.trans (hb2.mono HB1.out.size)⟩
    · have HE : Hid (bd = 0) := by unfold Hid; rw [HB.out, if_neg h1, if_neg h2]
      go_enter Tryz.func124, Tryz.ntmps124
      go_wp2_with (first | (go_at_call 104; refine (HH.out).mono ?_; rintro e w1 ⟨rfl, hb1⟩; have HB1 := Lib.hid hb1; clear hb1) | (go_at_call 118; refine (HT.out _ HB1.out).mono ?_; rintro e w2 ⟨rfl, hb2⟩))
      go_ret
      exact ⟨congrArg (fun z : Int => Ending.returned (.int .i64 z)) HE.out.symm, HB1.out.trans (hb2.mono HB1.out.size)⟩

/-- where the first long name stands; -1: nowhere -/
def LongIx (l : List Nd) (r : Int) : Prop := (r = -1 ∧ longN l = false) ∨ (0 ≤ r ∧ longN l = true)
set_option maxRecDepth 100000 in
set_option maxHeartbeats 1600000 in
theorem rTooLong_any (v : Value) (l : List Mk) (w : World) (h : RdTk w v l) (hl : l.length ≤ 16777216) :
    Calls Tryz.prog 42 #[v] w fun e w' => e = .returned (.bool (longM l)) ∧ w = w' := by
  have HR := Lib.hid h
  obtain ⟨_, ao, cap, rfl, -⟩ := h
  go_enter Tryz.func42, Tryz.ntmps42
  go_wp2_with fail
  go_loop [3] (fun i => ∃ j : Nat, j ≤ l.length ∧ i = .int .i64 j ∧ Hid (∀ q x, q < j → l[q]? = some x → ¬ 16 < x.t.size)) (fun i => l.length - (intOf i).toNat)
  case atStart => exact ⟨0, by omega, rfl, fun q x h => by omega⟩
  case round =>
    obtain ⟨j, hj, rfl, HQ⟩ := hrel
    by_cases hlt : j < l.length
    · obtain ⟨x, hx⟩ : ∃ x, l[j]? = some x := ⟨_, List.getElem?_eq_getElem hlt⟩
      obtain ⟨b, off, cp, e1, hb, hc, x0, x1, x2⟩ := RdTk.at HR.out hx
      simp only [Value.slice.injEq] at e1
      obtain ⟨rfl, -, rfl⟩ := e1
      have HX := Lib.hid hx
      clear x0 x1 hx
      by_cases hd : 16 < x.t.size
      · have HLg : Hid (longM l = true) := by unfold Hid longM; rw [List.any_eq_true]; exact ⟨x, List.mem_of_getElem? HX.out, by simpa using hd⟩
        go_wp2_with fail
        go_ret
        exact ⟨by rw [HLg.out]; rfl, rfl⟩
      · have HQ2 : Hid (∀ q (y : Mk), q < j + 1 → l[q]? = some y → ¬ 16 < y.t.size) := fun q y hq hy => by
          by_cases h : q = j
          · subst h; rw [HX.out] at hy; injection hy with hy; subst hy; exact hd
          · exact HQ.out q y (by omega) hy
        go_wp2_with fail
        go_round
        case rel => exact ⟨j + 1, by omega, by go_num, HQ2.out⟩
        case measure => simp [intOf]; omega
    · have HLg : Hid (longM l = false) := by
        unfold Hid longM
        rw [List.any_eq_false]
        intro x hx
        obtain ⟨q, hq⟩ := List.getElem?_of_mem hx
        have := HQ.out q x (by have := (List.getElem?_eq_some_iff.1 hq).1; omega) hq
        simpa using this
      go_wp2_with fail
      go_ret
      exact ⟨by rw [HLg.out]; rfl, rfl⟩
end Go.Proofs.YtkmjmfcanlknjaaGreat
namespace Go.Proofs.YtkmjmfcanlknjaaGreat
open Go.RowKit Go.Shelf

/-! ### Parse, plain -/
def boundsFo : Fo → Int
  | .nil => 0
  | .cons x k _ => boundsF x k
def parseS (s : ByteArray) : List Nd × Int × Int :=
  if (readS s).2.2 ≠ 0 then ([], (readS s).2.1, (readS s).2.2)
  else if longN (readS s).1 = true then ([], 0, 173)
  else if boundsFo (parsed s).f ≠ 0 then ([], 0, boundsFo (parsed s).f)
  else ((readS s).1, 0, 0)
theorem len_one (f : Fo) (h : f.len = 1) : ∃ x k, f = .cons x k .nil := by
  cases f with
  | nil => simp [Fo.len] at h
  | cons x k r =>
    cases r with
    | nil => exact ⟨x, k, rfl⟩
    | cons => simp [Fo.len] at h
structure GoodTree (s : ByteArray) (x : Nd) (k : Fo) : Prop where
  f : (parsed s).f = .cons x k .nil
  l : (readS s).1 = (Fo.cons x k .nil).flat
  wf : (Fo.cons x k .nil).wf
  vn : (Fo.cons x k .nil).all (vN (cut s 0).1)
  size : k.size + 1 ≤ 4096
  toks : (cut s 0).1.length ≤ 2048
  small : s.size ≤ 2048
  long : longN (Fo.cons x k .nil).flat = longM (cut s 0).1
theorem read_tree (s : ByteArray) (h : (readS s).2.2 = 0) : ∃ x k, GoodTree s x k := by
  by_cases hs : 2048 < s.size
  · unfold readS at h; rw [if_pos hs] at h; exact absurd h (by decide)
  · by_cases hc : (parsed s).ok = true ∧ (parsed s).p = (cut s 0).1.length ∧ (cut s 0).2 = s.size
    · have hlen := cut_len s s.size 0 (by omega) (by omega)
      have hpb : PB (cut s 0).1 0 (parsed s) := pExpr_b (cut s 0).1 ((cut s 0).1.length + 1) 0 (by omega)
      obtain ⟨x, k, hf⟩ := len_one _ (hpb.one hc.1)
      have V : VF (cut s 0).1 0 (parsed s) := pExpr_vf (cut s 0).1 _ 0
      have e : (readS s).1 = (parsed s).f.flat := by unfold readS; rw [if_neg hs, if_pos hc]
      have hl := long_same s _ hc.1 hc.2.1
      change longN (parsed s).f.flat = _ at hl
      have hsz := hpb.size hc.1
      have h2 := V.all hc.1
      have h3 := hpb.wf hc.1
      rw [hf] at hl e hsz h2 h3
      refine ⟨x, k, hf, e, h3, h2, ?_, by omega, by omega, hl⟩
      simp only [Fo.size] at hsz
      have := hc.2.1
      omega
    · unfold readS at h; rw [if_neg hs, if_neg hc] at h; exact absurd h (by simp)
theorem GoodTree.may {s : ByteArray} {x : Nd} {k : Fo} (h : GoodTree s x k) (hn : longN (Fo.cons x k .nil).flat = false) : (Fo.cons x k .nil).all mayN := by
  rw [Fo.all_flat]
  intro y hy
  have hv := (Fo.all_flat _).1 h.vn y hy
  unfold longN at hn
  rw [List.any_eq_false] at hn
  have := hn y hy
  exact vN_may hv (by simpa using this)

end Go.Proofs.YtkmjmfcanlknjaaGreat
namespace Go.Proofs.YtkmjmfcanlknjaaGreat
open Go.RowKit Go.Shelf

/-! ### plain: which list is one tree -/
def trB (lim : Nat) (l : List Nd) (w : Nat) : Bool := decide (endL lim l w = some l.length)
theorem trB_nil (lim w : Nat) : trB lim [] w = decide (w = 0) := by
  unfold trB endL
  by_cases h : w = 0 <;> simp [h]
theorem trB_cons (lim : Nat) (x : Nd) (l : List Nd) (w : Nat) : trB lim (x :: l) w = if w = 0 then false else if mayB x = true ∧ x.c ≤ lim then trB lim l (w - 1 + x.c.toNat) else false := by
  unfold trB
  conv => lhs; unfold endL
  by_cases h : w = 0
  · simp [h]
  · rw [if_neg h, if_neg h]
    by_cases h2 : mayB x = true ∧ x.c ≤ lim
    · rw [if_pos h2, if_pos h2]
      cases endL lim l (w - 1 + x.c.toNat) with
      | none => simp
      | some k => simp
    · rw [if_neg h2, if_neg h2]; simp
def treeB (N : List Nd) : Bool := decide (0 < N.length) && trB N.length N 1
theorem Fo.split (f : Fo) : ∀ n, n ≤ f.len → ∃ a b : Fo, f = a.app b ∧ a.len = n := by
  induction f with
  | nil => intro n h; simp [Fo.len] at h; exact ⟨.nil, .nil, rfl, by rw [h]; rfl⟩
  | cons x k r _ ih =>
    intro n h
    cases n with
    | zero => exact ⟨.nil, _, rfl, rfl⟩
    | succ n =>
      obtain ⟨a, b, h1, h2⟩ := ih n (by simp only [Fo.len] at h; omega)
      exact ⟨.cons x k a, b, by rw [h1]; rfl, by simp only [Fo.len]; omega⟩
theorem Fo.wf_app_inv (f g : Fo) (h : (f.app g).wf) : f.wf ∧ g.wf := by
  induction f with
  | nil => exact ⟨trivial, h⟩
  | cons x k r _ ih => exact ⟨⟨h.1, h.2.1, (ih h.2.2).1⟩, (ih h.2.2).2⟩
theorem Fo.all_app_inv {P : Nd → Prop} (f g : Fo) (h : (f.app g).all P) : f.all P ∧ g.all P := by
  induction f with
  | nil => exact ⟨trivial, h⟩
  | cons x k r _ ih => exact ⟨⟨h.1, h.2.1, (ih h.2.2).1⟩, (ih h.2.2).2⟩
theorem tr_sound {lim : Nat} : ∀ (l : List Nd) (w : Nat), trB lim l w = true → ∃ f : Fo, f.flat = l ∧ f.len = w ∧ f.wf ∧ f.all mayN := by
  intro l
  induction l with
  | nil => intro w h; rw [trB_nil] at h; exact ⟨.nil, rfl, by have := of_decide_eq_true h; rw [this]; rfl, trivial, trivial⟩
  | cons x l ih =>
    intro w h
    rw [trB_cons] at h
    split at h
    · cases h
    · split at h
      · rename_i hw hx
        obtain ⟨f, h1, h2, h3, h4⟩ := ih _ h
        have hm := (mayB_iff x).1 hx.1
        have hc := hm.c
        obtain ⟨a, b, rfl, hb⟩ := Fo.split f x.c.toNat (by omega)
        have h5 := Fo.wf_app_inv a b h3
        have h6 := Fo.all_app_inv a b h4
        rw [Fo.len_app] at h2
        refine ⟨.cons x a b, ?_, ?_, ⟨by omega, h5.1, h5.2⟩, ⟨hm, h6.1, h6.2⟩⟩
        · rw [← h1, Fo.flat_app]; rfl
        · simp only [Fo.len]; omega
      · cases h
theorem tree_sound {N : List Nd} (h : treeB N = true) : ∃ x k, N = (Fo.cons x k .nil).flat ∧ (Fo.cons x k .nil).wf ∧ (Fo.cons x k .nil).all mayN := by
  unfold treeB at h
  rw [Bool.and_eq_true] at h
  obtain ⟨f, h1, h2, h3, h4⟩ := tr_sound _ _ h.2
  obtain ⟨x, k, rfl⟩ := len_one f h2
  exact ⟨x, k, h1.symm, h3, h4⟩
theorem tree_full (x : Nd) (k : Fo) (hwf : (Fo.cons x k .nil).wf) (hall : (Fo.cons x k .nil).all mayN) : treeB (Fo.cons x k .nil).flat = true := by
  have h := end_forest (lim := (Fo.cons x k .nil).size) (Fo.cons x k .nil) 0 [] hwf hall (Nat.le_refl _)
  rw [List.append_nil] at h
  unfold treeB trB
  rw [Fo.flat_len]
  have e : (Fo.cons x k .nil).len + 0 = 1 := rfl
  rw [e] at h
  rw [h, endL_zero]
  simp [Fo.size]
theorem Fo.flat_inj (f : Fo) : ∀ (g : Fo) (A B : List Nd), f.wf → g.wf → f.len = g.len → f.flat ++ A = g.flat ++ B → f = g ∧ A = B := by
  induction f with
  | nil =>
    intro g A B _ _ hl h
    cases g with
    | nil => exact ⟨rfl, h⟩
    | cons y k r => simp [Fo.len] at hl
  | cons x k r ih1 ih2 =>
    intro g A B hf hg hl h
    cases g with
    | nil => simp [Fo.len] at hl
    | cons y k2 r2 =>
      simp only [Fo.flat, List.cons_append, List.append_assoc, List.cons.injEq] at h
      obtain ⟨rfl, h⟩ := h
      obtain ⟨rfl, h3⟩ := ih1 k2 _ _ hf.2.1 hg.2.1 (by have := hf.1; have := hg.1; omega) h
      obtain ⟨rfl, h4⟩ := ih2 r2 _ _ hf.2.2 hg.2.2 (by simp only [Fo.len] at hl; omega) h3
      exact ⟨rfl, h4⟩
/-- a tree that may be -/
structure GoodT (N : List Nd) (x : Nd) (k : Fo) : Prop where
  flat : N = (Fo.cons x k .nil).flat
  wf : (Fo.cons x k .nil).wf
  all : (Fo.cons x k .nil).all mayN
theorem GoodT.len {N : List Nd} {x : Nd} {k : Fo} (h : GoodT N x k) : N.length = k.size + 1 := by rw [h.flat, Fo.flat_len]; simp [Fo.size]
theorem GoodT.tree {N : List Nd} {x : Nd} {k : Fo} (h : GoodT N x k) : treeB N = true := by rw [h.flat]; exact tree_full x k h.wf h.all
/-- what Check answers -/
def ChkS (N : List Nd) (e : Int) : Prop :=
  (2048 < N.length ∧ e = 3) ∨ (N.length ≤ 2048 ∧ treeB N = false ∧ e = 170) ∨ (N.length ≤ 2048 ∧ ∃ x k, GoodT N x k ∧ e = boundsF x k)
theorem chkS_ex (N : List Nd) : ∃ e, ChkS N e := by
  by_cases h : 2048 < N.length
  · exact ⟨3, .inl ⟨h, rfl⟩⟩
  · cases ht : treeB N with
    | false => exact ⟨170, .inr (.inl ⟨by omega, ht, rfl⟩)⟩
    | true =>
      obtain ⟨x, k, h1, h2, h3⟩ := tree_sound ht
      exact ⟨boundsF x k, .inr (.inr ⟨by omega, x, k, ⟨h1, h2, h3⟩, rfl⟩)⟩
/-- what Print answers -/
def PrS (N : List Nd) (t : ByteArray) (e : Int) : Prop :=
  (e ≠ 0 ∧ ChkS N e ∧ t = ⟨#[]⟩) ∨ (e = 0 ∧ N.length ≤ 2048 ∧ ∃ x k, GoodT N x k ∧ boundsF x k = 0 ∧ t = txN x k.tx)
theorem prS_ex (N : List Nd) : ∃ t e, PrS N t e := by
  obtain ⟨e, h⟩ := chkS_ex N
  by_cases he : e = 0
  · rcases h with ⟨_, h⟩ | ⟨_, _, h⟩ | ⟨h1, x, k, h2, h3⟩
    · omega
    · omega
    · exact ⟨_, 0, .inr ⟨rfl, h1, x, k, h2, by omega, rfl⟩⟩
  · exact ⟨_, e, .inl ⟨he, h, rfl⟩⟩
theorem PrS.chk {N : List Nd} {t : ByteArray} {e : Int} (h : PrS N t e) : ChkS N e := by
  rcases h with ⟨_, h, _⟩ | ⟨rfl, h1, x, k, h2, h3, _⟩
  · exact h
  · exact .inr (.inr ⟨h1, x, k, h2, h3.symm⟩)
end Go.Proofs.YtkmjmfcanlknjaaGreat
namespace Go.Proofs.YtkmjmfcanlknjaaGreat
open Go.RowKit Go.Shelf

/-! ### named, may, whole -/
set_option maxHeartbeats 400000 in
theorem xUpper_any (c : Int) (w : World) :
    Calls Tryz.prog 148 #[.int .u8 c] w fun e w' => e = .returned (.bool (upperI c)) ∧ w = w' := by
  go_enter Tryz.func148, Tryz.ntmps148
  go_wp2
  all_goals go_ret
  all_goals refine ⟨congrArg (fun b => Ending.returned (.bool b)) ?_, rfl⟩
  all_goals (rw [Bool.eq_iff_iff]; simp [upperI]; omega)
set_option maxHeartbeats 400000 in
theorem xLower_any (c : Int) (w : World) :
    Calls Tryz.prog 149 #[.int .u8 c] w fun e w' => e = .returned (.bool (lowerI c)) ∧ w = w' := by
  go_enter Tryz.func149, Tryz.ntmps149
  go_wp2
  all_goals go_ret
  all_goals refine ⟨congrArg (fun b => Ending.returned (.bool b)) ?_, rfl⟩
  all_goals (rw [Bool.eq_iff_iff]; simp [lowerI]; omega)

set_option maxRecDepth 100000 in
set_option maxHeartbeats 3200000 in
theorem xNamed_any (s : ByteArray) (fv : Value) (k : Int) (w : World) (hc : (fv = .func (.func 148) #[] #[] ∧ k = 1) ∨ (fv = .func (.func 149) #[] #[] ∧ k = 2)) :
    Calls Tryz.prog 147 #[.string s, fv] w fun e w' => e = .returned (.bool (nameB s k)) ∧ w = w' := by
  by_cases h1 : s.size < 1
  · have HN : Hid (nameB s k = false) := by unfold Hid nameB; rw [decide_eq_false (by omega)]; rfl
    go_enter Tryz.func147, Tryz.ntmps147
    go_wp2_with fail
    go_ret
    exact ⟨by rw [HN.out]; rfl, rfl⟩
  · by_cases h2 : 16 < s.size
    · have HN : Hid (nameB s k = false) := by unfold Hid nameB; rw [decide_eq_true (by omega), decide_eq_false (by omega)]; rfl
      go_enter Tryz.func147, Tryz.ntmps147
      go_wp2_with fail
      go_ret
      exact ⟨by rw [HN.out]; rfl, rfl⟩
    · have HN : Hid (nameB s k = (s.data.toList.all (fun c => innerI c.toNat) && kindI (bt s 0) == k)) := by
        unfold Hid nameB; rw [decide_eq_true (by omega), decide_eq_true (by omega)]; rfl
      have h0 : 0 < s.size := by omega
      have HU : Hid (∀ (j : Nat) (h : j < s.size) w, Calls Tryz.prog 148 #[.int .u8 (s[j].toNat : Int)] w fun e w' => e = .returned (.bool (upperI (bt s j))) ∧ w = w') := by
        intro j h w; rw [← bt_get s j h]; exact xUpper_any _ _
      have HL : Hid (∀ (j : Nat) (h : j < s.size) w, Calls Tryz.prog 149 #[.int .u8 (s[j].toNat : Int)] w fun e w' => e = .returned (.bool (lowerI (bt s j))) ∧ w = w') := by
        intro j h w; rw [← bt_get s j h]; exact xLower_any _ _
      have HU0 : Hid (∀ w, Calls Tryz.prog 148 #[.int .u8 (s[0].toNat : Int)] w fun e w' => e = .returned (.bool (kindI (bt s 0) == 1)) ∧ w = w') := by
        intro w; rw [← (upper_kind s 0).1]; exact HU.out 0 h0 w
      have HL0 : Hid (∀ w, Calls Tryz.prog 149 #[.int .u8 (s[0].toNat : Int)] w fun e w' => e = .returned (.bool (kindI (bt s 0) == 2)) ∧ w = w') := by
        intro w; rw [← (upper_kind s 0).2]; exact HL.out 0 h0 w
      have HAll := Lib.hid (all_inner s)
      have HB := Lib.hid (fun j h => bt_get s j h)
      cases hk : (kindI (bt s 0) == k) with
      | false =>
        have HF : Hid (nameB s k = false) := by unfold Hid; rw [HN.out, hk, Bool.and_false]
        rcases hc with ⟨rfl, rfl⟩ | ⟨rfl, rfl⟩
        all_goals
          first | rw [hk] at HU0 | rw [hk] at HL0
          clear hk
          go_enter Tryz.func147, Tryz.ntmps147
          go_wp2_with (first | (go_at_call 148; refine (HU0.out _).mono ?_; rintro e w' ⟨rfl, rfl⟩) | (go_at_call 149; refine (HL0.out _).mono ?_; rintro e w' ⟨rfl, rfl⟩))
          go_ret
          exact ⟨by rw [HF.out]; rfl, rfl⟩
      | true =>
        have HN2 : Hid (nameB s k = s.data.toList.all (fun c => innerI c.toNat)) := by unfold Hid; rw [HN.out, hk, Bool.and_true]
        rcases hc with ⟨rfl, rfl⟩ | ⟨rfl, rfl⟩
        all_goals
          first | rw [hk] at HU0 | rw [hk] at HL0
          clear hk
          go_enter Tryz.func147, Tryz.ntmps147
          go_wp2_with (first | (go_at_call 148; refine (HU0.out _).mono ?_; rintro e w' ⟨rfl, rfl⟩) | (go_at_call 149; refine (HL0.out _).mono ?_; rintro e w' ⟨rfl, rfl⟩))
          clear HU0 HL0 HN
          go_loop [24] (fun i => ∃ j : Nat, j ≤ s.size ∧ i = .int .i64 j ∧ Hid (∀ q, q < j → innerI (bt s q) = true)) (fun i => s.size - (intOf i).toNat)
          case atStart => exact ⟨0, by omega, rfl, fun q h => by omega⟩
          case round =>
            obtain ⟨j, hj, rfl, HQ⟩ := hrel
            by_cases hlt : j < s.size
            · have HUj := Lib.hid (HU.out j hlt)
              have HLj := Lib.hid (HL.out j hlt)
              have HI : Hid (innerI (bt s j) = (lowerI (bt s j) || upperI (bt s j) || (decide (48 ≤ (s[j].toNat : Int)) && decide ((s[j].toNat : Int) ≤ 57)) || ((s[j].toNat : Int) == 95))) := by
                unfold Hid; rw [← HB.out j hlt]; rfl
              generalize upperI (bt s j) = u at *
              generalize lowerI (bt s j) = l at *
              have HF : Hid (innerI (bt s j) = false → s.data.toList.all (fun c => innerI c.toNat) = false) := by
                intro hi
                rw [Bool.eq_false_iff]
                intro h
                have := HAll.out.1 h j hlt
                rw [hi] at this; cases this
              have HQ2 : Hid (innerI (bt s j) = true → ∀ q, q < j + 1 → innerI (bt s q) = true) := fun hi q hq => by
                by_cases h : q = j
                · subst h; exact hi
                · exact HQ.out q (by omega)
              have hdig : (48 ≤ (s[j].toNat : Int) ∧ (s[j].toNat : Int) ≤ 57 ∧ ((s[j].toNat : Int) == 95) = false) ∨ ((s[j].toNat : Int) < 48 ∧ ((s[j].toNat : Int) == 95) = false) ∨ (48 ≤ (s[j].toNat : Int) ∧ 57 < (s[j].toNat : Int) ∧ ((s[j].toNat : Int) == 95) = true) ∨ (48 ≤ (s[j].toNat : Int) ∧ 57 < (s[j].toNat : Int) ∧ ((s[j].toNat : Int) == 95) = false) := by
                simp only [beq_iff_eq, beq_eq_false_iff_ne]; omega
              cases u <;> cases l <;> rcases hdig with ⟨d1, d2, d3⟩ | ⟨d1, d3⟩ | ⟨d1, d2, d3⟩ | ⟨d1, d2, d3⟩
              all_goals
                go_wp2_with (first | (go_at_call 148; refine (HUj.out _).mono ?_; rintro e w' ⟨rfl, rfl⟩) | (go_at_call 149; refine (HLj.out _).mono ?_; rintro e w' ⟨rfl, rfl⟩))
              all_goals first
                | (have hi : innerI (bt s j) = true := by (rw [HI.out, d3]; simp; try omega)
                   go_round
                   case rel => exact ⟨j + 1, by omega, by go_num, HQ2.out hi⟩
                   case measure => simp [intOf]; omega)
                | (have hi : innerI (bt s j) = false := by (rw [HI.out, d3]; simp; try omega)
                   go_ret
                   exact ⟨by rw [HN2.out, HF.out hi]; rfl, rfl⟩)
                | (exfalso; rename_i hx; simp at hx; omega)
            · have HF : Hid (s.data.toList.all (fun c => innerI c.toNat) = true) := HAll.out.2 (fun q hq => HQ.out q (by omega))
              go_wp2_with fail
              go_ret
              exact ⟨by rw [HN2.out, HF.out]; rfl, rfl⟩
end Go.Proofs.YtkmjmfcanlknjaaGreat
namespace Go.Proofs.YtkmjmfcanlknjaaGreat
open Go.RowKit Go.Shelf

theorem nd_box (w : World) (a b c : Value) (t : TypeId) : (w.alloc (.cells #[a, b, c] t)).cell? ⟨w.heap.size, 2, none⟩ = some c := by
  rw [World.cell?_alloc_at _ _ _ _ rfl]; rfl

set_option maxRecDepth 100000 in
set_option maxHeartbeats 3200000 in
theorem xMay_any (x : Nd) (w : World) :
    Calls Tryz.prog 125 #[.agg #[.int .i64 x.k, .string x.n, .int .i64 x.c]] w fun e w' => e = .returned (.bool (mayB x)) ∧ Below w.heap.size w w' := by
  have HU := Lib.hid (fun w => xNamed_any x.n _ 1 w (.inl ⟨rfl, rfl⟩))
  have HL := Lib.hid (fun w => xNamed_any x.n _ 2 w (.inr ⟨rfl, rfl⟩))
  have hcase : x.k = 1 ∨ x.k = 2 ∨ x.k = 3 ∨ x.k = 4 ∨ x.k = 5 ∨ x.k = 6 ∨ x.k = 7 ∨ x.k = 8 ∨ (x.k ≠ 1 ∧ x.k ≠ 2 ∧ x.k ≠ 3 ∧ x.k ≠ 4 ∧ x.k ≠ 5 ∧ x.k ≠ 6 ∧ x.k ≠ 7 ∧ x.k ≠ 8) := by omega
  obtain ⟨k, t, c⟩ := x
  simp only at hcase HU HL ⊢
  rcases hcase with rfl | rfl | rfl | rfl | rfl | rfl | rfl | rfl | h
  · have HM : Hid (mayB ⟨1, t, c⟩ = (t.toList.isEmpty && c == 0)) := rfl
    cases h1 : t.toList.isEmpty <;> cases h2 : (c == 0)
    all_goals
      have h1' := h1
      rw [h1, h2] at HM
      go_enter Tryz.func125, Tryz.ntmps125
      go_wp2_with fail
      go_ret
      exact ⟨by rw [HM.out]; rfl, below1 _ _⟩
  · have HM : Hid (mayB ⟨2, t, c⟩ = (nameB t 1 && c == 0)) := rfl
    generalize nameB t 1 = n1 at *
    cases n1 <;> cases h2 : (c == 0)
    all_goals
      rw [h2] at HM
      go_enter Tryz.func125, Tryz.ntmps125
      go_wp2_with (go_at_call 147; refine (HU.out _).mono ?_; rintro e w' ⟨rfl, rfl⟩)
      go_ret
      exact ⟨by rw [HM.out]; rfl, below1 _ _⟩
  · have HM : Hid (mayB ⟨3, t, c⟩ = (nameB t 2 && c == 0)) := rfl
    generalize nameB t 2 = n1 at *
    cases n1 <;> cases h2 : (c == 0)
    all_goals
      rw [h2] at HM
      go_enter Tryz.func125, Tryz.ntmps125
      go_wp2_with (go_at_call 147; refine (HL.out _).mono ?_; rintro e w' ⟨rfl, rfl⟩)
      go_ret
      exact ⟨by rw [HM.out]; rfl, below1 _ _⟩
  · have HM : Hid (mayB ⟨4, t, c⟩ = (t.toList.isEmpty && decide (2 ≤ c))) := rfl
    cases h1 : t.toList.isEmpty <;> cases h2 : decide (2 ≤ c)
    all_goals
      rw [h1, h2] at HM
      go_enter Tryz.func125, Tryz.ntmps125
      go_wp2_with fail
      go_ret
      exact ⟨by rw [HM.out]; rfl, below1 _ _⟩
  · have HM : Hid (mayB ⟨5, t, c⟩ = (t.toList.isEmpty && decide (2 ≤ c))) := rfl
    cases h1 : t.toList.isEmpty <;> cases h2 : decide (2 ≤ c)
    all_goals
      rw [h1, h2] at HM
      go_enter Tryz.func125, Tryz.ntmps125
      go_wp2_with fail
      go_ret
      exact ⟨by rw [HM.out]; rfl, below1 _ _⟩
  · have HM : Hid (mayB ⟨6, t, c⟩ = (t.toList.isEmpty && c == 1)) := rfl
    cases h1 : t.toList.isEmpty <;> cases h2 : (c == 1)
    all_goals
      rw [h1, h2] at HM
      go_enter Tryz.func125, Tryz.ntmps125
      go_wp2_with fail
      go_ret
      exact ⟨by rw [HM.out]; rfl, below1 _ _⟩
  · have HM : Hid (mayB ⟨7, t, c⟩ = (t.toList.isEmpty && c == 1)) := rfl
    cases h1 : t.toList.isEmpty <;> cases h2 : (c == 1)
    all_goals
      rw [h1, h2] at HM
      go_enter Tryz.func125, Tryz.ntmps125
      go_wp2_with fail
      go_ret
      exact ⟨by rw [HM.out]; rfl, below1 _ _⟩
  · have HM : Hid (mayB ⟨8, t, c⟩ = (t.toList.isEmpty && c == 1)) := rfl
    cases h1 : t.toList.isEmpty <;> cases h2 : (c == 1)
    all_goals
      rw [h1, h2] at HM
      go_enter Tryz.func125, Tryz.ntmps125
      go_wp2_with fail
      go_ret
      exact ⟨by rw [HM.out]; rfl, below1 _ _⟩
  · obtain ⟨a1, a2, a3, a4, a5, a6, a7, a8⟩ := h
    have HM : Hid (mayB ⟨k, t, c⟩ = false) := by
      unfold Hid mayB
      simp only
      rw [if_neg a1, if_neg a2, if_neg a3, if_neg (by omega), if_neg (by omega)]
    have b1 : (k == 1) = false := by simpa using a1
    have b2 : (k == 2) = false := by simpa using a2
    have b3 : (k == 3) = false := by simpa using a3
    have b4 : (k == 4) = false := by simpa using a4
    have b5 : (k == 5) = false := by simpa using a5
    have b6 : (k == 6) = false := by simpa using a6
    have b7 : (k == 7) = false := by simpa using a7
    have b8 : (k == 8) = false := by simpa using a8
    clear a1 a2 a3 a4 a5 a6 a7 a8
    go_enter Tryz.func125, Tryz.ntmps125
    go_wp2_with fail
    go_ret
    exact ⟨by rw [HM.out]; rfl, below1 _ _⟩

set_option maxRecDepth 100000 in
set_option maxHeartbeats 3200000 in
theorem xWhole_any (v : Value) (N : List Nd) (w : World) (h : RdNd w v N) (hl : N.length ≤ 16777216) :
    Calls Tryz.prog 103 #[v] w fun e w' => e = .returned (.bool (treeB N)) ∧ Below w.heap.size w w' := by
  have HR := Lib.hid h
  obtain ⟨_, ao, cap, rfl, -⟩ := id h
  have htg0 : treeB N = (decide (0 < N.length) && trB N.length (N.drop 0) 1) := rfl
  obtain ⟨n, hn⟩ : ∃ n, n = N.length := ⟨_, rfl⟩
  have HN := Lib.hid hn
  rw [← hn] at hl HR htg0 ⊢
  clear h hn
  generalize treeB N = tg at *
  have HT := Lib.hid htg0
  clear htg0
  go_enter Tryz.func103, Tryz.ntmps103
  go_wp2_with fail
  go_loopw [3, 8] (fun o a wr => ∃ (t want : Nat), a = .int .i64 t ∧ o = .int .i64 want ∧ t ≤ n ∧ want ≤ 1 + t * 16777216 ∧ Hid (Below w.heap.size w wr) ∧ Hid (tg = (decide (0 < n) && trB n (N.drop t) want))) (fun _ a _ => n - (intOf a).toNat)
  case atStart => exact ⟨0, 1, rfl, rfl, by omega, by omega, Below.refl _ _, HT.out⟩
  case round =>
    obtain ⟨t, want, rfl, rfl, ht, hw, HBel, HE⟩ := hrel
    have hws := HBel.out.size
    by_cases hlt : t < n
    · obtain ⟨x, hx⟩ : ∃ x, N[t]? = some x := ⟨_, List.getElem?_eq_getElem (by have := HN.out; omega)⟩
      obtain ⟨b, off, cp, e1, hb, hc, x0, x1, x2⟩ := RdNd.at (l := N) (by have := HR.out; rw [HN.out] at this; exact this) hx
      rw [← HN.out] at e1
      simp only [Value.slice.injEq] at e1
      obtain ⟨rfl, -, rfl⟩ := e1
      have X0 := (HBel.out.cell (p := ⟨b, _, none⟩) hb).trans x0
      have X1 := (HBel.out.cell (p := ⟨b, _, none⟩) hb).trans x1
      have X2 := (HBel.out.cell (p := ⟨b, _, none⟩) hb).trans x2
      have hd : N.drop t = x :: N.drop (t + 1) := by
        have hlt2 : t < N.length := by have := HN.out; omega
        rw [List.drop_eq_getElem_cons hlt2]
        have := List.getElem?_eq_getElem hlt2
        rw [hx] at this
        simp only [Option.some.injEq] at this
        rw [← this]
      have hn0 : decide (0 < n) = true := decide_eq_true (by omega)
      have HE2 : Hid (tg = if want = 0 then false else if mayB x = true ∧ x.c ≤ n then trB n (N.drop (t + 1)) (want - 1 + x.c.toNat) else false) := by
        unfold Hid
        rw [HE.out, hd, trB_cons, hn0]; rfl
      have HN0 := Lib.hid hn0
      have HM := Lib.hid (fun w => xMay_any x w)
      have hbw : b < wr.heap.size := by omega
      clear x0 x1 x2 hx hd hn0
      by_cases hw0 : want = 0
      · have HE3 : Hid (tg = false) := by unfold Hid; rw [HE2.out, if_pos hw0]
        subst hw0
        go_wp2_with fail
        go_ret
        exact ⟨congrArg (fun x => Ending.returned (.bool x)) HE3.out.symm, HBel.out.trans ((below1 _ _).mono hws)⟩
      · have hwp : 0 < want := by omega
        have hz0 : ((want : Int) == 0) = false := by simp; omega
        cases hmb : mayB x with
        | false =>
          rw [hmb] at HM
          have HE3 : Hid (tg = false) := by unfold Hid; rw [HE2.out, if_neg hw0, if_neg (by rw [hmb]; simp)]
          clear hmb hw0
          go_wp2_with (go_at_call 125; refine (HM.out _).mono ?_; rintro e w2 ⟨rfl, hb2⟩)
          go_ret
          exact ⟨congrArg (fun x => Ending.returned (.bool x)) HE3.out.symm, (HBel.out.alloc hws _).trans (hb2.mono (by simp; omega))⟩
        | true =>
          rw [hmb] at HM
          have hc0 := ((mayB_iff x).1 hmb).c
          by_cases hcl : x.c ≤ n
          · have HE3 : Hid (tg = (decide (0 < n) && trB n (N.drop (t + 1)) (want - 1 + x.c.toNat))) := by unfold Hid; rw [HE2.out, if_neg hw0, if_pos ⟨hmb, hcl⟩, HN0.out]; rfl
            obtain ⟨c, hc⟩ : ∃ c : Nat, x.c = c := ⟨x.c.toNat, by omega⟩
            rw [hc] at X2 HE3 hcl HM
            have hcn : c ≤ n := by omega
            have hcn2 : decide ((n : Int) < (c : Int)) = false := by simp; omega
            clear hmb HE2 hw0
            go_wp2_with (go_at_call 125; refine (HM.out _).mono ?_; rintro e w2 ⟨rfl, hb2⟩; have HB2 := Lib.hid hb2; have X2' : w2.cell? ⟨wr.heap.size, 2, none⟩ = some (.int .i64 c) := (hb2.cell (p := ⟨wr.heap.size, 2, none⟩) (by simp)).trans (nd_box _ _ _ _ _); clear hb2)
            have HB3 : Hid (Below w.heap.size w w2) := (HBel.out.alloc hws _).trans (HB2.out.mono (by simp; omega))
            clear X2 X2' X0 X1
            go_roundw
            case rel => exact ⟨t + 1, want - 1 + c, by go_num, by go_num, by omega, by omega, HB3.out, by unfold Hid; have := HE3.out; simpa using this⟩
            case measure => simp [intOf]; omega
          · have HE3 : Hid (tg = false) := by unfold Hid; rw [HE2.out, if_neg hw0, if_neg (by rintro ⟨_, h⟩; exact hcl h)]
            have hcl' : (n : Int) < x.c := by omega
            clear hmb HE2 hw0
            go_wp2_with (go_at_call 125; refine (HM.out _).mono ?_; rintro e w2 ⟨rfl, hb2⟩; have HB2 := Lib.hid hb2; have X2' : w2.cell? ⟨wr.heap.size, 2, none⟩ = some (.int .i64 x.c) := (hb2.cell (p := ⟨wr.heap.size, 2, none⟩) (by simp)).trans (nd_box _ _ _ _ _); clear hb2)
            go_ret
            exact ⟨congrArg (fun x => Ending.returned (.bool x)) HE3.out.symm, (HBel.out.alloc hws _).trans (HB2.out.mono (by simp; omega))⟩
    · obtain rfl : t = n := by omega
      have HE3 : Hid (tg = (decide (0 < t) && decide (want = 0))) := by
        unfold Hid
        rw [HE.out, List.drop_eq_nil_of_le (by have := HN.out; omega), trB_nil]
      by_cases hw0 : want = 0
      · subst hw0
        by_cases ht0 : t = 0
        · have HE4 : Hid (tg = false) := by unfold Hid; rw [HE3.out, ht0]; rfl
          subst ht0
          go_wp2_with fail
          go_ret
          exact ⟨congrArg (fun x => Ending.returned (.bool x)) HE4.out.symm, HBel.out⟩
        · have HE4 : Hid (tg = true) := by unfold Hid; rw [HE3.out, decide_eq_true (by omega)]; rfl
          have htp : 0 < t := by omega
          clear ht0
          go_wp2_with fail
          go_ret
          exact ⟨congrArg (fun x => Ending.returned (.bool x)) HE4.out.symm, HBel.out⟩
      · have HE4 : Hid (tg = false) := by unfold Hid; rw [HE3.out, decide_eq_false hw0, Bool.and_false]
        have hwp : 0 < want := by omega
        clear hw0
        go_wp2_with fail
        go_ret
        exact ⟨congrArg (fun x => Ending.returned (.bool x)) HE4.out.symm, HBel.out⟩

set_option maxRecDepth 100000 in
set_option maxHeartbeats 1600000 in
theorem rIsTree_any (v : Value) (N : List Nd) (w : World) (h : RdNd w v N) (hl : N.length ≤ 16777216) :
    Calls Tryz.prog 72 #[v] w fun e w' => e = .returned (.bool (treeB N)) ∧ Below w.heap.size w w' := by
  by_cases h0 : N.length = 0
  · obtain ⟨_, ao, cap, rfl, -⟩ := h
    have HT : Hid (treeB N = false) := by unfold Hid treeB; rw [h0]; rfl
    rw [h0]
    go_enter Tryz.func72, Tryz.ntmps72
    go_wp2_with fail
    go_ret
    exact ⟨congrArg (fun x => Ending.returned (.bool x)) HT.out.symm, Below.refl _ _⟩
  · have HE := Lib.hid (rEnd_any v N 0 w h hl (Nat.zero_le _))
    have hT : treeB N = (endR 0 (endL N.length (N.drop 0) 1) == (N.length : Int)) := by
      unfold treeB trB
      rw [decide_eq_true (by omega : 0 < N.length), List.drop_zero, Bool.true_and]
      cases endL N.length N 1 with
      | none => simp [endR]
      | some k =>
        simp only [endR, Option.some.injEq, Nat.zero_add]
        rw [Bool.eq_iff_iff]; simp; omega
    have HT := Lib.hid hT
    obtain ⟨_, ao, cap, rfl, -⟩ := h
    clear hT
    generalize endR 0 (endL N.length (N.drop 0) 1) = en at *
    generalize treeB N = tg at *
    have hn : 0 < N.length := by omega
    generalize N.length = n at *
    rw [show ((0 : Nat) : Int) = 0 from rfl] at HE
    clear h0
    go_enter Tryz.func72, Tryz.ntmps72
    go_wp2_with (go_at_call 105; refine (HE.out).mono ?_; rintro e w2 ⟨rfl, hb2⟩)
    go_ret
    exact ⟨congrArg (fun x => Ending.returned (.bool x)) HT.out.symm, hb2⟩
end Go.Proofs.YtkmjmfcanlknjaaGreat
namespace Go.Proofs.YtkmjmfcanlknjaaGreat
open Go.RowKit Go.Shelf

set_option maxRecDepth 100000 in
set_option maxHeartbeats 1600000 in
theorem xCheck_any (v : Value) (N : List Nd) (e : Int) (w : World) (h : RdNd w v N) (hS : ChkS N e) (hl : N.length ≤ 4398046511104) :
    Calls Tryz.prog 102 #[v] w fun en w' => en = .returned (.int .i64 e) ∧ Below w.heap.size w w' := by
  rcases hS with ⟨h1, rfl⟩ | ⟨h1, h2, rfl⟩ | ⟨h1, x, k, hG, rfl⟩
  · obtain ⟨_, ao, cap, rfl, -⟩ := h
    generalize N.length = n at *
    go_enter Tryz.func102, Tryz.ntmps102
    go_wp2_with fail
    go_ret
    exact ⟨rfl, Below.refl _ _⟩
  · have HW := Lib.hid (xWhole_any v N w h (by omega))
    rw [h2] at HW
    obtain ⟨_, ao, cap, rfl, -⟩ := h
    generalize N.length = n at *
    clear h2
    go_enter Tryz.func102, Tryz.ntmps102
    go_wp2_with (go_at_call 103; refine (HW.out).mono ?_; rintro en w2 ⟨rfl, hb2⟩)
    go_ret
    exact ⟨rfl, hb2⟩
  · have HW := Lib.hid (xWhole_any v N w h (by omega))
    rw [hG.tree] at HW
    have HBd : Hid (∀ wx, Below w.heap.size w wx → Calls Tryz.prog 124 #[v] wx fun e w' => e = .returned (.int .i64 (boundsF x k)) ∧ Below wx.heap.size wx w') := by
      intro wx hb
      have h2 := h.below hb
      have hln := hG.len
      obtain ⟨b, off, cap, rfl, hc, hat⟩ := NdAt.of_rd h2 (by omega)
      rw [hln] at hc ⊢
      rw [hG.flat] at hat
      exact xBounded_any b off cap x k wx hat hG.wf hG.all hc (by omega)
    clear hG
    obtain ⟨_, ao, cap, rfl, -⟩ := h
    generalize N.length = n at *
    generalize boundsF x k = bd at *
    go_enter Tryz.func102, Tryz.ntmps102
    go_wp2_with (first | (go_at_call 103; refine (HW.out).mono ?_; rintro en w2 ⟨rfl, hb2⟩; have HB2 := Lib.hid hb2; clear hb2) | (go_at_call 124; refine (HBd.out _ HB2.out).mono ?_; rintro en w3 ⟨rfl, hb3⟩))
    go_ret
    exact ⟨rfl, HB2.out.trans (hb3.mono HB2.out.size)⟩

set_option maxRecDepth 100000 in
set_option maxHeartbeats 1600000 in
theorem xPrint_any (v : Value) (N : List Nd) (t : ByteArray) (e : Int) (w : World) (h : RdNd w v N) (hS : PrS N t e) (hl : N.length ≤ 4398046511104) :
    Calls Tryz.prog 90 #[v] w fun en w' => en = .returned (.tuple #[.string t, .int .i64 e]) ∧ Below w.heap.size w w' := by
  have HC := Lib.hid (xCheck_any v N e w h hS.chk hl)
  rcases hS with ⟨h1, -, rfl⟩ | ⟨rfl, h1, x, k, hG, -, rfl⟩
  · obtain ⟨_, ao, cap, rfl, -⟩ := h
    generalize N.length = n at *
    have he : (e != 0) = true := by simpa using h1
    clear h1
    go_enter Tryz.func90, Tryz.ntmps90
    go_wp2_with (go_at_call 102; refine (HC.out).mono ?_; rintro en w2 ⟨rfl, hb2⟩)
    go_ret2
    exact ⟨rfl, hb2⟩
  · have HT : Hid (∀ wx, Below w.heap.size w wx → Calls Tryz.prog 118 #[v] wx fun en w' => en = .returned (.string (txN x k.tx)) ∧ Below wx.heap.size wx w') := by
      intro wx hb
      have h2 := h.below hb
      have hln := hG.len
      obtain ⟨b, off, cap, rfl, hc, hat⟩ := NdAt.of_rd h2 (by omega)
      rw [hln] at hc ⊢
      rw [hG.flat] at hat
      exact text_all 16777216 (Nat.le_refl _) x k wx b off cap (by omega) hG.all hG.wf hat hc
    clear hG
    obtain ⟨_, ao, cap, rfl, -⟩ := h
    generalize N.length = n at *
    generalize txN x k.tx = t at *
    go_enter Tryz.func90, Tryz.ntmps90
    go_wp2_with (first | (go_at_call 102; refine (HC.out).mono ?_; rintro en w2 ⟨rfl, hb2⟩; have HB2 := Lib.hid hb2; clear hb2) | (go_at_call 118; refine (HT.out _ HB2.out).mono ?_; rintro en w3 ⟨rfl, hb3⟩))
    go_ret2
    exact ⟨rfl, HB2.out.trans (hb3.mono HB2.out.size)⟩

set_option maxRecDepth 100000 in
set_option maxHeartbeats 1600000 in
theorem rCopy_any (v : Value) (N : List Nd) (w : World) (h : RdNd w v N) (hl : N.length ≤ 4398046511104) :
    Calls Tryz.prog 31 #[v] w fun en w' => ∃ v', en = .returned v' ∧ OwnNd w' w.heap.size v' N ∧ Below w.heap.size w w' := by
  by_cases h0 : N.length = 0
  · obtain ⟨_, ao, cap, rfl, -⟩ := h
    obtain rfl : N = [] := List.length_eq_zero_iff.1 h0
    go_enter Tryz.func31, Tryz.ntmps31
    go_wp2_with (at_builtin; go_must (refine wpList_app0 elemNd rfl _ _ rfl rfl (Nat.le_refl _) rfl ?_))
    go_ret
    exact ⟨_, rfl, World.ownsRow_nil _ _ _ _, Below.refl _ _⟩
  · obtain ⟨b, off, cap, rfl, hc, hat⟩ := NdAt.of_rd h (by omega)
    have hsrc : Hid (∀ j u, (flatNd N)[j]? = some u → w.cell? ((⟨b, off, none⟩ : Addr).add j) = some u) := by
      obtain ⟨_, ao2, cap2, e2, _, _, h5⟩ := id h
      simp only [Value.slice.injEq] at e2
      obtain ⟨rfl, -, -⟩ := e2
      rcases h5 with h5 | ⟨b2, off2, h6, h7, h8⟩
      · omega
      · simp only [Option.some.injEq, Addr.mk.injEq] at h6
        obtain ⟨rfl, rfl, -⟩ := h6
        intro j u hj
        rw [Addr.add_lit]
        exact h8 j u hj
    clear h hat hc
    have hown0 := World.ownsRow_nil w w.heap.size 57 3
    go_enter Tryz.func31, Tryz.ntmps31
    go_wp2_with (at_builtin; go_must (refine wpList_appG elemNd rfl _ _ rfl hown0 rfl (news := flatNd N) rfl (flatNd_len _) hsrc.out (flatNd_one _) (by unfold maxLen; omega) (by omega) (Nat.le_refl _) ?_); intro v' w4 hown4 hg4)
    go_ret
    refine ⟨_, rfl, by have := hown4; simp only [Nat.zero_add, List.nil_append] at this; exact this, ?_⟩
    exact below_grown (by simpa [Value.ownBlock] using hg4)
end Go.Proofs.YtkmjmfcanlknjaaGreat
namespace Go.Proofs.YtkmjmfcanlknjaaGreat
open Go.RowKit Go.Shelf

def headTree : List Nd := [⟨4, ⟨#[]⟩, 2⟩, ⟨3, ⟨#[97]⟩, 0⟩, ⟨6, ⟨#[]⟩, 1⟩, ⟨3, ⟨#[98]⟩, 0⟩]
set_option maxRecDepth 100000 in
theorem head_one : parseS ⟨#[97, 32, 98, 42]⟩ = (headTree, 0, 0) := by decide +kernel
set_option maxRecDepth 100000 in
theorem head_two : parseS ⟨#[97, 32, 36]⟩ = ([], 2, 172) := by decide +kernel
end Go.Proofs.YtkmjmfcanlknjaaGreat
namespace Go.Proofs.YtkmjmfcanlknjaaGreat
open Go.RowKit Go.Shelf

theorem headTree_rd (w : World) (t : TypeId) (x : Nat × Nat) : RdNd (w.alloc (.cells #[.int .i64 4, .string ⟨#[]⟩, .int .i64 2, .int .i64 3, .string ⟨#[97]⟩, .int .i64 0, .int .i64 6, .string ⟨#[]⟩, .int .i64 1, .int .i64 3, .string ⟨#[98]⟩, .int .i64 0] t x)) (.slice (some ⟨w.heap.size, 0, none⟩) 4 4) headTree := by
  have hb := World.alloc_heap_new w (.cells #[.int .i64 4, .string ⟨#[]⟩, .int .i64 2, .int .i64 3, .string ⟨#[97]⟩, .int .i64 0, .int .i64 6, .string ⟨#[]⟩, .int .i64 1, .int .i64 3, .string ⟨#[98]⟩, .int .i64 0] t x)
  refine ⟨rfl, some ⟨w.heap.size, 0, none⟩, 4, rfl, by decide, by decide, .inr ⟨w.heap.size, 0, rfl, (Array.getElem?_eq_some_iff.1 hb).1, fun j u hj => ?_⟩⟩
  have hlt : j < 12 := (List.getElem?_eq_some_iff.1 hj).1
  unfold World.cell?
  simp only [hb]
  rw [← hj]
  have : j = 0 ∨ j = 1 ∨ j = 2 ∨ j = 3 ∨ j = 4 ∨ j = 5 ∨ j = 6 ∨ j = 7 ∨ j = 8 ∨ j = 9 ∨ j = 10 ∨ j = 11 := by omega
  rcases this with rfl | rfl | rfl | rfl | rfl | rfl | rfl | rfl | rfl | rfl | rfl | rfl <;> rfl
end Go.Proofs.YtkmjmfcanlknjaaGreat
namespace Go.Proofs.YtkmjmfcanlknjaaGreat
open Go.RowKit Go.Shelf
attribute [local go_sem] Oper.semAt_some

/-! ### slices.Clone -/
def cloRen : Go.Shelf.Ren := ⟨fun | 41 => 53 | n => n, fun | 4 => 4 | 22 => 45 | 23 => 57 | n => n, fun | n => n⟩
theorem cloLays : Go.Proofs.SlLaysE0.n41 Tryz.prog cloRen := {
  mixed := by kernel_rfl
  f41 := ⟨"slices.Clone[[]byway/api.Node,byway/api.Node]", by kernel_rfl, Tryz.func53.trans (congrArg some (by kernel_rfl))⟩
  t4 := Tryz.underlying4
  a4 := Tryz.isAgg4
  z4 := Tryz.sizeOf4
  v4 := Tryz.zeroValue4
  t22 := Tryz.underlying45
  a22 := Tryz.isAgg45
  z22 := Tryz.sizeOf45
  v22 := Tryz.zeroValue45
}
theorem xClone_any (v : Value) (N : List Nd) (w : World) (h : RdNd w v N) (hl : N.length ≤ 4398046511104) :
    Calls Tryz.prog 53 #[v] w fun e w' => ∃ v', e = .returned v' ∧ OwnNd w' w.heap.size v' N ∧ Below w.heap.size w w' := by
  by_cases h0 : N.length = 0
  · obtain ⟨_, ao, cap, rfl, -⟩ := h
    obtain rfl : N = [] := List.length_eq_zero_iff.1 h0
    have hq : ∀ (w : World) (a : Option Addr) (n c n' c' : Nat), (binOp .eql 45 (.slice a n c) (.slice none n' c')).run Tryz.prog w = .ok (.bool a.isNone) w := fun w a n c n' c' => Lib.run_eql_slice_nil w _ _ a n c n' c' Tryz.underlying45
    cases ao with
    | none =>
      go_enter Tryz.func53, Tryz.ntmps53
      go_wp2_with fail
      go_ret
      exact ⟨_, rfl, World.ownsRow_nil _ _ _ _, Below.refl _ _⟩
    | some ad =>
      go_enter Tryz.func53, Tryz.ntmps53
      go_wp2_with (at_builtin; go_must (refine wpList_app0 elemNd rfl _ _ rfl rfl (Nat.le_refl _) rfl ?_))
      go_ret
      refine ⟨_, rfl, ⟨rfl, .inr ⟨w.heap.size, 0, #[], rfl, Nat.le_refl _, World.alloc_heap_new w _, Nat.le_refl _, by unfold maxLen; omega, rfl, rfl⟩⟩, below1 _ _⟩
  · obtain ⟨b, off, cap, rfl, hc, hat⟩ := NdAt.of_rd h (by omega)
    obtain ⟨i, z, ht, hi, hz, hz1, hz2, hz3, hz4⟩ := elemNd.ex
    have hsrc : ∀ j u, (flatNd N)[j]? = some u → w.cell? ⟨b, off + j, none⟩ = some u := by
      obtain ⟨_, ao2, cap2, e2, _, _, h5⟩ := id h
      simp only [Value.slice.injEq] at e2
      obtain ⟨rfl, -, -⟩ := e2
      rcases h5 with h5 | ⟨b2, off2, h6, h7, h8⟩
      · omega
      · simp only [Option.some.injEq, Addr.mk.injEq] at h6
        obtain ⟨rfl, rfl, -⟩ := h6
        exact h8
    refine (AnyE.slices_Clone cloLays i z 3 32 hi hz hz1 hz2 hz3 hz4 Tryz.sizeOf57 b off N.length cap (flatNd N) w (flatNd_len _) (by unfold maxLen; omega) (by omega) hsrc (flatNd_one _)).mono ?_
    rintro e w' ⟨v', rfl, ho, _, hb⟩
    exact ⟨v', rfl, ho, hb⟩

/-! ### plain: the occurrences -/
def nmF : List Nd → Nat → List (Nat × ByteArray)
  | [], _ => []
  | x :: l, i => if x.k = 2 ∨ x.k = 3 then (i, x.n) :: nmF l (i + 1) else nmF l (i + 1)
theorem nmF_len (l : List Nd) : ∀ i, (nmF l i).length ≤ l.length := by
  induction l with
  | nil => intro i; exact Nat.le_refl _
  | cons x l ih => intro i; unfold nmF; have := ih (i + 1); split <;> simp <;> omega
/-- the row of the clone lies as it lay -/
structure KpRow (v : Value) (W W' : World) : Prop where
  size : W.heap.size ≤ W'.heap.size
  row : ∀ g, v.ownBlock = some g → W'.heap[g]? = W.heap[g]?
theorem KpRow.trans {v : Value} {A B C : World} (h : KpRow v A B) (k : KpRow v B C) : KpRow v A C := ⟨Nat.le_trans h.size k.size, fun g hg => (k.row g hg).trans (h.row g hg)⟩
theorem KpRow.of_below {v : Value} {A B : World} (h : Below A.heap.size A B) (hv : ∀ g, v.ownBlock = some g → g < A.heap.size) : KpRow v A B := ⟨h.size, fun g hg => h.block g (hv g hg)⟩
theorem KpRow.own {v : Value} {A B : World} (h : KpRow v A B) {C : Nat} {N : List Nd} (ho : OwnNd A C v N) : OwnNd B C v N := by
  refine ⟨ho.1, ?_⟩
  rcases ho.2 with h1 | ⟨g, cap, cur, h2, h3, h4, h5⟩
  · exact .inl h1
  · exact .inr ⟨g, cap, cur, h2, h3, (h.row g (by rw [h2]; rfl)).trans h4, h5⟩

set_option maxRecDepth 100000 in
set_option maxHeartbeats 1600000 in
theorem names1_in (n : Nat) (hn : 3 ≤ n) (l Bn C : Nat) (v : Value) (N : List Nd) (hs : N.length ≤ 4398046511104) (J Jx : List (Nat × ByteArray) → World → Prop) (B0 : Nat)
    (hY : ∀ pre x W, J pre W → pre.length < (nmF N 0).length → YieldAt Fence.wide (n - 1) Tryz.prog l #[.int .i64 (x.1 : Nat), .string x.2] W fun e W' =>
      (e = .returned (.bool true) ∧ J (pre ++ [x]) W' ∧ KpRow v W W') ∨ (e = .returned (.bool false) ∧ Jx (pre ++ [x]) W'))
    (hJ : AbidesFrom B0 J) (W : World) (_hB0 : B0 ≤ W.heap.size) (hBn : W.cell? ⟨Bn, 0, none⟩ = some v) (hv : OwnNd W C v N) (h0 : J [] W) :
    CallsIn Fence.wide n Tryz.prog 123 #[.func (.yield l) #[] #[], .pointer (some ⟨Bn, 0, none⟩)] W fun e W' => (∃ v, e = .returned v) ∧
      ((∃ ys, ys = nmF N 0 ∧ J ys W') ∨ (∃ pre, (pre ≠ [] ∧ pre <+: nmF N 0) ∧ Jx pre W')) := by
  have HV := Lib.hid hv
  obtain ⟨_, ao, cap, rfl, -⟩ := Rd.of_owns hv
  clear hv
  refine callsIn_of_wp Tryz.func123 rfl trivial ?_ rfl
  simp only [Tryz.ntmps123, List.size_toArray, List.length_cons, List.length_nil, Nat.reduceAdd, Nat.reduceSub, Array.replicate_succ, Array.replicate_zero, List.push_toArray, List.append_toArray, List.nil_append, List.cons_append]
  gi_wp2
  gi_loopw [7] (fun i wr => ∃ (k : Nat) (pre : List (Nat × ByteArray)), i = .int .i64 k ∧ k ≤ N.length ∧ Hid (nmF N 0 = pre ++ nmF (N.drop k) k) ∧ J pre wr ∧ Hid (KpRow (.slice ao N.length cap) W wr))
    (fun i _ => N.length - (intOf i).toNat)
  case atStart => exact ⟨0, [], rfl, by omega, rfl, h0, ⟨Nat.le_refl _, fun _ _ => rfl⟩⟩
  case round =>
    obtain ⟨k, pre, rfl, hk, HC, hJs, HKp⟩ := hrel
    have HVr := Lib.hid (HKp.out.own HV.out)
    have hgl : ∀ g, (Value.slice ao N.length cap).ownBlock = some g → g < wr.heap.size := by
      intro g hg
      have := HVr.out.lt g hg
      omega
    by_cases hlt : k < N.length
    · obtain ⟨x, hx⟩ : ∃ x, N[k]? = some x := ⟨_, List.getElem?_eq_getElem hlt⟩
      obtain ⟨b, off, cp, e1, hb, hc, x0, x1, x2⟩ := RdNd.at (RdNd.of_own HVr.out) hx
      simp only [Value.slice.injEq] at e1
      obtain ⟨rfl, -, rfl⟩ := e1
      have hd : N.drop k = x :: N.drop (k + 1) := by
        rw [List.drop_eq_getElem_cons hlt]
        have := List.getElem?_eq_getElem hlt
        rw [hx] at this
        simp only [Option.some.injEq] at this
        rw [← this]
      have HD : Hid (nmF (N.drop k) k = if x.k = 2 ∨ x.k = 3 then (k, x.n) :: nmF (N.drop (k + 1)) (k + 1) else nmF (N.drop (k + 1)) (k + 1)) := by unfold Hid; rw [hd]; rfl
      have hJ2 := hJ pre _ _ none hJs (World.grownBy_alloc wr (.cells #[.int .i64 x.k, .string x.n, .int .i64 x.c] 57) none) (by intro r e; cases e)
      have HK2 : Hid (KpRow (.slice (some ⟨b, off, none⟩) N.length cap) W (wr.alloc (.cells #[.int .i64 x.k, .string x.n, .int .i64 x.c] 57))) := HKp.out.trans (.of_below (below1 wr _) hgl)
      clear hd hx
      by_cases hk23 : x.k = 2 ∨ x.k = 3
      · have HD2 : Hid (nmF (N.drop k) k = (k, x.n) :: nmF (N.drop (k + 1)) (k + 1)) := by unfold Hid; rw [HD.out, if_pos hk23]
        have hlen : pre.length < (nmF N 0).length := by rw [HC.out, HD2.out]; simp
        obtain ⟨fn, tmps, assign, body, hy, hR⟩ := hY pre (k, x.n) _ hJ2 hlen
        have HR := Lib.hid hR
        clear hY hR hJs hJ2 hlen
        dsimp only at hy
        rcases hk23 with hk2 | hk2
        all_goals
          rw [hk2] at x0
          rw [hk2] at hy HR HK2
          gi_wp2
          refine ⟨fun _ => by omega, HR.out.mono ?_⟩
          rintro e W3 (⟨rfl, hJ3, hk3⟩ | ⟨rfl, hJx3⟩)
          · have HK3 := Lib.hid (HK2.out.trans hk3)
            clear hk3
            gi_wp2
            go_roundw
            case rel => exact ⟨k + 1, pre ++ [(k, x.n)], by go_num, by omega, by unfold Hid; rw [HC.out, HD2.out]; simp, hJ3, HK3.out⟩
            case measure => simp [intOf]; omega
          · gi_wp2
            refine bodyPost_ret (results_none rfl _ _ _) rfl ?_
            exact ⟨⟨_, rfl⟩, .inr ⟨pre ++ [(k, x.n)], ⟨by simp, by rw [HC.out, HD2.out]; exact ⟨_, by rw [List.append_assoc]; rfl⟩⟩, hJx3⟩⟩
      · have HD2 : Hid (nmF (N.drop k) k = nmF (N.drop (k + 1)) (k + 1)) := by unfold Hid; rw [HD.out, if_neg hk23]
        have n2 : (x.k == 2) = false := by simp; omega
        have n3 : (x.k == 3) = false := by simp; omega
        clear hk23 hY hJs
        gi_wp2
        refine ⟨fun _ h => (by cases h), ?_⟩
        gi_wp2
        go_roundw
        case rel => exact ⟨k + 1, pre, by go_num, by omega, by unfold Hid; rw [HC.out, HD2.out], hJ2, HK2.out⟩
        case measure => simp [intOf]; omega
    · obtain rfl : k = N.length := by omega
      have HE : Hid (nmF N 0 = pre) := by unfold Hid; rw [HC.out, List.drop_eq_nil_of_le (Nat.le_refl _)]; simp [nmF]
      gi_wp2
      refine bodyPost_end (results_none rfl _ _ _) rfl ?_
      exact ⟨⟨_, rfl⟩, .inl ⟨pre, HE.out.symm, hJs⟩⟩
end Go.Proofs.YtkmjmfcanlknjaaGreat
namespace Go.Proofs.YtkmjmfcanlknjaaGreat
open Go.RowKit Go.Shelf
attribute [local go_sem] Oper.semAt_some

/-- a range over a function, the variables in slots of the function's own -/
theorem wpIn_rangeFunc_slots {F : Fence} {n : Nat} {P : Program} {α : Type} {g : Operand} {ps : Array Tmp} {assign body : Code} {Q : Exit → Act → World → Prop} {a : Act} {w : World}
    (hro : F.round = none) (h1 : 1 ≤ n) {gf : Nat} {lb : Array Value} (hg : a.eval g = .func (.func gf) #[] lb) (hFg : F.fn gf) (eg : ∀ args w, (callFunc gf args).run P w = .ok (.enter gf args) w)
    {encs : α → Array Value} {Kp : World → World → Prop} {S Sp : List α → Prop} {N : Nat} {w0 : World} (hseq : SeqStopsK F (n - 1) P gf lb encs Kp S Sp N w0)
    (hKt : ∀ {A B C : World}, Kp A B → Kp B C → Kp A C) (hKr : ∀ W, Kp W W) (hKb : ∀ (W : World) (l : Nat) (o o' : Obj), w.heap.size ≤ l → W.heap[l]? = some o → o.isCells = false → o.isWalk = false → Kp W (W.putObj l o')) (hb0 : Below w0.heap.size w0 w) (hps : ∀ x, (encs x).size = ps.size)
    (T : α → Array Value) (I : List α → World → Prop) (Ix : Code → List α → World → Prop) (hI : OwnFrom w.heap.size I) (hIx : ∀ c, OwnFrom w.heap.size (Ix c)) (h0 : I [] w)
    (hassign : ∀ (l : Nat) (x : α) (W : World) (K : Act → World → Prop), K { tmps := T x, defers := [] } W →
      assign.wpIn (F.inRound l) (n - 1 - 1) P (Exit.then K (fun _ _ _ => False)) { tmps := (ps.zip (encs x)).foldl (fun t (p, v) => t.setIfInBounds p v) a.tmps, defers := [] } W)
    (hbody : ∀ (l : Nat) (pre : List α) (x : α) (W : World), I pre W → pre.length < N → body.wpIn (F.inRound l) (n - 1 - 1) P (ownPostG w.heap.size Kp I Ix (pre ++ [x]) W) { tmps := T x, defers := [] } W)
    (hdone : ∀ (D : Nat) (xs : List α) (W : World), w.heap.size ≤ D → S xs → I xs W → W.heap[D]? = some (.deferred (some [])) → Q .normal { a with defers := { target := .collected D, args := #[] } :: a.defers } W)
    (hstop : ∀ (D : Nat) (c : Code) (pre : List α) (W : World), w.heap.size ≤ D → Sp pre → Ix c pre W → W.heap[D]? = some (.deferred (some [])) → c.wpIn F n P Q { a with defers := { target := .collected D, args := #[] } :: a.defers } W) :
    (Code.rangeFunc g ps assign body).wpIn F n P Q a w := by
  refine wpIn_rangeFunc_ownH hro h1 hg hFg eg hseq hKt hKb hb0 hps I Ix hI hIx h0 (fun x a' _ => a' = { tmps := T x, defers := [] }) (fun x a' _ X Y row h _ _ => h) ?_ ?_ hdone hstop
  · intro l pre x W K hi hK
    exact hassign l x W K (hK _ _ (((show KeepsOthers W W from ⟨Nat.le_refl _, fun _ _ h _ => h⟩)).from _) (hKr W) hi rfl)
  · rintro l pre x a' W _ _ hi rfl hlt
    exact hbody l pre x W hi hlt
theorem KpRow.refl (v : Value) (W : World) : KpRow v W W := ⟨Nat.le_refl _, fun _ _ => rfl⟩
theorem KpRow.putObj {v : Value} {w : World} (hv : ∀ g, v.ownBlock = some g → g < w.heap.size) (W : World) (l : Nat) (o o' : Obj) (hl : w.heap.size ≤ l) (_ : W.heap[l]? = some o) (_ : o.isCells = false) (_ : o.isWalk = false) : KpRow v W (W.putObj l o') :=
  ⟨by simp, fun g hg => World.putObj_heap_other (by have := hv g hg; omega)⟩
def encN (x : Nat × ByteArray) : Array Value := #[.int .i64 (x.1 : Nat), .string x.2]
theorem names_stops (n : Nat) (hn : 3 ≤ n) (Bn C : Nat) (v : Value) (N : List Nd) (hs : N.length ≤ 4398046511104) (w : World) (hc : w.cell? ⟨Bn, 0, none⟩ = some v) (hv : OwnNd w C v N) :
    SeqStopsK Fence.wide n Tryz.prog 123 #[.pointer (some ⟨Bn, 0, none⟩)] encN (KpRow v) (fun ys => ys = nmF N 0) (fun pre => pre ≠ [] ∧ pre <+: nmF N 0) (nmF N 0).length w :=
  fun l J Jx W hW hJ _ hY h0 => names1_in n hn l Bn C v N hs J Jx W.heap.size hY hJ W (Nat.le_refl _) ((hW.cell (p := ⟨Bn, 0, none⟩) (World.block_lt_of_cell? w ⟨Bn, 0, none⟩ hc)).trans hc) (own_grown hv (grown_below hW) (by simp)) h0

theorem names_in (n : Nat) (v : Value) (N : List Nd) (w : World) (h : RdNd w v N) (hl : N.length ≤ 4398046511104) :
    CallsIn Fence.wide n Tryz.prog 98 #[v] w fun e w' => e = .returned (.func (.func 123) #[] #[.pointer (some ⟨w.heap.size, 0, none⟩)]) ∧
      ∃ v', Boxed w' w.heap.size 45 v' ∧ OwnNd w' (w.heap.size + 1) v' N ∧ Below w.heap.size w w' := by
  have HC := Lib.hid (xClone_any v N (w.alloc (.cells #[v] 45)) (h.below (below1 _ _)) hl)
  obtain ⟨_, ao, cap, rfl, -⟩ := h
  refine callsIn_of_wp Tryz.func98 rfl trivial ?_ rfl
  simp only [Tryz.ntmps98, List.size_toArray, List.length_cons, List.length_nil, Nat.reduceAdd, Nat.reduceSub, Array.replicate_succ, Array.replicate_zero, List.push_toArray, List.append_toArray, List.nil_append, List.cons_append]
  gi_wp2_with fail
  refine ⟨trivial, (by intro h; cases h), (callsIn_wide.2 (HC.out)).mono ?_⟩
  rintro e w2 ⟨v2, rfl, ho2, hb2⟩
  have hbx : Boxed w2 w.heap.size 45 (.slice ao N.length cap) := (hb2.block _ (by simp)).trans (Boxed.new w _ _)
  have cb := hbx.cell
  have fb := hbx.frozen
  obtain ⟨_, ao2, cap2, rfl, -⟩ := Rd.of_owns ho2
  gi_wp2
  have hb3 : Below w.heap.size w w2 := (below1 w _).trans (hb2.mono (by simp))
  refine bodyPost_ret (results_tmp rfl _ _ _) rfl ?_
  refine ⟨rfl, _, hbx.set _, ?_, hb3.setCell (p := ⟨w.heap.size, 0, none⟩) (Nat.le_refl _) _⟩
  have hsz : (w.alloc (.cells #[.slice ao N.length cap] 45)).heap.size = w.heap.size + 1 := by simp
  rw [hsz] at ho2
  exact own_grown ho2 (grown_set w2 w.heap.size 0 _) (fun j hj => .inl (by cases hj; omega))

set_option maxRecDepth 100000 in
set_option maxHeartbeats 1600000 in
theorem rPlaces_any (v : Value) (N : List Nd) (w : World) (h : RdNd w v N) (hl : N.length ≤ 4398046511104) :
    Calls Tryz.prog 100 #[v] w fun e w' => ∃ v', e = .returned v' ∧ OwnI w' w.heap.size v' ((nmF N 0).map (·.1)) ∧ Below w.heap.size w w' := by
  have HV := Lib.hid h
  obtain ⟨_, ao, cap, rfl, -⟩ := h
  go_enter Tryz.func100, Tryz.ntmps100
  go_wp2_with fail
  go_loopw [3, 4] (fun o i wr => ∃ (k : Nat) (pre : List (Nat × ByteArray)), i = .int .i64 k ∧ k ≤ N.length ∧ pre.length ≤ k ∧ Hid (nmF N 0 = pre ++ nmF (N.drop k) k) ∧ OwnI wr w.heap.size o (pre.map (·.1)) ∧ Hid (Below w.heap.size w wr)) (fun _ i _ => N.length - (intOf i).toNat)
  case atStart => exact ⟨0, [], rfl, by omega, by simp, rfl, World.ownsRow_nil _ _ _ _, Below.refl _ _⟩
  case round =>
    obtain ⟨k, pre, rfl, hk, hpl, HC, hown, HBel⟩ := hrel
    have hws := HBel.out.size
    by_cases hlt : k < N.length
    · obtain ⟨x, hx⟩ : ∃ x, N[k]? = some x := ⟨_, List.getElem?_eq_getElem hlt⟩
      obtain ⟨b, off, cp, e1, hb, hc, x0, x1, x2⟩ := RdNd.at HV.out hx
      simp only [Value.slice.injEq] at e1
      obtain ⟨rfl, -, rfl⟩ := e1
      have X0 := (HBel.out.cell (p := ⟨b, _, none⟩) hb).trans x0
      have hd : N.drop k = x :: N.drop (k + 1) := by
        rw [List.drop_eq_getElem_cons hlt]
        have := List.getElem?_eq_getElem hlt
        rw [hx] at this
        simp only [Option.some.injEq] at this
        rw [← this]
      have HD : Hid (nmF (N.drop k) k = if x.k = 2 ∨ x.k = 3 then (k, x.n) :: nmF (N.drop (k + 1)) (k + 1) else nmF (N.drop (k + 1)) (k + 1)) := by unfold Hid; rw [hd]; rfl
      clear hd hx x0 x1 x2
      by_cases hk23 : x.k = 2 ∨ x.k = 3
      · have HD2 : Hid (nmF (N.drop k) k = (k, x.n) :: nmF (N.drop (k + 1)) (k + 1)) := by unfold Hid; rw [HD.out, if_pos hk23]
        have hpm : (pre.map (·.1)).length ≤ 4398046511104 := by rw [List.length_map]; omega
        rcases hk23 with hk2 | hk2
        all_goals
          rw [hk2] at X0
          clear hk2
          go_wp2_with (at_builtin; go_must (refine wpList_appG1 elemInt rfl _ _ rfl hown rfl (news := [.int .i64 k]) rfl rfl (by intro u hu; simp at hu; subst hu; rfl) (by unfold maxLen; omega) (by omega) hws ?_); intro v' w3 hown3 hg3)
          have HB3 : Hid (Below w.heap.size w w3) := HBel.out.grown hg3 hws (fun j hj => own_block hown j hj)
          have HO3 : Hid (OwnI w3 w.heap.size v' ((pre ++ [(k, x.n)]).map (·.1))) := by
            rw [List.map_append]
            exact OwnI.snoc hown3
          clear hown3 hg3
          go_roundw
          case rel => exact ⟨k + 1, pre ++ [(k, x.n)], by go_num, by omega, by simp; omega, by unfold Hid; rw [HC.out, HD2.out]; simp, HO3.out, HB3.out⟩
          case measure => simp [intOf]; omega
      · have HD2 : Hid (nmF (N.drop k) k = nmF (N.drop (k + 1)) (k + 1)) := by unfold Hid; rw [HD.out, if_neg hk23]
        have n2 : (x.k == 2) = false := by simp; omega
        have n3 : (x.k == 3) = false := by simp; omega
        clear hk23
        go_wp2_with fail
        go_roundw
        case rel => exact ⟨k + 1, pre, by go_num, by omega, by omega, by unfold Hid; rw [HC.out, HD2.out], hown, HBel.out⟩
        case measure => simp [intOf]; omega
    · obtain rfl : k = N.length := by omega
      have HE : Hid (nmF N 0 = pre) := by unfold Hid; rw [HC.out, List.drop_eq_nil_of_le (Nat.le_refl _)]; simp [nmF]
      go_wp2_with fail
      go_ret
      exact ⟨_, rfl, by rw [HE.out]; exact hown, HBel.out⟩
end Go.Proofs.YtkmjmfcanlknjaaGreat
namespace Go.Proofs.YtkmjmfcanlknjaaGreat
open Go.RowKit Go.Shelf
attribute [local go_sem] Oper.semAt_some

theorem bx_keep {W W' : World} {row : Option Nat} {B t : Nat} {v : Value} (h : Boxed W B t v) (hg : W.grownBy W' row) (hr : ∀ r, row = some r → ∃ o : Obj, W.heap[r]? = some o ∧ o.isCells = false) : Boxed W' B t v :=
  h.kept hg (fun e => by obtain ⟨o, ho, hc⟩ := hr B e.symm; rw [show W.heap[B]? = _ from h] at ho; cases ho; cases hc)
theorem KpRow.setBox {v : Value} {W : World} {B o : Nat} (hv : ∀ g, v.ownBlock = some g → g ≠ B) (u : Value) : KpRow v W (W.setCell ⟨B, o, none⟩ u) :=
  ⟨by simp [World.setCell], fun g hg => Below.heap_setCell W ⟨B, o, none⟩ u g (hv g hg)⟩

set_option maxRecDepth 100000 in
set_option maxHeartbeats 1600000 in
theorem occ_in (n : Nat) (hn : 6 ≤ n) (v : Value) (N : List Nd) (w : World) (h : RdNd w v N) (hl : N.length ≤ 4398046511104) :
    CallsIn Fence.wide n Tryz.prog 49 #[v] w fun e w' => e = .returned (.int .i64 (nmF N 0).length) ∧ Below w.heap.size w w' := by
  have h1 : 1 ≤ n := by omega
  have HN := Lib.hid (names_in (n - 1) v N (w.alloc (.cells #[.int .i64 0] 3)) (h.below (below1 _ _)) hl)
  have hnl := nmF_len N 0
  obtain ⟨_, ao, cap, rfl, -⟩ := h
  refine callsIn_of_wp_marks Tryz.func49 rfl trivial ?_ rfl
  simp only [Tryz.ntmps49, List.size_toArray, List.length_cons, List.length_nil, Nat.reduceAdd, Nat.reduceSub, Array.replicate_succ, Array.replicate_zero, List.push_toArray, List.append_toArray, List.nil_append, List.cons_append]
  gi_wp2_with fail
  refine ⟨trivial, (HN.out).mono ?_⟩
  rintro e w2 ⟨rfl, v2, hbx2, ho2, hb2⟩
  have hsz : (w.alloc (.cells #[.int .i64 0] 3)).heap.size = w.heap.size + 1 := by simp
  rw [hsz] at hbx2 ho2 hb2 ⊢
  have bK : Boxed w2 w.heap.size 3 (.int .i64 0) := (hb2.block _ (by omega)).trans (Boxed.new w _ _)
  have hb3 : Below w.heap.size w w2 := (below1 w _).trans (hb2.mono (by omega))
  have hsz2 := hb2.size
  rw [hsz] at hsz2
  have hgl : ∀ g, v2.ownBlock = some g → g < w2.heap.size ∧ w.heap.size < g := fun g hg => by have := ho2.lt g hg; omega
  gi_wp2
  refine wpIn_rangeFunc_slots rfl h1 (gf := 123) (lb := #[.pointer (some ⟨w.heap.size + 1, 0, none⟩)]) rfl trivial (enters_of Tryz.func123 (by kernel_rfl) rfl)
    (names_stops (n - 1) (by omega) (w.heap.size + 1) _ v2 N hl w2 hbx2.cell ho2) KpRow.trans (KpRow.refl v2) (KpRow.putObj (fun g hg => (hgl g hg).1)) (Below.refl _ _) (fun _ => rfl)
    ?T (fun pre W => Boxed W w.heap.size 3 (.int .i64 pre.length) ∧ Below w.heap.size w W) (fun _ _ _ => False) ?hI (fun _ _ _ _ _ hs _ _ => hs) ⟨bK, hb3⟩ ?assign ?body ?done ?stop
  case assign =>
    intro l x W K hK
    dsimp only [encN]
    gi_wp2
    exact hK
  case hI => exact OwnFrom.and ((boxed_own w.heap.size 3 (fun pre : List (Nat × ByteArray) => .int .i64 pre.length)).from _) (ownFrom_below (Nat.le_refl _) (by omega))
  case body =>
    rintro l pre x W ⟨hK, hB⟩ hlt
    have cK := hK.cell
    have fK := hK.frozen
    have hpl : pre.length < 9223372036854775807 := by omega
    have HKb := Lib.hid hK
    have HBb := Lib.hid hB
    clear hK hB
    gi_wp2
    refine ⟨(KeepsOthers.setCell _ _ _).from _, KpRow.setBox (fun g hg e => by have := (hgl g hg).2; omega) _, ?_, HBb.out.setCell (p := ⟨w.heap.size, 0, none⟩) (Nat.le_refl _) _⟩
    rw [List.length_append]
    exact Boxed.set _ HKb.out
  case stop =>
    rintro D c pre W _ _ h _
    exact h.elim
  case done =>
    rintro D xs W hD rfl ⟨hK, hB⟩ hKD
    have cK := hK.cell
    gi_wp2
    refine ⟨by simp, .inl ⟨_, _, rfl, run_takeDeferred hKD, ?_⟩⟩
    refine ⟨_, results_tmp rfl _ _ _, rfl, hB.trans (belowK_b (w := w) (Nat.le_refl _) W D _ (.deferred none) (by omega) hKD rfl rfl)⟩
theorem xOcc_any (v : Value) (N : List Nd) (w : World) (h : RdNd w v N) (hl : N.length ≤ 4398046511104) :
    Calls Tryz.prog 49 #[v] w fun e w' => e = .returned (.int .i64 (nmF N 0).length) ∧ Below w.heap.size w w' :=
  callsIn_wide.1 (occ_in 8 (by omega) v N w h hl)
theorem rOcc_any (v : Value) (N : List Nd) (w : World) (h : RdNd w v N) (hl : N.length ≤ 4398046511104) :
    Calls Tryz.prog 52 #[v] w fun e w' => e = .returned (.int .i64 (nmF N 0).length) ∧ Below w.heap.size w w' := by
  have HP := Lib.hid (rPlaces_any v N w h hl)
  obtain ⟨_, ao, cap, rfl, -⟩ := h
  go_enter Tryz.func52, Tryz.ntmps52
  go_wp2_with fail
  refine (HP.out).mono ?_
  rintro e w1 ⟨v1, rfl, ho1, hb1⟩
  obtain ⟨ao1, cp1, rfl, hcp⟩ := OwnI.shape ho1
  rw [List.length_map]
  clear ho1
  go_wp2_with fail
  go_ret
  exact ⟨rfl, hb1⟩
end Go.Proofs.YtkmjmfcanlknjaaGreat
