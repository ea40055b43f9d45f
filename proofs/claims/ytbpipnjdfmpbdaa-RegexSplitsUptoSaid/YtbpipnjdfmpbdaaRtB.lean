import Derived.Test.YtbpipnjdfmpbdaaRtA
import Derived.Test.YtbpipnjdfmpbdaaMkShJ
import Derived.Deep.RegionHeld3
import Derived.Deep.DeepCutAuto
namespace Go.Proofs.Ytbpipnjdfmpbdaa
open Go.RowKit Go.Shelf

set_option maxHeartbeats 400000 in
theorem xSign_any (k : Int) (w : World) : Calls Try.prog 83 #[.int .i64 k] w fun e w' => e = .returned (.string (signK k)) ∧ w = w' := by
  go_enter Try.func83, Try.ntmps83
  go_wp2
  all_goals go_ret
  all_goals refine ⟨?_, rfl⟩
  all_goals simp_all [signK]

theorem elemStr : ElemOK Try.prog 53 9 1 16 :=
  ElemOK.mk' (z := .string ⟨#[]⟩) Try.underlying53 (by kernel_rfl) rfl (by decide)
def strs (l : List ByteArray) : List Value := l.map Value.string
def OwnStr (w : World) (B : Nat) (v : Value) (l : List ByteArray) : Prop := w.ownsRow B 9 1 v l.length (strs l)
theorem OwnStr.snoc {w : World} {B : Nat} {v : Value} {l : List ByteArray} {m : ByteArray} (h : w.ownsRow B 9 1 v (l.length + 1) (strs l ++ [.string m])) : OwnStr w B v (l ++ [m]) := by
  unfold OwnStr strs at *; rw [List.map_append, List.length_append]; exact h
theorem take_snoc {α} (l : List α) (i : Nat) (m : α) (h : l[i]? = some m) : l.take (i + 1) = l.take i ++ [m] := by
  rw [List.take_add_one, h]; rfl
/-- strings.Join of an owned list -/
theorem join_own {w : World} {B : Nat} {v : Value} {l : List ByteArray} (sep : ByteArray) (h : OwnStr w B v l) (hl : l.length ≤ 1099511627776) (hs : (joinS sep l).size ≤ 1099511627776) :
    Calls Try.prog 82 #[v, .string sep] w fun e w' => e = .returned (.string (joinS sep l)) ∧ Below w.heap.size w w' := by
  by_cases h0 : l = []
  · subst h0
    obtain ⟨_, ao, c, rfl, -⟩ := Rd.of_owns h
    refine (Try.strings_Join_none ao c sep w).mono ?_
    rintro e w' ⟨rfl, rfl⟩
    exact ⟨rfl, Below.refl _ _⟩
  · have hlen : 0 < l.length := by cases l with | nil => exact absurd rfl h0 | cons _ _ => simp
    obtain ⟨g, c, rfl, _, hg, hc, hcs⟩ := own_src h hlen
    refine Try.strings_Join g 0 c l sep w ?_ hg (by omega) hc ?_
    · intro j x hx
      have := hcs j (.string x) (by unfold strs; rw [List.getElem?_map, hx]; rfl)
      rw [Addr.add_lit] at this
      exact this
    · have : (joinS sep l).size = (Lib.join (l.map (·.data.toList)) sep.data.toList).length := by unfold joinS; simp [ByteArray.size]
      omega
def TRet (w : World) (t : ByteArray) (e : Ending) (w' : World) : Prop := e = .returned (.string t) ∧ Below w.heap.size w w'
/-- text answers the text of each tree of so many nodes at most -/
def TextOk (n : Nat) : Prop := ∀ (x : Nd) (k : Fo) (w : World) (b off cap : Nat), k.size + 1 ≤ n → (Fo.cons x k .nil).all mayN → (Fo.cons x k .nil).wf → NdAt w b off (Fo.cons x k .nil).flat → k.size + 1 ≤ cap →
  Calls Try.prog 53 #[.slice (some ⟨b, off, none⟩) (k.size + 1) cap] w (TRet w (txN x k.tx))

set_option maxRecDepth 100000 in
set_option maxHeartbeats 6400000 in
theorem xText_leaf (x : Nd) (k : Fo) (w : World) (b off cap : Nat) (hx : x.k = 1 ∨ x.k = 2 ∨ x.k = 3) (h : NdAt w b off (Fo.cons x k .nil).flat) :
    Calls Try.prog 53 #[.slice (some ⟨b, off, none⟩) (k.size + 1) cap] w (TRet w (txN x k.tx)) := by
  have hb := h.lt
  obtain ⟨c0, c1, c2⟩ := h.cell 0 x rfl
  rw [Nat.zero_mul, Nat.add_zero] at c0 c1 c2
  have hT : Hid (txN x k.tx = if x.k = 1 then ⟨#[37]⟩ else x.n) := by
    unfold Hid txN
    rcases hx with h | h | h
    · rw [if_pos h, if_pos h]
    · rw [if_neg (by omega), if_pos (.inl h), if_neg (by omega)]
    · rw [if_neg (by omega), if_pos (.inr h), if_neg (by omega)]
  have hpos : 0 < k.size + 1 := by omega
  generalize k.size + 1 = n at *
  clear h
  rcases hx with hk | hk | hk
  all_goals
    have HK := Lib.hid hk
    rw [hk] at c0
    clear hk
    go_enter Try.func53, Try.ntmps53
    go_wp2_with fail
    go_ret
    refine ⟨congrArg (fun t => Ending.returned (.string t)) ?_, below1 _ _⟩
    rw [hT.out, HK.out]; simp

set_option maxRecDepth 100000 in
set_option maxHeartbeats 6400000 in
theorem xText_step (n : Nat) (ih : TextOk n) (x : Nd) (k : Fo) (w : World) (b off cap : Nat) (hn : k.size ≤ n) (hns : n ≤ 16777216) (hx1 : x.k ≠ 1) (hx2 : x.k ≠ 2) (hx3 : x.k ≠ 3) (hall : (Fo.cons x k .nil).all mayN) (hwf : (Fo.cons x k .nil).wf) (h : NdAt w b off (Fo.cons x k .nil).flat) (hcap : k.size + 1 ≤ cap) :
    Calls Try.prog 53 #[.slice (some ⟨b, off, none⟩) (k.size + 1) cap] w (TRet w (txN x k.tx)) := by
  have hb := h.lt
  have HN := Lib.hid h
  obtain ⟨c0, c1, c2⟩ := h.cell 0 x rfl
  rw [Nat.zero_mul, Nat.add_zero] at c0 c1 c2
  have HT : Hid (txN x k.tx = joinS (sepK x.k) (k.tx.map fun p => brk x.k p.1 p.2) ++ signK x.k) := by
    unfold Hid txN; rw [if_neg hx1, if_neg (by rintro (h | h); exact hx2 h; exact hx3 h)]
  have hfl : (Fo.cons x k .nil).flat.length = k.size + 1 := by rw [Fo.flat_len]; simp [Fo.size]
  have HKd : Hid (∀ wx, NdAt wx b off (Fo.cons x k .nil).flat → Calls Try.prog 81 #[.slice (some ⟨b, off, none⟩) (k.size + 1) cap] wx (KRet b off k wx)) := by
    intro wx hw
    have := xKids_any b off cap x k _ wx hw rfl hwf.1 hwf.2.1 (by rw [hfl]; exact hcap) (by rw [hfl]; omega)
    rw [hfl] at this
    exact this
  have HSz : Hid ((k.tx.map fun p => p.2.size + 5).sum ≤ 32 * k.size) := Fo.tx_size k (by
    have := hall.2.1
    have key : ∀ f : Fo, f.all mayN → f.all fun x => x.n.size ≤ 16 := by
      intro f
      induction f with
      | nil => intro _; trivial
      | cons y a b2 i1 i2 => intro h; exact ⟨h.1.size, i1 h.2.1, i2 h.2.2⟩
    exact key k this)
  have hpos : 0 < k.size + 1 := by omega
  have e1 : (x.k == 1) = false := by simpa using hx1
  have e2 : (x.k == 2) = false := by simpa using hx2
  have e3 : (x.k == 3) = false := by simpa using hx3
  have hsep : Hid ((x.k = 5 ∧ sepK x.k = ⟨#[32, 124, 32]⟩) ∨ (x.k ≠ 5 ∧ x.k = 4 ∧ sepK x.k = ⟨#[32]⟩) ∨ (x.k ≠ 5 ∧ x.k ≠ 4 ∧ sepK x.k = ⟨#[]⟩)) := by
    unfold Hid sepK
    by_cases h5 : x.k = 5
    · exact .inl ⟨h5, by rw [if_pos h5]⟩
    · by_cases h4 : x.k = 4
      · exact .inr (.inl ⟨h5, h4, by rw [if_neg h5, if_pos h4]⟩)
      · exact .inr (.inr ⟨h5, h4, by rw [if_neg h5, if_neg h4]⟩)
  have HAl := Lib.hid hall
  have HWf := Lib.hid hwf
  have HIh := Lib.hid ih
  clear h hx1 hx2 hx3 hall hwf ih hfl
  rcases hsep.out with ⟨h5, hs⟩ | ⟨h5, h4, hs⟩ | ⟨h5, h4, hs⟩
  · rw [hs] at HT
    have e5 : (x.k == 5) = true := by simpa using h5
    have n5 : (x.k != 5) = false := by simpa using h5
    clear hs h5
    have HJs : Hid ((joinS ⟨#[32, 124, 32]⟩ (k.tx.map fun p => brk x.k p.1 p.2)).size ≤ 1099511627776) := by
      have h1 := joinS_size ⟨#[32, 124, 32]⟩ (k.tx.map fun p => brk x.k p.1 p.2)
      rw [List.map_map] at h1
      have h4 : (k.tx.map ((fun x_1 => x_1.size + (⟨#[32, 124, 32]⟩ : ByteArray).size) ∘ fun p => brk x.k p.1 p.2)).sum ≤ (k.tx.map fun p => p.2.size + 5).sum := by
        generalize k.tx = l
        induction l with
        | nil => simp
        | cons p l ih =>
          have := brk_size x.k p.1 p.2
          have hz : (⟨#[32, 124, 32]⟩ : ByteArray).size ≤ 3 := by decide
          simp only [List.map_cons, List.sum_cons, Function.comp] at ih ⊢
          omega
      have := HSz.out
      unfold Hid; omega
    clear hsep
    go_enter Try.func53, Try.ntmps53
    go_wp2_with fail
    have hb1 : Below w.heap.size w (w.alloc (.cells #[.int .i64 x.k, .string x.n, .int .i64 x.c] 39)) := below1 _ _
    have hbx : (w.alloc (.cells #[.int .i64 x.k, .string x.n, .int .i64 x.c] 39)).heap[w.heap.size]? = some (.cells #[.int .i64 x.k, .string x.n, .int .i64 x.c] 39 (0, 0)) := World.alloc_heap_new w _
    generalize w.alloc (.cells #[.int .i64 x.k, .string x.n, .int .i64 x.c] 39) = w1 at *
    have HKd1 := Lib.hid (HKd.out w1 (HN.out.below hb1))
    have hw1 : w.heap.size < w1.heap.size := (Array.getElem?_eq_some_iff.1 hbx).1
    have HBx := Lib.hid hbx
    have HB1 := Lib.hid hb1
    clear hbx hb1 c0 c1 c2 HKd
    refine (HKd1.out).mono ?_
    rintro e w2 ⟨v2, rfl, ho2, hb2⟩
    have HO2 := Lib.hid ho2
    have HB2 : Hid (Below w.heap.size w w2) := HB1.out.trans (hb2.mono HB1.out.size)
    have HBx2 : Hid (w2.heap[w.heap.size]? = some (.cells #[.int .i64 x.k, .string x.n, .int .i64 x.c] 39 (0, 0))) := (hb2.block _ hw1).trans HBx.out
    have hw2 : w.heap.size < w2.heap.size := (Array.getElem?_eq_some_iff.1 HBx2.out).1
    obtain ⟨_, ao, cp, rfl, -⟩ := Rd.of_owns ho2
    have hkl : k.len ≤ 16777216 := by have := Fo.len_le k; omega
    clear ho2 hb2 HKd1 HB1 HBx
    go_wp2_with fail
    go_loopw [5, 28] (fun o i wr => ∃ j : Nat, i = .int .i64 j ∧ j ≤ k.len ∧ Hid (OwnStr wr w2.heap.size o ((k.tx.take j).map fun p => brk x.k p.1 p.2)) ∧ Hid (Below w2.heap.size w2 wr)) (fun _ i _ => k.len - (intOf i).toNat)
    case atStart => exact ⟨0, rfl, Nat.zero_le _, World.ownsRow_nil _ _ _ _, Below.refl _ _⟩
    case round =>
      obtain ⟨j, rfl, hj, HOwn, HBel⟩ := hrel
      have HB3 : Hid (Below w.heap.size w wr) := HB2.out.trans (HBel.out.mono HB2.out.size)
      have hwr := HBel.out.size
      by_cases hlt : j < k.len
      · obtain ⟨g, gc, e0, hg1, hg2, hg3, hcs⟩ := own_src HO2.out (by omega)
        simp only [Value.slice.injEq] at e0
        obtain ⟨rfl, -, rfl⟩ := e0
        obtain ⟨y, kk, hy1, hy2, hy3, hy4, -⟩ := Fo.get_cons k j hlt
        obtain ⟨pc, hpc⟩ : ∃ p, (k.pieces 1)[j]? = some p := ⟨_, List.getElem?_eq_getElem (by rw [Fo.pieces_len]; exact hlt)⟩
        obtain ⟨q1, qa, qb, q2, q3, q4, q5, q6⟩ := Fo.flat_get k j 1 pc hpc
        rw [hy1] at q2 q4
        have hps : pc.2 = kk.size + 1 := by rw [← q4, Fo.flat_len]; simp [Fo.size]
        have hcell := hcs j (pieceV b off pc) (by rw [List.getElem?_map, hpc]; rfl)
        rw [Addr.add_lit, Nat.zero_add] at hcell
        have X0 : wr.cell? ⟨g, j, none⟩ = some (.slice (some ⟨b, off + pc.1 * 3, none⟩) (kk.size + 1) (kk.size + 1)) := by
          rw [HBel.out.cell (p := ⟨g, j, none⟩) hg2, hcell]; unfold pieceV; rw [hps]
        have hNP : NdAt wr b (off + pc.1 * 3) (Fo.cons y kk .nil).flat := by
          have := (HN.out.below HB3.out).piece (x :: qa) (Fo.cons y kk .nil).flat qb (by simp only [Fo.flat, List.append_nil] at q2 ⊢; rw [q2]; simp)
          rw [List.length_cons, q3, show pc.1 - 1 + 1 = pc.1 from by omega] at this
          exact this
        obtain ⟨y0, -, -⟩ := hNP.cell 0 y rfl
        rw [Nat.zero_mul, Nat.add_zero] at y0
        have HNP := Lib.hid hNP
        have HTx : Hid (Calls Try.prog 53 #[.slice (some ⟨b, off + pc.1 * 3, none⟩) (kk.size + 1) (kk.size + 1)] wr (TRet wr (txN y kk.tx))) :=
          HIh.out y kk wr b _ _ (by omega) (by have := Fo.all_get k HAl.out.2.1 j; rw [hy1] at this; exact this) ⟨(hy4 HWf.out.2.1).1, (hy4 HWf.out.2.1).2, trivial⟩ hNP (Nat.le_refl _)
        have HTk : Hid (k.tx.take (j + 1) = k.tx.take j ++ [(y.k, txN y kk.tx)]) := take_snoc _ _ _ hy2
        have hts : (txN y kk.tx).size ≤ 1073741824 := by
          have h1 := HSz.out
          have h2 : (txN y kk.tx).size + 5 ≤ (k.tx.map fun p => p.2.size + 5).sum := by
            have hm := List.mem_of_getElem? hy2
            have : ∀ l : List (Int × ByteArray), (y.k, txN y kk.tx) ∈ l → (txN y kk.tx).size + 5 ≤ (l.map fun p => p.2.size + 5).sum := by
              intro l
              induction l with
              | nil => intro h; cases h
              | cons z l ih =>
                intro h
                rcases List.mem_cons.1 h with h | h
                · rw [← h]; simp only [List.map_cons, List.sum_cons]; omega
                · have := ih h; simp only [List.map_cons, List.sum_cons]; omega
            exact this _ hm
          omega
        have hbrk : Hid ((y.k = 5 ∧ brk x.k y.k (txN y kk.tx) = (⟨#[40]⟩ : ByteArray) ++ txN y kk.tx ++ (⟨#[41]⟩ : ByteArray)) ∨ (y.k ≠ 5 ∧ y.k = 4 ∧ brk x.k y.k (txN y kk.tx) = txN y kk.tx) ∨ (y.k ≠ 5 ∧ y.k ≠ 4 ∧ brk x.k y.k (txN y kk.tx) = txN y kk.tx)) := by
          unfold Hid brk brkB
          by_cases h5 : y.k = 5
          · exact .inl ⟨h5, by rw [h5]; rfl⟩
          · by_cases h4 : y.k = 4
            · refine .inr (.inl ⟨h5, h4, ?_⟩)
              rw [h4, n5]; rfl
            · refine .inr (.inr ⟨h5, h4, ?_⟩)
              rw [show (y.k == 5) = false from by simpa using h5, show (y.k == 4) = false from by simpa using h4]; rfl
        have hlk : ((k.tx.take j).map fun p => brk x.k p.1 p.2).length ≤ 16777216 := by rw [List.length_map, List.length_take, Fo.tx_len]; omega
        have hbsz : b < wr.heap.size := by omega
        have hkpos : 0 < kk.size + 1 := by omega
        have hgb := hg2
        clear hcs hy1 hy2 hy3 hy4 hpc q1 q2 q3 q4 q5 q6 hps hcell hNP
        generalize txN y kk.tx = ty at *
        generalize hyk : y.k = yk at *
        generalize kk.size + 1 = kn at *
        go_wp2_with fail
        refine (HTx.out).mono ?_
        rintro e w4 ⟨rfl, hb4⟩
        have HOwn4 : Hid (OwnStr w4 w2.heap.size u5 ((k.tx.take j).map fun p => brk x.k p.1 p.2)) := own_grown HOwn.out (grown_below hb4) (by simp)
        have HBel4 : Hid (Below w2.heap.size w2 w4) := HBel.out.trans (hb4.mono hwr)
        have hw4 := HBel4.out.size
        have Y0 := (hb4.cell (p := ⟨b, _, none⟩) hbsz).trans y0
        have hbx4 : w4.heap[w.heap.size]? = some (.cells #[.int .i64 x.k, .string x.n, .int .i64 x.c] 39 (0, 0)) := (HBel4.out.block _ hw2).trans HBx2.out
        have K0 : w4.cell? ⟨w.heap.size, 0, none⟩ = some (.int .i64 x.k) := by simp [World.cell?, hbx4]
        clear hb4 y0 hbx4 X0 HTx
        rcases hbrk.out with ⟨h5, hbr⟩ | ⟨h5, h4, hbr⟩ | ⟨h5, h4, hbr⟩
        · have t5 : (yk == 5) = true := by simpa using h5
          have HBr := Lib.hid hbr
          clear hbrk h5 hbr
          go_wp2_with (at_builtin; go_must (refine wpList_appG1 elemStr rfl _ _ rfl HOwn4.out rfl (news := [.string _]) rfl rfl (by intro u hu; simp at hu; subst hu; rfl) (by unfold maxLen; omega) (by omega) hw4 ?_); intro v' w5 hown5 hg5)
          have HO5 : Hid (OwnStr w5 w2.heap.size v' ((k.tx.take (j + 1)).map fun p => brk x.k p.1 p.2)) := by
            rw [HTk.out, List.map_append]
            refine OwnStr.snoc ?_
            simp only
            rw [HBr.out]
            exact hown5
          have HB5 : Hid (Below w2.heap.size w2 w5) := HBel4.out.grown hg5 hw4 (fun j hj => own_block HOwn4.out j hj)
          clear hown5 hg5
          go_roundw
          case rel => exact ⟨j + 1, by go_num, by omega, HO5.out, HB5.out⟩
          case measure => simp [intOf]; omega
        · have t5 : (yk == 5) = false := by simpa using h5
          have t4 : (yk == 4) = true := by simpa using h4
          have HBr := Lib.hid hbr
          clear hbrk h5 h4 hbr
          go_wp2_with (at_builtin; go_must (refine wpList_appG1 elemStr rfl _ _ rfl HOwn4.out rfl (news := [.string _]) rfl rfl (by intro u hu; simp at hu; subst hu; rfl) (by unfold maxLen; omega) (by omega) hw4 ?_); intro v' w5 hown5 hg5)
          have HO5 : Hid (OwnStr w5 w2.heap.size v' ((k.tx.take (j + 1)).map fun p => brk x.k p.1 p.2)) := by
            rw [HTk.out, List.map_append]
            refine OwnStr.snoc ?_
            simp only
            rw [HBr.out]
            exact hown5
          have HB5 : Hid (Below w2.heap.size w2 w5) := HBel4.out.grown hg5 hw4 (fun j hj => own_block HOwn4.out j hj)
          clear hown5 hg5
          go_roundw
          case rel => exact ⟨j + 1, by go_num, by omega, HO5.out, HB5.out⟩
          case measure => simp [intOf]; omega
        · have t5 : (yk == 5) = false := by simpa using h5
          have t4 : (yk == 4) = false := by simpa using h4
          have HBr := Lib.hid hbr
          clear hbrk h5 h4 hbr
          go_wp2_with (at_builtin; go_must (refine wpList_appG1 elemStr rfl _ _ rfl HOwn4.out rfl (news := [.string _]) rfl rfl (by intro u hu; simp at hu; subst hu; rfl) (by unfold maxLen; omega) (by omega) hw4 ?_); intro v' w5 hown5 hg5)
          have HO5 : Hid (OwnStr w5 w2.heap.size v' ((k.tx.take (j + 1)).map fun p => brk x.k p.1 p.2)) := by
            rw [HTk.out, List.map_append]
            refine OwnStr.snoc ?_
            simp only
            rw [HBr.out]
            exact hown5
          have HB5 : Hid (Below w2.heap.size w2 w5) := HBel4.out.grown hg5 hw4 (fun j hj => own_block HOwn4.out j hj)
          clear hown5 hg5
          go_roundw
          case rel => exact ⟨j + 1, by go_num, by omega, HO5.out, HB5.out⟩
          case measure => simp [intOf]; omega
      · obtain rfl : j = k.len := by omega
        have hall : (k.tx.take k.len) = k.tx := List.take_of_length_le (by rw [Fo.tx_len]; exact Nat.le_refl _)
        rw [hall] at HOwn
        have hlk : (k.tx.map fun p => brk x.k p.1 p.2).length ≤ 1099511627776 := by rw [List.length_map, Fo.tx_len]; omega
        have HJ := Lib.hid (join_own ⟨#[32, 124, 32]⟩ (own_grown HOwn.out (grown_drewN wr 1 none) (by simp)) hlk HJs.out)
        have HSg := Lib.hid (xSign_any x.k)
        have hbx4 : wr.heap[w.heap.size]? = some (.cells #[.int .i64 x.k, .string x.n, .int .i64 x.c] 39 (0, 0)) := (HBel.out.block _ hw2).trans HBx2.out
        have K0 : wr.cell? ⟨w.heap.size, 0, none⟩ = some (.int .i64 x.k) := by simp [World.cell?, hbx4]
        obtain ⟨_, ao5, cp5, rfl, -⟩ := Rd.of_owns HOwn.out
        have hs1 := HJs.out
        have hs2 := signK_size x.k
        generalize (k.tx.map fun p => brk x.k p.1 p.2) = parts at *
        generalize joinS ⟨#[32, 124, 32]⟩ parts = js at *
        generalize signK x.k = sg at *
        have hwlt : w.heap.size < wr.heap.size := by omega
        have hsum : ¬ 9223372036854775807 < js.size + sg.size := by omega
        clear hbx4 hall
        go_wp2_with fail
        go_region_held3 (fun w' => w'.cell? ⟨w.heap.size, 0, none⟩ = some (.int .i64 x.k)) (first | go_keep | exact k0)
          (first
            | (go_at_call 82; refine (HJ.out).mono ?_; rintro e w5 ⟨rfl, hb5⟩; have k0 : w5.cell? ⟨w.heap.size, 0, none⟩ = some (.int .i64 x.k) := (hb5.cell (p := ⟨w.heap.size, 0, none⟩) hwlt).trans K0)
            | (go_at_call 83; refine (HSg.out _).mono ?_; rintro e w' ⟨rfl, rfl⟩))
        all_goals
          go_wp2_with fail
          go_ret
          exact ⟨congrArg (fun t => Ending.returned (.string t)) HT.out.symm, HB3.out.trans ((Below.trans (below_drewN (Below.refl wr.heap.size wr) 1) hb5).mono HB3.out.size)⟩
  · rw [hs] at HT
    have e5 : (x.k == 5) = false := by simpa using h5
    have e4 : (x.k == 4) = true := by simpa using h4
    have n5 : (x.k != 5) = true := by simpa using h5
    clear hs h5 h4
    have HJs : Hid ((joinS ⟨#[32]⟩ (k.tx.map fun p => brk x.k p.1 p.2)).size ≤ 1099511627776) := by
      have h1 := joinS_size ⟨#[32]⟩ (k.tx.map fun p => brk x.k p.1 p.2)
      rw [List.map_map] at h1
      have h4 : (k.tx.map ((fun x_1 => x_1.size + (⟨#[32]⟩ : ByteArray).size) ∘ fun p => brk x.k p.1 p.2)).sum ≤ (k.tx.map fun p => p.2.size + 5).sum := by
        generalize k.tx = l
        induction l with
        | nil => simp
        | cons p l ih =>
          have := brk_size x.k p.1 p.2
          have hz : (⟨#[32]⟩ : ByteArray).size ≤ 3 := by decide
          simp only [List.map_cons, List.sum_cons, Function.comp] at ih ⊢
          omega
      have := HSz.out
      unfold Hid; omega
    clear hsep
    go_enter Try.func53, Try.ntmps53
    go_wp2_with fail
    have hb1 : Below w.heap.size w (w.alloc (.cells #[.int .i64 x.k, .string x.n, .int .i64 x.c] 39)) := below1 _ _
    have hbx : (w.alloc (.cells #[.int .i64 x.k, .string x.n, .int .i64 x.c] 39)).heap[w.heap.size]? = some (.cells #[.int .i64 x.k, .string x.n, .int .i64 x.c] 39 (0, 0)) := World.alloc_heap_new w _
    generalize w.alloc (.cells #[.int .i64 x.k, .string x.n, .int .i64 x.c] 39) = w1 at *
    have HKd1 := Lib.hid (HKd.out w1 (HN.out.below hb1))
    have hw1 : w.heap.size < w1.heap.size := (Array.getElem?_eq_some_iff.1 hbx).1
    have HBx := Lib.hid hbx
    have HB1 := Lib.hid hb1
    clear hbx hb1 c0 c1 c2 HKd
    refine (HKd1.out).mono ?_
    rintro e w2 ⟨v2, rfl, ho2, hb2⟩
    have HO2 := Lib.hid ho2
    have HB2 : Hid (Below w.heap.size w w2) := HB1.out.trans (hb2.mono HB1.out.size)
    have HBx2 : Hid (w2.heap[w.heap.size]? = some (.cells #[.int .i64 x.k, .string x.n, .int .i64 x.c] 39 (0, 0))) := (hb2.block _ hw1).trans HBx.out
    have hw2 : w.heap.size < w2.heap.size := (Array.getElem?_eq_some_iff.1 HBx2.out).1
    obtain ⟨_, ao, cp, rfl, -⟩ := Rd.of_owns ho2
    have hkl : k.len ≤ 16777216 := by have := Fo.len_le k; omega
    clear ho2 hb2 HKd1 HB1 HBx
    go_wp2_with fail
    go_loopw [5, 28] (fun o i wr => ∃ j : Nat, i = .int .i64 j ∧ j ≤ k.len ∧ Hid (OwnStr wr w2.heap.size o ((k.tx.take j).map fun p => brk x.k p.1 p.2)) ∧ Hid (Below w2.heap.size w2 wr)) (fun _ i _ => k.len - (intOf i).toNat)
    case atStart => exact ⟨0, rfl, Nat.zero_le _, World.ownsRow_nil _ _ _ _, Below.refl _ _⟩
    case round =>
      obtain ⟨j, rfl, hj, HOwn, HBel⟩ := hrel
      have HB3 : Hid (Below w.heap.size w wr) := HB2.out.trans (HBel.out.mono HB2.out.size)
      have hwr := HBel.out.size
      by_cases hlt : j < k.len
      · obtain ⟨g, gc, e0, hg1, hg2, hg3, hcs⟩ := own_src HO2.out (by omega)
        simp only [Value.slice.injEq] at e0
        obtain ⟨rfl, -, rfl⟩ := e0
        obtain ⟨y, kk, hy1, hy2, hy3, hy4, -⟩ := Fo.get_cons k j hlt
        obtain ⟨pc, hpc⟩ : ∃ p, (k.pieces 1)[j]? = some p := ⟨_, List.getElem?_eq_getElem (by rw [Fo.pieces_len]; exact hlt)⟩
        obtain ⟨q1, qa, qb, q2, q3, q4, q5, q6⟩ := Fo.flat_get k j 1 pc hpc
        rw [hy1] at q2 q4
        have hps : pc.2 = kk.size + 1 := by rw [← q4, Fo.flat_len]; simp [Fo.size]
        have hcell := hcs j (pieceV b off pc) (by rw [List.getElem?_map, hpc]; rfl)
        rw [Addr.add_lit, Nat.zero_add] at hcell
        have X0 : wr.cell? ⟨g, j, none⟩ = some (.slice (some ⟨b, off + pc.1 * 3, none⟩) (kk.size + 1) (kk.size + 1)) := by
          rw [HBel.out.cell (p := ⟨g, j, none⟩) hg2, hcell]; unfold pieceV; rw [hps]
        have hNP : NdAt wr b (off + pc.1 * 3) (Fo.cons y kk .nil).flat := by
          have := (HN.out.below HB3.out).piece (x :: qa) (Fo.cons y kk .nil).flat qb (by simp only [Fo.flat, List.append_nil] at q2 ⊢; rw [q2]; simp)
          rw [List.length_cons, q3, show pc.1 - 1 + 1 = pc.1 from by omega] at this
          exact this
        obtain ⟨y0, -, -⟩ := hNP.cell 0 y rfl
        rw [Nat.zero_mul, Nat.add_zero] at y0
        have HNP := Lib.hid hNP
        have HTx : Hid (Calls Try.prog 53 #[.slice (some ⟨b, off + pc.1 * 3, none⟩) (kk.size + 1) (kk.size + 1)] wr (TRet wr (txN y kk.tx))) :=
          HIh.out y kk wr b _ _ (by omega) (by have := Fo.all_get k HAl.out.2.1 j; rw [hy1] at this; exact this) ⟨(hy4 HWf.out.2.1).1, (hy4 HWf.out.2.1).2, trivial⟩ hNP (Nat.le_refl _)
        have HTk : Hid (k.tx.take (j + 1) = k.tx.take j ++ [(y.k, txN y kk.tx)]) := take_snoc _ _ _ hy2
        have hts : (txN y kk.tx).size ≤ 1073741824 := by
          have h1 := HSz.out
          have h2 : (txN y kk.tx).size + 5 ≤ (k.tx.map fun p => p.2.size + 5).sum := by
            have hm := List.mem_of_getElem? hy2
            have : ∀ l : List (Int × ByteArray), (y.k, txN y kk.tx) ∈ l → (txN y kk.tx).size + 5 ≤ (l.map fun p => p.2.size + 5).sum := by
              intro l
              induction l with
              | nil => intro h; cases h
              | cons z l ih =>
                intro h
                rcases List.mem_cons.1 h with h | h
                · rw [← h]; simp only [List.map_cons, List.sum_cons]; omega
                · have := ih h; simp only [List.map_cons, List.sum_cons]; omega
            exact this _ hm
          omega
        have hbrk : Hid ((y.k = 5 ∧ brk x.k y.k (txN y kk.tx) = (⟨#[40]⟩ : ByteArray) ++ txN y kk.tx ++ (⟨#[41]⟩ : ByteArray)) ∨ (y.k ≠ 5 ∧ y.k = 4 ∧ brk x.k y.k (txN y kk.tx) = (⟨#[40]⟩ : ByteArray) ++ txN y kk.tx ++ (⟨#[41]⟩ : ByteArray)) ∨ (y.k ≠ 5 ∧ y.k ≠ 4 ∧ brk x.k y.k (txN y kk.tx) = txN y kk.tx)) := by
          unfold Hid brk brkB
          by_cases h5 : y.k = 5
          · exact .inl ⟨h5, by rw [h5]; rfl⟩
          · by_cases h4 : y.k = 4
            · refine .inr (.inl ⟨h5, h4, ?_⟩)
              rw [h4, n5]; rfl
            · refine .inr (.inr ⟨h5, h4, ?_⟩)
              rw [show (y.k == 5) = false from by simpa using h5, show (y.k == 4) = false from by simpa using h4]; rfl
        have hlk : ((k.tx.take j).map fun p => brk x.k p.1 p.2).length ≤ 16777216 := by rw [List.length_map, List.length_take, Fo.tx_len]; omega
        have hbsz : b < wr.heap.size := by omega
        have hkpos : 0 < kk.size + 1 := by omega
        have hgb := hg2
        clear hcs hy1 hy2 hy3 hy4 hpc q1 q2 q3 q4 q5 q6 hps hcell hNP
        generalize txN y kk.tx = ty at *
        generalize hyk : y.k = yk at *
        generalize kk.size + 1 = kn at *
        go_wp2_with fail
        refine (HTx.out).mono ?_
        rintro e w4 ⟨rfl, hb4⟩
        have HOwn4 : Hid (OwnStr w4 w2.heap.size u5 ((k.tx.take j).map fun p => brk x.k p.1 p.2)) := own_grown HOwn.out (grown_below hb4) (by simp)
        have HBel4 : Hid (Below w2.heap.size w2 w4) := HBel.out.trans (hb4.mono hwr)
        have hw4 := HBel4.out.size
        have Y0 := (hb4.cell (p := ⟨b, _, none⟩) hbsz).trans y0
        have hbx4 : w4.heap[w.heap.size]? = some (.cells #[.int .i64 x.k, .string x.n, .int .i64 x.c] 39 (0, 0)) := (HBel4.out.block _ hw2).trans HBx2.out
        have K0 : w4.cell? ⟨w.heap.size, 0, none⟩ = some (.int .i64 x.k) := by simp [World.cell?, hbx4]
        clear hb4 y0 hbx4 X0 HTx
        rcases hbrk.out with ⟨h5, hbr⟩ | ⟨h5, h4, hbr⟩ | ⟨h5, h4, hbr⟩
        · have t5 : (yk == 5) = true := by simpa using h5
          have HBr := Lib.hid hbr
          clear hbrk h5 hbr
          go_wp2_with (at_builtin; go_must (refine wpList_appG1 elemStr rfl _ _ rfl HOwn4.out rfl (news := [.string _]) rfl rfl (by intro u hu; simp at hu; subst hu; rfl) (by unfold maxLen; omega) (by omega) hw4 ?_); intro v' w5 hown5 hg5)
          have HO5 : Hid (OwnStr w5 w2.heap.size v' ((k.tx.take (j + 1)).map fun p => brk x.k p.1 p.2)) := by
            rw [HTk.out, List.map_append]
            refine OwnStr.snoc ?_
            simp only
            rw [HBr.out]
            exact hown5
          have HB5 : Hid (Below w2.heap.size w2 w5) := HBel4.out.grown hg5 hw4 (fun j hj => own_block HOwn4.out j hj)
          clear hown5 hg5
          go_roundw
          case rel => exact ⟨j + 1, by go_num, by omega, HO5.out, HB5.out⟩
          case measure => simp [intOf]; omega
        · have t5 : (yk == 5) = false := by simpa using h5
          have t4 : (yk == 4) = true := by simpa using h4
          have HBr := Lib.hid hbr
          clear hbrk h5 h4 hbr
          go_wp2_with (at_builtin; go_must (refine wpList_appG1 elemStr rfl _ _ rfl HOwn4.out rfl (news := [.string _]) rfl rfl (by intro u hu; simp at hu; subst hu; rfl) (by unfold maxLen; omega) (by omega) hw4 ?_); intro v' w5 hown5 hg5)
          have HO5 : Hid (OwnStr w5 w2.heap.size v' ((k.tx.take (j + 1)).map fun p => brk x.k p.1 p.2)) := by
            rw [HTk.out, List.map_append]
            refine OwnStr.snoc ?_
            simp only
            rw [HBr.out]
            exact hown5
          have HB5 : Hid (Below w2.heap.size w2 w5) := HBel4.out.grown hg5 hw4 (fun j hj => own_block HOwn4.out j hj)
          clear hown5 hg5
          go_roundw
          case rel => exact ⟨j + 1, by go_num, by omega, HO5.out, HB5.out⟩
          case measure => simp [intOf]; omega
        · have t5 : (yk == 5) = false := by simpa using h5
          have t4 : (yk == 4) = false := by simpa using h4
          have HBr := Lib.hid hbr
          clear hbrk h5 h4 hbr
          go_wp2_with (at_builtin; go_must (refine wpList_appG1 elemStr rfl _ _ rfl HOwn4.out rfl (news := [.string _]) rfl rfl (by intro u hu; simp at hu; subst hu; rfl) (by unfold maxLen; omega) (by omega) hw4 ?_); intro v' w5 hown5 hg5)
          have HO5 : Hid (OwnStr w5 w2.heap.size v' ((k.tx.take (j + 1)).map fun p => brk x.k p.1 p.2)) := by
            rw [HTk.out, List.map_append]
            refine OwnStr.snoc ?_
            simp only
            rw [HBr.out]
            exact hown5
          have HB5 : Hid (Below w2.heap.size w2 w5) := HBel4.out.grown hg5 hw4 (fun j hj => own_block HOwn4.out j hj)
          clear hown5 hg5
          go_roundw
          case rel => exact ⟨j + 1, by go_num, by omega, HO5.out, HB5.out⟩
          case measure => simp [intOf]; omega
      · obtain rfl : j = k.len := by omega
        have hall : (k.tx.take k.len) = k.tx := List.take_of_length_le (by rw [Fo.tx_len]; exact Nat.le_refl _)
        rw [hall] at HOwn
        have hlk : (k.tx.map fun p => brk x.k p.1 p.2).length ≤ 1099511627776 := by rw [List.length_map, Fo.tx_len]; omega
        have HJ := Lib.hid (join_own ⟨#[32]⟩ (own_grown HOwn.out (grown_drewN wr 1 none) (by simp)) hlk HJs.out)
        have HSg := Lib.hid (xSign_any x.k)
        have hbx4 : wr.heap[w.heap.size]? = some (.cells #[.int .i64 x.k, .string x.n, .int .i64 x.c] 39 (0, 0)) := (HBel.out.block _ hw2).trans HBx2.out
        have K0 : wr.cell? ⟨w.heap.size, 0, none⟩ = some (.int .i64 x.k) := by simp [World.cell?, hbx4]
        obtain ⟨_, ao5, cp5, rfl, -⟩ := Rd.of_owns HOwn.out
        have hs1 := HJs.out
        have hs2 := signK_size x.k
        generalize (k.tx.map fun p => brk x.k p.1 p.2) = parts at *
        generalize joinS ⟨#[32]⟩ parts = js at *
        generalize signK x.k = sg at *
        have hwlt : w.heap.size < wr.heap.size := by omega
        have hsum : ¬ 9223372036854775807 < js.size + sg.size := by omega
        clear hbx4 hall
        go_wp2_with fail
        go_region_held3 (fun w' => w'.cell? ⟨w.heap.size, 0, none⟩ = some (.int .i64 x.k)) (first | go_keep | exact k0)
          (first
            | (go_at_call 82; refine (HJ.out).mono ?_; rintro e w5 ⟨rfl, hb5⟩; have k0 : w5.cell? ⟨w.heap.size, 0, none⟩ = some (.int .i64 x.k) := (hb5.cell (p := ⟨w.heap.size, 0, none⟩) hwlt).trans K0)
            | (go_at_call 83; refine (HSg.out _).mono ?_; rintro e w' ⟨rfl, rfl⟩))
        all_goals
          go_wp2_with fail
          go_ret
          exact ⟨congrArg (fun t => Ending.returned (.string t)) HT.out.symm, HB3.out.trans ((Below.trans (below_drewN (Below.refl wr.heap.size wr) 1) hb5).mono HB3.out.size)⟩
  · rw [hs] at HT
    have e5 : (x.k == 5) = false := by simpa using h5
    have e4 : (x.k == 4) = false := by simpa using h4
    have n5 : (x.k != 5) = true := by simpa using h5
    clear hs h5 h4
    have HJs : Hid ((joinS ⟨#[]⟩ (k.tx.map fun p => brk x.k p.1 p.2)).size ≤ 1099511627776) := by
      have h1 := joinS_size ⟨#[]⟩ (k.tx.map fun p => brk x.k p.1 p.2)
      rw [List.map_map] at h1
      have h4 : (k.tx.map ((fun x_1 => x_1.size + (⟨#[]⟩ : ByteArray).size) ∘ fun p => brk x.k p.1 p.2)).sum ≤ (k.tx.map fun p => p.2.size + 5).sum := by
        generalize k.tx = l
        induction l with
        | nil => simp
        | cons p l ih =>
          have := brk_size x.k p.1 p.2
          have hz : (⟨#[]⟩ : ByteArray).size ≤ 3 := by decide
          simp only [List.map_cons, List.sum_cons, Function.comp] at ih ⊢
          omega
      have := HSz.out
      unfold Hid; omega
    clear hsep
    go_enter Try.func53, Try.ntmps53
    go_wp2_with fail
    have hb1 : Below w.heap.size w (w.alloc (.cells #[.int .i64 x.k, .string x.n, .int .i64 x.c] 39)) := below1 _ _
    have hbx : (w.alloc (.cells #[.int .i64 x.k, .string x.n, .int .i64 x.c] 39)).heap[w.heap.size]? = some (.cells #[.int .i64 x.k, .string x.n, .int .i64 x.c] 39 (0, 0)) := World.alloc_heap_new w _
    generalize w.alloc (.cells #[.int .i64 x.k, .string x.n, .int .i64 x.c] 39) = w1 at *
    have HKd1 := Lib.hid (HKd.out w1 (HN.out.below hb1))
    have hw1 : w.heap.size < w1.heap.size := (Array.getElem?_eq_some_iff.1 hbx).1
    have HBx := Lib.hid hbx
    have HB1 := Lib.hid hb1
    clear hbx hb1 c0 c1 c2 HKd
    refine (HKd1.out).mono ?_
    rintro e w2 ⟨v2, rfl, ho2, hb2⟩
    have HO2 := Lib.hid ho2
    have HB2 : Hid (Below w.heap.size w w2) := HB1.out.trans (hb2.mono HB1.out.size)
    have HBx2 : Hid (w2.heap[w.heap.size]? = some (.cells #[.int .i64 x.k, .string x.n, .int .i64 x.c] 39 (0, 0))) := (hb2.block _ hw1).trans HBx.out
    have hw2 : w.heap.size < w2.heap.size := (Array.getElem?_eq_some_iff.1 HBx2.out).1
    obtain ⟨_, ao, cp, rfl, -⟩ := Rd.of_owns ho2
    have hkl : k.len ≤ 16777216 := by have := Fo.len_le k; omega
    clear ho2 hb2 HKd1 HB1 HBx
    go_wp2_with fail
    go_loopw [5, 28] (fun o i wr => ∃ j : Nat, i = .int .i64 j ∧ j ≤ k.len ∧ Hid (OwnStr wr w2.heap.size o ((k.tx.take j).map fun p => brk x.k p.1 p.2)) ∧ Hid (Below w2.heap.size w2 wr)) (fun _ i _ => k.len - (intOf i).toNat)
    case atStart => exact ⟨0, rfl, Nat.zero_le _, World.ownsRow_nil _ _ _ _, Below.refl _ _⟩
    case round =>
      obtain ⟨j, rfl, hj, HOwn, HBel⟩ := hrel
      have HB3 : Hid (Below w.heap.size w wr) := HB2.out.trans (HBel.out.mono HB2.out.size)
      have hwr := HBel.out.size
      by_cases hlt : j < k.len
      · obtain ⟨g, gc, e0, hg1, hg2, hg3, hcs⟩ := own_src HO2.out (by omega)
        simp only [Value.slice.injEq] at e0
        obtain ⟨rfl, -, rfl⟩ := e0
        obtain ⟨y, kk, hy1, hy2, hy3, hy4, -⟩ := Fo.get_cons k j hlt
        obtain ⟨pc, hpc⟩ : ∃ p, (k.pieces 1)[j]? = some p := ⟨_, List.getElem?_eq_getElem (by rw [Fo.pieces_len]; exact hlt)⟩
        obtain ⟨q1, qa, qb, q2, q3, q4, q5, q6⟩ := Fo.flat_get k j 1 pc hpc
        rw [hy1] at q2 q4
        have hps : pc.2 = kk.size + 1 := by rw [← q4, Fo.flat_len]; simp [Fo.size]
        have hcell := hcs j (pieceV b off pc) (by rw [List.getElem?_map, hpc]; rfl)
        rw [Addr.add_lit, Nat.zero_add] at hcell
        have X0 : wr.cell? ⟨g, j, none⟩ = some (.slice (some ⟨b, off + pc.1 * 3, none⟩) (kk.size + 1) (kk.size + 1)) := by
          rw [HBel.out.cell (p := ⟨g, j, none⟩) hg2, hcell]; unfold pieceV; rw [hps]
        have hNP : NdAt wr b (off + pc.1 * 3) (Fo.cons y kk .nil).flat := by
          have := (HN.out.below HB3.out).piece (x :: qa) (Fo.cons y kk .nil).flat qb (by simp only [Fo.flat, List.append_nil] at q2 ⊢; rw [q2]; simp)
          rw [List.length_cons, q3, show pc.1 - 1 + 1 = pc.1 from by omega] at this
          exact this
        obtain ⟨y0, -, -⟩ := hNP.cell 0 y rfl
        rw [Nat.zero_mul, Nat.add_zero] at y0
        have HNP := Lib.hid hNP
        have HTx : Hid (Calls Try.prog 53 #[.slice (some ⟨b, off + pc.1 * 3, none⟩) (kk.size + 1) (kk.size + 1)] wr (TRet wr (txN y kk.tx))) :=
          HIh.out y kk wr b _ _ (by omega) (by have := Fo.all_get k HAl.out.2.1 j; rw [hy1] at this; exact this) ⟨(hy4 HWf.out.2.1).1, (hy4 HWf.out.2.1).2, trivial⟩ hNP (Nat.le_refl _)
        have HTk : Hid (k.tx.take (j + 1) = k.tx.take j ++ [(y.k, txN y kk.tx)]) := take_snoc _ _ _ hy2
        have hts : (txN y kk.tx).size ≤ 1073741824 := by
          have h1 := HSz.out
          have h2 : (txN y kk.tx).size + 5 ≤ (k.tx.map fun p => p.2.size + 5).sum := by
            have hm := List.mem_of_getElem? hy2
            have : ∀ l : List (Int × ByteArray), (y.k, txN y kk.tx) ∈ l → (txN y kk.tx).size + 5 ≤ (l.map fun p => p.2.size + 5).sum := by
              intro l
              induction l with
              | nil => intro h; cases h
              | cons z l ih =>
                intro h
                rcases List.mem_cons.1 h with h | h
                · rw [← h]; simp only [List.map_cons, List.sum_cons]; omega
                · have := ih h; simp only [List.map_cons, List.sum_cons]; omega
            exact this _ hm
          omega
        have hbrk : Hid ((y.k = 5 ∧ brk x.k y.k (txN y kk.tx) = (⟨#[40]⟩ : ByteArray) ++ txN y kk.tx ++ (⟨#[41]⟩ : ByteArray)) ∨ (y.k ≠ 5 ∧ y.k = 4 ∧ brk x.k y.k (txN y kk.tx) = (⟨#[40]⟩ : ByteArray) ++ txN y kk.tx ++ (⟨#[41]⟩ : ByteArray)) ∨ (y.k ≠ 5 ∧ y.k ≠ 4 ∧ brk x.k y.k (txN y kk.tx) = txN y kk.tx)) := by
          unfold Hid brk brkB
          by_cases h5 : y.k = 5
          · exact .inl ⟨h5, by rw [h5]; rfl⟩
          · by_cases h4 : y.k = 4
            · refine .inr (.inl ⟨h5, h4, ?_⟩)
              rw [h4, n5]; rfl
            · refine .inr (.inr ⟨h5, h4, ?_⟩)
              rw [show (y.k == 5) = false from by simpa using h5, show (y.k == 4) = false from by simpa using h4]; rfl
        have hlk : ((k.tx.take j).map fun p => brk x.k p.1 p.2).length ≤ 16777216 := by rw [List.length_map, List.length_take, Fo.tx_len]; omega
        have hbsz : b < wr.heap.size := by omega
        have hkpos : 0 < kk.size + 1 := by omega
        have hgb := hg2
        clear hcs hy1 hy2 hy3 hy4 hpc q1 q2 q3 q4 q5 q6 hps hcell hNP
        generalize txN y kk.tx = ty at *
        generalize hyk : y.k = yk at *
        generalize kk.size + 1 = kn at *
        go_wp2_with fail
        refine (HTx.out).mono ?_
        rintro e w4 ⟨rfl, hb4⟩
        have HOwn4 : Hid (OwnStr w4 w2.heap.size u5 ((k.tx.take j).map fun p => brk x.k p.1 p.2)) := own_grown HOwn.out (grown_below hb4) (by simp)
        have HBel4 : Hid (Below w2.heap.size w2 w4) := HBel.out.trans (hb4.mono hwr)
        have hw4 := HBel4.out.size
        have Y0 := (hb4.cell (p := ⟨b, _, none⟩) hbsz).trans y0
        have hbx4 : w4.heap[w.heap.size]? = some (.cells #[.int .i64 x.k, .string x.n, .int .i64 x.c] 39 (0, 0)) := (HBel4.out.block _ hw2).trans HBx2.out
        have K0 : w4.cell? ⟨w.heap.size, 0, none⟩ = some (.int .i64 x.k) := by simp [World.cell?, hbx4]
        clear hb4 y0 hbx4 X0 HTx
        rcases hbrk.out with ⟨h5, hbr⟩ | ⟨h5, h4, hbr⟩ | ⟨h5, h4, hbr⟩
        · have t5 : (yk == 5) = true := by simpa using h5
          have HBr := Lib.hid hbr
          clear hbrk h5 hbr
          go_wp2_with (at_builtin; go_must (refine wpList_appG1 elemStr rfl _ _ rfl HOwn4.out rfl (news := [.string _]) rfl rfl (by intro u hu; simp at hu; subst hu; rfl) (by unfold maxLen; omega) (by omega) hw4 ?_); intro v' w5 hown5 hg5)
          have HO5 : Hid (OwnStr w5 w2.heap.size v' ((k.tx.take (j + 1)).map fun p => brk x.k p.1 p.2)) := by
            rw [HTk.out, List.map_append]
            refine OwnStr.snoc ?_
            simp only
            rw [HBr.out]
            exact hown5
          have HB5 : Hid (Below w2.heap.size w2 w5) := HBel4.out.grown hg5 hw4 (fun j hj => own_block HOwn4.out j hj)
          clear hown5 hg5
          go_roundw
          case rel => exact ⟨j + 1, by go_num, by omega, HO5.out, HB5.out⟩
          case measure => simp [intOf]; omega
        · have t5 : (yk == 5) = false := by simpa using h5
          have t4 : (yk == 4) = true := by simpa using h4
          have HBr := Lib.hid hbr
          clear hbrk h5 h4 hbr
          go_wp2_with (at_builtin; go_must (refine wpList_appG1 elemStr rfl _ _ rfl HOwn4.out rfl (news := [.string _]) rfl rfl (by intro u hu; simp at hu; subst hu; rfl) (by unfold maxLen; omega) (by omega) hw4 ?_); intro v' w5 hown5 hg5)
          have HO5 : Hid (OwnStr w5 w2.heap.size v' ((k.tx.take (j + 1)).map fun p => brk x.k p.1 p.2)) := by
            rw [HTk.out, List.map_append]
            refine OwnStr.snoc ?_
            simp only
            rw [HBr.out]
            exact hown5
          have HB5 : Hid (Below w2.heap.size w2 w5) := HBel4.out.grown hg5 hw4 (fun j hj => own_block HOwn4.out j hj)
          clear hown5 hg5
          go_roundw
          case rel => exact ⟨j + 1, by go_num, by omega, HO5.out, HB5.out⟩
          case measure => simp [intOf]; omega
        · have t5 : (yk == 5) = false := by simpa using h5
          have t4 : (yk == 4) = false := by simpa using h4
          have HBr := Lib.hid hbr
          clear hbrk h5 h4 hbr
          go_wp2_with (at_builtin; go_must (refine wpList_appG1 elemStr rfl _ _ rfl HOwn4.out rfl (news := [.string _]) rfl rfl (by intro u hu; simp at hu; subst hu; rfl) (by unfold maxLen; omega) (by omega) hw4 ?_); intro v' w5 hown5 hg5)
          have HO5 : Hid (OwnStr w5 w2.heap.size v' ((k.tx.take (j + 1)).map fun p => brk x.k p.1 p.2)) := by
            rw [HTk.out, List.map_append]
            refine OwnStr.snoc ?_
            simp only
            rw [HBr.out]
            exact hown5
          have HB5 : Hid (Below w2.heap.size w2 w5) := HBel4.out.grown hg5 hw4 (fun j hj => own_block HOwn4.out j hj)
          clear hown5 hg5
          go_roundw
          case rel => exact ⟨j + 1, by go_num, by omega, HO5.out, HB5.out⟩
          case measure => simp [intOf]; omega
      · obtain rfl : j = k.len := by omega
        have hall : (k.tx.take k.len) = k.tx := List.take_of_length_le (by rw [Fo.tx_len]; exact Nat.le_refl _)
        rw [hall] at HOwn
        have hlk : (k.tx.map fun p => brk x.k p.1 p.2).length ≤ 1099511627776 := by rw [List.length_map, Fo.tx_len]; omega
        have HJ := Lib.hid (join_own ⟨#[]⟩ (own_grown HOwn.out (grown_drewN wr 1 none) (by simp)) hlk HJs.out)
        have HSg := Lib.hid (xSign_any x.k)
        have hbx4 : wr.heap[w.heap.size]? = some (.cells #[.int .i64 x.k, .string x.n, .int .i64 x.c] 39 (0, 0)) := (HBel.out.block _ hw2).trans HBx2.out
        have K0 : wr.cell? ⟨w.heap.size, 0, none⟩ = some (.int .i64 x.k) := by simp [World.cell?, hbx4]
        obtain ⟨_, ao5, cp5, rfl, -⟩ := Rd.of_owns HOwn.out
        have hs1 := HJs.out
        have hs2 := signK_size x.k
        generalize (k.tx.map fun p => brk x.k p.1 p.2) = parts at *
        generalize joinS ⟨#[]⟩ parts = js at *
        generalize signK x.k = sg at *
        have hwlt : w.heap.size < wr.heap.size := by omega
        have hsum : ¬ 9223372036854775807 < js.size + sg.size := by omega
        clear hbx4 hall
        go_wp2_with fail
        go_region_held3 (fun w' => w'.cell? ⟨w.heap.size, 0, none⟩ = some (.int .i64 x.k)) (first | go_keep | exact k0)
          (first
            | (go_at_call 82; refine (HJ.out).mono ?_; rintro e w5 ⟨rfl, hb5⟩; have k0 : w5.cell? ⟨w.heap.size, 0, none⟩ = some (.int .i64 x.k) := (hb5.cell (p := ⟨w.heap.size, 0, none⟩) hwlt).trans K0)
            | (go_at_call 83; refine (HSg.out _).mono ?_; rintro e w' ⟨rfl, rfl⟩))
        all_goals
          go_wp2_with fail
          go_ret
          exact ⟨congrArg (fun t => Ending.returned (.string t)) HT.out.symm, HB3.out.trans ((Below.trans (below_drewN (Below.refl wr.heap.size wr) 1) hb5).mono HB3.out.size)⟩
theorem text_all : ∀ n, n ≤ 16777216 → TextOk n
  | 0, _ => fun x k w b off cap hk => by omega
  | n + 1, hn => fun x k w b off cap hk hall hwf h hcap => by
    by_cases hx : x.k = 1 ∨ x.k = 2 ∨ x.k = 3
    · exact xText_leaf x k w b off cap hx h
    · exact xText_step n (text_all n (by omega)) x k w b off cap (by omega) (by omega) (fun h => hx (.inl h)) (fun h => hx (.inr (.inl h))) (fun h => hx (.inr (.inr h))) hall hwf h hcap
end Go.Proofs.Ytbpipnjdfmpbdaa
