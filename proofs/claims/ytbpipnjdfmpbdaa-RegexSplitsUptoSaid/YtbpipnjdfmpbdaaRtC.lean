import Derived.Test.YtbpipnjdfmpbdaaRtA
import Derived.Laws.OwnMore
namespace Go.Proofs.Ytbpipnjdfmpbdaa
open Go.RowKit Go.Shelf

/-! ### plain: a stack of what is still wanted; the last one lies below all -/
def stkF : List Fo → List Nd
  | [] => []
  | F :: r => F.flat ++ stkF r
def stkH : List Fo → Nat
  | [] => 0
  | F :: r => max (if F.height = 0 then 0 else r.length + F.height) (stkH r)
/-- how many are wanted, of each node above the top, from the bottom on -/
def stkL : List Fo → List Nat
  | [] => []
  | [_] => []
  | R :: S :: r => stkL (S :: r) ++ [R.len + 1]
def stkO : List Fo → List Nat
  | [] => []
  | [_] => []
  | R :: S :: r => stkL (S :: r) ++ [R.len]
def stkW : List Fo → Prop
  | [] => True
  | F :: r => F.wf ∧ stkW r
theorem stkL_len : ∀ S : List Fo, (stkL S).length = S.length - 1
  | [] => rfl
  | [_] => rfl
  | R :: S :: r => by simp [stkL, stkL_len (S :: r)]
theorem stkO_len : ∀ S : List Fo, (stkO S).length = S.length - 1
  | [] => rfl
  | [_] => rfl
  | R :: S :: r => by simp [stkO, stkL_len (S :: r)]
theorem nil_height {F : Fo} (h : F.len = 0) : F = .nil := by
  cases F with
  | nil => rfl
  | cons x k r => simp [Fo.len] at h
theorem stk_pop {F R : Fo} {r : List Fo} (h : F.len = 0) : stkH (F :: R :: r) = stkH (R :: r) ∧ stkF (F :: R :: r) = stkF (R :: r) := by
  obtain rfl := nil_height h
  constructor
  · simp [stkH, Fo.height]
  · rfl
theorem stk_push (x : Nd) (k r0 : Fo) (r : List Fo) (most : Nat) : max (max most (r.length + 1)) (stkH (k :: r0 :: r)) = max most (stkH (Fo.cons x k r0 :: r)) := by
  have e : (Fo.cons x k r0).height = max (k.height + 1) r0.height := rfl
  simp only [stkH, e, List.length_cons]
  have : ¬ max (k.height + 1) r0.height = 0 := by omega
  rw [if_neg this]
  by_cases h1 : k.height = 0 <;> by_cases h2 : r0.height = 0
  · rw [if_pos h1, if_pos h2]; omega
  · rw [if_pos h1, if_neg h2]; omega
  · rw [if_neg h1, if_pos h2]; omega
  · rw [if_neg h1, if_neg h2]; omega

def intsV (l : List Nat) : List Value := l.map fun n : Nat => .int .i64 (n : Int)
def OwnI (w : World) (B : Nat) (v : Value) (l : List Nat) : Prop := w.ownsRow B 3 1 v l.length (intsV l)
theorem elemInt : ElemOK Try.prog 32 3 1 8 :=
  ElemOK.mk' (z := .int .i64 0) Try.underlying32 (by kernel_rfl) rfl (by decide)
theorem OwnI.snoc {w : World} {B : Nat} {v : Value} {l : List Nat} {m : Nat} (h : w.ownsRow B 3 1 v (l.length + 1) (intsV l ++ [.int .i64 m])) : OwnI w B v (l ++ [m]) := by
  unfold OwnI intsV at *; rw [List.map_append, List.length_append]; exact h
theorem OwnI.front {w : World} {B g c : Nat} {l : List Nat} {m : Nat} (h : OwnI w B (.slice (some ⟨g, 0, none⟩) (l.length + 1) c) (l ++ [m])) : OwnI w B (.slice (some ⟨g, 0, none⟩) l.length c) l := by
  refine ⟨by unfold intsV; simp, ?_⟩
  rcases h.2 with ⟨h', _⟩ | ⟨g', cap', cur, h', hb, hg, hnc, hcm, hcs, htake⟩
  · simp at h'
  · simp only [Value.slice.injEq, Option.some.injEq, Addr.mk.injEq, and_true] at h'
    obtain ⟨rfl, -, rfl⟩ := h'
    refine .inr ⟨g, c, cur, rfl, hb, hg, by simp at hnc; omega, hcm, hcs, ?_⟩
    have e : (l ++ [m]).length = l.length + 1 := by simp
    rw [e] at htake
    have : (cur.toList.take ((l.length + 1) * 1)).take l.length = (intsV (l ++ [m])).take l.length := by rw [htake]
    rw [List.take_take, show min l.length ((l.length + 1) * 1) = l.length * 1 from by omega] at this
    rw [this]
    unfold intsV
    rw [List.map_append, List.take_append_of_le_length (by simp)]
    rw [List.take_of_length_le (by simp)]
theorem OwnI.last {w : World} {B g c : Nat} {l : List Nat} {m : Nat} (h : OwnI w B (.slice (some ⟨g, 0, none⟩) (l.length + 1) c) (l ++ [m])) : w.cell? ⟨g, l.length, none⟩ = some (.int .i64 m) ∧ w.frozen? ⟨g, l.length, none⟩ = false := by
  have h' : w.ownsRow B 3 1 (.slice (some ⟨g, 0, none⟩) (l.length + 1) c) (l.length + 1) (intsV (l ++ [m])) := by
    have := h; unfold OwnI at this; simpa using this
  refine ⟨?_, h'.frozenAt _⟩
  rw [h'.cellAt l.length (by omega)]
  unfold intsV
  rw [List.map_append, List.getElem?_append_right (by simp)]
  simp
theorem OwnI.setLast {w : World} {B g c : Nat} {l : List Nat} {m : Nat} (h : OwnI w B (.slice (some ⟨g, 0, none⟩) (l.length + 1) c) (l ++ [m])) (m' : Nat) :
    OwnI (w.setCell ⟨g, l.length, none⟩ (.int .i64 m')) B (.slice (some ⟨g, 0, none⟩) (l.length + 1) c) (l ++ [m']) := by
  have h' : w.ownsRow B 3 1 (.slice (some ⟨g, 0, none⟩) (l.length + 1) c) (l.length + 1) (intsV (l ++ [m])) := by
    have := h; unfold OwnI at this; simpa using this
  have := (h'.stored l.length (.int .i64 m')).1
  unfold OwnI
  rw [List.length_append]
  have e : (intsV (l ++ [m])).set l.length (.int .i64 m') = intsV (l ++ [m']) := by
    unfold intsV
    rw [List.map_append, List.map_append, List.set_append_right _ _ (by simp)]
    simp
  rw [e] at this
  exact this
theorem OwnI.shape {w : World} {B : Nat} {v : Value} {l : List Nat} (h : OwnI w B v l) : ∃ ao c, v = .slice ao l.length c ∧ l.length ≤ c := by
  obtain ⟨_, ao, c, e, h1, _⟩ := Rd.of_owns h
  exact ⟨ao, c, e, h1⟩
theorem OwnI.blk {w : World} {B : Nat} {ao : Option Addr} {c : Nat} {l : List Nat} {m : Nat} (h : OwnI w B (.slice ao (l ++ [m]).length c) (l ++ [m])) : ∃ g, ao = some ⟨g, 0, none⟩ ∧ B ≤ g ∧ g < w.heap.size ∧ l.length + 1 ≤ c := by
  obtain ⟨g, c', e, h1, h2, h3, _⟩ := own_src h (by simp)
  simp only [Value.slice.injEq] at e
  obtain ⟨rfl, -, rfl⟩ := e
  exact ⟨g, rfl, h1, h2, by simpa using h3⟩

def sliceLen (v : Value) : Nat := match v with | .slice _ n _ => n | _ => 0
theorem stk_len1 (R T : Fo) (S : List Fo) : stkL (R :: T :: S) = stkL (T :: S) ++ [R.len + 1] := rfl
set_option maxRecDepth 100000 in
set_option maxHeartbeats 6400000 in
theorem xHeight_any (b off cap : Nat) (T : Fo) (w : World) (h : NdAt w b off T.flat) (hwf : T.wf) (hcap : T.flat.length ≤ cap) (hl : T.flat.length ≤ 1099511627776) :
    Calls Try.prog 58 #[.slice (some ⟨b, off, none⟩) T.flat.length cap] w fun e w' => e = .returned (.int .i64 T.height) ∧ Below w.heap.size w w' := by
  have hb := h.lt
  have HC := Lib.hid h.cell
  obtain ⟨N, hN⟩ : ∃ N, N = T.flat := ⟨_, rfl⟩
  have HN := Lib.hid hN
  rw [← hN] at HC hcap hl ⊢
  have HW := Lib.hid hwf
  obtain ⟨n, hn⟩ : ∃ n, n = N.length := ⟨_, rfl⟩
  rw [← hn] at hcap hl ⊢
  have HNl := Lib.hid hn
  clear h hwf hN hn
  go_enter Try.func58, Try.ntmps58
  go_wp2
  go_loopw [3, 4, 9] (fun mv ov i wr => ∃ (t most : Nat) (F : Fo) (S : List Fo), i = .int .i64 t ∧ mv = .int .i64 most ∧ t ≤ n ∧ most ≤ n ∧ Hid (OwnI wr w.heap.size ov (stkO (F :: S))) ∧ S.length ≤ t ∧ Hid (Below w.heap.size w wr) ∧
    Hid (N.drop t = stkF (F :: S) ∧ stkW (F :: S) ∧ (F.len ≠ 0 ∨ S = []) ∧ max most (stkH (F :: S)) = T.height)) (fun _ _ i _ => n - (intOf i).toNat)
  case atStart => exact ⟨0, 0, T, [], rfl, rfl, by omega, by omega, World.ownsRow_nil _ _ _ _, by simp, Below.refl _ _, by rw [HN.out]; simp [stkF], ⟨HW.out, trivial⟩, .inr rfl, by simp only [stkH, List.length_nil]; split <;> omega⟩
  case round =>
    obtain ⟨t, most, F, S, rfl, rfl, ht, hm, HO, hS, HBel, HF⟩ := hrel
    have hws := HBel.out.size
    by_cases hlt : t < n
    · obtain ⟨x, k, r0, hF⟩ : ∃ x k r0, F = Fo.cons x k r0 := by
        cases hF : F with
        | nil =>
          exfalso
          rcases HF.out.2.2.1 with h | h
          · rw [hF] at h; simp [Fo.len] at h
          · have h2 := HF.out.1
            rw [hF, h] at h2
            have := congrArg List.length h2
            rw [List.length_drop] at this
            have := HNl.out
            simp [stkF, Fo.flat] at *
            omega
        | cons x k r0 => exact ⟨x, k, r0, rfl⟩
      subst hF
      obtain ⟨g1, g2, -⟩ := drop_head (show N.drop t = x :: (k.flat ++ r0.flat ++ stkF S) from by rw [HF.out.1]; simp [stkF, Fo.flat])
      obtain ⟨z0, z1, z2⟩ := HC.out t x g1
      have Z0 := (HBel.out.cell (p := ⟨b, _, none⟩) hb).trans z0
      have Z1 := (HBel.out.cell (p := ⟨b, _, none⟩) hb).trans z1
      have Z2 := (HBel.out.cell (p := ⟨b, _, none⟩) hb).trans z2
      rw [HF.out.2.1.1.1] at Z2
      have hsl := stkO_len (Fo.cons x k r0 :: S)
      rw [List.length_cons, Nat.add_sub_cancel] at hsl
      have HSt : Hid (N.drop (t + 1) = stkF (k :: r0 :: S) ∧ stkW (k :: r0 :: S) ∧ max (max most (S.length + 1)) (stkH (k :: r0 :: S)) = T.height ∧ stkL (r0 :: S) = (if S = [] then [] else stkL (r0 :: S))) := by
        refine ⟨by rw [g2]; simp [stkF], ⟨HF.out.2.1.1.2.1, HF.out.2.1.1.2.2, HF.out.2.1.2⟩, by rw [stk_push x]; exact HF.out.2.2.2, ?_⟩
        split
        · rename_i h; subst h; rfl
        · rfl
      have HOv : Hid (stkO (Fo.cons x k r0 :: S) = stkL (r0 :: S)) := by
        cases S with
        | nil => rfl
        | cons R S => rfl
      rw [HOv.out] at HO hsl
      obtain ⟨ao, oc, rfl, hoc⟩ := HO.out.shape
      rw [hsl] at hoc ⊢
      have HSl := Lib.hid hsl
      clear z0 z1 z2 g1 g2 HF hsl
      obtain ⟨L, hL⟩ : ∃ L, L = stkL (r0 :: S) := ⟨_, rfl⟩
      have hOL : OwnI wr w.heap.size (.slice ao S.length oc) L := by have := HO.out; rw [HSl.out, ← hL] at this; exact this
      have hLl : L.length = S.length := by rw [hL]; exact HSl.out
      have HLd := Lib.hid hL
      have HLl := Lib.hid hLl
      have hown0 : (wr.alloc (.cells #[.int .i64 x.k, .string x.n, .int .i64 k.len] 39)).ownsRow w.heap.size 3 1 (.slice ao S.length oc) S.length (intsV L) := by
        have := World.ownsRow.alloc hOL (.cells #[.int .i64 x.k, .string x.n, .int .i64 k.len] 39)
        rw [hLl] at this; exact this
      have hsz0 : w.heap.size ≤ (wr.alloc (.cells #[.int .i64 x.k, .string x.n, .int .i64 k.len] 39)).heap.size := by simp; omega
      have hbel0 : Below w.heap.size w (wr.alloc (.cells #[.int .i64 x.k, .string x.n, .int .i64 k.len] 39)) := HBel.out.alloc hws _
      have HBl0 := Lib.hid hbel0
      clear hL hLl hOL HO hbel0 HOv
      rcases Nat.lt_or_ge most (S.length + 1) with hmx | hmx
      · have HMx : Hid (max most (S.length + 1) = S.length + 1) := by unfold Hid; omega
        have hmI : (most : Int) < (S.length : Int) + 1 := by omega
        go_wp2_with (at_builtin; go_must (refine wpList_appG1 elemInt rfl _ _ rfl hown0 rfl (news := [.int .i64 k.len]) (by have e : ∀ o, (wr.alloc o).heap.size = wr.heap.size + 1 := (fun o => by simp); rw [e]; rfl) rfl (by intro u hu; simp at hu; subst hu; rfl) (by unfold maxLen; omega) (by omega) hsz0 ?_); intro v' w3 hown3 hg3)
        have HO3 : Hid (OwnI w3 w.heap.size v' (stkO (k :: r0 :: S))) := by
          have := OwnI.snoc (l := L) (by rw [HLl.out]; exact hown3)
          rw [HLd.out] at this
          exact this
        have HB3 : Hid (Below w.heap.size w w3) := HBl0.out.grown hg3 hsz0 (fun j hj => own_block hown0 j hj)
        clear hown3 hg3 hown0
        go_loopw [4] (fun ov wr => ∃ (F : Fo) (Q : List Fo), Hid (OwnI wr w.heap.size ov (stkO (F :: Q))) ∧ Q.length ≤ S.length + 1 ∧ Hid (Below w.heap.size w wr) ∧ Hid (stkF (F :: Q) = stkF (k :: r0 :: S) ∧ stkW (F :: Q) ∧ stkH (F :: Q) = stkH (k :: r0 :: S))) (fun ov _ => sliceLen ov)
        case atStart => exact ⟨k, r0 :: S, HO3.out, by simp, HB3.out, rfl, HSt.out.2.1, rfl⟩
        case round =>
          obtain ⟨F, Q, HO, hQ, HB, HQ⟩ := hrel
          cases Q with
          | nil =>
            obtain ⟨ao4, oc4, rfl, -⟩ := HO.out.shape
            have e0 : (stkO [F]).length = 0 := rfl
            rw [e0] at HO ⊢
            go_wp2_with fail
            go_roundw
            case rel => exact ⟨t + 1, S.length + 1, F, [], by go_num, by go_num, by omega, by omega, by unfold OwnI at HO; exact HO.out, by simp, HB.out, by rw [HSt.out.1]; exact HQ.out.1.symm, HQ.out.2.1, .inr rfl, by rw [HQ.out.2.2, ← HMx.out]; exact HSt.out.2.2.1⟩
            case measure => simp [intOf]; omega
          | cons R Q =>
            obtain ⟨L2, hL2⟩ : ∃ L2, L2 = stkL (R :: Q) := ⟨_, rfl⟩
            have e1 : stkO (F :: R :: Q) = L2 ++ [F.len] := by rw [hL2]; rfl
            have hO := HO.out
            rw [e1] at hO
            obtain ⟨ao4, oc4, rfl, hoc4⟩ := hO.shape
            obtain ⟨g, rfl, hg1, hg2, hg3⟩ := hO.blk
            have hL2l : L2.length = Q.length := by rw [hL2, stkL_len]; rfl
            have hO' : OwnI wr w.heap.size (.slice (some ⟨g, 0, none⟩) (L2.length + 1) oc4) (L2 ++ [F.len]) := by
              have := hO; rw [List.length_append] at this; exact this
            obtain ⟨q0, q1⟩ := hO'.last
            have hfr := hO'.front
            have HO4 := Lib.hid hO
            have HO5 := Lib.hid hO'
            have HFr := Lib.hid hfr
            have HL2 := Lib.hid hL2
            rw [show (L2 ++ [F.len]).length = L2.length + 1 from by simp] at hO ⊢
            rw [hL2l] at q0 q1 hg3 ⊢
            have HL2l := Lib.hid hL2l
            clear e1 hO hO' hfr hL2 hL2l HO
            simp only [List.length_cons] at hQ
            by_cases hF0 : F.len = 0
            · obtain ⟨p1, p2⟩ := stk_pop (R := R) (r := Q) hF0
              have HP := Lib.hid (And.intro p1 p2)
              rw [hF0] at q0
              clear p1 p2 hF0
              cases Q with
              | nil =>
                have HE2 : Hid (L2 = []) := by unfold Hid; rw [HL2.out]; rfl
                simp only [List.length_nil] at q0 q1 hg3 hQ ⊢
                go_wp2_with fail
                go_roundw
                case rel => exact ⟨R, [], by have := HFr.out; rw [HE2.out] at this; exact this, by simp, HB.out, by rw [← HP.out.2]; exact HQ.out.1, HQ.out.2.1.2, by rw [← HP.out.1]; exact HQ.out.2.2⟩
                case measure => simp [sliceLen]
              | cons T2 Q =>
                obtain ⟨L3, hL3⟩ : ∃ L3, L3 = stkL (T2 :: Q) := ⟨_, rfl⟩
                have hL23 : L2 = L3 ++ [R.len + 1] := by rw [HL2.out, hL3]; rfl
                have hL3l : L3.length = Q.length := by rw [hL3, stkL_len]; rfl
                have hfr2 : OwnI wr w.heap.size (.slice (some ⟨g, 0, none⟩) (L3.length + 1) oc4) (L3 ++ [R.len + 1]) := by
                  have := HFr.out; rw [hL23, List.length_append] at this; exact this
                obtain ⟨q2, q3⟩ := hfr2.last
                have hRl : R.len ≤ 1099511627776 := by
                  have h1 := congrArg List.length (HQ.out.1.trans HSt.out.1.symm)
                  simp only [stkF, List.length_append, Fo.flat_len, List.length_drop] at h1
                  have h2 := Fo.len_le R
                  have := HNl.out
                  omega
                have HSet := Lib.hid (hfr2.setLast R.len)
                have HL3 := Lib.hid hL3
                have HL3l := Lib.hid hL3l
                rw [hL3l] at q2 q3
                simp only [List.length_cons] at q0 q1 hg3 hQ ⊢
                clear hL3 hL23 hL3l hfr2
                go_wp2_with fail
                have HB5 : Hid (Below w.heap.size w (wr.setCell ⟨g, Q.length, none⟩ (.int .i64 R.len))) := HB.out.setCell (p := ⟨g, Q.length, none⟩) hg1 _
                go_roundw
                case rel => exact ⟨R, T2 :: Q, by have := HSet.out; rw [HL3l.out] at this; show OwnI _ _ _ (stkL (T2 :: Q) ++ [R.len]); rw [← HL3.out]; exact this, by simp; omega, HB5.out, by rw [← HP.out.2]; exact HQ.out.1, HQ.out.2.1.2, by rw [← HP.out.1]; exact HQ.out.2.2⟩
                case measure => simp [sliceLen]
            · have hF0' : ((F.len : Int) == 0) = false := by simp; omega
              go_wp2_with fail
              go_roundw
              case rel => exact ⟨t + 1, S.length + 1, F, R :: Q, by go_num, by go_num, by omega, by omega, by have := HO5.out; rw [HL2l.out] at this; show OwnI _ _ _ (stkL (R :: Q) ++ [F.len]); rw [← HL2.out]; exact this, by simp; omega, HB.out, by rw [HSt.out.1]; exact HQ.out.1.symm, HQ.out.2.1, .inl hF0, by rw [HQ.out.2.2, ← HMx.out]; exact HSt.out.2.2.1⟩
              case measure => simp [intOf]; omega
      · have HMx : Hid (max most (S.length + 1) = most) := by unfold Hid; omega
        have hmI : (S.length : Int) + 1 ≤ most := by omega
        go_wp2_with (at_builtin; go_must (refine wpList_appG1 elemInt rfl _ _ rfl hown0 rfl (news := [.int .i64 k.len]) (by have e : ∀ o, (wr.alloc o).heap.size = wr.heap.size + 1 := (fun o => by simp); rw [e]; rfl) rfl (by intro u hu; simp at hu; subst hu; rfl) (by unfold maxLen; omega) (by omega) hsz0 ?_); intro v' w3 hown3 hg3)
        have HO3 : Hid (OwnI w3 w.heap.size v' (stkO (k :: r0 :: S))) := by
          have := OwnI.snoc (l := L) (by rw [HLl.out]; exact hown3)
          rw [HLd.out] at this
          exact this
        have HB3 : Hid (Below w.heap.size w w3) := HBl0.out.grown hg3 hsz0 (fun j hj => own_block hown0 j hj)
        clear hown3 hg3 hown0
        go_loopw [4] (fun ov wr => ∃ (F : Fo) (Q : List Fo), Hid (OwnI wr w.heap.size ov (stkO (F :: Q))) ∧ Q.length ≤ S.length + 1 ∧ Hid (Below w.heap.size w wr) ∧ Hid (stkF (F :: Q) = stkF (k :: r0 :: S) ∧ stkW (F :: Q) ∧ stkH (F :: Q) = stkH (k :: r0 :: S))) (fun ov _ => sliceLen ov)
        case atStart => exact ⟨k, r0 :: S, HO3.out, by simp, HB3.out, rfl, HSt.out.2.1, rfl⟩
        case round =>
          obtain ⟨F, Q, HO, hQ, HB, HQ⟩ := hrel
          cases Q with
          | nil =>
            obtain ⟨ao4, oc4, rfl, -⟩ := HO.out.shape
            have e0 : (stkO [F]).length = 0 := rfl
            rw [e0] at HO ⊢
            go_wp2_with fail
            go_roundw
            case rel => exact ⟨t + 1, most, F, [], by go_num, rfl, by omega, by omega, by unfold OwnI at HO; exact HO.out, by simp, HB.out, by rw [HSt.out.1]; exact HQ.out.1.symm, HQ.out.2.1, .inr rfl, by rw [HQ.out.2.2, ← HMx.out]; exact HSt.out.2.2.1⟩
            case measure => simp [intOf]; omega
          | cons R Q =>
            obtain ⟨L2, hL2⟩ : ∃ L2, L2 = stkL (R :: Q) := ⟨_, rfl⟩
            have e1 : stkO (F :: R :: Q) = L2 ++ [F.len] := by rw [hL2]; rfl
            have hO := HO.out
            rw [e1] at hO
            obtain ⟨ao4, oc4, rfl, hoc4⟩ := hO.shape
            obtain ⟨g, rfl, hg1, hg2, hg3⟩ := hO.blk
            have hL2l : L2.length = Q.length := by rw [hL2, stkL_len]; rfl
            have hO' : OwnI wr w.heap.size (.slice (some ⟨g, 0, none⟩) (L2.length + 1) oc4) (L2 ++ [F.len]) := by
              have := hO; rw [List.length_append] at this; exact this
            obtain ⟨q0, q1⟩ := hO'.last
            have hfr := hO'.front
            have HO4 := Lib.hid hO
            have HO5 := Lib.hid hO'
            have HFr := Lib.hid hfr
            have HL2 := Lib.hid hL2
            rw [show (L2 ++ [F.len]).length = L2.length + 1 from by simp] at hO ⊢
            rw [hL2l] at q0 q1 hg3 ⊢
            have HL2l := Lib.hid hL2l
            clear e1 hO hO' hfr hL2 hL2l HO
            simp only [List.length_cons] at hQ
            by_cases hF0 : F.len = 0
            · obtain ⟨p1, p2⟩ := stk_pop (R := R) (r := Q) hF0
              have HP := Lib.hid (And.intro p1 p2)
              rw [hF0] at q0
              clear p1 p2 hF0
              cases Q with
              | nil =>
                have HE2 : Hid (L2 = []) := by unfold Hid; rw [HL2.out]; rfl
                simp only [List.length_nil] at q0 q1 hg3 hQ ⊢
                go_wp2_with fail
                go_roundw
                case rel => exact ⟨R, [], by have := HFr.out; rw [HE2.out] at this; exact this, by simp, HB.out, by rw [← HP.out.2]; exact HQ.out.1, HQ.out.2.1.2, by rw [← HP.out.1]; exact HQ.out.2.2⟩
                case measure => simp [sliceLen]
              | cons T2 Q =>
                obtain ⟨L3, hL3⟩ : ∃ L3, L3 = stkL (T2 :: Q) := ⟨_, rfl⟩
                have hL23 : L2 = L3 ++ [R.len + 1] := by rw [HL2.out, hL3]; rfl
                have hL3l : L3.length = Q.length := by rw [hL3, stkL_len]; rfl
                have hfr2 : OwnI wr w.heap.size (.slice (some ⟨g, 0, none⟩) (L3.length + 1) oc4) (L3 ++ [R.len + 1]) := by
                  have := HFr.out; rw [hL23, List.length_append] at this; exact this
                obtain ⟨q2, q3⟩ := hfr2.last
                have hRl : R.len ≤ 1099511627776 := by
                  have h1 := congrArg List.length (HQ.out.1.trans HSt.out.1.symm)
                  simp only [stkF, List.length_append, Fo.flat_len, List.length_drop] at h1
                  have h2 := Fo.len_le R
                  have := HNl.out
                  omega
                have HSet := Lib.hid (hfr2.setLast R.len)
                have HL3 := Lib.hid hL3
                have HL3l := Lib.hid hL3l
                rw [hL3l] at q2 q3
                simp only [List.length_cons] at q0 q1 hg3 hQ ⊢
                clear hL3 hL23 hL3l hfr2
                go_wp2_with fail
                have HB5 : Hid (Below w.heap.size w (wr.setCell ⟨g, Q.length, none⟩ (.int .i64 R.len))) := HB.out.setCell (p := ⟨g, Q.length, none⟩) hg1 _
                go_roundw
                case rel => exact ⟨R, T2 :: Q, by have := HSet.out; rw [HL3l.out] at this; show OwnI _ _ _ (stkL (T2 :: Q) ++ [R.len]); rw [← HL3.out]; exact this, by simp; omega, HB5.out, by rw [← HP.out.2]; exact HQ.out.1, HQ.out.2.1.2, by rw [← HP.out.1]; exact HQ.out.2.2⟩
                case measure => simp [sliceLen]
            · have hF0' : ((F.len : Int) == 0) = false := by simp; omega
              go_wp2_with fail
              go_roundw
              case rel => exact ⟨t + 1, most, F, R :: Q, by go_num, rfl, by omega, by omega, by have := HO5.out; rw [HL2l.out] at this; show OwnI _ _ _ (stkL (R :: Q) ++ [F.len]); rw [← HL2.out]; exact this, by simp; omega, HB.out, by rw [HSt.out.1]; exact HQ.out.1.symm, HQ.out.2.1, .inl hF0, by rw [HQ.out.2.2, ← HMx.out]; exact HSt.out.2.2.1⟩
              case measure => simp [intOf]; omega
    · obtain rfl : t = n := by omega
      have HE : Hid (most = T.height) := by
        have h1 := HF.out.1
        have h2 := HF.out.2.2.2
        have h3 := HF.out.2.2.1
        rw [List.drop_eq_nil_of_le (by have := HNl.out; omega)] at h1
        have hF : F = .nil := by
          cases F with
          | nil => rfl
          | cons x k r => simp [stkF, Fo.flat] at h1
        have hS0 : S = [] := by
          rcases h3 with h3 | h3
          · rw [hF] at h3; exact absurd rfl h3
          · exact h3
        rw [hF, hS0] at h2
        unfold Hid
        simpa [stkH, Fo.height] using h2
      go_wp2_with fail
      go_ret
      exact ⟨congrArg (fun h : Nat => Ending.returned (.int .i64 (h : Int))) HE.out, HBel.out⟩
end Go.Proofs.Ytbpipnjdfmpbdaa
