import Derived.Test.YtbpipnjdfmpbdaaRtI
import Derived.Test.YtbpipnjdfmpbdaaMkExt
import Derived.Test.YtbpipnjdfmpbdaaRxAg
namespace Go.Proofs.Ytbpipnjdfmpbdaa
open Go.RowKit Go.Shelf

/-! ### plain: where a text goes wrong hangs on what stands ahead of that place -/
theorem parse_syntax (s : ByteArray) : (parseS s).2.2 = 172 ↔ (s.size ≤ 2048 ∧ ¬ ((parsed s).ok = true ∧ (parsed s).p = (cut s 0).1.length ∧ (cut s 0).2 = s.size)) := by
  have hb : ∀ f : Fo, boundsFo f ≠ 172 := by
    intro f
    cases f with
    | nil => decide
    | cons x k r => show boundsF x k ≠ 172; unfold boundsF; split <;> (try split) <;> decide
  constructor
  · intro h
    unfold parseS at h
    split at h
    · unfold readS at h
      split at h
      · exact absurd h (by decide)
      · rename_i hs
        split at h
        · exact absurd h (by simp)
        · rename_i hc; exact ⟨by omega, hc⟩
    · split at h
      · exact absurd h (by simp)
      · split at h
        · exact absurd h (hb _)
        · exact absurd h (by simp)
  · rintro ⟨hs, hc⟩
    have e : readS s = ([], plc (cut s 0).1 (cut s 0).2 (parsed s).p, 172) := by unfold readS; rw [if_neg (by omega), if_neg hc]
    unfold parseS
    rw [e]; rfl
theorem parse_place (s : ByteArray) (h : (parseS s).2.2 = 172) : (parseS s).2.1 = plc (cut s 0).1 (cut s 0).2 (parsed s).p := by
  obtain ⟨hs, hc⟩ := (parse_syntax s).1 h
  have e : readS s = ([], plc (cut s 0).1 (cut s 0).2 (parsed s).p, 172) := by unfold readS; rw [if_neg (by omega), if_neg hc]
  unfold parseS
  rw [e]; rfl
theorem plc_lt {L : List Mk} {en : Int} {p : Nat} {m : Mk} (h : L[p]? = some m) : plc L en p = m.p := by unfold plc; rw [h]
theorem plc_end {L : List Mk} {en : Int} {p : Nat} (h : L.length ≤ p) : plc L en p = en := by unfold plc; rw [List.getElem?_eq_none h]
theorem ag_app (L M : List Mk) : Ag L (L ++ M) L.length := by
  intro i hi
  have e : (L ++ M)[i]? = L[i]? := List.getElem?_append_left hi
  unfold kd tx
  rw [e]; exact ⟨rfl, rfl⟩
theorem ag_take (L : List Mk) (p : Nat) : Ag (L.take p) L p := by
  intro i hi
  have e : (L.take p)[i]? = L[i]? := by rw [List.getElem?_take, if_pos hi]
  unfold kd tx
  rw [e]; exact ⟨rfl, rfl⟩
/-- the place is one of the text -/
theorem cuts_place (s : ByteArray) (h : (parseS s).2.2 = 172) : ∃ a : Nat, (parseS s).2.1 = a ∧ a ≤ s.size := by
  have hlen := cut_len s s.size 0 (by omega) (by omega)
  rw [parse_place s h]
  cases hm : (cut s 0).1[(parsed s).p]? with
  | none => exact ⟨(cut s 0).2, plc_end (List.getElem?_eq_none_iff.1 hm), hlen.2.2⟩
  | some m => exact ⟨m.p, plc_lt hm, (cut_at s s.size 0 _ m (by omega) (by omega) hm).2.1⟩
theorem cuts_short (s : ByteArray) (a : Nat) (h : (parseS s).2.2 = 172) (ha : (parseS s).2.1 = a) (h2 : (parseS (s.extract 0 a)).2.2 = 172) : (parseS (s.extract 0 a)).2.1 = a := by
  have hlen := cut_len s s.size 0 (by omega) (by omega)
  have hpb : PB (cut s 0).1 0 (parsed s) := pExpr_b (cut s 0).1 ((cut s 0).1.length + 1) 0 (by omega)
  have hle := hpb.le
  rw [parse_place s h] at ha
  rw [parse_place _ h2]
  cases hm : (cut s 0).1[(parsed s).p]? with
  | none =>
    have hp := List.getElem?_eq_none_iff.1 hm
    rw [plc_end hp] at ha
    have ha' : (cut s 0).2 = a := by omega
    have e := cut_pre s s.size 0 a (by omega) (by omega) ha'
    have e2 : parsed (s.extract 0 a) = parsed s := by unfold parsed; rw [e]
    rw [e2, e]
    exact plc_end hp
  | some m =>
    rw [plc_lt hm] at ha
    have ha' : m.p = a := by omega
    have e := (cut_at s s.size 0 _ m (by omega) (by omega) hm).2.2
    rw [ha'] at e
    have hlt := (List.getElem?_eq_some_iff.1 hm).1
    have hl : ((cut s 0).1.take (parsed s).p).length = (parsed s).p := by rw [List.length_take]; omega
    have e2 : parsed (s.extract 0 a) = pExpr ((cut s 0).1.take (parsed s).p) ((parsed s).p + 1) 0 := by
      show pExpr (cut (s.extract 0 a) 0).1 ((cut (s.extract 0 a) 0).1.length + 1) 0 = _
      rw [e]; simp only; rw [hl]
    have hB := pExpr_b ((cut s 0).1.take (parsed s).p) ((parsed s).p + 1) 0 (by omega)
    have hge : (parsed s).p ≤ (pExpr ((cut s 0).1.take (parsed s).p) ((parsed s).p + 1) 0).p := by
      rcases Nat.lt_or_ge (pExpr ((cut s 0).1.take (parsed s).p) ((parsed s).p + 1) 0).p (parsed s).p with hlt2 | hge
      · have := pExpr_ag (ag_take (cut s 0).1 (parsed s).p) ((parsed s).p + 1) ((cut s 0).1.length + 1) 0 (by omega) (by omega) (by omega) (by omega) hlt2
        have e3 : pExpr (cut s 0).1 ((cut s 0).1.length + 1) 0 = parsed s := rfl
        rw [e3] at this
        rw [← this] at hlt2
        omega
      · exact hge
    rw [e2, e]
    exact plc_end (by simp only; omega)
theorem cuts_more (s m : ByteArray) (a : Nat) (h : (parseS s).2.2 = 172) (ha : (parseS s).2.1 = a) (hlt : a < s.size) (hsz : s.size + m.size ≤ 2047) :
    (parseS (s ++ ⟨#[32]⟩ ++ m)).2.2 = 172 ∧ (parseS (s ++ ⟨#[32]⟩ ++ m)).2.1 = a := by
  have hlen := cut_len s s.size 0 (by omega) (by omega)
  have hpb : PB (cut s 0).1 0 (parsed s) := pExpr_b (cut s 0).1 ((cut s 0).1.length + 1) 0 (by omega)
  have hle := hpb.le
  have hs1 : (s ++ ⟨#[32]⟩ ++ m).size = s.size + 1 + m.size := by rw [ByteArray.size_append, ByteArray.size_append]; rfl
  have hl : (s ++ ⟨#[32]⟩ ++ m).data.toList = s.data.toList ++ 32 :: m.data.toList := by simp
  have hbt : ∀ i, i < s.size → bt (s ++ ⟨#[32]⟩ ++ m) i = bt s i := fun i hi => by
    unfold bt; rw [hl, List.getD_eq_getElem?_getD, List.getD_eq_getElem?_getD, List.getElem?_append_left (by simpa using hi)]
  have hsp : innerI (bt (s ++ ⟨#[32]⟩ ++ m) s.size) = false := by
    have : bt (s ++ ⟨#[32]⟩ ++ m) s.size = 32 := by
      unfold bt; rw [hl, List.getD_eq_getElem?_getD, List.getElem?_append_right (by simp)]; simp
    rw [this]; decide
  have hex : ∀ a b, b ≤ s.size → (s ++ ⟨#[32]⟩ ++ m).extract a b = s.extract a b := fun a b hb => by
    have e : s = (s ++ ⟨#[32]⟩ ++ m).extract 0 s.size := by
      apply ByteArray.ext
      apply Array.toList_inj.1
      rw [ByteArray.data_extract, Array.toList_extract, hl]
      simp
    conv => rhs; rw [e]
    rw [extract_pre _ _ _ _ hb]
  obtain ⟨M, b, e, hb⟩ := cut_ext s _ (by omega) hbt hex hsp s.size 0 (by omega) (by omega)
  rw [parse_place s h] at ha
  obtain ⟨hs, hc⟩ := (parse_syntax s).1 h
  cases hm : (cut s 0).1[(parsed s).p]? with
  | none =>
    have hp := List.getElem?_eq_none_iff.1 hm
    rw [plc_end hp] at ha
    obtain ⟨rfl, hb2⟩ := hb (by omega)
    rw [List.append_nil] at e
    have e2 : parsed (s ++ ⟨#[32]⟩ ++ m) = parsed s := by unfold parsed; rw [e]
    have h3 : (parseS (s ++ ⟨#[32]⟩ ++ m)).2.2 = 172 := by
      rw [parse_syntax, e]
      refine ⟨by omega, fun ⟨_, _, h⟩ => ?_⟩
      simp only at h; omega
    refine ⟨h3, ?_⟩
    rw [parse_place _ h3, e2, e, plc_end hp]
    simp only; omega
  | some x =>
    rw [plc_lt hm] at ha
    have hx := (List.getElem?_eq_some_iff.1 hm).1
    have e2 : parsed (s ++ ⟨#[32]⟩ ++ m) = parsed s := by
      have := pExpr_ag (ag_app (cut s 0).1 M) ((cut s 0).1.length + 1) (((cut s 0).1 ++ M).length + 1) 0 (by omega) (by omega) (by omega) (by omega) hx
      unfold parsed; rw [e]; exact this
    have h3 : (parseS (s ++ ⟨#[32]⟩ ++ m)).2.2 = 172 := by
      rw [parse_syntax, e, e2]
      refine ⟨by omega, fun ⟨_, h, _⟩ => ?_⟩
      simp only [List.length_append] at h; omega
    refine ⟨h3, ?_⟩
    rw [parse_place _ h3, e2, e]
    have : ((cut s 0).1 ++ M)[(parsed s).p]? = some x := by rw [List.getElem?_append_left hx]; exact hm
    rw [plc_lt this]; exact ha
end Go.Proofs.Ytbpipnjdfmpbdaa
