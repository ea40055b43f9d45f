import Derived.Test.YtjnccfgnakggkaaMkB
namespace Go.Proofs.Ytjnccfgnakggkaa
open Go.RowKit

theorem elemMk : ElemOK Try.prog 22 29 3 32 :=
  ElemOK.mk' (z := .agg #[.int .i64 0, .int .i64 0, .string ⟨#[]⟩]) Try.underlying22 (by kernel_rfl) rfl (by decide)

def flatMk (l : List Mk) : List Value := l.flatMap Mk.cells
theorem flatMk_snoc (l : List Mk) (m : Mk) : flatMk (l ++ [m]) = flatMk l ++ m.cells := by simp [flatMk]
def OwnMk (w : World) (B : Nat) (v : Value) (l : List Mk) : Prop := w.ownsRow B 29 3 v l.length (flatMk l)
theorem OwnMk.snoc {w : World} {B : Nat} {v : Value} {l : List Mk} {m : Mk} (h : w.ownsRow B 29 3 v (l.length + 1) (flatMk l ++ m.cells)) : OwnMk w B v (l ++ [m]) := by
  unfold OwnMk; rw [flatMk_snoc, List.length_append]; exact h

set_option maxHeartbeats 1600000 in
theorem rCut_any (s : ByteArray) (w : World) (hs : s.size ≤ 16777216) :
    Calls Try.prog 12 #[.string s] w fun e w' => ∃ v, e = .returned (.tuple #[v, .int .i64 ((cut s 0).2 : Nat)]) ∧ OwnMk w' w.heap.size v (cut s 0).1 ∧ Below w.heap.size w w' := by
  go_enter Try.func12, Try.ntmps12
  go_wp2
  go_loopw [4, 5] (fun v i wr => ∃ (j : Nat) (l : List Mk), j ≤ s.size ∧ l.length ≤ j ∧ i = .int .i64 j ∧ OwnMk wr w.heap.size v l ∧ Below w.heap.size w wr ∧ Hid (cut s 0 = (l ++ (cut s j).1, (cut s j).2))) (fun _ i _ => s.size - (intOf i).toNat)
  case atStart => exact ⟨0, [], by omega, by simp, rfl, World.ownsRow_nil _ _ _ _, Below.refl _ _, rfl⟩
  case round =>
    obtain ⟨j, l, hj, hl, rfl, hown, hbel, HC⟩ := hrel
    by_cases hlt : j < s.size
    · have hbg := Lib.hid (bt_get s j hlt)
      obtain ⟨b, hb⟩ : ∃ b, b = blankI (bt s j) := ⟨_, rfl⟩
      obtain ⟨c, hc⟩ : ∃ c, c = kindI (bt s j) := ⟨_, rfl⟩
      have HB : ∀ w, Calls Try.prog 24 #[.int .u8 (s[j].toNat : Int)] w fun e w' => e = .returned (.bool b) ∧ w = w' := by
        intro w; rw [hb, ← hbg.out]; exact rBlank_any _ _
      have HK : ∀ w, Calls Try.prog 25 #[.int .u8 (s[j].toNat : Int)] w fun e w' => e = .returned (.int .i64 c) ∧ w = w' := by
        intro w; rw [hc, ← hbg.out]; exact rBegins_any _ _
      have Hb := Lib.hid hb
      have Hc := Lib.hid hc
      have HB' := Lib.hid HB
      have HK' := Lib.hid HK
      clear hb hc HB HK
      cases b with
      | true =>
        go_wp2_with (go_at_call 24; refine (HB'.out _).mono ?_; rintro e w' ⟨rfl, rfl⟩)
        go_roundw
        case rel => exact ⟨j + 1, l, by omega, by omega, by go_num, hown, hbel, by rw [← cut_blank s j hlt Hb.out.symm]; exact HC.out⟩
        case measure => simp [intOf]; omega
      | false =>
        by_cases hc0 : c = 0
        · subst hc0
          go_wp2_with (first | (go_at_call 24; refine (HB'.out _).mono ?_; rintro e w' ⟨rfl, rfl⟩) | (go_at_call 25; refine (HK'.out _).mono ?_; rintro e w' ⟨rfl, rfl⟩))
          go_ret2
          have e : cut s 0 = (l, j) := by rw [HC.out, cut_bad s j hlt Hb.out.symm Hc.out.symm]; simp
          rw [e]
          exact ⟨u4, rfl, hown, hbel⟩
        · have hc0' : (c == 0) = false := by simpa using hc0
          have hE := endM_b s j hlt
          have HE : Hid (endM s j = if c ≤ 3 then wordTo s (j + 1) else j + 1) := by rw [Hc.out]; rfl
          go_wp2_with (first | (go_at_call 24; refine (HB'.out _).mono ?_; rintro e w' ⟨rfl, rfl⟩) | (go_at_call 25; refine (HK'.out _).mono ?_; rintro e w' ⟨rfl, rfl⟩))
          obtain ⟨wo, rfl⟩ : ∃ wo : World, wo = wr := ⟨_, rfl⟩
          go_loop [7] (fun i => ∃ m : Nat, j + 1 ≤ m ∧ m ≤ s.size ∧ i = .int .i64 m ∧ Hid (if c ≤ 3 then wordTo s m = endM s j else m = endM s j)) (fun i => s.size - (intOf i).toNat)
          case atStart => exact ⟨j + 1, Nat.le_refl _, by omega, by go_num, by unfold Hid; rw [HE.out]; split <;> rfl⟩
          case round =>
            obtain ⟨m, hm1, hm2, rfl, HM⟩ := hrel
            by_cases hgo : c ≤ 3 ∧ m < s.size ∧ innerI (bt s m) = true
            · obtain ⟨hc3, hml, hin⟩ := hgo
              have hmg := Lib.hid (bt_get s m hml)
              have HD : Hid (∀ w, Calls Try.prog 26 #[.int .u8 (s[m].toNat : Int)] w fun e w' => e = .returned (.bool true) ∧ w = w') := by
                intro w; rw [← hin, ← hmg.out]; exact rInner_any _ _
              have Hin := Lib.hid hin
              clear hin
              go_wp2_with (go_at_call 26; refine (HD.out _).mono ?_; rintro e w' ⟨rfl, rfl⟩)
              go_round
              case rel => exact ⟨m + 1, by omega, by omega, by go_num, by have h := HM.out; rw [if_pos hc3] at h; unfold Hid; rw [if_pos hc3, ← h]; exact (wordTo_yes s m hml Hin.out).symm⟩
              case measure => simp [intOf]; omega
            · have Hm : Hid (endM s j = m) := by
                have h := HM.out
                by_cases hc3 : c ≤ 3
                · rw [if_pos hc3] at h
                  by_cases hml : m < s.size
                  · rw [← h]; exact wordTo_no s m hml (by simpa [hc3, hml] using hgo)
                  · rw [← h]; exact wordTo_end s m (by omega)
                · rw [if_neg hc3] at h; exact h.symm
              have hcase : ¬ c ≤ 3 ∨ (c ≤ 3 ∧ ¬ m < s.size) ∨ (c ≤ 3 ∧ m < s.size ∧ innerI (bt s m) = false) := by
                by_cases hc3 : c ≤ 3
                · by_cases hml : m < s.size
                  · exact .inr (.inr ⟨hc3, hml, by simpa [hc3, hml] using hgo⟩)
                  · exact .inr (.inl ⟨hc3, hml⟩)
                · exact .inl hc3
              clear hgo
              have hown' : w.heap.size ≤ wo.heap.size := hbel.size
              have key : cut s 0 = ((l ++ [⟨c, j, s.extract j m⟩]) ++ (cut s m).1, (cut s m).2) := by
                rw [HC.out, cut_good s j hlt Hb.out.symm (by rw [← Hc.out]; exact hc0), ← Hc.out, Hm.out]; simp
              have HK2 := Lib.hid key
              clear key
              rcases hcase with h3 | ⟨h3, hml⟩ | ⟨h3, hml, hin⟩
              · go_wp2_with (at_builtin; go_must (refine wpList_app1 elemMk rfl _ _ rfl hown rfl (news := [.int .i64 c, .int .i64 j, .string (s.extract j m)]) rfl rfl (by intro u hu; simp at hu; rcases hu with rfl | rfl | rfl <;> rfl) (by omega) (by decide) hbel (Nat.le_refl _) ?_); intro v' w1 hown1 hbel1 _)
                go_roundw
                case rel => exact ⟨m, l ++ [⟨c, j, s.extract j m⟩], by omega, by simp; omega, rfl, OwnMk.snoc (m := ⟨c, j, s.extract j m⟩) hown1, hbel1, HK2⟩
                case measure => simp [intOf]; omega
              · go_wp2_with (at_builtin; go_must (refine wpList_app1 elemMk rfl _ _ rfl hown rfl (news := [.int .i64 c, .int .i64 j, .string (s.extract j m)]) rfl rfl (by intro u hu; simp at hu; rcases hu with rfl | rfl | rfl <;> rfl) (by omega) (by decide) hbel (Nat.le_refl _) ?_); intro v' w1 hown1 hbel1 _)
                go_roundw
                case rel => exact ⟨m, l ++ [⟨c, j, s.extract j m⟩], by omega, by simp; omega, rfl, OwnMk.snoc (m := ⟨c, j, s.extract j m⟩) hown1, hbel1, HK2⟩
                case measure => simp [intOf]; omega
              · have hmg := Lib.hid (bt_get s m hml)
                have HD : Hid (∀ w, Calls Try.prog 26 #[.int .u8 (s[m].toNat : Int)] w fun e w' => e = .returned (.bool false) ∧ w = w') := by
                  intro w; rw [← hin, ← hmg.out]; exact rInner_any _ _
                clear hin
                go_wp2_with (first | (go_at_call 26; refine (HD.out _).mono ?_; rintro e w' ⟨rfl, rfl⟩) | (at_builtin; go_must (refine wpList_app1 elemMk rfl _ _ rfl hown rfl (news := [.int .i64 c, .int .i64 j, .string (s.extract j m)]) rfl rfl (by intro u hu; simp at hu; rcases hu with rfl | rfl | rfl <;> rfl) (by omega) (by decide) hbel (Nat.le_refl _) ?_); intro v' w1 hown1 hbel1 _))
                go_roundw
                case rel => exact ⟨m, l ++ [⟨c, j, s.extract j m⟩], by omega, by simp; omega, rfl, OwnMk.snoc (m := ⟨c, j, s.extract j m⟩) hown1, hbel1, HK2⟩
                case measure => simp [intOf]; omega
    · obtain rfl : j = s.size := by omega
      go_wp2
      go_ret2
      have e : cut s 0 = (l, s.size) := by rw [HC.out, cut_end]; simp
      rw [e]
      exact ⟨u4, rfl, hown, hbel⟩
end Go.Proofs.Ytjnccfgnakggkaa
