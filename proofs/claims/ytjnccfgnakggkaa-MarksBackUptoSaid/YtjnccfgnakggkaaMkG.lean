import Derived.Test.YtjnccfgnakggkaaMkF
namespace Go.Proofs.Ytjnccfgnakggkaa
open Go.RowKit

/-! ### plain: Kind -/
def kindM (s : ByteArray) : Int × Bool := if (nextM s 0).k ≠ 0 ∧ (nextM s 0).t.size = s.size then ((nextM s 0).k, true) else (0, false)
theorem extract_all (s : ByteArray) (a b : Nat) (h : (s.extract a b).size = s.size) : s.extract a b = s := by
  rw [ByteArray.size_extract] at h
  by_cases hs : s.size = 0
  · apply ByteArray.ext; apply Array.ext
    · simp; have : s.data.size = 0 := hs; omega
    · intro i h1 h2; have : s.data.size = 0 := hs; omega
  · have ha : a = 0 := by omega
    have hb : s.size ≤ b := by omega
    subst ha
    apply ByteArray.ext
    rw [ByteArray.data_extract]
    exact Array.extract_eq_self_of_le hb
theorem nextM_t (s : ByteArray) (k : Nat) (h : (nextM s k).k ≠ 0) : ∃ a b, (nextM s k).t = s.extract a b := by
  unfold nextM markAt at h ⊢
  split at h
  · rename_i hc; rw [if_pos hc]; exact ⟨_, _, rfl⟩
  · exact absurd rfl h
theorem nextM_all (s : ByteArray) (h : (nextM s 0).k ≠ 0) : (nextM s 0).t = s ↔ (nextM s 0).t.size = s.size := by
  obtain ⟨a, b, e⟩ := nextM_t s 0 h
  constructor
  · intro h; rw [h]
  · intro h2; rw [e] at h2 ⊢; exact extract_all s a b h2
theorem kindM_bad (s : ByteArray) (h : (cut s 0).2 < s.size ∨ (cut s 0).1.length ≠ 1 ∨ ∃ m, (cut s 0).1[0]? = some m ∧ m.t.size ≠ s.size) : kindM s = (0, false) := by
  unfold kindM
  split
  · rename_i hc
    obtain ⟨hz, ht⟩ := hc
    exfalso
    have h1 := nextM_size s 0 hz
    have e2 : (nextM s 0).p + (nextM s 0).t.size = s.size := by omega
    rw [cut_some s 0 (by omega) hz, e2, cut_end] at h
    simp at h
    exact h ht
  · rfl
theorem kindM_good (s : ByteArray) (m : Mk) (_h1 : ¬ (cut s 0).2 < s.size) (h2 : (cut s 0).1.length = 1) (h3 : (cut s 0).1[0]? = some m) (h4 : m.t.size = s.size) : kindM s = (m.k, true) := by
  by_cases hz : (nextM s 0).k = 0
  · rw [cut_none s 0 (by omega) hz] at h2; simp at h2
  · rw [cut_some s 0 (by omega) hz] at h3
    simp at h3
    subst h3
    unfold kindM; rw [if_pos ⟨hz, h4⟩]

set_option maxHeartbeats 800000 in
theorem kind_walk (s : ByteArray) (w : World) (hs : s.size ≤ 16777216) :
    Calls Try.prog 17 #[.string s] w fun e w' => e = .returned (.tuple #[.int .i64 (kindM s).1, .bool (kindM s).2]) ∧ Below w.heap.size w w' := by
  have HN : ∀ w, Calls Try.prog 23 #[.string s, .int .i64 0] w fun e w' => e = .returned (.agg #[.int .i64 (nextM s 0).k, .int .i64 (nextM s 0).p, .string (nextM s 0).t]) ∧ Below w.heap.size w w' :=
    fun w => next_any s 0 w (by unfold maxLen; omega) (by omega)
  by_cases hz : (nextM s 0).k = 0
  · have HE : Hid (kindM s = (0, false)) := by unfold Hid kindM; rw [if_neg (by simp [hz])]
    rw [hz] at HN
    have HN' := Lib.hid HN
    clear HN hz
    go_enter Try.func17, Try.ntmps17
    go_wp2_with (go_at_call 23; refine (HN'.out _).mono ?_; rintro e w1 ⟨rfl, hb1⟩)
    go_ret2
    exact ⟨by rw [HE.out]; rfl, hb1.alloc hb1.size _⟩
  · have hz' : ((nextM s 0).k == 0) = false := by simpa using hz
    have hall := Lib.hid (nextM_all s hz)
    by_cases ht : (nextM s 0).t = s
    · have HE : Hid (kindM s = ((nextM s 0).k, true)) := by unfold Hid kindM; rw [if_pos ⟨hz, hall.out.1 ht⟩]
      rw [ht] at HN
      have HN' := Lib.hid HN
      have HT := Lib.hid ht
      clear HN ht
      generalize (nextM s 0).k = c at *
      generalize (nextM s 0).p = q at *
      go_enter Try.func17, Try.ntmps17
      go_wp2_with (go_at_call 23; refine (HN'.out _).mono ?_; rintro e w1 ⟨rfl, hb1⟩)
      go_ret2
      exact ⟨by rw [HE.out]; rfl, hb1.alloc hb1.size _⟩
    · have HE : Hid (kindM s = (0, false)) := by unfold Hid kindM; rw [if_neg (by rw [← hall.out]; simp [ht])]
      have ht' : ((nextM s 0).t.toList == s.toList) = false := by
        rw [beq_eq_false_iff_ne]; intro h; exact ht ((toList_inj _ _).1 h)
      have HN' := Lib.hid HN
      clear HN ht hall
      generalize (nextM s 0).k = c at *
      generalize (nextM s 0).p = q at *
      generalize (nextM s 0).t = t at *
      go_enter Try.func17, Try.ntmps17
      go_wp2_with (go_at_call 23; refine (HN'.out _).mono ?_; rintro e w1 ⟨rfl, hb1⟩)
      go_ret2
      exact ⟨by rw [HE.out]; rfl, hb1.alloc hb1.size _⟩

set_option maxHeartbeats 800000 in
theorem rScan_any (s : ByteArray) (hs : s.size ≤ 16777216) (w : World) :
    Calls Try.prog 10 #[.string s] w fun e w' => ∃ v, e = .returned (.tuple #[v, .int .i64 (scanM s).2.1, .int .i64 (scanM s).2.2]) ∧ OwnMk w' w.heap.size v (scanM s).1 ∧ Below w.heap.size w w' := by
  have HC := Lib.hid (rCut_any s w hs)
  have hce := cut_len s s.size 0 (by omega) (by omega)
  by_cases hc : (cut s 0).2 < s.size
  · have HE : Hid (scanM s = ([], (((cut s 0).2 : Nat) : Int), 160)) := by unfold Hid scanM; rw [if_pos hc]
    go_enter Try.func10, Try.ntmps10
    go_wp2_with (go_at_call 12; refine (HC.out).mono ?_; rintro e w1 ⟨v, rfl, ho, hb1⟩)
    go_ret3
    exact ⟨_, by rw [HE.out]; rfl, by rw [HE.out]; exact World.ownsRow_nil _ _ _ _, hb1⟩
  · have HE : Hid (scanM s = ((cut s 0).1, 0, 0)) := by unfold Hid scanM; rw [if_neg hc]
    go_enter Try.func10, Try.ntmps10
    go_wp2_with (go_at_call 12; refine (HC.out).mono ?_; rintro e w1 ⟨v, rfl, ho, hb1⟩)
    go_ret3
    exact ⟨v, by rw [HE.out]; rfl, by rw [HE.out]; exact ho, hb1⟩

set_option maxHeartbeats 800000 in
theorem rKind_any (s : ByteArray) (hs : s.size ≤ 16777216) (w : World) :
    Calls Try.prog 20 #[.string s] w fun e w' => e = .returned (.tuple #[.int .i64 (kindM s).1, .bool (kindM s).2]) ∧ Below w.heap.size w w' := by
  have HC := Lib.hid (rCut_any s w hs)
  have hce := cut_len s s.size 0 (by omega) (by omega)
  have HBad := Lib.hid (kindM_bad s)
  have HGood := Lib.hid (kindM_good s)
  by_cases hc : (cut s 0).2 < s.size
  · have HE : Hid (kindM s = (0, false)) := HBad.out (.inl hc)
    go_enter Try.func20, Try.ntmps20
    go_wp2_with (go_at_call 12; refine (HC.out).mono ?_; rintro e w1 ⟨v, rfl, ho, hb1⟩)
    go_ret2
    exact ⟨by rw [HE.out]; rfl, hb1⟩
  · by_cases hl : (cut s 0).1.length = 1
    · obtain ⟨m, hm⟩ : ∃ m, (cut s 0).1[0]? = some m := ⟨_, List.getElem?_eq_getElem (by omega)⟩
      have HL := Lib.hid hl
      have HM := Lib.hid hm
      have hl1 : 1 ≤ (cut s 0).1.length ∧ (cut s 0).1.length ≤ 1 := by omega
      have hl2 : (((cut s 0).1.length : Int) != 1) = false := by rw [hl]; rfl
      clear hl hm
      have arm : ∀ w1 v, OwnMk w1 w.heap.size v (cut s 0).1 → ∃ b off cap, v = .slice (some ⟨b, off, none⟩) (cut s 0).1.length cap ∧ (cut s 0).1.length ≤ cap ∧ w1.cell? ⟨b, off, none⟩ = some (.int .i64 m.k) ∧ w1.cell? ⟨b, off + 2, none⟩ = some (.string m.t) := by
        intro w1 v ho
        obtain ⟨b, off, cap, e1, _, e2, e3, _, e4⟩ := RdMk.at (RdMk.of_own ho) HM.out
        exact ⟨b, off, cap, e1, e2, by simpa using e3, by simpa using e4⟩
      have HA := Lib.hid arm
      clear arm
      by_cases hms : m.t.size = s.size
      · have HE : Hid (kindM s = (m.k, true)) := HGood.out m hc HL.out HM.out hms
        have hms' : ((m.t.size : Int) != s.size) = false := by rw [hms]; simp
        have HMS := Lib.hid hms
        clear hms
        generalize (cut s 0).1.length = ln at *
        go_enter Try.func20, Try.ntmps20
        go_wp2_with (go_at_call 12; refine (HC.out).mono ?_; rintro e w1 ⟨v, rfl, ho, hb1⟩; obtain ⟨b, off, cap, rfl, e2, e3, e4⟩ := HA.out _ _ ho)
        go_ret2
        exact ⟨by rw [HE.out]; rfl, hb1⟩
      · have HE : Hid (kindM s = (0, false)) := HBad.out (.inr (.inr ⟨m, HM.out, hms⟩))
        have hms' : ((m.t.size : Int) != s.size) = true := by rw [bne_iff_ne]; omega
        generalize (cut s 0).1.length = ln at *
        go_enter Try.func20, Try.ntmps20
        go_wp2_with (go_at_call 12; refine (HC.out).mono ?_; rintro e w1 ⟨v, rfl, ho, hb1⟩; obtain ⟨b, off, cap, rfl, e2, e3, e4⟩ := HA.out _ _ ho)
        go_ret2
        exact ⟨by rw [HE.out]; rfl, hb1⟩
    · have HE : Hid (kindM s = (0, false)) := HBad.out (.inr (.inl hl))
      have hl2 : (((cut s 0).1.length : Int) != 1) = true := by rw [bne_iff_ne]; omega
      go_enter Try.func20, Try.ntmps20
      go_wp2_with (go_at_call 12; refine (HC.out).mono ?_; rintro e w1 ⟨v, rfl, ho, hb1⟩; obtain ⟨ao, cp, rfl⟩ : ∃ ao cp, v = .slice ao (cut s 0).1.length cp := (by obtain ⟨_, ao, cp, e, _⟩ := Rd.of_owns ho; exact ⟨ao, cp, e⟩))
      go_ret2
      exact ⟨by rw [HE.out]; rfl, hb1⟩
end Go.Proofs.Ytjnccfgnakggkaa
