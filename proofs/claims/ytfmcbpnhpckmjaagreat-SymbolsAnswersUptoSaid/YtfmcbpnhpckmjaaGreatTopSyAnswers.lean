/- PROVED: SymbolsAnswers returns true whatever its arguments; each argument reads behind the call as it read before. CONDITION: the arguments' bulk is at most 1048576 (the second form). -/
import Derived.Test.YtfmcbpnhpckmjaaGreatPk4
import Derived.Test.YtfmcbpnhpckmjaaGreatRows
import Derived.Carry
import Derived.ProofKit
import Derived.OpenShut
import Derived.ShutString
import Derived.JoinedCond
namespace Go.Proofs.YtfmcbpnhpckmjaaGreat
open Go.RowKit Go.Maps

/-! ### a node's symbol -/
/-- how the symbol of a node is told: the label's or the name's number, none, or an error -/
def SymS (G : List Ru) (k : Int) (s : ByteArray) (lb : Bool) (r er : Int) : Prop :=
  (k = 3 ∧ ((s ∈ used 3 G ∧ lb = true ∧ r = posL (used 3 G) s ∧ er = 0) ∨ (s ∉ used 3 G ∧ lb = false ∧ r = 0 ∧ er = 4))) ∨
  (k = 2 ∧ ((s ∈ heads G ∧ lb = false ∧ r = posL (heads G) s ∧ er = 0) ∨ (s ∉ heads G ∧ lb = false ∧ r = 0 ∧ er = 4))) ∨
  (k ≠ 3 ∧ k ≠ 2 ∧ lb = false ∧ r = 0 ∧ er = 2)
theorem symS_ex (G : List Ru) (k : Int) (s : ByteArray) : ∃ lb r er, SymS G k s lb r er := by
  by_cases h3 : k = 3
  · by_cases hm : s ∈ used 3 G
    · exact ⟨_, _, _, .inl ⟨h3, .inl ⟨hm, rfl, rfl, rfl⟩⟩⟩
    · exact ⟨_, _, _, .inl ⟨h3, .inr ⟨hm, rfl, rfl, rfl⟩⟩⟩
  · by_cases h2 : k = 2
    · by_cases hm : s ∈ heads G
      · exact ⟨_, _, _, .inr (.inl ⟨h2, .inl ⟨hm, rfl, rfl, rfl⟩⟩)⟩
      · exact ⟨_, _, _, .inr (.inl ⟨h2, .inr ⟨hm, rfl, rfl, rfl⟩⟩)⟩
    · exact ⟨_, _, _, .inr (.inr ⟨h3, h2, rfl, rfl, rfl⟩)⟩
set_option maxRecDepth 100000 in
set_option maxHeartbeats 3200000 in
theorem xSym_tab {w : World} {B tb : Nat} {G : List Ru} (h : TabAt w B tb G) (k : Int) (s : ByteArray) (c : Int) (lb : Bool) (r er : Int) (hs : s.size ≤ maxLen) (hS : SymS G k s lb r er) :
    Calls Tryz.prog 21 #[.pointer (some ⟨tb, 0, none⟩), .agg #[.int .i64 k, .string s, .int .i64 c]] w fun e w' => e = .returned (.tuple #[.agg #[.bool lb, .int .i64 r], .int .i64 er]) ∧ Below w.heap.size w w' := by
  have HTab := Lib.hid h
  clear h
  rcases hS with ⟨rfl, hS⟩ | ⟨rfl, hS⟩ | ⟨h3, h2, rfl, rfl, rfl⟩
  · rcases hS with ⟨hm, rfl, rfl, rfl⟩ | ⟨hm, rfl, rfl, rfl⟩
    · have HB0 : Hid (Below w.heap.size w ((w.alloc (.cells #[.int .i64 3, .string s, .int .i64 c] 41)).alloc (.cells #[.bool false, .int .i64 0] 46))) := below2 w _ _
      have HT := Lib.hid (xThere_tab (HTab.out.below HB0.out))
      have HL := Lib.hid (xLabel_tab (HTab.out.below HB0.out) s _ _ hs (numS_pos hm))
      clear hm
      generalize hq : posL (used 3 G) s = q at *
      clear hq
      go_enter Tryz.func21, Tryz.ntmps21
      go_wp2_with (go_at_call 31; refine (HT.out).mono ?_; rintro e w1 ⟨rfl, rfl⟩)
      refine (HL.out).mono ?_
      rintro e w1 ⟨rfl, hb1⟩
      obtain ⟨hc, hf⟩ := bcell hb1
      have hz : w.heap.size + 1 < w1.heap.size := by have := hb1.size; simp at this; omega
      have HB1 := Lib.hid (HB0.out.trans (hb1.mono HB0.out.size))
      clear hb1
      go_wp2_with fail
      exact bodyPost_ret (v := .tuple #[.agg #[.bool true, .int .i64 q], .int .i64 0]) (by simp [results, Tryz.f21, go_sem, hc]) rfl ⟨rfl, (HB1.out.setCell (p := ⟨w.heap.size + 1, 0, none⟩) (by show w.heap.size ≤ w.heap.size + 1; omega) _).setCell (p := ⟨w.heap.size + 1, 1, none⟩) (by show w.heap.size ≤ w.heap.size + 1; omega) _⟩
    · have HB0 : Hid (Below w.heap.size w ((w.alloc (.cells #[.int .i64 3, .string s, .int .i64 c] 41)).alloc (.cells #[.bool false, .int .i64 0] 46))) := below2 w _ _
      have HT := Lib.hid (xThere_tab (HTab.out.below HB0.out))
      have HL := Lib.hid (xLabel_tab (HTab.out.below HB0.out) s _ _ hs (numS_not hm))
      clear hm
      generalize hq : posL (used 3 G) s = q at *
      clear hq
      go_enter Tryz.func21, Tryz.ntmps21
      go_wp2_with (go_at_call 31; refine (HT.out).mono ?_; rintro e w1 ⟨rfl, rfl⟩)
      refine (HL.out).mono ?_
      rintro e w1 ⟨rfl, hb1⟩
      obtain ⟨hc, hf⟩ := bcell hb1
      have hz : w.heap.size + 1 < w1.heap.size := by have := hb1.size; simp at this; omega
      have HB1 := Lib.hid (HB0.out.trans (hb1.mono HB0.out.size))
      clear hb1
      go_wp2_with fail
      exact bodyPost_ret (v := .tuple #[.agg #[.bool false, .int .i64 0], .int .i64 4]) (by simp [results, Tryz.f21, go_sem, hc]) rfl ⟨rfl, (HB1.out.setCell (p := ⟨w.heap.size + 1, 0, none⟩) (by show w.heap.size ≤ w.heap.size + 1; omega) _).setCell (p := ⟨w.heap.size + 1, 1, none⟩) (by show w.heap.size ≤ w.heap.size + 1; omega) _⟩
  · rcases hS with ⟨hm, rfl, rfl, rfl⟩ | ⟨hm, rfl, rfl, rfl⟩
    · have HB0 : Hid (Below w.heap.size w ((w.alloc (.cells #[.int .i64 2, .string s, .int .i64 c] 41)).alloc (.cells #[.bool false, .int .i64 0] 46))) := below2 w _ _
      have HT := Lib.hid (xThere_tab (HTab.out.below HB0.out))
      have HL := Lib.hid (xNt_tab (HTab.out.below HB0.out) s _ _ hs (numS_pos hm))
      clear hm
      generalize hq : posL (heads G) s = q at *
      clear hq
      go_enter Tryz.func21, Tryz.ntmps21
      go_wp2_with (go_at_call 31; refine (HT.out).mono ?_; rintro e w1 ⟨rfl, rfl⟩)
      refine (HL.out).mono ?_
      rintro e w1 ⟨rfl, hb1⟩
      obtain ⟨hc, hf⟩ := bcell hb1
      have hz : w.heap.size + 1 < w1.heap.size := by have := hb1.size; simp at this; omega
      have HB1 := Lib.hid (HB0.out.trans (hb1.mono HB0.out.size))
      clear hb1
      go_wp2_with fail
      exact bodyPost_ret (v := .tuple #[.agg #[.bool false, .int .i64 q], .int .i64 0]) (by simp [results, Tryz.f21, go_sem, hc]) rfl ⟨rfl, (HB1.out.setCell (p := ⟨w.heap.size + 1, 0, none⟩) (by show w.heap.size ≤ w.heap.size + 1; omega) _).setCell (p := ⟨w.heap.size + 1, 1, none⟩) (by show w.heap.size ≤ w.heap.size + 1; omega) _⟩
    · have HB0 : Hid (Below w.heap.size w ((w.alloc (.cells #[.int .i64 2, .string s, .int .i64 c] 41)).alloc (.cells #[.bool false, .int .i64 0] 46))) := below2 w _ _
      have HT := Lib.hid (xThere_tab (HTab.out.below HB0.out))
      have HL := Lib.hid (xNt_tab (HTab.out.below HB0.out) s _ _ hs (numS_not hm))
      clear hm
      generalize hq : posL (heads G) s = q at *
      clear hq
      go_enter Tryz.func21, Tryz.ntmps21
      go_wp2_with (go_at_call 31; refine (HT.out).mono ?_; rintro e w1 ⟨rfl, rfl⟩)
      refine (HL.out).mono ?_
      rintro e w1 ⟨rfl, hb1⟩
      obtain ⟨hc, hf⟩ := bcell hb1
      have hz : w.heap.size + 1 < w1.heap.size := by have := hb1.size; simp at this; omega
      have HB1 := Lib.hid (HB0.out.trans (hb1.mono HB0.out.size))
      clear hb1
      go_wp2_with fail
      exact bodyPost_ret (v := .tuple #[.agg #[.bool false, .int .i64 0], .int .i64 4]) (by simp [results, Tryz.f21, go_sem, hc]) rfl ⟨rfl, (HB1.out.setCell (p := ⟨w.heap.size + 1, 0, none⟩) (by show w.heap.size ≤ w.heap.size + 1; omega) _).setCell (p := ⟨w.heap.size + 1, 1, none⟩) (by show w.heap.size ≤ w.heap.size + 1; omega) _⟩
  · have HB0 : Hid (Below w.heap.size w ((w.alloc (.cells #[.int .i64 k, .string s, .int .i64 c] 41)).alloc (.cells #[.bool false, .int .i64 0] 46))) := below2 w _ _
    have HT := Lib.hid (xThere_tab (HTab.out.below HB0.out))
    have e3 : (k == 3) = false := by simpa using h3
    have e2 : (k != 2) = true := by simpa using h2
    clear h3 h2
    go_enter Tryz.func21, Tryz.ntmps21
    go_wp2_with (go_at_call 31; refine (HT.out).mono ?_; rintro e w1 ⟨rfl, rfl⟩)
    exact bodyPost_ret (v := .tuple #[.agg #[.bool false, .int .i64 0], .int .i64 2]) (by simp [results, Tryz.f21, go_sem]) rfl ⟨rfl, HB0.out⟩
theorem rNum_in (v : Value) (l : List ByteArray) (s : ByteArray) (w : World) (h : RdS w v l) (hn : l.Nodup) (hl : l.length ≤ 140737488355328) (hm : s ∈ l) :
    Calls Tryz.prog 23 #[v, .string s] w fun e w' => e = .returned (.tuple #[.int .i64 (posL l s : Nat), .int .i64 0]) ∧ w = w' := by
  have h2 := rNumber_any v l s w h hn hl
  rw [numOf_in hm] at h2; exact h2
theorem rNum_out (v : Value) (l : List ByteArray) (s : ByteArray) (w : World) (h : RdS w v l) (hn : l.Nodup) (hl : l.length ≤ 140737488355328) (hm : s ∉ l) :
    Calls Tryz.prog 23 #[v, .string s] w fun e w' => e = .returned (.tuple #[.int .i64 0, .int .i64 4]) ∧ w = w' := by
  have h2 := rNumber_any v l s w h hn hl
  rw [numOf_out hm] at h2; exact h2
set_option maxRecDepth 100000 in
set_option maxHeartbeats 6400000 in
theorem rSymG_any (v : Value) (G : List Ru) (k : Int) (s : ByteArray) (c : Int) (lb : Bool) (r er : Int) (w : World) (h : RdRu w v G) (hl : LimG G) (hS : SymS G k s lb r er) :
    Calls Tryz.prog 24 #[v, .agg #[.int .i64 k, .string s, .int .i64 c]] w fun e w' => e = .returned (.tuple #[.agg #[.bool lb, .int .i64 r], .int .i64 er]) ∧ Below w.heap.size w w' := by
  have HV := Lib.hid h
  have H1 := Lib.hid (fun w h => rHeads_any v G w h hl)
  have H2 := Lib.hid (fun w h => rLabels_any v G w h hl)
  have hhl := heads_le G hl.len
  have hul := used_le 3 G hl.nodes
  obtain ⟨P, hG, hR⟩ := h
  obtain ⟨⟨_, ao, cap, rfl, -⟩, -⟩ := hR
  clear hl hG
  rcases hS with ⟨rfl, hS⟩ | ⟨rfl, hS⟩ | ⟨h3, h2, rfl, rfl, rfl⟩
  · rcases hS with ⟨hm, rfl, rfl, rfl⟩ | ⟨hm, rfl, rfl, rfl⟩
    · have HB0 : Hid (Below w.heap.size w ((w.alloc (.cells #[.int .i64 3, .string s, .int .i64 c] 41)).alloc (.cells #[.bool false, .int .i64 0] 46))) := below2 w _ _
      have HN := Lib.hid (fun v w h => rNum_in v (used 3 G) s w h (used_nodup 3 G) (by omega) hm)
      clear hm
      generalize hq : posL (used 3 G) s = q at *
      clear hq
      go_enter Tryz.func24, Tryz.ntmps24
      go_wp2_with fail
      refine (H1.out _ (HV.out.below HB0.out)).mono ?_
      rintro e w1 ⟨v1, rfl, ho1, hb1⟩
      obtain ⟨hc, hf⟩ := bcell hb1
      have hz : w.heap.size + 1 < w1.heap.size := by have := hb1.size; simp at this; omega
      have HB1 := Lib.hid (HB0.out.trans (hb1.mono HB0.out.size))
      obtain ⟨a1, c1, rfl⟩ := own_str_shape ho1
      have HO1 := Lib.hid (RdS.of_own ho1)
      clear hb1 ho1
      go_wp2_with fail
      refine (H2.out _ (HV.out.below HB1.out)).mono ?_
      rintro e w2 ⟨v2, rfl, ho2, hb2⟩
      obtain ⟨hc2, hf2⟩ := bcell hb2
      have hz2 : w.heap.size + 1 < w2.heap.size := by have := hb2.size; omega
      have hz0 : w.heap.size < w1.heap.size := by omega
      have HB2 := Lib.hid (HB1.out.trans (hb2.mono HB1.out.size))
      obtain ⟨a2, c2, rfl⟩ := own_str_shape ho2
      have HO2 := Lib.hid (RdS.of_own ho2)
      clear hb2 ho2 HO1
      go_wp2_with fail
      refine (HN.out _ _ HO2.out).mono ?_
      rintro e w3 ⟨rfl, rfl⟩
      go_wp2_with fail
      exact bodyPost_ret (v := .tuple #[.agg #[.bool true, .int .i64 q], .int .i64 0]) (by simp [results, Tryz.f24, go_sem, hc, hc2, hz, hz0]) rfl ⟨rfl, (HB2.out.setCell (p := ⟨w.heap.size + 1, 0, none⟩) (by show w.heap.size ≤ w.heap.size + 1; omega) _).setCell (p := ⟨w.heap.size + 1, 1, none⟩) (by show w.heap.size ≤ w.heap.size + 1; omega) _⟩
    · have HB0 : Hid (Below w.heap.size w ((w.alloc (.cells #[.int .i64 3, .string s, .int .i64 c] 41)).alloc (.cells #[.bool false, .int .i64 0] 46))) := below2 w _ _
      have HN := Lib.hid (fun v w h => rNum_out v (used 3 G) s w h (used_nodup 3 G) (by omega) hm)
      clear hm
      generalize hq : posL (used 3 G) s = q at *
      clear hq
      go_enter Tryz.func24, Tryz.ntmps24
      go_wp2_with fail
      refine (H1.out _ (HV.out.below HB0.out)).mono ?_
      rintro e w1 ⟨v1, rfl, ho1, hb1⟩
      obtain ⟨hc, hf⟩ := bcell hb1
      have hz : w.heap.size + 1 < w1.heap.size := by have := hb1.size; simp at this; omega
      have HB1 := Lib.hid (HB0.out.trans (hb1.mono HB0.out.size))
      obtain ⟨a1, c1, rfl⟩ := own_str_shape ho1
      have HO1 := Lib.hid (RdS.of_own ho1)
      clear hb1 ho1
      go_wp2_with fail
      refine (H2.out _ (HV.out.below HB1.out)).mono ?_
      rintro e w2 ⟨v2, rfl, ho2, hb2⟩
      obtain ⟨hc2, hf2⟩ := bcell hb2
      have hz2 : w.heap.size + 1 < w2.heap.size := by have := hb2.size; omega
      have hz0 : w.heap.size < w1.heap.size := by omega
      have HB2 := Lib.hid (HB1.out.trans (hb2.mono HB1.out.size))
      obtain ⟨a2, c2, rfl⟩ := own_str_shape ho2
      have HO2 := Lib.hid (RdS.of_own ho2)
      clear hb2 ho2 HO1
      go_wp2_with fail
      refine (HN.out _ _ HO2.out).mono ?_
      rintro e w3 ⟨rfl, rfl⟩
      go_wp2_with fail
      exact bodyPost_ret (v := .tuple #[.agg #[.bool false, .int .i64 0], .int .i64 4]) (by simp [results, Tryz.f24, go_sem, hc, hc2, hz, hz0]) rfl ⟨rfl, (HB2.out.setCell (p := ⟨w.heap.size + 1, 0, none⟩) (by show w.heap.size ≤ w.heap.size + 1; omega) _).setCell (p := ⟨w.heap.size + 1, 1, none⟩) (by show w.heap.size ≤ w.heap.size + 1; omega) _⟩
  · rcases hS with ⟨hm, rfl, rfl, rfl⟩ | ⟨hm, rfl, rfl, rfl⟩
    · have HB0 : Hid (Below w.heap.size w ((w.alloc (.cells #[.int .i64 2, .string s, .int .i64 c] 41)).alloc (.cells #[.bool false, .int .i64 0] 46))) := below2 w _ _
      have HN := Lib.hid (fun v w h => rNum_in v (heads G) s w h (heads_nodup G) (by omega) hm)
      clear hm
      generalize hq : posL (heads G) s = q at *
      clear hq
      go_enter Tryz.func24, Tryz.ntmps24
      go_wp2_with fail
      refine (H1.out _ (HV.out.below HB0.out)).mono ?_
      rintro e w1 ⟨v1, rfl, ho1, hb1⟩
      obtain ⟨hc, hf⟩ := bcell hb1
      have hz : w.heap.size + 1 < w1.heap.size := by have := hb1.size; simp at this; omega
      have HB1 := Lib.hid (HB0.out.trans (hb1.mono HB0.out.size))
      obtain ⟨a1, c1, rfl⟩ := own_str_shape ho1
      have HO1 := Lib.hid (RdS.of_own ho1)
      clear hb1 ho1
      go_wp2_with fail
      refine (HN.out _ _ HO1.out).mono ?_
      rintro e w3 ⟨rfl, rfl⟩
      go_wp2_with fail
      exact bodyPost_ret (v := .tuple #[.agg #[.bool false, .int .i64 q], .int .i64 0]) (by simp [results, Tryz.f24, go_sem, hc]) rfl ⟨rfl, (HB1.out.setCell (p := ⟨w.heap.size + 1, 0, none⟩) (by show w.heap.size ≤ w.heap.size + 1; omega) _).setCell (p := ⟨w.heap.size + 1, 1, none⟩) (by show w.heap.size ≤ w.heap.size + 1; omega) _⟩
    · have HB0 : Hid (Below w.heap.size w ((w.alloc (.cells #[.int .i64 2, .string s, .int .i64 c] 41)).alloc (.cells #[.bool false, .int .i64 0] 46))) := below2 w _ _
      have HN := Lib.hid (fun v w h => rNum_out v (heads G) s w h (heads_nodup G) (by omega) hm)
      clear hm
      generalize hq : posL (heads G) s = q at *
      clear hq
      go_enter Tryz.func24, Tryz.ntmps24
      go_wp2_with fail
      refine (H1.out _ (HV.out.below HB0.out)).mono ?_
      rintro e w1 ⟨v1, rfl, ho1, hb1⟩
      obtain ⟨hc, hf⟩ := bcell hb1
      have hz : w.heap.size + 1 < w1.heap.size := by have := hb1.size; simp at this; omega
      have HB1 := Lib.hid (HB0.out.trans (hb1.mono HB0.out.size))
      obtain ⟨a1, c1, rfl⟩ := own_str_shape ho1
      have HO1 := Lib.hid (RdS.of_own ho1)
      clear hb1 ho1
      go_wp2_with fail
      refine (HN.out _ _ HO1.out).mono ?_
      rintro e w3 ⟨rfl, rfl⟩
      go_wp2_with fail
      exact bodyPost_ret (v := .tuple #[.agg #[.bool false, .int .i64 0], .int .i64 4]) (by simp [results, Tryz.f24, go_sem, hc]) rfl ⟨rfl, (HB1.out.setCell (p := ⟨w.heap.size + 1, 0, none⟩) (by show w.heap.size ≤ w.heap.size + 1; omega) _).setCell (p := ⟨w.heap.size + 1, 1, none⟩) (by show w.heap.size ≤ w.heap.size + 1; omega) _⟩
  · have HB0 : Hid (Below w.heap.size w ((w.alloc (.cells #[.int .i64 k, .string s, .int .i64 c] 41)).alloc (.cells #[.bool false, .int .i64 0] 46))) := below2 w _ _
    have e3 : (k != 3) = true := by simpa using h3
    have e2 : (k != 2) = true := by simpa using h2
    clear h3 h2
    go_enter Tryz.func24, Tryz.ntmps24
    go_wp2_with fail
    exact bodyPost_ret (v := .tuple #[.agg #[.bool false, .int .i64 0], .int .i64 2]) (by simp [results, Tryz.f24, go_sem]) rfl ⟨rfl, HB0.out⟩
end Go.Proofs.YtfmcbpnhpckmjaaGreat
namespace Go.Proofs.YtfmcbpnhpckmjaaGreat
open Go.RowKit

/-! ### the law SymbolsAnswers -/
theorem rNumS_any (v : Value) (l : List ByteArray) (s : ByteArray) (r e : Int) (w : World) (h : RdS w v l) (hn : l.Nodup) (hl : l.length ≤ 140737488355328) (hS : NumS l s r e) :
    Calls Tryz.prog 23 #[v, .string s] w fun en w' => en = .returned (.tuple #[.int .i64 r, .int .i64 e]) ∧ w = w' := by
  rcases hS with ⟨i, hi, rfl, rfl⟩ | ⟨hm, rfl, rfl⟩
  · have h2 := rNum_in v l s w h hn hl (List.mem_of_getElem? hi)
    rw [posL_eq hn hi] at h2; exact h2
  · exact rNum_out v l s w h hn hl hm
set_option maxRecDepth 100000 in
set_option maxHeartbeats 12800000 in
theorem symbolsAnswers_any (v : Value) (G : List Ru) (nm : ByteArray) (k : Int) (s : ByteArray) (c : Int) (lb0 : Bool) (n0 : Int) (w : World) (h : RdRu w v G) (hb : Bulk G 1048576) (hz1' : nm.size ≤ 1048576) (hz2' : s.size ≤ 1048576) :
    Calls Tryz.prog 6 #[v, .string nm, .agg #[.int .i64 k, .string s, .int .i64 c], .agg #[.bool lb0, .int .i64 n0]] w fun e w' => e = .returned (.bool true) ∧ Below w.heap.size w w' := by
  have hz1 : nm.size ≤ maxLen := by unfold maxLen; omega
  have hz2 : s.size ≤ maxLen := by unfold maxLen; omega
  clear hz1' hz2'
  have hl := hb.lim (by omega)
  have hl2 := hb.len
  have hn := hb.nodes
  clear hb
  have HG_0 := Lib.hid (h.below (below2 w (.cells #[.int .i64 k, .string s, .int .i64 c] 41) (.cells #[.bool lb0, .int .i64 n0] 46)))
  have HLim := Lib.hid hl
  have HB0 : Hid (Below w.heap.size w ((w.alloc (.cells #[.int .i64 k, .string s, .int .i64 c] 41)).alloc (.cells #[.bool lb0, .int .i64 n0] 46))) := below2 _ _ _
  have hhl := heads_le G hl2
  have hul := used_le 3 G hn
  by_cases hc : checkG G = 0
  · have HT := Lib.hid (fun w h => rTable_ok v G w h hl hl2 (by omega) hc)
    have H1 := Lib.hid (fun w h => rHeads_any v G w h hl)
    have H2 := Lib.hid (fun w h => rLabels_any v G w h hl)
    obtain ⟨ra, ea, hA⟩ := numS_ex (heads G) nm
    obtain ⟨rb, eb, hB⟩ := numS_ex (used 3 G) nm
    obtain ⟨lc, rc, ec, hC⟩ := symS_ex G k s
    obtain ⟨td, ed, hD⟩ := nameS_ex (if lb0 then used 3 G else heads G) n0
    have HA := Lib.hid hA
    have HBb := Lib.hid hB
    have HC := Lib.hid hC
    have HD := Lib.hid hD
    obtain ⟨P, hG, hR⟩ := h
    obtain ⟨⟨_, ao, cap, rfl, -⟩, -⟩ := hR
    clear hl hn hG hl2 hc hA hB hC hD
    have N0_0 : ((w.alloc (.cells #[.int .i64 k, .string s, .int .i64 c] 41)).alloc (.cells #[.bool lb0, .int .i64 n0] 46)).cell? ⟨w.heap.size, 0, none⟩ = some (.int .i64 k) := by simp
    have N1_0 : ((w.alloc (.cells #[.int .i64 k, .string s, .int .i64 c] 41)).alloc (.cells #[.bool lb0, .int .i64 n0] 46)).cell? ⟨w.heap.size, 1, none⟩ = some (.string s) := by simp
    have N2_0 : ((w.alloc (.cells #[.int .i64 k, .string s, .int .i64 c] 41)).alloc (.cells #[.bool lb0, .int .i64 n0] 46)).cell? ⟨w.heap.size, 2, none⟩ = some (.int .i64 c) := by simp
    have Y0_0 : ((w.alloc (.cells #[.int .i64 k, .string s, .int .i64 c] 41)).alloc (.cells #[.bool lb0, .int .i64 n0] 46)).cell? ⟨w.heap.size + 1, 0, none⟩ = some (.bool lb0) := by simp
    have Y1_0 : ((w.alloc (.cells #[.int .i64 k, .string s, .int .i64 c] 41)).alloc (.cells #[.bool lb0, .int .i64 n0] 46)).cell? ⟨w.heap.size + 1, 1, none⟩ = some (.int .i64 n0) := by simp
    have zb_0 : w.heap.size + 1 < ((w.alloc (.cells #[.int .i64 k, .string s, .int .i64 c] 41)).alloc (.cells #[.bool lb0, .int .i64 n0] 46)).heap.size := by simp
    go_enter Tryz.func6, Tryz.ntmps6
    go_wp2_with fail
    generalize ((w.alloc (.cells #[.int .i64 k, .string s, .int .i64 c] 41)).alloc (.cells #[.bool lb0, .int .i64 n0] 46)) = w0 at *
    refine (HT.out _ HG_0.out).mono ?_
    rintro e w1 ⟨tb, rfl, hT1, hb1⟩
    have HT_1 := Lib.hid hT1
    clear hT1
    have HG_1 := Lib.hid (HG_0.out.below hb1)
    have N0_1 := (hb1.cell (p := ⟨w.heap.size, 0, none⟩) (by show w.heap.size < w0.heap.size; omega)).trans N0_0
    have N1_1 := (hb1.cell (p := ⟨w.heap.size, 1, none⟩) (by show w.heap.size < w0.heap.size; omega)).trans N1_0
    have N2_1 := (hb1.cell (p := ⟨w.heap.size, 2, none⟩) (by show w.heap.size < w0.heap.size; omega)).trans N2_0
    have Y0_1 := (hb1.cell (p := ⟨w.heap.size + 1, 0, none⟩) (by show w.heap.size + 1 < w0.heap.size; omega)).trans Y0_0
    have Y1_1 := (hb1.cell (p := ⟨w.heap.size + 1, 1, none⟩) (by show w.heap.size + 1 < w0.heap.size; omega)).trans Y1_0
    have zb_1 : w.heap.size + 1 < w1.heap.size := Nat.lt_of_lt_of_le zb_0 hb1.size
    have HB1 := Lib.hid (HB0.out.trans (hb1.mono HB0.out.size))
    clear hb1 HG_0 N0_0 N1_0 N2_0 Y0_0 Y1_0 zb_0
    go_wp2_with fail
    refine (xNt_tab HT_1.out nm ra ea hz1 HA.out).mono ?_
    rintro e w2 ⟨rfl, hb2⟩
    have HG_2 := Lib.hid (HG_1.out.below hb2)
    have HT_2 := Lib.hid (HT_1.out.below hb2)
    have N0_2 := (hb2.cell (p := ⟨w.heap.size, 0, none⟩) (by show w.heap.size < w1.heap.size; omega)).trans N0_1
    have N1_2 := (hb2.cell (p := ⟨w.heap.size, 1, none⟩) (by show w.heap.size < w1.heap.size; omega)).trans N1_1
    have N2_2 := (hb2.cell (p := ⟨w.heap.size, 2, none⟩) (by show w.heap.size < w1.heap.size; omega)).trans N2_1
    have Y0_2 := (hb2.cell (p := ⟨w.heap.size + 1, 0, none⟩) (by show w.heap.size + 1 < w1.heap.size; omega)).trans Y0_1
    have Y1_2 := (hb2.cell (p := ⟨w.heap.size + 1, 1, none⟩) (by show w.heap.size + 1 < w1.heap.size; omega)).trans Y1_1
    have zb_2 : w.heap.size + 1 < w2.heap.size := Nat.lt_of_lt_of_le zb_1 hb2.size
    have HB2 := Lib.hid (HB1.out.trans (hb2.mono HB1.out.size))
    clear hb2 HG_1 HT_1 N0_1 N1_1 N2_1 Y0_1 Y1_1 zb_1
    go_wp2_with fail
    refine (xLabel_tab HT_2.out nm rb eb hz1 HBb.out).mono ?_
    rintro e w3 ⟨rfl, hb3⟩
    have HG_3 := Lib.hid (HG_2.out.below hb3)
    have HT_3 := Lib.hid (HT_2.out.below hb3)
    have N0_3 := (hb3.cell (p := ⟨w.heap.size, 0, none⟩) (by show w.heap.size < w2.heap.size; omega)).trans N0_2
    have N1_3 := (hb3.cell (p := ⟨w.heap.size, 1, none⟩) (by show w.heap.size < w2.heap.size; omega)).trans N1_2
    have N2_3 := (hb3.cell (p := ⟨w.heap.size, 2, none⟩) (by show w.heap.size < w2.heap.size; omega)).trans N2_2
    have Y0_3 := (hb3.cell (p := ⟨w.heap.size + 1, 0, none⟩) (by show w.heap.size + 1 < w2.heap.size; omega)).trans Y0_2
    have Y1_3 := (hb3.cell (p := ⟨w.heap.size + 1, 1, none⟩) (by show w.heap.size + 1 < w2.heap.size; omega)).trans Y1_2
    have zb_3 : w.heap.size + 1 < w3.heap.size := Nat.lt_of_lt_of_le zb_2 hb3.size
    have HB3 := Lib.hid (HB2.out.trans (hb3.mono HB2.out.size))
    clear hb3 HG_2 HT_2 N0_2 N1_2 N2_2 Y0_2 Y1_2 zb_2
    go_wp2_with fail
    refine (xSym_tab HT_3.out k s c lc rc ec hz2 HC.out).mono ?_
    rintro e w4 ⟨rfl, hb4⟩
    have HG_4 := Lib.hid (HG_3.out.below hb4)
    have HT_4 := Lib.hid (HT_3.out.below hb4)
    have N0_4 := (hb4.cell (p := ⟨w.heap.size, 0, none⟩) (by show w.heap.size < w3.heap.size; omega)).trans N0_3
    have N1_4 := (hb4.cell (p := ⟨w.heap.size, 1, none⟩) (by show w.heap.size < w3.heap.size; omega)).trans N1_3
    have N2_4 := (hb4.cell (p := ⟨w.heap.size, 2, none⟩) (by show w.heap.size < w3.heap.size; omega)).trans N2_3
    have Y0_4 := (hb4.cell (p := ⟨w.heap.size + 1, 0, none⟩) (by show w.heap.size + 1 < w3.heap.size; omega)).trans Y0_3
    have Y1_4 := (hb4.cell (p := ⟨w.heap.size + 1, 1, none⟩) (by show w.heap.size + 1 < w3.heap.size; omega)).trans Y1_3
    have zb_4 : w.heap.size + 1 < w4.heap.size := Nat.lt_of_lt_of_le zb_3 hb4.size
    have HB4 := Lib.hid (HB3.out.trans (hb4.mono HB3.out.size))
    clear hb4 HG_3 HT_3 N0_3 N1_3 N2_3 Y0_3 Y1_3 zb_3
    go_wp2_with fail
    have hb5 : Below w4.heap.size w4 (w4.alloc (.cells #[.bool lc, .int .i64 rc] 46)) := below1 _ _
    have P0_5 : (w4.alloc (.cells #[.bool lc, .int .i64 rc] 46)).cell? ⟨w4.heap.size, 0, none⟩ = some (.bool lc) := by simp
    have P1_5 : (w4.alloc (.cells #[.bool lc, .int .i64 rc] 46)).cell? ⟨w4.heap.size, 1, none⟩ = some (.int .i64 rc) := by simp
    have zp_5 : w4.heap.size < (w4.alloc (.cells #[.bool lc, .int .i64 rc] 46)).heap.size := by simp
    have hle5 : w.heap.size ≤ w4.heap.size := HB4.out.size
    have HG_5 := Lib.hid (HG_4.out.below hb5)
    have HT_5 := Lib.hid (HT_4.out.below hb5)
    have N0_5 := (hb5.cell (p := ⟨w.heap.size, 0, none⟩) (by show w.heap.size < w4.heap.size; omega)).trans N0_4
    have N1_5 := (hb5.cell (p := ⟨w.heap.size, 1, none⟩) (by show w.heap.size < w4.heap.size; omega)).trans N1_4
    have N2_5 := (hb5.cell (p := ⟨w.heap.size, 2, none⟩) (by show w.heap.size < w4.heap.size; omega)).trans N2_4
    have Y0_5 := (hb5.cell (p := ⟨w.heap.size + 1, 0, none⟩) (by show w.heap.size + 1 < w4.heap.size; omega)).trans Y0_4
    have Y1_5 := (hb5.cell (p := ⟨w.heap.size + 1, 1, none⟩) (by show w.heap.size + 1 < w4.heap.size; omega)).trans Y1_4
    have zb_5 : w.heap.size + 1 < (w4.alloc (.cells #[.bool lc, .int .i64 rc] 46)).heap.size := Nat.lt_of_lt_of_le zb_4 hb5.size
    have HB5 := Lib.hid (HB4.out.trans (hb5.mono HB4.out.size))
    clear hb5 HG_4 HT_4 N0_4 N1_4 N2_4 Y0_4 Y1_4 zb_4
    generalize (w4.alloc (.cells #[.bool lc, .int .i64 rc] 46)) = w5 at *
    generalize w4.heap.size = b5 at *
    go_wp2_with fail
    refine (xName_tab HT_5.out lb0 n0 td ed HD.out).mono ?_
    rintro e w6 ⟨rfl, hb6⟩
    have HG_6 := Lib.hid (HG_5.out.below hb6)
    have HT_6 := Lib.hid (HT_5.out.below hb6)
    have N0_6 := (hb6.cell (p := ⟨w.heap.size, 0, none⟩) (by show w.heap.size < w5.heap.size; omega)).trans N0_5
    have N1_6 := (hb6.cell (p := ⟨w.heap.size, 1, none⟩) (by show w.heap.size < w5.heap.size; omega)).trans N1_5
    have N2_6 := (hb6.cell (p := ⟨w.heap.size, 2, none⟩) (by show w.heap.size < w5.heap.size; omega)).trans N2_5
    have Y0_6 := (hb6.cell (p := ⟨w.heap.size + 1, 0, none⟩) (by show w.heap.size + 1 < w5.heap.size; omega)).trans Y0_5
    have Y1_6 := (hb6.cell (p := ⟨w.heap.size + 1, 1, none⟩) (by show w.heap.size + 1 < w5.heap.size; omega)).trans Y1_5
    have P0_6 := (hb6.cell (p := ⟨b5, 0, none⟩) (by show b5 < w5.heap.size; omega)).trans P0_5
    have P1_6 := (hb6.cell (p := ⟨b5, 1, none⟩) (by show b5 < w5.heap.size; omega)).trans P1_5
    have zb_6 : w.heap.size + 1 < w6.heap.size := Nat.lt_of_lt_of_le zb_5 hb6.size
    have zp_6 : b5 < w6.heap.size := Nat.lt_of_lt_of_le zp_5 hb6.size
    have HB6 := Lib.hid (HB5.out.trans (hb6.mono HB5.out.size))
    clear hb6 HG_5 HT_5 N0_5 N1_5 N2_5 Y0_5 Y1_5 P0_5 P1_5 zb_5 zp_5
    go_wp2_with fail
    refine (H1.out _ HG_6.out).mono ?_
    rintro e w7 ⟨v7, rfl, ho7, hb7⟩
    have A_7 := Lib.hid (RdS.of_own ho7)
    obtain ⟨ao7, cp7, rfl⟩ := own_str_shape ho7
    clear ho7
    have HG_7 := Lib.hid (HG_6.out.below hb7)
    have HT_7 := Lib.hid (HT_6.out.below hb7)
    have N0_7 := (hb7.cell (p := ⟨w.heap.size, 0, none⟩) (by show w.heap.size < w6.heap.size; omega)).trans N0_6
    have N1_7 := (hb7.cell (p := ⟨w.heap.size, 1, none⟩) (by show w.heap.size < w6.heap.size; omega)).trans N1_6
    have N2_7 := (hb7.cell (p := ⟨w.heap.size, 2, none⟩) (by show w.heap.size < w6.heap.size; omega)).trans N2_6
    have Y0_7 := (hb7.cell (p := ⟨w.heap.size + 1, 0, none⟩) (by show w.heap.size + 1 < w6.heap.size; omega)).trans Y0_6
    have Y1_7 := (hb7.cell (p := ⟨w.heap.size + 1, 1, none⟩) (by show w.heap.size + 1 < w6.heap.size; omega)).trans Y1_6
    have P0_7 := (hb7.cell (p := ⟨b5, 0, none⟩) (by show b5 < w6.heap.size; omega)).trans P0_6
    have P1_7 := (hb7.cell (p := ⟨b5, 1, none⟩) (by show b5 < w6.heap.size; omega)).trans P1_6
    have zb_7 : w.heap.size + 1 < w7.heap.size := Nat.lt_of_lt_of_le zb_6 hb7.size
    have zp_7 : b5 < w7.heap.size := Nat.lt_of_lt_of_le zp_6 hb7.size
    have HB7 := Lib.hid (HB6.out.trans (hb7.mono HB6.out.size))
    clear hb7 HG_6 HT_6 N0_6 N1_6 N2_6 Y0_6 Y1_6 P0_6 P1_6 zb_6 zp_6
    go_wp2_with fail
    refine (rNumS_any _ _ nm ra ea _ A_7.out (heads_nodup G) (by omega) HA.out).mono ?_
    rintro e wx ⟨rfl, rfl⟩
    clear A_7
    go_wp2_with fail
    refine (H2.out _ HG_7.out).mono ?_
    rintro e w8 ⟨v8, rfl, ho8, hb8⟩
    have A_8 := Lib.hid (RdS.of_own ho8)
    obtain ⟨ao8, cp8, rfl⟩ := own_str_shape ho8
    clear ho8
    have HG_8 := Lib.hid (HG_7.out.below hb8)
    have HT_8 := Lib.hid (HT_7.out.below hb8)
    have N0_8 := (hb8.cell (p := ⟨w.heap.size, 0, none⟩) (by show w.heap.size < w7.heap.size; omega)).trans N0_7
    have N1_8 := (hb8.cell (p := ⟨w.heap.size, 1, none⟩) (by show w.heap.size < w7.heap.size; omega)).trans N1_7
    have N2_8 := (hb8.cell (p := ⟨w.heap.size, 2, none⟩) (by show w.heap.size < w7.heap.size; omega)).trans N2_7
    have Y0_8 := (hb8.cell (p := ⟨w.heap.size + 1, 0, none⟩) (by show w.heap.size + 1 < w7.heap.size; omega)).trans Y0_7
    have Y1_8 := (hb8.cell (p := ⟨w.heap.size + 1, 1, none⟩) (by show w.heap.size + 1 < w7.heap.size; omega)).trans Y1_7
    have P0_8 := (hb8.cell (p := ⟨b5, 0, none⟩) (by show b5 < w7.heap.size; omega)).trans P0_7
    have P1_8 := (hb8.cell (p := ⟨b5, 1, none⟩) (by show b5 < w7.heap.size; omega)).trans P1_7
    have zb_8 : w.heap.size + 1 < w8.heap.size := Nat.lt_of_lt_of_le zb_7 hb8.size
    have zp_8 : b5 < w8.heap.size := Nat.lt_of_lt_of_le zp_7 hb8.size
    have HB8 := Lib.hid (HB7.out.trans (hb8.mono HB7.out.size))
    clear hb8 HG_7 HT_7 N0_7 N1_7 N2_7 Y0_7 Y1_7 P0_7 P1_7 zb_7 zp_7
    go_wp2_with fail
    refine (rNumS_any _ _ nm rb eb _ A_8.out (used_nodup 3 G) (by omega) HBb.out).mono ?_
    rintro e wx ⟨rfl, rfl⟩
    clear A_8
    go_wp2_with fail
    refine (rSymG_any _ G k s c lc rc ec _ HG_8.out HLim.out HC.out).mono ?_
    rintro e w9 ⟨rfl, hb9⟩
    have HG_9 := Lib.hid (HG_8.out.below hb9)
    have HT_9 := Lib.hid (HT_8.out.below hb9)
    have N0_9 := (hb9.cell (p := ⟨w.heap.size, 0, none⟩) (by show w.heap.size < w8.heap.size; omega)).trans N0_8
    have N1_9 := (hb9.cell (p := ⟨w.heap.size, 1, none⟩) (by show w.heap.size < w8.heap.size; omega)).trans N1_8
    have N2_9 := (hb9.cell (p := ⟨w.heap.size, 2, none⟩) (by show w.heap.size < w8.heap.size; omega)).trans N2_8
    have Y0_9 := (hb9.cell (p := ⟨w.heap.size + 1, 0, none⟩) (by show w.heap.size + 1 < w8.heap.size; omega)).trans Y0_8
    have Y1_9 := (hb9.cell (p := ⟨w.heap.size + 1, 1, none⟩) (by show w.heap.size + 1 < w8.heap.size; omega)).trans Y1_8
    have P0_9 := (hb9.cell (p := ⟨b5, 0, none⟩) (by show b5 < w8.heap.size; omega)).trans P0_8
    have P1_9 := (hb9.cell (p := ⟨b5, 1, none⟩) (by show b5 < w8.heap.size; omega)).trans P1_8
    have zb_9 : w.heap.size + 1 < w9.heap.size := Nat.lt_of_lt_of_le zb_8 hb9.size
    have zp_9 : b5 < w9.heap.size := Nat.lt_of_lt_of_le zp_8 hb9.size
    have HB9 := Lib.hid (HB8.out.trans (hb9.mono HB8.out.size))
    clear hb9 HG_8 HT_8 N0_8 N1_8 N2_8 Y0_8 Y1_8 P0_8 P1_8 zb_8 zp_8
    go_wp2_with fail
    have hb10 : Below w9.heap.size w9 (w9.alloc (.cells #[.bool lc, .int .i64 rc] 46)) := below1 _ _
    have Q0_10 : (w9.alloc (.cells #[.bool lc, .int .i64 rc] 46)).cell? ⟨w9.heap.size, 0, none⟩ = some (.bool lc) := by simp
    have Q1_10 : (w9.alloc (.cells #[.bool lc, .int .i64 rc] 46)).cell? ⟨w9.heap.size, 1, none⟩ = some (.int .i64 rc) := by simp
    have zq_10 : w9.heap.size < (w9.alloc (.cells #[.bool lc, .int .i64 rc] 46)).heap.size := by simp
    have hle10 : w.heap.size ≤ w9.heap.size := HB9.out.size
    have HG_10 := Lib.hid (HG_9.out.below hb10)
    have HT_10 := Lib.hid (HT_9.out.below hb10)
    have N0_10 := (hb10.cell (p := ⟨w.heap.size, 0, none⟩) (by show w.heap.size < w9.heap.size; omega)).trans N0_9
    have N1_10 := (hb10.cell (p := ⟨w.heap.size, 1, none⟩) (by show w.heap.size < w9.heap.size; omega)).trans N1_9
    have N2_10 := (hb10.cell (p := ⟨w.heap.size, 2, none⟩) (by show w.heap.size < w9.heap.size; omega)).trans N2_9
    have Y0_10 := (hb10.cell (p := ⟨w.heap.size + 1, 0, none⟩) (by show w.heap.size + 1 < w9.heap.size; omega)).trans Y0_9
    have Y1_10 := (hb10.cell (p := ⟨w.heap.size + 1, 1, none⟩) (by show w.heap.size + 1 < w9.heap.size; omega)).trans Y1_9
    have P0_10 := (hb10.cell (p := ⟨b5, 0, none⟩) (by show b5 < w9.heap.size; omega)).trans P0_9
    have P1_10 := (hb10.cell (p := ⟨b5, 1, none⟩) (by show b5 < w9.heap.size; omega)).trans P1_9
    have zb_10 : w.heap.size + 1 < (w9.alloc (.cells #[.bool lc, .int .i64 rc] 46)).heap.size := Nat.lt_of_lt_of_le zb_9 hb10.size
    have zp_10 : b5 < (w9.alloc (.cells #[.bool lc, .int .i64 rc] 46)).heap.size := Nat.lt_of_lt_of_le zp_9 hb10.size
    have HB10 := Lib.hid (HB9.out.trans (hb10.mono HB9.out.size))
    clear hb10 HG_9 HT_9 N0_9 N1_9 N2_9 Y0_9 Y1_9 P0_9 P1_9 zb_9 zp_9
    generalize (w9.alloc (.cells #[.bool lc, .int .i64 rc] 46)) = w10 at *
    generalize w9.heap.size = b10 at *
    go_wp2_with fail
    refine (rNameG_any _ G lb0 n0 td ed _ HG_10.out HLim.out HD.out).mono ?_
    rintro e w11 ⟨rfl, hb11⟩
    have HG_11 := Lib.hid (HG_10.out.below hb11)
    have HT_11 := Lib.hid (HT_10.out.below hb11)
    have N0_11 := (hb11.cell (p := ⟨w.heap.size, 0, none⟩) (by show w.heap.size < w10.heap.size; omega)).trans N0_10
    have N1_11 := (hb11.cell (p := ⟨w.heap.size, 1, none⟩) (by show w.heap.size < w10.heap.size; omega)).trans N1_10
    have N2_11 := (hb11.cell (p := ⟨w.heap.size, 2, none⟩) (by show w.heap.size < w10.heap.size; omega)).trans N2_10
    have Y0_11 := (hb11.cell (p := ⟨w.heap.size + 1, 0, none⟩) (by show w.heap.size + 1 < w10.heap.size; omega)).trans Y0_10
    have Y1_11 := (hb11.cell (p := ⟨w.heap.size + 1, 1, none⟩) (by show w.heap.size + 1 < w10.heap.size; omega)).trans Y1_10
    have P0_11 := (hb11.cell (p := ⟨b5, 0, none⟩) (by show b5 < w10.heap.size; omega)).trans P0_10
    have P1_11 := (hb11.cell (p := ⟨b5, 1, none⟩) (by show b5 < w10.heap.size; omega)).trans P1_10
    have Q0_11 := (hb11.cell (p := ⟨b10, 0, none⟩) (by show b10 < w10.heap.size; omega)).trans Q0_10
    have Q1_11 := (hb11.cell (p := ⟨b10, 1, none⟩) (by show b10 < w10.heap.size; omega)).trans Q1_10
    have zb_11 : w.heap.size + 1 < w11.heap.size := Nat.lt_of_lt_of_le zb_10 hb11.size
    have zp_11 : b5 < w11.heap.size := Nat.lt_of_lt_of_le zp_10 hb11.size
    have zq_11 : b10 < w11.heap.size := Nat.lt_of_lt_of_le zq_10 hb11.size
    have HB11 := Lib.hid (HB10.out.trans (hb11.mono HB10.out.size))
    clear hb11 HG_10 HT_10 N0_10 N1_10 N2_10 Y0_10 Y1_10 P0_10 P1_10 Q0_10 Q1_10 zb_10 zp_10 zq_10
    have q1 : (ra == ra) = true := by simp
    have q2 : (ea == ea) = true := by simp
    have q3 : (rb == rb) = true := by simp
    have q4 : (eb == eb) = true := by simp
    have q5 : (ec == ec) = true := by simp
    have q6 : (ed == ed) = true := by simp
    have q7 : (td.toList == td.toList) = true := by simp
    have q8 : (rc == rc) = true := by simp
    have q9 : (lc == lc) = true := by simp
    go_wp2_with fail
    
    go_ret
    exact ⟨rfl, HB11.out⟩
  · have HT := Lib.hid (fun w h => rTable_err v G w h hl hl2 (by omega) hc)
    obtain ⟨P, hG, hR⟩ := h
    obtain ⟨⟨_, ao, cap, rfl, -⟩, -⟩ := hR
    clear hl hn hG hl2 hc
    go_enter Tryz.func6, Tryz.ntmps6
    go_wp2_with fail
    refine (HT.out _ HG_0.out).mono ?_
    rintro e w1 ⟨rfl, hb1⟩
    have HB1 := Lib.hid (HB0.out.trans (hb1.mono HB0.out.size))
    clear hb1
    go_wp2_with fail
    go_ret
    exact ⟨rfl, HB1.out⟩
end Go.Proofs.YtfmcbpnhpckmjaaGreat
namespace Go.Proofs.YtfmcbpnhpckmjaaGreat
open Go.ChangeShapes Go.WideShapes Go.RowKit Go.Deep

set_option maxRecDepth 100000 in
/-- one node, by value -/
theorem open_node {H : Type} {enc : TypeId × Value → H} {w : World} {base : Nat} {spare : Nat → Bool} {held : Bool} {r : Reach} {b0 : Nat} {v : Value} {d : DataW H} {ps : List MemPlace}
    (hval : Value.okWide Tryz.prog w r b0 41 v) (h : DataW.Trod enc Tryz.prog w base spare held 41 v d ps) :
    ∃ m : Nd, v = .agg #[.int .i64 m.k, .string m.n, .int .i64 m.c] ∧ m.n.size ≤ Rows.uptoBulk d := by
  obtain ⟨cs, rfl, hsz⟩ := okWide_struct Tryz.underlying41 hval
  obtain ⟨fuel, hf⟩ := h
  obtain ⟨m, e, hm⟩ := open_nodeB hf
  refine ⟨m, ?_, hm⟩
  have e2 : cs.toList = [.int .i64 m.k, .string m.n, .int .i64 m.c] := e
  rw [← e2]
set_option maxRecDepth 100000 in
/-- one symbol, by value -/
theorem open_sym {H : Type} {enc : TypeId × Value → H} {w : World} {base : Nat} {spare : Nat → Bool} {held : Bool} {r : Reach} {b0 : Nat} {v : Value} {d : DataW H} {ps : List MemPlace}
    (hval : Value.okWide Tryz.prog w r b0 46 v) (h : DataW.Trod enc Tryz.prog w base spare held 46 v d ps) :
    ∃ m : Bool × Int, v = .agg #[.bool m.1, .int .i64 m.2] ∧ True := by
  obtain ⟨cs, rfl, hsz⟩ := okWide_struct Tryz.underlying46 hval
  obtain ⟨fuel, hf⟩ := h
  obtain ⟨y0, y1, n, hx, hl, h0, h1⟩ := trod_struct2 Tryz.underlying46 hf
  obtain ⟨t, e1, _, _⟩ := DataW.trod_bool (by kernel_rfl) h0
  obtain ⟨p, e2, _, _⟩ := DataW.trod_int (k := .i64) (by kernel_rfl) h1
  have hl2 : cs.toList.length = 2 := by rw [show cs.toList.length = _ from hl]; kernel_rfl
  obtain ⟨c0, c1, hc⟩ : ∃ c0 c1, cs.toList = [c0, c1] := by
    match hcs : cs.toList, hl2 with
    | [c0, c1], _ => exact ⟨c0, c1, rfl⟩
  have k0 : Tryz.prog.cellsOf 4 = 1 := by kernel_rfl
  have k1 : Tryz.prog.cellsOf 3 = 1 := by kernel_rfl
  have hcc : (Value.agg cs).cells.toList = [c0, c1] := hc
  rw [hcc] at e1 e2
  simp [k0, k1] at e1 e2
  refine ⟨(t, p), ?_, trivial⟩
  have e3 : cs.toList = [.bool t, .int .i64 p] := by rw [hc, e1, e2]
  rw [← e3]
end Go.Proofs.YtfmcbpnhpckmjaaGreat
namespace Go.Proofs.YtfmcbpnhpckmjaaGreat.symbolsAnswers
open Go.ChangeShapes Go.WideShapes Go.ChangeAt Go.RowKit
open Go.ChangeMaps (open_string shut_string)

theorem laid : laidOutB Tryz.prog = true := by kernel_rfl

theorem own : ownKnob Tryz.prog.godebug = none := by kernel_rfl

set_option maxRecDepth 100000 in
theorem contract (H : Type) (enc : TypeId × Value → H) (W : World) (base : Nat) (args : Array Value) (ds gs : List (DataW H)) (before : List MemPlace)
    (hval : ∀ (j : Nat) t v, Tryz.f6.params[j]? = some t → args[j]? = some v → Value.okWide Tryz.prog W .any base t v)
    (hW : DataW.Whole enc Tryz.prog Tryz.f6.params.toList Rows.symbolsAnswersSpec.vars false W args.toList ds gs before) (hk : Rows.uptoSmall H (ds ++ gs) = true) :
    Calls Tryz.prog 6 args W fun e W' => ∃ v, e = .returned v ∧ Rows.symbolsAnswersSpec.post enc Tryz.prog Tryz.f6 false true false false W args v W' := by
  have hW' := hW
  obtain ⟨p, q, hA0, hV, rfl, hfz, hnd⟩ := hW
  have hA : DataW.TrodAll enc Tryz.prog W 0 (fun _ => true) true Tryz.f6.params.toList args.toList ds p := hA0
  rw [Tryz.params6] at hA hval
  obtain ⟨v0, vs0, d0, ds0, p0, q0, hargs, rfl, rfl, h0, r0⟩ := trodAll_cons hA
  obtain ⟨v1, vs1, d1, ds1, p1, q1, rfl, rfl, rfl, h1, r1⟩ := trodAll_cons r0
  obtain ⟨v2, vs2, d2, ds2, p2, q2, rfl, rfl, rfl, h2, r2⟩ := trodAll_cons r1
  obtain ⟨v3, vs3, d3, ds3, p3, q3, rfl, rfl, rfl, h3, r3⟩ := trodAll_cons r2
  obtain ⟨rfl, rfl, rfl⟩ := trodAll_nil r3
  obtain rfl : args = #[v0, v1, v2, v3] := by cases args; simp_all
  obtain ⟨rfl, rfl⟩ := trodVars_none hV
  have hlt0 : ∀ x ∈ p0, x.block < W.heap.size := fun x hx => by simpa using hW'.lt x (by simp [hx])
  obtain ⟨a0, w0, t0⟩ := open_rules (hval 0 22 v0 rfl rfl) h0
  obtain ⟨a1, rfl, rfl, rfl, w1⟩ := open_string Tryz.underlying9 (hval 1 9 v1 rfl rfl) h1
  have hlt2 : ∀ x ∈ p2, x.block < W.heap.size := fun x hx => by simpa using hW'.lt x (by simp [hx])
  obtain ⟨a2, rfl, t2⟩ := open_node (hval 2 41 v2 rfl rfl) h2
  have hlt3 : ∀ x ∈ p3, x.block < W.heap.size := fun x hx => by simpa using hW'.lt x (by simp [hx])
  obtain ⟨a3, rfl, t3⟩ := open_sym (hval 3 46 v3 rfl rfl) h3
  clear hA0
  have hb : Rows.uptoBulkAll [d0 , DataW.lit (H := H) (.string a1.data.toList) , d2 , d3] ≤ 1048576 := of_decide_eq_true hk
  simp only [Rows.uptoBulkAll, Rows.uptoBulk] at hb
  have e1 : a1.data.toList.length = a1.size := by rw [Array.length_toList]; rfl
  simp only [List.append_nil] at hW'
  refine (symbolsAnswers_any v0 a0 a1 a2.k a2.n a2.c a3.1 a3.2 W w0 (t0.mono (by omega)) (by omega) (by omega) ).mono fun e W' ⟨he, bel⟩ => ?_
  subst he
  exact ⟨_, rfl, _, _, _, [], _, [], hW', trodAll_mk1 (shut_bool Tryz.underlying4 _), (trodAll_cons_mk (Below.trod laid (by kernel_rfl) (of_decide_eq_true (by kernel_rfl)) h0 bel hlt0) (trodAll_cons_mk (shut_string Tryz.underlying9 w1) (trodAll_cons_mk (Below.trod laid (by kernel_rfl) (of_decide_eq_true (by kernel_rfl)) h2 bel hlt2) (trodAll_cons_mk (Below.trod laid (by kernel_rfl) (of_decide_eq_true (by kernel_rfl)) h3 bel hlt3) trodAll_mk0)))), rfl, bel.frame _, fun h => by cases h⟩

set_option maxRecDepth 100000 in
theorem lifted (os : Os) (started : os.Started) (H : Type) (enc : TypeId × Value → H) (F : Stop.Interp) :
    ReturnsInHanded {} Tryz.checked os 6 .any ((Rows.OpenSpec.upto Rows.symbolsAnswersSpec).pre6 enc Tryz.prog Tryz.f6 Rows.symbolsAnswersUptoRow.domain false) (((Rows.OpenSpec.upto Rows.symbolsAnswersSpec).at F).post enc Tryz.prog Tryz.f6 false true false false) := by
  refine returnsInHanded_of_cond (C := Tryz.checked) (s := Rows.OpenSpec.upto Rows.symbolsAnswersSpec) (k := Rows.uptoSmall) rfl own started (by kernel_rfl) Tryz.func6
    (OpenSpec.witness (enc := enc) (C := Tryz.checked) (s := Rows.OpenSpec.upto Rows.symbolsAnswersSpec) (k := Rows.uptoSmall) rfl false ⟨#[], #[.slice none 0 0, .string .empty, .agg #[.int .i64 0, .string .empty, .int .i64 0], .agg #[.bool false, .int .i64 0]], []⟩ 8 (by kernel_rfl) (by kernel_rfl) (by kernel_rfl)
      (x := ([.nil, .lit (.string []), .agg [.lit (.int .i64 0), .lit (.string []), .lit (.int .i64 0)], .agg [.lit (.bool false), .lit (.int .i64 0)]], [], [])) (by kernel_rfl) rfl (by kernel_rfl)) ?_
  intro W base args ds gs before hval hW _ hk _
  exact contract H enc W base args ds gs before hval hW hk

theorem proved : Rows.SymbolsAnswersUptoSaid :=
  OpenClaim.holds_of_cond 6 Tryz.f6 rfl rfl rfl rfl rfl rfl rfl ⟨rfl, rfl, rfl, rfl, rfl⟩ rfl rfl rfl rfl rfl (by kernel_rfl) Tryz.func6 (by kernel_rfl)
    (of_decide_eq_true (by kernel_rfl)) (by unfold Func.isWrapper; first | (rw [if_pos (by decide +kernel)]; kernel_rfl) | (rw [if_neg (by decide +kernel)]; exact ⟨rfl, rfl⟩))
    (fun os started H enc _ F => lifted os started H enc F)
#print axioms proved
end Go.Proofs.YtfmcbpnhpckmjaaGreat.symbolsAnswers
