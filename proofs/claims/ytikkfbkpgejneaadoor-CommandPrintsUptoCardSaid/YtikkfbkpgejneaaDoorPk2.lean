/- The walks and facts that the laws lean on, part 2. No condition of its own: each theorem tells its own. -/
import Derived.Test.YtikkfbkpgejneaaDoorPk1
import Derived.StillTailTactics
import Derived.Deep.AppendLies
import Derived.Deep.RegionLaw
import Derived.KernelRfl
import Derived.ArgAppend
namespace Go.Proofs.YtikkfbkpgejneaaDoor
open Go.RowKit Go.Shelf

def wordI (v : Int) : ByteArray :=
  if v = 1 then ⟨#[103, 114, 97, 109, 109, 97, 114]⟩ else if v = 2 then ⟨#[103, 114, 97, 112, 104]⟩ else if v = 3 then ⟨#[110, 111, 100, 101]⟩ else if v = 4 then ⟨#[101, 100, 103, 101]⟩ else if v = 5 then ⟨#[113, 117, 101, 114, 121]⟩ else if v = 6 then ⟨#[112, 97, 116, 104]⟩ else if v = 7 then ⟨#[112, 97, 116, 104, 115]⟩ else if v = 8 then ⟨#[114, 117, 108, 101, 115]⟩ else if v = 9 then ⟨#[101, 100, 103, 101, 115]⟩ else if v = 10 then ⟨#[115, 105, 122, 101]⟩ else ⟨#[]⟩
set_option maxRecDepth 100000 in
theorem rWord_any (v : Int) (w : World) : Calls Tryd.prog 15 #[.int .i64 v] w fun e w' => e = .returned (.string (wordI v)) ∧ w' = w := by
  by_cases h1 : v = 1
  · subst h1
    have hs : wordI 1 = ⟨#[103, 114, 97, 109, 109, 97, 114]⟩ := rfl
    rw [hs]
    go_enter Tryd.func15, Tryd.ntmps15
    go_wp2
    go_ret
    exact ⟨rfl, rfl⟩
  by_cases h2 : v = 2
  · subst h2
    have hs : wordI 2 = ⟨#[103, 114, 97, 112, 104]⟩ := rfl
    rw [hs]
    go_enter Tryd.func15, Tryd.ntmps15
    go_wp2
    go_ret
    exact ⟨rfl, rfl⟩
  by_cases h3 : v = 3
  · subst h3
    have hs : wordI 3 = ⟨#[110, 111, 100, 101]⟩ := rfl
    rw [hs]
    go_enter Tryd.func15, Tryd.ntmps15
    go_wp2
    go_ret
    exact ⟨rfl, rfl⟩
  by_cases h4 : v = 4
  · subst h4
    have hs : wordI 4 = ⟨#[101, 100, 103, 101]⟩ := rfl
    rw [hs]
    go_enter Tryd.func15, Tryd.ntmps15
    go_wp2
    go_ret
    exact ⟨rfl, rfl⟩
  by_cases h5 : v = 5
  · subst h5
    have hs : wordI 5 = ⟨#[113, 117, 101, 114, 121]⟩ := rfl
    rw [hs]
    go_enter Tryd.func15, Tryd.ntmps15
    go_wp2
    go_ret
    exact ⟨rfl, rfl⟩
  by_cases h6 : v = 6
  · subst h6
    have hs : wordI 6 = ⟨#[112, 97, 116, 104]⟩ := rfl
    rw [hs]
    go_enter Tryd.func15, Tryd.ntmps15
    go_wp2
    go_ret
    exact ⟨rfl, rfl⟩
  by_cases h7 : v = 7
  · subst h7
    have hs : wordI 7 = ⟨#[112, 97, 116, 104, 115]⟩ := rfl
    rw [hs]
    go_enter Tryd.func15, Tryd.ntmps15
    go_wp2
    go_ret
    exact ⟨rfl, rfl⟩
  by_cases h8 : v = 8
  · subst h8
    have hs : wordI 8 = ⟨#[114, 117, 108, 101, 115]⟩ := rfl
    rw [hs]
    go_enter Tryd.func15, Tryd.ntmps15
    go_wp2
    go_ret
    exact ⟨rfl, rfl⟩
  by_cases h9 : v = 9
  · subst h9
    have hs : wordI 9 = ⟨#[101, 100, 103, 101, 115]⟩ := rfl
    rw [hs]
    go_enter Tryd.func15, Tryd.ntmps15
    go_wp2
    go_ret
    exact ⟨rfl, rfl⟩
  by_cases h10 : v = 10
  · subst h10
    have hs : wordI 10 = ⟨#[115, 105, 122, 101]⟩ := rfl
    rw [hs]
    go_enter Tryd.func15, Tryd.ntmps15
    go_wp2
    go_ret
    exact ⟨rfl, rfl⟩
  have hs : wordI v = ⟨#[]⟩ := by unfold wordI; simp [h1, h2, h3, h4, h5, h6, h7, h8, h9, h10]
  rw [hs]
  have g1 : (v == 1) = false := by simpa using h1
  have g2 : (v == 2) = false := by simpa using h2
  have g3 : (v == 3) = false := by simpa using h3
  have g4 : (v == 4) = false := by simpa using h4
  have g5 : (v == 5) = false := by simpa using h5
  have g6 : (v == 6) = false := by simpa using h6
  have g7 : (v == 7) = false := by simpa using h7
  have g8 : (v == 8) = false := by simpa using h8
  have g9 : (v == 9) = false := by simpa using h9
  have g10 : (v == 10) = false := by simpa using h10
  clear h1 h2 h3 h4 h5 h6 h7 h8 h9 h10 hs
  go_enter Tryd.func15, Tryd.ntmps15
  go_wp2
  go_ret
  exact ⟨rfl, rfl⟩
def formI (v : Int) : ByteArray :=
  if v = 3 then ⟨#[110]⟩ else if v = 4 then ⟨#[110, 110, 110]⟩ else if v = 6 then ⟨#[110, 110, 110]⟩ else if v = 5 then ⟨#[104, 110]⟩ else if v = 7 then ⟨#[110, 110, 110, 107, 107]⟩ else ⟨#[]⟩
set_option maxRecDepth 100000 in
theorem rForm_any (v : Int) (w : World) : Calls Tryd.prog 26 #[.int .i64 v] w fun e w' => e = .returned (.string (formI v)) ∧ w' = w := by
  by_cases h3 : v = 3
  · subst h3
    have hs : formI 3 = ⟨#[110]⟩ := rfl
    rw [hs]
    go_enter Tryd.func26, Tryd.ntmps26
    go_wp2
    go_ret
    exact ⟨rfl, rfl⟩
  by_cases h4 : v = 4
  · subst h4
    have hs : formI 4 = ⟨#[110, 110, 110]⟩ := rfl
    rw [hs]
    go_enter Tryd.func26, Tryd.ntmps26
    go_wp2
    go_ret
    exact ⟨rfl, rfl⟩
  by_cases h6 : v = 6
  · subst h6
    have hs : formI 6 = ⟨#[110, 110, 110]⟩ := rfl
    rw [hs]
    go_enter Tryd.func26, Tryd.ntmps26
    go_wp2
    go_ret
    exact ⟨rfl, rfl⟩
  by_cases h5 : v = 5
  · subst h5
    have hs : formI 5 = ⟨#[104, 110]⟩ := rfl
    rw [hs]
    go_enter Tryd.func26, Tryd.ntmps26
    go_wp2
    go_ret
    exact ⟨rfl, rfl⟩
  by_cases h7 : v = 7
  · subst h7
    have hs : formI 7 = ⟨#[110, 110, 110, 107, 107]⟩ := rfl
    rw [hs]
    go_enter Tryd.func26, Tryd.ntmps26
    go_wp2
    go_ret
    exact ⟨rfl, rfl⟩
  have hs : formI v = ⟨#[]⟩ := by unfold formI; simp [h3, h4, h6, h5, h7]
  rw [hs]
  have g3 : (v == 3) = false := by simpa using h3
  have g4 : (v == 4) = false := by simpa using h4
  have g6 : (v == 6) = false := by simpa using h6
  have g5 : (v == 5) = false := by simpa using h5
  have g7 : (v == 7) = false := by simpa using h7
  clear h3 h4 h6 h5 h7 hs
  go_enter Tryd.func26, Tryd.ntmps26
  go_wp2
  go_ret
  exact ⟨rfl, rfl⟩
def howW (v : Int) : ByteArray :=
  if v = 1 then ⟨#[109, 97, 116, 114, 105, 120]⟩ else if v = 2 then ⟨#[116, 101, 110, 115, 111, 114]⟩ else if v = 3 then ⟨#[103, 108, 108]⟩ else ⟨#[]⟩
set_option maxRecDepth 100000 in
theorem rHow_any (v : Int) (w : World) : Calls Tryd.prog 28 #[.int .i64 v] w fun e w' => e = .returned (.string (howW v)) ∧ w' = w := by
  by_cases h1 : v = 1
  · subst h1
    have hs : howW 1 = ⟨#[109, 97, 116, 114, 105, 120]⟩ := rfl
    rw [hs]
    go_enter Tryd.func28, Tryd.ntmps28
    go_wp2
    go_ret
    exact ⟨rfl, rfl⟩
  by_cases h2 : v = 2
  · subst h2
    have hs : howW 2 = ⟨#[116, 101, 110, 115, 111, 114]⟩ := rfl
    rw [hs]
    go_enter Tryd.func28, Tryd.ntmps28
    go_wp2
    go_ret
    exact ⟨rfl, rfl⟩
  by_cases h3 : v = 3
  · subst h3
    have hs : howW 3 = ⟨#[103, 108, 108]⟩ := rfl
    rw [hs]
    go_enter Tryd.func28, Tryd.ntmps28
    go_wp2
    go_ret
    exact ⟨rfl, rfl⟩
  have hs : howW v = ⟨#[]⟩ := by unfold howW; simp [h1, h2, h3]
  rw [hs]
  have g1 : (v == 1) = false := by simpa using h1
  have g2 : (v == 2) = false := by simpa using h2
  have g3 : (v == 3) = false := by simpa using h3
  clear h1 h2 h3 hs
  go_enter Tryd.func28, Tryd.ntmps28
  go_wp2
  go_ret
  exact ⟨rfl, rfl⟩
/-- the verb's number: 0 for none -/
def verbI (s : ByteArray) : Int := match vbOf s with | some v => v.n | none => 0
theorem word_VT : ∀ v ∈ VT, wordI v.n = v.s ∧ 1 ≤ v.n ∧ v.n ≤ 10 := by
  intro v h
  simp only [VT, List.mem_cons, List.not_mem_nil, or_false] at h
  rcases h with rfl | rfl | rfl | rfl | rfl | rfl | rfl | rfl | rfl | rfl <;> exact ⟨rfl, by decide, by decide⟩
theorem VT_n : ∀ i, i < 10 → ∃ v, VT[i]? = some v ∧ v.n = i + 1 ∧ wordI (i + 1 : Nat) = v.s := by
  intro i hi
  match i, hi with
  | 0, _ => exact ⟨_, rfl, rfl, rfl⟩
  | 1, _ => exact ⟨_, rfl, rfl, rfl⟩
  | 2, _ => exact ⟨_, rfl, rfl, rfl⟩
  | 3, _ => exact ⟨_, rfl, rfl, rfl⟩
  | 4, _ => exact ⟨_, rfl, rfl, rfl⟩
  | 5, _ => exact ⟨_, rfl, rfl, rfl⟩
  | 6, _ => exact ⟨_, rfl, rfl, rfl⟩
  | 7, _ => exact ⟨_, rfl, rfl, rfl⟩
  | 8, _ => exact ⟨_, rfl, rfl, rfl⟩
  | 9, _ => exact ⟨_, rfl, rfl, rfl⟩
theorem verb_first {s : ByteArray} {j : Nat} (hj : j < 10) (hb : ∀ i, i < j → wordI (i + 1 : Nat) ≠ s) (h : wordI (j + 1 : Nat) = s) : verbI s = (j + 1 : Nat) := by
  obtain ⟨v, hv, hn, hw⟩ := VT_n j hj
  have hf : vbOf s = some v := by
    unfold vbOf
    rw [List.find?_eq_some_iff_getElem]
    refine ⟨by rw [← hw, h]; simp, j, (List.getElem?_eq_some_iff.1 hv).1, (List.getElem?_eq_some_iff.1 hv).2, fun i hi => ?_⟩
    obtain ⟨v2, hv2, -, hw2⟩ := VT_n i (by omega)
    have := hb i hi
    rw [(List.getElem?_eq_some_iff.1 hv2).2]
    rw [hw2] at this
    simpa using this
  unfold verbI
  rw [hf]
  simp only [hn]
theorem verb_none {s : ByteArray} (hb : ∀ i, i < 10 → wordI (i + 1 : Nat) ≠ s) : vbOf s = none ∧ verbI s = 0 := by
  have hf : vbOf s = none := by
    unfold vbOf
    rw [List.find?_eq_none]
    intro v hv
    obtain ⟨i, hi, rfl⟩ := List.getElem_of_mem hv
    obtain ⟨v2, hv2, -, hw2⟩ := VT_n i hi
    have := hb i hi
    rw [hw2, ← (List.getElem?_eq_some_iff.1 hv2).2] at this
    simpa using this
  exact ⟨hf, by unfold verbI; rw [hf]⟩
set_option maxRecDepth 100000 in
set_option maxHeartbeats 800000 in
theorem rVerb_any (s : ByteArray) (w : World) : Calls Tryd.prog 25 #[.string s] w fun e w' => e = .returned (.int .i64 (verbI s)) ∧ w' = w := by
  go_enter Tryd.func25, Tryd.ntmps25
  go_wp2_with fail
  go_loop [3] (fun i => ∃ j : Nat, i = .int .i64 (j + 1 : Nat) ∧ j ≤ 10 ∧ Hid (∀ i, i < j → wordI (i + 1 : Nat) ≠ s)) (fun i => 11 - (intOf i).toNat)
  case atStart => exact ⟨0, rfl, by omega, fun i h => by omega⟩
  case round =>
    obtain ⟨j, rfl, hj, HN⟩ := hrel
    by_cases hlt : j < 10
    · by_cases he : wordI (j + 1 : Nat) = s
      · have hv := Lib.hid (verb_first hlt HN.out he)
        have hd : ((wordI (j + 1 : Nat)).toList == s.toList) = true := by rw [he]; simp
        have HW := Lib.hid (fun w => rWord_any (j + 1 : Nat) w)
        generalize wordI (j + 1 : Nat) = wd at *
        clear he
        go_wp2_with fail
        refine (HW.out _).mono ?_
        rintro e w2 ⟨rfl, rfl⟩
        go_wp2
        go_ret
        exact ⟨by rw [hv.out]; simp, rfl⟩
      · have hd : ((wordI (j + 1 : Nat)).toList == s.toList) = false := by rw [beq_toList]; simpa using he
        have HW := Lib.hid (fun w => rWord_any (j + 1 : Nat) w)
        have HN2 : Hid (∀ i, i < j + 1 → wordI (i + 1 : Nat) ≠ s) := fun i hi => by
          by_cases h : i = j
          · subst h; exact he
          · exact HN.out i (by omega)
        generalize wordI (j + 1 : Nat) = wd at *
        clear he
        go_wp2_with fail
        refine (HW.out _).mono ?_
        rintro e w2 ⟨rfl, rfl⟩
        go_wp2
        go_round
        case rel => exact ⟨j + 1, by go_num, by omega, HN2.out⟩
        case measure => simp [intOf]; omega
    · obtain rfl : j = 10 := by omega
      have hv := Lib.hid (verb_none HN.out).2
      go_wp2
      go_ret
      exact ⟨by rw [hv.out]; rfl, rfl⟩
end Go.Proofs.YtikkfbkpgejneaaDoor
namespace Go.Proofs.YtikkfbkpgejneaaDoor
open Go.RowKit Go.Shelf

/-! ### the reference's Words and Number -/
theorem b_get (s : ByteArray) (j : Nat) (h : j < s.size) : s.data.toList[j]? = some s[j] := by
  have e : s.data.toList.length = s.size := by rw [Array.length_toList]; rfl
  rw [List.getElem?_eq_getElem (by omega)]
  rfl
theorem b_take (s : ByteArray) (j : Nat) (h : j < s.size) : s.data.toList.take (j + 1) = s.data.toList.take j ++ [s[j]] := by
  rw [List.take_add_one, b_get s j h]; rfl
theorem mkB_take (s : ByteArray) (f i : Nat) (_ : i ≤ s.size) : mkB ((s.data.toList.take i).drop f) = s.extract f i := by
  apply ByteArray.ext
  apply Array.ext'
  simp [mkB, ByteArray.data_extract, List.drop_take, Array.toList_extract]
/-- the words so far, and the one under way -/
def WdAt (s : ByteArray) (i f : Nat) (out : List ByteArray) : Prop := ∃ a : List (List UInt8), out = a.map mkB ∧ wds (s.data.toList.take i) = a ++ [(s.data.toList.take i).drop f] ∧ f ≤ i
theorem WdAt.start (s : ByteArray) : WdAt s 0 0 [] := ⟨[], rfl, rfl, Nat.le_refl _⟩
theorem WdAt.sp {s : ByteArray} {i f : Nat} {out : List ByteArray} (h : WdAt s i f out) (hi : i < s.size) (hc : s[i] = 32) : WdAt s (i + 1) (i + 1) (out ++ [s.extract f i]) := by
  obtain ⟨a, h1, h2, h3⟩ := h
  refine ⟨a ++ [(s.data.toList.take i).drop f], by rw [List.map_append, h1]; simp [mkB_take s f i (by omega)], ?_, Nat.le_refl _⟩
  rw [b_take s i hi, hc, wds_snoc_sp, h2]
  have e : s.data.toList.length = s.size := by rw [Array.length_toList]; rfl
  have : (s.data.toList.take i ++ [32]).drop (i + 1) = [] := by
    apply List.drop_eq_nil_of_le
    simp
    omega
  rw [this]
theorem WdAt.other {s : ByteArray} {i f : Nat} {out : List ByteArray} (h : WdAt s i f out) (hi : i < s.size) (hc : s[i] ≠ 32) : WdAt s (i + 1) f out := by
  obtain ⟨a, h1, h2, h3⟩ := h
  refine ⟨a, h1, ?_, by omega⟩
  rw [b_take s i hi, wds_snoc hc h2]
  have e : s.data.toList.length = s.size := by rw [Array.length_toList]; rfl
  rw [List.drop_append_of_le_length (by rw [List.length_take]; omega)]
theorem WdAt.fin {s : ByteArray} {f : Nat} {out : List ByteArray} (h : WdAt s s.size f out) : out ++ [s.extract f s.size] = words s := by
  obtain ⟨a, h1, h2, h3⟩ := h
  have e : s.data.toList.length = s.size := by rw [Array.length_toList]; rfl
  have e2 : s.data.toList.take s.size = s.data.toList := List.take_of_length_le (by omega)
  have e3 := mkB_take s f s.size (Nat.le_refl _)
  rw [e2] at h2 e3
  unfold words
  rw [h2, List.map_append, h1, ← e3]; rfl
set_option maxRecDepth 100000 in
set_option maxHeartbeats 1600000 in
theorem rWords_any (s : ByteArray) (w : World) (hs : s.size ≤ 4194304) :
    Calls Tryd.prog 24 #[.string s] w fun e w' => ∃ v, e = .returned v ∧ w'.ownsRow w.heap.size 9 1 v (words s).length (strV (words s)) ∧ Below w.heap.size w w' := by
  go_enter Tryd.func24, Tryd.ntmps24
  go_wp2_with fail
  go_loopw [3, 4, 5] (fun o fr i wr => ∃ (j f : Nat) (out : List ByteArray), i = .int .i64 j ∧ fr = .int .i64 f ∧ j ≤ s.size + 1 ∧ f ≤ j ∧ out.length ≤ j ∧ Hid (j ≤ s.size → WdAt s j f out) ∧ Hid (j = s.size + 1 → out = words s) ∧ Hid (wr.ownsRow w.heap.size 9 1 o out.length (strV out)) ∧ Hid (Below w.heap.size w wr)) (fun _ _ i _ => s.size + 1 - (intOf i).toNat)
  case atStart => exact ⟨0, 0, [], rfl, rfl, by omega, by omega, by simp, fun _ => WdAt.start s, (fun h => by omega), World.ownsRow_nil _ _ _ _, Below.refl _ _⟩
  case round =>
    obtain ⟨j, f, out, rfl, rfl, hj, hf, hol, HW, HF, HO, HB⟩ := hrel
    have hws := HB.out.size
    by_cases hle : j ≤ s.size
    · by_cases hlt : j < s.size
      · by_cases hc : s[j] = 32
        · have hd : ((s[j].toNat : Int) == 32) = true := by rw [hc]; rfl
          have hne : ((j : Int) == (s.size : Int)) = false := by rw [beq_eq_false_iff_ne]; omega
          have HW2 := Lib.hid ((HW.out hle).sp hlt hc)
          clear hc
          go_wp2_with (at_builtin; go_must (refine wpList_appG1 elemStr rfl _ _ rfl HO.out rfl (news := [.string (s.extract f j)]) rfl rfl (by intro u hu; simp at hu; subst hu; rfl) (by unfold maxLen; omega) (by omega) hws ?_); intro v' w3 hown3 hg3; have HO3 := Lib.hid hown3; have HB3 : Hid (Below w.heap.size w w3) := HB.out.grown hg3 hws (fun j hj => own_block HO.out j hj); clear hown3 hg3)
          go_roundw
          case rel => exact ⟨j + 1, j + 1, _, by go_num, by go_num, by omega, by omega, by simp; omega, fun _ => HW2.out, (fun h => by omega), by unfold Hid strV; rw [List.map_append, List.length_append]; exact HO3.out, HB3.out⟩
          case measure => simp [intOf]; omega
        · have hd : ((s[j].toNat : Int) == 32) = false := by
            rw [beq_eq_false_iff_ne]; intro h; apply hc
            have : s[j].toNat = 32 := by omega
            exact UInt8.toNat_inj.1 this
          have hne : ((j : Int) == (s.size : Int)) = false := by rw [beq_eq_false_iff_ne]; omega
          have HW2 := Lib.hid ((HW.out hle).other hlt hc)
          clear hc
          go_wp2_with fail
          go_roundw
          case rel => exact ⟨j + 1, f, out, by go_num, rfl, by omega, by omega, by omega, fun _ => HW2.out, (fun h => by omega), HO.out, HB.out⟩
          case measure => simp [intOf]; omega
      · obtain rfl : j = s.size := by omega
        have hne : ((s.size : Int) == (s.size : Int)) = true := by simp
        have HW2 := Lib.hid ((HW.out hle).fin)
        go_wp2_with (at_builtin; go_must (refine wpList_appG1 elemStr rfl _ _ rfl HO.out rfl (news := [.string (s.extract f s.size)]) rfl rfl (by intro u hu; simp at hu; subst hu; rfl) (by unfold maxLen; omega) (by omega) hws ?_); intro v' w3 hown3 hg3; have HO3 := Lib.hid hown3; have HB3 : Hid (Below w.heap.size w w3) := HB.out.grown hg3 hws (fun j hj => own_block HO.out j hj); clear hown3 hg3)
        go_roundw
        case rel => exact ⟨s.size + 1, s.size + 1, _, by go_num, by go_num, by omega, by omega, by simp; omega, (fun h => by omega), fun _ => HW2.out, by unfold Hid strV; rw [List.map_append, List.length_append]; exact HO3.out, HB3.out⟩
        case measure => simp [intOf]
    · obtain rfl : j = s.size + 1 := by omega
      have HE := Lib.hid (HF.out rfl)
      go_wp2_with fail
      go_ret
      refine ⟨_, rfl, ?_, HB.out⟩
      rw [← HE.out]; exact HO.out
theorem decFrom_app (l r : List UInt8) (acc : Nat) : Lib.decFrom acc (l ++ r) = (Lib.decFrom acc l).bind fun n => Lib.decFrom n r := by
  induction l generalizing acc with
  | nil => rfl
  | cons c l ih =>
    rw [List.cons_append]
    have e : ∀ (acc : Nat) (r : List UInt8), Lib.decFrom acc (c :: r) = match Lib.digitVal c with | some d => Lib.decFrom (acc * 10 + d) r | none => none := fun _ _ => rfl
    rw [e, e]
    cases Lib.digitVal c with
    | none => rfl
    | some d => exact ih _
def numI (s : ByteArray) : Int := match numV s.data.toList with | some n => n | none => -1
set_option maxRecDepth 100000 in
set_option maxHeartbeats 1600000 in
theorem rNumber_any (s : ByteArray) (w : World) (hs : s.size ≤ 9223372036854775807) : Calls Tryd.prog 27 #[.string s] w fun e w' => e = .returned (.int .i64 (numI s)) ∧ w' = w := by
  have hlen : s.data.toList.length = s.size := by rw [Array.length_toList]; rfl
  by_cases h1 : s.size < 1
  · have hn : numI s = -1 := by unfold numI numV; rw [if_neg (by omega)]
    rw [hn]
    clear hn hlen
    go_enter Tryd.func27, Tryd.ntmps27
    go_wp2
    go_ret
    exact ⟨rfl, rfl⟩
  · by_cases h9 : 9 < s.size
    · have hn : numI s = -1 := by unfold numI numV; rw [if_neg (by omega)]
      rw [hn]
      clear hn hlen
      go_enter Tryd.func27, Tryd.ntmps27
      go_wp2
      go_ret
      exact ⟨rfl, rfl⟩
    · have h0s : 0 < s.size := by omega
      have hhd : s.data.toList.head? = some s[0] := by rw [← b_get s 0 h0s, List.head?_eq_getElem?]
      by_cases hz : 1 < s.size ∧ s[0] = 48
      · obtain ⟨hz1, hz2⟩ := hz
        have hn : numI s = -1 := by unfold numI numV; rw [if_neg (fun h => by have := h.2.2 (by omega); rw [hhd, hz2] at this; exact this rfl)]
        have hd : ((s[0].toNat : Int) == 48) = true := by rw [hz2]; rfl
        rw [hn]
        clear hn hlen hhd hz2
        go_enter Tryd.func27, Tryd.ntmps27
        go_wp2
        go_ret
        exact ⟨rfl, rfl⟩
      · have hn : numI s = match Lib.decFrom 0 s.data.toList with | some n => (n : Int) | none => -1 := by
          unfold numI numV
          rw [if_pos ⟨by omega, by omega, fun h => by rw [hhd]; intro e; exact hz ⟨by omega, Option.some.inj e⟩⟩]
        have HN := Lib.hid hn
        have hg : (1 < s.size ∧ ((s[0].toNat : Int) == 48) = false) ∨ ¬ 1 < s.size := by
          by_cases h : 1 < s.size
          · left
            refine ⟨h, ?_⟩
            rw [beq_eq_false_iff_ne]; intro e; apply hz
            exact ⟨h, UInt8.toNat_inj.1 (show s[0].toNat = 48 by omega)⟩
          · exact .inr h
        have HL := Lib.hid hlen
        clear hn hhd hz hlen
        have main : ∀ (_ : True), Calls Tryd.prog 27 #[.string s] w fun e w' => e = .returned (.int .i64 (numI s)) ∧ w' = w := by
          intro _
          rcases hg with ⟨hg1, hg2⟩ | hg1
          all_goals
            go_enter Tryd.func27, Tryd.ntmps27
            go_wp2_with fail
            go_loop [3, 4] (fun a i => ∃ (j n : Nat), i = .int .i64 j ∧ a = .int .i64 n ∧ j ≤ s.size ∧ n < 10 ^ j ∧ Hid (Lib.decFrom 0 (s.data.toList.take j) = some n)) (fun _ i => s.size - (intOf i).toNat)
            case atStart => exact ⟨0, 0, rfl, rfl, by omega, by omega, rfl⟩
            case round =>
              obtain ⟨j, n, rfl, rfl, hj, hnb, HD⟩ := hrel
              have hpow : n < 1000000000 := Nat.lt_of_lt_of_le hnb (show 10 ^ j ≤ 10 ^ 9 from Nat.pow_le_pow_right (by omega) (by omega))
              have HNb := Lib.hid hnb
              clear hnb
              by_cases hlt : j < s.size
              · have hst : Lib.decFrom 0 (s.data.toList.take (j + 1)) = (Lib.digitVal s[j]).map fun d => n * 10 + d := by rw [b_take s j hlt, decFrom_snoc, HD.out]; rfl
                by_cases hdig : 48 ≤ s[j].toNat ∧ s[j].toNat ≤ 57
                · obtain ⟨hd1, hd2⟩ := hdig
                  have hst2 : Lib.decFrom 0 (s.data.toList.take (j + 1)) = some (n * 10 + (s[j].toNat - 48)) := by rw [hst]; unfold Lib.digitVal; rw [if_pos ⟨hd1, hd2⟩]; rfl
                  have HST := Lib.hid hst2
                  clear hst hst2
                  have k1 : ¬ ((s[j].toNat : Int) < 48) := by omega
                  have k2 : ¬ (57 < (s[j].toNat : Int)) := by omega
                  have hnb2 : n * 10 + (s[j].toNat - 48) < 10 ^ (j + 1) := by have := HNb.out; rw [Nat.pow_succ]; omega
                  have HNb2 := Lib.hid hnb2
                  clear hnb2
                  go_wp2_with fail
                  go_round
                  case rel => exact ⟨j + 1, n * 10 + (s[j].toNat - 48), by go_num, by (congr 1; omega), by omega, HNb2.out, HST.out⟩
                  case measure => simp [intOf]; omega
                · have hst2 : Lib.decFrom 0 (s.data.toList.take (j + 1)) = none := by rw [hst]; unfold Lib.digitVal; rw [if_neg hdig]; rfl
                  have hall : numI s = -1 := by
                    rw [HN.out]
                    have := decFrom_app (s.data.toList.take (j + 1)) (s.data.toList.drop (j + 1)) 0
                    rw [List.take_append_drop, hst2] at this
                    rw [this]; rfl
                  have HA := Lib.hid hall
                  clear hst hst2 hall
                  by_cases k1 : (s[j].toNat : Int) < 48
                  · go_wp2
                    go_ret
                    exact ⟨by rw [HA.out]; rfl, rfl⟩
                  · have k2 : 57 < (s[j].toNat : Int) := by omega
                    go_wp2
                    go_ret
                    exact ⟨by rw [HA.out]; rfl, rfl⟩
              · obtain rfl : j = s.size := by omega
                have hall : numI s = n := by
                  rw [HN.out]
                  have := HD.out
                  rw [List.take_of_length_le (by have := HL.out; omega)] at this
                  rw [this]
                have HA := Lib.hid hall
                clear hall
                go_wp2
                go_ret
                exact ⟨by rw [HA.out]; rfl, rfl⟩
        exact main trivial
end Go.Proofs.YtikkfbkpgejneaaDoor
namespace Go.Proofs.YtikkfbkpgejneaaDoor
open Go.RowKit Go.Shelf

/-! ### the reference's Parse: plain -/
def stepR (c : Cmd) (k : Nat) (w : ByteArray) : Option Cmd := if w = emptyB then none else stepW c k w
def readR : Cmd → List Nat → List ByteArray → Option Cmd
  | c, k :: ks, w :: ws => (stepR c k w).bind fun c => readR c ks ws
  | c, _, _ => some c
theorem contains_cons (w : ByteArray) (ws : List ByteArray) (x : ByteArray) : Lib.containsS (w :: ws) x = false ↔ w ≠ x ∧ Lib.containsS ws x = false := by
  have h1 := Lib.containsS_iff (w :: ws) x
  have h2 := Lib.containsS_iff ws x
  rw [List.mem_cons] at h1
  constructor
  · intro h
    rw [h] at h1
    have : ¬ (x = w ∨ x ∈ ws) := fun e => by have := h1.2 e; cases this
    rw [not_or] at this
    refine ⟨fun e => this.1 e.symm, ?_⟩
    cases hc : Lib.containsS ws x with
    | false => rfl
    | true => exact absurd (h2.1 hc) this.2
  · rintro ⟨h3, h4⟩
    cases hc : Lib.containsS (w :: ws) x with
    | false => rfl
    | true =>
      rcases h1.1 hc with e | e
      · exact absurd e.symm h3
      · rw [h2.2 e] at h4; cases h4
theorem readR_eq {c : Cmd} {ks : List Nat} {ws : List ByteArray} (h : ws.length = ks.length) : readR c ks ws = if Lib.containsS ws emptyB = false then readW c ks ws else none := by
  induction ks generalizing c ws with
  | nil =>
    have : ws = [] := List.length_eq_zero_iff.1 (by simpa using h)
    subst this
    rfl
  | cons k ks ih =>
    obtain ⟨w, ws, rfl⟩ := List.exists_cons_of_ne_nil (show ws ≠ [] by rintro rfl; simp at h)
    have hl : ws.length = ks.length := by simpa using h
    have hcc := contains_cons w ws emptyB
    simp only [readR, readW]
    unfold stepR
    by_cases hw : w = emptyB
    · rw [if_pos hw, if_neg (fun e => (hcc.1 e).1 hw)]; rfl
    · rw [if_neg hw]
      cases hs : stepW c k w with
      | none => simp
      | some c1 =>
        simp only [Option.bind_some]
        rw [ih hl]
        by_cases he : Lib.containsS ws emptyB = false
        · rw [if_pos he, if_pos (hcc.2 ⟨hw, he⟩)]
        · rw [if_neg he, if_neg (fun e => he (hcc.1 e).2)]
def parseR (s : ByteArray) : Cmd × Int :=
  if 2064 < s.size then (cmd0, 3) else
  match vbOf ((words s).headD emptyB) with
  | none => (cmd0, 400)
  | some v =>
    if v.t = true then (if (words s).length < 2 then (cmd0, 401) else (⟨v.n, 0, [], [], s.extract (((words s).headD emptyB).size + 1) s.size⟩, 0))
    else if (words s).length ≠ v.k.length + 1 then (cmd0, 401)
    else match readR ⟨v.n, 0, [], [], emptyB⟩ v.k (words s).tail with
      | none => (cmd0, 401)
      | some c => (c, 0)
theorem parseR_eq (s : ByteArray) : parseR s = parseC s := by
  unfold parseR parseC
  by_cases hs : 2064 < s.size
  · rw [if_pos hs, if_pos hs]
  · rw [if_neg hs, if_neg hs]
    rcases cut_sp s.data.toList with ⟨h1, h2⟩ | ⟨x, r, h1, h2, h3⟩
    · have hw : words s = [s] := by unfold words; rw [h1]; rfl
      rw [h2, hw]
      simp only [List.headD_cons, mkB_data]
      cases hv : vbOf s with
      | none => rfl
      | some v =>
        simp only
        unfold bodyC
        cases ht : v.t with
        | true => simp
        | false =>
          have e0 : wordsOf (mkB []) false = [] := rfl
          simp only [Bool.false_eq_true, if_false, List.length_singleton, List.tail_cons, e0]
          rcases hk : v.k with _ | ⟨k, ks⟩
          · rfl
          · simp
    · have hw : words s = mkB x :: words (mkB r) := by unfold words; rw [h2]; rfl
      rw [h3, hw]
      simp only [List.headD_cons]
      cases hv : vbOf (mkB x) with
      | none => rfl
      | some v =>
        simp only
        unfold bodyC
        have hx : s.extract ((mkB x).size + 1) s.size = mkB r := by
          have hss : s = mkB (x ++ 32 :: r) := by rw [← h1, mkB_data]
          rw [hss, mkB_size]
          apply ByteArray.ext; apply Array.ext'
          simp [mkB, ByteArray.data_extract, ByteArray.size]
          exact List.take_of_length_le (by omega)
        have hne := words_ne (mkB r)
        have hpos : 0 < (words (mkB r)).length := List.length_pos_iff.2 hne
        have e1 : wordsOf (mkB r) true = words (mkB r) := rfl
        cases ht : v.t with
        | true =>
          simp only [if_true, List.length_cons]
          rw [if_neg (by omega), hx]
        | false =>
          simp only [Bool.false_eq_true, if_false, List.length_cons, List.tail_cons, e1]
          by_cases hl : (words (mkB r)).length = v.k.length
          · rw [if_neg (by omega), readR_eq hl]
            by_cases hc : Lib.containsS (words (mkB r)) emptyB = false
            · rw [if_pos hc, if_pos ⟨hl, hc⟩]; cases readW ⟨v.n, 0, [], [], emptyB⟩ v.k (words (mkB r)) <;> rfl
            · rw [if_neg hc, if_neg (fun h => hc h.2)]
          · rw [if_pos (by omega), if_neg (fun h => hl h.1)]
/-- the form's bytes -/
def kB (k : Nat) : UInt8 := match k with | 0 => 104 | 1 => 110 | _ => 107
theorem form_VT : ∀ v ∈ VT, formI v.n = mkB (v.k.map kB) ∧ (v.t = true ↔ v.n ≤ 2) := by
  intro v h
  simp only [VT, List.mem_cons, List.not_mem_nil, or_false] at h
  rcases h with rfl | rfl | rfl | rfl | rfl | rfl | rfl | rfl | rfl | rfl <;> exact ⟨rfl, by decide⟩
theorem how_first : ∀ v ∈ VT, ∀ j, v.k[j]? = some 0 → j = 0 := by
  intro v h
  simp only [VT, List.mem_cons, List.not_mem_nil, or_false] at h
  intro j hj
  have hj5 : j < 6 := by
    have := (List.getElem?_eq_some_iff.1 hj).1
    rcases h with rfl | rfl | rfl | rfl | rfl | rfl | rfl | rfl | rfl | rfl <;> simp at this <;> omega
  rcases h with rfl | rfl | rfl | rfl | rfl | rfl | rfl | rfl | rfl | rfl <;> (match j, hj5 with | 0, _ => rfl | 1, _ => simp at hj | 2, _ => simp at hj | 3, _ => simp at hj | 4, _ => simp at hj | 5, _ => simp at hj)
/-- the evaluator of a word, as the reference seeks it -/
theorem how_cases (w : ByteArray) : (howI w = some 1 ∧ howW 1 = w ∧ howW 2 ≠ w ∧ howW 3 ≠ w) ∨ (howI w = some 2 ∧ howW 1 ≠ w ∧ howW 2 = w ∧ howW 3 ≠ w) ∨ (howI w = some 3 ∧ howW 1 ≠ w ∧ howW 2 ≠ w ∧ howW 3 = w) ∨ (howI w = none ∧ howW 1 ≠ w ∧ howW 2 ≠ w ∧ howW 3 ≠ w) := by
  have e1 : howW 1 = ⟨#[109, 97, 116, 114, 105, 120]⟩ := rfl
  have e2 : howW 2 = ⟨#[116, 101, 110, 115, 111, 114]⟩ := rfl
  have e3 : howW 3 = ⟨#[103, 108, 108]⟩ := rfl
  rw [e1, e2, e3]
  by_cases h1 : (⟨#[109, 97, 116, 114, 105, 120]⟩ : ByteArray) = w
  · subst h1; exact .inl ⟨by decide, rfl, by decide, by decide⟩
  · by_cases h2 : (⟨#[116, 101, 110, 115, 111, 114]⟩ : ByteArray) = w
    · subst h2; exact .inr (.inl ⟨by decide, by decide, rfl, by decide⟩)
    · by_cases h3 : (⟨#[103, 108, 108]⟩ : ByteArray) = w
      · subst h3; exact .inr (.inr (.inl ⟨by decide, by decide, by decide, rfl⟩))
      · refine .inr (.inr (.inr ⟨?_, h1, h2, h3⟩))
        unfold howI
        have : ¬ 0 ≤ Lib.idxOfS hows w := by
          rw [Lib.idxOfS_nonneg_iff]
          simp only [hows, List.mem_cons, List.not_mem_nil, or_false, not_or]
          exact ⟨fun e => h1 e.symm, fun e => h2 e.symm, fun e => h3 e.symm⟩
        rw [if_neg this]
end Go.Proofs.YtikkfbkpgejneaaDoor
namespace Go.Proofs.YtikkfbkpgejneaaDoor
open Go.RowKit Go.Shelf

theorem rparse_results (tmps : Array Value) (b2 : Nat) (cs : List Value) (w : World) (h2 : tmps.getD 2 undef = .pointer (some ⟨b2, 0, none⟩)) (k2 : CBox w b2 cs) :
    (results Tryd.f11 tmps).run Tryd.prog w = .ok (.tuple #[.agg cs.toArray, tmps.getD 3 undef]) w :=
  results_row_tmp rfl tmps w b2 27 cs.toArray (0, 0) _ h2 k2.2 Tryd.underlying27 rfl (by rw [List.size_toArray, k2.1]; kernel_rfl)
theorem cbox_set {w : World} {b : Nat} {cs : List Value} (h : CBox w b cs) (u0 u1 u2 u3 u4 : Value) :
    CBox (((((w.setCell ⟨b, 0, none⟩ u0).setCell ⟨b, 1, none⟩ u1).setCell ⟨b, 2, none⟩ u2).setCell ⟨b, 3, none⟩ u3).setCell ⟨b, 4, none⟩ u4) b [u0, u1, u2, u3, u4] := by
  obtain ⟨hl, h⟩ := h
  match cs, hl with
  | [y0, y1, y2, y3, y4], _ => exact ⟨rfl, heap_set5 h u0 u1 u2 u3 u4⟩
theorem CBox.cells {w : World} {b : Nat} (h : CBox w b zeroC) : w.cell? ⟨b, 0, none⟩ = some (.int .i64 0) ∧ w.cell? ⟨b, 1, none⟩ = some (.int .i64 0) ∧ w.cell? ⟨b, 2, none⟩ = some (.slice none 0 0) ∧ w.cell? ⟨b, 3, none⟩ = some (.slice none 0 0) ∧ w.cell? ⟨b, 4, none⟩ = some (.string ⟨#[]⟩) ∧ (∀ i, w.frozen? ⟨b, i, none⟩ = false) := by
  have hh := h.2
  refine ⟨?_, ?_, ?_, ?_, ?_, fun i => ?_⟩ <;> simp [World.cell?, World.frozen?, hh, zeroC]
theorem CBox.lt {w : World} {b : Nat} {cs : List Value} (h : CBox w b cs) : b < w.heap.size := (Array.getElem?_eq_some_iff.1 h.2).1
theorem CBox.kept {w w' : World} {b : Nat} {cs : List Value} (h : CBox w b cs) (hb : Below w.heap.size w w') : CBox w' b cs := ⟨h.1, (hb.block b h.lt).trans h.2⟩
theorem words_head (s : ByteArray) : (words s).length < 2 ∨ ((words s).headD emptyB).size + 1 ≤ s.size := by
  rcases cut_sp s.data.toList with ⟨h1, h2⟩ | ⟨x, r, h1, h2, h3⟩
  · left; unfold words; rw [h1]; simp
  · right
    have hw : words s = mkB x :: words (mkB r) := by unfold words; rw [h2]; rfl
    rw [hw, List.headD_cons, mkB_size]
    have := congrArg List.length h1
    have e : s.data.toList.length = s.size := by rw [Array.length_toList]; rfl
    simp at this; omega
theorem kept_drew {w : World} {B e size n : Nat} {v : Value} {xs : List Value} (h : w.ownsRow B e size v n xs) : w.drew.ownsRow B e size v n xs := h
theorem readR_snoc {c0 c : Cmd} {ks : List Nat} {ws : List ByteArray} {j k : Nat} {w : ByteArray} (h : readR c0 (ks.take j) (ws.take j) = some c) (hk : ks[j]? = some k) (hw : ws[j]? = some w) :
    readR c0 (ks.take (j + 1)) (ws.take (j + 1)) = stepR c k w := by
  induction j generalizing c0 ks ws with
  | zero =>
    obtain ⟨k0, ks, rfl⟩ := List.exists_cons_of_ne_nil (show ks ≠ [] by rintro rfl; simp at hk)
    obtain ⟨w0, ws, rfl⟩ := List.exists_cons_of_ne_nil (show ws ≠ [] by rintro rfl; simp at hw)
    simp at hk hw
    subst hk hw
    simp only [List.take_zero, readR, Option.some.injEq] at h
    subst h
    simp only [List.take_succ_cons, List.take_zero, readR]
    cases stepR c0 k0 w0 <;> rfl
  | succ j ih =>
    obtain ⟨k0, ks, rfl⟩ := List.exists_cons_of_ne_nil (show ks ≠ [] by rintro rfl; simp at hk)
    obtain ⟨w0, ws, rfl⟩ := List.exists_cons_of_ne_nil (show ws ≠ [] by rintro rfl; simp at hw)
    simp only [List.take_succ_cons, readR] at h ⊢
    cases hs : stepR c0 k0 w0 with
    | none => rw [hs] at h; cases h
    | some c1 =>
      rw [hs] at h
      simp only [Option.bind_some] at h ⊢
      exact ih h (by simpa using hk) (by simpa using hw)
theorem readR_fail {c0 : Cmd} {ks : List Nat} {ws : List ByteArray} {j : Nat} (h : readR c0 (ks.take j) (ws.take j) = none) : readR c0 ks ws = none := by
  induction j generalizing c0 ks ws with
  | zero => simp [readR] at h
  | succ j ih =>
    cases ks with
    | nil => simp [readR] at h
    | cons k ks =>
      cases ws with
      | nil => simp [readR] at h
      | cons w ws =>
        simp only [List.take_succ_cons, readR] at h ⊢
        cases hs : stepR c0 k w with
        | none => rfl
        | some c1 =>
          rw [hs] at h
          exact ih h
theorem stepR_len {c c' : Cmd} {k : Nat} {w : ByteArray} (h : stepR c k w = some c') : c'.ns.length ≤ c.ns.length + 1 ∧ c'.ks.length ≤ c.ks.length + 1 := by
  unfold stepR at h
  split at h
  · cases h
  · exact stepW_len h
theorem readR_len {c0 c : Cmd} {ks : List Nat} {ws : List ByteArray} (h : readR c0 ks ws = some c) : c.ns.length ≤ c0.ns.length + ks.length ∧ c.ks.length ≤ c0.ks.length + ks.length := by
  induction ks generalizing c0 ws with
  | nil => simp only [readR, Option.some.injEq] at h; subst h; exact ⟨by simp, by simp⟩
  | cons k ks ih =>
    cases ws with
    | nil => simp only [readR, Option.some.injEq] at h; subst h; exact ⟨by simp, by simp⟩
    | cons w ws =>
      simp only [readR] at h
      cases hs : stepR c0 k w with
      | none => rw [hs] at h; cases h
      | some c1 =>
        rw [hs] at h
        have := ih h
        have h2 := stepR_len hs
        simp only [List.length_cons]
        omega
set_option maxRecDepth 100000 in
set_option maxHeartbeats 16000000 in
theorem rParse_any (s : ByteArray) (w : World) (hsz : s.size ≤ 9223372036854775807) : Calls Tryd.prog 11 #[.string s] w (PRet w (parseC s)) := by
  rw [← parseR_eq]
  obtain ⟨R, hR⟩ : ∃ R, R = parseR s := ⟨_, rfl⟩
  rw [← hR]
  by_cases hs : 2064 < s.size
  · have HP : R = (cmd0, 3) := by rw [hR]; unfold parseR; rw [if_pos hs]
    rw [HP]
    clear hR HP
    go_enter Tryd.func11, Tryd.ntmps11
    go_wp2
    refine bodyPost_ret (rparse_results _ w.heap.size zeroC _ rfl ⟨rfl, heap_alloc_new w _⟩) rfl ?_
    exact ⟨below1 w _, _, rfl, _, _, rfl, World.ownsRow_nil _ _ _ _, World.ownsRow_nil _ _ _ _⟩
  · have HWs := Lib.hid (fun w => rWords_any s w (by omega))
    have hwn := words_ne s
    have hwc := words_count s
    have HSz : Hid (∀ x ∈ words s, x.size ≤ 2064) := fun x hx => Nat.le_trans (words_size hx) (by omega)
    have HR : Hid (R = match vbOf ((words s).headD emptyB) with
      | none => (cmd0, 400)
      | some v =>
        if v.t = true then (if (words s).length < 2 then (cmd0, 401) else (⟨v.n, 0, [], [], s.extract (((words s).headD emptyB).size + 1) s.size⟩, 0))
        else if (words s).length ≠ v.k.length + 1 then (cmd0, 401)
        else match readR ⟨v.n, 0, [], [], emptyB⟩ v.k (words s).tail with
          | none => (cmd0, 401)
          | some c => (c, 0)) := by unfold Hid; rw [hR]; unfold parseR; rw [if_neg hs]; all_goals rfl
    have hhd := words_head s
    clear hR
    generalize words s = ws at *
    obtain ⟨w0, wt, rfl⟩ := List.exists_cons_of_ne_nil hwn
    simp only [List.headD_cons, List.tail_cons, List.length_cons] at HR hwc hhd
    have hb0 := below1 w (.cells zeroC.toArray 27)
    have hk0 : CBox (w.alloc (.cells zeroC.toArray 27)) w.heap.size zeroC := ⟨rfl, heap_alloc_new w _⟩
    have HB0 := Lib.hid hb0
    have HK0 := Lib.hid hk0
    have HVb := Lib.hid (fun w => rVerb_any w0 w)
    clear hb0 hk0 hwn
    go_enter Tryd.func11, Tryd.ntmps11
    go_wp2_with fail
    change Calls _ _ _ (w.alloc (.cells zeroC.toArray 27)) _
    generalize w.alloc (.cells zeroC.toArray 27) = w1 at *
    refine (HWs.out _).mono ?_
    rintro e w2 ⟨v2, rfl, ho, hb⟩
    have HO := Lib.hid ho
    have HB2 := Lib.hid (HB0.out.trans (hb.mono HB0.out.size))
    have HK2 := Lib.hid (HK0.out.kept hb)
    have HRs : Hid (RdS w2 v2 (w0 :: wt)) := Rd.of_owns ho
    obtain ⟨bw, ow, cw, rfl, lw, kw, hx0⟩ := RdS.at HRs.out (i := 0) (x := w0) rfl
    have hy0 : w2.cell? ⟨bw, ow, none⟩ = some (.string w0) := by simpa using hx0
    clear ho hb HB0 HK0 HWs hx0
    go_wp2_with fail
    refine (HVb.out _).mono ?_
    rintro e w3 ⟨rfl, rfl⟩
    cases hv : vbOf w0 with
    | none =>
      have hvi : verbI w0 = 0 := by unfold verbI; rw [hv]
      rw [hvi]
      rw [hv] at HR
      obtain ⟨c0, c1, c2, c3, c4, hf⟩ := HK2.out.cells
      have f0 := hf 0; have f1 := hf 1; have f2 := hf 2; have f3 := hf 3; have f4 := hf 4
      clear hf hvi hv
      go_wp2
      refine bodyPost_ret (rparse_results _ w.heap.size _ _ rfl (cbox_set HK2.out _ _ _ _ _)) rfl ?_
      rw [HR.out]
      exact ⟨below_set5 HB2.out (Nat.le_refl _) _ _ _ _ _, _, rfl, _, _, rfl, World.ownsRow_nil _ _ _ _, World.ownsRow_nil _ _ _ _⟩
    | some v =>
      have hvi : verbI w0 = v.n := by unfold verbI; rw [hv]
      obtain ⟨hvm, -⟩ := vbOf_mem hv
      obtain ⟨hfm, htn⟩ := form_VT v hvm
      have hn1 := (word_VT v hvm).2
      rw [hvi]
      rw [hv] at HR
      simp only at HR
      obtain ⟨c0, c1, c2, c3, c4, hf⟩ := HK2.out.cells
      have f0 := hf 0; have f1 := hf 1; have f2 := hf 2; have f3 := hf 3; have f4 := hf 4
      have hlt := HK2.out.lt
      clear hf
      have hn2 : (1 : Int) ≤ (v.n : Int) := by omega
      have hne0 : ((v.n : Int) == 0) = false := by rw [beq_eq_false_iff_ne]; omega
      cases ht : v.t with
      | true =>
        have hle : (v.n : Int) ≤ 2 := by have := htn.1 ht; omega
        rw [ht] at HR
        simp only [if_true] at HR
        by_cases hl : wt.length + 1 < 2
        · rw [if_pos hl] at HR
          have hl2 : ((wt.length : Int) + 1) < 2 := by omega
          clear hv hvi hvm hfm htn
          go_wp2
          have hcb := cbox_set HK2.out (.int .i64 0) (.int .i64 0) (.slice none 0 0) (.slice none 0 0) (.string ⟨#[]⟩)
          have hbb := below_set5 HB2.out (Nat.le_refl _) (.int .i64 0) (.int .i64 0) (.slice none 0 0) (.slice none 0 0) (.string ⟨#[]⟩)
          refine bodyPost_ret (rparse_results _ w.heap.size _ _ rfl (hcb.kept (below1 _ _))) rfl ?_
          rw [HR.out]
          exact ⟨hbb.alloc hbb.size _, _, rfl, _, _, rfl, World.ownsRow_nil _ _ _ _, World.ownsRow_nil _ _ _ _⟩
        · rw [if_neg hl] at HR
          have hl2 : ¬ ((wt.length : Int) + 1) < 2 := by omega
          have hw0 : w0.size + 1 ≤ s.size := by rcases hhd with h | h; exact absurd h hl; exact h
          clear hv hvi hvm hfm htn hhd
          go_wp2
          have hcb := cbox_set HK2.out (.int .i64 v.n) (.int .i64 0) (.slice none 0 0) (.slice none 0 0) (.string (s.extract (w0.size + 1) s.size))
          have hbb := below_set5 HB2.out (Nat.le_refl _) (.int .i64 v.n) (.int .i64 0) (.slice none 0 0) (.slice none 0 0) (.string (s.extract (w0.size + 1) s.size))
          refine bodyPost_ret (rparse_results _ w.heap.size _ _ rfl (hcb.kept (below1 _ _))) rfl ?_
          rw [HR.out]
          exact ⟨hbb.alloc hbb.size _, _, rfl, _, _, rfl, World.ownsRow_nil _ _ _ _, World.ownsRow_nil _ _ _ _⟩
      | false =>
        have hle : ¬ (v.n : Int) ≤ 2 := fun h => by have := htn.2 (by omega); rw [ht] at this; cases this
        rw [ht] at HR
        simp only [Bool.false_eq_true, if_false] at HR
        obtain ⟨hk10, hk2⟩ := VT_k hvm
        have HF1 := Lib.hid (how_first v hvm)
        have HFm := Lib.hid (fun w => rForm_any v.n w)
        rw [hfm] at HFm
        have hFs : (mkB (v.k.map kB)).size = v.k.length := by rw [mkB_size, List.length_map]
        have hFb : ∀ j k, v.k[j]? = some k → ∃ h : j < (mkB (v.k.map kB)).size, (mkB (v.k.map kB))[j] = kB k := fun j k hk => by
          have hj := (List.getElem?_eq_some_iff.1 hk).1
          have h : j < (mkB (v.k.map kB)).size := by rw [hFs]; exact hj
          refine ⟨h, ?_⟩
          have := b_get _ j h
          rw [data_mkB, List.getElem?_map, hk] at this
          exact (Option.some.inj this).symm
        have HFb := Lib.hid hFb
        obtain ⟨vn, vs, vt, vk⟩ := v
        simp only at HR hk10 hk2 HF1 HFm hFs HFb hn2 hle hne0
        generalize mkB (vk.map kB) = F at *
        have HFs := Lib.hid hFs
        have hF10 : F.size ≤ 10 := by omega
        clear hv hvi hvm hfm htn hhd ht hFb hFs hn1
        have hb4 := below1 w3 (.cells #[.int .i64 vn, .int .i64 0, .slice none 0 0, .slice none 0 0, .string ⟨#[]⟩] 27)
        have HK4 := Lib.hid (HK2.out.kept hb4)
        have HB4 := Lib.hid (HB2.out.trans (hb4.mono HB2.out.size))
        have HC4 : Hid ((w3.alloc (.cells #[.int .i64 vn, .int .i64 0, .slice none 0 0, .slice none 0 0, .string ⟨#[]⟩] 27)).heap[w3.heap.size]? = some (.cells #[.int .i64 vn, .int .i64 0, .slice none 0 0, .slice none 0 0, .string ⟨#[]⟩] 27 (0, 0))) := heap_alloc_new w3 _
        have HX4 : Hid (RdS (w3.alloc (.cells #[.int .i64 vn, .int .i64 0, .slice none 0 0, .slice none 0 0, .string ⟨#[]⟩] 27)) (.slice (some ⟨bw, ow, none⟩) (w0 :: wt).length cw) (w0 :: wt)) := HRs.out.below hb4
        have hz4 : (w3.alloc (.cells #[.int .i64 vn, .int .i64 0, .slice none 0 0, .slice none 0 0, .string ⟨#[]⟩] 27)).heap.size = w3.heap.size + 1 := by simp
        clear hb4
        go_wp2_with fail
        generalize hb6 : w3.heap.size = b6 at *
        generalize w3.alloc (.cells #[.int .i64 vn, .int .i64 0, .slice none 0 0, .slice none 0 0, .string ⟨#[]⟩] 27) = w4 at *
        clear hb6 c0 c1 c2 c3 c4 f0 f1 f2 f3 f4
        refine (HFm.out _).mono ?_
        rintro e w5 ⟨rfl, rfl⟩
        obtain ⟨c0, c1, c2, c3, c4, hf⟩ := HK4.out.cells
        have f0 := hf 0; have f1 := hf 1; have f2 := hf 2; have f3 := hf 3; have f4 := hf 4
        clear hf
        have hne6 : w.heap.size ≠ b6 := by omega
        by_cases hlen : wt.length = vk.length
        · have hl2 : (((wt.length : Int) + 1) != ((F.size : Int) + 1)) = false := by rw [HFs.out, hlen]; simp
          rw [if_neg (by omega)] at HR
          have HLen := Lib.hid hlen
          clear c0 c1 c2 c3 c4 f0 f1 f2 f3 f4 hlen
          go_wp2_with fail
          go_loopw [8, 9, 10, 11] (fun i _ _ _ wr => ∃ (j : Nat) (c : Cmd), i = .int .i64 j ∧ j ≤ F.size ∧ Hid (readR ⟨vn, 0, [], [], emptyB⟩ (vk.take j) (wt.take j) = some c) ∧ Hid (∃ n1 n2, CmIn wr w5.heap.size b6 c n1 n2) ∧ Hid (KB w5.heap.size b6 w5 wr)) (fun i _ _ _ _ => F.size - (intOf i).toNat)
          case atStart => exact ⟨0, _, rfl, by omega, rfl, ⟨_, _, HC4.out, World.ownsRow_nil _ _ _ _, World.ownsRow_nil _ _ _ _⟩, KB.refl _ _ _⟩
          case round =>
            obtain ⟨j, c, rfl, hj, HRd, HCm, HKB⟩ := hrel
            have hw5 : w.heap.size ≤ w5.heap.size := HB4.out.size
            have hwr : w5.heap.size ≤ wr.heap.size := HKB.out.size
            have g6 : w.heap.size ≤ b6 := by omega
            have HBw : Hid (Below w.heap.size w wr) := HB4.out.trans (HKB.out.below hw5 g6)
            have HKc : Hid (∀ wx, KB w5.heap.size b6 w5 wx → CBox wx w.heap.size zeroC) := fun wx h => ⟨rfl, (h.block _ (by omega) hne6).trans HK4.out.2⟩
            obtain ⟨n1, n2, hcm⟩ := HCm.out
            have HCi := Lib.hid hcm
            have hlt6 := hcm.lt
            by_cases hlt : j < F.size
            · have hjk : j < vk.length := by have := HFs.out; omega
              obtain ⟨k, hkj⟩ : ∃ k, vk[j]? = some k := ⟨_, List.getElem?_eq_getElem hjk⟩
              have hjw : j < wt.length := by have := HLen.out; omega
              obtain ⟨x, hx⟩ : ∃ x, wt[j]? = some x := ⟨_, List.getElem?_eq_getElem hjw⟩
              have hxw : wr.cell? ⟨bw, ow + (j + 1), none⟩ = some (.string x) := by
                obtain ⟨bq, oq, cq, e1, l1, -, x1⟩ := RdS.at HX4.out (i := j + 1) (x := x) (by simpa using hx)
                simp only [Value.slice.injEq, Option.some.injEq, Addr.mk.injEq] at e1
                obtain ⟨⟨rfl, rfl, -⟩, -, -⟩ := e1
                exact (World.cell?_of_block (a := ⟨bw, ow + (j + 1), none⟩) (HKB.out.block bw (by omega) (by omega))).trans x1
              have hsx := HSz.out x (by simp [List.mem_of_getElem? hx])
              have HSt := Lib.hid (readR_snoc HRd.out hkj hx)
              have hk3 := hk2 k (List.mem_of_getElem? hkj)
              obtain ⟨hjF, hFj⟩ := HFb.out j k hkj
              have hjwt : (j : Int) + 1 < (wt.length : Int) + 1 := by omega
              obtain ⟨z0, z1, z2, z3, z4, zf⟩ := hcm.cells
              have hlens := readR_len HRd.out
              have hns : c.ns.length ≤ 1000 := by have := hlens.1; simp at this; omega
              have hks : c.ks.length ≤ 1000 := by have := hlens.2; simp at this; omega
              clear hlens
              rcases (show k = 0 ∨ k = 1 ∨ k = 2 by omega) with rfl | rfl | rfl
              · have hj0 : j = 0 := HF1.out j hkj
                have hch : c.h = 0 := by have := HRd.out; rw [hj0] at this; simp only [List.take_zero, readR, Option.some.injEq] at this; rw [← this]
                have hc1 : ((F[j].toNat : Int) == 110) = false := by rw [hFj]; rfl
                have hc2 : ((F[j].toNat : Int) == 107) = false := by rw [hFj]; rfl
                have hc3 : ((F[j].toNat : Int) == 104) = true := by rw [hFj]; rfl
                obtain ⟨q, hq3, hqw, hqs⟩ : ∃ q : Nat, q ≤ 3 ∧ (∀ t : Nat, t < 3 → (howW (t + 1 : Nat) = x ↔ t + 1 = q)) ∧ stepR c 0 x = if q = 0 then none else some { c with h := q } := by
                  rcases how_cases x with ⟨h0, h1, h2, h3⟩ | ⟨h0, h1, h2, h3⟩ | ⟨h0, h1, h2, h3⟩ | ⟨h0, h1, h2, h3⟩
                  · refine ⟨1, by omega, fun t ht => ?_, ?_⟩
                    · match t, ht with
                      | 0, _ => exact ⟨fun _ => rfl, fun _ => h1⟩
                      | 1, _ => exact ⟨fun h => absurd h h2, fun h => by omega⟩
                      | 2, _ => exact ⟨fun h => absurd h h3, fun h => by omega⟩
                    · unfold stepR stepW; rw [if_neg (by rw [← h1]; decide), h0]; rfl
                  · refine ⟨2, by omega, fun t ht => ?_, ?_⟩
                    · match t, ht with
                      | 0, _ => exact ⟨fun h => absurd h h1, fun h => by omega⟩
                      | 1, _ => exact ⟨fun _ => rfl, fun _ => h2⟩
                      | 2, _ => exact ⟨fun h => absurd h h3, fun h => by omega⟩
                    · unfold stepR stepW; rw [if_neg (by rw [← h2]; decide), h0]; rfl
                  · refine ⟨3, by omega, fun t ht => ?_, ?_⟩
                    · match t, ht with
                      | 0, _ => exact ⟨fun h => absurd h h1, fun h => by omega⟩
                      | 1, _ => exact ⟨fun h => absurd h h2, fun h => by omega⟩
                      | 2, _ => exact ⟨fun _ => rfl, fun _ => h3⟩
                    · unfold stepR stepW; rw [if_neg (by rw [← h3]; decide), h0]; rfl
                  · refine ⟨0, by omega, fun t ht => ?_, ?_⟩
                    · match t, ht with
                      | 0, _ => exact ⟨fun h => absurd h h1, fun h => by omega⟩
                      | 1, _ => exact ⟨fun h => absurd h h2, fun h => by omega⟩
                      | 2, _ => exact ⟨fun h => absurd h h3, fun h => by omega⟩
                    · unfold stepR stepW; rw [h0]; split <;> rfl
                have HQw := Lib.hid hqw
                have HQs := Lib.hid hqs
                have HC0 : Hid (CmIn wr w5.heap.size b6 { c with h := if q ≠ 0 ∧ q ≤ 0 then (q : Int) else 0 } n1 n2) := by
                  have e : (if q ≠ 0 ∧ q ≤ 0 then (q : Int) else 0) = c.h := by rw [if_neg (by omega), hch]
                  rw [e]; exact HCi.out
                clear hqw hqs hj0 hch hcm zf hFj z0 z1 z2 z3 z4 HCm hx hkj
                go_wp2_with fail
                go_loopw [11] (fun hh wx => ∃ t : Nat, hh = .int .i64 (t + 1 : Nat) ∧ t ≤ 3 ∧ Hid (CmIn wx w5.heap.size b6 { c with h := if q ≠ 0 ∧ q ≤ t then (q : Int) else 0 } n1 n2) ∧ Hid (KB w5.heap.size b6 w5 wx)) (fun hh _ => 4 - (intOf hh).toNat)
                case atStart => exact ⟨0, rfl, by omega, HC0.out, HKB.out⟩
                case round =>
                  obtain ⟨t, rfl, ht, HCx, HKx⟩ := hrel
                  obtain ⟨-, y1, -, -, -, yf⟩ := HCx.out.cells
                  have yf1 := yf 1
                  clear yf
                  by_cases ht3 : t < 3
                  · have HW := Lib.hid (fun w => rHow_any (t + 1 : Nat) w)
                    by_cases he : t + 1 = q
                    · have hd : ((howW (t + 1 : Nat)).toList == x.toList) = true := by rw [(HQw.out t ht3).2 he]; simp
                      have HC2 : Hid (CmIn (wr.setCell ⟨b6, 1, none⟩ (.int .i64 (t + 1 : Nat))) w5.heap.size b6 { c with h := if q ≠ 0 ∧ q ≤ t + 1 then (q : Int) else 0 } n1 n2) := by
                        rw [if_pos ⟨by omega, by omega⟩, ← he]
                        exact HCx.out.set_how
                      generalize howW (t + 1 : Nat) = hw at *
                      clear he
                      go_wp2_with fail
                      refine (HW.out _).mono ?_
                      rintro e w7 ⟨rfl, rfl⟩
                      go_wp2
                      go_roundw
                      case rel => exact ⟨t + 1, by go_num, by omega, HC2.out, HKx.out.trans (KB.set _ _ _)⟩
                      case measure => simp [intOf]; omega
                    · have hd : ((howW (t + 1 : Nat)).toList == x.toList) = false := by rw [beq_toList]; simpa using fun h => he ((HQw.out t ht3).1 h)
                      have HC2 : Hid (CmIn wr w5.heap.size b6 { c with h := if q ≠ 0 ∧ q ≤ t + 1 then (q : Int) else 0 } n1 n2) := by
                        have e : (if q ≠ 0 ∧ q ≤ t + 1 then (q : Int) else 0) = if q ≠ 0 ∧ q ≤ t then (q : Int) else 0 := by
                          by_cases h : q ≠ 0 ∧ q ≤ t
                          · rw [if_pos h, if_pos ⟨h.1, by omega⟩]
                          · rw [if_neg h, if_neg (fun h2 => h ⟨h2.1, by omega⟩)]
                        rw [e]; exact HCx.out
                      generalize howW (t + 1 : Nat) = hw at *
                      clear he
                      go_wp2_with fail
                      refine (HW.out _).mono ?_
                      rintro e w7 ⟨rfl, rfl⟩
                      go_wp2
                      go_roundw
                      case rel => exact ⟨t + 1, by go_num, by omega, HC2.out, HKx.out⟩
                      case measure => simp [intOf]; omega
                  · obtain rfl : t = 3 := by omega
                    have hcb := HKc.out wr HKx.out
                    have HCb := Lib.hid hcb
                    obtain ⟨p0, p1, p2, p3, p4, pf⟩ := hcb.cells
                    have pf0 := pf 0; have pf1 := pf 1; have pf2 := pf 2; have pf3 := pf 3; have pf4 := pf 4
                    clear pf hcb
                    by_cases hq0 : q = 0
                    · have hst : stepR c 0 x = none := by rw [HQs.out, if_pos hq0]
                      have HRn : Hid (R = (cmd0, 401)) := by unfold Hid; rw [HR.out, readR_fail (HSt.out.trans hst)]
                      have y2 : wr.cell? ⟨b6, 1, none⟩ = some (.int .i64 0) := by rw [y1]; simp [hq0]
                      clear y1 hst
                      have HQ := Lib.hid HCb.out
                      have HBq := Lib.hid (HB4.out.trans (HKx.out.below hw5 g6))
                      go_wp2
                      refine bodyPost_ret (rparse_results _ w.heap.size _ _ rfl (cbox_set HQ.out _ _ _ _ _)) rfl ?_
                      rw [HRn.out]
                      exact ⟨below_set5 HBq.out (Nat.le_refl _) _ _ _ _ _, _, rfl, _, _, rfl, World.ownsRow_nil _ _ _ _, World.ownsRow_nil _ _ _ _⟩
                    · obtain ⟨z, hz⟩ : ∃ z : Int, z = (q : Int) := ⟨_, rfl⟩
                      have hst : stepR c 0 x = some { c with h := z } := by rw [HQs.out, if_neg hq0, hz]
                      have y2 : wr.cell? ⟨b6, 1, none⟩ = some (.int .i64 z) := by rw [y1, if_pos ⟨hq0, hq3⟩, hz]
                      have hq1 : 0 < z := by omega
                      have HSt2 := Lib.hid (HSt.out.trans hst)
                      have HC2 : Hid (CmIn wr w5.heap.size b6 { c with h := z } n1 n2) := by have := HCx.out; rw [if_pos ⟨hq0, hq3⟩, ← hz] at this; exact this
                      clear y1 hst hz hq0 hq3
                      go_wp2
                      go_roundw
                      case rel => exact ⟨j + 1, _, by go_num, by omega, HSt2.out, ⟨_, _, HC2.out⟩, HKx.out⟩
                      case measure => simp [intOf]; omega
              · obtain ⟨an, cn, rfl⟩ : ∃ ao cp, n1 = .slice ao c.ns.length cp := by obtain ⟨_, ao, cp, rfl, -⟩ := Rd.of_owns hcm.names; exact ⟨ao, cp, rfl⟩
                have zf2 := zf 2
                clear hcm zf
                have hc1 : ((F[j].toNat : Int) == 110) = true := by rw [hFj]; rfl
                by_cases hxe : x = emptyB
                · have hd : x.toList.isEmpty = true := by rw [hxe, ByteArray.toList_eq]; rfl
                  have hst : stepR c 1 x = none := by unfold stepR; rw [if_pos hxe]
                  have HRn : Hid (R = (cmd0, 401)) := by unfold Hid; rw [HR.out, readR_fail (HSt.out.trans hst)]
                  clear hst hxe hFj
                  go_wp2_with (at_builtin; go_must (refine wpList_appG1 elemStr rfl _ _ rfl HCi.out.names rfl (news := [.string x]) rfl rfl (by intro u hu; simp at hu; subst hu; rfl) (by unfold maxLen; omega) (by omega) hwr ?_); intro v' w6 hown hg; obtain ⟨_, a6, c6, rfl, -⟩ := id (Rd.of_owns hown); have HO6 := Lib.hid hown; have HG6 := Lib.hid hg; have hb6 : w6.heap[b6]? = wr.heap[b6]? := hg.block b6 hlt6 (own_ne HCi.out.names HCi.out.heap (by decide)).symm; have y0 : w6.cell? ⟨b6, 2, none⟩ = _ := (World.cell?_of_block (a := ⟨b6, 2, none⟩) hb6).trans z2; have y1 : w6.frozen? ⟨b6, 2, none⟩ = false := (World.frozen?_of_block (a := ⟨b6, 2, none⟩) hb6).trans zf2; have HK6 := Lib.hid (HKB.out.trans (KB.grown (b := b6) HCi.out.names hg hwr)); obtain ⟨p0, p1, p2, p3, p4, pf⟩ := CBox.cells (HKc.out w6 (HKB.out.trans (KB.grown (b := b6) HCi.out.names hg hwr))); have pf0 := pf 0; have pf1 := pf 1; have pf2 := pf 2; have pf3 := pf 3; have pf4 := pf 4; clear pf; clear hown hg hb6)
                  have HQ := Lib.hid (HKc.out _ (HK6.out.trans (KB.set w6 2 (.slice a6 (c.ns.length + 1) c6))))
                  have HBq := Lib.hid (HB4.out.trans ((HK6.out.trans (KB.set w6 2 (.slice a6 (c.ns.length + 1) c6))).below hw5 g6))
                  refine bodyPost_ret (rparse_results _ w.heap.size _ _ rfl (cbox_set HQ.out _ _ _ _ _)) rfl ?_
                  rw [HRn.out]
                  exact ⟨below_set5 HBq.out (Nat.le_refl _) _ _ _ _ _, _, rfl, _, _, rfl, World.ownsRow_nil _ _ _ _, World.ownsRow_nil _ _ _ _⟩
                · have hd : x.toList.isEmpty = false := by
                    cases h : x.toList.isEmpty with
                    | false => rfl
                    | true => exact absurd ((toList_inj x emptyB).1 (by rw [List.isEmpty_iff.1 h, ByteArray.toList_eq]; rfl)) hxe
                  have hst : stepR c 1 x = some { c with ns := c.ns ++ [x] } := by unfold stepR; rw [if_neg hxe]; rfl
                  have HSt2 := Lib.hid (HSt.out.trans hst)
                  clear hst hxe hFj
                  go_wp2_with (at_builtin; go_must (refine wpList_appG1 elemStr rfl _ _ rfl HCi.out.names rfl (news := [.string x]) rfl rfl (by intro u hu; simp at hu; subst hu; rfl) (by unfold maxLen; omega) (by omega) hwr ?_); intro v' w6 hown hg; obtain ⟨_, a6, c6, rfl, -⟩ := id (Rd.of_owns hown); have HO6 := Lib.hid hown; have HG6 := Lib.hid hg; have hb6 : w6.heap[b6]? = wr.heap[b6]? := hg.block b6 hlt6 (own_ne HCi.out.names HCi.out.heap (by decide)).symm; have y0 : w6.cell? ⟨b6, 2, none⟩ = _ := (World.cell?_of_block (a := ⟨b6, 2, none⟩) hb6).trans z2; have y1 : w6.frozen? ⟨b6, 2, none⟩ = false := (World.frozen?_of_block (a := ⟨b6, 2, none⟩) hb6).trans zf2; have HK6 := Lib.hid (HKB.out.trans (KB.grown (b := b6) HCi.out.names hg hwr)); obtain ⟨p0, p1, p2, p3, p4, pf⟩ := CBox.cells (HKc.out w6 (HKB.out.trans (KB.grown (b := b6) HCi.out.names hg hwr))); have pf0 := pf 0; have pf1 := pf 1; have pf2 := pf 2; have pf3 := pf 3; have pf4 := pf 4; clear pf; clear hown hg hb6)
                  go_roundw
                  case rel => exact ⟨j + 1, _, by go_num, by omega, HSt2.out, ⟨_, _, HCi.out.app_names HO6.out HG6.out⟩, HK6.out.trans (KB.set _ _ _)⟩
                  case measure => simp [intOf]; omega
              · obtain ⟨an, cn, rfl⟩ : ∃ ao cp, n2 = .slice ao c.ks.length cp := by obtain ⟨_, ao, cp, rfl, -⟩ := Rd.of_owns hcm.nums; exact ⟨ao, cp, rfl⟩
                have zf3 := zf 3
                have HNum := Lib.hid (fun w => rNumber_any x w (by omega))
                clear hcm zf
                have hc1 : ((F[j].toNat : Int) == 110) = false := by rw [hFj]; rfl
                have hc2 : ((F[j].toNat : Int) == 107) = true := by rw [hFj]; rfl
                have hbo : numI x = -1 ∨ 0 ≤ numI x := by unfold numI; split; exact .inr (by omega); exact .inl rfl
                have hsn : (numI x = -1 → stepR c 2 x = none) ∧ (0 ≤ numI x → stepR c 2 x = some { c with ks := c.ks ++ [numI x] }) := by
                  unfold numI stepR stepW
                  by_cases hxe : x = emptyB
                  · subst hxe
                    have : numV emptyB.data.toList = none := by decide
                    rw [this]; exact ⟨fun _ => rfl, fun h => absurd h (by decide)⟩
                  · rw [if_neg hxe]
                    cases hn : numV x.data.toList with
                    | none => exact ⟨fun _ => rfl, fun h => absurd h (by decide)⟩
                    | some n => exact ⟨fun h => by simp at h, fun _ => rfl⟩
                generalize numI x = nx at *
                have HZ : Hid (∀ i, wr.drew.cell? i = wr.cell? i) := fun _ => rfl
                rcases hbo with rfl | hge
                · have hst := hsn.1 rfl
                  have HRn : Hid (R = (cmd0, 401)) := by unfold Hid; rw [HR.out, readR_fail (HSt.out.trans hst)]
                  clear hst hsn hFj
                  go_wp2_with fail
                  refine (HNum.out _).mono ?_
                  rintro e w7 ⟨rfl, rfl⟩
                  go_wp2_with fail
                  obtain ⟨i0, hi0, hiz, his, hib⟩ := info_parts (show (Tryd.prog.info? 3).map (fun i => (i.zero, i.size, i.bytes)) = some (some (.int .i64 0), 1, 8) by kernel_rfl)
                  go_region_law (first | ((refine step_append_lies _ (by rfl) _ _ _ (by rfl) w5.heap.size 3 i0 _ 1 8 Tryd.underlying25 hi0 hiz his hib rfl (by omega) (.slice an c.ks.length cn) c.ks.length (intV c.ks) (by rfl) (kept_drew (HCi.out.nums.alloc _)) ⟨w7.heap.size, 0, none⟩ 1 1 [.int .i64 (-1)] (by rfl) (by rfl) (World.news_of_block (cs := #[.int .i64 (-1)]) (t := 3) (fr := (0, 0)) (heap_alloc_new w7 _)) (by simp [Value.oneCell']) (by omega) (by unfold maxLen; omega) (by omega) (by simp; omega) (w7.heap.size + 1) (by simp) ?_; intro gg c6 w6 hown hg hat hltg; have HO6 := Lib.hid hown; have HG6 := Lib.hid hg; have hb6 : w6.heap[b6]? = w7.heap[b6]? := (hg.block b6 (by simp; omega) (own_ne HCi.out.nums HCi.out.heap (by decide)).symm).trans (Below.heap_alloc _ _ _ hlt6); have y0 : w6.cell? ⟨b6, 3, none⟩ = _ := (World.cell?_of_block (a := ⟨b6, 3, none⟩) hb6).trans z3; have y1 : w6.frozen? ⟨b6, 3, none⟩ = false := (World.frozen?_of_block (a := ⟨b6, 3, none⟩) hb6).trans zf3)) | (go_simp; go_at_call 27; refine (HNum.out _).mono ?_; rintro e w9 ⟨rfl, rfl⟩))
                  all_goals
                    have HKx := Lib.hid (HKB.out.trans ((KB.of_below (((below1 w7 _).drew).mono hwr)).trans (KB.grown (b := b6) (kept_drew (HCi.out.nums.alloc (.cells #[.int .i64 (-1)] 3))) HG6.out (by simp; omega))))
                    obtain ⟨p0, p1, p2, p3, p4, pf⟩ := CBox.cells (HKc.out w6 HKx.out); have pf0 := pf 0; have pf1 := pf 1; have pf2 := pf 2; have pf3 := pf 3; have pf4 := pf 4; clear pf
                    go_wp2
                    have HQ := Lib.hid (HKc.out _ (HKx.out.trans (KB.set w6 3 (.slice (some ⟨gg, 0, none⟩) (c.ks.length + 1) c6))))
                    have HBq := Lib.hid (HB4.out.trans ((HKx.out.trans (KB.set w6 3 (.slice (some ⟨gg, 0, none⟩) (c.ks.length + 1) c6))).below hw5 g6))
                    refine bodyPost_ret (rparse_results _ w.heap.size _ _ rfl (cbox_set HQ.out _ _ _ _ _)) rfl ?_
                    rw [HRn.out]
                    exact ⟨below_set5 HBq.out (Nat.le_refl _) _ _ _ _ _, _, rfl, _, _, rfl, World.ownsRow_nil _ _ _ _, World.ownsRow_nil _ _ _ _⟩
                · have hst := hsn.2 hge
                  have HSt2 := Lib.hid (HSt.out.trans hst)
                  clear hst hsn hFj
                  go_wp2_with fail
                  refine (HNum.out _).mono ?_
                  rintro e w7 ⟨rfl, rfl⟩
                  go_wp2_with fail
                  obtain ⟨i0, hi0, hiz, his, hib⟩ := info_parts (show (Tryd.prog.info? 3).map (fun i => (i.zero, i.size, i.bytes)) = some (some (.int .i64 0), 1, 8) by kernel_rfl)
                  go_region_law (first | ((refine step_append_lies _ (by rfl) _ _ _ (by rfl) w5.heap.size 3 i0 _ 1 8 Tryd.underlying25 hi0 hiz his hib rfl (by omega) (.slice an c.ks.length cn) c.ks.length (intV c.ks) (by rfl) (kept_drew (HCi.out.nums.alloc _)) ⟨w7.heap.size, 0, none⟩ 1 1 [.int .i64 nx] (by rfl) (by rfl) (World.news_of_block (cs := #[.int .i64 nx]) (t := 3) (fr := (0, 0)) (heap_alloc_new w7 _)) (by simp [Value.oneCell']) (by omega) (by unfold maxLen; omega) (by omega) (by simp; omega) (w7.heap.size + 1) (by simp) ?_; intro gg c6 w6 hown hg hat hltg; have HO6 := Lib.hid hown; have HG6 := Lib.hid hg; have hb6 : w6.heap[b6]? = w7.heap[b6]? := (hg.block b6 (by simp; omega) (own_ne HCi.out.nums HCi.out.heap (by decide)).symm).trans (Below.heap_alloc _ _ _ hlt6); have y0 : w6.cell? ⟨b6, 3, none⟩ = _ := (World.cell?_of_block (a := ⟨b6, 3, none⟩) hb6).trans z3; have y1 : w6.frozen? ⟨b6, 3, none⟩ = false := (World.frozen?_of_block (a := ⟨b6, 3, none⟩) hb6).trans zf3)) | (go_simp; go_at_call 27; refine (HNum.out _).mono ?_; rintro e w9 ⟨rfl, rfl⟩))
                  all_goals
                    have HKx := Lib.hid (HKB.out.trans ((KB.of_below (((below1 w7 _).drew).mono hwr)).trans (KB.grown (b := b6) (kept_drew (HCi.out.nums.alloc (.cells #[.int .i64 nx] 3))) HG6.out (by simp; omega))))
                    obtain ⟨p0, p1, p2, p3, p4, pf⟩ := CBox.cells (HKc.out w6 HKx.out); have pf0 := pf 0; have pf1 := pf 1; have pf2 := pf 2; have pf3 := pf 3; have pf4 := pf 4; clear pf
                    go_wp2
                    have HCi3 : Hid (CmIn (w7.alloc (.cells #[.int .i64 nx] 3)).drew w5.heap.size b6 c n1 (.slice an c.ks.length cn)) := HCi.out.kept ((below1 w7 _).drew)
                    go_roundw
                    case rel => exact ⟨j + 1, _, by go_num, by omega, HSt2.out, ⟨_, _, HCi3.out.app_nums HO6.out HG6.out⟩, HKx.out.trans (KB.set _ _ _)⟩
                    case measure => simp [intOf]; omega
            · have hjk : j = vk.length := by have := HFs.out; omega
              have hfin : readR ⟨vn, 0, [], [], emptyB⟩ vk wt = some c := by
                have := HRd.out
                rwa [hjk, List.take_of_length_le (Nat.le_refl _), List.take_of_length_le (by have := HLen.out; omega)] at this
              have HRc : Hid (R = (c, 0)) := by unfold Hid; rw [HR.out, hfin]
              obtain ⟨z0, z1, z2, z3, z4, -⟩ := hcm.cells
              obtain ⟨an, cn, rfl⟩ : ∃ ao cp, n1 = .slice ao c.ns.length cp := by obtain ⟨_, ao, cp, rfl, -⟩ := Rd.of_owns hcm.names; exact ⟨ao, cp, rfl⟩
              obtain ⟨ak, ck, rfl⟩ : ∃ ao cp, n2 = .slice ao c.ks.length cp := by obtain ⟨_, ao, cp, rfl, -⟩ := Rd.of_owns hcm.nums; exact ⟨ao, cp, rfl⟩
              have hcb := HKc.out wr HKB.out
              have HCb := Lib.hid hcb
              obtain ⟨p0, p1, p2, p3, p4, pf⟩ := hcb.cells
              have pf0 := pf 0; have pf1 := pf 1; have pf2 := pf 2; have pf3 := pf 3; have pf4 := pf 4
              clear pf hcm hcb hfin
              go_wp2
              refine bodyPost_ret (rparse_results _ w.heap.size _ _ rfl (cbox_set HCb.out _ _ _ _ _)) rfl ?_
              rw [HRc.out]
              refine ⟨below_set5 HBw.out (Nat.le_refl _) _ _ _ _ _, _, rfl, _, _, rfl, ?_, ?_⟩
              · exact own_lower (ownsRow_set5 HCi.out.names (own_ne HCi.out.names HCb.out.2 (by decide)) _ _ _ _ _) hw5
              · exact own_lower (ownsRow_set5 HCi.out.nums (own_ne HCi.out.nums HCb.out.2 (by decide)) _ _ _ _ _) hw5
        · have hl2 : (((wt.length : Int) + 1) != ((F.size : Int) + 1)) = true := by rw [bne_iff_ne, HFs.out]; omega
          rw [if_pos (by omega)] at HR
          go_wp2
          have hcb := cbox_set HK4.out (.int .i64 0) (.int .i64 0) (.slice none 0 0) (.slice none 0 0) (.string ⟨#[]⟩)
          have hbb := below_set5 HB4.out (Nat.le_refl _) (.int .i64 0) (.int .i64 0) (.slice none 0 0) (.slice none 0 0) (.string ⟨#[]⟩)
          refine bodyPost_ret (rparse_results _ w.heap.size _ _ rfl hcb) rfl ?_
          rw [HR.out]
          exact ⟨hbb, _, rfl, _, _, rfl, World.ownsRow_nil _ _ _ _, World.ownsRow_nil _ _ _ _⟩
end Go.Proofs.YtikkfbkpgejneaaDoor
namespace Go.Proofs.YtikkfbkpgejneaaDoor
open Go.RowKit Go.Shelf

/-! ### a command that reads -/
def RdCm (w : World) (v : Value) (c : Cmd) : Prop := ∃ an cn ak ck, v = .agg #[.int .i64 c.v, .int .i64 c.h, .slice an c.ns.length cn, .slice ak c.ks.length ck, .string c.t] ∧ RdS w (.slice an c.ns.length cn) c.ns ∧ RdZ w (.slice ak c.ks.length ck) c.ks
theorem RdCm.below {w w' : World} {v : Value} {c : Cmd} (h : RdCm w v c) (hb : Below w.heap.size w w') : RdCm w' v c := by
  obtain ⟨an, cn, ak, ck, e, h1, h2⟩ := h
  exact ⟨an, cn, ak, ck, e, h1.below hb, h2.below hb⟩
theorem RdCm.of_own {w : World} {B : Nat} {v : Value} {c : Cmd} (h : CmV w B c v) : RdCm w v c := by
  obtain ⟨vn, vk, rfl, h1, h2⟩ := h
  have r1 : RdS w vn c.ns := Rd.of_owns h1
  have r2 : RdZ w vk c.ks := Rd.of_owns h2
  obtain ⟨_, an, cn, rfl, -⟩ := id r1
  obtain ⟨_, ak, ck, rfl, -⟩ := id r2
  exact ⟨an, cn, ak, ck, rfl, r1, r2⟩
theorem RdS.cells {w : World} {b o c n : Nat} {l : List ByteArray} (h : RdS w (.slice (some ⟨b, o, none⟩) n c) l) : ∀ j, j < l.length → w.cell? ⟨b, o + j, none⟩ = some (.string (l.getD j ByteArray.empty)) := fun j hj => by
  obtain ⟨b', o', c', e, -, -, hx⟩ := RdS.at h (i := j) (x := l[j]) (List.getElem?_eq_getElem hj)
  simp only [Value.slice.injEq, Option.some.injEq, Addr.mk.injEq] at e
  obtain ⟨⟨rfl, rfl, -⟩, -, -⟩ := e
  rw [hx, List.getD_eq_getElem?_getD, List.getElem?_eq_getElem hj]; rfl
theorem RdZ.cells {w : World} {b o c n : Nat} {l : List Int} (h : RdZ w (.slice (some ⟨b, o, none⟩) n c) l) : ∀ j, j < l.length → w.cell? ⟨b, o + j, none⟩ = some (.int .i64 (l.getD j 0)) := fun j hj => by
  obtain ⟨b', o', c', e, -, -, hx⟩ := RdZ.at h (i := j) (x := l[j]) (List.getElem?_eq_getElem hj)
  simp only [Value.slice.injEq, Option.some.injEq, Addr.mk.injEq] at e
  obtain ⟨⟨rfl, rfl, -⟩, -, -⟩ := e
  rw [hx, List.getD_eq_getElem?_getD, List.getElem?_eq_getElem hj]; rfl
theorem eqStr_any (a1 a2 : Option Addr) (c d : Nat) (xs ys : List ByteArray) (w : World) (h1 : RdS w (.slice a1 xs.length c) xs) (h2 : RdS w (.slice a2 ys.length d) ys) (hl1 : xs.length ≤ 9223372036854775807) (hl2 : ys.length ≤ 9223372036854775807) :
    Calls Tryd.prog 31 #[.slice a1 xs.length c, .slice a2 ys.length d] w fun e w' => e = .returned (.bool (decide (xs = ys))) ∧ ∃ q, w' = w.drewN q := by
  by_cases hlen : xs.length = ys.length
  · by_cases h0 : xs.length = 0
    · have hx : xs = [] := List.length_eq_zero_iff.1 h0
      have hy : ys = [] := List.length_eq_zero_iff.1 (by omega)
      subst hx hy
      refine (Tryd.slices_Equal_string_empty a1 a2 c 0 d w (by omega)).mono ?_
      rintro e w' ⟨rfl, rfl⟩
      exact ⟨rfl, 0, rfl⟩
    · obtain ⟨b1, o1, c1, e1, -, -, -⟩ := Rd.at h1 (i := 0) (by omega)
      obtain ⟨b2, o2, c2, e2, -, -, -⟩ := Rd.at h2 (i := 0) (by omega)
      simp only [Value.slice.injEq] at e1 e2
      obtain ⟨rfl, -, rfl⟩ := e1
      obtain ⟨rfl, -, rfl⟩ := e2
      refine (Tryd.slices_Equal_string b1 o1 xs.length c b2 o2 ys.length d xs ys w (Nat.le_refl _) (Nat.le_refl _) hl1 hl2 h1.cells h2.cells).mono ?_
      rintro e w' ⟨rfl, q, rfl⟩
      rw [List.take_length, List.take_length]
      exact ⟨rfl, q, rfl⟩
  · refine (Tryd.slices_Equal_string_lens a1 a2 xs.length c ys.length d w hlen).mono ?_
    rintro e w' ⟨rfl, rfl⟩
    rw [decide_eq_false (fun h => hlen (by rw [h]))]
    exact ⟨rfl, 0, rfl⟩
theorem eqInt_any (a1 a2 : Option Addr) (c d : Nat) (xs ys : List Int) (w : World) (h1 : RdZ w (.slice a1 xs.length c) xs) (h2 : RdZ w (.slice a2 ys.length d) ys) (hl1 : xs.length ≤ 9223372036854775807) (hl2 : ys.length ≤ 9223372036854775807) :
    Calls Tryd.prog 32 #[.slice a1 xs.length c, .slice a2 ys.length d] w fun e w' => e = .returned (.bool (decide (xs = ys))) ∧ ∃ q, w' = w.drewN q := by
  by_cases hlen : xs.length = ys.length
  · by_cases h0 : xs.length = 0
    · have hx : xs = [] := List.length_eq_zero_iff.1 h0
      have hy : ys = [] := List.length_eq_zero_iff.1 (by omega)
      subst hx hy
      refine (Tryd.slices_Equal_int_empty a1 a2 c 0 d w (by omega)).mono ?_
      rintro e w' ⟨rfl, rfl⟩
      exact ⟨rfl, 0, rfl⟩
    · obtain ⟨b1, o1, c1, e1, -, -, -⟩ := Rd.at h1 (i := 0) (by omega)
      obtain ⟨b2, o2, c2, e2, -, -, -⟩ := Rd.at h2 (i := 0) (by omega)
      simp only [Value.slice.injEq] at e1 e2
      obtain ⟨rfl, -, rfl⟩ := e1
      obtain ⟨rfl, -, rfl⟩ := e2
      refine (Tryd.slices_Equal_int b1 o1 xs.length c b2 o2 ys.length d xs ys w (Nat.le_refl _) (Nat.le_refl _) hl1 hl2 h1.cells h2.cells).mono ?_
      rintro e w' ⟨rfl, q, rfl⟩
      rw [List.take_length, List.take_length]
      have e : (xs == ys) = decide (xs = ys) := by rw [Bool.eq_iff_iff]; simp
      rw [e]
      exact ⟨rfl, q, rfl⟩
  · refine (Tryd.slices_Equal_int_lens a1 a2 xs.length c ys.length d w hlen).mono ?_
    rintro e w' ⟨rfl, rfl⟩
    rw [decide_eq_false (fun h => hlen (by rw [h]))]
    exact ⟨rfl, 0, rfl⟩
structure BigC (c : Cmd) : Prop where
  ns : c.ns.length ≤ 9223372036854775807
  ks : c.ks.length ≤ 9223372036854775807
theorem cmd_ext {a b : Cmd} : a = b ↔ a.v = b.v ∧ a.h = b.h ∧ a.t = b.t ∧ a.ns = b.ns ∧ a.ks = b.ks := by
  obtain ⟨a1, a2, a3, a4, a5⟩ := a
  obtain ⟨b1, b2, b3, b4, b5⟩ := b
  simp only [Cmd.mk.injEq]
  exact ⟨fun ⟨h1, h2, h3, h4, h5⟩ => ⟨h1, h2, h5, h3, h4⟩, fun ⟨h1, h2, h3, h4, h5⟩ => ⟨h1, h2, h4, h5, h3⟩⟩
set_option maxRecDepth 100000 in
set_option maxHeartbeats 3200000 in
theorem cmSame_any (va vb : Value) (a b : Cmd) (w : World) (ha : RdCm w va a) (hb : RdCm w vb b) (ba : BigC a) (bb : BigC b) :
    Calls Tryd.prog 16 #[va, vb] w fun e w' => e = .returned (.bool (decide (a = b))) ∧ Below w.heap.size w w' := by
  obtain ⟨an, cn, ak, ck, rfl, a1, a2⟩ := ha
  obtain ⟨bn, dn, bk, dk, rfl, b1, b2⟩ := hb
  obtain ⟨ans, aks⟩ := ba
  obtain ⟨bns, bks⟩ := bb
  have HE1 := Lib.hid (fun wx (h : Below w.heap.size w wx) => eqStr_any an bn cn dn a.ns b.ns wx (a1.below h) (b1.below h) ans bns)
  have HE2 := Lib.hid (fun wx (h : Below w.heap.size w wx) => eqInt_any ak bk ck dk a.ks b.ks wx (a2.below h) (b2.below h) aks bks)
  have HX := Lib.hid (@cmd_ext a b)
  clear a1 a2 b1 b2 ans aks bns bks
  obtain ⟨av, ah, ans, aks, at'⟩ := a
  obtain ⟨bv, bh, bns, bks, bt⟩ := b
  simp only at HE1 HE2 HX
  obtain ⟨d, hd⟩ : ∃ d, d = decide ((⟨av, ah, ans, aks, at'⟩ : Cmd) = ⟨bv, bh, bns, bks, bt⟩) := ⟨_, rfl⟩
  rw [← hd]
  have HD := Lib.hid hd
  clear hd
  simp only
  by_cases h1 : av = bv
  · by_cases h2 : ah = bh
    · by_cases h3 : at' = bt
      · have k1 : (av == bv) = true := by simpa using h1
        have k2 : (ah == bh) = true := by simpa using h2
        have k3 : (at'.toList == bt.toList) = true := by rw [h3]; simp
        have H1 := Lib.hid h1
        have H2 := Lib.hid h2
        have H3 := Lib.hid h3
        clear h1 h2 h3
        go_enter Tryd.func16, Tryd.ntmps16
        go_wp2_with fail
        refine (HE1.out _ (below2 w _ _)).mono ?_
        rintro e w2 ⟨rfl, q, rfl⟩
        have HB2 := Lib.hid (below_drewN (below2 w (.cells #[.int .i64 av, .int .i64 ah, .slice an ans.length cn, .slice ak aks.length ck, .string at'] 27) (.cells #[.int .i64 bv, .int .i64 bh, .slice bn bns.length dn, .slice bk bks.length dk, .string bt] 27)) q)
        by_cases h4 : ans = bns
        · rw [decide_eq_true h4]
          have H4 := Lib.hid h4
          clear h4
          go_wp2_with fail
          refine (HE2.out _ HB2.out).mono ?_
          rintro e w3 ⟨rfl, q3, rfl⟩
          have HB3 := Lib.hid (below_drewN HB2.out q3)
          have HF : Hid (d = decide (aks = bks)) := by
            unfold Hid; rw [HD.out, decide_eq_decide]
            exact ⟨fun h => (HX.out.1 h).2.2.2.2, fun h => HX.out.2 ⟨H1.out, H2.out, H3.out, H4.out, h⟩⟩
          generalize decide (aks = bks) = d2 at *
          go_wp2_with fail
          go_ret
          exact ⟨by rw [HF.out]; rfl, by have := HB3.out; rwa [World.drewN_drewN] at this⟩
        · rw [decide_eq_false h4]
          have HF : Hid (d = false) := by unfold Hid; rw [HD.out, decide_eq_false (fun h => h4 ((HX.out.1 h).2.2.2.1))]
          clear h4
          go_wp2_with fail
          go_ret
          exact ⟨by rw [HF.out]; rfl, HB2.out⟩
      · have k1 : (av == bv) = true := by simpa using h1
        have k2 : (ah == bh) = true := by simpa using h2
        have k3 : (at'.toList == bt.toList) = false := by rw [beq_toList]; simpa using h3
        clear h1 h2
        have HF : Hid (d = false) := by unfold Hid; rw [HD.out, decide_eq_false (fun h => h3 ((HX.out.1 h).2.2.1))]
        clear h3
        go_enter Tryd.func16, Tryd.ntmps16
        go_wp2
        go_ret
        exact ⟨by rw [HF.out]; rfl, below2 w _ _⟩
    · have k1 : (av == bv) = true := by simpa using h1
      have k2 : (ah == bh) = false := by simpa using h2
      clear h1
      have HF : Hid (d = false) := by unfold Hid; rw [HD.out, decide_eq_false (fun h => h2 ((HX.out.1 h).2.1))]
      clear h2
      go_enter Tryd.func16, Tryd.ntmps16
      go_wp2
      go_ret
      exact ⟨by rw [HF.out]; rfl, below2 w _ _⟩
  · have k1 : (av == bv) = false := by simpa using h1
    have HF : Hid (d = false) := by unfold Hid; rw [HD.out, decide_eq_false (fun h => h1 ((HX.out.1 h).1))]
    clear h1
    go_enter Tryd.func16, Tryd.ntmps16
    go_wp2
    go_ret
    exact ⟨by rw [HF.out]; rfl, below2 w _ _⟩
set_option maxRecDepth 100000 in
set_option maxHeartbeats 6400000 in
theorem rSame_any (va vb : Value) (a b : Cmd) (w : World) (ha : RdCm w va a) (hb : RdCm w vb b) (ba : BigC a) (bb : BigC b) :
    Calls Tryd.prog 13 #[va, vb] w fun e w' => e = .returned (.bool (decide (a = b))) ∧ Below w.heap.size w w' := by
  obtain ⟨an, cn, ak, ck, rfl, a1, a2⟩ := ha
  obtain ⟨bn, dn, bk, dk, rfl, b1, b2⟩ := hb
  obtain ⟨q1, q2⟩ := ba
  obtain ⟨q3, q4⟩ := bb
  have HX := Lib.hid (@cmd_ext a b)
  have HBa := Lib.hid (⟨q1, q2, q3, q4⟩ : _ ∧ _ ∧ _ ∧ _)
  clear q1 q2 q3 q4
  obtain ⟨av, ah, ans, aks, at'⟩ := a
  obtain ⟨bv, bh, bns, bks, bt⟩ := b
  simp only at a1 a2 b1 b2 HX HBa
  have A1 := Lib.hid a1
  have A2 := Lib.hid a2
  have B1 := Lib.hid b1
  have B2 := Lib.hid b2
  clear a1 a2 b1 b2
  obtain ⟨d, hd⟩ : ∃ d, d = decide ((⟨av, ah, ans, aks, at'⟩ : Cmd) = ⟨bv, bh, bns, bks, bt⟩) := ⟨_, rfl⟩
  rw [← hd]
  have HD := Lib.hid hd
  clear hd
  simp only
  by_cases h1 : av = bv
  · by_cases h2 : ah = bh
    · by_cases h3 : at' = bt
      · by_cases h4 : ans.length = bns.length
        · by_cases h5 : aks.length = bks.length
          · have k1 : (av != bv) = false := by simpa using h1
            have k2 : (ah != bh) = false := by simpa using h2
            have k3 : (at'.toList == bt.toList) = true := by rw [h3]; simp
            have k4 : ((ans.length : Int) != bns.length) = false := by rw [h4]; simp
            have k5 : ((aks.length : Int) != bks.length) = false := by rw [h5]; simp
            have H1 := Lib.hid h1
            have H2 := Lib.hid h2
            have H3 := Lib.hid h3
            have H4 := Lib.hid h4
            have H5 := Lib.hid h5
            obtain ⟨ans', aks', -, -⟩ := HBa.out
            clear h1 h2 h3 h4 h5
            go_enter Tryd.func13, Tryd.ntmps13
            go_wp2_with fail
            have hc0 := (w.alloc (.cells #[.int .i64 av, .int .i64 ah, .slice an ans.length cn, .slice ak aks.length ck, .string at'] 27))
            generalize hw2 : (w.alloc (.cells #[.int .i64 av, .int .i64 ah, .slice an ans.length cn, .slice ak aks.length ck, .string at'] 27)).alloc (.cells #[.int .i64 bv, .int .i64 bh, .slice bn bns.length dn, .slice bk bks.length dk, .string bt] 27) = w2 at *
            have hb2 : Below w.heap.size w w2 := by rw [← hw2]; exact below2 w _ _
            have ha2 : w2.heap[w.heap.size]? = some (.cells #[.int .i64 av, .int .i64 ah, .slice an ans.length cn, .slice ak aks.length ck, .string at'] 27 (0, 0)) := by rw [← hw2]; exact (Below.heap_alloc _ _ _ (by simp)).trans (heap_alloc_new w _)
            have hbb2 : w2.heap[w.heap.size + 1]? = some (.cells #[.int .i64 bv, .int .i64 bh, .slice bn bns.length dn, .slice bk bks.length dk, .string bt] 27 (0, 0)) := by rw [← hw2]; simpa using heap_alloc_new (w.alloc (.cells #[.int .i64 av, .int .i64 ah, .slice an ans.length cn, .slice ak aks.length ck, .string at'] 27)) (.cells #[.int .i64 bv, .int .i64 bh, .slice bn bns.length dn, .slice bk bks.length dk, .string bt] 27)
            clear hw2 hc0
            have HB2 := Lib.hid hb2
            have HA2 := Lib.hid ha2
            have HBB2 := Lib.hid hbb2
            clear hb2 ha2 hbb2
            go_loopw [5] (fun i wr => ∃ j : Nat, i = .int .i64 j ∧ j ≤ ans.length ∧ Hid (∀ q, q < j → ans[q]? = bns[q]?) ∧ Hid (∃ m, wr = w2.drewN m)) (fun i _ => ans.length - (intOf i).toNat)
            case atStart => exact ⟨0, rfl, by omega, fun q h => by omega, ⟨0, rfl⟩⟩
            case round =>
              obtain ⟨j, rfl, hj, HQ, HW⟩ := hrel
              have HC : Hid (∀ a, wr.cell? a = w2.cell? a) := by obtain ⟨m, rfl⟩ := HW.out; exact fun a => rfl
              have y2 : wr.cell? ⟨w.heap.size, 2, none⟩ = some (.slice an ans.length cn) := (HC.out _).trans (by have := HA2.out; simp [World.cell?, this])
              have z2 : wr.cell? ⟨w.heap.size + 1, 2, none⟩ = some (.slice bn bns.length dn) := (HC.out _).trans (by have := HBB2.out; simp [World.cell?, this])
              by_cases hlt : j < ans.length
              · have hltb : j < bns.length := by have := H4.out; omega
                obtain ⟨x, hx⟩ : ∃ x, ans[j]? = some x := ⟨_, List.getElem?_eq_getElem hlt⟩
                obtain ⟨y, hy⟩ : ∃ y, bns[j]? = some y := ⟨_, List.getElem?_eq_getElem hltb⟩
                obtain ⟨b1, o1, c1, e1, l1, g1, x1⟩ := RdS.at A1.out hx
                obtain ⟨b2, o2, c2, e2, l2, g2, x2⟩ := RdS.at B1.out hy
                simp only [Value.slice.injEq] at e1 e2
                obtain ⟨rfl, -, rfl⟩ := e1
                obtain ⟨rfl, -, rfl⟩ := e2
                have X1 : wr.cell? ⟨b1, o1 + j, none⟩ = some (.string x) := (HC.out _).trans ((HB2.out.cell (p := ⟨b1, _, none⟩) l1).trans x1)
                have X2 : wr.cell? ⟨b2, o2 + j, none⟩ = some (.string y) := (HC.out _).trans ((HB2.out.cell (p := ⟨b2, _, none⟩) l2).trans x2)
                have HXj := Lib.hid hx
                have HYj := Lib.hid hy
                clear x1 x2 hx hy
                by_cases he : x = y
                · have hd : (x.toList == y.toList) = true := by rw [he]; simp
                  have HE : Hid (ans[j]? = bns[j]?) := by unfold Hid; rw [HXj.out, HYj.out, he]
                  clear he
                  go_wp2_with fail
                  go_quiet (fail)
                  go_wp2_with fail
                  go_roundw
                  case rel =>
                    refine ⟨j + 1, by go_num, by omega, ?_, (by obtain ⟨m, hm⟩ := HW.out; exact ⟨m + nq, by rw [hm, World.drewN_drewN]⟩)⟩
                    intro q hq
                    by_cases h : q = j
                    · subst h; exact HE.out
                    · exact HQ.out q (by omega)
                  case measure => simp [intOf]; omega
                · have hd : (x.toList == y.toList) = false := by rw [beq_toList]; simpa using he
                  have HF : Hid (d = false) := by
                    unfold Hid; rw [HD.out, decide_eq_false]
                    intro h
                    apply he
                    have := (HX.out.1 h).2.2.2.1
                    have h2 := HXj.out
                    rw [this, HYj.out] at h2
                    exact (Option.some.inj h2).symm
                  clear he
                  go_wp2_with fail
                  go_quiet (fail)
                  go_wp2_with fail
                  go_ret
                  exact ⟨by rw [HF.out]; rfl, by obtain ⟨m, hm⟩ := HW.out; rw [hm]; exact below_drewN (below_drewN HB2.out m) nq⟩
              · have HNs : Hid (ans = bns) := by
                  unfold Hid
                  apply List.ext_getElem?
                  intro q
                  by_cases h : q < j
                  · exact HQ.out q h
                  · rw [List.getElem?_eq_none (by omega), List.getElem?_eq_none (by have := H4.out; omega)]
                go_wp2_with fail
                go_loopw [6] (fun i wq => ∃ j : Nat, i = .int .i64 j ∧ j ≤ aks.length ∧ Hid (∀ q, q < j → aks[q]? = bks[q]?) ∧ Hid (∃ m, wq = w2.drewN m)) (fun i _ => aks.length - (intOf i).toNat)
                case atStart => exact ⟨0, rfl, by omega, fun q h => by omega, HW.out⟩
                case round =>
                  clear y2 z2 HC HW HQ
                  obtain ⟨l, rfl, hlj, HQ, HW⟩ := hrel
                  have HC : Hid (∀ a, wr.cell? a = w2.cell? a) := by obtain ⟨m, rfl⟩ := HW.out; exact fun a => rfl
                  have y3 : wr.cell? ⟨w.heap.size, 3, none⟩ = some (.slice ak aks.length ck) := (HC.out _).trans (by have := HA2.out; simp [World.cell?, this])
                  have z3 : wr.cell? ⟨w.heap.size + 1, 3, none⟩ = some (.slice bk bks.length dk) := (HC.out _).trans (by have := HBB2.out; simp [World.cell?, this])
                  by_cases hlt3 : l < aks.length
                  · have hltb : l < bks.length := by have := H5.out; omega
                    obtain ⟨x, hx⟩ : ∃ x, aks[l]? = some x := ⟨_, List.getElem?_eq_getElem hlt3⟩
                    obtain ⟨y, hy⟩ : ∃ y, bks[l]? = some y := ⟨_, List.getElem?_eq_getElem hltb⟩
                    obtain ⟨b1, o1, c1, e1, l1, g1, x1⟩ := RdZ.at A2.out hx
                    obtain ⟨b2, o2, c2, e2, l2, g2, x2⟩ := RdZ.at B2.out hy
                    simp only [Value.slice.injEq] at e1 e2
                    obtain ⟨rfl, -, rfl⟩ := e1
                    obtain ⟨rfl, -, rfl⟩ := e2
                    have X1 : wr.cell? ⟨b1, o1 + l, none⟩ = some (.int .i64 x) := (HC.out _).trans ((HB2.out.cell (p := ⟨b1, _, none⟩) l1).trans x1)
                    have X2 : wr.cell? ⟨b2, o2 + l, none⟩ = some (.int .i64 y) := (HC.out _).trans ((HB2.out.cell (p := ⟨b2, _, none⟩) l2).trans x2)
                    have HXj := Lib.hid hx
                    have HYj := Lib.hid hy
                    clear x1 x2 hx hy
                    by_cases he : x = y
                    · have hd : (x != y) = false := by rw [he]; simp
                      have HE : Hid (aks[l]? = bks[l]?) := by unfold Hid; rw [HXj.out, HYj.out, he]
                      clear he
                      go_wp2_with fail
                      go_quiet (fail)
                      go_wp2_with fail
                      go_roundw
                      case rel =>
                        refine ⟨l + 1, by go_num, by omega, ?_, (by obtain ⟨m, hm⟩ := HW.out; exact ⟨m + nq, by rw [hm, World.drewN_drewN]⟩)⟩
                        intro q hq
                        by_cases h : q = l
                        · subst h; exact HE.out
                        · exact HQ.out q (by omega)
                      case measure => simp [intOf]; omega
                    · have hd : (x != y) = true := by simpa using he
                      have HF : Hid (d = false) := by
                        unfold Hid; rw [HD.out, decide_eq_false]
                        intro h
                        apply he
                        have := (HX.out.1 h).2.2.2.2
                        have h2 := HXj.out
                        rw [this, HYj.out] at h2
                        exact (Option.some.inj h2).symm
                      clear he
                      go_wp2_with fail
                      go_quiet (fail)
                      go_wp2_with fail
                      go_ret
                      exact ⟨by rw [HF.out]; rfl, by obtain ⟨m, hm⟩ := HW.out; rw [hm]; exact below_drewN (below_drewN HB2.out m) nq⟩
                  · have HNz : Hid (aks = bks) := by
                      unfold Hid
                      apply List.ext_getElem?
                      intro q
                      by_cases h : q < l
                      · exact HQ.out q h
                      · rw [List.getElem?_eq_none (by omega), List.getElem?_eq_none (by have := H5.out; omega)]
                    have HF : Hid (d = true) := by unfold Hid; rw [HD.out, decide_eq_true (HX.out.2 ⟨H1.out, H2.out, H3.out, HNs.out, HNz.out⟩)]
                    go_wp2_with fail
                    go_ret
                    exact ⟨by rw [HF.out]; rfl, by obtain ⟨m, hm⟩ := HW.out; rw [hm]; exact below_drewN HB2.out m⟩
          · have k1 : (av != bv) = false := by simpa using h1
            have k2 : (ah != bh) = false := by simpa using h2
            have k3 : (at'.toList == bt.toList) = true := by rw [h3]; simp
            have k4 : ((ans.length : Int) != bns.length) = false := by rw [h4]; simp
            have k5 : ((aks.length : Int) != bks.length) = true := by rw [bne_iff_ne]; omega
            clear h1 h2 h3 h4
            have HF : Hid (d = false) := by unfold Hid; rw [HD.out, decide_eq_false (fun h => h5 (by rw [(HX.out.1 h).2.2.2.2]))]
            clear h5
            go_enter Tryd.func13, Tryd.ntmps13
            go_wp2
            go_ret
            exact ⟨by rw [HF.out]; rfl, below2 w _ _⟩
        · have k1 : (av != bv) = false := by simpa using h1
          have k2 : (ah != bh) = false := by simpa using h2
          have k3 : (at'.toList == bt.toList) = true := by rw [h3]; simp
          have k4 : ((ans.length : Int) != bns.length) = true := by rw [bne_iff_ne]; omega
          clear h1 h2 h3
          have HF : Hid (d = false) := by unfold Hid; rw [HD.out, decide_eq_false (fun h => h4 (by rw [(HX.out.1 h).2.2.2.1]))]
          clear h4
          go_enter Tryd.func13, Tryd.ntmps13
          go_wp2
          go_ret
          exact ⟨by rw [HF.out]; rfl, below2 w _ _⟩
      · have k1 : (av != bv) = false := by simpa using h1
        have k2 : (ah != bh) = false := by simpa using h2
        have k3 : (at'.toList == bt.toList) = false := by rw [beq_toList]; simpa using h3
        clear h1 h2
        have HF : Hid (d = false) := by unfold Hid; rw [HD.out, decide_eq_false (fun h => h3 ((HX.out.1 h).2.2.1))]
        clear h3
        go_enter Tryd.func13, Tryd.ntmps13
        go_wp2
        go_ret
        exact ⟨by rw [HF.out]; rfl, below2 w _ _⟩
    · have k1 : (av != bv) = false := by simpa using h1
      have k2 : (ah != bh) = true := by simpa using h2
      clear h1
      have HF : Hid (d = false) := by unfold Hid; rw [HD.out, decide_eq_false (fun h => h2 ((HX.out.1 h).2.1))]
      clear h2
      go_enter Tryd.func13, Tryd.ntmps13
      go_wp2
      go_ret
      exact ⟨by rw [HF.out]; rfl, below2 w _ _⟩
  · have k1 : (av != bv) = true := by simpa using h1
    have HF : Hid (d = false) := by unfold Hid; rw [HD.out, decide_eq_false (fun h => h1 ((HX.out.1 h).1))]
    clear h1
    go_enter Tryd.func13, Tryd.ntmps13
    go_wp2
    go_ret
    exact ⟨by rw [HF.out]; rfl, below2 w _ _⟩
end Go.Proofs.YtikkfbkpgejneaaDoor
namespace Go.Proofs.YtikkfbkpgejneaaDoor
open Go.RowKit Go.Shelf

theorem head_one : parseC ⟨#[110, 111, 100, 101, 32, 97]⟩ = (⟨3, 0, [⟨#[97]⟩], [], ⟨#[]⟩⟩, 0) := by kernel_rfl
theorem head_two : parseC ⟨#[]⟩ = (cmd0, 400) := by kernel_rfl
theorem PRet.read {w : World} {x : Cmd × Int} {e : Ending} {w' : World} (h : PRet w x e w') : Below w.heap.size w w' ∧ ∃ an cn ak ck, e = .returned (.tuple #[.agg #[.int .i64 x.1.v, .int .i64 x.1.h, .slice an x.1.ns.length cn, .slice ak x.1.ks.length ck, .string x.1.t], .int .i64 x.2]) ∧
    RdS w' (.slice an x.1.ns.length cn) x.1.ns ∧ RdZ w' (.slice ak x.1.ks.length ck) x.1.ks := by
  obtain ⟨hb, v, rfl, hc⟩ := h
  obtain ⟨an, cn, ak, ck, rfl, h1, h2⟩ := RdCm.of_own hc
  exact ⟨hb, an, cn, ak, ck, rfl, h1, h2⟩
set_option maxRecDepth 100000 in
set_option maxHeartbeats 1600000 in
theorem head_any (w : World) (hg : Gb w) : Calls Tryd.prog 12 #[] w fun e w' => e = .returned (.bool true) ∧ Below w.heap.size w w' := by
  have h8 := hg.sz
  have HG := Lib.hid hg
  have HP1 := Lib.hid (fun w hg => parse_any ⟨#[110, 111, 100, 101, 32, 97]⟩ w hg)
  have HP2 := Lib.hid (fun w hg => parse_any ⟨#[]⟩ w hg)
  rw [head_one] at HP1
  rw [head_two] at HP2
  clear hg
  go_enter Tryd.func12, Tryd.ntmps12
  go_wp2_with fail
  refine (HP1.out _ HG.out).mono ?_
  intro e w1 hp
  obtain ⟨hb1, an, cn, ak, ck, rfl, hrs, -⟩ := hp.read
  obtain ⟨b1, o1, c1, e1, l1, g1, x1⟩ := RdS.at hrs (i := 0) (x := ⟨#[97]⟩) rfl
  simp only [Value.slice.injEq] at e1
  obtain ⟨rfl, -, rfl⟩ := e1
  clear hp hrs
  have x2 : w1.cell? ⟨b1, o1, none⟩ = some (.string ⟨#[97]⟩) := by simpa using x1
  clear x1
  have HB1 := Lib.hid hb1
  clear hb1
  go_wp2_with fail
  have hws := HB1.out.size
  have hg2 : Gb (w1.alloc (.cells #[.int .i64 3, .int .i64 0, .slice (some ⟨b1, o1, none⟩) 1 cn, .slice ak 0 ck, .string ⟨#[]⟩] 27)) := (HG.out.below (B := w.heap.size) h8 HB1.out).below (B := w.heap.size) h8 ((below1 w1 _).mono hws)
  have hh : (w1.alloc (.cells #[.int .i64 3, .int .i64 0, .slice (some ⟨b1, o1, none⟩) 1 cn, .slice ak 0 ck, .string ⟨#[]⟩] 27)).heap[w1.heap.size]? = some (.cells #[.int .i64 3, .int .i64 0, .slice (some ⟨b1, o1, none⟩) 1 cn, .slice ak 0 ck, .string ⟨#[]⟩] 27 (0, 0)) := heap_alloc_new w1 _
  have hx : (w1.alloc (.cells #[.int .i64 3, .int .i64 0, .slice (some ⟨b1, o1, none⟩) 1 cn, .slice ak 0 ck, .string ⟨#[]⟩] 27)).cell? ⟨b1, o1, none⟩ = some (.string ⟨#[97]⟩) := (World.cell?_of_block (a := ⟨b1, o1, none⟩) (Below.heap_alloc w1 _ b1 l1)).trans x2
  have hl : b1 < (w1.alloc (.cells #[.int .i64 3, .int .i64 0, .slice (some ⟨b1, o1, none⟩) 1 cn, .slice ak 0 ck, .string ⟨#[]⟩] 27)).heap.size := by simp; omega
  have HB2 : Hid (Below w.heap.size w (w1.alloc (.cells #[.int .i64 3, .int .i64 0, .slice (some ⟨b1, o1, none⟩) 1 cn, .slice ak 0 ck, .string ⟨#[]⟩] 27))) := HB1.out.alloc hws _
  have HG2 := Lib.hid hg2
  have HH := Lib.hid hh
  have HX := Lib.hid hx
  have HL := Lib.hid hl
  clear hg2 hh hx hl x2
  change Calls _ _ _ (w1.alloc (.cells #[.int .i64 3, .int .i64 0, .slice (some ⟨b1, o1, none⟩) 1 cn, .slice ak 0 ck, .string ⟨#[]⟩] 27)) _
  generalize hbb : w1.heap.size = bb at *
  generalize w1.alloc (.cells #[.int .i64 3, .int .i64 0, .slice (some ⟨b1, o1, none⟩) 1 cn, .slice ak 0 ck, .string ⟨#[]⟩] 27) = w2 at *
  clear hbb
  refine (HP2.out _ HG2.out).mono ?_
  intro e w3 hp
  obtain ⟨hb3, an3, cn3, ak3, ck3, rfl, -, -⟩ := hp.read
  clear hp
  have HB3 := Lib.hid (HB2.out.trans (hb3.mono HB2.out.size))
  have hh3 : w3.heap[bb]? = _ := (hb3.block _ (Array.getElem?_eq_some_iff.1 HH.out).1).trans HH.out
  have hx3 : w3.cell? ⟨b1, o1, none⟩ = some (.string ⟨#[97]⟩) := (hb3.cell (p := ⟨b1, o1, none⟩) HL.out).trans HX.out
  have hbl : bb < w3.heap.size := (Array.getElem?_eq_some_iff.1 hh3).1
  have hbl1 : b1 < w3.heap.size := Nat.lt_of_lt_of_le HL.out hb3.size
  have q0 : w3.cell? ⟨bb, 0, none⟩ = some (.int .i64 3) := by simp [World.cell?, hh3]
  have q2 : w3.cell? ⟨bb, 2, none⟩ = some (.slice (some ⟨b1, o1, none⟩) 1 cn) := by simp [World.cell?, hh3]
  clear hb3 hh3
  go_wp2_with fail
  go_ret
  exact ⟨rfl, HB3.out.alloc HB3.out.size _⟩
theorem bodyC_len {v : Vb} (hv : v ∈ VT) {r : ByteArray} {m : Bool} {c : Cmd} (h : bodyC v r m = some c) : c.ns.length ≤ 10 ∧ c.ks.length ≤ 10 := by
  have hk := (VT_k hv).1
  unfold bodyC at h
  split at h
  · split at h
    · simp only [Option.some.injEq] at h; subst h; exact ⟨by simp, by simp⟩
    · cases h
  · split at h
    · have := readW_len h
      simp at this
      omega
    · cases h
theorem parseC_len (s : ByteArray) : (parseC s).1.ns.length ≤ 10 ∧ (parseC s).1.ks.length ≤ 10 := by
  unfold parseC
  split
  · exact ⟨by decide, by decide⟩
  · cases hv : vbOf (mkB (Lib.cut s.data.toList [32]).1) with
    | none => exact ⟨Nat.zero_le _, Nat.zero_le _⟩
    | some v =>
      simp only
      cases hb : bodyC v (mkB (Lib.cut s.data.toList [32]).2.1) (Lib.cut s.data.toList [32]).2.2 with
      | none => exact ⟨by decide, by decide⟩
      | some c => exact bodyC_len (vbOf_mem hv).1 hb
theorem parseC_big (s : ByteArray) : BigC (parseC s).1 := ⟨by have := (parseC_len s).1; omega, by have := (parseC_len s).2; omega⟩
set_option maxRecDepth 100000 in
set_option maxHeartbeats 3200000 in
theorem commandParses_any (s : ByteArray) (w : World) (hg : Gb w) (hsz : s.size ≤ 9223372036854775807) : Calls Tryd.prog 3 #[.string s] w fun e w' => e = .returned (.bool true) ∧ Below w.heap.size w w' := by
  have h8 := hg.sz
  have HG := Lib.hid hg
  have HP := Lib.hid (fun w hg => parse_any s w hg)
  have HR := Lib.hid (fun w => rParse_any s w hsz)
  have HBg := Lib.hid (parseC_big s)
  have HHd := Lib.hid (fun w hg => head_any w hg)
  generalize parseC s = P at *
  obtain ⟨c, er⟩ := P
  simp only at HBg
  clear hg
  go_enter Tryd.func3, Tryd.ntmps3
  go_wp2_with fail
  refine (HP.out _ HG.out).mono ?_
  intro e w1 hp
  obtain ⟨hb1, an, cn, ak, ck, rfl, hrs, hrz⟩ := hp.read
  simp only at hrs hrz
  have HB1 := Lib.hid hb1
  have HS1 := Lib.hid hrs
  have HZ1 := Lib.hid hrz
  clear hp hrs hrz hb1
  simp only
  go_wp2_with fail
  have hk := heap_alloc_new w1 (.cells #[.int .i64 c.v, .int .i64 c.h, .slice an c.ns.length cn, .slice ak c.ks.length ck, .string c.t] 27)
  have hb := below1 w1 (.cells #[.int .i64 c.v, .int .i64 c.h, .slice an c.ns.length cn, .slice ak c.ks.length ck, .string c.t] 27)
  have HB2 := Lib.hid (HB1.out.trans (hb.mono HB1.out.size))
  have HS2 := Lib.hid (HS1.out.below hb)
  have HZ2 := Lib.hid (HZ1.out.below hb)
  have HK2 := Lib.hid hk
  clear hk hb
  generalize hbb : w1.heap.size = bb at *
  generalize w1.alloc (.cells #[.int .i64 c.v, .int .i64 c.h, .slice an c.ns.length cn, .slice ak c.ks.length ck, .string c.t] 27) = w2 at *
  clear hbb
  refine (HR.out _).mono ?_
  intro e w3 hp
  obtain ⟨hb3, an3, cn3, ak3, ck3, rfl, hrs, hrz⟩ := hp.read
  simp only at hrs hrz
  have HB3 := Lib.hid (HB2.out.trans (hb3.mono HB2.out.size))
  have HS3 := Lib.hid (HS2.out.below hb3)
  have HZ3 := Lib.hid (HZ2.out.below hb3)
  have HK3 := Lib.hid ((hb3.block _ (Array.getElem?_eq_some_iff.1 HK2.out).1).trans HK2.out)
  have HSb := Lib.hid hrs
  have HZb := Lib.hid hrz
  clear hp hrs hrz hb3
  simp only
  go_wp2_with fail
  have hk := heap_alloc_new w3 (.cells #[.int .i64 c.v, .int .i64 c.h, .slice an3 c.ns.length cn3, .slice ak3 c.ks.length ck3, .string c.t] 27)
  have hb := below1 w3 (.cells #[.int .i64 c.v, .int .i64 c.h, .slice an3 c.ns.length cn3, .slice ak3 c.ks.length ck3, .string c.t] 27)
  have HB4 := Lib.hid (HB3.out.trans (hb.mono HB3.out.size))
  have HS4 := Lib.hid (HS3.out.below hb)
  have HZ4 := Lib.hid (HZ3.out.below hb)
  have HK4 := Lib.hid ((hb.block _ (Array.getElem?_eq_some_iff.1 HK3.out).1).trans HK3.out)
  have HSb4 := Lib.hid (HSb.out.below hb)
  have HZb4 := Lib.hid (HZb.out.below hb)
  have HKb4 := Lib.hid hk
  clear hk hb
  generalize hbb : w3.heap.size = b3 at *
  generalize w3.alloc (.cells #[.int .i64 c.v, .int .i64 c.h, .slice an3 c.ns.length cn3, .slice ak3 c.ks.length ck3, .string c.t] 27) = w4 at *
  clear hbb
  refine (HHd.out _ (HG.out.below (B := w.heap.size) h8 HB4.out)).mono ?_
  rintro e w5 ⟨rfl, hb⟩
  have HB5 := Lib.hid (HB4.out.trans (hb.mono HB4.out.size))
  have ha : RdCm w5 (.agg #[.int .i64 c.v, .int .i64 c.h, .slice an c.ns.length cn, .slice ak c.ks.length ck, .string c.t]) c := ⟨_, _, _, _, rfl, HS4.out.below hb, HZ4.out.below hb⟩
  have hb' : RdCm w5 (.agg #[.int .i64 c.v, .int .i64 c.h, .slice an3 c.ns.length cn3, .slice ak3 c.ks.length ck3, .string c.t]) c := ⟨_, _, _, _, rfl, HSb4.out.below hb, HZb4.out.below hb⟩
  have HSm := Lib.hid (rSame_any _ _ c c w5 ha hb' HBg.out HBg.out)
  rw [decide_eq_true (rfl : c = c)] at HSm
  have hk5 := (hb.block _ (Array.getElem?_eq_some_iff.1 HK4.out).1).trans HK4.out
  have hkb5 := (hb.block _ (Array.getElem?_eq_some_iff.1 HKb4.out).1).trans HKb4.out
  have q0 : w5.cell? ⟨bb, 0, none⟩ = some (.int .i64 c.v) := by simp [World.cell?, hk5]
  have q1 : w5.cell? ⟨bb, 1, none⟩ = some (.int .i64 c.h) := by simp [World.cell?, hk5]
  have q2 : w5.cell? ⟨bb, 2, none⟩ = some (.slice an c.ns.length cn) := by simp [World.cell?, hk5]
  have q3 : w5.cell? ⟨bb, 3, none⟩ = some (.slice ak c.ks.length ck) := by simp [World.cell?, hk5]
  have q4 : w5.cell? ⟨bb, 4, none⟩ = some (.string c.t) := by simp [World.cell?, hk5]
  have p0 : w5.cell? ⟨b3, 0, none⟩ = some (.int .i64 c.v) := by simp [World.cell?, hkb5]
  have p1 : w5.cell? ⟨b3, 1, none⟩ = some (.int .i64 c.h) := by simp [World.cell?, hkb5]
  have p2 : w5.cell? ⟨b3, 2, none⟩ = some (.slice an3 c.ns.length cn3) := by simp [World.cell?, hkb5]
  have p3 : w5.cell? ⟨b3, 3, none⟩ = some (.slice ak3 c.ks.length ck3) := by simp [World.cell?, hkb5]
  have p4 : w5.cell? ⟨b3, 4, none⟩ = some (.string c.t) := by simp [World.cell?, hkb5]
  clear ha hb' hb hk5 hkb5
  have hee : (er == er) = true := by simp
  go_wp2_with fail
  refine (HSm.out).mono ?_
  rintro e w6 ⟨rfl, hb⟩
  have HB6 := Lib.hid (HB5.out.trans (hb.mono HB5.out.size))
  clear hb
  go_wp2_with fail
  go_ret
  exact ⟨rfl, HB6.out⟩
end Go.Proofs.YtikkfbkpgejneaaDoor
/- What a command's words may be: fits's two looks. -/
namespace Go.Proofs.YtikkfbkpgejneaaDoor
open Go.RowKit Go.Shelf

/-- a name that may not be -/
def badS (s : ByteArray) : Bool := decide (s = emptyB) || decide (0 ≤ Lib.indexByte s.data.toList 32)
/-- a number that may not be -/
def badK (n : Int) : Bool := decide (n < 0) || decide (999999999 < n)
theorem fits1_any (s : ByteArray) (w : World) : Calls Tryd.prog 50 #[.string s] w fun e w' => e = .returned (.bool (badS s)) ∧ w' = w := by
  have HC := Lib.hid (Tryd.strings_Contains_one s 32 w)
  by_cases h : s = emptyB
  · have k1 : s.toList.isEmpty = true := by rw [h, ByteArray.toList_eq]; rfl
    have HE : Hid (badS s = true) := by unfold Hid badS; simp [h]
    clear h
    go_enter Tryd.func50, Tryd.ntmps50
    go_wp2_with fail
    go_ret
    exact ⟨by rw [HE.out]; rfl, rfl⟩
  · have k1 : s.toList.isEmpty = false := by
      rcases hh : s.toList.isEmpty with _ | _
      · rfl
      · exfalso; apply h
        rw [List.isEmpty_iff] at hh
        exact (toList_inj s emptyB).1 (by rw [hh, ByteArray.toList_eq]; rfl)
    obtain ⟨d, hd⟩ : ∃ d, d = decide (0 ≤ Lib.indexByte s.data.toList 32) := ⟨_, rfl⟩
    have HE : Hid (badS s = d) := by unfold Hid badS; rw [decide_eq_false h, Bool.false_or, hd]
    rw [← hd] at HC
    clear h hd
    go_enter Tryd.func50, Tryd.ntmps50
    go_wp2_with fail
    refine HC.out.mono ?_
    rintro e w2 ⟨rfl, rfl⟩
    go_wp2_with fail
    go_ret
    exact ⟨by rw [HE.out]; rfl, rfl⟩
theorem fits2_any (n : Int) (w : World) : Calls Tryd.prog 53 #[.int .i64 n] w fun e w' => e = .returned (.bool (badK n)) ∧ w' = w := by
  by_cases h : n < 0
  · have HE : Hid (badK n = true) := by unfold Hid badK; simp [h]
    go_enter Tryd.func53, Tryd.ntmps53
    go_wp2
    go_ret
    exact ⟨by rw [HE.out]; rfl, rfl⟩
  · have HE : Hid (badK n = decide (999999999 < n)) := by unfold Hid badK; simp [h]
    go_enter Tryd.func53, Tryd.ntmps53
    go_wp2
    go_ret
    exact ⟨by rw [HE.out]; rfl, rfl⟩
theorem badNames_any (a : Option Addr) (c : Nat) (xs : List ByteArray) (w : World) (h : RdS w (.slice a xs.length c) xs) (hb : xs.length ≤ 9223372036854775807) :
    Calls Tryd.prog 49 #[.slice a xs.length c, .func (.func 50) #[] #[]] w fun e w' => e = .returned (.bool (xs.any badS)) ∧ ∃ q, w' = w.drewN q := by
  have eg : ∀ args w, (callFunc 50 args).run Tryd.prog w = .ok (.enter 50 args) w := enters_of Tryd.func50 (by kernel_rfl) rfl
  by_cases h0 : xs.length = 0
  · obtain rfl : xs = [] := List.length_eq_zero_iff.1 h0
    refine (Tryd.slices_ContainsFunc_empty_f49 (α := ByteArray) a c _ w).mono ?_
    rintro e w' ⟨rfl, rfl⟩
    exact ⟨rfl, 0, rfl⟩
  · obtain ⟨b, off, cap, e1, -, -, -⟩ := RdS.at h (List.getElem?_eq_getElem (i := 0) (by omega))
    simp only [Value.slice.injEq] at e1
    obtain ⟨rfl, -, rfl⟩ := e1
    have := Tryd.slices_ContainsFunc_f49 (α := ByteArray) (fun x => .string x) badS 50 #[] eg b off xs.length c xs w
      (fun W x _ => (fits1_any x W).mono fun e w' h => ⟨h.1, 0, h.2⟩) (Nat.le_refl _) hb (fun j hj => by
        obtain ⟨b', o', c', e, -, -, hx⟩ := RdS.at h (i := j) (x := xs[j]) (List.getElem?_eq_getElem hj)
        simp only [Value.slice.injEq, Option.some.injEq, Addr.mk.injEq] at e
        obtain ⟨⟨rfl, rfl, -⟩, -, -⟩ := e
        rw [hx, getElem!_pos xs j hj])
    rwa [List.take_length] at this
theorem badNums_any (a : Option Addr) (c : Nat) (xs : List Int) (w : World) (h : RdZ w (.slice a xs.length c) xs) (hb : xs.length ≤ 9223372036854775807) :
    Calls Tryd.prog 52 #[.slice a xs.length c, .func (.func 53) #[] #[]] w fun e w' => e = .returned (.bool (xs.any badK)) ∧ ∃ q, w' = w.drewN q := by
  have eg : ∀ args w, (callFunc 53 args).run Tryd.prog w = .ok (.enter 53 args) w := enters_of Tryd.func53 (by kernel_rfl) rfl
  by_cases h0 : xs.length = 0
  · obtain rfl : xs = [] := List.length_eq_zero_iff.1 h0
    refine (Tryd.slices_ContainsFunc_empty_f52 (α := Int) a c _ w).mono ?_
    rintro e w' ⟨rfl, rfl⟩
    exact ⟨rfl, 0, rfl⟩
  · obtain ⟨b, off, cap, e1, -, -, -⟩ := RdZ.at h (List.getElem?_eq_getElem (i := 0) (by omega))
    simp only [Value.slice.injEq] at e1
    obtain ⟨rfl, -, rfl⟩ := e1
    have := Tryd.slices_ContainsFunc_f52 (α := Int) (fun x => .int .i64 x) badK 53 #[] eg b off xs.length c xs w
      (fun W x _ => (fits2_any x W).mono fun e w' h => ⟨h.1, 0, h.2⟩) (Nat.le_refl _) hb (fun j hj => by
        obtain ⟨b', o', c', e, -, -, hx⟩ := RdZ.at h (i := j) (x := xs[j]) (List.getElem?_eq_getElem hj)
        simp only [Value.slice.injEq, Option.some.injEq, Addr.mk.injEq] at e
        obtain ⟨⟨rfl, rfl, -⟩, -, -⟩ := e
        rw [hx, getElem!_pos xs j hj])
    rwa [List.take_length] at this
end Go.Proofs.YtikkfbkpgejneaaDoor
/- A drawn region that calls and makes memory, whose LAST operation waits for all the others (a store into a new box): one walk, by facts on the temporaries. -/
namespace Go.Proofs.YtikkfbkpgejneaaDoor
open Go.RowKit
def rgLast (ops : Array Oper) (m : Nat) : Bool := (List.range m).all fun j => match ops[m]? with | some o => rgDep o j | none => false
theorem wp_region_last {P : Program} {ops : Array Oper} {Q : Exit → Act → World → Prop} {id : Nat} {a0 : Act} {w0 : World} {m : Nat} (hm : P.follows .mixedOrders = true) (F : Nat → Value → World → Prop)
    (hF : ∀ d v w w', F d v w → Below w.heap.size w w' → F d v w') (hp : rgPlain ops = true) (hbk : rgBack ops = true) (hsz0 : rgSz ops a0.tmps.size = true)
    (step : AllOps (fun o => ∀ a w, RgAt ops F a0 w0.drew a w → (∀ j d, rgDep o j = true → rgDst ops j = some d → F d (a.tmps.getD d undef) w) →
      o.wp P a w (fun a' w' => ∃ v, a' = a.put o.dst v ∧ Below w.heap.size w w' ∧ ∀ d, o.dst = some d → F d v w') Q) (ops.toList.take m)) (hm2 : ops.size = m + 1) (hlast : rgLast ops m = true)
    (fin : AllOps (fun o => ∀ a w, RgAt ops F a0 w0.drew a w → (∀ j d, j < m → rgDst ops j = some d → F d (a.tmps.getD d undef) w) → o.wp P a w (fun a' w' => Q .normal a' w') Q) (ops.toList.drop m)) : (Code.region id ops true).wp P Q a0 w0 := by
  have hsz := rgSz_spec hsz0
  refine wp_region_any hm ?_
  have hp1 : ∀ (i : Nat) (o : Oper), ops[i]? = some o → o.guard = none := fun i o h => by
    unfold rgPlain at hp
    rw [Bool.and_eq_true, Array.all_eq_true] at hp
    obtain ⟨hlt, he⟩ := Array.getElem?_eq_some_iff.1 h
    have := hp.1 i hlt
    rw [he] at this
    simpa using this
  have hp2 : ∀ i j d, rgDst ops i = some d → rgDst ops j = some d → i = j := fun i j d h1 h2 => by
    unfold rgPlain at hp
    rw [Bool.and_eq_true, List.all_eq_true] at hp
    have hi : i < ops.size := by unfold rgDst at h1; rcases Nat.lt_or_ge i ops.size with h | h; exact h; simp [Array.getElem?_eq_none h] at h1
    have hj : j < ops.size := by unfold rgDst at h2; rcases Nat.lt_or_ge j ops.size with h | h; exact h; simp [Array.getElem?_eq_none h] at h2
    have := hp.2 i (List.mem_range.2 hi)
    rw [List.all_eq_true] at this
    have := this j (List.mem_range.2 hj)
    rw [h1, h2] at this
    simpa using this
  have hall : ∀ (listed : Array Bool), listed.size = ops.size → Region.ready .any ops listed = [] → ∀ j, j < ops.size → listed.getD j false = true := fun listed hs hr j => by
    induction j using Nat.strongRecOn with
    | _ j ih =>
      intro hj
      rcases hv : listed.getD j true with _ | _
      · exfalso
        have hmem : j ∈ Region.ready .any ops listed := by
          rw [mem_ready]
          refine ⟨hv, ops[j], Array.getElem?_eq_getElem hj, fun e he hb => ?_⟩
          unfold rgBack at hbk
          rw [List.all_eq_true] at hbk
          have := hbk j (List.mem_range.2 hj)
          rw [Array.getElem?_eq_getElem hj] at this
          simp only [Option.map_some, Option.getD_some, Array.all_eq_true_iff_forall_mem] at this
          have := this e he
          rw [hb] at this
          have hlt : e.on < j := by simpa using this
          exact ih _ hlt (by omega)
        rw [hr] at hmem
        cases hmem
      · have : j < listed.size := by omega
        simpa [this] using hv
  have main : ∀ (fuel : Nat) (listed : Array Bool) (a : Act) (w : World), listed.toList.count false ≤ fuel → listed.size = ops.size → listed.getD m false = false → RgAt ops F a0 w0.drew a w →
      (∀ j d, listed.getD j false = true → rgDst ops j = some d → F d (a.tmps.getD d undef) w) → wpAny P .any ops Q fuel listed a w := by
    have hdone : ∀ (listed : Array Bool) (a : Act) (w : World), listed.size = ops.size → listed.getD m false = false → Region.ready .any ops listed = [] → Q .normal a w := fun listed a w hs hl hr => by
      have := hall listed hs hr m (by omega)
      rw [hl] at this; cases this
    intro fuel
    induction fuel with
    | zero =>
      intro listed a w hc hs hl hA hd
      have hr : Region.ready .any ops listed = [] := by
        rw [List.eq_nil_iff_forall_not_mem]
        intro j hj
        have h0 := (mem_ready.1 hj).1
        have hj2 : j < listed.size := by rcases Nat.lt_or_ge j listed.size with h | h; exact h; simp [Array.getElem?_eq_none h] at h0
        have hm : false ∈ listed.toList := by
          have : listed[j] = false := by simpa [hj2] using h0
          rw [← this]; simp
        have := List.count_pos_iff.2 hm
        omega
      exact ⟨hr, hdone listed a w hs hl hr⟩
    | succ fuel ih =>
      intro listed a w hc hs hl hA hd
      refine ⟨hdone listed a w hs hl, fun i hi => ?_⟩
      obtain ⟨h0, o, ho, haf⟩ := mem_ready.1 hi
      have hj2 : i < listed.size := by rcases Nat.lt_or_ge i listed.size with h | h; exact h; simp [Array.getElem?_eq_none h] at h0
      have h0' : listed[i] = false := by simpa [hj2] using h0
      have hio : i < ops.size := (Array.getElem?_eq_some_iff.1 ho).1
      by_cases him : i = m
      · subst him
        have hAll : ∀ j, j < i → listed.getD j false = true := fun j hj => by
          unfold rgLast at hlast
          rw [List.all_eq_true] at hlast
          have h1 := hlast j (List.mem_range.2 hj)
          rw [ho] at h1
          have h1 : rgDep o j = true := h1
          unfold rgDep at h1
          obtain ⟨k, hk, h2⟩ := Array.any_eq_true.1 h1
          have he := Array.getElem_mem hk
          generalize o.after[k] = e at h2 he
          rw [Bool.and_eq_true, beq_iff_eq] at h2
          have := haf e he h2.2
          rwa [h2.1] at this
        have hst := AllOps.at fin (i := 0) (o := o) (by rw [List.getElem?_drop]; simpa using ho) a w hA (fun j d hj hjd => hd j d (hAll j hj) hjd)
        unfold wpOp
        simp only [ho]
        have hw : Region.wanted o (yielded ops a.tmps) = true := by unfold Region.wanted; rw [hp1 i o ho]
        rw [if_pos hw]
        refine .inl (Oper.wp_mono ?_ hst)
        intro a' w' hQ
        have hr : Region.ready .any ops (listed.setIfInBounds i true) = [] := by
          rw [List.eq_nil_iff_forall_not_mem]
          intro j hj
          have h0j := (mem_ready.1 hj).1
          have hjs : j < listed.size := by
            rcases Nat.lt_or_ge j listed.size with h | h
            · exact h
            · simp [Array.getElem?_eq_none, h] at h0j
          by_cases hji : j = i
          · subst hji; simp [hjs] at h0j
          · have := hAll j (by omega)
            simp [hjs] at this
            simp [hjs, Array.getElem_setIfInBounds, Ne.symm hji, this] at h0j
        cases fuel with
        | zero => exact ⟨hr, hQ⟩
        | succ fuel => exact ⟨fun _ => hQ, fun j hj => by rw [hr] at hj; cases hj⟩
      have hst := AllOps.at step (i := i) (o := o) (by rw [List.getElem?_take_of_lt (by omega)]; simpa using ho) a w hA (fun j d hdep hjd => hd j d (by
        unfold rgDep at hdep
        obtain ⟨k, hk, h2⟩ := Array.any_eq_true.1 hdep
        have he := Array.getElem_mem hk
        generalize o.after[k] = e at h2 he
        rw [Bool.and_eq_true, beq_iff_eq] at h2
        have := haf e he h2.2
        rwa [h2.1] at this) hjd)
      unfold wpOp
      simp only [ho]
      have hw : Region.wanted o (yielded ops a.tmps) = true := by unfold Region.wanted; rw [hp1 i o ho]
      rw [if_pos hw]
      refine .inl (Oper.wp_mono ?_ hst)
      rintro a' w' ⟨v, rfl, hb, hv⟩
      refine ih _ _ _ ?_ (by simpa using hs) (by rw [getD_set_ne false him]; exact hl) ⟨?_, ?_, hA.below.trans (hb.mono hA.below.size), fun t ht => (rgFree_put ho ht).trans (hA.frame t ht)⟩ ?_
      · rw [Array.toList_setIfInBounds, List.count_set (by simpa using hj2)]
        have e1 : listed.toList[i]'(by simpa using hj2) = false := by simpa using h0'
        have : 0 < listed.toList.count false := List.count_pos_iff.2 (by rw [← e1]; exact List.getElem_mem _)
        rw [e1]
        rw [if_neg (by decide : ¬ (true == false) = true)]
        simp only [beq_self_eq_true, if_true]
        omega
      · unfold Act.put; split <;> simp [hA.size]
      · unfold Act.put; split <;> exact hA.defers
      · intro j d hl hjd
        by_cases hij : j = i
        · subst hij
          have hod : o.dst = some d := by simpa [rgDst, ho] using hjd
          have := hv d hod
          have hds : d < a.tmps.size := by rw [hA.size]; exact hsz j d hjd
          have e2 : (a.put o.dst v).tmps.getD d undef = v := by unfold Act.put; rw [hod]; simp [hds]
          rw [e2]; exact this
        · rw [getD_set_ne false (Ne.symm hij)] at hl
          have e2 : (a.put o.dst v).tmps.getD d undef = a.tmps.getD d undef := by
            unfold Act.put
            split
            · rename_i d2 hd2
              have hne : d2 ≠ d := by
                rintro rfl
                exact hij (hp2 j i d2 hjd (by simpa [rgDst, ho] using hd2))
              simp [Array.getElem?_setIfInBounds_ne hne]
            · rfl
          rw [e2]
          exact hF d _ w w' (hd j d hl hjd) hb
  refine main ops.size _ a0 _ ?_ (by simp) (by simp [hm2]) ⟨rfl, rfl, Below.refl _ _, fun _ _ => rfl⟩ ?_
  · simp
  · intro j d hl
    exfalso
    rcases Nat.lt_or_ge j ops.size with h | h
    · simp [h] at hl
    · simp [h] at hl
end Go.Proofs.YtikkfbkpgejneaaDoor
/- fits: has a command the words of its verb? -/
namespace Go.Proofs.YtikkfbkpgejneaaDoor
open Go.RowKit Go.Shelf

/-- the temporaries behind a drawn region, written out -/
theorem tmps_lit {ops : Array Oper} {F : Nat → Value → World → Prop} {a0 a : Act} {w0 w : World} (h : RgAt ops F a0 w0 a w) :
    a.tmps = ((List.range a0.tmps.size).map fun i => if rgFree ops i then a0.tmps.getD i undef else a.tmps.getD i undef).toArray := by
  apply Array.ext_getElem?
  intro i
  rcases Nat.lt_or_ge i a0.tmps.size with hi | hi
  · have hi2 : i < a.tmps.size := by rw [h.size]; exact hi
    have e : a.tmps[i]? = some (a.tmps.getD i undef) := by simp [hi2]
    rw [e, List.getElem?_toArray, List.getElem?_map, List.getElem?_range hi]
    show some (a.tmps.getD i undef) = some (if rgFree ops i then a0.tmps.getD i undef else a.tmps.getD i undef)
    by_cases hf : rgFree ops i = true
    · rw [if_pos hf, h.frame i hf]
    · rw [if_neg hf]
  · rw [Array.getElem?_eq_none (by rw [h.size]; exact hi), Array.getElem?_eq_none (by simpa using hi)]
theorem wrapSmall (x : Int) (h0 : 0 ≤ x) (h : x ≤ 4294967296) : IntKind.i64.wrap x = x := by rw [IntKind.wrap_i64]; omega
/-- verb i of a row that reads -/
def VcAt (w : World) (b off i : Nat) (x : Vb) : Prop := ∃ ao ac, w.cell? ⟨b, off + i * 4, none⟩ = some (.int .i64 x.n) ∧ w.cell? ⟨b, off + i * 4 + 1, none⟩ = some (.string x.s) ∧ w.cell? ⟨b, off + i * 4 + 2, none⟩ = some (.bool x.t) ∧ w.cell? ⟨b, off + i * 4 + 3, none⟩ = some (.slice ao x.k.length ac) ∧ RdPt w (.slice ao x.k.length ac) x.k
theorem VcAt.below {w w' : World} {b off i : Nat} {x : Vb} (h : VcAt w b off i x) (hl : b < w.heap.size) (hb : Below w.heap.size w w') : VcAt w' b off i x := by
  obtain ⟨ao, ac, h0, h1, h2, h3, h4⟩ := h
  exact ⟨ao, ac, (hb.cell (p := ⟨b, _, none⟩) hl).trans h0, (hb.cell (p := ⟨b, _, none⟩) hl).trans h1, (hb.cell (p := ⟨b, _, none⟩) hl).trans h2, (hb.cell (p := ⟨b, _, none⟩) hl).trans h3, h4.below hb⟩
theorem RdVs.vcAt {w : World} {v : Value} {P : List (Vb × Value)} (h : RdVs w v P) {i : Nat} {x : Vb} (hx : VT[i]? = some x) : ∃ b off cap, v = .slice (some ⟨b, off, none⟩) 10 cap ∧ 10 ≤ cap ∧ b < w.heap.size ∧ VcAt w b off i x := by
  obtain ⟨p, hp, rfl⟩ : ∃ p, P[i]? = some p ∧ p.1 = x := by
    rw [← h.tab, List.getElem?_map, Option.map_eq_some_iff] at hx
    exact hx
  obtain ⟨b, off, cap, e, hl, hc, h0, h1, h2, h3⟩ := h.at hp
  have hp2 := h.parts p (List.mem_of_getElem? hp)
  obtain ⟨_, ao, ac, e2, -⟩ := id hp2
  rw [e2] at h3 hp2
  exact ⟨b, off, cap, by rw [e, h.len], by rw [← h.len]; exact hc, hl, ao, ac, h0, h1, h2, h3, hp2⟩
def ftF (Bb n0 : Nat) (v : Int) (i : Nat) (x : Vb) : Nat → Value → World → Prop
  | 8, u, w => ∃ b off cap, u = .slice (some ⟨b, off, none⟩) 10 cap ∧ 10 ≤ cap ∧ b < w.heap.size ∧ VcAt w b off i x
  | 9, u, _ => u = .pointer (some ⟨Bb, 0, none⟩)
  | 10, u, _ => u = .int .i64 v
  | 11, u, _ => u = .int .i64 i
  | 12, u, w => ∃ b off, u = .pointer (some ⟨b, off + i * 4, none⟩) ∧ b < w.heap.size ∧ VcAt w b off i x
  | 13, u, w => ∃ ao ac, u = .agg #[.int .i64 x.n, .string x.s, .bool x.t, .slice ao x.k.length ac] ∧ RdPt w (.slice ao x.k.length ac) x.k
  | 3, u, w => ∃ b, u = .pointer (some ⟨b, 0, none⟩) ∧ n0 ≤ b ∧ b < w.heap.size ∧ w.heap[b]? = some (.cells #[.int .i64 0, .string ⟨#[]⟩, .bool false, .slice none 0 0] 51 (0, 0))
  | _, _, _ => True
theorem ftF_below (Bb n0 : Nat) (v : Int) (i : Nat) (x : Vb) : ∀ d u w w', ftF Bb n0 v i x d u w → Below w.heap.size w w' → ftF Bb n0 v i x d u w' := by
  intro d u w w' h hb
  unfold ftF at h ⊢
  split at h
  all_goals first
    | exact h
    | (obtain ⟨b, off, cap, e, h1, h2, h3⟩ := h; exact ⟨b, off, cap, e, h1, Nat.lt_of_lt_of_le h2 hb.size, h3.below h2 hb⟩)
    | (obtain ⟨b, off, e, h2, h3⟩ := h; exact ⟨b, off, e, Nat.lt_of_lt_of_le h2 hb.size, h3.below h2 hb⟩)
    | (obtain ⟨ao, ac, e, h3⟩ := h; exact ⟨ao, ac, e, h3.below hb⟩)
    | (obtain ⟨b, e, h1, h2, h3⟩ := h; exact ⟨b, e, h1, Nat.lt_of_lt_of_le h2 hb.size, (hb.block _ h2).trans h3⟩)
def fitsC (c : Cmd) (x : Vb) : Bool := x.t || ((c.h != 0) == (c.v == 5) && (c.ns.length == x.k.count 1) && (c.ks.length == x.k.count 2) && !(c.ns.any badS) && !(c.ks.any badK))

set_option maxRecDepth 100000 in
set_option maxHeartbeats 3200000 in
theorem fits_any (va : Value) (c : Cmd) (w : World) (x : Vb) (i : Nat) (hr : RdCm w va c) (bc : BigC c) (hv : c.v = (i : Int) + 1) (hi : i < 10) (hx : VT[i]? = some x) :
    Calls Tryd.prog 34 #[va] w fun e w' => e = .returned (.bool (fitsC c x)) ∧ Below w.heap.size w w' := by
  obtain ⟨an, am, ak, al, rfl, a1, a2⟩ := hr
  have HN := Lib.hid (fun wx (h : Below w.heap.size w wx) => badNames_any an am c.ns wx (a1.below h) bc.ns)
  have HK := Lib.hid (fun wx (h : Below w.heap.size w wx) => badNums_any ak al c.ks wx (a2.below h) bc.ks)
  have HBc := Lib.hid bc
  obtain ⟨R, hR⟩ : ∃ R, R = fitsC c x := ⟨_, rfl⟩
  rw [← hR]
  have HR := Lib.hid hR
  clear a1 a2 bc hR
  go_enter Tryd.func34, Tryd.ntmps34
  go_wp2_with fail
  have hk1 := heap_alloc_new w (.cells #[.int .i64 ((i : Int) + 1), .int .i64 c.h, .slice an c.ns.length am, .slice ak c.ks.length al, .string c.t] 27)
  have HB2 := Lib.hid (below1 w (.cells #[.int .i64 ((i : Int) + 1), .int .i64 c.h, .slice an c.ns.length am, .slice ak c.ks.length al, .string c.t] 27))
  have HK1 := Lib.hid hk1
  clear hk1
  change Code.wp _ _ _ _ (w.alloc (.cells #[.int .i64 ((i : Int) + 1), .int .i64 c.h, .slice an c.ns.length am, .slice ak c.ks.length al, .string c.t] 27))
  generalize w.alloc (.cells #[.int .i64 ((i : Int) + 1), .int .i64 c.h, .slice an c.ns.length am, .slice ak c.ks.length al, .string c.t] 27) = w2 at *
  generalize hb1 : w.heap.size = B at *
  have hsz2 : B ≤ w2.heap.size := by have := HB2.out.size; omega
  have HX := Lib.hid hx
  have HFr := Lib.hid (Below.refl w2.heap.size w2)
  refine wp_region_last (m := 7) (by kernel_rfl) (ftF B w2.heap.size ((i : Int) + 1) i x) (ftF_below _ _ _ _ _) (by kernel_rfl) (by kernel_rfl) (by kernel_rfl) ?step rfl (by kernel_rfl) ?fin
  case step =>
    refine ⟨?_, ?_, ?_, ?_, ?_, ?_, ?_, trivial⟩
    all_goals intro ac wr hA hD
    all_goals have e1 : ac.tmps[1]?.getD undef = .pointer (some ⟨B, 0, none⟩) := by simpa using hA.frame 1 (by kernel_rfl)
    all_goals have k1 := (hA.below.block _ (Array.getElem?_eq_some_iff.1 HK1.out).1).trans HK1.out
    all_goals have hwr : w2.heap.size ≤ wr.heap.size := hA.below.size
    all_goals have q0 : wr.cell? ⟨B, 0, none⟩ = some (.int .i64 ((i : Int) + 1)) := by simp [World.cell?, k1]
    all_goals clear hA k1
    · clear hD
      go_simp
      refine (verbs_any _).mono ?_
      rintro e w3 ⟨v, P, rfl, hvs, hb⟩
      obtain ⟨b, off, cap, rfl, h1, h2, h3⟩ := hvs.vcAt HX.out
      exact ⟨_, rfl, hb, b, off, cap, rfl, h1, h2, h3⟩
    · clear hD
      go_simp
      exact ⟨_, rfl, Below.refl _ _, rfl⟩
    · have e9 : ac.tmps[9]?.getD undef = .pointer (some ⟨B, 0, none⟩) := by simpa using (show ac.tmps.getD 9 undef = .pointer (some ⟨B, 0, none⟩) from hD 1 9 (by kernel_rfl) (by kernel_rfl))
      clear hD
      go_simp
      exact ⟨_, rfl, Below.refl _ _, rfl⟩
    · have e10 : ac.tmps[10]?.getD undef = .int .i64 ((i : Int) + 1) := by simpa using (show ac.tmps.getD 10 undef = .int .i64 ((i : Int) + 1) from hD 2 10 (by kernel_rfl) (by kernel_rfl))
      clear hD
      go_simp
      exact ⟨_, rfl, Below.refl _ _, by show Value.int _ _ = Value.int _ _; congr 1; exact wrapSmall (i : Int) (by omega) (by omega)⟩
    · obtain ⟨b, off, cap, e8, h1, h2, h3⟩ : ∃ b off cap, ac.tmps.getD 8 undef = .slice (some ⟨b, off, none⟩) 10 cap ∧ 10 ≤ cap ∧ b < wr.heap.size ∧ VcAt wr b off i x := hD 0 8 (by kernel_rfl) (by kernel_rfl)
      rw [Array.getD_eq_getD_getElem?] at e8
      have hi2 : (i : Int) < 10 := by omega
      have e11 : ac.tmps[11]?.getD undef = .int .i64 i := by simpa using (show ac.tmps.getD 11 undef = .int .i64 i from hD 3 11 (by kernel_rfl) (by kernel_rfl))
      clear hD
      go_simp
      exact ⟨_, rfl, Below.refl _ _, b, off, rfl, h2, h3⟩
    · obtain ⟨b, off, e12, h2, h3⟩ : ∃ b off, ac.tmps.getD 12 undef = .pointer (some ⟨b, off + i * 4, none⟩) ∧ b < wr.heap.size ∧ VcAt wr b off i x := hD 4 12 (by kernel_rfl) (by kernel_rfl)
      rw [Array.getD_eq_getD_getElem?] at e12
      obtain ⟨ao, am2, c0, c1, c2, c3, h4⟩ := h3
      clear hD
      go_simp
      exact ⟨_, rfl, Below.refl _ _, ao, am2, rfl, h4⟩
    · clear hD
      go_simp
      exact ⟨_, rfl, below1 _ _, wr.heap.size, rfl, hwr, by simp, heap_alloc_new _ _⟩
  case fin =>
    refine ⟨?_, trivial⟩
    intro ac wr hA hD
    have hT := tmps_lit hA
    obtain ⟨b8, off8, cap8, e8, -, -, -⟩ : ∃ b off cap, ac.tmps.getD 8 undef = .slice (some ⟨b, off, none⟩) 10 cap ∧ 10 ≤ cap ∧ b < wr.heap.size ∧ VcAt wr b off i x := hD 0 8 (by omega) (by kernel_rfl)
    have e9 : ac.tmps.getD 9 undef = .pointer (some ⟨B, 0, none⟩) := hD 1 9 (by omega) (by kernel_rfl)
    have e10 : ac.tmps.getD 10 undef = .int .i64 ((i : Int) + 1) := hD 2 10 (by omega) (by kernel_rfl)
    have e11 : ac.tmps.getD 11 undef = .int .i64 i := hD 3 11 (by omega) (by kernel_rfl)
    obtain ⟨b12, off12, e12, -, -⟩ : ∃ b off, ac.tmps.getD 12 undef = .pointer (some ⟨b, off + i * 4, none⟩) ∧ b < wr.heap.size ∧ VcAt wr b off i x := hD 4 12 (by omega) (by kernel_rfl)
    obtain ⟨ao, am2, e13, hpt⟩ : ∃ ao ac2, ac.tmps.getD 13 undef = .agg #[.int .i64 x.n, .string x.s, .bool x.t, .slice ao x.k.length ac2] ∧ RdPt wr (.slice ao x.k.length ac2) x.k := hD 5 13 (by omega) (by kernel_rfl)
    obtain ⟨b3, e3, h31, h32, h33⟩ : ∃ b, ac.tmps.getD 3 undef = .pointer (some ⟨b, 0, none⟩) ∧ w2.heap.size ≤ b ∧ b < wr.heap.size ∧ wr.heap[b]? = some (.cells #[.int .i64 0, .string ⟨#[]⟩, .bool false, .slice none 0 0] 51 (0, 0)) := hD 6 3 (by omega) (by kernel_rfl)
    have hB := (HB2.out.trans ((Below.refl _ _).drew.mono hsz2)).trans (hA.below.mono hsz2)
    have hd : ac.defers = [] := hA.defers
    have k1 := (hA.below.block _ (Array.getElem?_eq_some_iff.1 HK1.out).1).trans HK1.out
    clear hA hD
    obtain ⟨T, D⟩ := ac
    simp only at hT hd e3 e8 e9 e10 e11 e12 e13
    subst hd
    have hT2 : T = List.toArray (.agg #[.int .i64 c.v, .int .i64 c.h, .slice an c.ns.length am, .slice ak c.ks.length al, .string c.t] :: .pointer (some ⟨B, 0, none⟩) :: .bool false :: T.getD 3 undef :: undef :: undef :: undef :: undef :: T.getD 8 undef :: T.getD 9 undef :: T.getD 10 undef :: T.getD 11 undef :: T.getD 12 undef :: T.getD 13 undef :: undef :: undef :: undef :: undef :: undef :: undef :: undef :: undef :: undef :: undef :: undef :: undef :: undef :: undef :: undef :: undef :: undef :: undef :: undef :: undef :: undef :: undef :: undef :: undef :: undef :: undef :: undef :: undef :: undef :: undef :: undef :: undef :: undef :: undef :: undef :: undef :: undef :: undef :: undef :: undef :: undef :: undef :: undef :: undef :: undef :: undef :: undef :: undef :: undef :: undef :: undef :: undef :: undef :: []) := hT.trans (by kernel_rfl)
    rw [e3, e8, e9, e10, e11, e12, e13] at hT2
    clear hT e3 e8 e9 e10 e11 e12 e13
    subst hT2
    have d0 : wr.cell? ⟨b3, 0, none⟩ = some (.int .i64 0) := by simp [World.cell?, h33]
    have d1 : wr.cell? ⟨b3, 1, none⟩ = some (.string ⟨#[]⟩) := by simp [World.cell?, h33]
    have d2 : wr.cell? ⟨b3, 2, none⟩ = some (.bool false) := by simp [World.cell?, h33]
    have d3 : wr.cell? ⟨b3, 3, none⟩ = some (.slice none 0 0) := by simp [World.cell?, h33]
    have f0 : ∀ j, wr.frozen? ⟨b3, j, none⟩ = false := fun j => by simp [World.frozen?, h33]
    have f00 := f0 0
    have f01 := f0 1
    have f02 := f0 2
    have f03 := f0 3
    clear f0
    go_simp
    have h41 := heap_set4 h33 (.int .i64 x.n) (.string x.s) (.bool x.t) (.slice ao x.k.length am2)
    have hB4 := below_set4 hB (b := b3) (by omega) (.int .i64 x.n) (.string x.s) (.bool x.t) (.slice ao x.k.length am2)
    have hne : B ≠ b3 := by have := (Array.getElem?_eq_some_iff.1 HK1.out).1; omega
    have hpt4 := hpt.set4 h33 (.int .i64 x.n) (.string x.s) (.bool x.t) (.slice ao x.k.length am2)
    have k4 := (below_set4 (w0 := wr) (B := b3) (b := b3) (Below.refl _ wr) (Nat.le_refl _) (.int .i64 x.n) (.string x.s) (.bool x.t) (.slice ao x.k.length am2)).block B (by have := (Array.getElem?_eq_some_iff.1 HK1.out).1; omega) |>.trans k1
    clear d0 d1 d2 d3 f00 f01 f02 f03 h33 k1 hB hpt
    generalize (((wr.setCell ⟨b3, 0, none⟩ (.int .i64 x.n)).setCell ⟨b3, 1, none⟩ (.string x.s)).setCell ⟨b3, 2, none⟩ (.bool x.t)).setCell ⟨b3, 3, none⟩ (.slice ao x.k.length am2) = w4 at *
    have HB4 := Lib.hid hB4
    have HP4 := Lib.hid hpt4
    have H41 := Lib.hid h41
    have HK4 := Lib.hid k4
    have d2 : w4.cell? ⟨b3, 2, none⟩ = some (.bool x.t) := by simp [World.cell?, h41]
    have d3 : w4.cell? ⟨b3, 3, none⟩ = some (.slice ao x.k.length am2) := by simp [World.cell?, h41]
    clear hB4 hpt4 h41 k4
    go_wp2_with fail
    have hxm : x ∈ VT := List.mem_of_getElem? HX.out
    have hk5 := (VT_k hxm).1
    have hn4 : w2.heap.size ≤ w4.heap.size := Nat.le_trans (by have := h32; omega) (Nat.le_of_lt (Array.getElem?_eq_some_iff.1 H41.out).1)
    clear d2 d3 hxm
    go_loopw [4, 5, 17] (fun n m j wr => ∃ k : Nat, n = .int .i64 ((x.k.take k).count 1 : Nat) ∧ m = .int .i64 ((x.k.take k).count 2 : Nat) ∧ j = .int .i64 k ∧ k ≤ x.k.length ∧ Hid (Below w4.heap.size w4 wr)) (fun _ _ j _ => x.k.length - (intOf j).toNat)
    case atStart => exact ⟨0, rfl, rfl, rfl, by omega, Below.refl _ _⟩
    case round =>
      obtain ⟨k, rfl, rfl, rfl, hk, HBw⟩ := hrel
      by_cases hlt : k < x.k.length
      · obtain ⟨y, hy⟩ : ∃ y, x.k[k]? = some y := ⟨_, List.getElem?_eq_getElem hlt⟩
        obtain ⟨b', off', cap', e1, hb', hc', c0, c1⟩ := RdPt.at (HP4.out.below HBw.out) hy
        simp only [Value.slice.injEq] at e1
        obtain ⟨rfl, -, rfl⟩ := e1
        have ht : x.k.take (k + 1) = x.k.take k ++ [y] := by rw [List.take_add_one, hy]; rfl
        obtain ⟨g, hg⟩ : ∃ g, ptFn y = .func (.func g) #[] #[] := by unfold ptFn; split <;> exact ⟨_, rfl⟩
        rw [hg] at c1
        have hc1 : (x.k.take k).count 1 ≤ 10 := Nat.le_trans List.count_le_length (by simp; omega)
        have hc2 : (x.k.take k).count 2 ≤ 10 := Nat.le_trans List.count_le_length (by simp; omega)
        clear hy hg
        by_cases hy1 : y = 1
        · subst hy1
          go_wp2
          go_roundw
          case rel => exact ⟨k + 1, by rw [ht, List.count_append, show List.count 1 [1] = 1 from by decide]; go_num, by rw [ht, List.count_append, show List.count 2 [1] = 0 from by decide]; rfl, by go_num, by omega, HBw.out.alloc HBw.out.size _⟩
          case measure => simp [intOf]; omega
        · by_cases hy2 : y = 2
          · subst hy2
            go_wp2
            go_roundw
            case rel => exact ⟨k + 1, by rw [ht, List.count_append, show List.count 1 [2] = 0 from by decide]; rfl, by rw [ht, List.count_append, show List.count 2 [2] = 1 from by decide]; go_num, by go_num, by omega, HBw.out.alloc HBw.out.size _⟩
            case measure => simp [intOf]; omega
          · have z1 : ((y : Int) == 1) = false := by simp; omega
            have z2 : ((y : Int) == 2) = false := by simp; omega
            have w1 : List.count 1 [y] = 0 := by simp [hy1]
            have w2 : List.count 2 [y] = 0 := by simp [hy2]
            go_wp2
            go_roundw
            case rel => exact ⟨k + 1, by rw [ht, List.count_append, w1]; rfl, by rw [ht, List.count_append, w2]; rfl, by go_num, by omega, HBw.out.alloc HBw.out.size _⟩
            case measure => simp [intOf]; omega
      · obtain rfl : k = x.k.length := by omega
        have d2 : wr.cell? ⟨b3, 2, none⟩ = some (.bool x.t) := by
          have := (HBw.out.block b3 (Array.getElem?_eq_some_iff.1 H41.out).1).trans H41.out
          simp [World.cell?, this]
        have hkB := (HBw.out.block B (Array.getElem?_eq_some_iff.1 HK4.out).1).trans HK4.out
        have q0 : wr.cell? ⟨B, 0, none⟩ = some (.int .i64 ((i : Int) + 1)) := by simp [World.cell?, hkB]
        have q1 : wr.cell? ⟨B, 1, none⟩ = some (.int .i64 c.h) := by simp [World.cell?, hkB]
        have q2 : wr.cell? ⟨B, 2, none⟩ = some (.slice an c.ns.length am) := by simp [World.cell?, hkB]
        have q3 : wr.cell? ⟨B, 3, none⟩ = some (.slice ak c.ks.length al) := by simp [World.cell?, hkB]
        have hBB : Below B w wr := HB4.out.trans (HBw.out.mono (by have := HB4.out.size; omega))
        have HBB := Lib.hid hBB
        have HBr : Hid (Below w.heap.size w wr) := hb1 ▸ hBB
        clear hkB hBB
        rw [List.take_length]
        cases hxt : x.t with
        | true =>
          rw [hxt] at d2
          have hF : fitsC c x = true := by unfold fitsC; rw [hxt]; rfl
          have HRe : Hid (R = true) := HR.out.trans hF
          clear hF
          go_wp2_with fail
          go_ret
          exact ⟨by rw [HRe.out]; rfl, HBr.out⟩
        | false =>
          rw [hxt] at d2
          have HF : Hid (R = (((c.h != 0) == ((i : Int) + 1 == 5)) && (c.ns.length == x.k.count 1) && (c.ks.length == x.k.count 2) && !(c.ns.any badS) && !(c.ks.any badK))) := by
            unfold Hid; rw [HR.out]; unfold fitsC; rw [hxt, hv]; rfl
          go_wp2_with fail
          · have g1 : (c.h != 0) = ((i : Int) + 1 == 5) := by assumption
            have g2 : (c.ns.length : Int) = (x.k.count 1 : Nat) := by assumption
            have g3 : (c.ks.length : Int) = (x.k.count 2 : Nat) := by assumption
            have e1 : ((c.h != 0) == ((i : Int) + 1 == 5)) = true := by rw [g1]; simp
            have e2 : (c.ns.length == x.k.count 1) = true := beq_iff_eq.2 (by omega)
            have e3 : (c.ks.length == x.k.count 2) = true := beq_iff_eq.2 (by omega)
            have HF2 : Hid (R = (!(c.ns.any badS) && !(c.ks.any badK))) := by unfold Hid; rw [HF.out, e1, e2, e3]; simp
            clear g1 g2 g3 e1 e2 e3
            have HN1 := HN.out _ HBB.out
            cases hbn : c.ns.any badS with
            | true =>
              rw [hbn] at HN1
              have HF3 : Hid (R = false) := by unfold Hid; rw [HF2.out, hbn]; rfl
              refine HN1.mono ?_
              rintro e w6 ⟨rfl, q6, rfl⟩
              have HBd : Hid (Below w.heap.size w (wr.drewN q6)) := hb1 ▸ below_drewN HBB.out q6
              go_wp2_with fail
              go_ret
              exact ⟨by rw [HF3.out]; rfl, HBd.out⟩
            | false =>
              rw [hbn] at HN1
              refine HN1.mono ?_
              rintro e w6 ⟨rfl, q6, rfl⟩
              have HBd := Lib.hid (below_drewN HBB.out q6)
              have HF3 : Hid (R = !(c.ks.any badK)) := by unfold Hid; rw [HF2.out, hbn]; rfl
              have HK1 := HK.out _ HBd.out
              generalize c.ks.any badK = bk at *
              go_wp2_with fail
              refine HK1.mono ?_
              rintro e w7 ⟨rfl, q7, rfl⟩
              have HBe : Hid (Below w.heap.size w ((wr.drewN q6).drewN q7)) := hb1 ▸ below_drewN HBd.out q7
              go_wp2_with fail
              go_ret
              exact ⟨by rw [HF3.out]; rfl, by have := HBe.out; rwa [World.drewN_drewN] at this⟩
          · have g3 : ¬ (c.ks.length : Int) = (x.k.count 2 : Nat) := by assumption
            have e3 : (c.ks.length == x.k.count 2) = false := beq_eq_false_iff_ne.2 (fun h => g3 (by rw [h]))
            have HF3 : Hid (R = false) := by unfold Hid; rw [HF.out, e3]; simp
            go_ret
            exact ⟨by rw [HF3.out]; rfl, HBr.out⟩
          · have g2 : ¬ (c.ns.length : Int) = (x.k.count 1 : Nat) := by assumption
            have e2 : (c.ns.length == x.k.count 1) = false := beq_eq_false_iff_ne.2 (fun h => g2 (by rw [h]))
            have HF3 : Hid (R = false) := by unfold Hid; rw [HF.out, e2]; simp
            go_ret
            exact ⟨by rw [HF3.out]; rfl, HBr.out⟩
          · have g1 : ¬ (c.h != 0) = ((i : Int) + 1 == 5) := by assumption
            have e1 : ((c.h != 0) == ((i : Int) + 1 == 5)) = false := beq_eq_false_iff_ne.2 g1
            have HF3 : Hid (R = false) := by unfold Hid; rw [HF.out, e1]; simp
            go_ret
            exact ⟨by rw [HF3.out]; rfl, HBr.out⟩
end Go.Proofs.YtikkfbkpgejneaaDoor
/- A drawn region that calls and makes memory, GUARDED operations too, where each guard is known to be met: one walk, by facts on the temporaries. -/
namespace Go.Proofs.YtikkfbkpgejneaaDoor
open Go.RowKit
def rgOnce (ops : Array Oper) : Bool := (List.range ops.size).all fun i => (List.range ops.size).all fun j => i == j || ((rgDst ops i).isNone || rgDst ops i != rgDst ops j)
def rgGuard (ops : Array Oper) (F : Nat → Value → World → Prop) (o : Oper) : Prop :=
  match o.guard with
  | none => True
  | some (j, b) => rgDep o j = true ∧ ∃ d, rgDst ops j = some d ∧ ∀ v w, F d v w → v = .bool b
theorem wp_region_guards {P : Program} {ops : Array Oper} {Q : Exit → Act → World → Prop} {id : Nat} {a0 : Act} {w0 : World} (hm : P.follows .mixedOrders = true) (F : Nat → Value → World → Prop)
    (hF : ∀ d v w w', F d v w → Below w.heap.size w w' → F d v w') (hp : rgOnce ops = true) (hgd : AllOps (rgGuard ops F) ops.toList) (hbk : rgBack ops = true) (hsz0 : rgSz ops a0.tmps.size = true)
    (step : AllOps (fun o => ∀ a w, RgAt ops F a0 w0.drew a w → (∀ j d, rgDep o j = true → rgDst ops j = some d → F d (a.tmps.getD d undef) w) →
      o.wp P a w (fun a' w' => ∃ v, a' = a.put o.dst v ∧ Below w.heap.size w w' ∧ ∀ d, o.dst = some d → F d v w') Q) ops.toList)
    (fin : ∀ a w, RgAt ops F a0 w0.drew a w → (∀ j d, rgDst ops j = some d → F d (a.tmps.getD d undef) w) → Q .normal a w) : (Code.region id ops true).wp P Q a0 w0 := by
  have hsz := rgSz_spec hsz0
  refine wp_region_any hm ?_
  have hp2 : ∀ i j d, rgDst ops i = some d → rgDst ops j = some d → i = j := fun i j d h1 h2 => by
    unfold rgOnce at hp
    rw [List.all_eq_true] at hp
    have hi : i < ops.size := by unfold rgDst at h1; rcases Nat.lt_or_ge i ops.size with h | h; exact h; simp [Array.getElem?_eq_none h] at h1
    have hj : j < ops.size := by unfold rgDst at h2; rcases Nat.lt_or_ge j ops.size with h | h; exact h; simp [Array.getElem?_eq_none h] at h2
    have := hp i (List.mem_range.2 hi)
    rw [List.all_eq_true] at this
    have := this j (List.mem_range.2 hj)
    rw [h1, h2] at this
    simpa using this
  have hall : ∀ (listed : Array Bool), listed.size = ops.size → Region.ready .any ops listed = [] → ∀ j, j < ops.size → listed.getD j false = true := fun listed hs hr j => by
    induction j using Nat.strongRecOn with
    | _ j ih =>
      intro hj
      rcases hv : listed.getD j true with _ | _
      · exfalso
        have hmem : j ∈ Region.ready .any ops listed := by
          rw [mem_ready]
          refine ⟨hv, ops[j], Array.getElem?_eq_getElem hj, fun e he hb => ?_⟩
          unfold rgBack at hbk
          rw [List.all_eq_true] at hbk
          have := hbk j (List.mem_range.2 hj)
          rw [Array.getElem?_eq_getElem hj] at this
          simp only [Option.map_some, Option.getD_some, Array.all_eq_true_iff_forall_mem] at this
          have := this e he
          rw [hb] at this
          have hlt : e.on < j := by simpa using this
          exact ih _ hlt (by omega)
        rw [hr] at hmem
        cases hmem
      · have : j < listed.size := by omega
        simpa [this] using hv
  have main : ∀ (fuel : Nat) (listed : Array Bool) (a : Act) (w : World), listed.toList.count false ≤ fuel → listed.size = ops.size → RgAt ops F a0 w0.drew a w →
      (∀ j d, listed.getD j false = true → rgDst ops j = some d → F d (a.tmps.getD d undef) w) → wpAny P .any ops Q fuel listed a w := by
    have hdone : ∀ (listed : Array Bool) (a : Act) (w : World), listed.size = ops.size → RgAt ops F a0 w0.drew a w → (∀ j d, listed.getD j false = true → rgDst ops j = some d → F d (a.tmps.getD d undef) w) → Region.ready .any ops listed = [] → Q .normal a w := fun listed a w hs hA hd hr => by
      refine fin a w hA fun j d hj => hd j d ?_ hj
      have hlt : j < ops.size := by unfold rgDst at hj; rcases Nat.lt_or_ge j ops.size with h | h; exact h; simp [Array.getElem?_eq_none h] at hj
      exact hall listed hs hr j hlt
    intro fuel
    induction fuel with
    | zero =>
      intro listed a w hc hs hA hd
      have hr : Region.ready .any ops listed = [] := by
        rw [List.eq_nil_iff_forall_not_mem]
        intro j hj
        have h0 := (mem_ready.1 hj).1
        have hj2 : j < listed.size := by rcases Nat.lt_or_ge j listed.size with h | h; exact h; simp [Array.getElem?_eq_none h] at h0
        have hm : false ∈ listed.toList := by
          have : listed[j] = false := by simpa [hj2] using h0
          rw [← this]; simp
        have := List.count_pos_iff.2 hm
        omega
      exact ⟨hr, hdone listed a w hs hA hd hr⟩
    | succ fuel ih =>
      intro listed a w hc hs hA hd
      refine ⟨hdone listed a w hs hA hd, fun i hi => ?_⟩
      obtain ⟨h0, o, ho, haf⟩ := mem_ready.1 hi
      have hj2 : i < listed.size := by rcases Nat.lt_or_ge i listed.size with h | h; exact h; simp [Array.getElem?_eq_none h] at h0
      have h0' : listed[i] = false := by simpa [hj2] using h0
      have hD2 : ∀ j d, rgDep o j = true → rgDst ops j = some d → F d (a.tmps.getD d undef) w := fun j d hdep hjd => hd j d (by
        unfold rgDep at hdep
        obtain ⟨k, hk, h2⟩ := Array.any_eq_true.1 hdep
        have he := Array.getElem_mem hk
        generalize o.after[k] = e at h2 he
        rw [Bool.and_eq_true, beq_iff_eq] at h2
        have := haf e he h2.2
        rwa [h2.1] at this) hjd
      have hst := AllOps.at step (i := i) (o := o) (by simpa using ho) a w hA hD2
      unfold wpOp
      simp only [ho]
      have hw : Region.wanted o (yielded ops a.tmps) = true := by
        have hg := AllOps.at hgd (i := i) (o := o) (by simpa using ho)
        unfold rgGuard at hg
        unfold Region.wanted
        split at hg
        · rename_i h; rw [h]
        · rename_i j b h
          rw [h]
          obtain ⟨hdep, d, hjd, hv⟩ := hg
          have hf := hv _ _ (hD2 j d hdep hjd)
          have hdl := hsz j d hjd
          have hdl2 : d < a.tmps.size := by rw [hA.size]; exact hdl
          have e : a.tmps[d]? = some (.bool b) := by
            rw [Array.getElem?_eq_getElem hdl2]
            have : a.tmps.getD d undef = a.tmps[d] := by simp [hdl2]
            rw [← this, hf]
          have hj2 : (ops[j]?).bind (·.dst) = some d := hjd
          simp only [yielded, hj2, Option.bind_some, e, beq_self_eq_true]
      rw [if_pos hw]
      refine .inl (Oper.wp_mono ?_ hst)
      rintro a' w' ⟨v, rfl, hb, hv⟩
      refine ih _ _ _ ?_ (by simpa using hs) ⟨?_, ?_, hA.below.trans (hb.mono hA.below.size), fun t ht => (rgFree_put ho ht).trans (hA.frame t ht)⟩ ?_
      · rw [Array.toList_setIfInBounds, List.count_set (by simpa using hj2)]
        have e1 : listed.toList[i]'(by simpa using hj2) = false := by simpa using h0'
        have : 0 < listed.toList.count false := List.count_pos_iff.2 (by rw [← e1]; exact List.getElem_mem _)
        rw [e1]
        rw [if_neg (by decide : ¬ (true == false) = true)]
        simp only [beq_self_eq_true, if_true]
        omega
      · unfold Act.put; split <;> simp [hA.size]
      · unfold Act.put; split <;> exact hA.defers
      · intro j d hl hjd
        by_cases hij : j = i
        · subst hij
          have hod : o.dst = some d := by simpa [rgDst, ho] using hjd
          have := hv d hod
          have hds : d < a.tmps.size := by rw [hA.size]; exact hsz j d hjd
          have e2 : (a.put o.dst v).tmps.getD d undef = v := by unfold Act.put; rw [hod]; simp [hds]
          rw [e2]; exact this
        · rw [getD_set_ne false (Ne.symm hij)] at hl
          have e2 : (a.put o.dst v).tmps.getD d undef = a.tmps.getD d undef := by
            unfold Act.put
            split
            · rename_i d2 hd2
              have hne : d2 ≠ d := by
                rintro rfl
                exact hij (hp2 j i d2 hjd (by simpa [rgDst, ho] using hd2))
              simp [Array.getElem?_setIfInBounds_ne hne]
            · rfl
          rw [e2]
          exact hF d _ w w' (hd j d hl hjd) hb
  refine main ops.size _ a0 _ ?_ (by simp) ⟨rfl, rfl, Below.refl _ _, fun _ _ => rfl⟩ ?_
  · simp
  · intro j d hl
    exfalso
    rcases Nat.lt_or_ge j ops.size with h | h
    · simp [h] at hl
    · simp [h] at hl
end Go.Proofs.YtikkfbkpgejneaaDoor
/- The temporaries behind a drawn region, written as puts into the frame ahead of it. -/
namespace Go.Proofs.YtikkfbkpgejneaaDoor
open Go.RowKit
theorem foldl_put (g : Nat → Value) : ∀ (ds : List Nat) (t : Array Value), (ds.foldl (fun t d => t.setIfInBounds d (g d)) t).size = t.size ∧ ∀ i, i < t.size → (ds.foldl (fun t d => t.setIfInBounds d (g d)) t).getD i undef = if i ∈ ds then g i else t.getD i undef
  | [], t => ⟨rfl, fun i _ => by simp⟩
  | d :: ds, t => by
    obtain ⟨h1, h2⟩ := foldl_put g ds (t.setIfInBounds d (g d))
    refine ⟨by rw [List.foldl_cons, h1]; simp, fun i hi => ?_⟩
    rw [List.foldl_cons, h2 i (by simpa using hi)]
    by_cases hm : i ∈ ds
    · rw [if_pos hm, if_pos (List.mem_cons_of_mem _ hm)]
    · rw [if_neg hm]
      by_cases he : i = d
      · subst he
        rw [if_pos List.mem_cons_self]
        simp [hi]
      · rw [if_neg (by simp [he, hm])]
        simp [Array.getElem?_setIfInBounds_ne (Ne.symm he)]
def rgSlots (ops : Array Oper) (n : Nat) (ds : List Nat) : Bool := (List.range n).all fun t => ds.contains t || rgFree ops t
/-- the temporaries behind the region: those that it sets, put into the frame ahead of it -/
theorem tmps_put {ops : Array Oper} {F : Nat → Value → World → Prop} {a0 a : Act} {w0 w : World} (h : RgAt ops F a0 w0 a w) (ds : List Nat) (hds : rgSlots ops a0.tmps.size ds = true) :
    a.tmps = ds.foldl (fun t d => t.setIfInBounds d (a.tmps.getD d undef)) a0.tmps := by
  obtain ⟨h1, h2⟩ := foldl_put (fun d => a.tmps.getD d undef) ds a0.tmps
  apply Array.ext
  · rw [h1, h.size]
  · intro i hi hi2
    have hi0 : i < a0.tmps.size := by rw [← h.size]; exact hi
    have e1 : a.tmps[i] = a.tmps.getD i undef := (Array.getElem_eq_getD undef)
    have e2 := h2 i hi0
    rw [← Array.getElem_eq_getD (h := hi2) undef] at e2
    rw [e1, e2]
    by_cases hm : i ∈ ds
    · rw [if_pos hm]
    · rw [if_neg hm]
      unfold rgSlots at hds
      rw [List.all_eq_true] at hds
      have := hds i (List.mem_range.2 hi0)
      rw [Bool.or_eq_true] at this
      rcases this with h3 | h3
      · exact absurd (by simpa using h3) hm
      · exact h.frame i h3
end Go.Proofs.YtikkfbkpgejneaaDoor
/- A row of one text that was just built is an own row. -/
namespace Go.Proofs.YtikkfbkpgejneaaDoor
open Go.RowKit
theorem own_one (w : World) (s : ByteArray) : (w.alloc (.cells #[.string s] 9)).ownsRow w.heap.size 9 1 (.slice (some ⟨w.heap.size, 0, none⟩) 1 1) 1 [.string s] :=
  ⟨rfl, .inr ⟨w.heap.size, 1, #[.string s], rfl, Nat.le_refl _, heap_alloc_new w _, by simp [maxLen]⟩⟩
end Go.Proofs.YtikkfbkpgejneaaDoor
/- 'append(words, l...)' of any list that reads (the empty one too), to an own row. -/
namespace Go.Proofs.YtikkfbkpgejneaaDoor
open Go.RowKit
theorem wpList_appRd {P : Program} {t e : TypeId} {size bytes : Nat} (hE : ElemOK P t e size bytes) {B : Nat} {wr : World} {ops : Array Oper} {rest : List Oper} {o : Oper} {a : Act} {Q : Exit → Act → World → Prop} (hgd : o.guard = none) (s x : Operand)
    (ho : o.op = .call { callee := .builtin .append, args := #[s, x], argTypes := #[t, t] })
    {v vx : Value} {n m : Nat} {xs ys : List Value} (hown : wr.ownsRow B e size v n xs) (hs : a.eval s = v) (hrd : Rd wr vx m size ys) (hx : a.eval x = vx) (h1 : ∀ u ∈ ys, u.oneCell' = true)
    (hm : n + m ≤ maxLen) (hn : (n + m) * bytes ≤ 140737488355328) (hB : B ≤ wr.heap.size)
    (h : ∀ v' w', w'.ownsRow B e size v' (n + m) (xs ++ ys) → wr.grownBy w' v.ownBlock → wpList P ops Q rest (a.put o.dst v') w') :
    wpList P ops Q (o :: rest) a wr := by
  obtain ⟨hl, ao, cap, rfl, hmc, hcm, h5⟩ := hrd
  cases ao with
  | none =>
    have hm0 : m = 0 := by rcases h5 with h5 | ⟨_, _, h6, _⟩; exact h5; cases h6
    subst hm0
    obtain rfl : ys = [] := List.length_eq_zero_iff.1 (by rw [hl]; simp)
    obtain ⟨_, bo, bc, hve, hnc, -⟩ := Rd.of_owns hown
    refine wpList_app0 hE hgd s x ho (hs.trans hve) hnc hx ?_
    rw [← hve]
    exact h _ _ (by simpa using hown) ⟨rfl, rfl, rfl, Nat.le_refl _, fun _ _ _ => rfl⟩
  | some ad =>
    have hnews : ∀ j u, ys[j]? = some u → wr.cell? (ad.add j) = some u := by
      rcases h5 with h5 | ⟨b, off, h6, _, h8⟩
      · subst h5
        obtain rfl : ys = [] := List.length_eq_zero_iff.1 (by rw [hl]; simp)
        intro j u hj; simp at hj
      · cases h6
        intro j u hj
        rw [Addr.add_lit]; exact h8 j u hj
    exact wpList_appG hE hgd s x ho hown hs hx hl hnews h1 hm hn hB h
end Go.Proofs.YtikkfbkpgejneaaDoor
/- As LibRi, but the frame ahead of the last operation still holds what only the last operation puts (an assignment to a slot that the region reads). Also: append to a full row, as one operation. -/
namespace Go.Proofs.YtikkfbkpgejneaaDoor
open Go.RowKit
def rgLast2 (ops : Array Oper) (m : Nat) : Bool := (List.range m).all fun j => match ops[m]? with | some o => rgDep o j | none => false
theorem wp_region_last2 {P : Program} {ops : Array Oper} {Q : Exit → Act → World → Prop} {id : Nat} {a0 : Act} {w0 : World} {m : Nat} (hm : P.follows .mixedOrders = true) (F : Nat → Value → World → Prop)
    (hF : ∀ d v w w', F d v w → Below w.heap.size w w' → F d v w') (hp : rgPlain ops = true) (hbk : rgBack ops = true) (hsz0 : rgSz ops a0.tmps.size = true)
    (step : AllOps (fun o => ∀ a w, RgAt (ops.extract 0 m) F a0 w0.drew a w → (∀ j d, rgDep o j = true → rgDst ops j = some d → F d (a.tmps.getD d undef) w) →
      o.wp P a w (fun a' w' => ∃ v, a' = a.put o.dst v ∧ Below w.heap.size w w' ∧ ∀ d, o.dst = some d → F d v w') Q) (ops.toList.take m)) (hm2 : ops.size = m + 1) (hlast : rgLast2 ops m = true)
    (fin : AllOps (fun o => ∀ a w, RgAt (ops.extract 0 m) F a0 w0.drew a w → (∀ j d, j < m → rgDst ops j = some d → F d (a.tmps.getD d undef) w) → o.wp P a w (fun a' w' => Q .normal a' w') Q) (ops.toList.drop m)) : (Code.region id ops true).wp P Q a0 w0 := by
  have hsz := rgSz_spec hsz0
  refine wp_region_any hm ?_
  have hp1 : ∀ (i : Nat) (o : Oper), ops[i]? = some o → o.guard = none := fun i o h => by
    unfold rgPlain at hp
    rw [Bool.and_eq_true, Array.all_eq_true] at hp
    obtain ⟨hlt, he⟩ := Array.getElem?_eq_some_iff.1 h
    have := hp.1 i hlt
    rw [he] at this
    simpa using this
  have hp2 : ∀ i j d, rgDst ops i = some d → rgDst ops j = some d → i = j := fun i j d h1 h2 => by
    unfold rgPlain at hp
    rw [Bool.and_eq_true, List.all_eq_true] at hp
    have hi : i < ops.size := by unfold rgDst at h1; rcases Nat.lt_or_ge i ops.size with h | h; exact h; simp [Array.getElem?_eq_none h] at h1
    have hj : j < ops.size := by unfold rgDst at h2; rcases Nat.lt_or_ge j ops.size with h | h; exact h; simp [Array.getElem?_eq_none h] at h2
    have := hp.2 i (List.mem_range.2 hi)
    rw [List.all_eq_true] at this
    have := this j (List.mem_range.2 hj)
    rw [h1, h2] at this
    simpa using this
  have hall : ∀ (listed : Array Bool), listed.size = ops.size → Region.ready .any ops listed = [] → ∀ j, j < ops.size → listed.getD j false = true := fun listed hs hr j => by
    induction j using Nat.strongRecOn with
    | _ j ih =>
      intro hj
      rcases hv : listed.getD j true with _ | _
      · exfalso
        have hmem : j ∈ Region.ready .any ops listed := by
          rw [mem_ready]
          refine ⟨hv, ops[j], Array.getElem?_eq_getElem hj, fun e he hb => ?_⟩
          unfold rgBack at hbk
          rw [List.all_eq_true] at hbk
          have := hbk j (List.mem_range.2 hj)
          rw [Array.getElem?_eq_getElem hj] at this
          simp only [Option.map_some, Option.getD_some, Array.all_eq_true_iff_forall_mem] at this
          have := this e he
          rw [hb] at this
          have hlt : e.on < j := by simpa using this
          exact ih _ hlt (by omega)
        rw [hr] at hmem
        cases hmem
      · have : j < listed.size := by omega
        simpa [this] using hv
  have main : ∀ (fuel : Nat) (listed : Array Bool) (a : Act) (w : World), listed.toList.count false ≤ fuel → listed.size = ops.size → listed.getD m false = false → RgAt (ops.extract 0 m) F a0 w0.drew a w →
      (∀ j d, listed.getD j false = true → rgDst ops j = some d → F d (a.tmps.getD d undef) w) → wpAny P .any ops Q fuel listed a w := by
    have hdone : ∀ (listed : Array Bool) (a : Act) (w : World), listed.size = ops.size → listed.getD m false = false → Region.ready .any ops listed = [] → Q .normal a w := fun listed a w hs hl hr => by
      have := hall listed hs hr m (by omega)
      rw [hl] at this; cases this
    intro fuel
    induction fuel with
    | zero =>
      intro listed a w hc hs hl hA hd
      have hr : Region.ready .any ops listed = [] := by
        rw [List.eq_nil_iff_forall_not_mem]
        intro j hj
        have h0 := (mem_ready.1 hj).1
        have hj2 : j < listed.size := by rcases Nat.lt_or_ge j listed.size with h | h; exact h; simp [Array.getElem?_eq_none h] at h0
        have hm : false ∈ listed.toList := by
          have : listed[j] = false := by simpa [hj2] using h0
          rw [← this]; simp
        have := List.count_pos_iff.2 hm
        omega
      exact ⟨hr, hdone listed a w hs hl hr⟩
    | succ fuel ih =>
      intro listed a w hc hs hl hA hd
      refine ⟨hdone listed a w hs hl, fun i hi => ?_⟩
      obtain ⟨h0, o, ho, haf⟩ := mem_ready.1 hi
      have hj2 : i < listed.size := by rcases Nat.lt_or_ge i listed.size with h | h; exact h; simp [Array.getElem?_eq_none h] at h0
      have h0' : listed[i] = false := by simpa [hj2] using h0
      have hio : i < ops.size := (Array.getElem?_eq_some_iff.1 ho).1
      by_cases him : i = m
      · subst him
        have hAll : ∀ j, j < i → listed.getD j false = true := fun j hj => by
          unfold rgLast2 at hlast
          rw [List.all_eq_true] at hlast
          have h1 := hlast j (List.mem_range.2 hj)
          rw [ho] at h1
          have h1 : rgDep o j = true := h1
          unfold rgDep at h1
          obtain ⟨k, hk, h2⟩ := Array.any_eq_true.1 h1
          have he := Array.getElem_mem hk
          generalize o.after[k] = e at h2 he
          rw [Bool.and_eq_true, beq_iff_eq] at h2
          have := haf e he h2.2
          rwa [h2.1] at this
        have hst := AllOps.at fin (i := 0) (o := o) (by rw [List.getElem?_drop]; simpa using ho) a w hA (fun j d hj hjd => hd j d (hAll j hj) hjd)
        unfold wpOp
        simp only [ho]
        have hw : Region.wanted o (yielded ops a.tmps) = true := by unfold Region.wanted; rw [hp1 i o ho]
        rw [if_pos hw]
        refine .inl (Oper.wp_mono ?_ hst)
        intro a' w' hQ
        have hr : Region.ready .any ops (listed.setIfInBounds i true) = [] := by
          rw [List.eq_nil_iff_forall_not_mem]
          intro j hj
          have h0j := (mem_ready.1 hj).1
          have hjs : j < listed.size := by
            rcases Nat.lt_or_ge j listed.size with h | h
            · exact h
            · simp [h] at h0j
          by_cases hji : j = i
          · subst hji; simp [hjs] at h0j
          · have := hAll j (by omega)
            simp [hjs] at this
            simp [hjs, Ne.symm hji, this] at h0j
        cases fuel with
        | zero => exact ⟨hr, hQ⟩
        | succ fuel => exact ⟨fun _ => hQ, fun j hj => by rw [hr] at hj; cases hj⟩
      have hst := AllOps.at step (i := i) (o := o) (by rw [List.getElem?_take_of_lt (by omega)]; simpa using ho) a w hA (fun j d hdep hjd => hd j d (by
        unfold rgDep at hdep
        obtain ⟨k, hk, h2⟩ := Array.any_eq_true.1 hdep
        have he := Array.getElem_mem hk
        generalize o.after[k] = e at h2 he
        rw [Bool.and_eq_true, beq_iff_eq] at h2
        have := haf e he h2.2
        rwa [h2.1] at this) hjd)
      unfold wpOp
      simp only [ho]
      have hw : Region.wanted o (yielded ops a.tmps) = true := by unfold Region.wanted; rw [hp1 i o ho]
      rw [if_pos hw]
      refine .inl (Oper.wp_mono ?_ hst)
      rintro a' w' ⟨v, rfl, hb, hv⟩
      refine ih _ _ _ ?_ (by simpa using hs) (by rw [getD_set_ne false him]; exact hl) ⟨?_, ?_, hA.below.trans (hb.mono hA.below.size), fun t ht => (rgFree_put (ops := ops.extract 0 m) (i := i) (by rw [Array.getElem?_extract]; simp only [Nat.min_eq_left (show m ≤ ops.size from by omega)]; rw [if_pos (show i < m - 0 from by omega)]; simpa using ho) ht).trans (hA.frame t ht)⟩ ?_
      · rw [Array.toList_setIfInBounds, List.count_set (by simpa using hj2)]
        have e1 : listed.toList[i]'(by simpa using hj2) = false := by simpa using h0'
        have : 0 < listed.toList.count false := List.count_pos_iff.2 (by rw [← e1]; exact List.getElem_mem _)
        rw [e1]
        rw [if_neg (by decide : ¬ (true == false) = true)]
        simp only [beq_self_eq_true, if_true]
        omega
      · unfold Act.put; split <;> simp [hA.size]
      · unfold Act.put; split <;> exact hA.defers
      · intro j d hl hjd
        by_cases hij : j = i
        · subst hij
          have hod : o.dst = some d := by simpa [rgDst, ho] using hjd
          have := hv d hod
          have hds : d < a.tmps.size := by rw [hA.size]; exact hsz j d hjd
          have e2 : (a.put o.dst v).tmps.getD d undef = v := by unfold Act.put; rw [hod]; simp [hds]
          rw [e2]; exact this
        · rw [getD_set_ne false (Ne.symm hij)] at hl
          have e2 : (a.put o.dst v).tmps.getD d undef = a.tmps.getD d undef := by
            unfold Act.put
            split
            · rename_i d2 hd2
              have hne : d2 ≠ d := by
                rintro rfl
                exact hij (hp2 j i d2 hjd (by simpa [rgDst, ho] using hd2))
              simp [Array.getElem?_setIfInBounds_ne hne]
            · rfl
          rw [e2]
          exact hF d _ w w' (hd j d hl hjd) hb
  refine main ops.size _ a0 _ ?_ (by simp) (by simp [hm2]) ⟨rfl, rfl, Below.refl _ _, fun _ _ => rfl⟩ ?_
  · simp
  · intro j d hl
    exfalso
    rcases Nat.lt_or_ge j ops.size with h | h
    · simp [h] at hl
    · simp [h] at hl
/-- 'append(out, l...)' to a row that is full: a new row -/
theorem op_append_new {P : Program} {t e : TypeId} {size bytes : Nat} (hE : ElemOK P t e size bytes) {w : World} {o : Oper} {a : Act} {K : Act → World → Prop} {Q : Exit → Act → World → Prop} (s x : Operand)
    (ho : o.op = .call { callee := .builtin .append, args := #[s, x], argTypes := #[t, t] }) {b : Addr} {n cap : Nat} {xs : List Value} (hs : a.eval s = .slice (some b) n cap) (hlo : xs.length = n * size)
    (holds : ∀ j u, xs[j]? = some u → w.cell? (b.add j) = some u) {ad : Addr} {m c : Nat} {news : List Value} (hx : a.eval x = .slice (some ad) m c) (hl : news.length = m * size)
    (hnews : ∀ j u, news[j]? = some u → w.cell? (ad.add j) = some u) (hg : cap < n + m) (h63 : n + m ≤ maxLen) (hb : (n + m) * bytes ≤ 140737488355328)
    (h : ∀ v' w', w'.ownsRow w.heap.size e size v' (n + m) (xs ++ news) → Below w.heap.size w w' → K (a.put o.dst v') w') : o.wp P a w K Q := by
  obtain ⟨i, z, ht, hi, hz, hz1, hz2, hz3, hz4⟩ := hE.ex
  obtain ⟨v', w', hr, h2, h3⟩ := run_append_arg_grows (P := P) w t o.type e i z size bytes ht hi hz hz1 hz2 hz3 hz4 b n cap xs hlo holds ad m c news hl hnews hg h63 hb
  unfold Oper.wp
  simp [execOp, ho, resolve, invoke, builtin, hs, hx, hr, Result.andThen]
  exact h v' w' h2 (below_grown h3)
end Go.Proofs.YtikkfbkpgejneaaDoor
