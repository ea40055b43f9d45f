import Derived.Test.YtbpipnjdfmpbdaaRrF
namespace Go.Proofs.Ytbpipnjdfmpbdaa
open Go.RowKit Go.Shelf

theorem own_below {w w' : World} {B : Nat} {v : Value} {l : List Nd} (h : OwnNd w B v l) (hb : Below w.heap.size w w') : OwnNd w' B v l := h.grown (grown_below hb) (by simp)
/-- what a function leaves that makes a list of nodes -/
def ERet (w : World) (l : List Nd) (e : Ending) (w' : World) : Prop := ∃ v, e = .returned v ∧ OwnNd w' w.heap.size v l ∧ Below w.heap.size w w'
theorem OwnNd.snoc {w : World} {B : Nat} {v : Value} {l : List Nd} {x : Nd} (h : w.ownsRow B 39 3 v (l.length + 1) (flatNd l ++ [.int .i64 x.k, .string x.n, .int .i64 x.c])) : OwnNd w B v (l ++ [x]) := by
  unfold OwnNd; rw [flatNd_app, List.length_append]; exact h
theorem nd_one {a b c : Value} (ha : a.oneCell' = true) (hb : b.oneCell' = true) (hc : c.oneCell' = true) : ∀ u ∈ [a, b, c], u.oneCell' = true := by
  intro u hu
  simp at hu
  rcases hu with rfl | rfl | rfl <;> assumption
theorem own_blk {w : World} {B : Nat} {v : Value} {l : List Nd} (h : OwnNd w B v l) {j : Nat} (hj : v.ownBlock = some j) : B ≤ j := own_block h j hj
theorem tk_suf {k : Int} (h : sufK k ≠ 0) : (k = 7 ∧ tkB k = 42 ∧ sufK k = 6) ∨ (k = 8 ∧ tkB k = 43 ∧ sufK k = 7) ∨ (k = 9 ∧ tkB k = 63 ∧ sufK k = 8) := by
  rcases suf_cases h with rfl | rfl | rfl
  · exact .inl ⟨rfl, rfl, rfl⟩
  · exact .inr (.inl ⟨rfl, rfl, rfl⟩)
  · exact .inr (.inr ⟨rfl, rfl, rfl⟩)

set_option maxRecDepth 100000 in
set_option maxHeartbeats 3200000 in
theorem rUnit_any (E : Nat → PR) (v : Value) (L : List Mk) (p q pa : Nat) (fu fa : Fo) (w : World) (h : TkS w v L p q) (U : UF E L p fu q fa pa) (hl : L.length < 16777216) (hfs : fa.flat.length ≤ 33554432) (hf1 : 0 < fa.flat.length)
    (HT : kd L p = 10 → ∀ v w, TkS w v L (p + 1) (pa - 1) → Calls Try.prog 50 #[v] w (ERet w fa.flat)) :
    Calls Try.prog 103 #[v, .int .i64 ((pa - p : Nat) : Int)] w (ERet w fu.flat) := by
  have HS := Lib.hid h
  obtain ⟨b, off, cap, rfl, hcap, hb, hcs⟩ := h.ex
  have hlt := h.lt
  have hle := h.le
  have h1 := U.lt
  have h2 := U.le
  have HU := Lib.hid U
  have HCS := Lib.hid hcs
  have HTr := Lib.hid HT
  obtain ⟨n, hn⟩ : ∃ n, n = q - p := ⟨_, rfl⟩
  obtain ⟨a, ha⟩ : ∃ a, a = pa - p := ⟨_, rfl⟩
  rw [← hn] at HS hcap ⊢
  rw [← ha]
  have hna : a ≤ n := by omega
  have ha1 : 1 ≤ a := by omega
  have hnl : n < 16777216 := by omega
  have HN : Hid (n = q - p) := hn
  have HAa : Hid (a = pa - p) := ha
  have hpn : p + n = q := by omega
  have hpa : p + a = pa := by omega
  clear hcs HT U h hn ha
  have hn1 : ((n : Int) - 1) = ((n - 1 : Nat) : Int) := by omega
  have HN1 := Lib.hid hn1
  clear hn1
  have hd : decide (n < a) = false := by simp; omega
  go_enter Try.func103, Try.ntmps103
  go_wp2
  rw [HN1.out]
  go_loopw [5, 6] (fun o i wr => ∃ (y : Nat) (lo : List Nd), i = .int .i64 y ∧ a ≤ y + 1 ∧ y + 1 ≤ n ∧ OwnNd wr w.heap.size o lo ∧ Hid (lo.length ≤ n) ∧ Hid (Below w.heap.size w wr) ∧ Hid (sufN L pa (n - a) = lo ++ sufN L pa (y + 1 - a) ∧ lo.length + (y + 1 - a) = n - a)) (fun _ i _ => (intOf i).toNat + 1 - a)
  case atStart => exact ⟨n - 1, [], rfl, by omega, by omega, World.ownsRow_nil _ _ _ _, by simp [Hid], Below.refl _ _, by rw [show n - 1 + 1 - a = n - a from by omega]; exact ⟨rfl, by simp⟩⟩
  case round =>
    obtain ⟨y, lo, rfl, hy1, hy2, hown, HLn, HBel, HSuf⟩ := hrel
    have hlo : lo.length ≤ n := HLn.out
    by_cases hay : a ≤ y
    · have hxl : p + y < L.length := by omega
      obtain ⟨m, hm⟩ : ∃ m, L[p + y]? = some m := ⟨_, List.getElem?_eq_getElem hxl⟩
      obtain ⟨x0, -⟩ := HCS.out y m (by omega) hm
      have X0 := (HBel.out.cell (p := ⟨b, _, none⟩) hb).trans x0
      have hk := HU.out.suf (p + y) (by omega) (by omega)
      have hkd : kd L (p + y) = m.k := kd_some hm
      rw [hkd] at hk
      obtain ⟨c, hc⟩ : ∃ c, c = sufK m.k := ⟨_, rfl⟩
      have HSuf2 : Hid (sufN L pa (n - a) = (lo ++ [⟨c, ⟨#[]⟩, 1⟩]) ++ sufN L pa (y - 1 + 1 - a) ∧ (lo ++ [(⟨c, ⟨#[]⟩, 1⟩ : Nd)]).length + (y - 1 + 1 - a) = n - a) := by
        have e : y + 1 - a = (y - a) + 1 := by omega
        obtain ⟨s1, s2⟩ := HSuf.out
        rw [e] at s1
        refine ⟨?_, by simp; omega⟩
        rw [s1]
        show lo ++ (⟨sufK (kd L (pa + (y - a))), ⟨#[]⟩, 1⟩ :: sufN L pa (y - a)) = _
        rw [show pa + (y - a) = p + y from by omega, hkd, ← hc, show y - 1 + 1 - a = y - a from by omega]
        simp
      have hy3 : ((y : Int) - 1) = ((y - 1 : Nat) : Int) := by omega
      have HY3 := Lib.hid hy3
      clear x0 hm hkd HSuf hy3
      have hws := HBel.out.size
      rcases tk_suf hk with ⟨-, t1, t2⟩ | ⟨-, t1, t2⟩ | ⟨-, t1, t2⟩
      all_goals
        rw [t1] at X0
        rw [t2] at hc
        subst hc
        clear hk t1 t2
        go_wp2_with (at_builtin; go_must (refine wpList_appG1 elemNd rfl _ _ rfl hown rfl (news := [.int .i64 _, .string ⟨#[]⟩, .int .i64 1]) rfl rfl (nd_one rfl rfl rfl) (by unfold maxLen; omega) (by omega) hws ?_); intro v' w3 hown3 hg3)
        have HO3 := Lib.hid (OwnNd.snoc (l := lo) (x := ⟨_, ⟨#[]⟩, 1⟩) hown3)
        have HB3 : Hid (Below w.heap.size w w3) := HBel.out.grown hg3 hws (fun j hj => own_blk hown hj)
        clear hown3 hg3
        rw [HY3.out]
        go_roundw
        case rel => exact ⟨y - 1, _, rfl, by omega, by omega, HO3.out, by unfold Hid; rw [List.length_append]; simp; have := HSuf2.out.2; simp at this; omega, HB3.out, HSuf2.out⟩
        case measure => simp [intOf]; omega
    · have hya : y + 1 - a = 0 := by omega
      have HSuf2 : Hid (fu.flat = lo ++ fa.flat) := by
        obtain ⟨s1, s2⟩ := HSuf.out
        unfold Hid
        rw [HU.out.flat, show q - pa = n - a from by omega, s1, hya]
        simp [sufN]
      have h0l : p < L.length := by omega
      obtain ⟨m, hm⟩ : ∃ m, L[p]? = some m := ⟨_, List.getElem?_eq_getElem h0l⟩
      obtain ⟨x0, x2⟩ := HCS.out 0 m (by omega) hm
      rw [Nat.zero_mul, Nat.add_zero] at x0 x2
      have X0 := (HBel.out.cell (p := ⟨b, _, none⟩) hb).trans x0
      have X2 := (HBel.out.cell (p := ⟨b, _, none⟩) hb).trans x2
      have hkd : kd L p = m.k := kd_some hm
      have htx : tx L p = m.t := tx_some hm
      have hws := HBel.out.size
      have hcase := begins_cases HU.out.beg
      rw [hkd] at hcase
      have HKd := Lib.hid hkd
      have HTx := Lib.hid htx
      clear x0 x2 hm HSuf hkd htx hya
      rcases hcase with hk | hk | hk | hk
      · have HF : Hid (fu.flat = lo ++ [⟨2, m.t, 0⟩]) := by unfold Hid; rw [HSuf2.out, HU.out.lf1 (by rw [HKd.out]; exact hk), HTx.out]
        rw [hk, show tkB 1 = 85 from rfl] at X0
        clear hk HSuf2
        go_wp2_with (at_builtin; go_must (refine wpList_appG1 elemNd rfl _ _ rfl hown rfl (news := [.int .i64 2, .string m.t, .int .i64 0]) rfl rfl (nd_one rfl rfl rfl) (by unfold maxLen; omega) (by omega) hws ?_); intro v' w3 hown3 hg3)
        go_ret
        rw [HF.out]
        exact ⟨v', rfl, OwnNd.snoc hown3, HBel.out.grown hg3 hws (fun j hj => own_blk hown hj)⟩
      · have HF : Hid (fu.flat = lo ++ [⟨3, m.t, 0⟩]) := by unfold Hid; rw [HSuf2.out, HU.out.lf2 (by rw [HKd.out]; exact hk), HTx.out]
        rw [hk, show tkB 2 = 76 from rfl] at X0
        clear hk HSuf2
        go_wp2_with (at_builtin; go_must (refine wpList_appG1 elemNd rfl _ _ rfl hown rfl (news := [.int .i64 3, .string m.t, .int .i64 0]) rfl rfl (nd_one rfl rfl rfl) (by unfold maxLen; omega) (by omega) hws ?_); intro v' w3 hown3 hg3)
        go_ret
        rw [HF.out]
        exact ⟨v', rfl, OwnNd.snoc hown3, HBel.out.grown hg3 hws (fun j hj => own_blk hown hj)⟩
      · have HF : Hid (fu.flat = lo ++ [⟨1, ⟨#[]⟩, 0⟩]) := by unfold Hid; rw [HSuf2.out, HU.out.lf3 (by rw [HKd.out]; exact hk)]
        rw [hk, show tkB 12 = 37 from rfl] at X0
        clear hk HSuf2
        go_wp2_with (at_builtin; go_must (refine wpList_appG1 elemNd rfl _ _ rfl hown rfl (news := [.int .i64 1, .string ⟨#[]⟩, .int .i64 0]) rfl rfl (nd_one rfl rfl rfl) (by unfold maxLen; omega) (by omega) hws ?_); intro v' w3 hown3 hg3)
        go_ret
        rw [HF.out]
        exact ⟨v', rfl, OwnNd.snoc hown3, HBel.out.grown hg3 hws (fun j hj => own_blk hown hj)⟩
      · obtain ⟨u1, u2, u3, u4⟩ := HU.out.brk (by rw [HKd.out]; exact hk)
        rw [hk, show tkB 10 = 40 from rfl] at X0
        have HS3 : Hid (∀ wx, Below w.heap.size w wx → TkS wx (.slice (some ⟨b, off + 3, none⟩) (a - 1 - 1) (cap - 1)) L (p + 1) (pa - 1)) := by
          intro wx hbx
          have := (HS.out.below hbx).sub 1 (a - 1) (by omega) (by omega)
          rw [show p + (a - 1) = pa - 1 from by omega, Nat.one_mul] at this
          exact this
        have HT2 := Lib.hid (HTr.out (by rw [HKd.out]; exact hk) _ _ (HS3.out _ HBel.out))
        have ha2 : 3 ≤ a := by omega
        clear hk u1 u2 u3 u4
        go_wp2_with fail
        refine (HT2.out).mono ?_
        rintro e w3 ⟨v3, rfl, ho3, hb3⟩
        obtain ⟨gb, gc, rfl, hgB, hgl, hgc, hcs3⟩ := own_src ho3 hf1
        have HCS3 := Lib.hid hcs3
        have hown3 := own_below hown hb3
        have HB3 : Hid (Below w.heap.size w w3) := HBel.out.trans (hb3.mono hws)
        have hws3 : w.heap.size ≤ w3.heap.size := HB3.out.size
        clear hcs3 ho3 hb3 HCS
        go_wp2_with (at_builtin; go_must (refine wpList_appG elemNd rfl _ _ rfl hown3 rfl (news := flatNd fa.flat) rfl (flatNd_len _) HCS3.out (flatNd_one _) (by unfold maxLen; omega) (by omega) hws3 ?_); intro v' w4 hown4 hg4)
        go_ret
        rw [HSuf2.out]
        refine ⟨v', rfl, ?_, HB3.out.grown hg4 hws3 (fun j hj => own_blk hown3 hj)⟩
        show World.ownsRow _ _ _ _ _ _ _
        rw [flatNd_app, List.length_append]; exact hown4
end Go.Proofs.Ytbpipnjdfmpbdaa
