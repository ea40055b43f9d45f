import Derived.Test.YtbpipnjdfmpbdaaRxD
import Derived.RangeFuncBox
import Derived.RangeFuncNested
namespace Go.Proofs.Ytbpipnjdfmpbdaa
open Go.RowKit Go.Shelf

/-- what a function that may read one more leaves -/
def MRet (Br : Nat) (vl : Value) (L : List Mk) (en : Int) (w : World) (q : Nat) (s : Option PR) (e : Ending) (w' : World) : Prop :=
  w.grownBy w' (some Br) ∧ ((s = none ∧ e = .returned (.tuple #[.slice none 0 0, .bool false]) ∧ Rdr w' Br vl L q en) ∨
    ∃ r, s = some r ∧ ((r.ok = true ∧ ∃ v, e = .returned (.tuple #[v, .bool true]) ∧ OwnNd w' w.heap.size v r.f.flat ∧ Rdr w' Br vl L r.p en) ∨ (r.ok = false ∧ e = .panicked (wrongV (plc L en r.p)))))
/-- the reader's pointer in its box -/
def BoxR (w : World) (Bx Br : Nat) : Prop := Boxed w Bx 71 (.pointer (some ⟨Br, 0, none⟩)) ∧ Bx ≠ Br
theorem BoxR.kept {w w' : World} {Bx Br : Nat} (h : BoxR w Bx Br) (hg : w.grownBy w' (some Br)) : BoxR w' Bx Br := ⟨h.1.kept hg (by simpa using h.2), h.2⟩
/-- what one more that is read must be -/
structure SB (L : List Mk) (q : Nat) (r : PR) : Prop where
  le : r.p ≤ L.length
  lt : r.ok = true → q < r.p
  size : r.ok = true → r.f.size ≤ 2 * (r.p - q)
  one : r.ok = true → r.f.len = 1
theorem pMany_none {S : Nat → Option PR} {k : Int} {m p : Nat} {f : Fo} {n : Nat} (h : S p = none) : pMany S k m p f n = ⟨true, wrapF k n f, p⟩ := by
  cases m with
  | zero => rfl
  | succ m => unfold pMany; rw [h]
theorem pMany_good {S : Nat → Option PR} {k : Int} {m p : Nat} {f : Fo} {n : Nat} {r : PR} (h : S p = some r) (hok : r.ok = true) : pMany S k (m + 1) p f n = pMany S k m r.p (f.app r.f) (n + 1) := by
  conv => lhs; unfold pMany
  rw [h]
  simp only [hok, if_true]
theorem pMany_bad {S : Nat → Option PR} {k : Int} {m p : Nat} {f : Fo} {n : Nat} {r : PR} (h : S p = some r) (hok : r.ok = false) : pMany S k (m + 1) p f n = r := by
  conv => lhs; unfold pMany
  rw [h]; simp [hok]

set_option maxRecDepth 100000 in
set_option maxHeartbeats 3200000 in
theorem xMany_any (Br Bx : Nat) (vl : Value) (L : List Mk) (p : Nat) (en : Int) (k : Int) (S : Nat → Option PR) (g : Nat) (f : Fo) (v0 : Value) (w0 w : World) (p0 : Nat) (hr0 : Rdr w0 Br vl L p0 en) (hg0 : w0.grownBy w (some Br)) (hx : BoxR w Bx Br) (hr : Rdr w Br vl L p en) (ho : OwnNd w w0.heap.size v0 f.flat) (hp : p ≤ L.length) (hl : L.length < 4294967296)
    (hf1 : f.len = 1) (hfs : f.size ≤ 2 * p)
    (heg : ∀ args w, (callFunc g args).run Try.prog w = .ok (.enter g args) w)
    (hmore : ∀ q wq, p ≤ q → BoxR wq Bx Br → Rdr wq Br vl L q en → q ≤ L.length → Calls Try.prog g #[.pointer (some ⟨Bx, 0, none⟩)] wq (MRet Br vl L en wq q (S q)))
    (hS : ∀ q r, p ≤ q → q ≤ L.length → S q = some r → SB L q r ∧ (r.ok = false → q < L.length)) :
    Calls Try.prog 74 #[v0, .int .i64 k, .func (.func g) #[] #[.pointer (some ⟨Bx, 0, none⟩)]] w (PRet Br vl L en w0 (pMany S k (L.length - p) p f 1)) := by
  have hB0 := hr0.lt
  have HR0 := Lib.hid hr0
  clear hr0
  have HM := Lib.hid hmore
  have HS := Lib.hid hS
  have HR := Lib.hid hr
  have HO := Lib.hid ho
  have HX := Lib.hid hx
  have HG := Lib.hid hg0
  clear hmore hS hr ho hx hg0
  obtain ⟨b0, c0, rfl, -, -, -⟩ := own_src HO.out (flat_pos hf1)
  go_enter Try.func74, Try.ntmps74
  go_wp2_with fail
  go_loopw [7, 8] (fun v c wr => ∃ (q n : Nat) (h : Fo) (b7 c7 : Nat), c = .int .i64 n ∧ v = .slice (some ⟨b7, 0, none⟩) h.flat.length c7 ∧ Hid (OwnNd wr w0.heap.size v h.flat) ∧ Hid (Rdr wr Br vl L q en) ∧ Hid (w0.grownBy wr (some Br)) ∧ Hid (BoxR wr Bx Br) ∧ q ≤ L.length ∧ p ≤ q ∧ Hid (h.len = n ∧ h.size ≤ 2 * q ∧ 1 ≤ n ∧ n ≤ q + 1 ∧ (n = 1 → b7 = b0 ∧ c7 = c0 ∧ h = f)) ∧
    Hid (∃ m, L.length - q ≤ m ∧ pMany S k (L.length - p) p f 1 = pMany S k m q h n)) (fun _ _ wr => L.length - posOf wr Br)
  case atStart => exact ⟨p, 1, f, b0, c0, rfl, rfl, HO.out, HR.out, HG.out, HX.out, hp, Nat.le_refl _, ⟨hf1, hfs, by omega, by omega, fun _ => ⟨rfl, rfl, rfl⟩⟩, _, Nat.le_refl _, rfl⟩
  case round =>
    obtain ⟨q, n, h, b7, c7, rfl, rfl, HO7, HR7, HG7, HX7, hq, hpq, HF7, HE7⟩ := hrel
    have HC := Lib.hid (HM.out q wr hpq HX7.out HR7.out hq)
    obtain ⟨m, hm, HE7'⟩ := HE7.out
    have HE7 := Lib.hid HE7'
    clear HE7'
    have HPos := Lib.hid HR7.out.pos
    have hns : n ≤ L.length + 1 := by have := HF7.out; omega
    have hfl := Fo.flat_len h
    have hsl : h.flat.length ≤ 8589934592 := by have := HF7.out; omega
    clear hfl
    obtain ⟨s, hs⟩ : ∃ s, S q = s := ⟨_, rfl⟩
    rw [hs] at HC
    cases s with
    | none =>
      have HE8 : Hid (pMany S k (L.length - p) p f 1 = ⟨true, wrapF k n h, q⟩) := HE7.out.trans (pMany_none hs)
      clear hs HE7 hm
      go_wp2_with fail
      refine (HC.out).mono ?_
      rintro e w2 ⟨hg2, ⟨-, rfl, hr2⟩ | ⟨r, hr, -⟩⟩
      · have HG2 := Lib.hid (HG7.out.trans hg2)
        have HR2 := Lib.hid hr2
        have HO2 := Lib.hid (HO7.out.grown hg2 (fun j hj => by simp at hj; subst hj; exact hB0))
        clear hg2 hr2
        by_cases hn1 : n = 1
        · obtain ⟨rfl, rfl, rfl⟩ := HF7.out.2.2.2.2 hn1
          subst hn1
          go_wp2_with fail
          go_ret
          rw [HE8.out]
          exact PRet.good HG2.out HO2.out HR2.out
        · have hn1' : ((n : Int) == 1) = false := by simp; omega
          have hpos : 0 < h.flat.length := by
            refine Nat.lt_of_lt_of_le ?_ (by rw [Fo.flat_len]; exact Fo.len_le h)
            have := HF7.out; omega
          obtain ⟨gb, cap, e1, hgB, hgl, hcap, hcs⟩ := own_src HO2.out hpos
          simp only [Value.slice.injEq, Option.some.injEq, Addr.mk.injEq] at e1
          obtain ⟨⟨rfl, -, -⟩, -, rfl⟩ := e1
          have HA1 := Lib.hid (OwnNd.one w2 w0.heap.size HG2.out.size ⟨k, ⟨#[]⟩, n⟩)
          have HC2 := Lib.hid (cells_kept hcs (World.grownBy_alloc w2 (.cells #[.int .i64 k, .string ⟨#[]⟩, .int .i64 n] 39) none) (by simp))
          have hws : w0.heap.size ≤ w2.heap.size := HG2.out.size
          clear hcs
          go_wp2_with (at_builtin; go_must (refine wpList_appG elemNd rfl _ _ rfl HA1.out rfl (news := flatNd h.flat) rfl (flatNd_len _) HC2.out (flatNd_one _) (by unfold maxLen; simp only [List.length_cons, List.length_nil]; omega) (by simp only [List.length_cons, List.length_nil]; omega) (by simp; omega) ?_); intro v' w7 hown7 hg7)
          go_ret
          rw [HE8.out]
          have g27 : w2.grownBy w7 none := by
            refine grown_then (World.grownBy_alloc w2 (.cells #[.int .i64 k, .string ⟨#[]⟩, .int .i64 n] 39) none) hg7 ?_
            intro j hj; simp [Value.ownBlock] at hj; subst hj; exact .inl (Nat.le_refl _)
          refine PRet.good (grown_then HG2.out g27 (by simp)) ?_ (HR2.out.kept g27)
          have e : (wrapF k n h).flat = [⟨k, ⟨#[]⟩, n⟩] ++ h.flat := by unfold wrapF; rw [if_neg hn1]; simp [Fo.flat]
          rw [e]
          show World.ownsRow _ _ _ _ _ _ _
          rw [flatNd_app, List.length_append]; exact hown7
      · cases hr
    | some r =>
      obtain ⟨hsb, hbad⟩ := HS.out q r hpq hq hs
      obtain ⟨ok, f2, q2⟩ := r
      cases ok with
      | false =>
        have hql := hbad rfl
        have HE8 : Hid (pMany S k (L.length - p) p f 1 = ⟨false, f2, q2⟩) := by
          unfold Hid
          rw [HE7.out, show m = (m - 1) + 1 from by omega]
          exact pMany_bad hs rfl
        clear hs HE7 hbad hsb hm
        go_wp2_with fail
        refine (HC.out).mono ?_
        rintro e w2 ⟨hg2, ⟨hr, -, -⟩ | ⟨r, hr, ⟨hok, -⟩ | ⟨hok, rfl⟩⟩⟩
        · cases hr
        · cases hr; cases hok
        · cases hr
          go_wp2_with fail
          refine ⟨rfl, ?_⟩
          rw [HE8.out]
          exact PRet.bad (HG7.out.trans hg2)
      | true =>
        have h1 := hsb.le
        have h2 := hsb.lt rfl
        have h3 := hsb.size rfl
        have h4 := hsb.one rfl
        simp only at h1 h2 h3 h4
        have hql : q < L.length := by omega
        have HE8 : Hid (∃ m, L.length - q2 ≤ m ∧ pMany S k (L.length - p) p f 1 = pMany S k m q2 (h.app f2) (n + 1)) := by
          refine ⟨m - 1, by omega, ?_⟩
          rw [HE7.out, show m = (m - 1) + 1 from by omega]
          exact pMany_good hs rfl
        have hpos := flat_pos h4
        have hfl2 := Fo.flat_len f2
        have hsl2 : f2.flat.length ≤ 8589934592 := by omega
        clear hs HE7 hbad hsb hfl2 hm
        go_wp2_with fail
        refine (HC.out).mono ?_
        rintro e w2 ⟨hg2, ⟨hr, -, -⟩ | ⟨r, hr, ⟨-, v, rfl, ho2, hr2⟩ | ⟨hok, -⟩⟩⟩
        · cases hr
        · cases hr
          have HG2 := Lib.hid (HG7.out.trans hg2)
          have HR2 := Lib.hid hr2
          have HX2 := Lib.hid (HX7.out.kept hg2)
          have HO2 := Lib.hid (HO7.out.grown hg2 (fun j hj => by simp at hj; subst hj; exact hB0))
          obtain ⟨gb, cap, rfl, hgB, hgl, hcap, hcs⟩ := own_src ho2 hpos
          have HCS := Lib.hid hcs
          have hws : w0.heap.size ≤ w2.heap.size := HG2.out.size
          have hb7 : w0.heap.size ≤ b7 := own_block HO2.out b7 rfl
          clear hg2 ho2 hr2 hcs
          go_wp2_with (at_builtin; go_must (refine wpList_appG elemNd rfl _ _ rfl HO2.out rfl (news := flatNd f2.flat) rfl (flatNd_len _) HCS.out (flatNd_one _) (by unfold maxLen; omega) (by omega) (by omega) ?_); intro v' w3 hown3 hg3)
          have HB3 : Hid (Rdr w3 Br vl L q2 en) := by
            refine HR0.out.moved (grown_then HG2.out hg3 (fun j hj => by simp [Value.ownBlock] at hj; subst hj; exact .inl hb7)) ((hg3.block Br (by have := HR2.out.lt; omega) ?_).trans HR2.out.box)
            simp [Value.ownBlock]; omega
          have HG3 : Hid (w0.grownBy w3 (some Br)) := grown_then HG2.out hg3 (fun j hj => by simp [Value.ownBlock] at hj; subst hj; exact .inl hb7)
          have HX3 : Hid (BoxR w3 Bx Br) := ⟨HX2.out.1.kept hg3 (HX2.out.1.not_row (by decide) HO2.out), HX2.out.2⟩
          have HO3 : Hid (OwnNd w3 w0.heap.size v' (h.app f2).flat) := by
            rw [Fo.flat_app]
            show World.ownsRow _ _ _ _ _ _ _
            rw [flatNd_app, List.length_append]; exact hown3
          clear hown3 hg3
          have hpos3 : 0 < (h.app f2).flat.length := by rw [Fo.flat_app, List.length_append]; omega
          obtain ⟨b9, c9, rfl, -, -, -⟩ := own_src HO3.out hpos3
          have HPos3 := HB3.out.pos
          go_roundw
          case rel =>
            refine ⟨q2, n + 1, h.app f2, b9, c9, by go_num, rfl, HO3.out, HB3.out, HG3.out, HX3.out, h1, by omega, ?_, HE8.out⟩
            have := HF7.out
            exact ⟨by rw [Fo.len_app]; omega, by rw [Fo.size_app]; omega, by omega, by omega, by omega⟩
          case measure => rw [HPos3, HPos.out]; omega
        · cases hr; cases hok
end Go.Proofs.Ytbpipnjdfmpbdaa
