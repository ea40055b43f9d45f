import Derived.Test.YtbpipnjdfmpbdaaRtD
namespace Go.Proofs.Ytbpipnjdfmpbdaa
open Go.RowKit Go.Shelf

def endL (lim : Nat) : List Nd → Nat → Option Nat
  | [], w => if w = 0 then some 0 else none
  | x :: l, w => if w = 0 then some 0 else if mayB x = true ∧ x.c ≤ lim then (endL lim l (w - 1 + x.c.toNat)).map (· + 1) else none
def endR (t : Nat) (o : Option Nat) : Int := match o with | some k => ((t + k : Nat) : Int) | none => -1
theorem endL_zero (lim : Nat) (l : List Nd) : endL lim l 0 = some 0 := by cases l <;> simp [endL]
theorem endR_map (t : Nat) (o : Option Nat) : endR t (o.map (· + 1)) = endR (t + 1) o := by
  cases o with
  | none => rfl
  | some k => simp only [endR, Option.map]; omega
theorem end_forest {lim : Nat} (F : Fo) : ∀ (w : Nat) (R : List Nd), F.wf → F.all mayN → F.size ≤ lim → endL lim (F.flat ++ R) (F.len + w) = (endL lim R w).map (· + F.size) := by
  induction F with
  | nil => intro w R _ _ _; simp [Fo.flat, Fo.len, Fo.size]
  | cons x k r ih1 ih2 =>
    intro w R hwf hall hs
    simp only [Fo.size] at hs
    have e : (Fo.cons x k r).flat ++ R = x :: (k.flat ++ (r.flat ++ R)) := by simp [Fo.flat]
    have hk := Fo.len_le k
    have e2 : (Fo.cons x k r).len + w = r.len + 1 + w := rfl
    rw [e, e2]
    conv => lhs; unfold endL
    rw [if_neg (by omega), if_pos ⟨(mayB_iff x).2 hall.1, by rw [hwf.1]; omega⟩, hwf.1]
    rw [show r.len + 1 + w - 1 + (k.len : Int).toNat = k.len + (r.len + w) from by omega]
    rw [ih1 _ _ hwf.2.1 hall.2.1 (by omega), ih2 _ _ hwf.2.2 hall.2.2 (by omega)]
    cases endL lim R w with
    | none => rfl
    | some m => simp [Fo.size]; omega

set_option maxRecDepth 100000 in
set_option maxHeartbeats 3200000 in
theorem rEnd_any (v : Value) (N : List Nd) (p : Nat) (w : World) (h : RdNd w v N) (hl : N.length ≤ 16777216) (hp : p ≤ N.length) :
    Calls Try.prog 89 #[v, .int .i64 p] w fun e w' => e = .returned (.int .i64 (endR p (endL N.length (N.drop p) 1))) ∧ Below w.heap.size w w' := by
  have HR := Lib.hid h
  obtain ⟨_, ao, cap, rfl, -⟩ := id h
  obtain ⟨n, hn⟩ : ∃ n, n = N.length := ⟨_, rfl⟩
  have HN := Lib.hid hn
  rw [← hn] at hl hp HR ⊢
  clear h hn
  obtain ⟨tg, htg⟩ : ∃ tg, tg = endR p (endL n (N.drop p) 1) := ⟨_, rfl⟩
  rw [← htg]
  have HT := Lib.hid htg
  clear htg
  go_enter Try.func89, Try.ntmps89
  go_wp2_with fail
  go_loopw [1, 5] (fun a o wr => ∃ (t want : Nat), a = .int .i64 t ∧ o = .int .i64 want ∧ t ≤ n ∧ want ≤ 1 + t * 16777216 ∧ Hid (Below w.heap.size w wr) ∧ Hid (tg = endR t (endL n (N.drop t) want))) (fun a _ _ => n - (intOf a).toNat)
  case atStart => exact ⟨p, 1, rfl, rfl, hp, by omega, Below.refl _ _, HT.out⟩
  case round =>
    obtain ⟨t, want, rfl, rfl, ht, hw, HBel, HE⟩ := hrel
    have hws := HBel.out.size
    by_cases hw0 : want = 0
    · subst hw0
      have HE2 : Hid (tg = (t : Int)) := by unfold Hid; rw [HE.out, endL_zero]; simp [endR]
      go_wp2_with fail
      go_ret
      exact ⟨congrArg (fun x : Int => Ending.returned (.int .i64 x)) HE2.out.symm, HBel.out⟩
    · have hwp : 0 < want := by omega
      by_cases hlt : t < n
      · obtain ⟨x, hx⟩ : ∃ x, N[t]? = some x := ⟨_, List.getElem?_eq_getElem (by have := HN.out; omega)⟩
        obtain ⟨b, off, cp, e1, hb, hc, x0, x1, x2⟩ := RdNd.at (l := N) (by have := HR.out; rw [HN.out] at this; exact this) hx
        rw [← HN.out] at e1
        simp only [Value.slice.injEq] at e1
        obtain ⟨rfl, -, rfl⟩ := e1
        have X0 := (HBel.out.cell (p := ⟨b, _, none⟩) hb).trans x0
        have X1 := (HBel.out.cell (p := ⟨b, _, none⟩) hb).trans x1
        have X2 := (HBel.out.cell (p := ⟨b, _, none⟩) hb).trans x2
        have hd : N.drop t = x :: N.drop (t + 1) := by
          have hlt2 : t < N.length := by have := HN.out; omega
          rw [List.drop_eq_getElem_cons hlt2]
          have := List.getElem?_eq_getElem hlt2
          rw [hx] at this
          simp only [Option.some.injEq] at this
          rw [← this]
        have HE2 : Hid (tg = if mayB x = true ∧ x.c ≤ n then endR (t + 1) (endL n (N.drop (t + 1)) (want - 1 + x.c.toNat)) else -1) := by
          unfold Hid
          rw [HE.out, hd]
          conv => lhs; unfold endL
          rw [if_neg hw0]
          split
          · rw [endR_map]
          · rfl
        have HM := Lib.hid (fun w => rMay_any x w)
        have hbw : b < wr.heap.size := by omega
        clear x0 x1 x2 hx hd hw0
        cases hmb : mayB x with
        | false =>
          rw [hmb] at HM
          have HE3 : Hid (tg = -1) := by unfold Hid; rw [HE2.out, if_neg (by rw [hmb]; simp)]
          clear hmb
          go_wp2_with (go_at_call 111; refine (HM.out _).mono ?_; rintro e w2 ⟨rfl, hb2⟩)
          go_ret
          exact ⟨congrArg (fun x : Int => Ending.returned (.int .i64 x)) HE3.out.symm, HBel.out.trans (hb2.mono hws)⟩
        | true =>
          rw [hmb] at HM
          have hc0 := ((mayB_iff x).1 hmb).c
          by_cases hcl : x.c ≤ n
          · have HE3 : Hid (tg = endR (t + 1) (endL n (N.drop (t + 1)) (want - 1 + x.c.toNat))) := by unfold Hid; rw [HE2.out, if_pos ⟨hmb, hcl⟩]
            obtain ⟨c, hc⟩ : ∃ c : Nat, x.c = c := ⟨x.c.toNat, by omega⟩
            rw [hc] at X2 HE3 hcl HM
            have hcn : c ≤ n := by omega
            clear hmb HE2
            have HX1 := Lib.hid X1
            go_wp2_with (go_at_call 111; refine (HM.out _).mono ?_; rintro e w2 ⟨rfl, hb2⟩; have HB2 := Lib.hid hb2; have X2' := (hb2.cell (p := ⟨b, _, none⟩) hbw).trans X2; clear hb2)
            have HB3 : Hid (Below w.heap.size w w2) := HBel.out.trans (HB2.out.mono hws)
            clear X2 X2' X0 X1
            go_roundw
            case rel => exact ⟨t + 1, want - 1 + c, by go_num, by go_num, by omega, by omega, HB3.out, by unfold Hid; have := HE3.out; simpa using this⟩
            case measure => simp [intOf]; omega
          · have HE3 : Hid (tg = -1) := by unfold Hid; rw [HE2.out, if_neg (by rintro ⟨_, h⟩; exact hcl h)]
            have hcl' : (n : Int) < x.c := by omega
            clear hmb HE2
            go_wp2_with (go_at_call 111; refine (HM.out _).mono ?_; rintro e w2 ⟨rfl, hb2⟩; have HB2 := Lib.hid hb2; have X2' := (hb2.cell (p := ⟨b, _, none⟩) hbw).trans X2; clear hb2)
            go_ret
            exact ⟨congrArg (fun x : Int => Ending.returned (.int .i64 x)) HE3.out.symm, HBel.out.trans (HB2.out.mono hws)⟩
      · obtain rfl : t = n := by omega
        have HE3 : Hid (tg = -1) := by
          unfold Hid
          rw [HE.out, List.drop_eq_nil_of_le (by have := HN.out; omega)]
          simp only [endL]; rw [if_neg hw0]; rfl
        clear hw0
        go_wp2_with fail
        go_ret
        exact ⟨congrArg (fun x : Int => Ending.returned (.int .i64 x)) HE3.out.symm, HBel.out⟩
end Go.Proofs.Ytbpipnjdfmpbdaa
