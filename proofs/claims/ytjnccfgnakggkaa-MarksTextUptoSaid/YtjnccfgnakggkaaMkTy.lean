import Derived.Test.YtjnccfgnakggkaaMkTx
namespace Go.Proofs.Ytjnccfgnakggkaa
open Go.RowKit

set_option maxHeartbeats 1600000 in
theorem rText_any (va : Value) (l : List Mi) (w : World) (hr : RdMi w va l) (ht : tot l ≤ 16777216) :
    Calls Try.prog 19 #[va] w fun e w' => e = .returned (.tuple #[.string (textM l).1, .int .i64 (textM l).2]) ∧ Below w.heap.size w w' := by
  have htl := tot_len l
  obtain ⟨hal, ao, ac, rfl, ha2⟩ := id hr
  have HR := Lib.hid hr
  clear hr ha2 hal
  go_enter Try.func19, Try.ntmps19
  go_wp2
  go_loopw [4, 5] (fun v i wr => ∃ j : Nat, j ≤ l.length ∧ i = .int .i64 j ∧ v = .string (joinM ((l.take j).map (·.t))) ∧ Hid (∀ (q : Nat) m, q < j → l[q]? = some m → okMi m = true) ∧ Below w.heap.size w wr) (fun _ i _ => l.length - (intOf i).toNat)
  case atStart => exact ⟨0, by omega, rfl, rfl, fun q m h => by omega, Below.refl _ _⟩
  case round =>
    obtain ⟨j, hj, rfl, rfl, HQ, hbel⟩ := hrel
    by_cases hlt : j < l.length
    · obtain ⟨m, hm⟩ : ∃ m, l[j]? = some m := ⟨_, List.getElem?_eq_getElem hlt⟩
      obtain ⟨b1, o1, c1, e1, l1, k1, x0, x1, x2⟩ := (HR.out).at hm
      simp only [Value.slice.injEq] at e1
      obtain ⟨rfl, -, rfl⟩ := e1
      have X0 := (hbel.cell (p := ⟨b1, _, none⟩) l1).trans x0
      have X2 := (hbel.cell (p := ⟨b1, _, none⟩) l1).trans x2
      clear x0 x1 x2
      have hts := tot_at l j m hm
      have HK : Hid (∀ w, Calls Try.prog 20 #[.string m.t] w fun e w' => e = .returned (.tuple #[.int .i64 (kindM m.t).1, .bool (kindM m.t).2]) ∧ Below w.heap.size w w') := fun w => rKind_any m.t (by omega) w
      have HO : Hid (okMi m = true ↔ (kindM m.t).2 = true ∧ (kindM m.t).1 = m.k) := okMi_iff
      have HM := Lib.hid hm
      have hJ := joinM_step l j m hm
      have hjs := Nat.le_trans (joinM_size (l.take j)) (tot_take l j)
      have hjs2 := Nat.le_trans (joinM_size (l.take (j + 1))) (tot_take l (j + 1))
      clear hm
      generalize (kindM m.t).1 = k at *
      generalize (kindM m.t).2 = ok at *
      have hl1 : b1 < wr.heap.size := by have := hbel.size; omega
      by_cases hok : ok = true ∧ k = m.k
      · obtain ⟨rfl, hk⟩ := hok
        have hk' : (k != m.k) = false := by simpa using hk
        have HOK : Hid (okMi m = true) := HO.out.2 ⟨rfl, hk⟩
        clear hk HO
        have HQ2 : Hid (∀ (q : Nat) m, q < j + 1 → l[q]? = some m → okMi m = true) := fun q x hq hx => (Nat.lt_succ_iff_lt_or_eq.1 hq).elim (fun h => HQ.out q x h hx) (fun h => by subst h; rw [HM.out] at hx; injection hx with hx; subst hx; exact HOK.out)
        clear HOK
        go_wp2_with fail
        refine (HK.out _).mono ?_
        rintro e w2 ⟨rfl, hb2⟩
        have Y0 := (hb2.cell (p := ⟨b1, _, none⟩) hl1).trans X0
        have Y2 := (hb2.cell (p := ⟨b1, _, none⟩) hl1).trans X2
        have hb3 := below_then hbel hb2
        clear X0 X2 hb2 hbel
        by_cases h0 : j = 0
        · subst h0
          rw [if_pos rfl] at hJ
          have HJ := Lib.hid hJ
          clear hJ
          have e0 : joinM ((l.take 0).map (·.t)) = ⟨#[]⟩ := rfl
          rw [e0]
          rw [Nat.zero_mul, Nat.add_zero] at Y0 Y2
          go_wp2
          go_roundw
          case rel => exact ⟨1, by omega, by go_num, by rw [HJ.out]; first | rfl | simp, HQ2, hb3⟩
          case measure => simp [intOf]; omega
        · rw [if_neg h0] at hJ
          have HJ := Lib.hid hJ
          clear hJ
          generalize joinM ((l.take j).map (·.t)) = sj at *
          go_wp2
          go_roundw
          case rel => exact ⟨j + 1, by omega, by go_num, by rw [HJ.out], HQ2, hb3⟩
          case measure => simp [intOf]; omega
      · have HE : Hid (textM l = (⟨#[]⟩, 2)) := textM_bad l j m HM.out (by rw [Bool.eq_false_iff]; exact fun h => hok (HO.out.1 h))
        clear HO
        go_wp2_with fail
        refine (HK.out _).mono ?_
        rintro e w2 ⟨rfl, hb2⟩
        have Y0 := (hb2.cell (p := ⟨b1, _, none⟩) hl1).trans X0
        have Y2 := (hb2.cell (p := ⟨b1, _, none⟩) hl1).trans X2
        have hb3 := below_then hbel hb2
        clear X0 X2 hb2 hbel hJ hjs hjs2
        cases ok with
        | false =>
          clear hok
          go_wp2
          go_ret2
          exact ⟨by rw [HE.out]; rfl, hb3⟩
        | true =>
          have hk' : (k != m.k) = true := by rw [bne_iff_ne]; exact fun h => hok ⟨rfl, h⟩
          clear hok
          go_wp2
          go_ret2
          exact ⟨by rw [HE.out]; rfl, hb3⟩
    · have hj : j = l.length := by omega
      subst hj
      have HE : Hid (textM l = (joinM (l.map (·.t)), 0)) := textM_good l (fun i m h => HQ.out i m ((List.getElem?_eq_some_iff.1 h).1) h)
      rw [List.take_length]
      go_wp2
      go_ret2
      exact ⟨by rw [HE.out]; rfl, hbel⟩
end Go.Proofs.Ytjnccfgnakggkaa
