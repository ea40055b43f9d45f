import Derived.Test.YtbpipnjdfmpbdaaRrE
import Derived.Test.YtbpipnjdfmpbdaaRxC
namespace Go.Proofs.Ytbpipnjdfmpbdaa
open Go.RowKit Go.Shelf

theorem pMany_rel {L : List Mk} {S : Nat → Option PR} {k : Int} {R : Nat → Nat → Prop} (hr : ∀ p, R p p) (ht : ∀ a b c, R a b → R b c → R a c) (hS : ∀ p r, p ≤ L.length → S p = some r → r.ok = true → R p r.p ∧ r.p ≤ L.length) :
    ∀ (m p : Nat) (f : Fo) (n : Nat), p ≤ L.length → (pMany S k m p f n).ok = true → R p (pMany S k m p f n).p
  | 0, p, f, n, hp, _ => hr p
  | m + 1, p, f, n, hp, h => by
    unfold pMany at h ⊢
    cases hs : S p with
    | none => exact hr p
    | some r =>
      rw [hs] at h
      simp only at h ⊢
      cases hok : r.ok with
      | false => rw [hok, if_neg (by simp)] at h; rw [hok] at h; cases h
      | true =>
        rw [hok, if_pos rfl] at h
        rw [if_pos rfl]
        have h1 := hS p r hp hs hok
        exact ht _ _ _ h1.1 (pMany_rel hr ht hS m r.p (f.app r.f) (n + 1) h1.2 h)
theorem sPart_some {E : Nat → PR} {L : List Mk} {q : Nat} {r : PR} (h : sPart E L q = some r) : beginsI (kd L q) = true ∧ r = pUnit E L q := by
  unfold sPart at h
  split at h
  · rename_i hb; simp only [Option.some.injEq] at h; exact ⟨hb, h.symm⟩
  · cases h
theorem sExpr_some {E : Nat → PR} {L : List Mk} {q : Nat} {r : PR} (h : sExpr E L q = some r) : kd L q = 6 ∧ r = pPart E L (q + 1) := by
  unfold sExpr at h
  split at h
  · rename_i hb; simp only [Option.some.injEq] at h; exact ⟨hb, h.symm⟩
  · cases h
theorem unit_ns {E : Nat → PR} {L : List Mk} {i : Nat} {fu : Fo} {qu : Nat} (hi : i ≤ L.length) (hB : ∀ q, q ≤ L.length → PB L q (E q)) (hE : ∀ q, NS L q (E q)) (h : pUnit E L i = ⟨true, fu, qu⟩) : Ne L i qu ∧ Scn L i qu := by
  obtain ⟨fa, pa, U⟩ := unit_uf hi hB h
  exact U.ne (hE _)
theorem part_ns {E : Nat → PR} {L : List Mk} {i : Nat} {f : Fo} {q : Nat} (hi : i ≤ L.length) (hB : ∀ q, q ≤ L.length → PB L q (E q)) (hE : ∀ q, NS L q (E q)) (h : pPart E L i = ⟨true, f, q⟩) : Ne L i q ∧ Scn L i q := by
  unfold pPart at h
  have HU := pUnit_b (E := E) hi (fun h => hB _ h)
  generalize hr : pUnit E L i = r at *
  obtain ⟨ok, f0, q0⟩ := r
  cases ok with
  | false => simp at h
  | true =>
    simp only [if_true] at h
    have h0 := unit_ns hi hB hE hr
    have := pMany_rel (L := L) (S := sPart E L) (k := 4) (R := fun a b => Ne L a b ∧ Scn L a b) (fun p => ⟨Ne.refl _ _, .refl _⟩) (fun a b c h k => ⟨h.1.trans k.1, h.2.trans k.2⟩) (fun p r hp hs hok => by
      obtain ⟨_, rfl⟩ := sPart_some hs
      have G := pUnit_b (E := E) hp (fun h => hB _ h)
      refine ⟨?_, G.le⟩
      refine unit_ns hp hB hE (fu := (pUnit E L p).f) ?_
      generalize pUnit E L p = r2 at *
      obtain ⟨o2, f2, q2⟩ := r2
      simp only at hok; subst hok; rfl) (L.length - q0) q0 f0 1 HU.le (by rw [h])
    rw [h] at this
    exact ⟨h0.1.trans this.1, h0.2.trans this.2⟩
theorem exprS_ns {E : Nat → PR} {L : List Mk} {i : Nat} (hi : i ≤ L.length) (hB : ∀ q, q ≤ L.length → PB L q (E q)) (hE : ∀ q, NS L q (E q)) : NS L i (pExprS E L i) := by
  refine ⟨fun hok => ?_⟩
  unfold pExprS at hok ⊢
  have HU := pPart_b (E := E) hi (fun q _ h => hB q h)
  generalize hr : pPart E L i = r at *
  obtain ⟨ok, f0, q0⟩ := r
  cases ok with
  | false => simp at hok
  | true =>
    simp only [if_true] at hok ⊢
    have h0 := part_ns hi hB hE hr
    refine h0.1.trans (pMany_rel (L := L) (S := sExpr E L) (k := 5) (R := fun a b => Ne L a b) (fun p => Ne.refl _ _) (fun a b c h k => h.trans k) (fun p r hp hs hok => ?_) (L.length - q0) q0 f0 1 HU.le hok)
    obtain ⟨h6, rfl⟩ := sExpr_some hs
    have hlt := kd_lt (L := L) (p := p) (by omega)
    have G := pPart_b (E := E) (p := p + 1) hlt (fun q _ h => hB q h)
    refine ⟨(Ne.step (by omega) (by omega) hlt).trans ?_, G.le⟩
    refine (part_ns hlt hB hE (f := (pPart E L (p + 1)).f) ?_).1
    generalize pPart E L (p + 1) = r2 at *
    obtain ⟨o2, f2, q2⟩ := r2
    simp only at hok; subst hok; rfl
theorem pExpr_ns (L : List Mk) : ∀ (n p : Nat), NS L p (pExpr L n p)
  | 0, p => ⟨fun h => by simp [pExpr] at h⟩
  | n + 1, p => by
    by_cases hp : p ≤ L.length
    · exact exprS_ns hp (fun q hq => pExpr_b L n q hq) (fun q => pExpr_ns L n q)
    · -- behind all marks nothing is read
      refine ⟨fun h => ?_⟩
      have hk : kd L p = 0 := kd_none (by omega)
      have e : pExpr L (n + 1) p = ⟨false, .nil, p⟩ := by
        show pExprS _ _ _ = _
        unfold pExprS pPart pUnit pAtom
        rw [hk]; simp [beginsI]
      rw [e] at h; cases h

/-- a piece of the tokens, read -/
structure TkS (w : World) (v : Value) (L : List Mk) (p q : Nat) : Prop where
  lt : p < q
  le : q ≤ L.length
  ex : ∃ b off cap, v = .slice (some ⟨b, off, none⟩) (q - p) cap ∧ q - p ≤ cap ∧ b < w.heap.size ∧ ∀ i m, p + i < q → L[p + i]? = some m → w.cell? ⟨b, off + i * 3, none⟩ = some (.int .u8 (tkB m.k)) ∧ w.cell? ⟨b, off + i * 3 + 2, none⟩ = some (.string m.t)
theorem TkS.below {w w' : World} {v : Value} {L : List Mk} {p q : Nat} (h : TkS w v L p q) (hb : Below w.heap.size w w') : TkS w' v L p q := by
  obtain ⟨b, off, cap, e, h1, h2, h3⟩ := h.ex
  refine ⟨h.lt, h.le, b, off, cap, e, h1, by have := hb.size; omega, fun i m hi hm => ?_⟩
  obtain ⟨k1, k2⟩ := h3 i m hi hm
  exact ⟨(hb.cell (p := ⟨b, _, none⟩) h2).trans k1, (hb.cell (p := ⟨b, _, none⟩) h2).trans k2⟩
theorem TkS.sub {w : World} {b off cap n : Nat} {L : List Mk} {p q : Nat} (h : TkS w (.slice (some ⟨b, off, none⟩) n cap) L p q) (i j : Nat) (hij : i < j) (hj : p + j ≤ q) : TkS w (.slice (some ⟨b, off + i * 3, none⟩) (j - i) (cap - i)) L (p + i) (p + j) := by
  obtain ⟨b', off', cap', e, h1, h2, h3⟩ := h.ex
  simp only [Value.slice.injEq, Option.some.injEq, Addr.mk.injEq] at e
  obtain ⟨⟨rfl, rfl, -⟩, rfl, rfl⟩ := e
  have := h.le
  refine ⟨by omega, by omega, b, off + i * 3, cap - i, by rw [show p + j - (p + i) = j - i from by omega], by omega, h2, fun x m hx hm => ?_⟩
  obtain ⟨k1, k2⟩ := h3 (i + x) m (by omega) (by rw [show p + (i + x) = p + i + x from by omega]; exact hm)
  rw [show off + i * 3 + x * 3 = off + (i + x) * 3 from by omega]
  exact ⟨k1, k2⟩
theorem tk_ne (k c d : Int) (h1 : 1 ≤ k) (h2 : k ≤ 12) (hd : tkB d = c) (hd1 : 1 ≤ d) (hd2 : d ≤ 12) (hk : k ≠ d) : (tkB k == c) = false := by
  subst hd
  obtain rfl | rfl | rfl | rfl | rfl | rfl | rfl | rfl | rfl | rfl | rfl | rfl : k = 1 ∨ k = 2 ∨ k = 3 ∨ k = 4 ∨ k = 5 ∨ k = 6 ∨ k = 7 ∨ k = 8 ∨ k = 9 ∨ k = 10 ∨ k = 11 ∨ k = 12 := by omega
  all_goals
    obtain rfl | rfl | rfl | rfl | rfl | rfl | rfl | rfl | rfl | rfl | rfl | rfl : d = 1 ∨ d = 2 ∨ d = 3 ∨ d = 4 ∨ d = 5 ∨ d = 6 ∨ d = 7 ∨ d = 8 ∨ d = 9 ∨ d = 10 ∨ d = 11 ∨ d = 12 := by omega
    all_goals first | rfl | exact absurd rfl hk
theorem tk40 : tkB 10 = 40 := rfl
theorem tk41 : tkB 11 = 41 := rfl

set_option maxRecDepth 100000 in
set_option maxHeartbeats 1600000 in
theorem rClose_any (v : Value) (L : List Mk) (p q a j : Nat) (w : World) (h : TkS w v L p q) (hK : ∀ m ∈ L, 1 ≤ m.k ∧ m.k ≤ 12) (hl : L.length < 4294967296) (ha : kd L (p + a) = 10) (hc : Cl L (p + a + 1) 1 (p + j)) (hj : p + j < q) :
    Calls Try.prog 79 #[v, .int .i64 a] w fun e w' => e = .returned (.int .i64 j) ∧ w = w' := by
  obtain ⟨b, off, cap, rfl, hcap, hb, hcs⟩ := h.ex
  have hlt := h.lt
  have hle := h.le
  have HCS := Lib.hid hcs
  have HK := Lib.hid hK
  have hcl := hc.le
  have HC := Lib.hid hc
  have HA := Lib.hid ha
  clear hcs hK hc ha h
  go_enter Try.func79, Try.ntmps79
  go_wp2
  go_loop [5, 6] (fun o i => ∃ (n x : Nat), o = .int .i64 n ∧ i = .int .i64 x ∧ x ≤ j ∧ a ≤ x ∧ n ≤ x ∧ Hid ((x = a ∧ n = 0) ∨ Cl L (p + x) n (p + j))) (fun _ i => j + 1 - (intOf i).toNat)
  case atStart => exact ⟨0, a, rfl, rfl, by omega, Nat.le_refl _, by omega, .inl ⟨rfl, rfl⟩⟩
  case round =>
    obtain ⟨n, x, rfl, rfl, hxj, hax, hnx, HX⟩ := hrel
    have hxl : p + x < L.length := by omega
    obtain ⟨m, hm⟩ : ∃ m, L[p + x]? = some m := ⟨_, List.getElem?_eq_getElem hxl⟩
    obtain ⟨X0, -⟩ := HCS.out x m (by omega) hm
    have hk := HK.out m (List.mem_of_getElem? hm)
    have HKd : Hid (kd L (p + x) = m.k) := kd_some hm
    clear hm
    have hcase : Hid ((m.k = 10 ∧ Cl L (p + x + 1) (n + 1) (p + j)) ∨ (m.k = 11 ∧ n = 1 ∧ x = j) ∨ (∃ n', m.k = 11 ∧ n = n' + 2 ∧ Cl L (p + x + 1) (n' + 1) (p + j)) ∨ (m.k ≠ 10 ∧ m.k ≠ 11 ∧ 1 ≤ n ∧ Cl L (p + x + 1) n (p + j))) := by
      rcases HX.out with ⟨rfl, rfl⟩ | hcx
      · exact .inl ⟨by rw [← HKd.out]; exact HA.out, HC.out⟩
      · generalize hi : p + x = i at *
        generalize hy : p + j = y at *
        cases hcx with
        | here h => exact .inr (.inl ⟨by rw [← HKd.out]; exact h, rfl, by omega⟩)
        | down h h2 => exact .inr (.inr (.inl ⟨_, by rw [← HKd.out]; exact h, rfl, h2⟩))
        | up h h2 => exact .inl ⟨by rw [← HKd.out]; exact h, h2⟩
        | other h1 h2 h3 h4 => exact .inr (.inr (.inr ⟨by rw [← HKd.out]; exact h1, by rw [← HKd.out]; exact h2, by omega, h4⟩))
    clear HX HKd
    rcases hcase.out with ⟨h1, h2⟩ | ⟨h1, h2, h3⟩ | ⟨n', h1, h2, h3⟩ | ⟨h1, h2, h3, h4⟩
    · rw [h1, tk40] at X0
      have H2 := Lib.hid h2
      have hl2 := h2.le
      clear hcase h1 h2 hk
      go_wp2
      go_round
      case rel => exact ⟨n + 1, x + 1, by go_num, by go_num, by omega, by omega, by omega, .inr H2.out⟩
      case measure => simp [intOf]; omega
    · subst h2
      subst h3
      rw [h1, tk41] at X0
      clear hcase h1 hk
      go_wp2
      go_ret
      exact ⟨rfl, rfl⟩
    · rw [h1, tk41] at X0
      subst h2
      have H2 := Lib.hid h3
      have hl2 := h3.le
      clear hcase h1 h3 hk
      have hn0 : (((n' + 2 : Nat) : Int) - 1 == 0) = false := by simp; omega
      go_wp2
      go_round
      case rel => exact ⟨n' + 1, x + 1, by go_num, by go_num, by omega, by omega, by omega, .inr H2.out⟩
      case measure => simp [intOf]; omega
    · have t1 := tk_ne m.k 40 10 hk.1 hk.2 rfl (by decide) (by decide) h1
      have t2 := tk_ne m.k 41 11 hk.1 hk.2 rfl (by decide) (by decide) h2
      have H2 := Lib.hid h4
      have hl2 := h4.le
      clear hcase h1 h2 h4 hk
      generalize tkB m.k = c at *
      go_wp2
      go_round
      case rel => exact ⟨n, x + 1, rfl, by go_num, by omega, by omega, by omega, .inr H2.out⟩
      case measure => simp [intOf]; omega
end Go.Proofs.Ytbpipnjdfmpbdaa
