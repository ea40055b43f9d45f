import Derived.Test.YtbpipnjdfmpbdaaRtP
namespace Go.Proofs.Ytbpipnjdfmpbdaa
open Go.RowKit Go.Shelf

/-- a list of nodes lies at a place -/
structure NdAt (w : World) (b off : Nat) (N : List Nd) : Prop where
  lt : b < w.heap.size
  cell : ∀ i x, N[i]? = some x → w.cell? ⟨b, off + i * 3, none⟩ = some (.int .i64 x.k) ∧ w.cell? ⟨b, off + i * 3 + 1, none⟩ = some (.string x.n) ∧ w.cell? ⟨b, off + i * 3 + 2, none⟩ = some (.int .i64 x.c)
theorem NdAt.below {w w' : World} {b off : Nat} {N : List Nd} (h : NdAt w b off N) (hb : Below w.heap.size w w') : NdAt w' b off N := by
  refine ⟨by have := hb.size; have := h.lt; omega, fun i x hx => ?_⟩
  obtain ⟨h1, h2, h3⟩ := h.cell i x hx
  exact ⟨(hb.cell (p := ⟨b, _, none⟩) h.lt).trans h1, (hb.cell (p := ⟨b, _, none⟩) h.lt).trans h2, (hb.cell (p := ⟨b, _, none⟩) h.lt).trans h3⟩
theorem NdAt.below' {w w0 w' : World} {b off : Nat} {N : List Nd} (h : NdAt w b off N) (hb : Below w0.heap.size w w') (hlt : b < w0.heap.size) (hle : w0.heap.size ≤ w.heap.size) : NdAt w' b off N := by
  refine ⟨by have := hb.size; have := h.lt; omega, fun i x hx => ?_⟩
  obtain ⟨h1, h2, h3⟩ := h.cell i x hx
  exact ⟨(hb.cell (p := ⟨b, _, none⟩) hlt).trans h1, (hb.cell (p := ⟨b, _, none⟩) hlt).trans h2, (hb.cell (p := ⟨b, _, none⟩) hlt).trans h3⟩
theorem NdAt.of_rd {w : World} {v : Value} {N : List Nd} (h : RdNd w v N) (h0 : 0 < N.length) : ∃ b off cap, v = .slice (some ⟨b, off, none⟩) N.length cap ∧ N.length ≤ cap ∧ NdAt w b off N := by
  obtain ⟨x, hx⟩ : ∃ x, N[0]? = some x := ⟨_, List.getElem?_eq_getElem h0⟩
  obtain ⟨b, off, cap, e, h1, h2, _⟩ := RdNd.at h hx
  refine ⟨b, off, cap, e, h2, h1, fun i x hx => ?_⟩
  obtain ⟨b', off', cap', e', _, _, c⟩ := RdNd.at h hx
  rw [e] at e'
  simp only [Value.slice.injEq, Option.some.injEq, Addr.mk.injEq] at e'
  obtain ⟨⟨rfl, rfl, -⟩, -, rfl⟩ := e'
  exact c
/-- a piece of the list -/
theorem NdAt.piece {w : World} {b off : Nat} {N : List Nd} (h : NdAt w b off N) (a m c : List Nd) (e : N = a ++ (m ++ c)) : NdAt w b (off + a.length * 3) m := by
  refine ⟨h.lt, fun i x hx => ?_⟩
  have hN : N[a.length + i]? = some x := by
    rw [e, List.getElem?_append_right (by omega), show a.length + i - a.length = i from by omega, List.getElem?_append_left (List.getElem?_eq_some_iff.1 hx).1]
    exact hx
  have := h.cell _ _ hN
  rw [show off + (a.length + i) * 3 = off + a.length * 3 + i * 3 from by omega] at this
  exact this
theorem elemNds : ElemOK Try.prog 108 22 1 24 :=
  ElemOK.mk' (z := .slice none 0 0) Try.underlying108 (by kernel_rfl) rfl (by decide)
def pieceV (b off : Nat) (p : Nat × Nat) : Value := .slice (some ⟨b, off + p.1 * 3, none⟩) p.2 p.2
/-- what kids leaves -/
def KRet (b off : Nat) (k : Fo) (w : World) (e : Ending) (w' : World) : Prop := ∃ v, e = .returned v ∧ w'.ownsRow w.heap.size 22 1 v k.len ((k.pieces 1).map (pieceV b off)) ∧ Below w.heap.size w w'
theorem drop_head {N : List Nd} {t : Nat} {x : Nd} {l : List Nd} (h : N.drop t = x :: l) : N[t]? = some x ∧ N.drop (t + 1) = l ∧ t < N.length := by
  have hlt : t < N.length := by
    rcases Nat.lt_or_ge t N.length with h1 | h1
    · exact h1
    · rw [List.drop_eq_nil_of_le h1] at h; cases h
  rw [List.drop_eq_getElem_cons hlt] at h
  simp only [List.cons.injEq] at h
  exact ⟨by rw [List.getElem?_eq_getElem hlt, h.1], h.2, hlt⟩

set_option maxRecDepth 100000 in
set_option maxHeartbeats 3200000 in
theorem xKids_any (b off cap : Nat) (x : Nd) (k : Fo) (N : List Nd) (w : World) (h : NdAt w b off N) (hN : N = (Fo.cons x k .nil).flat) (hc : x.c = k.len) (hwf : k.wf) (hcap : N.length ≤ cap) (hl : N.length ≤ 1099511627776) :
    Calls Try.prog 81 #[.slice (some ⟨b, off, none⟩) N.length cap] w (KRet b off k w) := by
  have hb := h.lt
  have HC := Lib.hid h.cell
  have h0 : N[0]? = some x := by rw [hN]; rfl
  have hlen : N.length = k.size + 1 := by rw [hN, Fo.flat_len]; simp [Fo.size]
  obtain ⟨-, -, c2⟩ := h.cell 0 x h0
  rw [hc, Nat.zero_mul, Nat.add_zero] at c2
  have hd1 : N.drop 1 = k.flat := by rw [hN]; simp [Fo.flat]
  have HD1 := Lib.hid hd1
  have HLen := Lib.hid hlen
  have HWf := Lib.hid hwf
  have hpos : 0 < N.length := by omega
  have hkl : k.len ≤ N.length := by have := Fo.len_le k; omega
  generalize N.length = n at *
  clear h hN hc hwf h0 hlen hd1
  go_enter Try.func81, Try.ntmps81
  go_wp2
  go_loopw [3, 4, 11] (fun o a i wr => ∃ (j s : Nat) (r : Fo) (done : List (Nat × Nat)), i = .int .i64 j ∧ a = .int .i64 s ∧ wr.ownsRow w.heap.size 22 1 o done.length (done.map (pieceV b off)) ∧ done.length = j ∧ j + r.len = k.len ∧ s + r.size = n ∧ Hid (Below w.heap.size w wr) ∧
    Hid (k.pieces 1 = done ++ r.pieces s ∧ N.drop s = r.flat ∧ r.wf)) (fun _ _ i _ => k.len - (intOf i).toNat)
  case atStart => exact ⟨0, 1, k, [], rfl, rfl, World.ownsRow_nil _ _ _ _, rfl, by omega, by have := HLen.out; omega, Below.refl _ _, rfl, HD1.out, HWf.out⟩
  case round =>
    obtain ⟨j, s, r, done, rfl, rfl, hown, hdj, hjr, hsr, HBel, HR⟩ := hrel
    have hws := HBel.out.size
    by_cases hlt : j < k.len
    · obtain ⟨y, kk, r', rfl⟩ : ∃ y kk r', r = Fo.cons y kk r' := by
        cases r with
        | nil => simp [Fo.len] at hjr; omega
        | cons y kk r' => exact ⟨y, kk, r', rfl⟩
      simp only [Fo.len, Fo.size] at hjr hsr
      have HDJ := Lib.hid hdj
      have HJR := Lib.hid hjr
      have HSR := Lib.hid hsr
      have hss : s + kk.size + 1 ≤ n := by omega
      clear hdj hjr hsr
      go_wp2
      go_loop [4, 6] (fun a o => ∃ (t : Nat) (F : Fo), a = .int .i64 t ∧ o = .int .i64 F.len ∧ s ≤ t ∧ t + F.size ≤ n ∧ F.size ≤ n ∧ Hid (N.drop t = F.flat ++ r'.flat ∧ F.wf ∧ t + F.size = s + kk.size + 1)) (fun a _ => n - (intOf a).toNat)
      case atStart => exact ⟨s, .cons y kk .nil, rfl, rfl, Nat.le_refl _, by simp only [Fo.size]; omega, by simp only [Fo.size]; omega, by rw [HR.out.2.1]; simp [Fo.flat], ⟨HR.out.2.2.1, HR.out.2.2.2.1, trivial⟩, by simp only [Fo.size]; omega⟩
      case round =>
        obtain ⟨t, F, rfl, rfl, hst, htn, hFn, HF⟩ := hrel
        cases F with
        | nil =>
          have ht : t = s + kk.size + 1 := by have := HF.out.2.2; simp [Fo.size] at this; omega
          have htI : Hid (t = s + (kk.size + 1)) := by unfold Hid; omega
          have hsl : s < t := by omega
          have hlj : done.length + 1 ≤ 1099511627777 := by have := HDJ.out; omega
          clear ht
          go_wp2_with (at_builtin; go_must (refine wpList_appG1 elemNds rfl _ _ rfl hown rfl (news := [.slice (some ⟨b, off + s * 3, none⟩) (t - s) (t - s)]) rfl rfl (by intro u hu; simp at hu; subst hu; rfl) (by unfold maxLen; omega) (by omega) hws ?_); intro v' w3 hown3 hg3)
          have HB3 : Hid (Below w.heap.size w w3) := HBel.out.grown hg3 hws (fun j hj => own_block hown j hj)
          have HO3 : Hid (w3.ownsRow w.heap.size 22 1 v' (done ++ [(s, kk.size + 1)]).length ((done ++ [(s, kk.size + 1)]).map (pieceV b off))) := by
            rw [List.length_append, List.map_append]
            have : t - s = kk.size + 1 := by have := htI.out; omega
            rw [this] at hown3
            exact hown3
          clear hown3 hg3
          go_roundw
          case rel =>
            refine ⟨j + 1, t, r', done ++ [(s, kk.size + 1)], by go_num, rfl, HO3.out, by rw [List.length_append, HDJ.out]; rfl, by have := HJR.out; omega, by have := HSR.out; have := htI.out; omega, HB3.out, ?_, ?_, HR.out.2.2.2.2⟩
            · rw [HR.out.1, htI.out]; simp [Fo.pieces, Nat.add_assoc]
            · rw [HF.out.1]; rfl
          case measure => simp [intOf]; omega
        | cons z a b2 =>
          have hfl := HF.out.1
          obtain ⟨g1, g2, g3⟩ := drop_head (by simpa [Fo.flat] using hfl)
          obtain ⟨-, -, z2⟩ := HC.out t z g1
          have Z2 := (HBel.out.cell (p := ⟨b, _, none⟩) hb).trans z2
          rw [HF.out.2.1.1] at Z2
          have htl : t < n := by simp only [Fo.size] at htn; omega
          have hal := Fo.len_le a
          have hbl := Fo.len_le b2
          simp only [Fo.size] at htn hFn
          have HG2 := Lib.hid g2
          have e1 : (Fo.cons z a b2).len = b2.len + 1 := rfl
          rw [e1]
          clear hfl g1 g2 g3 z2 e1
          go_wp2
          go_round
          case rel => exact ⟨t + 1, a.app b2, by go_num, by rw [Fo.len_app]; go_num, by omega, by rw [Fo.size_app]; omega, by rw [Fo.size_app]; omega, by rw [HG2.out, Fo.flat_app]; simp, Fo.wf_app _ _ HF.out.2.1.2.1 HF.out.2.1.2.2, by rw [Fo.size_app]; have := HF.out.2.2; simp only [Fo.size] at this; omega⟩
          case measure => simp [intOf]; omega
    · have hr0 : r = .nil := by
        cases r with
        | nil => rfl
        | cons y kk r' => simp [Fo.len] at hjr; omega
      have HE : Hid (k.pieces 1 = done ∧ k.len = done.length) := by
        obtain ⟨q1, q2, q3⟩ := HR.out
        rw [hr0] at q1
        refine ⟨by rw [q1]; simp [Fo.pieces], ?_⟩
        rw [hr0] at hjr; simp [Fo.len] at hjr; omega
      clear hr0 hjr hdj
      obtain ⟨_, ao, cp, rfl, -⟩ := Rd.of_owns hown
      go_wp2
      go_ret
      exact ⟨_, rfl, by rw [HE.out.1, HE.out.2]; exact hown, HBel.out⟩
end Go.Proofs.Ytbpipnjdfmpbdaa
