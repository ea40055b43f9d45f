import Derived.Test.YtbpipnjdfmpbdaaRvA
import Derived.Test.YtbpipnjdfmpbdaaRvD
import Derived.Laws.CopyOwn
import Derived.Test.YtbpipnjdfmpbdaaRtJ
namespace Go.Proofs.Ytbpipnjdfmpbdaa

/-! ### plain: to which places a relation leads from given places -/
def Img (R : Nat → Nat → Prop) (A : List Bool) (j : Nat) : Prop := ∃ i, St A i ∧ R i j
theorem st_lt {L : List Bool} {k : Nat} (h : St L k) : k < L.length := (List.getElem?_eq_some_iff.1 h).1
structure ES (n : Nat) (A : List Bool) (R : Nat → Nat → Prop) (T : List Bool) : Prop where
  len : T.length = n
  at' : ∀ c, c < n → (St T c ↔ Img R A c)
theorem ES.iff {n : Nat} {A T : List Bool} {R S : Nat → Nat → Prop} (h : ES n A R T) (he : ∀ i c, R i c ↔ S i c) : ES n A S T :=
  ⟨h.len, fun c hc => by rw [h.at' c hc]; unfold Img; exact exists_congr fun _ => and_congr_right fun _ => he _ c⟩
theorem ES.id {n : Nat} {A : List Bool} (h : A.length = n) : ES n A (fun i j => i = j) A :=
  ⟨h, fun c _ => ⟨fun hs => ⟨c, hs, rfl⟩, fun ⟨i, hs, e⟩ => e ▸ hs⟩⟩
theorem ES.zero (n : Nat) (A : List Bool) : ES n A (anyR []) (List.replicate n false) :=
  ⟨by simp, fun c _ => ⟨fun h => absurd h (st_rep _ _), fun ⟨_, _, r, hr, _⟩ => by cases hr⟩⟩
theorem ES.step {n : Nat} {A T U : List Bool} {R S : Nat → Nat → Prop} (h : ES n A R T) (k : ES n T S U) (hA : A.length = n) (hb : BdR n R) : ES n A (fun i j => ∃ q, R i q ∧ S q j) U := by
  refine ⟨k.len, fun c hc => ?_⟩
  rw [k.at' c hc]
  constructor
  · rintro ⟨q, h1, h2⟩
    obtain ⟨i, h3, h4⟩ := (h.at' q (by have := st_lt h1; rw [h.len] at this; exact this)).1 h1
    exact ⟨i, h3, q, h4, h2⟩
  · rintro ⟨i, h1, q, h2, h3⟩
    have hq := hb i q (by have := st_lt h1; omega) h2
    exact ⟨q, (h.at' q hq).2 ⟨i, h1, h2⟩, h3⟩
theorem ES.or {n : Nat} {A T U : List Bool} {R S : Nat → Nat → Prop} (h : ES n A R T) (k : ES n A S U) : ES n A (fun i j => R i j ∨ S i j) (orL T U) := by
  refine ⟨by rw [orL_len (by rw [h.len, k.len])]; exact h.len, fun c hc => ?_⟩
  rw [st_or _ _ _ (by rw [h.len, k.len]), h.at' c hc, k.at' c hc]
  constructor
  · rintro (⟨i, h1, h2⟩ | ⟨i, h1, h2⟩)
    · exact ⟨i, h1, .inl h2⟩
    · exact ⟨i, h1, .inr h2⟩
  · rintro ⟨i, h1, h2 | h2⟩
    · exact .inl ⟨i, h1, h2⟩
    · exact .inr ⟨i, h1, h2⟩
/-! ### plain: the closure, round by round -/
structure GenI (n : Nat) (A : List Bool) (S : Nat → Nat → Prop) (T : List Bool) : Prop where
  len : T.length = n
  low : ∀ c, c < n → Img S A c → St T c
  high : ∀ c, St T c → Img (Relation.TransGen S) A c
theorem genI_start {n : Nat} {A T : List Bool} {S : Nat → Nat → Prop} (h : ES n A S T) : GenI n A S T :=
  ⟨h.len, fun c hc hi => (h.at' c hc).2 hi, fun c hs => by
    obtain ⟨i, h1, h2⟩ := (h.at' c (by have := st_lt hs; rw [h.len] at this; exact this)).1 hs
    exact ⟨i, h1, .single h2⟩⟩
theorem genI_step {n : Nat} {A T U : List Bool} {S : Nat → Nat → Prop} (h : GenI n A S T) (k : ES n T S U) : GenI n A S (orL T U) := by
  refine ⟨by rw [orL_len (by rw [h.len, k.len])]; exact h.len, fun c hc hi => ?_, fun c hs => ?_⟩
  · rw [st_or _ _ _ (by rw [h.len, k.len])]; exact .inl (h.low c hc hi)
  · rw [st_or _ _ _ (by rw [h.len, k.len])] at hs
    rcases hs with hs | hs
    · exact h.high c hs
    · obtain ⟨q, h1, h2⟩ := (k.at' c (by have := st_lt hs; rw [k.len] at this; exact this)).1 hs
      obtain ⟨i, h3, h4⟩ := h.high q h1
      exact ⟨i, h3, .tail h4 h2⟩
theorem ch_false {T U : List Bool} (hl : U.length = T.length) (h : (chL T U).any id = false) (c : Nat) (hs : St U c) : St T c := by
  have hc := st_lt hs
  have h1 := List.getElem?_eq_getElem (l := T) (i := c) (by omega)
  have h2 := chL_at h1 hs
  rw [List.any_eq_false] at h
  have := h _ (List.mem_of_getElem? h2)
  unfold St
  rw [h1]
  simpa using this
theorem genI_end {n : Nat} {A T U : List Bool} {S : Nat → Nat → Prop} (h : GenI n A S T) (k : ES n T S U) (hA : A.length = n) (hb : BdR n S) (hf : (chL T U).any id = false) : ES n A (Relation.TransGen S) (orL T U) := by
  have hl : U.length = T.length := by rw [h.len, k.len]
  have h2 := genI_step h k
  refine ⟨h2.len, fun c hc => ⟨h2.high c, ?_⟩⟩
  rintro ⟨i, h3, h4⟩
  have hi : i < n := by have := st_lt h3; omega
  have hbg := bd_gen hb
  induction h4 with
  | single h5 => exact h2.low _ hc ⟨i, h3, h5⟩
  | @tail q c h5 h6 ih =>
    have hq := hbg i q hi h5
    have h7 := ih hq
    rw [st_or _ _ _ (by omega)] at h7 ⊢
    have h8 : St T q := by
      rcases h7 with h7 | h7
      · exact h7
      · exact ch_false hl hf q h7
    exact .inr ((k.at' c hc).2 ⟨q, h8, h6⟩)
/-! ### plain: the count that falls -/
def cntL (T : List Bool) : Nat := ((List.range T.length).filter fun j => T[j]? == some false).length
theorem filter_lt {α : Type} (p q : α → Bool) (l : List α) (hle : ∀ x, x ∈ l → p x = true → q x = true) (hlt : ∃ x, x ∈ l ∧ q x = true ∧ p x = false) : (l.filter p).length < (l.filter q).length := by
  have hle' : ∀ l : List α, (∀ x, x ∈ l → p x = true → q x = true) → (l.filter p).length ≤ (l.filter q).length := by
    intro l
    induction l with
    | nil => intro _; exact Nat.le_refl _
    | cons a l ih =>
      intro h
      have h1 := ih (fun x hx => h x (List.mem_cons_of_mem _ hx))
      have h2 := h a (List.mem_cons_self ..)
      rw [List.filter_cons, List.filter_cons]
      cases hp : p a <;> cases hq : q a <;> simp_all <;> omega
  induction l with
  | nil => obtain ⟨x, hx, _⟩ := hlt; cases hx
  | cons a l ih =>
    have h2 := hle a (List.mem_cons_self ..)
    obtain ⟨x, hx, h3, h4⟩ := hlt
    have hle2 := hle' l (fun x hx => hle x (List.mem_cons_of_mem _ hx))
    rw [List.filter_cons, List.filter_cons]
    rcases List.mem_cons.1 hx with rfl | hx
    · rw [h3, h4]; simp; omega
    · have h1 := ih (fun x hx => hle x (List.mem_cons_of_mem _ hx)) ⟨x, hx, h3, h4⟩
      cases hp : p a <;> cases hq : q a <;> simp_all <;> omega
theorem cnt_falls {T U : List Bool} (hl : U.length = T.length) (h : (chL T U).any id = true) : cntL (orL T U) < cntL T := by
  unfold cntL
  rw [orL_len hl]
  refine filter_lt _ _ _ (fun j hj hp => ?_) ?_
  · rw [List.mem_range] at hj
    have h1 := List.getElem?_eq_getElem (l := T) (i := j) hj
    have h2 := List.getElem?_eq_getElem (l := U) (i := j) (by omega)
    rw [orL_at h1 h2] at hp
    rw [h1]
    simp at hp ⊢
    exact hp.1
  · rw [List.any_eq_true] at h
    obtain ⟨b, hb, hbt⟩ := h
    obtain ⟨j, hj⟩ := List.getElem?_of_mem hb
    have hjl : j < T.length := by
      have := (List.getElem?_eq_some_iff.1 hj).1
      unfold chL at this
      rw [List.length_zipWith] at this
      omega
    have h1 := List.getElem?_eq_getElem (l := T) (i := j) hjl
    have h2 := List.getElem?_eq_getElem (l := U) (i := j) (by omega)
    rw [chL_at h1 h2] at hj
    injection hj with hj
    subst hj
    simp at hbt
    refine ⟨j, by simp; omega, ?_, ?_⟩
    · rw [h1, hbt.2]; rfl
    · rw [orL_at h1 h2, hbt.1]; simp
end Go.Proofs.Ytbpipnjdfmpbdaa
namespace Go.Proofs.Ytbpipnjdfmpbdaa
open Go.RowKit Go.Shelf

/-- 'copy(to, from)' between rows of as many bools -/
theorem wpList_copyB {w : World} {ops : Array Oper} {rest : List Oper} {o : Oper} {a : Act} {Q : Exit → Act → World → Prop} (hgd : o.guard = none) (d s : Operand)
    (ho : o.op = .call { callee := .builtin .copy, args := #[d, s], argTypes := #[85, 85] }) {B g cap n cs : Nat} {T A : List Bool} {ad : Addr}
    (hd : a.eval d = .slice (some ⟨g, 0, none⟩) n cap) (hs : a.eval s = .slice (some ad) n cs) (hT : OwnB w B (.slice (some ⟨g, 0, none⟩) n cap) T) (hTn : T.length = n) (hAn : A.length = n)
    (hA : ∀ (j : Nat) (q : Bool), A[j]? = some q → w.cell? (ad.add j) = some (.bool q))
    (h : ∀ w', OwnB w' B (.slice (some ⟨g, 0, none⟩) n cap) A → w.grownBy w' (some g) → wpList Try.prog ops Q rest (a.put o.dst (goInt n)) w') :
    wpList Try.prog ops Q (o :: rest) a w := by
  rcases hT.2 with ⟨h1, _⟩ | ⟨g2, cap2, cur, h2, h3, h4, h5, h6, h7, h8⟩
  · cases h1
  · simp only [Value.slice.injEq, Option.some.injEq, Addr.mk.injEq] at h2
    obtain ⟨⟨rfl, -, -⟩, -, rfl⟩ := h2
    have hbl : (bools A).length = n := by unfold bools; rw [List.length_map]; exact hAn
    refine wpList_copy_own hgd d s _ _ ho 4 Try.underlying85 (by kernel_rfl) g 0 n cap ad n cs hd hs cur 4 h4 (bools A) (by rw [hbl]; simp) ?_ (by rw [hbl]; omega) ?_ ?_
    · intro j v hj
      unfold bools at hj
      rw [List.getElem?_map] at hj
      cases hq : A[j]? with
      | none => rw [hq] at hj; cases hj
      | some q => rw [hq] at hj; simp only [Option.map, Option.some.injEq] at hj; rw [← hj]; exact hA j q hq
    · intro v hv
      unfold bools at hv
      obtain ⟨q, _, rfl⟩ := List.mem_map.1 hv
      rfl
    · rw [hbl]
      refine h _ ?_ ⟨rfl, rfl, rfl, by simp [World.setRow], fun k hk hne => setRow_other w g k _ (by intro e; exact hne (by rw [e]))⟩
      refine ⟨by unfold bools; simp, .inr ⟨g, cap, _, by rw [hAn], h3, setRow_heap w g cur _ _ _ h4, by omega, h6, ?_, ?_⟩⟩
      · simp; omega
      · simp [hAn, hbl]

/-- how many of a row's places are false -/
def cntF (w : World) (g n : Nat) : Nat := ((List.range n).filter fun j => match w.cell? ⟨g, j, none⟩ with | some (.bool false) => true | _ => false).length
theorem cntF_own {w : World} {B g n cap : Nat} {T : List Bool} (h : OwnB w B (.slice (some ⟨g, 0, none⟩) n cap) T) (hT : T.length = n) : cntF w g n = cntL T := by
  unfold cntF cntL
  rw [hT]
  congr 1
  apply List.filter_congr
  intro j hj
  rw [List.mem_range] at hj
  obtain ⟨q, hq⟩ : ∃ q, T[j]? = some q := ⟨_, List.getElem?_eq_getElem (by omega)⟩
  obtain ⟨g2, cap2, e2, _, _, _, hcs⟩ := h.pos (by omega)
  simp only [Value.slice.injEq, Option.some.injEq, Addr.mk.injEq] at e2
  obtain ⟨⟨rfl, -, -⟩, -, rfl⟩ := e2
  rw [(hcs j q hq).1, hq]
  cases q <;> rfl
/-! ### ends -/
def EnRet (W : List ByteArray) (x : Nd) (k : Fo) (A : List Bool) (w : World) (e : Ending) (w' : World) : Prop :=
  ∃ v' T, e = .returned v' ∧ OwnB w' w.heap.size v' T ∧ ES (W.length + 1) A (spN W x (k.sp W)) T ∧ Below w.heap.size w w'
def EnOk (m : Nat) : Prop := ∀ (x : Nd) (k : Fo) (w : World) (b off cap : Nat) (vw : Value) (W : List ByteArray) (vf : Value) (A : List Bool), k.size + 1 ≤ m → (Fo.cons x k .nil).wf → (Fo.cons x k .nil).all mayN → NdAt w b off (Fo.cons x k .nil).flat → k.size + 1 ≤ cap →
  RdW w vw W → W.length ≤ 64 → RdB w vf A → A.length = W.length + 1 → Calls Try.prog 63 #[.slice (some ⟨b, off, none⟩) (k.size + 1) cap, vw, vf] w (EnRet W x k A w)

set_option maxRecDepth 100000 in
set_option maxHeartbeats 6400000 in
theorem xEnds_step (m : Nat) (hm : m ≤ 16777216) (ih : EnOk m) : EnOk (m + 1) := by
  intro x k w b off cap vw W vf A hkn hwf hall h hcap hW hWl hA hAn
  have hb := h.lt
  have HNd := Lib.hid h
  obtain ⟨c0, c1, c2⟩ := h.cell 0 x rfl
  rw [Nat.zero_mul, Nat.add_zero] at c0 c1 c2
  have hfl : (Fo.cons x k .nil).flat.length = k.size + 1 := by rw [Fo.flat_len]; simp [Fo.size]
  have HKd : Hid (∀ wx, Below w.heap.size w wx → Calls Try.prog 81 #[.slice (some ⟨b, off, none⟩) (k.size + 1) cap] wx (KRet b off k wx)) := by
    intro wx hbx
    have := xKids_any b off cap x k _ wx (h.below hbx) rfl hwf.1 hwf.2.1 (by rw [hfl]; exact hcap) (by rw [hfl]; omega)
    rw [hfl] at this
    exact this
  have HCall : Hid (∀ (j : Nat) (y : Nd) (kk : Fo) (pc : Nat × Nat) (cp : Nat), k.get j = .cons y kk .nil → (k.pieces 1)[j]? = some pc → pc.2 ≤ cp → pc.2 = kk.size + 1 ∧ ∀ wx vf' A', Below w.heap.size w wx → RdB wx vf' A' → A'.length = W.length + 1 → Calls Try.prog 63 #[.slice (some ⟨b, off + pc.1 * 3, none⟩) pc.2 cp, vw, vf'] wx (EnRet W y kk A' wx)) := by
    intro j y kk pc cp hy hpc hcp
    have hj : j < k.len := by have := (List.getElem?_eq_some_iff.1 hpc).1; rwa [Fo.pieces_len] at this
    obtain ⟨y', kk', hy1, hy2, hy3, hy4, -⟩ := Fo.get_cons k j hj
    rw [hy] at hy1
    simp only [Fo.cons.injEq, and_true] at hy1
    obtain ⟨rfl, rfl⟩ := hy1
    obtain ⟨q1, qa, qb, q2, q3, q4, q5, q6⟩ := Fo.flat_get k j 1 pc hpc
    rw [hy] at q2 q4
    have hps : pc.2 = kk.size + 1 := by rw [← q4, Fo.flat_len]; simp [Fo.size]
    refine ⟨hps, fun wx vf' A' hbx hA' hAl => ?_⟩
    have hNP : NdAt wx b (off + pc.1 * 3) (Fo.cons y kk .nil).flat := by
      have := (h.below hbx).piece (x :: qa) (Fo.cons y kk .nil).flat qb (by simp only [Fo.flat, List.append_nil] at q2 ⊢; rw [q2]; simp)
      rw [List.length_cons, q3, show pc.1 - 1 + 1 = pc.1 from by omega] at this
      exact this
    rw [hps] at hcp ⊢
    exact ih y kk wx b _ cp _ W _ A' (by omega) ⟨(hy4 hwf.2.1).1, (hy4 hwf.2.1).2, trivial⟩ (by have := Fo.all_get k hall.2.1 j; rw [hy] at this; exact this) hNP hcp (hW.below hbx) hWl hA' hAl
  obtain ⟨i0, hi, hz, hz1, hz2⟩ := infoB
  have hmk := hall.1.k
  have hck := Lib.hid hwf.1
  have hmay := Lib.hid hall.1
  have HBd := Lib.hid (bd_sp W k)
  have hkl := Fo.len_le k
  have hks : k.size ≤ 16777216 := by omega
  have hpos : 0 < k.size + 1 := by omega
  have HW := Lib.hid hW
  have HAr := Lib.hid hA
  obtain ⟨bf, fo, cf, rfl, hbf, hcf, hcA⟩ := hA.pos (by omega)
  obtain ⟨_, aw, cw, rfl, hcw, -⟩ := id hW
  have HcA := Lib.hid hcA
  obtain ⟨n, hn⟩ : ∃ n, n = W.length + 1 := ⟨_, rfl⟩
  have HNn := Lib.hid hn
  have hWn : W.length < n := by omega
  have hn0 : 0 < n := by omega
  have hnl : n ≤ 65 := by omega
  unfold EnRet at HCall ⊢
  rw [← hn] at HBd HCall hAn ⊢
  rw [hAn] at hcf ⊢
  have HAn := Lib.hid hAn
  clear h hcA hW hA hn hAn ih hkn hfl hwf hall
  have hcase : x.k = 1 ∨ (x.k = 2 ∨ x.k = 3) ∨ x.k = 4 ∨ x.k = 5 ∨ x.k = 8 ∨ (x.k = 6 ∨ x.k = 7) := by omega
  rcases hcase with hk | hk | hk | hk | hk | hk
  · have HSp : Hid (∀ i j, spN W x (k.sp W) i j ↔ i = j) := fun i j => by unfold spN; rw [if_pos hk]
    rw [hk] at c0
    generalize k.size + 1 = ks at *
    go_enter Try.func63, Try.ntmps63
    go_wp2_with (first
      | (at_make; refine wpList_make_full _ rfl _ _ 85 rfl w.heap.size 4 i0 (.bool false) 1 Try.underlying85 hi hz hz1 .i64 .i64 _ _ n rfl rfl rfl rfl (by rw [hz2]; omega) (by unfold maxLen; omega) (Nat.le_refl _) ?_; intro w1 hown1 hg1; rw [madeB] at hown1; have HB1 := Lib.hid (below_grown hg1); have C0 := (HB1.out.cell (p := ⟨b, off, none⟩) hb).trans c0; have C1 := (HB1.out.cell (p := ⟨b, off + 1, none⟩) hb).trans c1; have C2 := (HB1.out.cell (p := ⟨b, off + 2, none⟩) hb).trans c2; have HO1 : Hid (OwnB (w1.alloc (.cells #[.int .i64 1, .string x.n, .int .i64 x.c] 39)) w.heap.size (.slice (some ⟨w.heap.size, 0, none⟩) n n) (List.replicate n false)) := (by unfold Hid OwnB; rw [List.length_replicate]; exact World.ownsRow.alloc hown1 _); have HB2 : Hid (Below w.heap.size w (w1.alloc (.cells #[.int .i64 1, .string x.n, .int .i64 x.c] 39))) := HB1.out.alloc HB1.out.size _; have HcA2 : Hid (∀ (j : Nat) (q : Bool), A[j]? = some q → (w1.alloc (.cells #[.int .i64 1, .string x.n, .int .i64 x.c] 39)).cell? ((⟨bf, fo, none⟩ : Addr).add j) = some (.bool q)) := (fun j q hq => by rw [Addr.add_lit]; exact (HB2.out.cell (p := ⟨bf, fo + j, none⟩) hbf).trans (HcA.out j q hq)); have HsG : w.heap.size < w1.heap.size := (by have := hown1.lt w.heap.size rfl; omega); have HBox : Hid ((w1.alloc (.cells #[.int .i64 1, .string x.n, .int .i64 x.c] 39)).heap[w1.heap.size]? = some (.cells #[.int .i64 1, .string x.n, .int .i64 x.c] 39 (0, 0))) := World.alloc_heap_new w1 _; clear hown1 hg1)
      | (refine wpList_copyB (o := ⟨some 45, _, _, _, _, _⟩) rfl (.tmp 43) (.tmp 44) rfl rfl rfl HO1.out (by simp) HAn.out HcA2.out ?_; intro w3 hO3 hg3; have HO3 := Lib.hid hO3; have HB3 : Hid (Below w.heap.size w w3) := HB2.out.grown hg3 HB2.out.size (fun j hj => by cases hj; exact Nat.le_refl _); clear hO3 hg3))
    go_ret
    exact ⟨_, A, rfl, HO3.out, (ES.id HAn.out).iff fun i j => (HSp.out i j).symm, HB3.out⟩
  · have HSp : Hid (∀ i j, spN W x (k.sp W) i j ↔ (j = i + 1 ∧ W[i]? = some x.n)) := fun i j => by unfold spN; rw [if_neg (by omega), if_pos hk]
    generalize k.size + 1 = ks at *
    rcases hk with hk | hk
    · rw [hk] at c0
      go_enter Try.func63, Try.ntmps63
      go_wp2_with (at_make; refine wpList_make_full _ rfl _ _ 85 rfl w.heap.size 4 i0 (.bool false) 1 Try.underlying85 hi hz hz1 .i64 .i64 _ _ n rfl rfl rfl rfl (by rw [hz2]; omega) (by unfold maxLen; omega) (Nat.le_refl _) ?_; intro w1 hown1 hg1; rw [madeB] at hown1; have HB1 := Lib.hid (below_grown hg1); have C0 := (HB1.out.cell (p := ⟨b, off, none⟩) hb).trans c0; have C1 := (HB1.out.cell (p := ⟨b, off + 1, none⟩) hb).trans c1; have C2 := (HB1.out.cell (p := ⟨b, off + 2, none⟩) hb).trans c2; have HO1 : Hid (OwnB (w1.alloc (.cells #[.int .i64 2, .string x.n, .int .i64 x.c] 39)) w.heap.size (.slice (some ⟨w.heap.size, 0, none⟩) n n) (List.replicate n false)) := (by unfold Hid OwnB; rw [List.length_replicate]; exact World.ownsRow.alloc hown1 _); have HB2 : Hid (Below w.heap.size w (w1.alloc (.cells #[.int .i64 2, .string x.n, .int .i64 x.c] 39))) := HB1.out.alloc HB1.out.size _; have HcA2 : Hid (∀ (j : Nat) (q : Bool), A[j]? = some q → (w1.alloc (.cells #[.int .i64 2, .string x.n, .int .i64 x.c] 39)).cell? ((⟨bf, fo, none⟩ : Addr).add j) = some (.bool q)) := (fun j q hq => by rw [Addr.add_lit]; exact (HB2.out.cell (p := ⟨bf, fo + j, none⟩) hbf).trans (HcA.out j q hq)); have HsG : w.heap.size < w1.heap.size := (by have := hown1.lt w.heap.size rfl; omega); have HBox : Hid ((w1.alloc (.cells #[.int .i64 2, .string x.n, .int .i64 x.c] 39)).heap[w1.heap.size]? = some (.cells #[.int .i64 2, .string x.n, .int .i64 x.c] 39 (0, 0))) := World.alloc_heap_new w1 _; clear hown1 hg1)
      go_loopw [51] (fun i wr => ∃ (j : Nat) (T : List Bool), i = .int .i64 j ∧ j ≤ W.length ∧ T.length = n ∧ Hid (OwnB wr w.heap.size (.slice (some ⟨w.heap.size, 0, none⟩) n n) T) ∧ Hid (∀ c, c < n → (St T c ↔ ∃ a, St A a ∧ c = a + 1 ∧ W[a]? = some x.n ∧ a < j)) ∧ Hid (wr.heap[w1.heap.size]? = some (.cells #[.int .i64 2, .string x.n, .int .i64 x.c] 39 (0, 0))) ∧ Hid (Below w.heap.size w wr)) (fun i _ => W.length - (intOf i).toNat)
      case atStart => exact ⟨0, _, rfl, Nat.zero_le _, by simp, HO1.out, fun c _ => ⟨fun h => absurd h (st_rep _ _), fun ⟨a, _, _, _, h⟩ => by omega⟩, HBox.out, HB2.out⟩
      case round =>
        obtain ⟨j, T, rfl, hj, hT, HO, HS, HBx, HBel⟩ := hrel
        by_cases hlt : j < W.length
        · obtain ⟨t, ht⟩ : ∃ t, W[j]? = some t := ⟨_, List.getElem?_eq_getElem hlt⟩
          obtain ⟨a, ha⟩ : ∃ a, A[j]? = some a := ⟨_, List.getElem?_eq_getElem (by have := HAn.out; omega)⟩
          obtain ⟨bw, ow, cw', ew, hbw, hcw', cW⟩ := HW.out.at ht
          simp only [Value.slice.injEq] at ew
          obtain ⟨rfl, -, rfl⟩ := ew
          have CW := (HBel.out.cell (p := ⟨bw, ow + j, none⟩) hbw).trans cW
          have CA := (HBel.out.cell (p := ⟨bf, fo + j, none⟩) hbf).trans (HcA.out j a ha)
          have CX : wr.cell? ⟨w1.heap.size, 1, none⟩ = some (.string x.n) := by have := HBx.out; simp [World.cell?, this]
          obtain ⟨q0, hq0⟩ : ∃ q0, T[j + 1]? = some q0 := ⟨_, List.getElem?_eq_getElem (by omega)⟩
          obtain ⟨g2, cap2, e2, hBg, hgl, hnc, hcs⟩ := HO.out.pos (by omega)
          simp only [Value.slice.injEq, Option.some.injEq, Addr.mk.injEq] at e2
          obtain ⟨⟨rfl, -, -⟩, -, rfl⟩ := e2
          obtain ⟨cT, fT⟩ := hcs (j + 1) q0 hq0
          have HTt := Lib.hid ht
          have HAa := Lib.hid ha
          have HU : Hid ((t.toList == x.n.toList) = true ↔ t = x.n) := by unfold Hid; rw [beq_iff_eq, toList_inj]
          have HSt : Hid (∀ u : Bool, (u = true ↔ a = true ∧ t = x.n) → OwnB (wr.setCell ⟨w.heap.size, j + 1, none⟩ (.bool u)) w.heap.size (.slice (some ⟨w.heap.size, 0, none⟩) n n) (T.set (j + 1) u) ∧ (∀ c, c < n → (St (T.set (j + 1) u) c ↔ ∃ a, St A a ∧ c = a + 1 ∧ W[a]? = some x.n ∧ a < j + 1)) ∧ (wr.setCell ⟨w.heap.size, j + 1, none⟩ (.bool u)).heap[w1.heap.size]? = some (.cells #[.int .i64 2, .string x.n, .int .i64 x.c] 39 (0, 0)) ∧ Below w.heap.size w (wr.setCell ⟨w.heap.size, j + 1, none⟩ (.bool u))) := by
            intro u hu
            refine ⟨(OwnB.set HO.out hT (j + 1) u).1, fun c hc => ?_, (Below.heap_setCell wr ⟨w.heap.size, j + 1, none⟩ (.bool u) w1.heap.size (by show w1.heap.size ≠ w.heap.size; omega)).trans HBx.out, HBel.out.setCell (p := ⟨w.heap.size, j + 1, none⟩) (Nat.le_refl _) _⟩
            rw [st_setu _ _ _ _ (by omega), HS.out c hc, hu]
            constructor
            · rintro (⟨rfl, h1, h2⟩ | ⟨_, a', h1, h2, h3, h4⟩)
              · exact ⟨j, by unfold St; rw [HAa.out, h1], rfl, by rw [HTt.out, h2], by omega⟩
              · exact ⟨a', h1, h2, h3, by omega⟩
            · rintro ⟨a', h1, h2, h3, h4⟩
              by_cases haj : a' = j
              · subst haj
                refine .inl ⟨h2, ?_, ?_⟩
                · unfold St at h1; rw [HAa.out] at h1; injection h1
                · rw [HTt.out] at h3; injection h3
              · exact .inr ⟨by omega, a', h1, h2, h3, by omega⟩
          have hls : ∀ u : Bool, (T.set (j + 1) u).length = n := fun u => by rw [List.length_set]; exact hT
          clear hcs hq0 ht ha cW
          cases a
          all_goals
            go_wp2_with fail
            go_roundw
            case rel => exact ⟨j + 1, _, by go_num, by omega, hls _, (HSt.out _ (by first | (rw [HU.out]; simp; done) | simp)).1, (HSt.out _ (by first | (rw [HU.out]; simp; done) | simp)).2.1, (HSt.out _ (by first | (rw [HU.out]; simp; done) | simp)).2.2.1, (HSt.out _ (by first | (rw [HU.out]; simp; done) | simp)).2.2.2⟩
            case measure => simp [intOf]; omega
        · obtain rfl : j = W.length := by omega
          have HMx : Hid (ES n A (spN W x (k.sp W)) T) := by
            refine ⟨hT, fun c hc => ?_⟩
            rw [HS.out c hc]
            unfold Img
            constructor
            · rintro ⟨a, h1, h2, h3, _⟩; exact ⟨a, h1, (HSp.out a c).2 ⟨h2, h3⟩⟩
            · rintro ⟨a, h1, h2⟩
              obtain ⟨h3, h4⟩ := (HSp.out a c).1 h2
              exact ⟨a, h1, h3, h4, (List.getElem?_eq_some_iff.1 h4).1⟩
          go_wp2_with fail
          go_ret
          exact ⟨_, T, rfl, HO.out, HMx.out, HBel.out⟩
    · rw [hk] at c0
      go_enter Try.func63, Try.ntmps63
      go_wp2_with (at_make; refine wpList_make_full _ rfl _ _ 85 rfl w.heap.size 4 i0 (.bool false) 1 Try.underlying85 hi hz hz1 .i64 .i64 _ _ n rfl rfl rfl rfl (by rw [hz2]; omega) (by unfold maxLen; omega) (Nat.le_refl _) ?_; intro w1 hown1 hg1; rw [madeB] at hown1; have HB1 := Lib.hid (below_grown hg1); have C0 := (HB1.out.cell (p := ⟨b, off, none⟩) hb).trans c0; have C1 := (HB1.out.cell (p := ⟨b, off + 1, none⟩) hb).trans c1; have C2 := (HB1.out.cell (p := ⟨b, off + 2, none⟩) hb).trans c2; have HO1 : Hid (OwnB (w1.alloc (.cells #[.int .i64 3, .string x.n, .int .i64 x.c] 39)) w.heap.size (.slice (some ⟨w.heap.size, 0, none⟩) n n) (List.replicate n false)) := (by unfold Hid OwnB; rw [List.length_replicate]; exact World.ownsRow.alloc hown1 _); have HB2 : Hid (Below w.heap.size w (w1.alloc (.cells #[.int .i64 3, .string x.n, .int .i64 x.c] 39))) := HB1.out.alloc HB1.out.size _; have HcA2 : Hid (∀ (j : Nat) (q : Bool), A[j]? = some q → (w1.alloc (.cells #[.int .i64 3, .string x.n, .int .i64 x.c] 39)).cell? ((⟨bf, fo, none⟩ : Addr).add j) = some (.bool q)) := (fun j q hq => by rw [Addr.add_lit]; exact (HB2.out.cell (p := ⟨bf, fo + j, none⟩) hbf).trans (HcA.out j q hq)); have HsG : w.heap.size < w1.heap.size := (by have := hown1.lt w.heap.size rfl; omega); have HBox : Hid ((w1.alloc (.cells #[.int .i64 3, .string x.n, .int .i64 x.c] 39)).heap[w1.heap.size]? = some (.cells #[.int .i64 3, .string x.n, .int .i64 x.c] 39 (0, 0))) := World.alloc_heap_new w1 _; clear hown1 hg1)
      go_loopw [51] (fun i wr => ∃ (j : Nat) (T : List Bool), i = .int .i64 j ∧ j ≤ W.length ∧ T.length = n ∧ Hid (OwnB wr w.heap.size (.slice (some ⟨w.heap.size, 0, none⟩) n n) T) ∧ Hid (∀ c, c < n → (St T c ↔ ∃ a, St A a ∧ c = a + 1 ∧ W[a]? = some x.n ∧ a < j)) ∧ Hid (wr.heap[w1.heap.size]? = some (.cells #[.int .i64 3, .string x.n, .int .i64 x.c] 39 (0, 0))) ∧ Hid (Below w.heap.size w wr)) (fun i _ => W.length - (intOf i).toNat)
      case atStart => exact ⟨0, _, rfl, Nat.zero_le _, by simp, HO1.out, fun c _ => ⟨fun h => absurd h (st_rep _ _), fun ⟨a, _, _, _, h⟩ => by omega⟩, HBox.out, HB2.out⟩
      case round =>
        obtain ⟨j, T, rfl, hj, hT, HO, HS, HBx, HBel⟩ := hrel
        by_cases hlt : j < W.length
        · obtain ⟨t, ht⟩ : ∃ t, W[j]? = some t := ⟨_, List.getElem?_eq_getElem hlt⟩
          obtain ⟨a, ha⟩ : ∃ a, A[j]? = some a := ⟨_, List.getElem?_eq_getElem (by have := HAn.out; omega)⟩
          obtain ⟨bw, ow, cw', ew, hbw, hcw', cW⟩ := HW.out.at ht
          simp only [Value.slice.injEq] at ew
          obtain ⟨rfl, -, rfl⟩ := ew
          have CW := (HBel.out.cell (p := ⟨bw, ow + j, none⟩) hbw).trans cW
          have CA := (HBel.out.cell (p := ⟨bf, fo + j, none⟩) hbf).trans (HcA.out j a ha)
          have CX : wr.cell? ⟨w1.heap.size, 1, none⟩ = some (.string x.n) := by have := HBx.out; simp [World.cell?, this]
          obtain ⟨q0, hq0⟩ : ∃ q0, T[j + 1]? = some q0 := ⟨_, List.getElem?_eq_getElem (by omega)⟩
          obtain ⟨g2, cap2, e2, hBg, hgl, hnc, hcs⟩ := HO.out.pos (by omega)
          simp only [Value.slice.injEq, Option.some.injEq, Addr.mk.injEq] at e2
          obtain ⟨⟨rfl, -, -⟩, -, rfl⟩ := e2
          obtain ⟨cT, fT⟩ := hcs (j + 1) q0 hq0
          have HTt := Lib.hid ht
          have HAa := Lib.hid ha
          have HU : Hid ((t.toList == x.n.toList) = true ↔ t = x.n) := by unfold Hid; rw [beq_iff_eq, toList_inj]
          have HSt : Hid (∀ u : Bool, (u = true ↔ a = true ∧ t = x.n) → OwnB (wr.setCell ⟨w.heap.size, j + 1, none⟩ (.bool u)) w.heap.size (.slice (some ⟨w.heap.size, 0, none⟩) n n) (T.set (j + 1) u) ∧ (∀ c, c < n → (St (T.set (j + 1) u) c ↔ ∃ a, St A a ∧ c = a + 1 ∧ W[a]? = some x.n ∧ a < j + 1)) ∧ (wr.setCell ⟨w.heap.size, j + 1, none⟩ (.bool u)).heap[w1.heap.size]? = some (.cells #[.int .i64 3, .string x.n, .int .i64 x.c] 39 (0, 0)) ∧ Below w.heap.size w (wr.setCell ⟨w.heap.size, j + 1, none⟩ (.bool u))) := by
            intro u hu
            refine ⟨(OwnB.set HO.out hT (j + 1) u).1, fun c hc => ?_, (Below.heap_setCell wr ⟨w.heap.size, j + 1, none⟩ (.bool u) w1.heap.size (by show w1.heap.size ≠ w.heap.size; omega)).trans HBx.out, HBel.out.setCell (p := ⟨w.heap.size, j + 1, none⟩) (Nat.le_refl _) _⟩
            rw [st_setu _ _ _ _ (by omega), HS.out c hc, hu]
            constructor
            · rintro (⟨rfl, h1, h2⟩ | ⟨_, a', h1, h2, h3, h4⟩)
              · exact ⟨j, by unfold St; rw [HAa.out, h1], rfl, by rw [HTt.out, h2], by omega⟩
              · exact ⟨a', h1, h2, h3, by omega⟩
            · rintro ⟨a', h1, h2, h3, h4⟩
              by_cases haj : a' = j
              · subst haj
                refine .inl ⟨h2, ?_, ?_⟩
                · unfold St at h1; rw [HAa.out] at h1; injection h1
                · rw [HTt.out] at h3; injection h3
              · exact .inr ⟨by omega, a', h1, h2, h3, by omega⟩
          have hls : ∀ u : Bool, (T.set (j + 1) u).length = n := fun u => by rw [List.length_set]; exact hT
          clear hcs hq0 ht ha cW
          cases a
          all_goals
            go_wp2_with fail
            go_roundw
            case rel => exact ⟨j + 1, _, by go_num, by omega, hls _, (HSt.out _ (by first | (rw [HU.out]; simp; done) | simp)).1, (HSt.out _ (by first | (rw [HU.out]; simp; done) | simp)).2.1, (HSt.out _ (by first | (rw [HU.out]; simp; done) | simp)).2.2.1, (HSt.out _ (by first | (rw [HU.out]; simp; done) | simp)).2.2.2⟩
            case measure => simp [intOf]; omega
        · obtain rfl : j = W.length := by omega
          have HMx : Hid (ES n A (spN W x (k.sp W)) T) := by
            refine ⟨hT, fun c hc => ?_⟩
            rw [HS.out c hc]
            unfold Img
            constructor
            · rintro ⟨a, h1, h2, h3, _⟩; exact ⟨a, h1, (HSp.out a c).2 ⟨h2, h3⟩⟩
            · rintro ⟨a, h1, h2⟩
              obtain ⟨h3, h4⟩ := (HSp.out a c).1 h2
              exact ⟨a, h1, h3, h4, (List.getElem?_eq_some_iff.1 h4).1⟩
          go_wp2_with fail
          go_ret
          exact ⟨_, T, rfl, HO.out, HMx.out, HBel.out⟩
  · have HSp : Hid (∀ i j, spN W x (k.sp W) i j ↔ seqR (k.sp W) i j) := fun i j => by unfold spN; rw [if_neg (by omega), if_neg (by omega), if_pos hk]
    rw [hk] at c0
    go_enter Try.func63, Try.ntmps63
    go_wp2_with (first
      | (at_make; refine wpList_make_full _ rfl _ _ 85 rfl w.heap.size 4 i0 (.bool false) 1 Try.underlying85 hi hz hz1 .i64 .i64 _ _ n rfl rfl rfl rfl (by rw [hz2]; omega) (by unfold maxLen; omega) (Nat.le_refl _) ?_; intro w1 hown1 hg1; rw [madeB] at hown1; have HB1 := Lib.hid (below_grown hg1); have C0 := (HB1.out.cell (p := ⟨b, off, none⟩) hb).trans c0; have C1 := (HB1.out.cell (p := ⟨b, off + 1, none⟩) hb).trans c1; have C2 := (HB1.out.cell (p := ⟨b, off + 2, none⟩) hb).trans c2; have HO1 : Hid (OwnB (w1.alloc (.cells #[.int .i64 4, .string x.n, .int .i64 x.c] 39)) w.heap.size (.slice (some ⟨w.heap.size, 0, none⟩) n n) (List.replicate n false)) := (by unfold Hid OwnB; rw [List.length_replicate]; exact World.ownsRow.alloc hown1 _); have HB2 : Hid (Below w.heap.size w (w1.alloc (.cells #[.int .i64 4, .string x.n, .int .i64 x.c] 39))) := HB1.out.alloc HB1.out.size _; have HcA2 : Hid (∀ (j : Nat) (q : Bool), A[j]? = some q → (w1.alloc (.cells #[.int .i64 4, .string x.n, .int .i64 x.c] 39)).cell? ((⟨bf, fo, none⟩ : Addr).add j) = some (.bool q)) := (fun j q hq => by rw [Addr.add_lit]; exact (HB2.out.cell (p := ⟨bf, fo + j, none⟩) hbf).trans (HcA.out j q hq)); have HsG : w.heap.size < w1.heap.size := (by have := hown1.lt w.heap.size rfl; omega); have HBox : Hid ((w1.alloc (.cells #[.int .i64 4, .string x.n, .int .i64 x.c] 39)).heap[w1.heap.size]? = some (.cells #[.int .i64 4, .string x.n, .int .i64 x.c] 39 (0, 0))) := World.alloc_heap_new w1 _; clear hown1 hg1)
      | (refine wpList_copyB (o := ⟨some 75, _, _, _, _, _⟩) rfl (.tmp 73) (.tmp 74) rfl rfl rfl HO1.out (by simp) HAn.out HcA2.out ?_; intro w3 hO3 hg3; have HO3 := Lib.hid hO3; have HB3 : Hid (Below w.heap.size w w3) := HB2.out.grown hg3 HB2.out.size (fun j hj => by cases hj; exact Nat.le_refl _); clear hO3 hg3))
    have HBK := HB3
    have HOK := HO3
    refine (HKd.out _ HBK.out).mono ?_
    rintro e w4 ⟨v4, rfl, ho4, hb4⟩
    have HB4 : Hid (Below w.heap.size w w4) := HBK.out.trans (hb4.mono HBK.out.size)
    have HK4 : Hid (w4.ownsRow w.heap.size 22 1 v4 k.len ((k.pieces 1).map (pieceV b off))) := own_lower ho4 HBK.out.size
    have HO4 : Hid (OwnB w4 w.heap.size (.slice (some ⟨w.heap.size, 0, none⟩) n n) A) := own_grown HOK.out (grown_below hb4) (by simp)
    obtain ⟨_, ao4, cp4, rfl, -⟩ := Rd.of_owns ho4
    clear ho4 hb4
    go_wp2_with fail
    go_loopw [7, 79] (fun o i wr => ∃ (j : Nat) (T : List Bool), i = .int .i64 j ∧ j ≤ k.len ∧ Hid (OwnB wr w.heap.size o T) ∧ Hid (ES n A (seqR ((k.sp W).take j)) T) ∧ Hid (wr.ownsRow w.heap.size 22 1 (.slice ao4 k.len cp4) k.len ((k.pieces 1).map (pieceV b off))) ∧ Hid (Below w.heap.size w wr)) (fun _ i _ => k.len - (intOf i).toNat)
    case atStart => exact ⟨0, A, rfl, Nat.zero_le _, HO4.out, ES.id HAn.out, HK4.out, HB4.out⟩
    case round =>
      obtain ⟨j, T, rfl, hj, HO, HM, HKr, HBel⟩ := hrel
      have hwr := HBel.out.size
      by_cases hlt : j < k.len
      · obtain ⟨y, kk, hy1, hy2, hy3, hy4, -⟩ := Fo.get_cons k j hlt
        obtain ⟨pc, hpc⟩ : ∃ q, (k.pieces 1)[j]? = some q := ⟨_, List.getElem?_eq_getElem (by rw [Fo.pieces_len]; exact hlt)⟩
        obtain ⟨hps, hcl⟩ := HCall.out j y kk pc pc.2 hy1 hpc (Nat.le_refl _)
        obtain ⟨gk, gc, e0, hg1, hg2, hg3, hcs⟩ := own_src HKr.out (by omega)
        simp only [Value.slice.injEq] at e0
        obtain ⟨rfl, -, rfl⟩ := e0
        have hcell := hcs j (pieceV b off pc) (by rw [List.getElem?_map, hpc]; rfl)
        rw [Addr.add_lit, Nat.zero_add] at hcell
        have X0 : wr.cell? ⟨gk, j, none⟩ = some (.slice (some ⟨b, off + pc.1 * 3, none⟩) pc.2 pc.2) := hcell
        have HCl := Lib.hid hcl
        have HTk : Hid ((k.sp W).take (j + 1) = (k.sp W).take j ++ [spN W y (kk.sp W)]) := by unfold Hid; rw [List.take_add_one, sp_get W k j y kk hy1]; rfl
        clear hy1 hy2 hy3 hy4 hpc hcl hcs hcell hps
        have HBs : Hid (BdR n (seqR ((k.sp W).take j))) := bd_seq fun r hr => HBd.out r (List.mem_of_mem_take hr)
        go_wp2_with fail
        refine (HCl.out _ _ T HBel.out (RdB.of_own HO.out) HM.out.len).mono ?_
        rintro e w5 ⟨v5, T5, rfl, ho5, hM5, hb5⟩
        have HO5 : Hid (OwnB w5 w.heap.size v5 T5) := own_lower ho5 hwr
        have HM5 : Hid (ES n A (seqR ((k.sp W).take (j + 1))) T5) := by
          rw [HTk.out]
          exact (ES.step HM.out hM5 HAn.out HBs.out).iff fun i c => (seqR_snoc _ _ i c).symm
        have HK5 : Hid (w5.ownsRow w.heap.size 22 1 (.slice (some ⟨gk, 0, none⟩) k.len cp4) k.len ((k.pieces 1).map (pieceV b off))) := own_grown HKr.out (grown_below hb5) (by simp)
        have HB5 : Hid (Below w.heap.size w w5) := HBel.out.trans (hb5.mono hwr)
        clear ho5 hM5 hb5 X0 HCl
        go_wp2_with fail
        go_roundw
        case rel => exact ⟨j + 1, T5, by go_num, by omega, HO5.out, HM5.out, HK5.out, HB5.out⟩
        case measure => simp [intOf]; omega
      · obtain rfl : j = k.len := by omega
        have e1 : (k.sp W).take k.len = k.sp W := List.take_of_length_le (by rw [sp_len]; exact Nat.le_refl _)
        rw [e1] at HM
        go_wp2_with fail
        go_ret
        exact ⟨_, T, rfl, HO.out, HM.out.iff fun i c => (HSp.out i c).symm, HBel.out⟩
  · have HSp : Hid (∀ i j, spN W x (k.sp W) i j ↔ anyR (k.sp W) i j) := fun i j => by unfold spN; rw [if_neg (by omega), if_neg (by omega), if_neg (by omega), if_pos hk]
    rw [hk] at c0
    go_enter Try.func63, Try.ntmps63
    go_wp2_with (at_make; refine wpList_make_full _ rfl _ _ 85 rfl w.heap.size 4 i0 (.bool false) 1 Try.underlying85 hi hz hz1 .i64 .i64 _ _ n rfl rfl rfl rfl (by rw [hz2]; omega) (by unfold maxLen; omega) (Nat.le_refl _) ?_; intro w1 hown1 hg1; rw [madeB] at hown1; have HB1 := Lib.hid (below_grown hg1); have C0 := (HB1.out.cell (p := ⟨b, off, none⟩) hb).trans c0; have C1 := (HB1.out.cell (p := ⟨b, off + 1, none⟩) hb).trans c1; have C2 := (HB1.out.cell (p := ⟨b, off + 2, none⟩) hb).trans c2; have HO1 : Hid (OwnB (w1.alloc (.cells #[.int .i64 5, .string x.n, .int .i64 x.c] 39)) w.heap.size (.slice (some ⟨w.heap.size, 0, none⟩) n n) (List.replicate n false)) := (by unfold Hid OwnB; rw [List.length_replicate]; exact World.ownsRow.alloc hown1 _); have HB2 : Hid (Below w.heap.size w (w1.alloc (.cells #[.int .i64 5, .string x.n, .int .i64 x.c] 39))) := HB1.out.alloc HB1.out.size _; have HcA2 : Hid (∀ (j : Nat) (q : Bool), A[j]? = some q → (w1.alloc (.cells #[.int .i64 5, .string x.n, .int .i64 x.c] 39)).cell? ((⟨bf, fo, none⟩ : Addr).add j) = some (.bool q)) := (fun j q hq => by rw [Addr.add_lit]; exact (HB2.out.cell (p := ⟨bf, fo + j, none⟩) hbf).trans (HcA.out j q hq)); have HsG : w.heap.size < w1.heap.size := (by have := hown1.lt w.heap.size rfl; omega); have HBox : Hid ((w1.alloc (.cells #[.int .i64 5, .string x.n, .int .i64 x.c] 39)).heap[w1.heap.size]? = some (.cells #[.int .i64 5, .string x.n, .int .i64 x.c] 39 (0, 0))) := World.alloc_heap_new w1 _; clear hown1 hg1)
    have HBK := HB2
    have HOK := HO1
    refine (HKd.out _ HBK.out).mono ?_
    rintro e w4 ⟨v4, rfl, ho4, hb4⟩
    have HB4 : Hid (Below w.heap.size w w4) := HBK.out.trans (hb4.mono HBK.out.size)
    have HK4 : Hid (w4.ownsRow w.heap.size 22 1 v4 k.len ((k.pieces 1).map (pieceV b off))) := own_lower ho4 HBK.out.size
    have HO4 : Hid (OwnB w4 w.heap.size (.slice (some ⟨w.heap.size, 0, none⟩) n n) (List.replicate n false)) := own_grown HOK.out (grown_below hb4) (by simp)
    obtain ⟨_, ao4, cp4, rfl, -⟩ := Rd.of_owns ho4
    clear ho4 hb4
    have HsW4 : Hid (w.heap.size < w4.heap.size) := by have := HO4.out.lt w.heap.size rfl; unfold Hid; omega
    go_wp2_with fail
    go_loopw [93] (fun i wr => ∃ (j : Nat) (T : List Bool), i = .int .i64 j ∧ j ≤ k.len ∧ Hid (OwnB wr w.heap.size (.slice (some ⟨w.heap.size, 0, none⟩) n n) T) ∧ Hid (ES n A (anyR ((k.sp W).take j)) T) ∧ Hid (wr.ownsRow w.heap.size 22 1 (.slice ao4 k.len cp4) k.len ((k.pieces 1).map (pieceV b off))) ∧ Hid (Below w.heap.size w wr)) (fun i _ => k.len - (intOf i).toNat)
    case atStart => exact ⟨0, _, rfl, Nat.zero_le _, HO4.out, ES.zero n A, HK4.out, HB4.out⟩
    case round =>
      obtain ⟨j, T, rfl, hj, HO, HM, HKr, HBel⟩ := hrel
      have hwr := HBel.out.size
      have HsW : Hid (w.heap.size < wr.heap.size) := by have := HO.out.lt w.heap.size rfl; unfold Hid; omega
      by_cases hlt : j < k.len
      · obtain ⟨y, kk, hy1, hy2, hy3, hy4, -⟩ := Fo.get_cons k j hlt
        obtain ⟨pc, hpc⟩ : ∃ q, (k.pieces 1)[j]? = some q := ⟨_, List.getElem?_eq_getElem (by rw [Fo.pieces_len]; exact hlt)⟩
        obtain ⟨hps, hcl⟩ := HCall.out j y kk pc pc.2 hy1 hpc (Nat.le_refl _)
        obtain ⟨gk, gc, e0, hg1, hg2, hg3, hcs⟩ := own_src HKr.out (by omega)
        simp only [Value.slice.injEq] at e0
        obtain ⟨rfl, -, rfl⟩ := e0
        have hcell := hcs j (pieceV b off pc) (by rw [List.getElem?_map, hpc]; rfl)
        rw [Addr.add_lit, Nat.zero_add] at hcell
        have X0 : wr.cell? ⟨gk, j, none⟩ = some (.slice (some ⟨b, off + pc.1 * 3, none⟩) pc.2 pc.2) := hcell
        have HCl := Lib.hid hcl
        have HTk : Hid ((k.sp W).take (j + 1) = (k.sp W).take j ++ [spN W y (kk.sp W)]) := by unfold Hid; rw [List.take_add_one, sp_get W k j y kk hy1]; rfl
        clear hy1 hy2 hy3 hy4 hpc hcl hcs hcell hps
        have HFr : Hid (RdB wr (.slice (some ⟨bf, fo, none⟩) n cf) A) := by have := HAr.out.below HBel.out; rw [HAn.out] at this; exact this
        go_wp2_with fail
        refine (HCl.out _ _ A HBel.out HFr.out HAn.out).mono ?_
        rintro e w5 ⟨v5, T5, rfl, ho5, hM5, hb5⟩
        have HO5 := Lib.hid ho5
        have HM5 : Hid (ES n A (spN W y (kk.sp W)) T5) := hM5
        have HBW := Lib.hid hb5
        have HK5 : Hid (w5.ownsRow w.heap.size 22 1 (.slice (some ⟨gk, 0, none⟩) k.len cp4) k.len ((k.pieces 1).map (pieceV b off))) := own_grown HKr.out (grown_below hb5) (by simp)
        have HB5 : Hid (Below w.heap.size w w5) := HBel.out.trans (hb5.mono hwr)
        clear ho5 hM5 hb5 X0 HCl
        obtain ⟨g5, cap5, rfl, hg5, hgl5, hc5, hcs5⟩ := HO5.out.pos (by rw [HM5.out.len]; exact hn0)
        rw [HM5.out.len] at hc5 ⊢
        have HCs5 : Hid (∀ (j : Nat) (q : Bool), T5[j]? = some q → w5.cell? ⟨g5, 0 + j, none⟩ = some (.bool q)) := fun j q hq => by rw [Nat.zero_add]; exact (hcs5 j q hq).1
        have HOo : Hid (OwnB w5 w.heap.size (.slice (some ⟨w.heap.size, 0, none⟩) n n) T) := own_grown HO.out (grown_below HBW.out) (by simp)
        clear hcs5
        go_wp2_with fail
        refine (xJoin_any w.heap.size w.heap.size n n T g5 0 cap5 T5 _ HOo.out HM.out.len HM5.out.len (by omega) hc5 HCs5.out hgl5 (by have := HsW.out; omega)).mono ?_
        rintro e w6 ⟨rfl, ho6, hg6⟩
        have HM6 : Hid (ES n A (anyR ((k.sp W).take (j + 1))) (orL T T5)) := by
          rw [HTk.out]
          exact (ES.or HM.out HM5.out).iff fun i c => (anyR_snoc _ _ i c).symm
        have HO6 := Lib.hid ho6
        have HK6 : Hid (w6.ownsRow w.heap.size 22 1 (.slice (some ⟨gk, 0, none⟩) k.len cp4) k.len ((k.pieces 1).map (pieceV b off))) := own_grown HK5.out hg6 (fun q hq => .inr (own_types HOo.out HK5.out (by decide) q (by cases hq; rfl)))
        have HB6 : Hid (Below w.heap.size w w6) := HB5.out.grown hg6 HB5.out.size (fun q hq => by cases hq; exact Nat.le_refl _)
        clear ho6 hg6
        go_wp2_with fail
        go_roundw
        case rel => exact ⟨j + 1, _, by go_num, by omega, HO6.out, HM6.out, HK6.out, HB6.out⟩
        case measure => simp [intOf]; omega
      · obtain rfl : j = k.len := by omega
        have e1 : (k.sp W).take k.len = k.sp W := List.take_of_length_le (by rw [sp_len]; exact Nat.le_refl _)
        rw [e1] at HM
        go_wp2_with fail
        go_ret
        exact ⟨_, T, rfl, HO.out, HM.out.iff fun i c => (HSp.out i c).symm, HBel.out⟩
  · have HSp : Hid (∀ i j, spN W x (k.sp W) i j ↔ (i = j ∨ anyR (k.sp W) i j)) := fun i j => by unfold spN; rw [if_neg (by omega), if_neg (by omega), if_neg (by omega), if_neg (by omega), if_neg (by omega), if_neg (by omega)]
    rw [hk] at c0
    obtain ⟨y, kk, hky⟩ : ∃ y kk, k = Fo.cons y kk .nil := len_one k (by have := hmay.out; unfold mayN at this; have := hck.out; omega)
    have HSp1 : Hid (k.sp W = [spN W y (kk.sp W)]) := by rw [hky]; rfl
    have hsz1 : k.size = kk.size + 1 := by rw [hky]; simp [Fo.size]
    obtain ⟨-, hcl⟩ := HCall.out 0 y kk (1, kk.size + 1) (cap - 1) (by rw [hky]; rfl) (by rw [hky]; rfl) (by show kk.size + 1 ≤ cap - 1; omega)
    have HCl := Lib.hid hcl
    have HBy : Hid (BdR n (spN W y (kk.sp W))) := HBd.out _ (by rw [HSp1.out]; exact List.mem_cons_self ..)
    have hcap2 : kk.size + 2 ≤ cap := by omega
    rw [hsz1]
    have HFr : Hid (∀ wx, Below w.heap.size w wx → RdB wx (.slice (some ⟨bf, fo, none⟩) n cf) A) := fun wx hbx => by have := HAr.out.below hbx; rw [HAn.out] at this; exact this
    clear hky hcl HKd
    simp only [Nat.one_mul] at HCl
    go_enter Try.func63, Try.ntmps63
    go_wp2_with (first
      | (at_make; refine wpList_make_full _ rfl _ _ 85 rfl w.heap.size 4 i0 (.bool false) 1 Try.underlying85 hi hz hz1 .i64 .i64 _ _ n rfl rfl rfl rfl (by rw [hz2]; omega) (by unfold maxLen; omega) (Nat.le_refl _) ?_; intro w1 hown1 hg1; rw [madeB] at hown1; have HB1 := Lib.hid (below_grown hg1); have C0 := (HB1.out.cell (p := ⟨b, off, none⟩) hb).trans c0; have C1 := (HB1.out.cell (p := ⟨b, off + 1, none⟩) hb).trans c1; have C2 := (HB1.out.cell (p := ⟨b, off + 2, none⟩) hb).trans c2; have HO1 : Hid (OwnB (w1.alloc (.cells #[.int .i64 8, .string x.n, .int .i64 x.c] 39)) w.heap.size (.slice (some ⟨w.heap.size, 0, none⟩) n n) (List.replicate n false)) := (by unfold Hid OwnB; rw [List.length_replicate]; exact World.ownsRow.alloc hown1 _); have HB2 : Hid (Below w.heap.size w (w1.alloc (.cells #[.int .i64 8, .string x.n, .int .i64 x.c] 39))) := HB1.out.alloc HB1.out.size _; have HcA2 : Hid (∀ (j : Nat) (q : Bool), A[j]? = some q → (w1.alloc (.cells #[.int .i64 8, .string x.n, .int .i64 x.c] 39)).cell? ((⟨bf, fo, none⟩ : Addr).add j) = some (.bool q)) := (fun j q hq => by rw [Addr.add_lit]; exact (HB2.out.cell (p := ⟨bf, fo + j, none⟩) hbf).trans (HcA.out j q hq)); have HsG : w.heap.size < w1.heap.size := (by have := hown1.lt w.heap.size rfl; omega); have HBox : Hid ((w1.alloc (.cells #[.int .i64 8, .string x.n, .int .i64 x.c] 39)).heap[w1.heap.size]? = some (.cells #[.int .i64 8, .string x.n, .int .i64 x.c] 39 (0, 0))) := World.alloc_heap_new w1 _; clear hown1 hg1)
      | (refine wpList_copyB (o := ⟨some 108, _, _, _, _, _⟩) rfl (.tmp 106) (.tmp 107) rfl rfl rfl HO1.out (by simp) HAn.out HcA2.out ?_; intro w3 hO3 hg3; have HO3 := Lib.hid hO3; have HB3 : Hid (Below w.heap.size w w3) := HB2.out.grown hg3 HB2.out.size (fun j hj => by cases hj; exact Nat.le_refl _); clear hO3 hg3))
    refine (HCl.out _ _ A HB3.out (HFr.out _ HB3.out) HAn.out).mono ?_
    rintro e w5 ⟨v5, T5, rfl, ho5, hM5, hb5⟩
    have HO5 := Lib.hid ho5
    have HM5 : Hid (ES n A (spN W y (kk.sp W)) T5) := hM5
    have HB5 : Hid (Below w.heap.size w w5) := HB3.out.trans (hb5.mono HB3.out.size)
    have HOo : Hid (OwnB w5 w.heap.size (.slice (some ⟨w.heap.size, 0, none⟩) n n) A) := own_grown HO3.out (grown_below hb5) (by simp)
    have hlt3 : w.heap.size < w3.heap.size := by have := HO3.out.lt w.heap.size rfl; omega
    obtain ⟨g5, cap5, rfl, hg5, hgl5, hc5, hcs5⟩ := HO5.out.pos (by rw [HM5.out.len]; exact hn0)
    rw [HM5.out.len] at hc5 ⊢
    have HCs5 : Hid (∀ (j : Nat) (q : Bool), T5[j]? = some q → w5.cell? ⟨g5, 0 + j, none⟩ = some (.bool q)) := fun j q hq => by rw [Nat.zero_add]; exact (hcs5 j q hq).1
    clear hcs5 ho5 hM5 hb5 HCl
    go_wp2_with fail
    refine (xJoin_any w.heap.size w.heap.size n n A g5 0 cap5 T5 _ HOo.out HAn.out HM5.out.len (by omega) hc5 HCs5.out hgl5 (by omega)).mono ?_
    rintro e w6 ⟨rfl, ho6, hg6⟩
    have HO6 := Lib.hid ho6
    have HB6 : Hid (Below w.heap.size w w6) := HB5.out.grown hg6 HB5.out.size (fun q hq => by cases hq; exact Nat.le_refl _)
    have HM6 : Hid (ES n A (spN W x (k.sp W)) (orL A T5)) := (ES.or (ES.id HAn.out) HM5.out).iff fun i c => by rw [HSp.out, HSp1.out, anyR_one]
    clear ho6 hg6
    go_wp2_with fail
    go_ret
    exact ⟨_, _, rfl, HO6.out, HM6.out, HB6.out⟩
  · rcases hk with hk | hk
    · have HSp : Hid (∀ i j, spN W x (k.sp W) i j ↔ (i = j ∨ Relation.TransGen (anyR (k.sp W)) i j)) := fun i j => by unfold spN; rw [if_neg (by omega), if_neg (by omega), if_neg (by omega), if_neg (by omega), if_pos hk]
      rw [hk] at c0
      obtain ⟨y, kk, hky⟩ : ∃ y kk, k = Fo.cons y kk .nil := len_one k (by have := hmay.out; unfold mayN at this; have := hck.out; omega)
      have HSp1 : Hid (k.sp W = [spN W y (kk.sp W)]) := by rw [hky]; rfl
      have hsz1 : k.size = kk.size + 1 := by rw [hky]; simp [Fo.size]
      obtain ⟨-, hcl⟩ := HCall.out 0 y kk (1, kk.size + 1) (cap - 1) (by rw [hky]; rfl) (by rw [hky]; rfl) (by show kk.size + 1 ≤ cap - 1; omega)
      have HCl := Lib.hid hcl
      have HBy : Hid (BdR n (spN W y (kk.sp W))) := HBd.out _ (by rw [HSp1.out]; exact List.mem_cons_self ..)
      have hcap2 : kk.size + 2 ≤ cap := by omega
      rw [hsz1]
      have HFr : Hid (∀ wx, Below w.heap.size w wx → RdB wx (.slice (some ⟨bf, fo, none⟩) n cf) A) := fun wx hbx => by have := HAr.out.below hbx; rw [HAn.out] at this; exact this
      clear hky hcl HKd
      simp only [Nat.one_mul] at HCl
      go_enter Try.func63, Try.ntmps63
      go_wp2_with (at_make; refine wpList_make_full _ rfl _ _ 85 rfl w.heap.size 4 i0 (.bool false) 1 Try.underlying85 hi hz hz1 .i64 .i64 _ _ n rfl rfl rfl rfl (by rw [hz2]; omega) (by unfold maxLen; omega) (Nat.le_refl _) ?_; intro w1 hown1 hg1; rw [madeB] at hown1; have HB1 := Lib.hid (below_grown hg1); have C0 := (HB1.out.cell (p := ⟨b, off, none⟩) hb).trans c0; have C1 := (HB1.out.cell (p := ⟨b, off + 1, none⟩) hb).trans c1; have C2 := (HB1.out.cell (p := ⟨b, off + 2, none⟩) hb).trans c2; have HO1 : Hid (OwnB (w1.alloc (.cells #[.int .i64 6, .string x.n, .int .i64 x.c] 39)) w.heap.size (.slice (some ⟨w.heap.size, 0, none⟩) n n) (List.replicate n false)) := (by unfold Hid OwnB; rw [List.length_replicate]; exact World.ownsRow.alloc hown1 _); have HB2 : Hid (Below w.heap.size w (w1.alloc (.cells #[.int .i64 6, .string x.n, .int .i64 x.c] 39))) := HB1.out.alloc HB1.out.size _; have HcA2 : Hid (∀ (j : Nat) (q : Bool), A[j]? = some q → (w1.alloc (.cells #[.int .i64 6, .string x.n, .int .i64 x.c] 39)).cell? ((⟨bf, fo, none⟩ : Addr).add j) = some (.bool q)) := (fun j q hq => by rw [Addr.add_lit]; exact (HB2.out.cell (p := ⟨bf, fo + j, none⟩) hbf).trans (HcA.out j q hq)); have HsG : w.heap.size < w1.heap.size := (by have := hown1.lt w.heap.size rfl; omega); have HBox : Hid ((w1.alloc (.cells #[.int .i64 6, .string x.n, .int .i64 x.c] 39)).heap[w1.heap.size]? = some (.cells #[.int .i64 6, .string x.n, .int .i64 x.c] 39 (0, 0))) := World.alloc_heap_new w1 _; clear hown1 hg1)
      refine (HCl.out _ _ A HB2.out (HFr.out _ HB2.out) HAn.out).mono ?_
      rintro e w5 ⟨v5, T5, rfl, ho5, hM5, hb5⟩
      have HO5 : Hid (OwnB w5 w.heap.size v5 T5) := own_lower ho5 HB2.out.size
      have HM5 : Hid (ES n A (spN W y (kk.sp W)) T5) := hM5
      have HB5 : Hid (Below w.heap.size w w5) := HB2.out.trans (hb5.mono HB2.out.size)
      have HBx5 : Hid (w5.heap[w1.heap.size]? = some (.cells #[.int .i64 6, .string x.n, .int .i64 x.c] 39 (0, 0))) := (hb5.block _ (by simp)).trans HBox.out
      obtain ⟨g5, cap5, rfl, hg5, hgl5, hc5, -⟩ := ho5.pos (by rw [HM5.out.len]; exact hn0)
      rw [HM5.out.len] at hc5 HO5 ⊢
      have hg5w : w1.heap.size < g5 := by simp at hg5; omega
      clear ho5 hM5 hb5
      go_wp2_with fail
      go_loopw [34] (fun _ wr => ∃ T : List Bool, Hid (OwnB wr w.heap.size (.slice (some ⟨g5, 0, none⟩) n cap5) T) ∧ Hid (GenI n A (spN W y (kk.sp W)) T) ∧ Hid (wr.heap[w1.heap.size]? = some (.cells #[.int .i64 6, .string x.n, .int .i64 x.c] 39 (0, 0))) ∧ Hid (g5 < wr.heap.size) ∧ Hid (Below w.heap.size w wr)) (fun _ wr => cntF wr g5 n)
      case atStart => exact ⟨T5, HO5.out, genI_start HM5.out, HBx5.out, hgl5, HB5.out⟩
      case round =>
        obtain ⟨T, HO, HM, HBx, HGl, HBel⟩ := hrel
        have hwr := HBel.out.size
        have HCf := Lib.hid (cntF_own HO.out HM.out.len)
        go_wp2_with fail
        refine (HCl.out _ _ T HBel.out (RdB.of_own HO.out) HM.out.len).mono ?_
        rintro e w6 ⟨v6, T6, rfl, ho6, hM6, hb6⟩
        have HO6 := Lib.hid ho6
        have HM6 : Hid (ES n T (spN W y (kk.sp W)) T6) := hM6
        have HB6 : Hid (Below w.heap.size w w6) := HBel.out.trans (hb6.mono hwr)
        have HOo : Hid (OwnB w6 w.heap.size (.slice (some ⟨g5, 0, none⟩) n cap5) T) := own_grown HO.out (grown_below hb6) (by simp)
        have HBx6 : Hid (w6.heap[w1.heap.size]? = some (.cells #[.int .i64 6, .string x.n, .int .i64 x.c] 39 (0, 0))) := (hb6.block _ (by have := HGl.out; omega)).trans HBx.out
        have HGl6 : Hid (g5 < w6.heap.size) := Nat.lt_of_lt_of_le HGl.out hb6.size
        obtain ⟨g6, cap6, rfl, hg6, hgl6, hc6, hcs6⟩ := HO6.out.pos (by rw [HM6.out.len]; exact hn0)
        rw [HM6.out.len] at hc6 ⊢
        have HCs6 : Hid (∀ (j : Nat) (q : Bool), T6[j]? = some q → w6.cell? ⟨g6, 0 + j, none⟩ = some (.bool q)) := fun j q hq => by rw [Nat.zero_add]; exact (hcs6 j q hq).1
        clear hcs6 ho6 hM6 hb6
        go_wp2_with fail
        refine (xJoin_any w.heap.size g5 cap5 n T g6 0 cap6 T6 _ HOo.out HM.out.len HM6.out.len (by omega) hc6 HCs6.out hgl6 (by have := HGl.out; omega)).mono ?_
        rintro e w7 ⟨rfl, ho7, hg7⟩
        have HO7 := Lib.hid ho7
        have HB7 : Hid (Below w.heap.size w w7) := HB6.out.grown hg7 HB6.out.size (fun q hq => by cases hq; show w.heap.size ≤ g5; omega)
        have HBx7 : Hid (w7.heap[w1.heap.size]? = some (.cells #[.int .i64 6, .string x.n, .int .i64 x.c] 39 (0, 0))) := (hg7.block _ (Array.getElem?_eq_some_iff.1 HBx6.out).1 (by intro e; cases e; omega)).trans HBx6.out
        have HGl7 : Hid (g5 < w7.heap.size) := Nat.lt_of_lt_of_le HGl6.out hg7.size
        have HM7 := Lib.hid (genI_step HM.out HM6.out)
        clear ho7 hg7
        cases hch : (chL T T6).any id with
        | true =>
          have HFall : Hid (cntF w7 g5 n < cntF wr g5 n) := by
            unfold Hid
            rw [HCf.out, cntF_own HO7.out HM7.out.len]
            exact cnt_falls (by rw [HM.out.len, HM6.out.len]) hch
          go_wp2_with fail
          go_roundw
          case rel => exact ⟨_, HO7.out, HM7.out, HBx7.out, HGl7.out, HB7.out⟩
          case measure => exact HFall.out
        | false =>
          have HM8 : Hid (ES n A (spN W x (k.sp W)) (orL (orL T T6) A)) := by
            refine (ES.or (genI_end HM.out HM6.out HAn.out HBy.out hch) (ES.id HAn.out)).iff fun i c => ?_
            have e : anyR [spN W y (kk.sp W)] = spN W y (kk.sp W) := by funext i j; exact propext (anyR_one _ i j)
            rw [HSp.out, HSp1.out, e]
            exact Or.comm
          have CX : w7.cell? ⟨w1.heap.size, 0, none⟩ = some (.int .i64 6) := by have := HBx7.out; simp [World.cell?, this]
          have hl7 : (orL T T6).length = n := (genI_step HM.out HM6.out).len
          go_wp2_with fail
          refine (xJoin_any w.heap.size g5 cap5 n (orL T T6) bf fo cf A _ HO7.out hl7 HAn.out (by omega) hcf (fun j q hq => (HB7.out.cell (p := ⟨bf, fo + j, none⟩) hbf).trans (HcA.out j q hq)) (by have := HB7.out.size; omega) (by omega)).mono ?_
          rintro e w8 ⟨rfl, ho8, hg8⟩
          have HO8 := Lib.hid ho8
          have HB8 : Hid (Below w.heap.size w w8) := HB7.out.grown hg8 HB7.out.size (fun q hq => by cases hq; show w.heap.size ≤ g5; omega)
          clear ho8 hg8
          go_wp2_with fail
          go_ret
          exact ⟨_, _, rfl, HO8.out, HM8.out, HB8.out⟩
    · have HSp : Hid (∀ i j, spN W x (k.sp W) i j ↔ Relation.TransGen (anyR (k.sp W)) i j) := fun i j => by unfold spN; rw [if_neg (by omega), if_neg (by omega), if_neg (by omega), if_neg (by omega), if_neg (by omega), if_pos hk]
      rw [hk] at c0
      obtain ⟨y, kk, hky⟩ : ∃ y kk, k = Fo.cons y kk .nil := len_one k (by have := hmay.out; unfold mayN at this; have := hck.out; omega)
      have HSp1 : Hid (k.sp W = [spN W y (kk.sp W)]) := by rw [hky]; rfl
      have hsz1 : k.size = kk.size + 1 := by rw [hky]; simp [Fo.size]
      obtain ⟨-, hcl⟩ := HCall.out 0 y kk (1, kk.size + 1) (cap - 1) (by rw [hky]; rfl) (by rw [hky]; rfl) (by show kk.size + 1 ≤ cap - 1; omega)
      have HCl := Lib.hid hcl
      have HBy : Hid (BdR n (spN W y (kk.sp W))) := HBd.out _ (by rw [HSp1.out]; exact List.mem_cons_self ..)
      have hcap2 : kk.size + 2 ≤ cap := by omega
      rw [hsz1]
      have HFr : Hid (∀ wx, Below w.heap.size w wx → RdB wx (.slice (some ⟨bf, fo, none⟩) n cf) A) := fun wx hbx => by have := HAr.out.below hbx; rw [HAn.out] at this; exact this
      clear hky hcl HKd
      simp only [Nat.one_mul] at HCl
      go_enter Try.func63, Try.ntmps63
      go_wp2_with (at_make; refine wpList_make_full _ rfl _ _ 85 rfl w.heap.size 4 i0 (.bool false) 1 Try.underlying85 hi hz hz1 .i64 .i64 _ _ n rfl rfl rfl rfl (by rw [hz2]; omega) (by unfold maxLen; omega) (Nat.le_refl _) ?_; intro w1 hown1 hg1; rw [madeB] at hown1; have HB1 := Lib.hid (below_grown hg1); have C0 := (HB1.out.cell (p := ⟨b, off, none⟩) hb).trans c0; have C1 := (HB1.out.cell (p := ⟨b, off + 1, none⟩) hb).trans c1; have C2 := (HB1.out.cell (p := ⟨b, off + 2, none⟩) hb).trans c2; have HO1 : Hid (OwnB (w1.alloc (.cells #[.int .i64 7, .string x.n, .int .i64 x.c] 39)) w.heap.size (.slice (some ⟨w.heap.size, 0, none⟩) n n) (List.replicate n false)) := (by unfold Hid OwnB; rw [List.length_replicate]; exact World.ownsRow.alloc hown1 _); have HB2 : Hid (Below w.heap.size w (w1.alloc (.cells #[.int .i64 7, .string x.n, .int .i64 x.c] 39))) := HB1.out.alloc HB1.out.size _; have HcA2 : Hid (∀ (j : Nat) (q : Bool), A[j]? = some q → (w1.alloc (.cells #[.int .i64 7, .string x.n, .int .i64 x.c] 39)).cell? ((⟨bf, fo, none⟩ : Addr).add j) = some (.bool q)) := (fun j q hq => by rw [Addr.add_lit]; exact (HB2.out.cell (p := ⟨bf, fo + j, none⟩) hbf).trans (HcA.out j q hq)); have HsG : w.heap.size < w1.heap.size := (by have := hown1.lt w.heap.size rfl; omega); have HBox : Hid ((w1.alloc (.cells #[.int .i64 7, .string x.n, .int .i64 x.c] 39)).heap[w1.heap.size]? = some (.cells #[.int .i64 7, .string x.n, .int .i64 x.c] 39 (0, 0))) := World.alloc_heap_new w1 _; clear hown1 hg1)
      refine (HCl.out _ _ A HB2.out (HFr.out _ HB2.out) HAn.out).mono ?_
      rintro e w5 ⟨v5, T5, rfl, ho5, hM5, hb5⟩
      have HO5 : Hid (OwnB w5 w.heap.size v5 T5) := own_lower ho5 HB2.out.size
      have HM5 : Hid (ES n A (spN W y (kk.sp W)) T5) := hM5
      have HB5 : Hid (Below w.heap.size w w5) := HB2.out.trans (hb5.mono HB2.out.size)
      have HBx5 : Hid (w5.heap[w1.heap.size]? = some (.cells #[.int .i64 7, .string x.n, .int .i64 x.c] 39 (0, 0))) := (hb5.block _ (by simp)).trans HBox.out
      obtain ⟨g5, cap5, rfl, hg5, hgl5, hc5, -⟩ := ho5.pos (by rw [HM5.out.len]; exact hn0)
      rw [HM5.out.len] at hc5 HO5 ⊢
      have hg5w : w1.heap.size < g5 := by simp at hg5; omega
      clear ho5 hM5 hb5
      go_wp2_with fail
      go_loopw [34] (fun _ wr => ∃ T : List Bool, Hid (OwnB wr w.heap.size (.slice (some ⟨g5, 0, none⟩) n cap5) T) ∧ Hid (GenI n A (spN W y (kk.sp W)) T) ∧ Hid (wr.heap[w1.heap.size]? = some (.cells #[.int .i64 7, .string x.n, .int .i64 x.c] 39 (0, 0))) ∧ Hid (g5 < wr.heap.size) ∧ Hid (Below w.heap.size w wr)) (fun _ wr => cntF wr g5 n)
      case atStart => exact ⟨T5, HO5.out, genI_start HM5.out, HBx5.out, hgl5, HB5.out⟩
      case round =>
        obtain ⟨T, HO, HM, HBx, HGl, HBel⟩ := hrel
        have hwr := HBel.out.size
        have HCf := Lib.hid (cntF_own HO.out HM.out.len)
        go_wp2_with fail
        refine (HCl.out _ _ T HBel.out (RdB.of_own HO.out) HM.out.len).mono ?_
        rintro e w6 ⟨v6, T6, rfl, ho6, hM6, hb6⟩
        have HO6 := Lib.hid ho6
        have HM6 : Hid (ES n T (spN W y (kk.sp W)) T6) := hM6
        have HB6 : Hid (Below w.heap.size w w6) := HBel.out.trans (hb6.mono hwr)
        have HOo : Hid (OwnB w6 w.heap.size (.slice (some ⟨g5, 0, none⟩) n cap5) T) := own_grown HO.out (grown_below hb6) (by simp)
        have HBx6 : Hid (w6.heap[w1.heap.size]? = some (.cells #[.int .i64 7, .string x.n, .int .i64 x.c] 39 (0, 0))) := (hb6.block _ (by have := HGl.out; omega)).trans HBx.out
        have HGl6 : Hid (g5 < w6.heap.size) := Nat.lt_of_lt_of_le HGl.out hb6.size
        obtain ⟨g6, cap6, rfl, hg6, hgl6, hc6, hcs6⟩ := HO6.out.pos (by rw [HM6.out.len]; exact hn0)
        rw [HM6.out.len] at hc6 ⊢
        have HCs6 : Hid (∀ (j : Nat) (q : Bool), T6[j]? = some q → w6.cell? ⟨g6, 0 + j, none⟩ = some (.bool q)) := fun j q hq => by rw [Nat.zero_add]; exact (hcs6 j q hq).1
        clear hcs6 ho6 hM6 hb6
        go_wp2_with fail
        refine (xJoin_any w.heap.size g5 cap5 n T g6 0 cap6 T6 _ HOo.out HM.out.len HM6.out.len (by omega) hc6 HCs6.out hgl6 (by have := HGl.out; omega)).mono ?_
        rintro e w7 ⟨rfl, ho7, hg7⟩
        have HO7 := Lib.hid ho7
        have HB7 : Hid (Below w.heap.size w w7) := HB6.out.grown hg7 HB6.out.size (fun q hq => by cases hq; show w.heap.size ≤ g5; omega)
        have HBx7 : Hid (w7.heap[w1.heap.size]? = some (.cells #[.int .i64 7, .string x.n, .int .i64 x.c] 39 (0, 0))) := (hg7.block _ (Array.getElem?_eq_some_iff.1 HBx6.out).1 (by intro e; cases e; omega)).trans HBx6.out
        have HGl7 : Hid (g5 < w7.heap.size) := Nat.lt_of_lt_of_le HGl6.out hg7.size
        have HM7 := Lib.hid (genI_step HM.out HM6.out)
        clear ho7 hg7
        cases hch : (chL T T6).any id with
        | true =>
          have HFall : Hid (cntF w7 g5 n < cntF wr g5 n) := by
            unfold Hid
            rw [HCf.out, cntF_own HO7.out HM7.out.len]
            exact cnt_falls (by rw [HM.out.len, HM6.out.len]) hch
          go_wp2_with fail
          go_roundw
          case rel => exact ⟨_, HO7.out, HM7.out, HBx7.out, HGl7.out, HB7.out⟩
          case measure => exact HFall.out
        | false =>
          have HM8 : Hid (ES n A (spN W x (k.sp W)) (orL T T6)) := by
            refine (genI_end HM.out HM6.out HAn.out HBy.out hch).iff fun i c => ?_
            have e : anyR [spN W y (kk.sp W)] = spN W y (kk.sp W) := by funext i j; exact propext (anyR_one _ i j)
            rw [HSp.out, HSp1.out, e]
          have CX : w7.cell? ⟨w1.heap.size, 0, none⟩ = some (.int .i64 7) := by have := HBx7.out; simp [World.cell?, this]
          go_wp2_with fail
          go_ret
          exact ⟨_, _, rfl, HO7.out, HM8.out, HB7.out⟩
theorem xEnds_all : ∀ m, m ≤ 16777217 → EnOk m
  | 0, _ => fun x k w b off cap vw W vf A hk => by omega
  | m + 1, hm => xEnds_step m (by omega) (xEnds_all m (by omega))
end Go.Proofs.Ytbpipnjdfmpbdaa
namespace Go.Proofs.Ytbpipnjdfmpbdaa
open Go.RowKit Go.Shelf

/-! ### Match -/
def MtS (N : List Nd) (W : List ByteArray) (ok : Bool) (e : Int) : Prop :=
  (64 < W.length ∧ ok = false ∧ e = 3) ∨ (W.length ≤ 64 ∧ e ≠ 0 ∧ ChkS N e ∧ ok = false) ∨
  (W.length ≤ 64 ∧ e = 0 ∧ N.length ≤ 2048 ∧ ∃ x k, GoodT N x k ∧ boundsF x k = 0 ∧ (ok = true ↔ spN W x (k.sp W) 0 W.length))
theorem mtS_ex (N : List Nd) (W : List ByteArray) : ∃ ok e, MtS N W ok e := by
  by_cases hw : 64 < W.length
  · exact ⟨false, 3, .inl ⟨hw, rfl, rfl⟩⟩
  · obtain ⟨e, h⟩ := chkS_ex N
    by_cases he : e = 0
    · rcases h with ⟨_, h⟩ | ⟨_, _, h⟩ | ⟨h1, x, k, h2, h3⟩
      · omega
      · omega
      · by_cases hs : spN W x (k.sp W) 0 W.length
        · exact ⟨true, 0, .inr (.inr ⟨by omega, rfl, h1, x, k, h2, by omega, ⟨fun _ => hs, fun _ => rfl⟩⟩)⟩
        · exact ⟨false, 0, .inr (.inr ⟨by omega, rfl, h1, x, k, h2, by omega, ⟨fun h => (by cases h), fun h => absurd h hs⟩⟩)⟩
    · exact ⟨false, e, .inr (.inl ⟨by omega, he, h, rfl⟩)⟩

set_option maxRecDepth 100000 in
set_option maxHeartbeats 1600000 in
theorem xMatch_any (v vw : Value) (N : List Nd) (W : List ByteArray) (ok : Bool) (e : Int) (w : World) (h : RdNd w v N) (hW : RdW w vw W) (hS : MtS N W ok e) (hl : N.length ≤ 4398046511104) :
    Calls Try.prog 35 #[v, vw] w fun en w' => en = .returned (.tuple #[.bool ok, .int .i64 e]) ∧ Below w.heap.size w w' := by
  have HWr := Lib.hid hW
  obtain ⟨_, aw, cw, rfl, hcw, hcm, -⟩ := id hW
  rcases hS with ⟨h1, rfl, rfl⟩ | ⟨h1, he, hC, rfl⟩ | ⟨h1, rfl, h20, x, k, hG, hb0, hok⟩
  · obtain ⟨_, ao, cap, rfl, -⟩ := h
    generalize N.length = n at *
    go_enter Try.func35, Try.ntmps35
    go_wp2_with fail
    go_ret2
    exact ⟨rfl, Below.refl _ _⟩
  · have HC := Lib.hid (xCheck_any v N e w h hC hl)
    obtain ⟨_, ao, cap, rfl, -⟩ := h
    generalize N.length = n at *
    have hen : (e != 0) = true := by simpa using he
    clear he hC
    go_enter Try.func35, Try.ntmps35
    go_wp2_with (go_at_call 25; refine (HC.out).mono ?_; rintro en w2 ⟨rfl, hb2⟩)
    go_ret2
    exact ⟨rfl, hb2⟩
  · have HC := Lib.hid (xCheck_any v N 0 w h (.inr (.inr ⟨h20, x, k, hG, hb0.symm⟩)) hl)
    have hln := hG.len
    have HEn : Hid (∀ wx vf A, Below w.heap.size w wx → RdB wx vf A → A.length = W.length + 1 → Calls Try.prog 63 #[v, .slice aw W.length cw, vf] wx (EnRet W x k A wx)) := by
      intro wx vf A hbx hA hAl
      have h2 := h.below hbx
      obtain ⟨b, off, cap, rfl, hc, hat⟩ := NdAt.of_rd h2 (by omega)
      rw [hln] at hc ⊢
      rw [hG.flat] at hat
      exact xEnds_all (k.size + 1) (by omega) x k wx b off cap _ W vf A (Nat.le_refl _) hG.wf hG.all hat hc (HWr.out.below hbx) h1 hA hAl
    have HOk := Lib.hid hok
    obtain ⟨_, ao, cap, rfl, -⟩ := h
    obtain ⟨i0, hi, hz, hz1, hz2⟩ := infoB
    obtain ⟨n, hn⟩ : ∃ n, n = W.length + 1 := ⟨_, rfl⟩
    have hni : ((W.length : Int) + 1) = (n : Int) := by rw [hn]; simp
    have hWn : W.length < n := by omega
    have hn0 : 0 < n := by omega
    have hnl : n ≤ 65 := by omega
    unfold EnRet at HEn
    rw [← hn] at HEn
    generalize N.length = nn at *
    clear hG hok hn hln
    go_enter Try.func35, Try.ntmps35
    go_wp2_with (first
      | (go_at_call 25; refine (HC.out).mono ?_; rintro en w2 ⟨rfl, hb2⟩; have HB2 := Lib.hid hb2; clear hb2)
      | (at_make; refine wpList_make_full _ rfl _ _ 85 rfl w2.heap.size 4 i0 (.bool false) 1 Try.underlying85 hi hz hz1 .i64 .i64 _ _ n rfl rfl rfl rfl (by rw [hz2]; omega) (by unfold maxLen; omega) (Nat.le_refl _) ?_; intro w3 hown3 hg3; rw [madeB] at hown3; have HO3 : Hid (OwnB w3 w2.heap.size (.slice (some ⟨w2.heap.size, 0, none⟩) n n) (List.replicate n false)) := (by unfold Hid OwnB; rw [List.length_replicate]; exact hown3); have HB3 : Hid (Below w.heap.size w w3) := HB2.out.trans ((below_grown hg3).mono HB2.out.size); have c0 : w3.cell? ⟨w2.heap.size, 0, none⟩ = some (.bool false) ∧ w3.frozen? ⟨w2.heap.size, 0, none⟩ = false := (by obtain ⟨g2, cap2, e2, _, _, _, hcs⟩ := HO3.out.pos (by simp; omega); simp only [Value.slice.injEq, Option.some.injEq, Addr.mk.injEq] at e2; obtain ⟨⟨rfl, -, -⟩, -, rfl⟩ := e2; exact hcs 0 false (by rw [List.getElem?_replicate, if_pos hn0])); obtain ⟨c00, f00⟩ := c0; clear hown3 hg3))
    have HOs := Lib.hid (OwnB.set HO3.out (by simp) 0 true).1
    have HBs : Hid (Below w.heap.size w (w3.setCell ⟨w2.heap.size, 0, none⟩ (.bool true))) := HB3.out.setCell (p := ⟨w2.heap.size, 0, none⟩) HB2.out.size _
    have hln2 : ((List.replicate n false).set 0 true).length = n := by simp
    have HSt : Hid (∀ i, St ((List.replicate n false).set 0 true) i ↔ i = 0) := fun i => by
      rw [st_set _ _ _ (by simp; omega)]
      exact ⟨fun h => h.elim id fun h => absurd h (st_rep _ _), .inl⟩
    generalize (List.replicate n false).set 0 true = A at *
    refine (HEn.out _ _ A HBs.out (RdB.of_own HOs.out) hln2).mono ?_
    rintro en w4 ⟨v4, T, rfl, ho4, hM4, hb4⟩
    obtain ⟨q, hq⟩ : ∃ q, T[W.length]? = some q := ⟨_, List.getElem?_eq_getElem (by rw [hM4.len]; exact hWn)⟩
    obtain ⟨g, cg, rfl, hg1, hg2, hg3, hcs⟩ := ho4.pos (by rw [hM4.len]; exact hn0)
    rw [hM4.len]
    obtain ⟨cQ, -⟩ := hcs _ q hq
    have HQ : Hid (q = ok) := by
      unfold Hid
      have h5 := st_val hq
      rw [hM4.at' W.length hWn] at h5
      have h6 : Img (spN W x (k.sp W)) A W.length ↔ spN W x (k.sp W) 0 W.length := by
        unfold Img
        constructor
        · rintro ⟨i, h7, h8⟩; rw [(HSt.out i).1 h7] at h8; exact h8
        · exact fun h8 => ⟨0, (HSt.out 0).2 rfl, h8⟩
      rw [h6, ← HOk.out] at h5
      cases q <;> cases ok <;> simp_all
    have HBf : Hid (Below w.heap.size w w4) := HBs.out.trans (hb4.mono HBs.out.size)
    clear ho4 hM4 hb4 hcs hq
    have hq2 := HQ.out
    subst hq2
    go_wp2_with fail
    go_ret2
    exact ⟨rfl, HBf.out⟩

set_option maxRecDepth 100000 in
set_option maxHeartbeats 1600000 in
theorem rMatch_any (v vw : Value) (N : List Nd) (W : List ByteArray) (ok : Bool) (e : Int) (w : World) (h : RdNd w v N) (hW : RdW w vw W) (hS : MtS N W ok e) (hl : N.length ≤ 4398046511104) :
    Calls Try.prog 37 #[v, vw] w fun en w' => en = .returned (.tuple #[.bool ok, .int .i64 e]) ∧ Below w.heap.size w w' := by
  have HWr := Lib.hid hW
  obtain ⟨_, aw, cw, rfl, hcw, hcm, -⟩ := id hW
  rcases hS with ⟨h1, rfl, rfl⟩ | ⟨h1, he, hC, rfl⟩ | ⟨h1, rfl, h20, x, k, hG, hb0, hok⟩
  · obtain ⟨_, ao, cap, rfl, -⟩ := h
    generalize N.length = n at *
    go_enter Try.func37, Try.ntmps37
    go_wp2_with fail
    go_ret2
    exact ⟨rfl, Below.refl _ _⟩
  · have HC := Lib.hid (rCheck_any v N e w h hC hl)
    obtain ⟨_, ao, cap, rfl, -⟩ := h
    generalize N.length = n at *
    have hen : (e != 0) = true := by simpa using he
    clear he hC
    go_enter Try.func37, Try.ntmps37
    go_wp2_with (go_at_call 31; refine (HC.out).mono ?_; rintro en w2 ⟨rfl, hb2⟩)
    go_ret2
    exact ⟨rfl, hb2⟩
  · have HC := Lib.hid (rCheck_any v N 0 w h (.inr (.inr ⟨h20, x, k, hG, hb0.symm⟩)) hl)
    have HSp : Hid (∀ wx, Below w.heap.size w wx → Calls Try.prog 64 #[v, .int .i64 0, .slice aw W.length cw] wx fun e w' => ∃ v' L, e = .returned v' ∧ OwnB w' wx.heap.size v' L ∧ MxS (W.length + 1) L (spN W x (k.sp W)) ∧ Below wx.heap.size wx w') := by
      intro wx hbx
      exact rSpans_all (k.size + 1) v N 0 x k [] _ W wx (Nat.le_refl _) (h.below hbx) (by omega) ⟨by rw [List.drop_zero, List.append_nil]; exact hG.flat, hG.wf, hG.all⟩ (HWr.out.below hbx) h1
    have HOk := Lib.hid hok
    obtain ⟨_, ao, cap, rfl, -⟩ := h
    generalize N.length = nn at *
    clear hG hok
    go_enter Try.func37, Try.ntmps37
    go_wp2_with (first
      | (go_at_call 31; refine (HC.out).mono ?_; rintro en w2 ⟨rfl, hb2⟩; have HB2 := Lib.hid hb2; clear hb2)
      | (go_at_call 64; refine (HSp.out _ HB2.out).mono ?_; rintro en w4 ⟨v4, L, rfl, ho4, hM4, hb4⟩; have hpl : 0 < (W.length + 1) * (W.length + 1) := (Nat.mul_pos (by omega) (by omega)); have hix : W.length < (W.length + 1) * (W.length + 1) := (by have := idx_lt (i := 0) (j := W.length) (n := W.length + 1) (by omega) (by omega); omega); obtain ⟨q, hq⟩ : ∃ q, L[W.length]? = some q := ⟨_, List.getElem?_eq_getElem (by rw [hM4.len]; exact hix)⟩; obtain ⟨g, cg, rfl, hg1, hg2, hg3, hcs⟩ := ho4.pos (by rw [hM4.len]; exact hpl); rw [hM4.len]; obtain ⟨cQ, -⟩ := hcs _ q hq; have HM := Lib.hid hM4; have HQq := Lib.hid hq; have HBf : Hid (Below w.heap.size w w4) := HB2.out.trans (hb4.mono HB2.out.size); clear ho4 hM4 hb4 hcs hq; generalize (W.length + 1) * (W.length + 1) = sq at *))
    have HQ : Hid (q = ok) := by
      unfold Hid
      have h5 := st_val HQq.out
      have h6 := HM.out.at' 0 W.length (by omega) (by omega)
      rw [Nat.zero_mul, Nat.zero_add, h5, ← HOk.out] at h6
      cases q <;> cases ok <;> simp_all
    have hq2 := HQ.out
    subst hq2
    go_ret2
    exact ⟨rfl, HBf.out⟩

set_option maxRecDepth 100000 in
set_option maxHeartbeats 1600000 in
theorem rCopyWord_any (v : Value) (W : List ByteArray) (w : World) (h : RdW w v W) (hl : W.length ≤ 8796093022208) :
    Calls Try.prog 36 #[v] w fun en w' => ∃ v', en = .returned v' ∧ OwnStr w' w.heap.size v' W ∧ Below w.heap.size w w' := by
  by_cases h0 : W.length = 0
  · obtain ⟨_, ao, cap, rfl, -⟩ := h
    obtain rfl : W = [] := List.length_eq_zero_iff.1 h0
    go_enter Try.func36, Try.ntmps36
    go_wp2_with (at_builtin; go_must (refine wpList_app0 elemStr rfl _ _ rfl rfl (Nat.le_refl _) rfl ?_))
    go_ret
    exact ⟨_, rfl, World.ownsRow_nil _ _ _ _, Below.refl _ _⟩
  · obtain ⟨b, off, cap, rfl, hb, hc, hcs⟩ := Rd.at (i := 0) h (by omega)
    have hsrc : Hid (∀ j u, (strs W)[j]? = some u → w.cell? ((⟨b, off, none⟩ : Addr).add j) = some u) := fun j u hj => by rw [Addr.add_lit]; exact hcs j u hj
    have hone : ∀ u ∈ strs W, u.oneCell' = true := by
      intro u hu
      obtain ⟨t, _, rfl⟩ := List.mem_map.1 hu
      rfl
    have hsl : (strs W).length = W.length * 1 := by unfold strs; simp
    clear h hc hcs
    have hown0 := World.ownsRow_nil w w.heap.size 9 1
    go_enter Try.func36, Try.ntmps36
    go_wp2_with (at_builtin; go_must (refine wpList_appG elemStr rfl _ _ rfl hown0 rfl (news := strs W) rfl hsl hsrc.out hone (by unfold maxLen; omega) (by omega) (Nat.le_refl _) ?_); intro v' w4 hown4 hg4)
    go_ret
    refine ⟨_, rfl, by have := hown4; simp only [Nat.zero_add, List.nil_append] at this; exact this, ?_⟩
    exact below_grown (by simpa [Value.ownBlock] using hg4)

set_option maxRecDepth 100000 in
set_option maxHeartbeats 1600000 in
theorem regexMatches_any (v : Value) (N : List Nd) (vw : Value) (W : List ByteArray) (w : World) (h : RdNd w v N) (hl : N.length ≤ 4398046511104) (hW : RdW w vw W) (hWl : W.length ≤ 8796093022208) :
    Calls Try.prog 12 #[v, vw] w fun e w' => e = .returned (.bool true) ∧ Below w.heap.size w w' := by
  obtain ⟨ok, e, hP⟩ := mtS_ex N W
  have HC := Lib.hid (rCopy_any v N w h hl)
  have HCw := Lib.hid (fun w h => rCopyWord_any vw W w h hWl)
  have HX := Lib.hid (fun v vw w h hW => xMatch_any v vw N W ok e w h hW hP hl)
  have HR := Lib.hid (fun v vw w h hW => rMatch_any v vw N W ok e w h hW hP hl)
  have HV := Lib.hid h
  have HU := Lib.hid hW
  obtain ⟨_, ao, cap, rfl, -⟩ := id h
  obtain ⟨_, aw, cw, rfl, -⟩ := id hW
  clear h hW hP
  go_enter Try.func12, Try.ntmps12
  go_wp2_with fail
  refine (HC.out).mono ?_
  rintro en w1 ⟨v1, rfl, ho1, hb1⟩
  have HO1 := Lib.hid (RdNd.of_own ho1)
  have HB1 := Lib.hid hb1
  clear ho1 hb1
  go_wp2_with fail
  refine (HCw.out _ (RdW.below HU.out HB1.out)).mono ?_
  rintro en w2 ⟨v2, rfl, ho2, hb2⟩
  have HO2 := Lib.hid (RdNd.below HO1.out hb2)
  have HW2 : Hid (RdW w2 v2 W) := Rd.of_owns ho2
  have HB2 := Lib.hid (HB1.out.trans (hb2.mono HB1.out.size))
  clear ho2 hb2
  go_wp2_with fail
  refine (HX.out _ _ _ HO2.out HW2.out).mono ?_
  rintro en w3 ⟨rfl, hb3⟩
  have HB3 := Lib.hid (HB2.out.trans (hb3.mono HB2.out.size))
  clear hb3
  go_wp2_with fail
  refine (HR.out _ _ _ (RdNd.below HV.out HB3.out) (RdW.below HU.out HB3.out)).mono ?_
  rintro en w4 ⟨rfl, hb4⟩
  have HB4 := Lib.hid (HB3.out.trans (hb4.mono HB3.out.size))
  clear hb4
  go_wp2_with fail
  refine (head_any _).mono ?_
  rintro en w5 ⟨rfl, hb5⟩
  have HB5 := Lib.hid (HB4.out.trans (hb5.mono HB4.out.size))
  clear hb5
  go_wp2_with fail
  go_ret
  exact ⟨by simp, HB5.out⟩
end Go.Proofs.Ytbpipnjdfmpbdaa
