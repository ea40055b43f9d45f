import Derived.Test.YtbpipnjdfmpbdaaRvD
import Derived.Test.YtbpipnjdfmpbdaaRvE
namespace Go.Proofs.Ytbpipnjdfmpbdaa

/-! ### plain: a piece of a word is looked at alone -/
def Mono (r : Nat → Nat → Prop) : Prop := ∀ a b, r a b → a ≤ b
theorem mono_any {l : List (Nat → Nat → Prop)} (h : ∀ r, r ∈ l → Mono r) : Mono (anyR l) := fun a b ⟨r, hr, h2⟩ => h r hr a b h2
theorem mono_seq : ∀ {l : List (Nat → Nat → Prop)}, (∀ r, r ∈ l → Mono r) → Mono (seqR l)
  | [], _ => fun a b h => by have : a = b := h; omega
  | r :: l, h => fun a b ⟨q, h1, h2⟩ => Nat.le_trans (h r (List.mem_cons_self ..) a q h1) (mono_seq (fun s hs => h s (List.mem_cons_of_mem _ hs)) q b h2)
theorem mono_gen {r : Nat → Nat → Prop} (h : Mono r) : Mono (Relation.TransGen r) := fun a b hR => by
  induction hR with
  | single h1 => exact h _ _ h1
  | tail _ h1 ih => exact Nat.le_trans ih (h _ _ h1)
theorem mono_sp (W : List ByteArray) (f : Fo) : ∀ r, r ∈ f.sp W → Mono r := by
  induction f with
  | nil => intro r h; cases h
  | cons x k r ih1 ih2 =>
    intro s hs
    rcases List.mem_cons.1 hs with rfl | hs
    · intro a b h
      unfold spN at h
      split at h
      · omega
      · split at h
        · omega
        · split at h
          · exact mono_seq ih1 a b h
          · split at h
            · exact mono_any ih1 a b h
            · split at h
              · rcases h with h | h
                · omega
                · exact mono_gen (mono_any ih1) a b h
              · split at h
                · exact mono_gen (mono_any ih1) a b h
                · rcases h with h | h
                  · omega
                  · exact mono_any ih1 a b h
    · exact ih2 s hs
def All2 (P : (Nat → Nat → Prop) → (Nat → Nat → Prop) → Prop) : List (Nat → Nat → Prop) → List (Nat → Nat → Prop) → Prop
  | [], [] => True
  | r :: l, s :: m => P r s ∧ All2 P l m
  | _, _ => False
/-! the beginning of a word -/
def PT (n : Nat) (r s : Nat → Nat → Prop) : Prop := Mono r ∧ Mono s ∧ ∀ a b, b ≤ n → (r a b ↔ s a b)
theorem all2_mono {P : (Nat → Nat → Prop) → (Nat → Nat → Prop) → Prop} (hP : ∀ r s, P r s → Mono r ∧ Mono s) : ∀ {l m : List (Nat → Nat → Prop)}, All2 P l m → (∀ r, r ∈ l → Mono r) ∧ (∀ r, r ∈ m → Mono r)
  | [], [], _ => ⟨fun r h => (by cases h), fun r h => (by cases h)⟩
  | a :: l, b :: m, h => by
    have h1 := hP a b h.1
    have h2 := all2_mono hP h.2
    exact ⟨fun r hr => by rcases List.mem_cons.1 hr with rfl | hr; exact h1.1; exact h2.1 r hr, fun r hr => by rcases List.mem_cons.1 hr with rfl | hr; exact h1.2; exact h2.2 r hr⟩
  | [], _ :: _, h => h.elim
  | _ :: _, [], h => h.elim
theorem pt_seq {n : Nat} : ∀ {l m : List (Nat → Nat → Prop)}, All2 (PT n) l m → ∀ a b, b ≤ n → (seqR l a b ↔ seqR m a b)
  | [], [], _, a, b, _ => Iff.rfl
  | r :: l, s :: m, h, a, b, hb => by
    have hm := all2_mono (fun r s h => ⟨h.1, h.2.1⟩) h.2
    constructor
    · rintro ⟨q, h1, h2⟩
      have hq := mono_seq hm.1 q b h2
      exact ⟨q, (h.1.2.2 a q (by omega)).1 h1, (pt_seq h.2 q b hb).1 h2⟩
    · rintro ⟨q, h1, h2⟩
      have hq := mono_seq hm.2 q b h2
      exact ⟨q, (h.1.2.2 a q (by omega)).2 h1, (pt_seq h.2 q b hb).2 h2⟩
  | [], _ :: _, h, _, _, _ => h.elim
  | _ :: _, [], h, _, _, _ => h.elim
theorem pt_any {n : Nat} : ∀ {l m : List (Nat → Nat → Prop)}, All2 (PT n) l m → ∀ a b, b ≤ n → (anyR l a b ↔ anyR m a b)
  | [], [], _, a, b, _ => Iff.rfl
  | r :: l, s :: m, h, a, b, hb => by
    have ih := pt_any h.2 a b hb
    unfold anyR at ih ⊢
    simp only [List.mem_cons, exists_eq_or_imp]
    rw [h.1.2.2 a b hb, ih]
  | [], _ :: _, h, _, _, _ => h.elim
  | _ :: _, [], h, _, _, _ => h.elim
theorem pt_gen {n : Nat} {r s : Nat → Nat → Prop} (hr : Mono r) (h : ∀ a b, b ≤ n → (r a b → s a b)) (a b : Nat) (hb : b ≤ n) (hR : Relation.TransGen r a b) : Relation.TransGen s a b := by
  induction hR with
  | single h1 => exact .single (h _ _ hb h1)
  | tail _ h1 ih => exact .tail (ih (Nat.le_trans (hr _ _ h1) hb)) (h _ _ hb h1)
theorem pt_sp (W : List ByteArray) (n : Nat) (f : Fo) : All2 (PT n) (f.sp (W.take n)) (f.sp W) := by
  induction f with
  | nil => trivial
  | cons x k r ih1 ih2 =>
    refine ⟨⟨mono_sp _ (.cons x k r) _ (List.mem_cons_self ..), mono_sp _ (.cons x k r) _ (List.mem_cons_self ..), fun a b hb => ?_⟩, ih2⟩
    have hm1 := mono_any (mono_sp (W.take n) k)
    have hm2 := mono_any (mono_sp W k)
    have hg : Relation.TransGen (anyR (k.sp (W.take n))) a b ↔ Relation.TransGen (anyR (k.sp W)) a b :=
      ⟨pt_gen hm1 (fun a b hb => (pt_any ih1 a b hb).1) a b hb, pt_gen hm2 (fun a b hb => (pt_any ih1 a b hb).2) a b hb⟩
    unfold spN
    split
    · exact Iff.rfl
    · split
      · constructor
        · rintro ⟨h1, h2⟩
          refine ⟨h1, ?_⟩
          rw [List.getElem?_take] at h2
          split at h2
          · exact h2
          · cases h2
        · rintro ⟨h1, h2⟩
          exact ⟨h1, by rw [List.getElem?_take, if_pos (by omega)]; exact h2⟩
      · split
        · exact pt_seq ih1 a b hb
        · split
          · exact pt_any ih1 a b hb
          · split
            · rw [hg]
            · split
              · exact hg
              · rw [pt_any ih1 a b hb]
theorem sp_take (W : List ByteArray) (n : Nat) (x : Nd) (k : Fo) (a : Nat) : spN (W.take n) x (k.sp (W.take n)) a n ↔ spN W x (k.sp W) a n :=
  (pt_sp W n (.cons x k .nil)).1.2.2 a n (Nat.le_refl _)
/-! the end of a word -/
def PD (n : Nat) (r s : Nat → Nat → Prop) : Prop := Mono r ∧ Mono s ∧ ∀ a b, r a b ↔ s (a + n) (b + n)
theorem pd_seq {n : Nat} : ∀ {l m : List (Nat → Nat → Prop)}, All2 (PD n) l m → ∀ a b, seqR l a b ↔ seqR m (a + n) (b + n)
  | [], [], _, a, b => by show a = b ↔ a + n = b + n; omega
  | r :: l, s :: m, h, a, b => by
    constructor
    · rintro ⟨q, h1, h2⟩
      exact ⟨q + n, (h.1.2.2 a q).1 h1, (pd_seq h.2 q b).1 h2⟩
    · rintro ⟨q, h1, h2⟩
      have hq := h.1.2.1 _ _ h1
      obtain ⟨q', rfl⟩ : ∃ q', q = q' + n := ⟨q - n, by omega⟩
      exact ⟨q', (h.1.2.2 a q').2 h1, (pd_seq h.2 q' b).2 h2⟩
  | [], _ :: _, h, _, _ => h.elim
  | _ :: _, [], h, _, _ => h.elim
theorem pd_any {n : Nat} : ∀ {l m : List (Nat → Nat → Prop)}, All2 (PD n) l m → ∀ a b, anyR l a b ↔ anyR m (a + n) (b + n)
  | [], [], _, a, b => by unfold anyR; simp
  | r :: l, s :: m, h, a, b => by
    have ih := pd_any h.2 a b
    unfold anyR at ih ⊢
    simp only [List.mem_cons, exists_eq_or_imp]
    rw [h.1.2.2 a b, ih]
  | [], _ :: _, h, _, _ => h.elim
  | _ :: _, [], h, _, _ => h.elim
theorem pd_gen1 {n : Nat} {r s : Nat → Nat → Prop} (h : ∀ a b, r a b → s (a + n) (b + n)) (a b : Nat) (hR : Relation.TransGen r a b) : Relation.TransGen s (a + n) (b + n) := by
  induction hR with
  | single h1 => exact .single (h _ _ h1)
  | tail _ h1 ih => exact .tail ih (h _ _ h1)
theorem pd_gen2 {n : Nat} {r s : Nat → Nat → Prop} (hs : Mono s) (h : ∀ a b, s (a + n) (b + n) → r a b) (a c : Nat) (hR : Relation.TransGen s (a + n) c) : ∀ b, c = b + n → Relation.TransGen r a b := by
  induction hR with
  | single h1 => intro b hb; subst hb; exact .single (h _ _ h1)
  | @tail q c h0 h1 ih =>
    intro b hb
    subst hb
    have hq := mono_gen hs _ _ h0
    obtain ⟨q', rfl⟩ : ∃ q', q = q' + n := ⟨q - n, by omega⟩
    exact .tail (ih q' rfl) (h _ _ h1)
theorem pd_sp (W : List ByteArray) (n : Nat) (f : Fo) : All2 (PD n) (f.sp (W.drop n)) (f.sp W) := by
  induction f with
  | nil => trivial
  | cons x k r ih1 ih2 =>
    refine ⟨⟨mono_sp _ (.cons x k r) _ (List.mem_cons_self ..), mono_sp _ (.cons x k r) _ (List.mem_cons_self ..), fun a b => ?_⟩, ih2⟩
    have hm2 := mono_any (mono_sp W k)
    have hg : Relation.TransGen (anyR (k.sp (W.drop n))) a b ↔ Relation.TransGen (anyR (k.sp W)) (a + n) (b + n) :=
      ⟨pd_gen1 (fun a b => (pd_any ih1 a b).1) a b, fun h => pd_gen2 hm2 (fun a b => (pd_any ih1 a b).2) a _ h b rfl⟩
    have he : a = b ↔ a + n = b + n := by omega
    unfold spN
    split
    · exact he
    · split
      · rw [List.getElem?_drop, Nat.add_comm n a]
        have : b = a + 1 ↔ b + n = a + n + 1 := by omega
        rw [this]
      · split
        · exact pd_seq ih1 a b
        · split
          · exact pd_any ih1 a b
          · split
            · rw [hg, he]
            · split
              · exact hg
              · rw [pd_any ih1 a b, he]
theorem sp_drop (W : List ByteArray) (n : Nat) (x : Nd) (k : Fo) (b : Nat) : spN (W.drop n) x (k.sp (W.drop n)) 0 b ↔ spN W x (k.sp W) n (b + n) := by
  have := (pd_sp W n (.cons x k .nil)).1.2.2 0 b
  rwa [Nat.zero_add] at this
/-! two trees in one -/
def pairN (k : Int) (N M : List Nd) : List Nd := ⟨k, ⟨#[]⟩, 2⟩ :: (N ++ M)
theorem pair_good {N M : List Nd} {x y : Nd} {k j : Fo} (q : Int) (hq : q = 4 ∨ q = 5) (h1 : GoodT N x k) (h2 : GoodT M y j) : GoodT (pairN q N M) ⟨q, ⟨#[]⟩, 2⟩ (.cons x k (.cons y j .nil)) := by
  refine ⟨?_, ⟨rfl, ⟨h1.wf.1, h1.wf.2.1, h2.wf⟩, trivial⟩, ⟨?_, ⟨h1.all.1, h1.all.2.1, h2.all⟩, trivial⟩⟩
  · unfold pairN
    rw [h1.flat, h2.flat]
    simp [Fo.flat]
  · exact .inr (.inr (.inr (.inl ⟨hq, rfl, Int.le_refl 2⟩)))
theorem good_uniq {N : List Nd} {x y : Nd} {k j : Fo} (h1 : GoodT N x k) (h2 : GoodT N y j) : x = y ∧ k = j := by
  have := (Fo.flat_inj _ _ [] [] h1.wf h2.wf rfl (by rw [List.append_nil, List.append_nil, ← h1.flat, ← h2.flat])).1
  simp only [Fo.cons.injEq, and_true] at this
  exact this
theorem chk_zero {N : List Nd} {x : Nd} {k : Fo} (hG : GoodT N x k) (h : ChkS N 0) : N.length ≤ 2048 ∧ boundsF x k = 0 := by
  rcases h with ⟨_, h⟩ | ⟨_, _, h⟩ | ⟨h1, y, j, h2, h3⟩
  · cases h
  · cases h
  · obtain ⟨rfl, rfl⟩ := good_uniq hG h2
    exact ⟨h1, h3.symm⟩
theorem chk_good {N : List Nd} (h : ChkS N 0) : ∃ x k, GoodT N x k ∧ boundsF x k = 0 ∧ N.length ≤ 2048 := by
  rcases h with ⟨_, h⟩ | ⟨_, _, h⟩ | ⟨h1, y, j, h2, h3⟩
  · cases h
  · cases h
  · exact ⟨y, j, h2, h3.symm, h1⟩
theorem pair_seq (W : List ByteArray) (x y : Nd) (k j : Fo) (a b : Nat) : spN W ⟨4, ⟨#[]⟩, 2⟩ ((Fo.cons x k (.cons y j .nil)).sp W) a b ↔ ∃ q, spN W x (k.sp W) a q ∧ spN W y (j.sp W) q b := by
  have e : spN W ⟨4, ⟨#[]⟩, 2⟩ ((Fo.cons x k (.cons y j .nil)).sp W) a b ↔ seqR ((Fo.cons x k (.cons y j .nil)).sp W) a b := by
    conv => lhs; unfold spN
    exact Iff.rfl
  rw [e]
  constructor
  · rintro ⟨q, h1, p, h2, rfl⟩; exact ⟨q, h1, h2⟩
  · rintro ⟨q, h1, h2⟩; exact ⟨q, h1, b, h2, rfl⟩
theorem pair_alt (W : List ByteArray) (x y : Nd) (k j : Fo) (a b : Nat) : spN W ⟨5, ⟨#[]⟩, 2⟩ ((Fo.cons x k (.cons y j .nil)).sp W) a b ↔ (spN W x (k.sp W) a b ∨ spN W y (j.sp W) a b) := by
  have e : spN W ⟨5, ⟨#[]⟩, 2⟩ ((Fo.cons x k (.cons y j .nil)).sp W) a b ↔ anyR ((Fo.cons x k (.cons y j .nil)).sp W) a b := by
    conv => lhs; unfold spN
    exact Iff.rfl
  rw [e]
  unfold anyR
  simp [Fo.sp]
end Go.Proofs.Ytbpipnjdfmpbdaa
namespace Go.Proofs.Ytbpipnjdfmpbdaa
open Go.RowKit Go.Shelf

/-- 'append(out, l...)' of nodes that read -/
theorem wpList_appRd {B : Nat} {wr : World} {ops : Array Oper} {rest : List Oper} {o : Oper} {a : Act} {Q : Exit → Act → World → Prop} (hgd : o.guard = none) (s x : Operand)
    (ho : o.op = .call { callee := .builtin .append, args := #[s, x], argTypes := #[22, 22] }) {v vx : Value} {K L : List Nd}
    (hown : OwnNd wr B v K) (hs : a.eval s = v) (hx : a.eval x = vx) (hR : RdNd wr vx L) (hn : K.length + L.length ≤ 4398046511104) (hB : B ≤ wr.heap.size)
    (h : ∀ v' w', OwnNd w' B v' (K ++ L) → wr.grownBy w' v.ownBlock → wpList Try.prog ops Q rest (a.put o.dst v') w') : wpList Try.prog ops Q (o :: rest) a wr := by
  by_cases h0 : L.length = 0
  · obtain rfl : L = [] := List.length_eq_zero_iff.1 h0
    obtain ⟨_, ao, cap, rfl, -⟩ := hR
    rcases hown.2 with ⟨rfl, h2⟩ | ⟨g, cap2, cur, h2, h3, h4, h5, h6, h7⟩
    · refine wpList_app0 elemNd hgd s x ho hs (Nat.le_refl _) hx (h _ _ (by rw [List.append_nil]; exact hown) (World.grownBy.refl _ _))
    · subst h2
      refine wpList_app0 elemNd hgd s x ho hs h5 hx (h _ _ (by rw [List.append_nil]; exact hown) (World.grownBy.refl _ _))
  · obtain ⟨b, off, cap, rfl, hb, hc, hcs⟩ := Rd.at (i := 0) hR (by omega)
    refine wpList_appG elemNd hgd s x ho hown hs (ad := ⟨b, off, none⟩) (news := flatNd L) hx (flatNd_len _) (fun j u hj => by rw [Addr.add_lit]; exact hcs j u hj) (flatNd_one _) (by unfold maxLen; omega) (by omega) hB ?_
    intro v' w' h1 h2
    refine h v' w' ?_ h2
    unfold OwnNd
    rw [List.length_append, flatNd_app]
    exact h1

set_option maxRecDepth 100000 in
set_option maxHeartbeats 1600000 in
theorem rPair_any (q : Int) (v vm : Value) (N M : List Nd) (w : World) (h : RdNd w v N) (hM : RdNd w vm M) (hl : N.length + M.length ≤ 4398046511000) :
    Calls Try.prog 38 #[.int .i64 q, v, vm] w fun en w' => ∃ v', en = .returned v' ∧ OwnNd w' w.heap.size v' (pairN q N M) ∧ Below w.heap.size w w' := by
  have HA1 := Lib.hid (OwnNd.one w w.heap.size (Nat.le_refl _) ⟨q, ⟨#[]⟩, 2⟩)
  have HB1 : Hid (Below w.heap.size w (w.alloc (.cells #[.int .i64 q, .string ⟨#[]⟩, .int .i64 2] 39))) := below1 w _
  have HN := Lib.hid h
  have HM := Lib.hid hM
  obtain ⟨_, ao, cap, rfl, -⟩ := id h
  obtain ⟨_, am, cm, rfl, -⟩ := id hM
  clear h hM
  go_enter Try.func38, Try.ntmps38
  go_wp2_with (first
    | (have hx_ := HO3.out; clear hx_; at_builtin; go_must (refine wpList_appRd rfl _ _ rfl HO3.out rfl rfl (RdNd.below HM.out HB3.out) (by simp; omega) HB3.out.size ?_); intro v4 w4 ho4 hg4; have HO4 := Lib.hid ho4; have HB4 : Hid (Below w.heap.size w w4) := HB3.out.grown hg4 HB3.out.size (fun j hj => own_block HO3.out j hj); clear ho4 hg4)
    | (at_builtin; go_must (refine wpList_appRd rfl _ _ rfl HA1.out rfl rfl (RdNd.below HN.out HB1.out) (by simp; omega) HB1.out.size ?_); intro v3 w3 ho3 hg3; have HO3 := Lib.hid ho3; have HB3 : Hid (Below w.heap.size w w3) := HB1.out.grown hg3 HB1.out.size (fun j hj => own_block HA1.out j hj); clear ho3 hg3))
  go_ret
  exact ⟨_, rfl, HO4.out, HB4.out⟩

/-! ### the law RegexSplits -/
theorem ms_one {N : List Nd} {x : Nd} {k : Fo} (W : List ByteArray) (hG : GoodT N x k) (hC : ChkS N 0) (hW : W.length ≤ 64) : ∃ ok, MtS N W ok 0 ∧ (ok = true ↔ spN W x (k.sp W) 0 W.length) := by
  obtain ⟨h1, h2⟩ := chk_zero hG hC
  by_cases hs : spN W x (k.sp W) 0 W.length
  · exact ⟨true, .inr (.inr ⟨hW, rfl, h1, x, k, hG, h2, ⟨fun _ => hs, fun _ => rfl⟩⟩), ⟨fun _ => hs, fun _ => rfl⟩⟩
  · exact ⟨false, .inr (.inr ⟨hW, rfl, h1, x, k, hG, h2, ⟨fun h => (by cases h), fun h => absurd h hs⟩⟩), ⟨fun h => (by cases h), fun h => absurd h hs⟩⟩
theorem rdW_take {w : World} {ao : Option Addr} {c n i : Nat} {W : List ByteArray} (h : RdW w (.slice ao n c) W) (hn : W.length = n) (hi : i ≤ n) (c2 : Nat) (hc : i ≤ c2) (hm : c2 ≤ maxLen) : RdW w (.slice ao i c2) (W.take i) := by
  obtain ⟨h1, ao', cap, e, h3, h4, h5⟩ := h
  simp only [Value.slice.injEq] at e
  obtain ⟨rfl, -, rfl⟩ := e
  have hl : (W.take i).length = i := by rw [List.length_take]; omega
  refine ⟨by unfold strs; rw [List.length_map]; omega, ao, c2, by rw [hl], by omega, hm, ?_⟩
  rw [hl]
  rcases h5 with h5 | ⟨b, off, h6, h7, h8⟩
  · left; omega
  · right
    refine ⟨b, off, h6, h7, fun j u hj => ?_⟩
    unfold strs at hj
    rw [List.getElem?_map, List.getElem?_take] at hj
    split at hj
    · exact h8 j u (by unfold strs; rw [List.getElem?_map]; exact hj)
    · cases hj
theorem rdW_drop {w : World} {b off c n i : Nat} {W : List ByteArray} (h : RdW w (.slice (some ⟨b, off, none⟩) n c) W) (hn : W.length = n) (hi : i ≤ n) (c2 : Nat) (hc : n - i ≤ c2) (hm : c2 ≤ maxLen) : RdW w (.slice (some ⟨b, off + i, none⟩) (n - i) c2) (W.drop i) := by
  obtain ⟨h1, ao', cap, e, h3, h4, h5⟩ := h
  simp only [Value.slice.injEq] at e
  obtain ⟨rfl, -, rfl⟩ := e
  have hl : (W.drop i).length = n - i := by rw [List.length_drop, hn]
  refine ⟨by unfold strs; rw [List.length_map]; omega, _, c2, by rw [hl], by omega, hm, ?_⟩
  rw [hl]
  rcases h5 with h5 | ⟨b', off', h6, h7, h8⟩
  · left; omega
  · right
    simp only [Option.some.injEq, Addr.mk.injEq] at h6
    obtain ⟨rfl, rfl, -⟩ := h6
    refine ⟨b, off + i, rfl, h7, fun j u hj => ?_⟩
    unfold strs at hj
    rw [List.getElem?_map, List.getElem?_drop] at hj
    have := h8 (i + j) u (by unfold strs; rw [List.getElem?_map]; exact hj)
    rwa [← Nat.add_assoc] at this
theorem rdW_nil {w : World} {ao : Option Addr} {c n : Nat} {W : List ByteArray} (hW : W = []) (hn : n = 0) (hm : c ≤ maxLen) : RdW w (.slice ao n c) W := by
  subst hW; subst hn
  exact ⟨rfl, ao, c, rfl, Nat.zero_le _, hm, .inl rfl⟩
theorem rdW_from {w : World} {ao : Option Addr} {c n i : Nat} {W : List ByteArray} (h : RdW w (.slice ao n c) W) (hn : W.length = n) (hi : i ≤ n) (hc : n ≤ c) (hm : c ≤ maxLen) : RdW w (.slice (ao.map (fun x => x.add i)) (n - i) (c - i)) (W.drop i) := by
  by_cases h0 : n - i = 0
  · exact rdW_nil (List.length_eq_zero_iff.1 (by rw [List.length_drop]; omega)) h0 (by omega)
  · have hx := h.2
    obtain ⟨ao', cap, e, -, -, h5⟩ := hx
    simp only [Value.slice.injEq] at e
    obtain ⟨rfl, -, rfl⟩ := e
    rcases h5 with h5 | ⟨b, off, rfl, -, -⟩
    · omega
    · rw [show (Option.map (fun x : Addr => x.add i) (some ⟨b, off, none⟩)) = some ⟨b, off + i, none⟩ from by rw [Option.map_some, Addr.add_lit]]
      exact rdW_drop h hn hi (c - i) (by omega) (by omega)
end Go.Proofs.Ytbpipnjdfmpbdaa
namespace Go.Proofs.Ytbpipnjdfmpbdaa
open Go.RowKit Go.Shelf

set_option maxRecDepth 100000 in
set_option maxHeartbeats 25600000 in
theorem regexSplits_bad (v : Value) (N : List Nd) (vm : Value) (M : List Nd) (vw : Value) (W : List ByteArray) (w : World) (h : RdNd w v N) (hl : N.length ≤ 1048576) (hM : RdNd w vm M) (hml : M.length ≤ 1048576) (hW : RdW w vw W) (e1 e2 e3 e4 : Int) (hE1 : ChkS (pairN 4 N M) e1) (hE2 : ChkS (pairN 5 N M) e2) (hE3 : ChkS N e3) (hE4 : ChkS M e4) (hcase : (e1 != 0) = true ∨ (e1 = 0 ∧ (e2 != 0) = true) ∨ (e1 = 0 ∧ e2 = 0 ∧ (e3 != 0) = true) ∨ (e1 = 0 ∧ e2 = 0 ∧ e3 = 0 ∧ (e4 != 0) = true)) :
    Calls Try.prog 13 #[v, vm, vw] w fun e w' => e = .returned (.bool true) ∧ Below w.heap.size w w' := by
  have hpl : ∀ q, (pairN q N M).length ≤ 4398046511104 := fun q => by unfold pairN; simp; omega
  have HP := Lib.hid (fun q w h hM => rPair_any q v vm N M w h hM (by omega))
  have HCN := Lib.hid (fun w h => rCopy_any v N w h (by omega))
  have HCM := Lib.hid (fun w h => rCopy_any vm M w h (by omega))
  have K1 := Lib.hid (fun v w h => xCheck_any v (pairN 4 N M) e1 w h hE1 (hpl 4))
  have K2 := Lib.hid (fun v w h => xCheck_any v (pairN 5 N M) e2 w h hE2 (hpl 5))
  have K3 := Lib.hid (fun v w h => xCheck_any v N e3 w h hE3 (by omega))
  have K4 := Lib.hid (fun v w h => xCheck_any v M e4 w h hE4 (by omega))
  have HV := Lib.hid h
  have HVm := Lib.hid hM
  have HU := Lib.hid hW
  obtain ⟨_, ao, cap, rfl, -⟩ := id h
  obtain ⟨_, am, cm, rfl, -⟩ := id hM
  obtain ⟨_, aw, cw, rfl, hcw, hcm, -⟩ := id hW
  have HE1 := Lib.hid hE1
  have HE2 := Lib.hid hE2
  have HE3 := Lib.hid hE3
  have HE4 := Lib.hid hE4
  have HPl := Lib.hid hpl
  clear h hM hW hE1 hE2 hE3 hE4 hpl
  rcases hcase with h0 | ⟨rfl, h0⟩ | ⟨rfl, rfl, h0⟩ | ⟨rfl, rfl, rfl, h0⟩
  · go_enter Try.func13, Try.ntmps13
    go_wp2_with fail
    refine (head_any _).mono ?_
    rintro en w1 ⟨rfl, hb1⟩
    have HB1 := Lib.hid hb1
    clear hb1
    go_wp2_with fail
    refine (HP.out 4 _ (RdNd.below HV.out HB1.out) (RdNd.below HVm.out HB1.out)).mono ?_
    rintro en w2 ⟨v2, rfl, ho2, hb2⟩
    have HS2 := Lib.hid (RdNd.of_own ho2)
    have HB2 := Lib.hid (HB1.out.trans (hb2.mono HB1.out.size))
    obtain ⟨_, ao2, cp2, rfl, -⟩ := Rd.of_owns ho2
    clear ho2 hb2
    go_wp2_with fail
    refine (HP.out 5 _ (RdNd.below HV.out HB2.out) (RdNd.below HVm.out HB2.out)).mono ?_
    rintro en w3 ⟨v3, rfl, ho3, hb3⟩
    have HA3 := Lib.hid (RdNd.of_own ho3)
    have HS3 := Lib.hid (RdNd.below HS2.out hb3)
    have HB3 := Lib.hid (HB2.out.trans (hb3.mono HB2.out.size))
    obtain ⟨_, ao3, cp3, rfl, -⟩ := Rd.of_owns ho3
    clear ho3 hb3
    go_wp2_with fail
    refine (K1.out _ _ HS3.out).mono ?_
    rintro en w4 ⟨rfl, hb4⟩
    have HA4 := Lib.hid (RdNd.below HA3.out hb4)
    have HS4 := Lib.hid (RdNd.below HS3.out hb4)
    have HB4 := Lib.hid (HB3.out.trans (hb4.mono HB3.out.size))
    clear hb4
    go_wp2_with fail
    go_ret
    exact ⟨rfl, HB4.out⟩
  · go_enter Try.func13, Try.ntmps13
    go_wp2_with fail
    refine (head_any _).mono ?_
    rintro en w1 ⟨rfl, hb1⟩
    have HB1 := Lib.hid hb1
    clear hb1
    go_wp2_with fail
    refine (HP.out 4 _ (RdNd.below HV.out HB1.out) (RdNd.below HVm.out HB1.out)).mono ?_
    rintro en w2 ⟨v2, rfl, ho2, hb2⟩
    have HS2 := Lib.hid (RdNd.of_own ho2)
    have HB2 := Lib.hid (HB1.out.trans (hb2.mono HB1.out.size))
    obtain ⟨_, ao2, cp2, rfl, -⟩ := Rd.of_owns ho2
    clear ho2 hb2
    go_wp2_with fail
    refine (HP.out 5 _ (RdNd.below HV.out HB2.out) (RdNd.below HVm.out HB2.out)).mono ?_
    rintro en w3 ⟨v3, rfl, ho3, hb3⟩
    have HA3 := Lib.hid (RdNd.of_own ho3)
    have HS3 := Lib.hid (RdNd.below HS2.out hb3)
    have HB3 := Lib.hid (HB2.out.trans (hb3.mono HB2.out.size))
    obtain ⟨_, ao3, cp3, rfl, -⟩ := Rd.of_owns ho3
    clear ho3 hb3
    go_wp2_with fail
    refine (K1.out _ _ HS3.out).mono ?_
    rintro en w4 ⟨rfl, hb4⟩
    have HA4 := Lib.hid (RdNd.below HA3.out hb4)
    have HS4 := Lib.hid (RdNd.below HS3.out hb4)
    have HB4 := Lib.hid (HB3.out.trans (hb4.mono HB3.out.size))
    clear hb4
    go_wp2_with fail
    refine (K2.out _ _ HA4.out).mono ?_
    rintro en w5 ⟨rfl, hb5⟩
    have HA5 := Lib.hid (RdNd.below HA4.out hb5)
    have HS5 := Lib.hid (RdNd.below HS4.out hb5)
    have HB5 := Lib.hid (HB4.out.trans (hb5.mono HB4.out.size))
    clear hb5
    go_wp2_with fail
    go_ret
    exact ⟨rfl, HB5.out⟩
  · go_enter Try.func13, Try.ntmps13
    go_wp2_with fail
    refine (head_any _).mono ?_
    rintro en w1 ⟨rfl, hb1⟩
    have HB1 := Lib.hid hb1
    clear hb1
    go_wp2_with fail
    refine (HP.out 4 _ (RdNd.below HV.out HB1.out) (RdNd.below HVm.out HB1.out)).mono ?_
    rintro en w2 ⟨v2, rfl, ho2, hb2⟩
    have HS2 := Lib.hid (RdNd.of_own ho2)
    have HB2 := Lib.hid (HB1.out.trans (hb2.mono HB1.out.size))
    obtain ⟨_, ao2, cp2, rfl, -⟩ := Rd.of_owns ho2
    clear ho2 hb2
    go_wp2_with fail
    refine (HP.out 5 _ (RdNd.below HV.out HB2.out) (RdNd.below HVm.out HB2.out)).mono ?_
    rintro en w3 ⟨v3, rfl, ho3, hb3⟩
    have HA3 := Lib.hid (RdNd.of_own ho3)
    have HS3 := Lib.hid (RdNd.below HS2.out hb3)
    have HB3 := Lib.hid (HB2.out.trans (hb3.mono HB2.out.size))
    obtain ⟨_, ao3, cp3, rfl, -⟩ := Rd.of_owns ho3
    clear ho3 hb3
    go_wp2_with fail
    refine (K1.out _ _ HS3.out).mono ?_
    rintro en w4 ⟨rfl, hb4⟩
    have HA4 := Lib.hid (RdNd.below HA3.out hb4)
    have HS4 := Lib.hid (RdNd.below HS3.out hb4)
    have HB4 := Lib.hid (HB3.out.trans (hb4.mono HB3.out.size))
    clear hb4
    go_wp2_with fail
    refine (K2.out _ _ HA4.out).mono ?_
    rintro en w5 ⟨rfl, hb5⟩
    have HA5 := Lib.hid (RdNd.below HA4.out hb5)
    have HS5 := Lib.hid (RdNd.below HS4.out hb5)
    have HB5 := Lib.hid (HB4.out.trans (hb5.mono HB4.out.size))
    clear hb5
    go_wp2_with fail
    refine (HCN.out _ (RdNd.below HV.out HB5.out)).mono ?_
    rintro en w6 ⟨v6, rfl, ho6, hb6⟩
    have HO6 := Lib.hid (RdNd.of_own ho6)
    have HA6 := Lib.hid (RdNd.below HA5.out hb6)
    have HS6 := Lib.hid (RdNd.below HS5.out hb6)
    have HB6 := Lib.hid (HB5.out.trans (hb6.mono HB5.out.size))
    clear ho6 hb6
    go_wp2_with fail
    refine (K3.out _ _ HO6.out).mono ?_
    rintro en w7 ⟨rfl, hb7⟩
    have HA7 := Lib.hid (RdNd.below HA6.out hb7)
    have HS7 := Lib.hid (RdNd.below HS6.out hb7)
    have HB7 := Lib.hid (HB6.out.trans (hb7.mono HB6.out.size))
    clear hb7
    go_wp2_with fail
    go_ret
    exact ⟨rfl, HB7.out⟩
  · go_enter Try.func13, Try.ntmps13
    go_wp2_with fail
    refine (head_any _).mono ?_
    rintro en w1 ⟨rfl, hb1⟩
    have HB1 := Lib.hid hb1
    clear hb1
    go_wp2_with fail
    refine (HP.out 4 _ (RdNd.below HV.out HB1.out) (RdNd.below HVm.out HB1.out)).mono ?_
    rintro en w2 ⟨v2, rfl, ho2, hb2⟩
    have HS2 := Lib.hid (RdNd.of_own ho2)
    have HB2 := Lib.hid (HB1.out.trans (hb2.mono HB1.out.size))
    obtain ⟨_, ao2, cp2, rfl, -⟩ := Rd.of_owns ho2
    clear ho2 hb2
    go_wp2_with fail
    refine (HP.out 5 _ (RdNd.below HV.out HB2.out) (RdNd.below HVm.out HB2.out)).mono ?_
    rintro en w3 ⟨v3, rfl, ho3, hb3⟩
    have HA3 := Lib.hid (RdNd.of_own ho3)
    have HS3 := Lib.hid (RdNd.below HS2.out hb3)
    have HB3 := Lib.hid (HB2.out.trans (hb3.mono HB2.out.size))
    obtain ⟨_, ao3, cp3, rfl, -⟩ := Rd.of_owns ho3
    clear ho3 hb3
    go_wp2_with fail
    refine (K1.out _ _ HS3.out).mono ?_
    rintro en w4 ⟨rfl, hb4⟩
    have HA4 := Lib.hid (RdNd.below HA3.out hb4)
    have HS4 := Lib.hid (RdNd.below HS3.out hb4)
    have HB4 := Lib.hid (HB3.out.trans (hb4.mono HB3.out.size))
    clear hb4
    go_wp2_with fail
    refine (K2.out _ _ HA4.out).mono ?_
    rintro en w5 ⟨rfl, hb5⟩
    have HA5 := Lib.hid (RdNd.below HA4.out hb5)
    have HS5 := Lib.hid (RdNd.below HS4.out hb5)
    have HB5 := Lib.hid (HB4.out.trans (hb5.mono HB4.out.size))
    clear hb5
    go_wp2_with fail
    refine (HCN.out _ (RdNd.below HV.out HB5.out)).mono ?_
    rintro en w6 ⟨v6, rfl, ho6, hb6⟩
    have HO6 := Lib.hid (RdNd.of_own ho6)
    have HA6 := Lib.hid (RdNd.below HA5.out hb6)
    have HS6 := Lib.hid (RdNd.below HS5.out hb6)
    have HB6 := Lib.hid (HB5.out.trans (hb6.mono HB5.out.size))
    clear ho6 hb6
    go_wp2_with fail
    refine (K3.out _ _ HO6.out).mono ?_
    rintro en w7 ⟨rfl, hb7⟩
    have HA7 := Lib.hid (RdNd.below HA6.out hb7)
    have HS7 := Lib.hid (RdNd.below HS6.out hb7)
    have HB7 := Lib.hid (HB6.out.trans (hb7.mono HB6.out.size))
    clear hb7
    go_wp2_with fail
    refine (HCM.out _ (RdNd.below HVm.out HB7.out)).mono ?_
    rintro en w8 ⟨v8, rfl, ho8, hb8⟩
    have HO8 := Lib.hid (RdNd.of_own ho8)
    have HA8 := Lib.hid (RdNd.below HA7.out hb8)
    have HS8 := Lib.hid (RdNd.below HS7.out hb8)
    have HB8 := Lib.hid (HB7.out.trans (hb8.mono HB7.out.size))
    clear ho8 hb8
    go_wp2_with fail
    refine (K4.out _ _ HO8.out).mono ?_
    rintro en w9 ⟨rfl, hb9⟩
    have HA9 := Lib.hid (RdNd.below HA8.out hb9)
    have HS9 := Lib.hid (RdNd.below HS8.out hb9)
    have HB9 := Lib.hid (HB8.out.trans (hb9.mono HB8.out.size))
    clear hb9
    go_wp2_with fail
    go_ret
    exact ⟨rfl, HB9.out⟩

set_option maxRecDepth 100000 in
set_option maxHeartbeats 25600000 in
theorem regexSplits_long (v : Value) (N : List Nd) (vm : Value) (M : List Nd) (vw : Value) (W : List ByteArray) (w : World) (h : RdNd w v N) (hl : N.length ≤ 1048576) (hM : RdNd w vm M) (hml : M.length ≤ 1048576) (hW : RdW w vw W) (hWl : W.length ≤ 1048576) (hE1 : ChkS (pairN 4 N M) 0) (hE2 : ChkS (pairN 5 N M) 0) (hE3 : ChkS N 0) (hE4 : ChkS M 0) (hw : 64 < W.length) :
  Calls Try.prog 13 #[v, vm, vw] w fun e w' => e = .returned (.bool true) ∧ Below w.heap.size w w' := by
  have hpl : ∀ q, (pairN q N M).length ≤ 4398046511104 := fun q => by unfold pairN; simp; omega
  have HP := Lib.hid (fun q w h hM => rPair_any q v vm N M w h hM (by omega))
  have HCN := Lib.hid (fun w h => rCopy_any v N w h (by omega))
  have HCM := Lib.hid (fun w h => rCopy_any vm M w h (by omega))
  have K1 := Lib.hid (fun v w h => xCheck_any v (pairN 4 N M) 0 w h hE1 (hpl 4))
  have K2 := Lib.hid (fun v w h => xCheck_any v (pairN 5 N M) 0 w h hE2 (hpl 5))
  have K3 := Lib.hid (fun v w h => xCheck_any v N 0 w h hE3 (by omega))
  have K4 := Lib.hid (fun v w h => xCheck_any v M 0 w h hE4 (by omega))
  have HV := Lib.hid h
  have HVm := Lib.hid hM
  have HU := Lib.hid hW
  obtain ⟨_, ao, cap, rfl, -⟩ := id h
  obtain ⟨_, am, cm, rfl, -⟩ := id hM
  obtain ⟨_, aw, cw, rfl, hcw, hcm, -⟩ := id hW
  have HE1 := Lib.hid hE1
  have HE2 := Lib.hid hE2
  have HE3 := Lib.hid hE3
  have HE4 := Lib.hid hE4
  have HPl := Lib.hid hpl
  clear h hM hW hE1 hE2 hE3 hE4 hpl
  go_enter Try.func13, Try.ntmps13
  go_wp2_with fail
  refine (head_any _).mono ?_
  rintro en w1 ⟨rfl, hb1⟩
  have HB1 := Lib.hid hb1
  clear hb1
  go_wp2_with fail
  refine (HP.out 4 _ (RdNd.below HV.out HB1.out) (RdNd.below HVm.out HB1.out)).mono ?_
  rintro en w2 ⟨v2, rfl, ho2, hb2⟩
  have HS2 := Lib.hid (RdNd.of_own ho2)
  have HB2 := Lib.hid (HB1.out.trans (hb2.mono HB1.out.size))
  obtain ⟨_, ao2, cp2, rfl, -⟩ := Rd.of_owns ho2
  clear ho2 hb2
  go_wp2_with fail
  refine (HP.out 5 _ (RdNd.below HV.out HB2.out) (RdNd.below HVm.out HB2.out)).mono ?_
  rintro en w3 ⟨v3, rfl, ho3, hb3⟩
  have HA3 := Lib.hid (RdNd.of_own ho3)
  have HS3 := Lib.hid (RdNd.below HS2.out hb3)
  have HB3 := Lib.hid (HB2.out.trans (hb3.mono HB2.out.size))
  obtain ⟨_, ao3, cp3, rfl, -⟩ := Rd.of_owns ho3
  clear ho3 hb3
  go_wp2_with fail
  refine (K1.out _ _ HS3.out).mono ?_
  rintro en w4 ⟨rfl, hb4⟩
  have HA4 := Lib.hid (RdNd.below HA3.out hb4)
  have HS4 := Lib.hid (RdNd.below HS3.out hb4)
  have HB4 := Lib.hid (HB3.out.trans (hb4.mono HB3.out.size))
  clear hb4
  go_wp2_with fail
  refine (K2.out _ _ HA4.out).mono ?_
  rintro en w5 ⟨rfl, hb5⟩
  have HA5 := Lib.hid (RdNd.below HA4.out hb5)
  have HS5 := Lib.hid (RdNd.below HS4.out hb5)
  have HB5 := Lib.hid (HB4.out.trans (hb5.mono HB4.out.size))
  clear hb5
  go_wp2_with fail
  refine (HCN.out _ (RdNd.below HV.out HB5.out)).mono ?_
  rintro en w6 ⟨v6, rfl, ho6, hb6⟩
  have HO6 := Lib.hid (RdNd.of_own ho6)
  have HA6 := Lib.hid (RdNd.below HA5.out hb6)
  have HS6 := Lib.hid (RdNd.below HS5.out hb6)
  have HB6 := Lib.hid (HB5.out.trans (hb6.mono HB5.out.size))
  clear ho6 hb6
  go_wp2_with fail
  refine (K3.out _ _ HO6.out).mono ?_
  rintro en w7 ⟨rfl, hb7⟩
  have HA7 := Lib.hid (RdNd.below HA6.out hb7)
  have HS7 := Lib.hid (RdNd.below HS6.out hb7)
  have HB7 := Lib.hid (HB6.out.trans (hb7.mono HB6.out.size))
  clear hb7
  go_wp2_with fail
  refine (HCM.out _ (RdNd.below HVm.out HB7.out)).mono ?_
  rintro en w8 ⟨v8, rfl, ho8, hb8⟩
  have HO8 := Lib.hid (RdNd.of_own ho8)
  have HA8 := Lib.hid (RdNd.below HA7.out hb8)
  have HS8 := Lib.hid (RdNd.below HS7.out hb8)
  have HB8 := Lib.hid (HB7.out.trans (hb8.mono HB7.out.size))
  clear ho8 hb8
  go_wp2_with fail
  refine (K4.out _ _ HO8.out).mono ?_
  rintro en w9 ⟨rfl, hb9⟩
  have HA9 := Lib.hid (RdNd.below HA8.out hb9)
  have HS9 := Lib.hid (RdNd.below HS8.out hb9)
  have HB9 := Lib.hid (HB8.out.trans (hb9.mono HB8.out.size))
  clear hb9
  go_wp2_with fail
  go_ret
  exact ⟨rfl, HB9.out⟩
end Go.Proofs.Ytbpipnjdfmpbdaa
namespace Go.Proofs.Ytbpipnjdfmpbdaa
open Go.RowKit Go.Shelf

set_option maxRecDepth 100000 in
set_option maxHeartbeats 25600000 in
theorem regexSplits_good (v : Value) (N : List Nd) (vm : Value) (M : List Nd) (vw : Value) (W : List ByteArray) (w : World) (h : RdNd w v N) (hl : N.length ≤ 1048576) (hM : RdNd w vm M) (hml : M.length ≤ 1048576) (hW : RdW w vw W) (hWl : W.length ≤ 1048576) (hE1 : ChkS (pairN 4 N M) 0) (hE2 : ChkS (pairN 5 N M) 0) (hE3 : ChkS N 0) (hE4 : ChkS M 0) (hw : ¬ 64 < W.length) :
    Calls Try.prog 13 #[v, vm, vw] w fun e w' => e = .returned (.bool true) ∧ Below w.heap.size w w' := by
  have hpl : ∀ q, (pairN q N M).length ≤ 4398046511104 := fun q => by unfold pairN; simp; omega
  have HP := Lib.hid (fun q w h hM => rPair_any q v vm N M w h hM (by omega))
  have HCN := Lib.hid (fun w h => rCopy_any v N w h (by omega))
  have HCM := Lib.hid (fun w h => rCopy_any vm M w h (by omega))
  have K1 := Lib.hid (fun v w h => xCheck_any v (pairN 4 N M) 0 w h hE1 (hpl 4))
  have K2 := Lib.hid (fun v w h => xCheck_any v (pairN 5 N M) 0 w h hE2 (hpl 5))
  have K3 := Lib.hid (fun v w h => xCheck_any v N 0 w h hE3 (by omega))
  have K4 := Lib.hid (fun v w h => xCheck_any v M 0 w h hE4 (by omega))
  have HV := Lib.hid h
  have HVm := Lib.hid hM
  have HU := Lib.hid hW
  obtain ⟨_, ao, cap, rfl, -⟩ := id h
  obtain ⟨_, am, cm, rfl, -⟩ := id hM
  obtain ⟨_, aw, cw, rfl, hcw, hcm, -⟩ := id hW
  have HE1 := Lib.hid hE1
  have HE2 := Lib.hid hE2
  have HE3 := Lib.hid hE3
  have HE4 := Lib.hid hE4
  have HPl := Lib.hid hpl
  clear h hM hW hE1 hE2 hE3 hE4 hpl
  obtain ⟨x, k, hGN, -⟩ := chk_good HE3.out
  obtain ⟨y, j, hGM, -⟩ := chk_good HE4.out
  have hw64 : W.length ≤ 64 := by omega
  have HOne : Hid (∀ i, i ≤ W.length → ∃ ok, MtS N (W.take i) ok 0 ∧ (ok = true ↔ spN W x (k.sp W) 0 i)) := fun i hi => by
    have hti : (W.take i).length = i := by rw [List.length_take]; omega
    obtain ⟨ok, h1, h2⟩ := ms_one (W.take i) hGN HE3.out (by omega)
    rw [hti, sp_take] at h2
    exact ⟨ok, h1, h2⟩
  have HTwo : Hid (∀ i, i ≤ W.length → ∃ ok, MtS M (W.drop i) ok 0 ∧ (ok = true ↔ spN W y (j.sp W) i W.length)) := fun i hi => by
    have hti : (W.drop i).length = W.length - i := by rw [List.length_drop]
    obtain ⟨ok, h1, h2⟩ := ms_one (W.drop i) hGM HE4.out (by omega)
    rw [hti, sp_drop, show W.length - i + i = W.length from by omega] at h2
    exact ⟨ok, h1, h2⟩
  obtain ⟨k1, hm1, hk1⟩ := ms_one W hGN HE3.out hw64
  obtain ⟨k2, hm2, hk2⟩ := ms_one W hGM HE4.out hw64
  obtain ⟨k3, hm3, hk3⟩ := ms_one W (pair_good 4 (.inl rfl) hGN hGM) HE1.out hw64
  obtain ⟨k4, hm4, hk4⟩ := ms_one W (pair_good 5 (.inr rfl) hGN hGM) HE2.out hw64
  rw [pair_seq] at hk3
  rw [pair_alt] at hk4
  have HBdx := Lib.hid (bd_one W x k)
  have HX := Lib.hid (fun vw W' ok w h hW hS => xMatch_any (.slice ao N.length cap) vw N W' ok 0 w h hW hS (by omega))
  have HY := Lib.hid (fun vw W' ok w h hW hS => xMatch_any (.slice am M.length cm) vw M W' ok 0 w h hW hS (by omega))
  have HZ := Lib.hid (fun v w h hW => xMatch_any v (.slice aw W.length cw) (pairN 4 N M) W k3 0 w h hW hm3 (HPl.out 4))
  have HZ2 := Lib.hid (fun v w h hW => xMatch_any v (.slice aw W.length cw) (pairN 5 N M) W k4 0 w h hW hm4 (HPl.out 5))
  have HM1 := Lib.hid hm1
  have HM2 := Lib.hid hm2
  have HK1 := Lib.hid hk1
  have HK2 := Lib.hid hk2
  have HK3 := Lib.hid hk3
  have HK4 := Lib.hid hk4
  clear hm1 hm2 hm3 hm4 hk1 hk2 hk3 hk4 hGN hGM
  go_enter Try.func13, Try.ntmps13
  go_wp2_with fail
  refine (head_any _).mono ?_
  rintro en w1 ⟨rfl, hb1⟩
  have HB1 := Lib.hid hb1
  clear hb1
  go_wp2_with fail
  refine (HP.out 4 _ (RdNd.below HV.out HB1.out) (RdNd.below HVm.out HB1.out)).mono ?_
  rintro en w2 ⟨v2, rfl, ho2, hb2⟩
  have HS2 := Lib.hid (RdNd.of_own ho2)
  have HB2 := Lib.hid (HB1.out.trans (hb2.mono HB1.out.size))
  obtain ⟨_, ao2, cp2, rfl, -⟩ := Rd.of_owns ho2
  clear ho2 hb2
  go_wp2_with fail
  refine (HP.out 5 _ (RdNd.below HV.out HB2.out) (RdNd.below HVm.out HB2.out)).mono ?_
  rintro en w3 ⟨v3, rfl, ho3, hb3⟩
  have HA3 := Lib.hid (RdNd.of_own ho3)
  have HS3 := Lib.hid (RdNd.below HS2.out hb3)
  have HB3 := Lib.hid (HB2.out.trans (hb3.mono HB2.out.size))
  obtain ⟨_, ao3, cp3, rfl, -⟩ := Rd.of_owns ho3
  clear ho3 hb3
  go_wp2_with fail
  refine (K1.out _ _ HS3.out).mono ?_
  rintro en w4 ⟨rfl, hb4⟩
  have HA4 := Lib.hid (RdNd.below HA3.out hb4)
  have HS4 := Lib.hid (RdNd.below HS3.out hb4)
  have HB4 := Lib.hid (HB3.out.trans (hb4.mono HB3.out.size))
  clear hb4
  go_wp2_with fail
  refine (K2.out _ _ HA4.out).mono ?_
  rintro en w5 ⟨rfl, hb5⟩
  have HA5 := Lib.hid (RdNd.below HA4.out hb5)
  have HS5 := Lib.hid (RdNd.below HS4.out hb5)
  have HB5 := Lib.hid (HB4.out.trans (hb5.mono HB4.out.size))
  clear hb5
  go_wp2_with fail
  refine (HCN.out _ (RdNd.below HV.out HB5.out)).mono ?_
  rintro en w6 ⟨v6, rfl, ho6, hb6⟩
  have HO6 := Lib.hid (RdNd.of_own ho6)
  have HA6 := Lib.hid (RdNd.below HA5.out hb6)
  have HS6 := Lib.hid (RdNd.below HS5.out hb6)
  have HB6 := Lib.hid (HB5.out.trans (hb6.mono HB5.out.size))
  clear ho6 hb6
  go_wp2_with fail
  refine (K3.out _ _ HO6.out).mono ?_
  rintro en w7 ⟨rfl, hb7⟩
  have HA7 := Lib.hid (RdNd.below HA6.out hb7)
  have HS7 := Lib.hid (RdNd.below HS6.out hb7)
  have HB7 := Lib.hid (HB6.out.trans (hb7.mono HB6.out.size))
  clear hb7
  go_wp2_with fail
  refine (HCM.out _ (RdNd.below HVm.out HB7.out)).mono ?_
  rintro en w8 ⟨v8, rfl, ho8, hb8⟩
  have HO8 := Lib.hid (RdNd.of_own ho8)
  have HA8 := Lib.hid (RdNd.below HA7.out hb8)
  have HS8 := Lib.hid (RdNd.below HS7.out hb8)
  have HB8 := Lib.hid (HB7.out.trans (hb8.mono HB7.out.size))
  clear ho8 hb8
  go_wp2_with fail
  refine (K4.out _ _ HO8.out).mono ?_
  rintro en w9 ⟨rfl, hb9⟩
  have HA9 := Lib.hid (RdNd.below HA8.out hb9)
  have HS9 := Lib.hid (RdNd.below HS8.out hb9)
  have HB9 := Lib.hid (HB8.out.trans (hb9.mono HB8.out.size))
  clear hb9
  go_wp2_with fail
  clear K1 K2 K3 K4 HP HCN HCM HE1 HE2 HE3 HE4 HS2 HB1 HB2 HA3 HS3 HB3 HA4 HS4 HB4 HA5 HS5 HB5 HO6 HA6 HS6 HB6 HA7 HS7 HB7 HO8 HA8 HS8 HB8
  go_loopw [9, 10] (fun c i wr => ∃ (i' : Nat) (c' : Bool), i = .int .i64 i' ∧ i' ≤ W.length + 1 ∧ c = .bool c' ∧ Hid (c' = true ↔ ∃ q, q < i' ∧ spN W x (k.sp W) 0 q ∧ spN W y (j.sp W) q W.length) ∧ Hid (Below w9.heap.size w9 wr)) (fun _ i _ => W.length + 1 - (intOf i).toNat)
  case atStart => exact ⟨0, false, rfl, Nat.zero_le _, rfl, ⟨fun h => (by cases h), fun ⟨q, h, _⟩ => by omega⟩, Below.refl _ _⟩
  case round =>
    obtain ⟨i, c, rfl, hi, rfl, HC, HBel9⟩ := hrel
    have HBel : Hid (Below w.heap.size w wr) := HB9.out.trans (HBel9.out.mono HB9.out.size)
    by_cases hlt : i ≤ W.length
    · obtain ⟨ok1, hm1, hk1⟩ := HOne.out i hlt
      obtain ⟨ok2, hm2, hk2⟩ := HTwo.out i hlt
      have HX1 := Lib.hid (fun vw w h hW => HX.out vw (W.take i) ok1 w h hW hm1)
      have HY1 := Lib.hid (fun vw w h hW => HY.out vw (W.drop i) ok2 w h hW hm2)
      have HC2 : Hid ((c || ok1 && ok2) = true ↔ ∃ q, q < i + 1 ∧ spN W x (k.sp W) 0 q ∧ spN W y (j.sp W) q W.length) := by
        unfold Hid
        rw [Bool.or_eq_true, Bool.and_eq_true, HC.out, hk1, hk2]
        constructor
        · rintro (⟨q, h1, h2⟩ | h)
          · exact ⟨q, by omega, h2⟩
          · exact ⟨i, by omega, h⟩
        · rintro ⟨q, h1, h2⟩
          by_cases hq : q = i
          · subst hq; exact .inr h2
          · exact .inl ⟨q, by omega, h2⟩
      clear hm1 hk1 hm2 hk2
      clear HOne HTwo HX HY HZ HZ2 HM1 HM2 HK1 HK2 HK3 HK4 HBdx HS9 HA9 HC
      go_wp2_with fail
      refine (HX1.out _ _ (RdNd.below HV.out HBel.out) (rdW_take (RdW.below HU.out HBel.out) rfl hlt cw (by omega) hcm)).mono ?_
      rintro en w10 ⟨rfl, hb10⟩
      have HB10 : Hid (Below w.heap.size w w10) := HBel.out.trans (hb10.mono HBel.out.size)
      have HB90 : Hid (Below w9.heap.size w9 w10) := HBel9.out.trans (hb10.mono HBel9.out.size)
      clear hb10
      go_wp2_with fail
      · refine (HY1.out _ _ (RdNd.below HVm.out HB10.out) (rdW_nil (List.length_eq_zero_iff.1 (by rw [List.length_drop]; omega)) (by omega) (by omega))).mono ?_
        rintro en w11 ⟨rfl, hb11⟩
        have HB91 : Hid (Below w9.heap.size w9 w11) := HB90.out.trans (hb11.mono HB90.out.size)
        clear hb11 HB10 HB90 HY1 HBel
        have hci : cw = i := by assumption
        subst hci
        cases c <;> cases ok1 <;> cases ok2
        all_goals
          go_wp2_with fail
          go_roundw
          case rel => exact ⟨cw + 1, _, by go_num, by omega, rfl, HC2.out, HB91.out⟩
          case measure => simp [intOf]; omega
      · refine (HY1.out _ _ (RdNd.below HVm.out HB10.out) (rdW_from (RdW.below HU.out HB10.out) rfl hlt hcw hcm)).mono ?_
        rintro en w11 ⟨rfl, hb11⟩
        have HB91 : Hid (Below w9.heap.size w9 w11) := HB90.out.trans (hb11.mono HB90.out.size)
        clear hb11 HB10 HB90 HY1 HBel
        cases c <;> cases ok1 <;> cases ok2
        all_goals
          go_wp2_with fail
          go_roundw
          case rel => exact ⟨i + 1, _, by go_num, by omega, rfl, HC2.out, HB91.out⟩
          case measure => simp [intOf]; omega
    · obtain rfl : i = W.length + 1 := by omega
      go_wp2_with fail
      refine (HX.out _ W k1 _ (RdNd.below HV.out HBel.out) (RdW.below HU.out HBel.out) HM1.out).mono ?_
      rintro en w10 ⟨rfl, hb10⟩
      have HB10 : Hid (Below w.heap.size w w10) := HBel.out.trans (hb10.mono HBel.out.size)
      have HB90 : Hid (Below w9.heap.size w9 w10) := HBel9.out.trans (hb10.mono HBel9.out.size)
      clear hb10
      go_wp2_with fail
      refine (HY.out _ W k2 _ (RdNd.below HVm.out HB10.out) (RdW.below HU.out HB10.out) HM2.out).mono ?_
      rintro en w11 ⟨rfl, hb11⟩
      have HB11 : Hid (Below w.heap.size w w11) := HB10.out.trans (hb11.mono HB10.out.size)
      have HB91 : Hid (Below w9.heap.size w9 w11) := HB90.out.trans (hb11.mono HB90.out.size)
      clear hb11
      go_wp2_with fail
      refine (HZ.out _ _ (RdNd.below HS9.out HB91.out) (RdW.below HU.out HB11.out)).mono ?_
      rintro en w12 ⟨rfl, hb12⟩
      have HB12 : Hid (Below w.heap.size w w12) := HB11.out.trans (hb12.mono HB11.out.size)
      have HB92 : Hid (Below w9.heap.size w9 w12) := HB91.out.trans (hb12.mono HB91.out.size)
      clear hb12
      go_wp2_with fail
      refine (HZ2.out _ _ (RdNd.below HA9.out HB92.out) (RdW.below HU.out HB12.out)).mono ?_
      rintro en w13 ⟨rfl, hb13⟩
      have HB13 : Hid (Below w.heap.size w w13) := HB12.out.trans (hb13.mono HB12.out.size)
      clear hb13
      have E3 : Hid (k3 = c) := by
        unfold Hid
        rw [Bool.eq_iff_iff, HK3.out, HC.out]
        constructor
        · rintro ⟨q, h1, h2⟩
          exact ⟨q, HBdx.out 0 q (by omega) h1, h1, h2⟩
        · rintro ⟨q, _, h⟩; exact ⟨q, h⟩
      have E4 : Hid (k4 = (k1 || k2)) := by
        unfold Hid
        rw [Bool.eq_iff_iff, HK4.out, Bool.or_eq_true, HK1.out, HK2.out]
      have e3 := E3.out
      have e4 := E4.out
      subst e3
      subst e4
      clear E3 E4 HK4 HK1 HK2 HK3 HC HZ2 HZ HX HY HM1 HM2
      cases k1 <;> cases k2
      all_goals
        go_wp2_with fail
        go_ret
        exact ⟨by simp, HB13.out⟩

theorem regexSplits_any (v : Value) (N : List Nd) (vm : Value) (M : List Nd) (vw : Value) (W : List ByteArray) (w : World) (h : RdNd w v N) (hl : N.length ≤ 1048576) (hM : RdNd w vm M) (hml : M.length ≤ 1048576) (hW : RdW w vw W) (hWl : W.length ≤ 1048576) :
    Calls Try.prog 13 #[v, vm, vw] w fun e w' => e = .returned (.bool true) ∧ Below w.heap.size w w' := by
  obtain ⟨e1, hE1⟩ := chkS_ex (pairN 4 N M)
  obtain ⟨e2, hE2⟩ := chkS_ex (pairN 5 N M)
  obtain ⟨e3, hE3⟩ := chkS_ex N
  obtain ⟨e4, hE4⟩ := chkS_ex M
  by_cases hcase : (e1 != 0) = true ∨ (e1 = 0 ∧ (e2 != 0) = true) ∨ (e1 = 0 ∧ e2 = 0 ∧ (e3 != 0) = true) ∨ (e1 = 0 ∧ e2 = 0 ∧ e3 = 0 ∧ (e4 != 0) = true)
  · exact regexSplits_bad v N vm M vw W w h hl hM hml hW e1 e2 e3 e4 hE1 hE2 hE3 hE4 hcase
  · simp only [bne_iff_ne, ne_eq] at hcase
    obtain ⟨rfl, rfl, rfl, rfl⟩ : e1 = 0 ∧ e2 = 0 ∧ e3 = 0 ∧ e4 = 0 := by omega
    by_cases hw : 64 < W.length
    · exact regexSplits_long v N vm M vw W w h hl hM hml hW hWl hE1 hE2 hE3 hE4 hw
    · exact regexSplits_good v N vm M vw W w h hl hM hml hW hWl hE1 hE2 hE3 hE4 hw
end Go.Proofs.Ytbpipnjdfmpbdaa
