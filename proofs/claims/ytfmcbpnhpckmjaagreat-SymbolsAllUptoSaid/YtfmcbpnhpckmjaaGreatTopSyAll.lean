/- PROVED: SymbolsAll returns true whatever its arguments; each argument reads behind the call as it read before. CONDITION: the arguments' bulk is at most 1048576 (the second form). -/
import Derived.Test.YtfmcbpnhpckmjaaGreatPk4
import Derived.Test.YtfmcbpnhpckmjaaGreatRows
import Derived.Carry
import Derived.ProofKit
import Derived.OpenShut
import Derived.ShutString
import Derived.JoinedCond
namespace Go.Proofs.YtfmcbpnhpckmjaaGreat
open Go.RowKit Go.Shelf
attribute [local go_sem] Oper.semAt_some

/-! ### plain: the symbols in their order -/
def enF (lb : Bool) : List ByteArray → Nat → List ((Bool × Nat) × ByteArray)
  | [], _ => []
  | x :: l, i => ((lb, i), x) :: enF lb l (i + 1)
theorem enF_len (lb : Bool) : ∀ (l : List ByteArray) (i : Nat), (enF lb l i).length = l.length
  | [], _ => rfl
  | _ :: l, i => by simp [enF, enF_len lb l (i + 1)]
theorem enF_at (lb : Bool) : ∀ (l : List ByteArray) (i j : Nat) (m : (Bool × Nat) × ByteArray), (enF lb l i)[j]? = some m → l[j]? = some m.2 ∧ m.1 = (lb, i + j)
  | [], _, _, m, h => by simp [enF] at h
  | x :: l, i, 0, m, h => by
    simp only [enF, List.getElem?_cons_zero, Option.some.injEq] at h
    subst h; simp
  | x :: l, i, j + 1, m, h => by
    simp only [enF, List.getElem?_cons_succ] at h
    obtain ⟨h1, h2⟩ := enF_at lb l (i + 1) j m h
    exact ⟨by rw [List.getElem?_cons_succ]; exact h1, by rw [h2]; congr 1; omega⟩
theorem enF_drop (lb : Bool) {l : List ByteArray} {k : Nat} {x : ByteArray} (h : l[k]? = some x) : enF lb (l.drop k) k = ((lb, k), x) :: enF lb (l.drop (k + 1)) (k + 1) := by
  obtain ⟨h1, h2⟩ := List.getElem?_eq_some_iff.1 h
  rw [List.drop_eq_getElem_cons h1, h2]; rfl
def enA (A C : List ByteArray) : List ((Bool × Nat) × ByteArray) := enF false A 0 ++ enF true C 0
theorem enA_len (A C : List ByteArray) : (enA A C).length = A.length + C.length := by unfold enA; rw [List.length_append, enF_len, enF_len]
theorem enA_at {A C : List ByteArray} {j : Nat} {m : (Bool × Nat) × ByteArray} (h : (enA A C)[j]? = some m) :
    (A ++ C)[j]? = some m.2 ∧ ((j < A.length ∧ m.1 = (false, j)) ∨ (A.length ≤ j ∧ m.1 = (true, j - A.length))) := by
  unfold enA at h
  rcases Nat.lt_or_ge j A.length with h1 | h1
  · rw [List.getElem?_append_left (by rw [enF_len]; exact h1)] at h
    obtain ⟨h2, h3⟩ := enF_at _ _ _ _ _ h
    exact ⟨by rw [List.getElem?_append_left h1]; exact h2, .inl ⟨h1, by rw [h3, Nat.zero_add]⟩⟩
  · rw [List.getElem?_append_right (by rw [enF_len]; exact h1), enF_len] at h
    obtain ⟨h2, h3⟩ := enF_at _ _ _ _ _ h
    exact ⟨by rw [List.getElem?_append_right h1]; exact h2, .inr ⟨h1, by rw [h3, Nat.zero_add]⟩⟩
def encY (x : (Bool × Nat) × ByteArray) : Array Value := #[.agg #[.bool x.1.1, .int .i64 (x.1.2 : Nat)], .string x.2]
/-! ### blocks that lie as they lay -/
structure KpL (L : List Nat) (W W' : World) : Prop where
  size : W.heap.size ≤ W'.heap.size
  row : ∀ g ∈ L, W'.heap[g]? = W.heap[g]?
theorem KpL.refl (L : List Nat) (W : World) : KpL L W W := ⟨Nat.le_refl _, fun _ _ => rfl⟩
theorem KpL.trans {L : List Nat} {A B C : World} (h : KpL L A B) (k : KpL L B C) : KpL L A C := ⟨Nat.le_trans h.size k.size, fun g hg => (k.row g hg).trans (h.row g hg)⟩
theorem KpL.of_below {L : List Nat} {A B : World} (h : Below A.heap.size A B) (hL : ∀ g ∈ L, g < A.heap.size) : KpL L A B := ⟨h.size, fun g hg => h.block g (hL g hg)⟩
theorem KpL.putObj {L : List Nat} {w : World} (hL : ∀ g ∈ L, g < w.heap.size) (W : World) (l : Nat) (o o' : Obj) (hl : w.heap.size ≤ l) (_ : W.heap[l]? = some o) (_ : o.isCells = false) (_ : o.isWalk = false) : KpL L W (W.putObj l o') :=
  ⟨by simp, fun g hg => World.putObj_heap_other (by have := hL g hg; omega)⟩
theorem KpL.setBox {L : List Nat} {W : World} {B o : Nat} (hL : ∀ g ∈ L, g ≠ B) (u : Value) : KpL L W (W.setCell ⟨B, o, none⟩ u) :=
  ⟨by simp [World.setCell], fun g hg => Below.heap_setCell W ⟨B, o, none⟩ u g (hL g hg)⟩
/-- the table, as the iterator reads it -/
structure TbA (W : World) (Bt tb : Nat) (v1 v2 : Value) (A C : List ByteArray) : Prop where
  box : Boxed W Bt 23 (.pointer (some ⟨tb, 0, none⟩))
  tab : ∃ b, W.heap[tb]? = some (.cells #[v1, v2, .map (some b)] 76 (0, 0))
  r1 : OwnStr W 0 v1 A
  r2 : OwnStr W 0 v2 C
def tbL (Bt tb : Nat) (v1 v2 : Value) : List Nat := Bt :: tb :: (v1.ownBlock.toList ++ v2.ownBlock.toList)
theorem own_kept {w w' : World} {B : Nat} {e : TypeId} {size : Nat} {v : Value} {n : Nat} {xs : List Value} (h : w.ownsRow B e size v n xs) (hk : ∀ g, v.ownBlock = some g → w'.heap[g]? = w.heap[g]?) : w'.ownsRow B e size v n xs := by
  refine ⟨h.1, ?_⟩
  rcases h.2 with h1 | ⟨g, cap, cur, h2, h3, h4, h5⟩
  · exact .inl h1
  · exact .inr ⟨g, cap, cur, h2, h3, (hk g (by rw [h2]; rfl)).trans h4, h5⟩
theorem TbA.kept {W W' : World} {Bt tb : Nat} {v1 v2 : Value} {A C : List ByteArray} (h : TbA W Bt tb v1 v2 A C) (k : KpL (tbL Bt tb v1 v2) W W') : TbA W' Bt tb v1 v2 A C := by
  obtain ⟨b, hb⟩ := h.tab
  refine ⟨(k.row Bt (by simp [tbL])).trans h.box, ⟨b, (k.row tb (by simp [tbL])).trans hb⟩, own_kept h.r1 (fun g hg => k.row g (by simp [tbL, hg])), own_kept h.r2 (fun g hg => k.row g (by simp [tbL, hg]))⟩
theorem TbA.lt {W : World} {Bt tb : Nat} {v1 v2 : Value} {A C : List ByteArray} (h : TbA W Bt tb v1 v2 A C) : ∀ g ∈ tbL Bt tb v1 v2, g < W.heap.size := by
  intro g hg
  obtain ⟨b, hb⟩ := h.tab
  simp only [tbL, List.mem_cons, List.mem_append, Option.mem_toList] at hg
  rcases hg with rfl | rfl | hg | hg
  · exact h.box.lt
  · exact (Array.getElem?_eq_some_iff.1 hb).1
  · exact (h.r1.lt g hg).2
  · exact (h.r2.lt g hg).2
theorem rdRu_shapeM {w : World} {v : Value} {G : List Ru} (h : RdRu w v G) : ∃ a c, v = .slice a G.length c := by
  obtain ⟨P, rfl, hR⟩ := h
  obtain ⟨⟨_, ao, cap, rfl, -⟩, -⟩ := hR
  exact ⟨ao, cap, by rw [List.length_map]⟩
theorem xThere_cell {w : World} {tb b : Nat} (t2 : w.cell? ⟨tb, 2, none⟩ = some (.map (some b))) : Calls Tryz.prog 31 #[.pointer (some ⟨tb, 0, none⟩)] w fun e w' => e = .returned (.bool true) ∧ w = w' := by
  have hq := fun (w : World) => run_neq_map_nil (P := Tryz.prog) w 74 _ _ (some b) Tryz.underlying74
  go_enter Tryz.func31, Tryz.ntmps31
  go_wp2_with fail
  go_ret
  exact ⟨rfl, rfl⟩

set_option maxRecDepth 100000 in
set_option maxHeartbeats 3200000 in
theorem symAll1_in (n : Nat) (hn : 4 ≤ n) (l Bt tb : Nat) (v1 v2 : Value) (A C : List ByteArray) (hA : A.length ≤ 1048576) (hC : C.length ≤ 1048576) (J Jx : List ((Bool × Nat) × ByteArray) → World → Prop) (B0 : Nat)
    (hY : ∀ pre x W, J pre W → pre.length < (enA A C).length → YieldAt Fence.wide (n - 1) Tryz.prog l (encY x) W fun e W' =>
      (e = .returned (.bool true) ∧ J (pre ++ [x]) W' ∧ KpL (tbL Bt tb v1 v2) W W') ∨ (e = .returned (.bool false) ∧ Jx (pre ++ [x]) W'))
    (_ : AbidesFrom B0 J) (W : World) (_hB0 : B0 ≤ W.heap.size) (hT : TbA W Bt tb v1 v2 A C) (h0 : J [] W) :
    CallsIn Fence.wide n Tryz.prog 44 #[.func (.yield l) #[] #[], .pointer (some ⟨Bt, 0, none⟩)] W fun e W' => (∃ v, e = .returned v) ∧
      ((∃ ys, ys = enA A C ∧ J ys W') ∨ (∃ pre, (pre ≠ [] ∧ pre <+: enA A C) ∧ Jx pre W')) := by
  have HT := Lib.hid hT
  have HY := Lib.hid hY
  obtain ⟨_, ao, cap, rfl, -⟩ := Rd.of_owns hT.r1
  obtain ⟨_, bo, cbp, rfl, -⟩ := Rd.of_owns hT.r2
  obtain ⟨b, hb⟩ := hT.tab
  have c0 := hT.box.cell
  have t0 : W.cell? ⟨tb, 0, none⟩ = some (.slice ao A.length cap) := by simp [World.cell?, hb]
  have t2 : W.cell? ⟨tb, 2, none⟩ = some (.map (some b)) := by simp [World.cell?, hb]
  clear hT hb hY
  refine callsIn_of_wp Tryz.func44 rfl trivial ?_ rfl
  simp only [Tryz.ntmps44, List.size_toArray, List.length_cons, List.length_nil, Nat.reduceAdd, Nat.reduceSub, Array.replicate_succ, Array.replicate_zero, List.push_toArray, List.append_toArray, List.nil_append, List.cons_append]
  gi_wp2_with fail
  refine ⟨trivial, (by intro h; cases h), (callsIn_wide.2 (xThere_cell t2)).mono ?_⟩
  rintro e w1 ⟨rfl, rfl⟩
  gi_wp2_with fail
  have hlL := HT.out.lt
  have HLL := Lib.hid hlL
  clear hlL c0 t0 t2
  generalize hLL : tbL Bt tb (.slice ao A.length cap) (.slice bo C.length cbp) = LL at *
  have HE0 := Lib.hid hLL
  clear hLL
  have HT' : Hid (∀ wr, KpL LL W wr → TbA wr Bt tb (.slice ao A.length cap) (.slice bo C.length cbp) A C) := fun wr k => HT.out.kept (by rw [HE0.out]; exact k)
  clear HE0 HT
  gi_loopw [15] (fun i wr => ∃ (k : Nat) (pre : List ((Bool × Nat) × ByteArray)), i = .int .i64 k ∧ k ≤ A.length ∧ Hid (enA A C = pre ++ (enF false (A.drop k) k ++ enF true C 0)) ∧ J pre wr ∧ Hid (KpL LL W wr))
    (fun i _ => A.length - (intOf i).toNat)
  case atStart => exact ⟨0, [], rfl, by omega, rfl, h0, KpL.refl _ _⟩
  case round =>
    clear h0
    obtain ⟨k, pre, rfl, hk, HC, hJs, HKp⟩ := hrel
    have HTr := Lib.hid (HT'.out _ HKp.out)
    by_cases hlt : k < A.length
    · obtain ⟨x, hx⟩ : ∃ x, A[k]? = some x := ⟨_, List.getElem?_eq_getElem hlt⟩
      obtain ⟨b1, off, cp, e1, hbk, hcp, x0⟩ := RdS.at (RdS.of_own HTr.out.r1) hx
      simp only [Value.slice.injEq] at e1
      obtain ⟨rfl, -, rfl⟩ := e1
      have HD := Lib.hid (enF_drop false hx)
      have hlen : pre.length < (enA A C).length := by rw [HC.out, HD.out]; simp
      obtain ⟨fn, tmps, assign, body, hy, hR⟩ := HY.out pre ((false, k), x) _ hJs hlen
      have HR := Lib.hid hR
      clear hR hJs hlen hx
      dsimp only [encY] at hy
      gi_wp2
      refine ⟨fun _ => by omega, HR.out.mono ?_⟩
      rintro e W3 (⟨rfl, hJ3, hk3⟩ | ⟨rfl, hJx3⟩)
      · have HK3 := Lib.hid (HKp.out.trans hk3)
        clear hk3
        gi_wp2
        go_roundw
        case rel => exact ⟨k + 1, pre ++ [((false, k), x)], by go_num, by omega, by unfold Hid; rw [HC.out, HD.out]; simp, hJ3, HK3.out⟩
        case measure => simp [intOf]; omega
      · gi_wp2
        refine bodyPost_ret (results_none rfl _ _ _) rfl ?_
        exact ⟨⟨_, rfl⟩, .inr ⟨pre ++ [((false, k), x)], ⟨by simp, by rw [HC.out, HD.out]; exact ⟨_, by rw [List.append_assoc]; rfl⟩⟩, hJx3⟩⟩
    · obtain rfl : k = A.length := by omega
      have HE : Hid (enA A C = pre ++ (enF true (C.drop 0) 0)) := by unfold Hid; rw [HC.out, List.drop_eq_nil_of_le (Nat.le_refl _)]; simp [enF]
      obtain ⟨b2, hb2⟩ := HTr.out.tab
      have c0 := HTr.out.box.cell
      have t1 : wr.cell? ⟨tb, 1, none⟩ = some (.slice bo C.length cbp) := by simp [World.cell?, hb2]
      clear hb2 HC
      gi_wp2
      clear c0 t1
      gi_loopw [32] (fun i wr => ∃ (k : Nat) (pre : List ((Bool × Nat) × ByteArray)), i = .int .i64 k ∧ k ≤ C.length ∧ Hid (enA A C = pre ++ (enF true (C.drop k) k)) ∧ J pre wr ∧ Hid (KpL LL W wr))
        (fun i _ => C.length - (intOf i).toNat)
      case atStart => exact ⟨0, pre, rfl, by omega, HE.out, hJs, HKp.out⟩
      case round =>
        clear hJs HKp HTr HE
        obtain ⟨k, pre, rfl, hk, HC, hJs, HKp⟩ := hrel
        have HTr := Lib.hid (HT'.out _ HKp.out)
        by_cases hlt : k < C.length
        · obtain ⟨x, hx⟩ : ∃ x, C[k]? = some x := ⟨_, List.getElem?_eq_getElem hlt⟩
          obtain ⟨b1, off, cp, e1, hbk, hcp, x0⟩ := RdS.at (RdS.of_own HTr.out.r2) hx
          simp only [Value.slice.injEq] at e1
          obtain ⟨rfl, -, rfl⟩ := e1
          have HD := Lib.hid (enF_drop true hx)
          have hlen : pre.length < (enA A C).length := by rw [HC.out, HD.out]; simp
          obtain ⟨fn, tmps, assign, body, hy, hR⟩ := HY.out pre ((true, k), x) _ hJs hlen
          have HR := Lib.hid hR
          clear hR hJs hlen hx
          dsimp only [encY] at hy
          gi_wp2
          refine ⟨fun _ => by omega, HR.out.mono ?_⟩
          rintro e W3 (⟨rfl, hJ3, hk3⟩ | ⟨rfl, hJx3⟩)
          · have HK3 := Lib.hid (HKp.out.trans hk3)
            clear hk3
            gi_wp2
            go_roundw
            case rel => exact ⟨k + 1, pre ++ [((true, k), x)], by go_num, by omega, by unfold Hid; rw [HC.out, HD.out]; simp, hJ3, HK3.out⟩
            case measure => simp [intOf]; omega
          · gi_wp2
            refine bodyPost_ret (results_none rfl _ _ _) rfl ?_
            exact ⟨⟨_, rfl⟩, .inr ⟨pre ++ [((true, k), x)], ⟨by simp, by rw [HC.out, HD.out]; exact ⟨_, by rw [List.append_assoc]; rfl⟩⟩, hJx3⟩⟩
        · obtain rfl : k = C.length := by omega
          have HE2 : Hid (enA A C = pre) := by unfold Hid; rw [HC.out, List.drop_eq_nil_of_le (Nat.le_refl _)]; simp [enF]
          gi_wp2
          refine bodyPost_end (results_none rfl _ _ _) rfl ?_
          exact ⟨⟨_, rfl⟩, .inl ⟨pre, HE2.out.symm, hJs⟩⟩
theorem sym_stops (n : Nat) (hn : 4 ≤ n) (Bt tb : Nat) (v1 v2 : Value) (A C : List ByteArray) (hA : A.length ≤ 1048576) (hC : C.length ≤ 1048576) (w : World) (hT : TbA w Bt tb v1 v2 A C) :
    SeqStopsK Fence.wide n Tryz.prog 44 #[.pointer (some ⟨Bt, 0, none⟩)] encY (KpL (tbL Bt tb v1 v2)) (fun ys => ys = enA A C) (fun pre => pre ≠ [] ∧ pre <+: enA A C) (enA A C).length w :=
  fun l J Jx W hW hJ _ hY h0 => symAll1_in n hn l Bt tb v1 v2 A C hA hC J Jx W.heap.size hY hJ W (Nat.le_refl _) (hT.kept (KpL.of_below hW hT.lt)) h0
theorem xAll_any (tb : Nat) (w : World) : Calls Tryz.prog 18 #[.pointer (some ⟨tb, 0, none⟩)] w fun e w' => e = .returned (.func (.func 44) #[] #[.pointer (some ⟨w.heap.size, 0, none⟩)]) ∧ w' = w.alloc (.cells #[.pointer (some ⟨tb, 0, none⟩)] 23) := by
  go_enter Tryz.func18, Tryz.ntmps18
  go_wp2_with fail
  go_ret
  exact ⟨rfl, rfl⟩
/-- the fenced law: 'append(x, l...)' of a list that reads, to a row of the call's own -/
theorem wpListIn_appAll {F : Fence} {n' : Nat} {P : Program} {t e : TypeId} {size bytes : Nat} (hE : ElemOK P t e size bytes) {B : Nat} {wr : World} {ops : Array Oper} {rest : List Oper} {o : Oper} {a : Act} {Q : Exit → Act → World → Prop} (hgd : o.guard = none) (s x : Operand)
    (ho : o.op = .call { callee := .builtin .append, args := #[s, x], argTypes := #[t, t] })
    {v vx : Value} {n m : Nat} {xs ys : List Value} (hown : wr.ownsRow B e size v n xs) (hs : a.eval s = v) (hrd : Rd wr vx m size ys) (hx : a.eval x = vx) (h1 : ∀ u ∈ ys, u.oneCell' = true)
    (hm : n + m ≤ maxLen) (hn : (n + m) * bytes ≤ 140737488355328) (hB : B ≤ wr.heap.size)
    (h : ∀ v' w', w'.ownsRow B e size v' (n + m) (xs ++ ys) → wr.grownBy w' v.ownBlock → wpListIn F n' P ops Q rest (a.put o.dst v') w') :
    wpListIn F n' P ops Q (o :: rest) a wr := by
  obtain ⟨i, z, ht, hi, hz, hz1, hz2, hz3, hz4⟩ := hE.ex
  obtain ⟨v', w', hrun, r1, r2⟩ : ∃ v' w', (Builtin.append_ #[t, t] o.type #[v, vx]).run P wr = .ok v' w' ∧ w'.ownsRow B e size v' (n + m) (xs ++ ys) ∧ wr.grownBy w' v.ownBlock := by
    obtain ⟨hl, ao, cap, rfl, hmc, hcm, h5⟩ := hrd
    cases ao with
    | none =>
      have hm0 : m = 0 := by rcases h5 with h5 | ⟨_, _, h6, _⟩; exact h5; cases h6
      subst hm0
      obtain rfl : ys = [] := List.length_eq_zero_iff.1 (by rw [hl]; simp)
      obtain ⟨_, bo, bc, rfl, hnc, -⟩ := Rd.of_owns hown
      refine ⟨_, wr, run_append_nothing wr t t o.type e i ht hi bo n bc hnc _ (Src.ofNil wr ht cap), by simpa using hown, ⟨rfl, rfl, rfl, Nat.le_refl _, fun _ _ _ => rfl⟩⟩
    | some ad =>
      have hnews : ∀ j u, ys[j]? = some u → wr.cell? (ad.add j) = some u := by
        rcases h5 with h5 | ⟨b, off, h6, _, h8⟩
        · subst h5
          obtain rfl : ys = [] := List.length_eq_zero_iff.1 (by rw [hl]; simp)
          intro j u hj; simp at hj
        · cases h6
          intro j u hj
          rw [Addr.add_lit]; exact h8 j u hj
      obtain ⟨v', w', h6, h7, h8, _⟩ := run_append_own (P := P) wr B t o.type e i z size bytes ht hi hz hz1 hz2 hz3 hz4 v n xs hown ad m cap ys hl hnews h1 hm hn hB
      exact ⟨v', w', h6, h7, h8⟩
  refine wpListIn_plain hgd fun K hK' => ?_
  unfold Oper.wpIn
  refine ⟨?_, ?_⟩
  · simp [Oper.about, ho, resolve, Target.leads, Sem.run_pure]
  · rw [Oper.semAt_plain F _ _ (by rw [ho]; intro c hc'; cases hc')]
    simp [execOp, ho, resolve, invoke, builtin, hs, hx, hrun, Result.andThen]
    exact hK' _ _ (h v' w' r1 r2)
/-- a range over a function whose loop variables lie as T says, one of them in a box, laid anew each round; left by 'break' alone (or not at all) -/
theorem wpIn_rangeFunc_boxTB {F : Fence} {n : Nat} {P : Program} {α : Type} {g : Operand} {ps : Array Tmp} {assign body : Code} {id : Nat} {Q : Exit → Act → World → Prop} {a : Act} {w : World}
    (hro : F.round = none) (h1 : 1 ≤ n) {gf : Nat} {lb : Array Value} (hg : a.eval g = .func (.func gf) #[] lb) (hFg : F.fn gf) (eg : ∀ args w, (callFunc gf args).run P w = .ok (.enter gf args) w)
    {encs : α → Array Value} {Kp : World → World → Prop} {S Sp : List α → Prop} {N : Nat} {w0 : World} (hseq : SeqStopsK F (n - 1) P gf lb encs Kp S Sp N w0)
    (hKt : ∀ {A B C : World}, Kp A B → Kp B C → Kp A C) (hKb : ∀ (W : World) (l : Nat) (o o' : Obj), w.heap.size ≤ l → W.heap[l]? = some o → o.isCells = false → o.isWalk = false → Kp W (W.putObj l o')) (hb0 : Below w0.heap.size w0 w) (hps : ∀ x, (encs x).size = ps.size)
    (cellsOf : α → Array Value) (e : TypeId) (T : α → Nat → Array Value) (I : List α → World → Prop) (Ix : Code → List α → World → Prop) (J : World → Prop) (hI : OwnFrom w.heap.size I) (hIx : ∀ c, OwnFrom w.heap.size (Ix c)) (h0 : I [] w)
    (hle : ∀ pre W, I pre W → w.heap.size ≤ W.heap.size) (hKa : ∀ pre W o, I pre W → Kp W (W.alloc o))
    (hassign : ∀ (l : Nat) (x : α) (W : World) (K : Act → World → Prop), K { tmps := T x W.heap.size, defers := [] } (W.alloc (.cells (cellsOf x) e)) →
      assign.wpIn (F.inRound l) (n - 1 - 1) P (Exit.then K (fun _ _ _ => False)) { tmps := (ps.zip (encs x)).foldl (fun t (p, v) => t.setIfInBounds p v) a.tmps, defers := [] } W)
    (hbody : ∀ (l : Nat) (pre : List α) (x : α) (Bx : Nat) (W : World), I pre W → w.heap.size ≤ Bx → W.heap[Bx]? = some (.cells (cellsOf x) e (0, 0)) → pre.length < N →
      body.wpIn (F.inRound l) (n - 1 - 1) P (ownPostG w.heap.size Kp I Ix (pre ++ [x]) W) { tmps := T x Bx, defers := [] } W)
    (hdone : ∀ (xs : List α) (W : World), S xs → I xs W → J W)
    (hstop : ∀ (c : Code) (pre : List α) (W : World), Sp pre → Ix c pre W → c = .exit id ∧ J W)
    (hfin : ∀ (D : Nat) (W : World), w.heap.size ≤ D → J W → W.heap[D]? = some (.deferred (some [])) → Q .normal { a with defers := { target := .collected D, args := #[] } :: a.defers } W) :
    (Code.rangeFunc g ps assign body).wpIn F n P (Exit.inBlock id Q) a w := by
  refine wpIn_rangeFunc_ownH hro h1 hg hFg eg hseq hKt hKb hb0 hps I Ix hI hIx h0
    (fun x a' W => ∃ Bx, w.heap.size ≤ Bx ∧ W.heap[Bx]? = some (.cells (cellsOf x) e (0, 0)) ∧ a' = { tmps := T x Bx, defers := [] }) ?_ ?_ ?_ ?_ ?_
  · intro x a' _ X Y row h hg hr
    obtain ⟨Bx, k1, k2, k3⟩ := h
    refine ⟨Bx, k1, (hg.block Bx (Array.getElem?_eq_some_iff.1 k2).1 ?_).trans k2, k3⟩
    intro ee
    obtain ⟨_, o, ho, hc⟩ := hr Bx ee.symm
    rw [k2] at ho; cases ho; simp [Obj.isCells] at hc
  · intro l pre x W K hi hK
    refine hassign l x W K ?_
    exact hK _ _ ((KeepsOthers.alloc W _).from _) (hKa pre W _ hi) (hI.alloc _ hi) ⟨W.heap.size, hle pre W hi, World.alloc_heap_new W _, rfl⟩
  · rintro l pre x a' W _ _ hi ⟨Bx, k1, k2, rfl⟩ hlt
    exact hbody l pre x Bx W hi k1 k2 hlt
  · intro D xs W hD hS hi hK
    exact hfin D W hD (hdone xs W hS hi) hK
  · intro D c pre W hD hS hi hK
    obtain ⟨rfl, hj⟩ := hstop c pre W hS hi
    refine wpIn_exit ?_
    simp only [Exit.inBlock, if_true]
    exact hfin D W hD hj hK
/-- two loop variables: the first in a box (slot q), the second in slot q2 -/
theorem wpIn_rangeFunc_box2 {F : Fence} {n : Nat} {P : Program} {α : Type} {g : Operand} {p p2 q q2 : Tmp} {assign body : Code} {id : Nat} {Q : Exit → Act → World → Prop} {a : Act} {w : World}
    (hro : F.round = none) (h1 : 1 ≤ n) {gf : Nat} {lb : Array Value} (hg : a.eval g = .func (.func gf) #[] lb) (hFg : F.fn gf) (eg : ∀ args w, (callFunc gf args).run P w = .ok (.enter gf args) w)
    {enc1 enc2 : α → Value} {Kp : World → World → Prop} {S Sp : List α → Prop} {N : Nat} {w0 : World} (hseq : SeqStopsK F (n - 1) P gf lb (fun x => #[enc1 x, enc2 x]) Kp S Sp N w0)
    (hKt : ∀ {A B C : World}, Kp A B → Kp B C → Kp A C) (hKb : ∀ (W : World) (l : Nat) (o o' : Obj), w.heap.size ≤ l → W.heap[l]? = some o → o.isCells = false → o.isWalk = false → Kp W (W.putObj l o')) (hb0 : Below w0.heap.size w0 w)
    (cellsOf : α → Array Value) (e : TypeId) (I : List α → World → Prop) (Ix : Code → List α → World → Prop) (J : World → Prop) (hI : OwnFrom w.heap.size I) (hIx : ∀ c, OwnFrom w.heap.size (Ix c)) (h0 : I [] w)
    (hle : ∀ pre W, I pre W → w.heap.size ≤ W.heap.size) (hKa : ∀ pre W o, I pre W → Kp W (W.alloc o))
    (hassign : ∀ (l : Nat) (x : α) (W : World) (K : Act → World → Prop), K { tmps := (((a.tmps.setIfInBounds p (enc1 x)).setIfInBounds p2 (enc2 x)).setIfInBounds q (.pointer (some ⟨W.heap.size, 0, none⟩))).setIfInBounds q2 (enc2 x), defers := [] } (W.alloc (.cells (cellsOf x) e)) →
      assign.wpIn (F.inRound l) (n - 1 - 1) P (Exit.then K (fun _ _ _ => False)) { tmps := (a.tmps.setIfInBounds p (enc1 x)).setIfInBounds p2 (enc2 x), defers := [] } W)
    (hbody : ∀ (l : Nat) (pre : List α) (x : α) (Bx : Nat) (W : World), I pre W → w.heap.size ≤ Bx → W.heap[Bx]? = some (.cells (cellsOf x) e (0, 0)) → pre.length < N →
      body.wpIn (F.inRound l) (n - 1 - 1) P (ownPostG w.heap.size Kp I Ix (pre ++ [x]) W) { tmps := (((a.tmps.setIfInBounds p (enc1 x)).setIfInBounds p2 (enc2 x)).setIfInBounds q (.pointer (some ⟨Bx, 0, none⟩))).setIfInBounds q2 (enc2 x), defers := [] } W)
    (hdone : ∀ (xs : List α) (W : World), S xs → I xs W → J W)
    (hstop : ∀ (c : Code) (pre : List α) (W : World), Sp pre → Ix c pre W → c = .exit id ∧ J W)
    (hfin : ∀ (D : Nat) (W : World), w.heap.size ≤ D → J W → W.heap[D]? = some (.deferred (some [])) → Q .normal { a with defers := { target := .collected D, args := #[] } :: a.defers } W) :
    (Code.rangeFunc g #[p, p2] assign body).wpIn F n P (Exit.inBlock id Q) a w := by
  refine wpIn_rangeFunc_boxTB hro h1 hg hFg eg hseq hKt hKb hb0 (fun _ => rfl) cellsOf e (fun x b => (((a.tmps.setIfInBounds p (enc1 x)).setIfInBounds p2 (enc2 x)).setIfInBounds q (.pointer (some ⟨b, 0, none⟩))).setIfInBounds q2 (enc2 x)) I Ix J hI hIx h0 hle hKa ?_ hbody hdone hstop hfin
  intro l x W K hK
  have e1 : ∀ (f : Array Value → Tmp × Value → Array Value), (#[p, p2].zip #[enc1 x, enc2 x]).foldl f a.tmps = f (f a.tmps (p, enc1 x)) (p2, enc2 x) := by intro f; simp
  rw [e1]
  exact hassign l x W K hK
end Go.Proofs.YtfmcbpnhpckmjaaGreat
namespace Go.Proofs.YtfmcbpnhpckmjaaGreat
open Go.RowKit Go.Shelf
attribute [local go_sem] Oper.semAt_some

theorem KpL.own {L : List Nat} {W5 : World} {B : Nat} (hL : ∀ g ∈ L, g < B) (hB : B ≤ W5.heap.size) {X Y : World} {row : Option Nat} (h : KpL L W5 X) (hg : X.grownBy Y row) (hr : ∀ r, row = some r → B ≤ r ∧ ∃ o : Obj, X.heap[r]? = some o ∧ o.isCells = false) : KpL L W5 Y := by
  refine ⟨Nat.le_trans h.size hg.size, fun g hgl => ?_⟩
  rw [hg.block g ?_ ?_, h.row g hgl]
  · have := hL g hgl; have := h.size; omega
  · intro e; have := (hr g e.symm).1; have := hL g hgl; omega
/-- what the law's rounds read -/
structure AlF (W : World) (B0 Ball Bn tb : Nat) (leave : Int) (va v1 v2 : Value) (A C : List ByteArray) : Prop where
  l : Boxed W B0 3 (.int .i64 leave)
  r : Boxed W (B0 + 1) 4 (.bool false)
  a : Boxed W Ball 27 va
  row : OwnStr W 0 va (A ++ C)
  n : Boxed W Bn 3 (.int .i64 A.length)
  t : TbA W (Bn + 1) tb v1 v2 A C
def alL (B0 Ball Bn tb : Nat) (va v1 v2 : Value) : List Nat := B0 :: (B0 + 1) :: Ball :: Bn :: (tbL (Bn + 1) tb v1 v2 ++ va.ownBlock.toList)
theorem AlF.kept {W W' : World} {B0 Ball Bn tb : Nat} {leave : Int} {va v1 v2 : Value} {A C : List ByteArray} (h : AlF W B0 Ball Bn tb leave va v1 v2 A C) (k : KpL (alL B0 Ball Bn tb va v1 v2) W W') : AlF W' B0 Ball Bn tb leave va v1 v2 A C :=
  ⟨(k.row B0 (by simp [alL])).trans h.l, (k.row (B0 + 1) (by simp [alL])).trans h.r, (k.row Ball (by simp [alL])).trans h.a, own_kept h.row (fun g hg => k.row g (by simp [alL, hg])), (k.row Bn (by simp [alL])).trans h.n,
    h.t.kept ⟨k.size, fun g hg => k.row g (by simp [alL, hg])⟩⟩
theorem AlF.lt {W : World} {B0 Ball Bn tb : Nat} {leave : Int} {va v1 v2 : Value} {A C : List ByteArray} (h : AlF W B0 Ball Bn tb leave va v1 v2 A C) : ∀ g ∈ alL B0 Ball Bn tb va v1 v2, g < W.heap.size := by
  intro g hg
  simp only [alL, List.mem_cons, List.mem_append, Option.mem_toList] at hg
  rcases hg with rfl | rfl | rfl | rfl | hg | hg
  · exact h.l.lt
  · exact h.r.lt
  · exact h.a.lt
  · exact h.n.lt
  · exact h.t.lt g hg
  · exact (h.row.lt g hg).2
theorem KpL.sub {L M : List Nat} {W W' : World} (h : KpL L W W') (hs : ∀ g ∈ M, g ∈ L) : KpL M W W' := ⟨h.size, fun g hg => h.row g (hs g hg)⟩
theorem spre_step {l pre : List ((Bool × Nat) × ByteArray)} {x : (Bool × Nat) × ByteArray} (h : pre <+: l) (hx : l[pre.length]? = some x) : (pre ++ [x]) <+: l := by
  obtain ⟨r, rfl⟩ := h
  rw [List.getElem?_append_right (Nat.le_refl _)] at hx
  simp at hx
  cases r with
  | nil => simp at hx
  | cons y r => simp at hx; subst hx; exact ⟨r, by simp⟩
theorem spre_bad {l pre : List ((Bool × Nat) × ByteArray)} {x m : (Bool × Nat) × ByteArray} (hx : l[pre.length]? = some m) (hne : ¬ x = m) : ¬ (pre ++ [x]) <+: l := by
  rintro ⟨r, rfl⟩
  simp at hx
  exact hne hx

/-! ### the law SymbolsAll -/
set_option maxRecDepth 100000 in
set_option maxHeartbeats 12800000 in
theorem symbolsAll_in (n : Nat) (hn : 6 ≤ n) (v : Value) (G : List Ru) (leave : Int) (w : World) (h : RdRu w v G) (hb : Bulk G 1048576) :
    CallsIn Fence.wide n Tryz.prog 5 #[v, .int .i64 leave] w fun e w' => e = .returned (.bool true) ∧ Below w.heap.size w w' := by
  have h1 : 1 ≤ n := by omega
  have hl := hb.lim (by omega)
  have hl2 := hb.len
  have hn2 := hb.nodes
  clear hb
  have HB0 : Hid (Below w.heap.size w ((w.alloc (.cells #[.int .i64 leave] 3)).alloc (.cells #[.bool false] 4))) := below2 _ _ _
  have HG0 := Lib.hid (h.below HB0.out)
  have bl0 : Boxed ((w.alloc (.cells #[.int .i64 leave] 3)).alloc (.cells #[.bool false] 4)) w.heap.size 3 (.int .i64 leave) := (Boxed.new w _ _).alloc _
  have br0 : Boxed ((w.alloc (.cells #[.int .i64 leave] 3)).alloc (.cells #[.bool false] 4)) (w.heap.size + 1) 4 (.bool false) := by
    have := Boxed.new (w.alloc (.cells #[.int .i64 leave] 3)) 4 (.bool false)
    simp only [World.size_alloc] at this
    exact this
  have hhl := heads_le G hl2
  have hul := used_le 3 G hn2
  obtain ⟨a0, c0, rfl⟩ := rdRu_shapeM h
  by_cases hc : checkG G = 0
  · have HT := Lib.hid (fun w h => rTable_ok (.slice a0 G.length c0) G w h hl hl2 (by omega) hc)
    have H1 := Lib.hid (fun w h => rHeads_any (.slice a0 G.length c0) G w h hl)
    have H2 := Lib.hid (fun w h => rLabels_any (.slice a0 G.length c0) G w h hl)
    clear hl hl2 hn2 hc h
    refine callsIn_of_wp_marks Tryz.func5 rfl trivial ?_ rfl
    simp only [Tryz.ntmps5, List.size_toArray, List.length_cons, List.length_nil, Nat.reduceAdd, Nat.reduceSub, Array.replicate_succ, Array.replicate_zero, List.push_toArray, List.append_toArray, List.nil_append, List.cons_append]
    gi_wp2_with fail
    generalize ((w.alloc (.cells #[.int .i64 leave] 3)).alloc (.cells #[.bool false] 4)) = w0 at *
    refine ⟨trivial, (callsIn_wide.2 (HT.out _ HG0.out)).mono ?_⟩
    rintro e w1 ⟨tb, rfl, hT1, hb1⟩
    have HT1 := Lib.hid hT1
    have HG1 := Lib.hid (HG0.out.below hb1)
    have bl1 : Boxed w1 w.heap.size 3 (.int .i64 leave) := (hb1.block _ bl0.lt).trans bl0
    have br1 : Boxed w1 (w.heap.size + 1) 4 (.bool false) := (hb1.block _ br0.lt).trans br0
    have HB1 := Lib.hid (HB0.out.trans (hb1.mono HB0.out.size))
    clear hb1 hT1 HG0 HB0 bl0 br0
    gi_wp2_with fail
    refine ⟨trivial, (callsIn_wide.2 (H1.out _ HG1.out)).mono ?_⟩
    rintro e w2 ⟨v2, rfl, ho2, hb2⟩
    have HG2 := Lib.hid (HG1.out.below hb2)
    have HO2 := Lib.hid ho2
    have HQ2 := Lib.hid hb2
    obtain ⟨a2, c2, rfl⟩ := own_str_shape ho2
    clear ho2 hb2
    gi_wp2_with fail
    refine ⟨trivial, (callsIn_wide.2 (H2.out _ HG2.out)).mono ?_⟩
    rintro e w3 ⟨v3, rfl, ho3, hb3⟩
    have HQ3 : Hid (Below w1.heap.size w1 w3) := HQ2.out.trans (hb3.mono HQ2.out.size)
    have hown3 : w3.ownsRow w1.heap.size 9 1 (.slice a2 (heads G).length c2) (heads G).length (strs (heads G)) := own_grown HO2.out (grown_below hb3) (fun j hj => by cases hj)
    have hrd3 := RdS.of_own ho3
    have hw3 := HQ3.out.size
    obtain ⟨a3, c3, rfl⟩ := own_str_shape ho3
    clear ho3 hb3 HO2 HQ2
    gi_wp2_with (gi_at_builtin; go_must (refine wpListIn_appAll elemStr rfl _ _ rfl hown3 rfl hrd3 rfl (strs_one _) (by unfold maxLen; omega) (by omega) hw3 ?_); intro v4 w4 hown4 hg4; obtain ⟨_, a4, c4, rfl, -, -, -⟩ := Rd.of_owns hown4)
    have HQ4 : Hid (Below w1.heap.size w1 w4) := HQ3.out.grown hg4 hw3 (fun j hj => own_block hown3 j hj)
    have hst : strs (heads G) ++ strs (used 3 G) = strs (heads G ++ used 3 G) := by unfold strs; rw [List.map_append]
    rw [hst] at hown4
    have hall4 : OwnStr w4 0 (.slice a4 ((heads G).length + (used 3 G).length) c4) (heads G ++ used 3 G) := by
      unfold OwnStr; rw [List.length_append]; exact own_lower hown4 (Nat.zero_le _)
    clear hst hown4 hg4 hown3 hrd3
    have HQ5 : Hid (Below w1.heap.size w1 (w4.alloc (.cells #[.slice a4 ((heads G).length + (used 3 G).length) c4] 27))) := HQ4.out.trans ((below1 w4 _).mono HQ4.out.size)
    have ball5 := Boxed.new w4 27 (.slice a4 ((heads G).length + (used 3 G).length) c4)
    have hall5 := own_grown hall4 (grown_below (below1 w4 (.cells #[.slice a4 ((heads G).length + (used 3 G).length) c4] 27))) (fun j hj => by cases hj)
    generalize hBall : w4.heap.size = Ball at *
    have hBl : w1.heap.size ≤ Ball := by rw [← hBall]; exact HQ4.out.size
    clear hall4 HQ4 HQ3 hBall
    generalize w4.alloc (.cells #[.slice a4 ((heads G).length + (used 3 G).length) c4] 27) = w5 at *
    gi_wp2_with fail
    refine ⟨trivial, (callsIn_wide.2 (H1.out _ (HG1.out.below HQ5.out))).mono ?_⟩
    rintro e w6 ⟨v6, rfl, ho6, hb6⟩
    have HQ6 : Hid (Below w1.heap.size w1 w6) := HQ5.out.trans (hb6.mono HQ5.out.size)
    have ball6 : Boxed w6 Ball 27 (.slice a4 ((heads G).length + (used 3 G).length) c4) := (hb6.block _ ball5.lt).trans ball5
    have hall6 := own_grown hall5 (grown_below hb6) (fun j hj => by cases hj)
    obtain ⟨a6, c6, rfl⟩ := own_str_shape ho6
    clear ho6 hb6 hall5 ball5 HQ5
    gi_wp2_with fail
    refine ⟨trivial, (callsIn_wide.2 (xAll_any tb _)).mono ?_⟩
    rintro e w8 ⟨rfl, rfl⟩
    have hb8 : Below w6.heap.size w6 ((w6.alloc (.cells #[.int .i64 (heads G).length] 3)).alloc (.cells #[.pointer (some ⟨tb, 0, none⟩)] 23)) := below2 _ _ _
    have bn8 := (Boxed.new w6 3 (.int .i64 (heads G).length)).alloc (.cells #[.pointer (some ⟨tb, 0, none⟩)] 23)
    have bt8 := Boxed.new (w6.alloc (.cells #[.int .i64 (heads G).length] 3)) 23 (.pointer (some ⟨tb, 0, none⟩))
    simp only [World.size_alloc] at bt8 ⊢
    have HQ8 : Hid (Below w1.heap.size w1 ((w6.alloc (.cells #[.int .i64 (heads G).length] 3)).alloc (.cells #[.pointer (some ⟨tb, 0, none⟩)] 23))) := HQ6.out.trans (hb8.mono HQ6.out.size)
    have ball8 : Boxed ((w6.alloc (.cells #[.int .i64 (heads G).length] 3)).alloc (.cells #[.pointer (some ⟨tb, 0, none⟩)] 23)) Ball 27 (.slice a4 ((heads G).length + (used 3 G).length) c4) := (hb8.block _ ball6.lt).trans ball6
    have hall8 := own_grown hall6 (grown_below hb8) (fun j hj => by cases hj)
    have hz8 : w6.heap.size + 2 = ((w6.alloc (.cells #[.int .i64 (heads G).length] 3)).alloc (.cells #[.pointer (some ⟨tb, 0, none⟩)] 23)).heap.size := by simp
    have hB6 : Ball < w6.heap.size := ball6.lt
    clear hall6 ball6 hb8 HQ6
    generalize ((w6.alloc (.cells #[.int .i64 (heads G).length] 3)).alloc (.cells #[.pointer (some ⟨tb, 0, none⟩)] 23)) = w8 at *
    generalize w6.heap.size = Bn at *
    have bl8 : Boxed w8 w.heap.size 3 (.int .i64 leave) := (HQ8.out.block _ bl1.lt).trans bl1
    have br8 : Boxed w8 (w.heap.size + 1) 4 (.bool false) := (HQ8.out.block _ br1.lt).trans br1
    have HB8 : Hid (Below w.heap.size w w8) := HB1.out.trans (HQ8.out.mono HB1.out.size)
    have hlt1 : w.heap.size + 1 < w1.heap.size := br1.lt
    obtain ⟨v1, v2, hT8⟩ : ∃ v1 v2, TbA w8 (Bn + 1) tb v1 v2 (heads G) (used 3 G) := by
      obtain ⟨hle, u1, u2, b, q, D, t1, t2, t3, t4, t5, t6, t7⟩ := HT1.out.below HQ8.out
      exact ⟨u1, u2, bt8, ⟨b, t1⟩, own_lower t2 (Nat.zero_le _), own_lower t3 (Nat.zero_le _)⟩
    have HA8 : Hid (AlF w8 w.heap.size Ball Bn tb leave (.slice a4 ((heads G).length + (used 3 G).length) c4) v1 v2 (heads G) (used 3 G)) := ⟨bl8, br8, ball8, hall8, bn8, hT8⟩
    clear bl1 br1 HB1 HQ8 HT1 bt8 bl8 br8 ball8 hall8 bn8 hT8 hlt1 hBl
    generalize heads G = A at *
    generalize used 3 G = C at *
    gi_wp2
    refine wpIn_loop_rounds 3 ?_
    rw [roundsIn_succ]
    gi_wp2
    have hb1 : Below w8.heap.size w8 (w8.alloc (.cells #[.int .i64 0] 3)) := below1 _ _
    have HA1 : Hid (AlF (w8.alloc (.cells #[.int .i64 0] 3)) w.heap.size Ball Bn tb leave (.slice a4 (A.length + C.length) c4) v1 v2 A C) := HA8.out.kept (KpL.of_below hb1 HA8.out.lt)
    have n1 := Boxed.new w8 3 (.int .i64 0)
    have HB1 : Hid (Below w.heap.size w (w8.alloc (.cells #[.int .i64 0] 3))) := HB8.out.trans (hb1.mono HB8.out.size)
    have HL1 : Hid (∀ g ∈ (alL w.heap.size Ball Bn tb (.slice a4 (A.length + C.length) c4) v1 v2), g < w8.heap.size) := HA8.out.lt
    have hwb1 : w.heap.size ≤ w8.heap.size := HB8.out.size
    have hXs1 : w8.heap.size < (w8.alloc (.cells #[.int .i64 0] 3)).heap.size := by simp
    clear hb1 HA8 HB8
    generalize w8.alloc (.cells #[.int .i64 0] 3) = X1 at *
    generalize w8.heap.size = K1 at *
    refine wpIn_rangeFunc_box2 (Kp := KpL (tbL (Bn + 1) tb v1 v2)) (q := 12) (q2 := 13) rfl h1 (gf := 44) (lb := #[.pointer (some ⟨Bn + 1, 0, none⟩)]) rfl trivial (enters_of Tryz.func44 (by kernel_rfl) rfl) (enc1 := fun x => .agg #[.bool x.1.1, .int .i64 (x.1.2 : Nat)]) (enc2 := fun x => .string x.2)
      (sym_stops (n - 1) (by omega) (Bn + 1) tb v1 v2 A C hhl hul X1 HA1.out.t) KpL.trans (KpL.putObj HA1.out.t.lt) (Below.refl _ _)
      (fun x => #[.bool x.1.1, .int .i64 (x.1.2 : Nat)]) 46
      (fun pre W => KpL (alL w.heap.size Ball Bn tb (.slice a4 (A.length + C.length) c4) v1 v2) X1 W ∧ Below w.heap.size w W ∧ Boxed W K1 3 (.int .i64 pre.length) ∧ Hid (pre <+: enA A C))
      (fun c pre W => (c = .ret ∧ ¬ pre <+: enA A C) ∨ (c = .exit 2 ∧ KpL (alL w.heap.size Ball Bn tb (.slice a4 (A.length + C.length) c4) v1 v2) X1 W ∧ Below w.heap.size w W ∧ Boxed W K1 3 (.int .i64 pre.length) ∧ ((pre.length : Int) = leave)))
      (fun W => KpL (alL w.heap.size Ball Bn tb (.slice a4 (A.length + C.length) c4) v1 v2) X1 W ∧ Below w.heap.size w W ∧ ∃ q : Nat, Boxed W K1 3 (.int .i64 q) ∧ ((q : Int) = leave ∨ q = A.length + C.length))
      ?hI1 ?hIx1 ?h01 (fun pre W h => h.1.size) ?hKa1 ?assign1 ?body1 ?done1 ?stop1 ?fin1
    case hI1 =>
      intro p X Y row h hg hr
      exact ⟨KpL.own (fun g hg => by have := HL1.out g hg; omega) (Nat.le_refl _) h.1 hg hr, h.2.1.grown hg h.2.1.size (fun k e => by have := (hr k e).1; omega), bx_keep h.2.2.1 hg (fun r e => (hr r e).2), h.2.2.2⟩
    case hIx1 =>
      intro c p X Y row h hg hr
      rcases h with h | ⟨h1, h2, h3, h4, h5⟩
      · exact .inl h
      · exact .inr ⟨h1, KpL.own (fun g hg => by have := HL1.out g hg; omega) (Nat.le_refl _) h2 hg hr, h3.grown hg h3.size (fun k e => by have := (hr k e).1; omega), bx_keep h4 hg (fun r e => (hr r e).2), h5⟩
    case h01 => exact ⟨KpL.refl _ _, HB1.out, n1, List.nil_prefix⟩
    case hKa1 => exact fun pre W o h => KpL.of_below (below1 W o) (HA1.out.kept h.1).t.lt
    case assign1 =>
      intro l x W K hK
      simp only [List.setIfInBounds_toArray, List.set_cons_succ, List.set_cons_zero] at hK ⊢
      gi_wp2
      exact hK
    case body1 =>
      intro l pre x Bx W hi hBx hX hlt
      obtain ⟨hKp, hBw, hN, hP⟩ := hi
      rw [enA_len] at hlt
      obtain ⟨m, hm⟩ : ∃ m, (enA A C)[pre.length]? = some m := ⟨_, List.getElem?_eq_getElem (by rw [enA_len]; exact hlt)⟩
      have hF := HA1.out.kept hKp
      obtain ⟨hx0, hmk⟩ := enA_at hm
      have HKn : Hid (∀ g ∈ (alL w.heap.size Ball Bn tb (.slice a4 (A.length + C.length) c4) v1 v2), g ≠ K1) := fun g hg => by have := HL1.out g hg; omega
      have hlk : w.heap.size < K1 := HL1.out _ (by simp [alL])
      have HAr := Lib.hid (fun (W : World) (h : KpL (alL w.heap.size Ball Bn tb (.slice a4 (A.length + C.length) c4) v1 v2) X1 W) => HA1.out.kept h)
      obtain ⟨b5, o5, c5, e5, l5, k5, y0⟩ := RdS.at (RdS.of_own hF.row) hx0
      simp only [Value.slice.injEq] at e5
      obtain ⟨rfl, -, rfl⟩ := e5
      have c0 : W.cell? ⟨Bx, 0, none⟩ = some (.bool x.1.1) := by simp [World.cell?, hX]
      have c1 : W.cell? ⟨Bx, 1, none⟩ = some (.int .i64 (x.1.2 : Nat)) := by simp [World.cell?, hX]
      have cL := hF.l.cell
      have cA := hF.a.cell
      have cN := hF.n.cell
      have cR := hF.r.cell
      have fR := hF.r.frozen
      have cK := hN.cell
      have fK := hN.frozen
      have HX := Lib.hid hX
      have HF := Lib.hid hF
      have HNn := Lib.hid hN
      have HM := Lib.hid hm
      have HKp := Lib.hid hKp
      have HBw := Lib.hid hBw
      have hge : decide (A.length + C.length ≤ pre.length) = false := by simp; omega
      have hge2 : decide (((A.length + C.length : Nat) : Int) ≤ pre.length) = false := by simp; omega
      have hge3 : decide ((A.length : Int) + (C.length : Int) ≤ pre.length) = false := by simp; omega
      clear hX hF hN hm hx0 hKp hBw l5 k5
      simp only [List.setIfInBounds_toArray, List.set_cons_succ, List.set_cons_zero]
      obtain ⟨⟨xl, xi⟩, xn⟩ := x
      obtain ⟨⟨ml, mi⟩, mn⟩ := m
      simp only [Prod.mk.injEq] at hmk y0 c0 c1 ⊢
      by_cases hxs : xn = mn
      · subst hxs
        have hnn : (xn.toList != xn.toList) = false := by simp
        rcases hmk with ⟨hA, rfl, rfl⟩ | ⟨hA, rfl, rfl⟩
        · have hn1 : decide ((A.length : Int) ≤ pre.length) = false := by simp; omega
          cases xl with
          | true =>
            have hbad : ¬ (pre ++ [((true, xi), xn)]) <+: enA A C := spre_bad HM.out (by simp)
            gi_wp2
            exact ⟨(KeepsOthers.setCell _ _ _).from _, .inl ⟨rfl, hbad⟩⟩
          | false =>
            by_cases hxi : xi = pre.length
            · subst hxi
              have hjj : (((pre.length : Nat) : Int) != (pre.length : Int)) = false := by simp
              gi_wp2
              · exact ⟨(KeepsOthers.setCell _ _ _).from _, .inr ⟨rfl, HKp.out.trans (KpL.setBox HKn.out _), HBw.out.setCell (p := ⟨K1, 0, none⟩) (by show w.heap.size ≤ K1; omega) _, by rw [List.length_append]; exact Boxed.set _ HNn.out, by have hq : ((pre.length : Int) + 1 == leave) = true := (by assumption); simp at hq; simp only [List.length_append, List.length_cons, List.length_nil]; omega⟩⟩
              · exact ⟨(KeepsOthers.setCell _ _ _).from _, KpL.setBox (fun g hg => HKn.out g (by simp [alL, hg])) _, HKp.out.trans (KpL.setBox HKn.out _), HBw.out.setCell (p := ⟨K1, 0, none⟩) (by show w.heap.size ≤ K1; omega) _, by rw [List.length_append]; exact Boxed.set _ HNn.out, spre_step hP.out HM.out⟩
            · have hbad : ¬ (pre ++ [((false, xi), xn)]) <+: enA A C := spre_bad HM.out (by simp; exact hxi)
              have hjj : ((xi : Int) != (pre.length : Int)) = true := by simp; omega
              gi_wp2
              exact ⟨(KeepsOthers.setCell _ _ _).from _, .inl ⟨rfl, hbad⟩⟩
        · have hn1 : decide ((A.length : Int) ≤ pre.length) = true := by simp; omega
          cases xl with
          | false =>
            have hbad : ¬ (pre ++ [((false, xi), xn)]) <+: enA A C := spre_bad HM.out (by simp)
            gi_wp2
            exact ⟨(KeepsOthers.setCell _ _ _).from _, .inl ⟨rfl, hbad⟩⟩
          | true =>
            have hdd : (0 : Int) ≤ (pre.length : Int) - A.length := by omega
            by_cases hxi : xi = pre.length - A.length
            · obtain ⟨d, hd⟩ : ∃ d : Nat, d = pre.length - A.length := ⟨_, rfl⟩
              rw [← hd] at hxi HM
              subst hxi
              have hjj : ((xi : Int) != (pre.length : Int) - A.length) = false := by simp; omega
              clear hd
              gi_wp2
              · exact ⟨(KeepsOthers.setCell _ _ _).from _, .inr ⟨rfl, HKp.out.trans (KpL.setBox HKn.out _), HBw.out.setCell (p := ⟨K1, 0, none⟩) (by show w.heap.size ≤ K1; omega) _, by rw [List.length_append]; exact Boxed.set _ HNn.out, by have hq : ((pre.length : Int) + 1 == leave) = true := (by assumption); simp at hq; simp only [List.length_append, List.length_cons, List.length_nil]; omega⟩⟩
              · exact ⟨(KeepsOthers.setCell _ _ _).from _, KpL.setBox (fun g hg => HKn.out g (by simp [alL, hg])) _, HKp.out.trans (KpL.setBox HKn.out _), HBw.out.setCell (p := ⟨K1, 0, none⟩) (by show w.heap.size ≤ K1; omega) _, by rw [List.length_append]; exact Boxed.set _ HNn.out, spre_step hP.out HM.out⟩
            · have hbad : ¬ (pre ++ [((true, xi), xn)]) <+: enA A C := spre_bad HM.out (by simp; exact hxi)
              have hjj : ((xi : Int) != (pre.length : Int) - A.length) = true := by simp; omega
              gi_wp2
              exact ⟨(KeepsOthers.setCell _ _ _).from _, .inl ⟨rfl, hbad⟩⟩
      · have hbad : ¬ (pre ++ [((xl, xi), xn)]) <+: enA A C := spre_bad HM.out (by simp; intro _ _; exact hxs)
        have hnn : (xn.toList != mn.toList) = true := by
          simp only [bne_iff_ne, ne_eq]
          exact fun h => hxs ((toList_inj _ _).1 h)
        have hnn2 : (xn.toList == mn.toList) = false := by
          simp only [beq_eq_false_iff_ne, ne_eq]
          exact fun h => hxs ((toList_inj _ _).1 h)
        clear hxs hmk
        gi_wp2
        exact ⟨(KeepsOthers.setCell _ _ _).from _, .inl ⟨rfl, hbad⟩⟩
    case done1 =>
      rintro xs W rfl ⟨a1, a2, a3, _⟩
      rw [enA_len] at a3
      exact ⟨a1, a2, _, a3, .inr rfl⟩
    case stop1 =>
      rintro c pre W ⟨hne, hpre⟩ h
      rcases h with ⟨rfl, hbad⟩ | ⟨rfl, h2, h3, h4, h5⟩
      · exact absurd hpre hbad
      · exact ⟨rfl, h2, h3, _, h4, .inl h5⟩
    case fin1 =>
    rintro D1 W1 hD1 ⟨hKp1, hBw1, q, hN1, hq⟩ hKD1
    have HAe1 : Hid (AlF W1 w.heap.size Ball Bn tb leave (.slice a4 (A.length + C.length) c4) v1 v2 A C) := HA1.out.kept hKp1
    have HBe1 := Lib.hid hBw1
    have cK := hN1.cell
    have cL := HAe1.out.l.cell
    have cA := HAe1.out.a.cell
    have hxs1 := hKp1.size
    have HKD1 := Lib.hid hKD1
    clear hKp1 hBw1 hN1 HA1 HB1 n1 HL1 hKD1
    have hcond : (((q : Int) != leave) = false) ∨ (((q : Int) != leave) = true ∧ ((q : Int) != ((A.length + C.length : Nat) : Int)) = false ∧ ((q : Int) != (A.length : Int) + C.length) = false) := by
      by_cases hql : (q : Int) = leave
      · exact .inl (by simpa using hql)
      · refine .inr ⟨by simpa using hql, ?_, ?_⟩
        · rcases hq with hq | hq
          · exact absurd hq hql
          · simp; omega
        · rcases hq with hq | hq
          · exact absurd hq hql
          · simp; omega
    clear hq
    rcases hcond with hc0 | ⟨hc0, hc1, hc2⟩
    all_goals
      gi_wp2
      clear cK cL cA hc0
      have hD1b := HKD1.out
      rw [roundsIn_succ]
      gi_wp2
      have hb2 : Below W1.heap.size W1 (W1.alloc (.cells #[.int .i64 0] 3)) := below1 _ _
      have HA2 : Hid (AlF (W1.alloc (.cells #[.int .i64 0] 3)) w.heap.size Ball Bn tb leave (.slice a4 (A.length + C.length) c4) v1 v2 A C) := HAe1.out.kept (KpL.of_below hb2 HAe1.out.lt)
      have n2 := Boxed.new W1 3 (.int .i64 0)
      have HB2 : Hid (Below w.heap.size w (W1.alloc (.cells #[.int .i64 0] 3))) := HBe1.out.trans (hb2.mono HBe1.out.size)
      have HL2 : Hid (∀ g ∈ (alL w.heap.size Ball Bn tb (.slice a4 (A.length + C.length) c4) v1 v2), g < W1.heap.size) := HAe1.out.lt
      have hwb2 : w.heap.size ≤ W1.heap.size := HBe1.out.size
      have hD1x2 : (W1.alloc (.cells #[.int .i64 0] 3)).heap[D1]? = some (.deferred (some [])) := (hb2.block D1 (Array.getElem?_eq_some_iff.1 hD1b).1).trans hD1b
      have hD1l : D1 < (W1.alloc (.cells #[.int .i64 0] 3)).heap.size := (Array.getElem?_eq_some_iff.1 hD1x2).1
      have hD1n : D1 < W1.heap.size := (Array.getElem?_eq_some_iff.1 hD1b).1
      have hXs2 : W1.heap.size < (W1.alloc (.cells #[.int .i64 0] 3)).heap.size := by simp
      clear hb2 HAe1 HBe1 hD1b
      generalize W1.alloc (.cells #[.int .i64 0] 3) = X2 at *
      generalize W1.heap.size = K2 at *
      refine wpIn_rangeFunc_box2 (Kp := KpL (tbL (Bn + 1) tb v1 v2)) (q := 12) (q2 := 13) rfl h1 (gf := 44) (lb := #[.pointer (some ⟨Bn + 1, 0, none⟩)]) rfl trivial (enters_of Tryz.func44 (by kernel_rfl) rfl) (enc1 := fun x => .agg #[.bool x.1.1, .int .i64 (x.1.2 : Nat)]) (enc2 := fun x => .string x.2)
        (sym_stops (n - 1) (by omega) (Bn + 1) tb v1 v2 A C hhl hul X2 HA2.out.t) KpL.trans (KpL.putObj HA2.out.t.lt) (Below.refl _ _)
        (fun x => #[.bool x.1.1, .int .i64 (x.1.2 : Nat)]) 46
        (fun pre W => KpL (alL w.heap.size Ball Bn tb (.slice a4 (A.length + C.length) c4) v1 v2) X2 W ∧ Below w.heap.size w W ∧ Boxed W K2 3 (.int .i64 pre.length) ∧ Hid (pre <+: enA A C) ∧ Hid (W.heap[D1]? = some (.deferred (some []))))
        (fun c pre W => (c = .ret ∧ ¬ pre <+: enA A C) ∨ (c = .exit 2 ∧ KpL (alL w.heap.size Ball Bn tb (.slice a4 (A.length + C.length) c4) v1 v2) X2 W ∧ Below w.heap.size w W ∧ Boxed W K2 3 (.int .i64 pre.length) ∧ ((pre.length : Int) = leave) ∧ Hid (W.heap[D1]? = some (.deferred (some [])))))
        (fun W => KpL (alL w.heap.size Ball Bn tb (.slice a4 (A.length + C.length) c4) v1 v2) X2 W ∧ Below w.heap.size w W ∧ Hid (W.heap[D1]? = some (.deferred (some []))) ∧ ∃ q : Nat, Boxed W K2 3 (.int .i64 q) ∧ ((q : Int) = leave ∨ q = A.length + C.length))
        ?hI2 ?hIx2 ?h02 (fun pre W h => h.1.size) ?hKa2 ?assign2 ?body2 ?done2 ?stop2 ?fin2
      case hI2 =>
        intro p X Y row h hg hr
        exact ⟨KpL.own (fun g hg => by have := HL2.out g hg; omega) (Nat.le_refl _) h.1 hg hr, h.2.1.grown hg h.2.1.size (fun k e => by have := (hr k e).1; omega), bx_keep h.2.2.1 hg (fun r e => (hr r e).2), h.2.2.2.1, (hg.block D1 (by have := h.1.size; omega) (fun e => by have := (hr D1 e.symm).1; omega)).trans h.2.2.2.2.out⟩
      case hIx2 =>
        intro c p X Y row h hg hr
        rcases h with h | ⟨h1, h2, h3, h4, h5, h6⟩
        · exact .inl h
        · exact .inr ⟨h1, KpL.own (fun g hg => by have := HL2.out g hg; omega) (Nat.le_refl _) h2 hg hr, h3.grown hg h3.size (fun k e => by have := (hr k e).1; omega), bx_keep h4 hg (fun r e => (hr r e).2), h5, (hg.block D1 (by have := h2.size; omega) (fun e => by have := (hr D1 e.symm).1; omega)).trans h6.out⟩
      case h02 => exact ⟨KpL.refl _ _, HB2.out, n2, List.nil_prefix, hD1x2⟩
      case hKa2 => exact fun pre W o h => KpL.of_below (below1 W o) (HA2.out.kept h.1).t.lt
      case assign2 =>
        intro l x W K hK
        simp only [List.setIfInBounds_toArray, List.set_cons_succ, List.set_cons_zero] at hK ⊢
        gi_wp2
        exact hK
      case body2 =>
        intro l pre x Bx W hi hBx hX hlt
        obtain ⟨hKp, hBw, hN, hP, hds⟩ := hi
        rw [enA_len] at hlt
        obtain ⟨m, hm⟩ : ∃ m, (enA A C)[pre.length]? = some m := ⟨_, List.getElem?_eq_getElem (by rw [enA_len]; exact hlt)⟩
        have hF := HA2.out.kept hKp
        obtain ⟨hx0, hmk⟩ := enA_at hm
        have HKn : Hid (∀ g ∈ (alL w.heap.size Ball Bn tb (.slice a4 (A.length + C.length) c4) v1 v2), g ≠ K2) := fun g hg => by have := HL2.out g hg; omega
        have hlk : w.heap.size < K2 := HL2.out _ (by simp [alL])
        have HAr := Lib.hid (fun (W : World) (h : KpL (alL w.heap.size Ball Bn tb (.slice a4 (A.length + C.length) c4) v1 v2) X2 W) => HA2.out.kept h)
        obtain ⟨b5, o5, c5, e5, l5, k5, y0⟩ := RdS.at (RdS.of_own hF.row) hx0
        simp only [Value.slice.injEq] at e5
        obtain ⟨rfl, -, rfl⟩ := e5
        have c0 : W.cell? ⟨Bx, 0, none⟩ = some (.bool x.1.1) := by simp [World.cell?, hX]
        have c1 : W.cell? ⟨Bx, 1, none⟩ = some (.int .i64 (x.1.2 : Nat)) := by simp [World.cell?, hX]
        have cL := hF.l.cell
        have cA := hF.a.cell
        have cN := hF.n.cell
        have cR := hF.r.cell
        have fR := hF.r.frozen
        have cK := hN.cell
        have fK := hN.frozen
        have HX := Lib.hid hX
        have HF := Lib.hid hF
        have HNn := Lib.hid hN
        have HM := Lib.hid hm
        have HKp := Lib.hid hKp
        have HBw := Lib.hid hBw
        have hge : decide (A.length + C.length ≤ pre.length) = false := by simp; omega
        have hge2 : decide (((A.length + C.length : Nat) : Int) ≤ pre.length) = false := by simp; omega
        have hge3 : decide ((A.length : Int) + (C.length : Int) ≤ pre.length) = false := by simp; omega
        clear hX hF hN hm hx0 hKp hBw l5 k5
        simp only [List.setIfInBounds_toArray, List.set_cons_succ, List.set_cons_zero]
        obtain ⟨⟨xl, xi⟩, xn⟩ := x
        obtain ⟨⟨ml, mi⟩, mn⟩ := m
        simp only [Prod.mk.injEq] at hmk y0 c0 c1 ⊢
        by_cases hxs : xn = mn
        · subst hxs
          have hnn : (xn.toList != xn.toList) = false := by simp
          rcases hmk with ⟨hA, rfl, rfl⟩ | ⟨hA, rfl, rfl⟩
          · have hn1 : decide ((A.length : Int) ≤ pre.length) = false := by simp; omega
            cases xl with
            | true =>
              have hbad : ¬ (pre ++ [((true, xi), xn)]) <+: enA A C := spre_bad HM.out (by simp)
              gi_wp2
              exact ⟨(KeepsOthers.setCell _ _ _).from _, .inl ⟨rfl, hbad⟩⟩
            | false =>
              by_cases hxi : xi = pre.length
              · subst hxi
                have hjj : (((pre.length : Nat) : Int) != (pre.length : Int)) = false := by simp
                gi_wp2
                · exact ⟨(KeepsOthers.setCell _ _ _).from _, .inr ⟨rfl, HKp.out.trans (KpL.setBox HKn.out _), HBw.out.setCell (p := ⟨K2, 0, none⟩) (by show w.heap.size ≤ K2; omega) _, by rw [List.length_append]; exact Boxed.set _ HNn.out, by have hq : ((pre.length : Int) + 1 == leave) = true := (by assumption); simp at hq; simp only [List.length_append, List.length_cons, List.length_nil]; omega, (KeepsOthers.setCell _ _ _).same D1 _ hds.out rfl⟩⟩
                · exact ⟨(KeepsOthers.setCell _ _ _).from _, KpL.setBox (fun g hg => HKn.out g (by simp [alL, hg])) _, HKp.out.trans (KpL.setBox HKn.out _), HBw.out.setCell (p := ⟨K2, 0, none⟩) (by show w.heap.size ≤ K2; omega) _, by rw [List.length_append]; exact Boxed.set _ HNn.out, spre_step hP.out HM.out, (KeepsOthers.setCell _ _ _).same D1 _ hds.out rfl⟩
              · have hbad : ¬ (pre ++ [((false, xi), xn)]) <+: enA A C := spre_bad HM.out (by simp; exact hxi)
                have hjj : ((xi : Int) != (pre.length : Int)) = true := by simp; omega
                gi_wp2
                exact ⟨(KeepsOthers.setCell _ _ _).from _, .inl ⟨rfl, hbad⟩⟩
          · have hn1 : decide ((A.length : Int) ≤ pre.length) = true := by simp; omega
            cases xl with
            | false =>
              have hbad : ¬ (pre ++ [((false, xi), xn)]) <+: enA A C := spre_bad HM.out (by simp)
              gi_wp2
              exact ⟨(KeepsOthers.setCell _ _ _).from _, .inl ⟨rfl, hbad⟩⟩
            | true =>
              have hdd : (0 : Int) ≤ (pre.length : Int) - A.length := by omega
              by_cases hxi : xi = pre.length - A.length
              · obtain ⟨d, hd⟩ : ∃ d : Nat, d = pre.length - A.length := ⟨_, rfl⟩
                rw [← hd] at hxi HM
                subst hxi
                have hjj : ((xi : Int) != (pre.length : Int) - A.length) = false := by simp; omega
                clear hd
                gi_wp2
                · exact ⟨(KeepsOthers.setCell _ _ _).from _, .inr ⟨rfl, HKp.out.trans (KpL.setBox HKn.out _), HBw.out.setCell (p := ⟨K2, 0, none⟩) (by show w.heap.size ≤ K2; omega) _, by rw [List.length_append]; exact Boxed.set _ HNn.out, by have hq : ((pre.length : Int) + 1 == leave) = true := (by assumption); simp at hq; simp only [List.length_append, List.length_cons, List.length_nil]; omega, (KeepsOthers.setCell _ _ _).same D1 _ hds.out rfl⟩⟩
                · exact ⟨(KeepsOthers.setCell _ _ _).from _, KpL.setBox (fun g hg => HKn.out g (by simp [alL, hg])) _, HKp.out.trans (KpL.setBox HKn.out _), HBw.out.setCell (p := ⟨K2, 0, none⟩) (by show w.heap.size ≤ K2; omega) _, by rw [List.length_append]; exact Boxed.set _ HNn.out, spre_step hP.out HM.out, (KeepsOthers.setCell _ _ _).same D1 _ hds.out rfl⟩
              · have hbad : ¬ (pre ++ [((true, xi), xn)]) <+: enA A C := spre_bad HM.out (by simp; exact hxi)
                have hjj : ((xi : Int) != (pre.length : Int) - A.length) = true := by simp; omega
                gi_wp2
                exact ⟨(KeepsOthers.setCell _ _ _).from _, .inl ⟨rfl, hbad⟩⟩
        · have hbad : ¬ (pre ++ [((xl, xi), xn)]) <+: enA A C := spre_bad HM.out (by simp; intro _ _; exact hxs)
          have hnn : (xn.toList != mn.toList) = true := by
            simp only [bne_iff_ne, ne_eq]
            exact fun h => hxs ((toList_inj _ _).1 h)
          have hnn2 : (xn.toList == mn.toList) = false := by
            simp only [beq_eq_false_iff_ne, ne_eq]
            exact fun h => hxs ((toList_inj _ _).1 h)
          clear hxs hmk
          gi_wp2
          exact ⟨(KeepsOthers.setCell _ _ _).from _, .inl ⟨rfl, hbad⟩⟩
      case done2 =>
        rintro xs W rfl ⟨a1, a2, a3, _, a5⟩
        rw [enA_len] at a3
        exact ⟨a1, a2, a5, _, a3, .inr rfl⟩
      case stop2 =>
        rintro c pre W ⟨hne, hpre⟩ h
        rcases h with ⟨rfl, hbad⟩ | ⟨rfl, h2, h3, h4, h5, h6⟩
        · exact absurd hpre hbad
        · exact ⟨rfl, h2, h3, h6, _, h4, .inl h5⟩
      case fin2 =>
      rintro D2 W2 hD2 ⟨hKp2, hBw2, hds2, q, hN2, hq⟩ hKD2
      have HAe2 : Hid (AlF W2 w.heap.size Ball Bn tb leave (.slice a4 (A.length + C.length) c4) v1 v2 A C) := HA2.out.kept hKp2
      have HBe2 := Lib.hid hBw2
      have cK := hN2.cell
      have cL := HAe2.out.l.cell
      have cA := HAe2.out.a.cell
      have hxs2 := hKp2.size
      have HKD2 := Lib.hid hKD2
      clear hKp2 hBw2 hN2 HA2 HB2 n2 HL2 hKD2
      have hcond : (((q : Int) != leave) = false) ∨ (((q : Int) != leave) = true ∧ ((q : Int) != ((A.length + C.length : Nat) : Int)) = false ∧ ((q : Int) != (A.length : Int) + C.length) = false) := by
        by_cases hql : (q : Int) = leave
        · exact .inl (by simpa using hql)
        · refine .inr ⟨by simpa using hql, ?_, ?_⟩
          · rcases hq with hq | hq
            · exact absurd hq hql
            · simp; omega
          · rcases hq with hq | hq
            · exact absurd hq hql
            · simp; omega
      clear hq
      rcases hcond with hc0 | ⟨hc0, hc1, hc2⟩
      all_goals
        gi_wp2
        rw [roundsIn_succ]
        clear cK cL cA hc0
        have r9 := HAe2.out.r
        have hbel9 := HBe2.out
        have k1 := hds2.out
        have k2 := HKD2.out
        have cR9 := r9.cell
        have fR9 := r9.frozen
        gi_wp2
        have s1 := (KeepsOthers.setCell W2 ⟨w.heap.size + 1, 0, none⟩ (.bool true)).same D1 _ k1 rfl
        have s2 := (KeepsOthers.setCell W2 ⟨w.heap.size + 1, 0, none⟩ (.bool true)).same D2 _ k2 rfl
        have r10 := Boxed.set (.bool true) r9
        have hbel10 : Below w.heap.size w (W2.setCell ⟨w.heap.size + 1, 0, none⟩ (.bool true)) := hbel9.setCell (p := ⟨w.heap.size + 1, 0, none⟩) (by simp) _
        generalize W2.setCell ⟨w.heap.size + 1, 0, none⟩ (.bool true) = w10 at *
        have s3 : (w10.putObj D2 (.deferred none)).heap[D1]? = some (.deferred (some [])) := (World.putObj_heap_other (by omega)).trans s1
        have r11 : Boxed (w10.putObj D2 (.deferred none)) (w.heap.size + 1) 4 (.bool true) := bx_keep r10 (grownBy_putObj' _ _ _) (fun r e => by cases e; exact ⟨_, s2, rfl⟩)
        have r12 : Boxed ((w10.putObj D2 (.deferred none)).putObj D1 (.deferred none)) (w.heap.size + 1) 4 (.bool true) := bx_keep r11 (grownBy_putObj' _ _ _) (fun r e => by cases e; exact ⟨_, s3, rfl⟩)
        have b11 := hbel10.trans (belowK_b (w := w) (Nat.le_refl _) w10 D2 _ (.deferred none) (by omega) s2 rfl rfl)
        have b12 := b11.trans (belowK_b (w := w) (Nat.le_refl _) _ D1 _ (.deferred none) (by omega) s3 rfl rfl)
        refine ⟨by simp, .inl ⟨_, _, rfl, run_takeDeferred s2, ?_⟩⟩
        refine ⟨by simp, .inl ⟨_, _, rfl, run_takeDeferred s3, ?_⟩⟩
        refine ⟨.bool true, ?_, rfl, b12⟩
        have c12 := r12.cell
        simp [results, Tryz.f5, go_sem, c12]
  · have HT := Lib.hid (fun w h => rTable_err (.slice a0 G.length c0) G w h hl hl2 (by omega) hc)
    clear hl hl2 hn2 hc h
    refine callsIn_of_wp_marks Tryz.func5 rfl trivial ?_ rfl
    simp only [Tryz.ntmps5, List.size_toArray, List.length_cons, List.length_nil, Nat.reduceAdd, Nat.reduceSub, Array.replicate_succ, Array.replicate_zero, List.push_toArray, List.append_toArray, List.nil_append, List.cons_append]
    gi_wp2_with fail
    generalize ((w.alloc (.cells #[.int .i64 leave] 3)).alloc (.cells #[.bool false] 4)) = w0 at *
    refine ⟨trivial, (callsIn_wide.2 (HT.out _ HG0.out)).mono ?_⟩
    rintro e w1 ⟨rfl, hb1⟩
    have br1 : Boxed w1 (w.heap.size + 1) 4 (.bool false) := (hb1.block _ br0.lt).trans br0
    have HB1 := Lib.hid (HB0.out.trans (hb1.mono HB0.out.size))
    have cR := br1.cell
    have fR := br1.frozen
    clear hb1 HG0 HB0 bl0 br0
    gi_wp2
    refine ⟨.bool true, ?_, rfl, HB1.out.setCell (p := ⟨w.heap.size + 1, 0, none⟩) (by simp) _⟩
    have c12 := (Boxed.set (.bool true) br1).cell
    simp [results, Tryz.f5, go_sem, c12]
theorem symbolsAll_any (v : Value) (G : List Ru) (leave : Int) (w : World) (h : RdRu w v G) (hb : Bulk G 1048576) :
    Calls Tryz.prog 5 #[v, .int .i64 leave] w fun e w' => e = .returned (.bool true) ∧ Below w.heap.size w w' :=
  callsIn_wide.1 (symbolsAll_in 8 (by omega) v G leave w h hb)
end Go.Proofs.YtfmcbpnhpckmjaaGreat
namespace Go.Proofs.YtfmcbpnhpckmjaaGreat.symbolsAll
open Go.ChangeShapes Go.WideShapes Go.ChangeAt Go.RowKit
open Go.ChangeMaps (open_string shut_string)

theorem laid : laidOutB Tryz.prog = true := by kernel_rfl

theorem own : ownKnob Tryz.prog.godebug = none := by kernel_rfl

set_option maxRecDepth 100000 in
theorem contract (H : Type) (enc : TypeId × Value → H) (W : World) (base : Nat) (args : Array Value) (ds gs : List (DataW H)) (before : List MemPlace)
    (hval : ∀ (j : Nat) t v, Tryz.f5.params[j]? = some t → args[j]? = some v → Value.okWide Tryz.prog W .any base t v)
    (hW : DataW.Whole enc Tryz.prog Tryz.f5.params.toList Rows.symbolsAllSpec.vars false W args.toList ds gs before) (hk : Rows.uptoSmall H (ds ++ gs) = true) :
    Calls Tryz.prog 5 args W fun e W' => ∃ v, e = .returned v ∧ Rows.symbolsAllSpec.post enc Tryz.prog Tryz.f5 false true false false W args v W' := by
  have hW' := hW
  obtain ⟨p, q, hA0, hV, rfl, hfz, hnd⟩ := hW
  have hA : DataW.TrodAll enc Tryz.prog W 0 (fun _ => true) true Tryz.f5.params.toList args.toList ds p := hA0
  rw [Tryz.params5] at hA hval
  obtain ⟨v0, vs0, d0, ds0, p0, q0, hargs, rfl, rfl, h0, r0⟩ := trodAll_cons hA
  obtain ⟨v1, vs1, d1, ds1, p1, q1, rfl, rfl, rfl, h1, r1⟩ := trodAll_cons r0
  obtain ⟨rfl, rfl, rfl⟩ := trodAll_nil r1
  obtain rfl : args = #[v0, v1] := by cases args; simp_all
  obtain ⟨rfl, rfl⟩ := trodVars_none hV
  have hlt0 : ∀ x ∈ p0, x.block < W.heap.size := fun x hx => by simpa using hW'.lt x (by simp [hx])
  obtain ⟨a0, w0, t0⟩ := open_rules (hval 0 22 v0 rfl rfl) h0
  obtain ⟨a1, rfl, rfl, rfl, w1⟩ := open_int Tryz.underlying3 (hval 1 3 v1 rfl rfl) h1
  clear hA0
  have hb : Rows.uptoBulkAll [d0 , DataW.lit (H := H) (.int .i64 a1)] ≤ 1048576 := of_decide_eq_true hk
  simp only [Rows.uptoBulkAll, Rows.uptoBulk] at hb
  simp only [List.append_nil] at hW'
  refine (symbolsAll_any v0 a0 a1 W w0 (t0.mono (by omega))).mono fun e W' ⟨he, bel⟩ => ?_
  subst he
  exact ⟨_, rfl, _, _, _, [], _, [], hW', trodAll_mk1 (shut_bool Tryz.underlying4 _), (trodAll_cons_mk (Below.trod laid (by kernel_rfl) (of_decide_eq_true (by kernel_rfl)) h0 bel hlt0) (trodAll_cons_mk (shut_int Tryz.underlying3 w1) trodAll_mk0)), rfl, bel.frame _, fun h => by cases h⟩

set_option maxRecDepth 100000 in
theorem lifted (os : Os) (started : os.Started) (H : Type) (enc : TypeId × Value → H) (F : Stop.Interp) :
    ReturnsInHanded {} Tryz.checked os 5 .any ((Rows.OpenSpec.upto Rows.symbolsAllSpec).pre6 enc Tryz.prog Tryz.f5 Rows.symbolsAllUptoRow.domain false) (((Rows.OpenSpec.upto Rows.symbolsAllSpec).at F).post enc Tryz.prog Tryz.f5 false true false false) := by
  refine returnsInHanded_of_cond (C := Tryz.checked) (s := Rows.OpenSpec.upto Rows.symbolsAllSpec) (k := Rows.uptoSmall) rfl own started (by kernel_rfl) Tryz.func5
    (OpenSpec.witness (enc := enc) (C := Tryz.checked) (s := Rows.OpenSpec.upto Rows.symbolsAllSpec) (k := Rows.uptoSmall) rfl false ⟨#[], #[.slice none 0 0, .int .i64 0], []⟩ 8 (by kernel_rfl) (by kernel_rfl) (by kernel_rfl)
      (x := ([.nil, .lit (.int .i64 0)], [], [])) (by kernel_rfl) rfl (by kernel_rfl)) ?_
  intro W base args ds gs before hval hW _ hk _
  exact contract H enc W base args ds gs before hval hW hk

theorem proved : Rows.SymbolsAllUptoSaid :=
  OpenClaim.holds_of_cond 5 Tryz.f5 rfl rfl rfl rfl rfl rfl rfl ⟨rfl, rfl, rfl, rfl, rfl⟩ rfl rfl rfl rfl rfl (by kernel_rfl) Tryz.func5 (by kernel_rfl)
    (of_decide_eq_true (by kernel_rfl)) (by unfold Func.isWrapper; first | (rw [if_pos (by decide +kernel)]; kernel_rfl) | (rw [if_neg (by decide +kernel)]; exact ⟨rfl, rfl⟩))
    (fun os started H enc _ F => lifted os started H enc F)
#print axioms proved
end Go.Proofs.YtfmcbpnhpckmjaaGreat.symbolsAll
