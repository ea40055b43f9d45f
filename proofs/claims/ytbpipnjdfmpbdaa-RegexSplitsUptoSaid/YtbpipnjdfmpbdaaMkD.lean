import Derived.Test.YtbpipnjdfmpbdaaMkC0
import Derived.Test.YtbpipnjdfmpbdaaLibIn
namespace Go.Proofs.Ytbpipnjdfmpbdaa
open Go.RowKit Go.Shelf
attribute [local go_sem] Oper.semAt_some

/-- what a loop over All must keep: the text's box and its own mark's -/
structure KpBox (Bn : Nat) (W W' : World) : Prop where
  size : W.heap.size ≤ W'.heap.size
  box : W'.heap[Bn]? = W.heap[Bn]?
  ones : KeepsOnes 98 3 W W'
theorem KpBox.trans {Bn : Nat} {A B C : World} (h : KpBox Bn A B) (k : KpBox Bn B C) : KpBox Bn A C := ⟨Nat.le_trans h.size k.size, k.box.trans h.box, h.ones.trans k.ones⟩
theorem KpBox.of_below {Bn : Nat} {A B : World} (h : Below A.heap.size A B) (hB : Bn < A.heap.size) : KpBox Bn A B := ⟨h.size, h.block Bn hB, .of_below h⟩
theorem KpBox.putObj {Bn : Nat} {w : World} (hB : Bn < w.heap.size) (W : World) (l : Nat) (o o' : Obj) (hl : w.heap.size ≤ l) (h : W.heap[l]? = some o) (ho : o.isCells = false) (_ : o.isWalk = false) : KpBox Bn W (W.putObj l o') :=
  ⟨by simp, World.putObj_heap_other (by omega), .putObj h ho o'⟩

set_option maxRecDepth 100000 in
set_option maxHeartbeats 1600000 in
theorem all1_in (n : Nat) (hn : 3 ≤ n) (l Bn : Nat) (s : ByteArray) (hs : s.size ≤ 16777216) (J Jx : List Mk → World → Prop) (B0 : Nat)
    (hY : ∀ pre x W, J pre W → pre.length < (cut s 0).1.length → YieldAt Fence.wide (n - 1) Try.prog l #[x.val] W fun e W' =>
      (e = .returned (.bool true) ∧ J (pre ++ [x]) W' ∧ KpBox Bn W W') ∨ (e = .returned (.bool false) ∧ Jx (pre ++ [x]) W'))
    (hJ : AbidesFrom B0 J) (W : World) (_hB0 : B0 ≤ W.heap.size) (hBn : W.cell? ⟨Bn, 0, none⟩ = some (.string s)) (h0 : J [] W) :
    CallsIn Fence.wide n Try.prog 95 #[.func (.yield l) #[] #[], .pointer (some ⟨Bn, 0, none⟩)] W fun e W' => (∃ v, e = .returned v) ∧
      ((∃ ys, ys = (cut s 0).1 ∧ J ys W') ∨ (∃ pre, (pre ≠ [] ∧ pre <+: (cut s 0).1) ∧ Jx pre W')) := by
  refine callsIn_of_wp Try.func95 rfl trivial ?_ rfl
  simp only [Try.ntmps95, List.size_toArray, List.length_cons, List.length_nil, Nat.reduceAdd, Nat.reduceSub, Array.replicate_succ, Array.replicate_zero, List.push_toArray, List.append_toArray, List.nil_append, List.cons_append]
  gi_wp2
  gi_loopw [3] (fun i wr => ∃ (k : Nat) (pre : List Mk), i = .int .i64 k ∧ k ≤ s.size ∧ Hid ((cut s 0).1 = pre ++ (cut s k).1) ∧ J pre wr ∧ wr.cell? ⟨Bn, 0, none⟩ = some (.string s) ∧ W.heap.size ≤ wr.heap.size)
    (fun i _ => s.size - (intOf i).toNat)
  case atStart => exact ⟨0, [], rfl, by omega, rfl, h0, hBn, Nat.le_refl _⟩
  case round =>
    obtain ⟨k, pre, rfl, hk, HC, hJs, hbox, hsz⟩ := hrel
    obtain ⟨m, hm⟩ : ∃ m, m = nextM s k := ⟨_, rfl⟩
    have HN : ∀ w, Calls Try.prog 73 #[.string s, .int .i64 k] w fun e w' => e = .returned (.agg #[.int .i64 m.k, .int .i64 m.p, .string m.t]) ∧ Below w.heap.size w w' := by
      intro w; rw [hm]; exact next_any s k w (by unfold maxLen; omega) hk
    have Hm := Lib.hid hm
    have HN' := Lib.hid HN
    have HY := Lib.hid hY
    have HJ := Lib.hid hJ
    clear hm HN hY hJ
    obtain ⟨mk, mp, mt⟩ := m
    gi_wp2_with fail
    refine ⟨trivial, (by intro h; cases h), (callsIn_wide.2 (HN'.out _)).mono ?_⟩
    rintro e w1 ⟨rfl, hb1⟩
    have hb2 : Below wr.heap.size wr (w1.alloc (.cells #[.int .i64 mk, .int .i64 mp, .string mt] 98)) := hb1.alloc hb1.size _
    have hJ2 := HJ.out pre _ _ none hJs (grown_of_below hb2) (by intro r e; cases e)
    have hBlt : Bn < wr.heap.size := World.block_lt_of_cell? wr ⟨Bn, 0, none⟩ hbox
    have hbox2 := (hb2.cell (p := ⟨Bn, 0, none⟩) hBlt).trans hbox
    by_cases hk0 : mk = 0
    · subst hk0
      gi_wp2
      refine ⟨fun _ h => (by cases h), ?_⟩
      gi_wp2
      refine bodyPost_ret (results_none rfl _ _ _) rfl ?_
      refine ⟨⟨_, rfl⟩, .inl ⟨(cut s 0).1, rfl, ?_⟩⟩
      have e : (cut s k).1 = [] := by rw [cut_none s k hk (by rw [← Hm.out])]
      rw [HC.out, e, List.append_nil]
      exact hJ2
    · have hk0' : (mk == 0) = false := by simpa using hk0
      have e : (cut s k).1 = nextM s k :: (cut s ((nextM s k).p + (nextM s k).t.size)).1 := by rw [cut_some s k hk (by rw [← Hm.out]; exact hk0)]
      have hz := nextM_size s k (by rw [← Hm.out]; exact hk0)
      rw [← Hm.out] at e hz
      have hlen : pre.length < (cut s 0).1.length := by rw [HC.out, e]; simp
      obtain ⟨fn, tmps, assign, body, hy, hR⟩ := HY.out pre ⟨mk, mp, mt⟩ _ hJ2 hlen
      have HE := Lib.hid e
      clear e
      dsimp only [Mk.val] at hy
      gi_wp2
      refine ⟨fun _ => by omega, hR.mono ?_⟩
      rintro e W3 (⟨rfl, hJ3, hk3⟩ | ⟨rfl, hJx3⟩)
      · have hw1 : (w1.alloc (.cells #[.int .i64 mk, .int .i64 mp, .string mt] 98)).heap[w1.heap.size]? = some (.cells #[.int .i64 mk, .int .i64 mp, .string mt] 98 (0, 0)) := World.alloc_heap_new w1 _
        have h3 := (hk3.ones _ _ _ hw1 rfl).trans hw1
        have c1 : W3.cell? ⟨w1.heap.size, 1, none⟩ = some (.int .i64 mp) := by simp [World.cell?, h3]
        have c2 : W3.cell? ⟨w1.heap.size, 2, none⟩ = some (.string mt) := by simp [World.cell?, h3]
        have hsz3 : W.heap.size ≤ W3.heap.size := by have := hk3.size; have := hb2.size; omega
        have hbox3 : W3.cell? ⟨Bn, 0, none⟩ = some (.string s) := (World.cell?_of_block (a := ⟨Bn, 0, none⟩) hk3.box).trans hbox2
        clear h3 hw1 hk3 hbox2 hbox hJ2 hb2 hb1 hy hR
        gi_wp2
        go_roundw
        case rel => exact ⟨mp + mt.size, pre ++ [⟨mk, mp, mt⟩], by go_num, hz.2.1, by unfold Hid; rw [HC.out, HE.out]; simp, hJ3, hbox3, hsz3⟩
        case measure => simp [intOf]; omega
      · gi_wp2
        refine bodyPost_ret (results_none rfl _ _ _) rfl ?_
        exact ⟨⟨_, rfl⟩, .inr ⟨pre ++ [⟨mk, mp, mt⟩], ⟨by simp, by rw [HC.out, HE.out]; exact ⟨_, by rw [List.append_assoc]; rfl⟩⟩, hJx3⟩⟩

theorem all_in (n : Nat) (s : ByteArray) (w : World) :
    CallsIn Fence.wide n Try.prog 72 #[.string s] w fun e w' => e = .returned (.func (.func 95) #[] #[.pointer (some ⟨w.heap.size, 0, none⟩)]) ∧ w' = w.alloc (.cells #[.string s] 9) := by
  refine callsIn_of_wp Try.func72 rfl trivial ?_ rfl
  simp only [Try.ntmps72, List.size_toArray, List.length_cons, List.length_nil, Nat.reduceAdd, Nat.reduceSub, Array.replicate_succ, Array.replicate_zero, List.push_toArray, List.append_toArray, List.nil_append, List.cons_append]
  gi_wp2
  go_ret
  exact ⟨rfl, rfl⟩

theorem all_stops (n : Nat) (hn : 3 ≤ n) (Bn : Nat) (s : ByteArray) (hs : s.size ≤ 16777216) (w : World) (hc : w.cell? ⟨Bn, 0, none⟩ = some (.string s)) :
    SeqStopsK Fence.wide n Try.prog 95 #[.pointer (some ⟨Bn, 0, none⟩)] (fun x : Mk => #[x.val]) (KpBox Bn) (fun ys => ys = (cut s 0).1) (fun pre => pre ≠ [] ∧ pre <+: (cut s 0).1) (cut s 0).1.length w :=
  fun l J Jx W hW hJ _ hY h0 => all1_in n hn l Bn s hs J Jx W.heap.size hY hJ W (Nat.le_refl _) ((hW.cell (p := ⟨Bn, 0, none⟩) (World.block_lt_of_cell? w ⟨Bn, 0, none⟩ hc)).trans hc) h0
end Go.Proofs.Ytbpipnjdfmpbdaa
