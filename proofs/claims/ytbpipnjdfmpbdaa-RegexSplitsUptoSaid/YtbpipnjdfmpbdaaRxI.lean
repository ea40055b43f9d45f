import Derived.Test.YtbpipnjdfmpbdaaRxH
import Derived.Test.YtbpipnjdfmpbdaaMkPre
namespace Go.Proofs.Ytbpipnjdfmpbdaa
open Go.RowKit Go.Shelf

def parsed (s : ByteArray) : PR := pExpr (cut s 0).1 ((cut s 0).1.length + 1) 0
def readS (s : ByteArray) : List Nd × Int × Int :=
  if 2048 < s.size then ([], 0, 3)
  else if (parsed s).ok = true ∧ (parsed s).p = (cut s 0).1.length ∧ (cut s 0).2 = s.size then ((parsed s).f.flat, 0, 0)
  else ([], plc (cut s 0).1 (cut s 0).2 (parsed s).p, 172)
/-- what Read leaves -/
def RRet (w : World) (x : List Nd × Int × Int) (e : Ending) (w' : World) : Prop :=
  ∃ v, e = .returned (.tuple #[v, .int .i64 x.2.1, .int .i64 x.2.2]) ∧ OwnNd w' w.heap.size v x.1 ∧ Below w.heap.size w w'

theorem read_results (tmps : Array Value) (b2 b3 b4 : Nat) (v2 : Value) (x e : Int) (w : World) (h2 : tmps[2]? = some (.pointer (some ⟨b2, 0, none⟩))) (h3 : tmps[3]? = some (.pointer (some ⟨b3, 0, none⟩))) (h4 : tmps[4]? = some (.pointer (some ⟨b4, 0, none⟩)))
    (k2 : Boxed w b2 22 v2) (k3 : Boxed w b3 3 (.int .i64 x)) (k4 : Boxed w b4 23 (.int .i64 e)) : (results Try.f17 tmps).run Try.prog w = .ok (.tuple #[v2, .int .i64 x, .int .i64 e]) w := by
  have c2 := k2.cell
  have c3 := k3.cell
  have c4 := k4.cell
  simp [results, Try.results17, go_sem, h2, h3, h4, c2, c3, c4]
set_option maxRecDepth 100000 in
set_option maxHeartbeats 1600000 in
theorem xRead_long (s : ByteArray) (w : World) (hs : 2048 < s.size) :
    Calls Try.prog 17 #[.string s] w (RRet w ([], 0, 3)) := by
  have hmf : ∀ (fn : Fn) (first cap : Array Value) (w : World), (Instr.makeFunc fn first cap).run Try.prog w = .ok (.func fn first cap) w := fun _ _ _ _ => rfl
  go_enter_defers Try.func17, Try.ntmps17
  go_wp2
  have k2 := ((Boxed.new w 22 (.slice none 0 0)).alloc (.cells #[.int .i64 0] 3)).alloc (.cells #[.int .i64 3] 23)
  have k3 := (Boxed.new (w.alloc (.cells #[.slice none 0 0] 22)) 3 (.int .i64 0)).alloc (.cells #[.int .i64 3] 23)
  have k4 := Boxed.new ((w.alloc (.cells #[.slice none 0 0] 22)).alloc (.cells #[.int .i64 0] 3)) 23 (.int .i64 3)
  exact ⟨_, read_results _ _ _ _ _ _ _ _ (by simp) (by simp) (by simp) k2 k3 k4, .slice none 0 0, rfl, World.ownsRow_nil _ _ _ _, below3 _ _ _ _⟩

/-- the deferred call that Read lays -/
def rcv (b2 b3 b4 : Nat) : List Deferred := [{ target := .fn (.func 45) #[.pointer (some ⟨b2, 0, none⟩), .pointer (some ⟨b3, 0, none⟩), .pointer (some ⟨b4, 0, none⟩)], args := #[] }]
theorem door_panic {w w7 : World} {tmps : Array Value} {b2 b3 b4 : Nat} {x : Int} {v2 v3 v4 : Value} (h2 : tmps[2]? = some (.pointer (some ⟨b2, 0, none⟩))) (h3 : tmps[3]? = some (.pointer (some ⟨b3, 0, none⟩))) (h4 : tmps[4]? = some (.pointer (some ⟨b4, 0, none⟩)))
    (k2 : Boxed w7 b2 22 v2) (k3 : Boxed w7 b3 3 v3) (k4 : Boxed w7 b4 23 v4) (n23 : b2 ≠ b3) (n24 : b2 ≠ b4) (n34 : b3 ≠ b4) (hb : Below w.heap.size w w7) (e2 : w.heap.size ≤ b2) (e3 : w.heap.size ≤ b3) (e4 : w.heap.size ≤ b4) :
    bodyPostD Try.prog Try.f17 (RRet w ([], x, 172)) (.panic (wrongV x)) { tmps := tmps, defers := rcv b2 b3 b4 } w7 := by
  refine leaves_cons (f := 45) (args := #[.pointer (some ⟨b2, 0, none⟩), .pointer (some ⟨b3, 0, none⟩), .pointer (some ⟨b4, 0, none⟩)]) (by simp [wrongV]) (by simp [go_sem]) ?_
  refine (xCatch_panic b2 b3 b4 x [] w7 v2 v3 v4 k2 k3 k4 n23 n24 n34).mono ?_
  rintro e u' w8 ⟨rfl, rfl, c2, c3, c4, hw⟩
  exact ⟨_, read_results _ _ _ _ _ _ _ _ h2 h3 h4 c2 c3 c4, _, rfl, World.ownsRow_nil _ _ _ _, hw _ _ hb e2 e3 e4 hb.size⟩
theorem door_ret {w w7 : World} {tmps : Array Value} {b2 b3 b4 : Nat} {v2 : Value} {l : List Nd} (h2 : tmps[2]? = some (.pointer (some ⟨b2, 0, none⟩))) (h3 : tmps[3]? = some (.pointer (some ⟨b3, 0, none⟩))) (h4 : tmps[4]? = some (.pointer (some ⟨b4, 0, none⟩)))
    (k2 : Boxed w7 b2 22 v2) (k3 : Boxed w7 b3 3 (.int .i64 0)) (k4 : Boxed w7 b4 23 (.int .i64 0)) (hb : Below w.heap.size w w7) (ho : OwnNd w7 w.heap.size v2 l) :
    bodyPostD Try.prog Try.f17 (RRet w (l, 0, 0)) .ret { tmps := tmps, defers := rcv b2 b3 b4 } w7 := by
  refine leaves_cons (f := 45) (args := #[.pointer (some ⟨b2, 0, none⟩), .pointer (some ⟨b3, 0, none⟩), .pointer (some ⟨b4, 0, none⟩)]) (by simp) (by simp [go_sem]) ?_
  refine (xCatch_idle _ _ _ w7).mono ?_
  rintro e u' w8 ⟨rfl, rfl, rfl⟩
  exact ⟨_, read_results _ _ _ _ _ _ _ _ h2 h3 h4 k2 k3 k4, _, rfl, ho, hb⟩
theorem rdr_laid {w : World} {Br B : Nat} {v0 v1 : Value} {L : List Mk} {p : Nat} {en : Int} (h : w.heap[Br]? = some (.cells #[v0, .int .i64 p, .int .i64 en] 74 (0, 0))) (ho : OwnMk w B v1 L) (hB : Br < B) : Rdr (w.setCell ⟨Br, 0, none⟩ v1) Br v1 L p en := by
  have ho2 : OwnMk (w.setCell ⟨Br, 0, none⟩ v1) B v1 L := own_grown ho (grown_set w Br 0 v1) (fun j hj => by simp at hj; subst hj; exact .inl hB)
  refine ⟨?_, RdMk.of_own ho2, ?_⟩
  · simp only [World.setCell]
    rw [Array.getElem?_modify, if_pos rfl, h]
    rfl
  · rintro a n c rfl
    have := own_block ho a.block
    rcases ho.2 with ⟨e, _⟩ | ⟨g, cap, cur, e, h3, _⟩
    · cases e
    · simp at e; obtain ⟨rfl, -, -⟩ := e; simp only; omega
/-- the world in which Read begins to read -/
structure RdBase (w w4 : World) (b1 b2 b3 : Nat) : Prop where
  below : Below w.heap.size w w4
  k2 : Boxed w4 w.heap.size 22 (.slice none 0 0)
  k3 : Boxed w4 b1 3 (.int .i64 0)
  k4 : Boxed w4 b2 23 (.int .i64 0)
  lt : b3 < w4.heap.size
  e1 : b1 = w.heap.size + 1
  e2 : b2 = w.heap.size + 1 + 1
  e3 : b3 = w.heap.size + 1 + 1 + 1
theorem read_base (w : World) (n : Int) : RdBase w ((((w.alloc (.cells #[.slice none 0 0] 22)).alloc (.cells #[.int .i64 0] 3)).alloc (.cells #[.int .i64 0] 23)).alloc (.cells #[.slice none 0 0, .int .i64 0, .int .i64 n] 74)) (w.heap.size + 1) (w.heap.size + 1 + 1) (w.heap.size + 1 + 1 + 1) ∧
    ((((w.alloc (.cells #[.slice none 0 0] 22)).alloc (.cells #[.int .i64 0] 3)).alloc (.cells #[.int .i64 0] 23)).alloc (.cells #[.slice none 0 0, .int .i64 0, .int .i64 n] 74)).heap[w.heap.size + 1 + 1 + 1]? = some (.cells #[.slice none 0 0, .int .i64 0, .int .i64 n] 74 (0, 0)) := by
  refine ⟨⟨below4 _ _ _ _ _, ?_, ?_, ?_, by simp, rfl, rfl, rfl⟩, ?_⟩
  · exact (((Boxed.new w _ _).alloc _).alloc _).alloc _
  · have h := ((Boxed.new (w.alloc (.cells #[.slice none 0 0] 22)) 3 (.int .i64 0)).alloc (.cells #[.int .i64 0] 23)).alloc (.cells #[.slice none 0 0, .int .i64 0, .int .i64 n] 74)
    simpa using h
  · have h := (Boxed.new ((w.alloc (.cells #[.slice none 0 0] 22)).alloc (.cells #[.int .i64 0] 3)) 23 (.int .i64 0)).alloc (.cells #[.slice none 0 0, .int .i64 0, .int .i64 n] 74)
    simpa using h
  · have h := World.alloc_heap_new (((w.alloc (.cells #[.slice none 0 0] 22)).alloc (.cells #[.int .i64 0] 3)).alloc (.cells #[.int .i64 0] 23)) (.cells #[.slice none 0 0, .int .i64 0, .int .i64 n] 74)
    simpa using h

set_option maxRecDepth 100000 in
set_option maxHeartbeats 3200000 in
theorem xRead_good (s : ByteArray) (w : World) (hs : ¬ 2048 < s.size) (hq : (cut s 0).2 = s.size) :
    Calls Try.prog 17 #[.string s] w (RRet w (readS s)) := by
  have hmf : ∀ (fn : Fn) (first cap : Array Value) (w : World), (Instr.makeFunc fn first cap).run Try.prog w = .ok (.func fn first cap) w := fun _ _ _ _ => rfl
  have HS := Lib.hid (scan_any s (by omega))
  have HE : scanM s = ((cut s 0).1, 0, 0) := by unfold scanM; rw [if_neg (by omega)]
  rw [HE] at HS
  clear HE
  have hlen := (cut_len s s.size 0 (by omega) (by omega)).1
  have HR : Hid (readS s = if (parsed s).ok = true ∧ (parsed s).p = (cut s 0).1.length then ((parsed s).f.flat, 0, 0) else ([], plc (cut s 0).1 s.size (parsed s).p, 172)) := by
    unfold Hid readS; rw [if_neg hs, hq]; simp
  have HP : Hid (∀ Br vl w, Rdr w Br vl (cut s 0).1 0 s.size → Calls Try.prog 47 #[.pointer (some ⟨Br, 0, none⟩)] w (PRet Br vl (cut s 0).1 s.size w (parsed s))) :=
    fun Br vl w h => reads_expr Br vl _ _ (by omega) _ 0 (by omega) w h (by omega)
  have hpb := (pExpr_b (cut s 0).1 ((cut s 0).1.length + 1) 0 (by omega)).le
  change (parsed s).p ≤ _ at hpb
  generalize parsed s = r at *
  obtain ⟨ok, f, p⟩ := r
  generalize (cut s 0).1 = L at *
  clear hq
  go_enter_defers Try.func17, Try.ntmps17
  go_wp2_with fail
  obtain ⟨hB, hbox⟩ := read_base w s.size
  generalize hb1 : w.heap.size + 1 = b1 at *
  generalize hb2 : b1 + 1 = b2 at *
  generalize hb3 : b2 + 1 = b3 at *
  clear hb1 hb2 hb3
  generalize (((w.alloc (.cells #[.slice none 0 0] 22)).alloc (.cells #[.int .i64 0] 3)).alloc (.cells #[.int .i64 0] 23)).alloc (.cells #[.slice none 0 0, .int .i64 0, .int .i64 s.size] 74) = w4 at *
  have HB := Lib.hid hB
  have HBox := Lib.hid hbox
  have hb3 := hB.lt
  clear hB hbox
  refine (HS.out _).mono ?_
  rintro e w5 ⟨v1, rfl, ho1, hbl1⟩
  have HO1 := Lib.hid ho1
  have HG5 := Lib.hid (grown_below hbl1)
  have HBox5 : Hid (w5.heap[b3]? = some (.cells #[.slice none 0 0, .int .i64 0, .int .i64 s.size] 74 (0, 0))) := (hbl1.block b3 hb3).trans HBox.out
  have c0 : w5.cell? ⟨b3, 0, none⟩ = some (.slice none 0 0) := by have := HBox5.out; simp [World.cell?, this]
  have c1 : w5.frozen? ⟨b3, 0, none⟩ = false := by have := HBox5.out; simp [World.frozen?, this]
  obtain ⟨_, ao, cap, rfl, -⟩ := Rd.of_owns ho1
  clear ho1 hbl1
  go_wp2_with fail
  have HR6 := Lib.hid (rdr_laid HBox5.out HO1.out hb3)
  have HM6 := Lib.hid (own_grown HO1.out (grown_set w5 b3 0 (.slice ao L.length cap)) (fun j hj => by simp at hj; subst hj; exact .inl hb3))
  have HG6 := Lib.hid (grown_then (grown_none (row := some b3) HG5.out) (grown_set w5 b3 0 (.slice ao L.length cap)) (by simp))
  clear c0 c1 HBox5 HO1 HG5 HBox
  generalize w5.setCell ⟨b3, 0, none⟩ (.slice ao L.length cap) = w6 at *
  refine (HP.out _ _ _ HR6.out).mono ?_
  have e1 := HB.out.e1
  have e2 := HB.out.e2
  have e3 := HB.out.e3
  have hw4 := HB.out.below.size
  have HE := Lib.hid (show w.heap.size < b1 ∧ b1 < b2 ∧ b2 < b3 from by omega)
  rintro e w7 ⟨hg7, hcase⟩
  have HG7 := Lib.hid (HG6.out.trans hg7)
  have HB7 : Hid (Below w.heap.size w w7) := HB.out.below.trans ⟨HG7.out.os, HG7.out.tape, HG7.out.output, HG7.out.size, fun k hk => HG7.out.block k (by omega) (by simp; omega)⟩
  have K2 : Hid (Boxed w7 w.heap.size 22 (.slice none 0 0)) := HB.out.k2.kept HG7.out (by simp; omega)
  have K3 : Hid (Boxed w7 b1 3 (.int .i64 0)) := HB.out.k3.kept HG7.out (by simp; omega)
  have K4 : Hid (Boxed w7 b2 23 (.int .i64 0)) := HB.out.k4.kept HG7.out (by simp; omega)
  have HM7 : Hid (OwnMk w7 w4.heap.size (.slice ao L.length cap) L) := own_grown HM6.out hg7 (fun j hj => by simp at hj; subst hj; exact .inl hb3)
  have HSz : Hid (w.heap.size ≤ w6.heap.size) := by have := HG6.out.size; unfold Hid; omega
  clear hg7 e1 e2 e3 hw4
  rcases hcase with ⟨hok, v, rfl, ho7, hr7⟩ | ⟨hok, rfl⟩
  · simp only at hok
    subst hok
    have HO7 : Hid (OwnNd w7 w.heap.size v f.flat) := own_lower ho7 HSz.out
    have HR7 := Lib.hid hr7
    have c2 := K2.out.cell
    have f2 := K2.out.frozen
    clear ho7 hr7
    obtain ⟨_, ao2, cp2, rfl, -⟩ := Rd.of_owns HO7.out
    have HG8 := Lib.hid (grown_set w7 w.heap.size 0 (.slice ao2 f.flat.length cp2))
    have K2' : Hid (Boxed (w7.setCell ⟨w.heap.size, 0, none⟩ (.slice ao2 f.flat.length cp2)) w.heap.size 22 (.slice ao2 f.flat.length cp2)) := K2.out.set _
    have hE := HE.out
    have hw4 := HB.out.below.size
    have HR8 : Hid (Rdr (w7.setCell ⟨w.heap.size, 0, none⟩ (.slice ao2 f.flat.length cp2)) b3 (.slice ao L.length cap) L p s.size) := by
      refine ⟨(HG8.out.block b3 HR7.out.lt (by simp; omega)).trans HR7.out.box, ?_, HR7.out.apart⟩
      exact RdMk.of_own (own_grown (B := w4.heap.size) HM7.out HG8.out (fun j hj => by simp at hj; subst hj; left; have := HB.out.lt; omega))
    have HO8 : Hid (OwnNd (w7.setCell ⟨w.heap.size, 0, none⟩ (.slice ao2 f.flat.length cp2)) w.heap.size (.slice ao2 f.flat.length cp2) f.flat) := own_grown HO7.out HG8.out (fun j hj => by
      simp at hj; subst hj
      exact .inr (fun e => K2.out.not_row (by decide) HO7.out e.symm))
    clear hE hw4
    by_cases hlt : p < L.length
    · have hcv : decide ((p : Int) < L.length) = true := by simp; omega
      go_wp2_with fail
      generalize w7.setCell ⟨w.heap.size, 0, none⟩ (.slice ao2 f.flat.length cp2) = w8 at *
      obtain ⟨d0, d1, d2, d3⟩ := HR8.out.cells
      clear c2 f2
      go_quiet (fail)
      clear d0 d1 d2 d3
      have HG9 := Lib.hid (grown_drewN w8 nq none)
      generalize w8.drewN nq = w9 at *
      have HR9 := Lib.hid (HR8.out.kept HG9.out)
      go_wp2_with (go_at_call 48; refine (xFail_any b3 _ L p _ _ HR9.out hpb).mono ?_; rintro e w10 ⟨rfl, hg10⟩; have HG10 := Lib.hid hg10; clear hg10)
      rw [HR.out, if_neg (by simp; omega)]
      have hE := HE.out
      have hg : w7.grownBy w10 (some w.heap.size) := grown_then HG8.out (grown_then HG9.out HG10.out (by simp)) (by simp)
      have hg8 : w8.grownBy w10 none := grown_then HG9.out HG10.out (by simp)
      exact door_panic (by simp) (by simp) (by simp) (K2'.out.kept hg8 (by simp)) (K3.out.kept hg (by simp; omega)) (K4.out.kept hg (by simp; omega)) (by omega) (by omega) (by omega) (HB7.out.grown hg HB7.out.size (by simp)) (Nat.le_refl _) (by omega) (by omega)
    · have hcv : decide ((p : Int) < L.length) = false := by simp; omega
      obtain rfl : p = L.length := by omega
      go_wp2_with fail
      have c8 := K2'.out.cell
      have f8 := K2'.out.frozen
      have hE := HE.out
      have K3' : Hid (Boxed (w7.setCell ⟨w.heap.size, 0, none⟩ (.slice ao2 f.flat.length cp2)) b1 3 (.int .i64 0)) := K3.out.kept HG8.out (by simp; omega)
      have K4' : Hid (Boxed (w7.setCell ⟨w.heap.size, 0, none⟩ (.slice ao2 f.flat.length cp2)) b2 23 (.int .i64 0)) := K4.out.kept HG8.out (by simp; omega)
      generalize w7.setCell ⟨w.heap.size, 0, none⟩ (.slice ao2 f.flat.length cp2) = w8 at *
      obtain ⟨d0, d1, d2, d3⟩ := HR8.out.cells
      clear c2 f2 hE
      go_quiet (fail)
      clear d0 d1 d2 d3 c8 f8
      have HG9 := Lib.hid (grown_drewN w8 nq none)
      generalize w8.drewN nq = w9 at *
      have K2'' := Lib.hid (K2'.out.kept HG9.out (by simp))
      have K3'' := Lib.hid (K3'.out.kept HG9.out (by simp))
      have K4'' := Lib.hid (K4'.out.kept HG9.out (by simp))
      have c2 := K2''.out.cell
      have f2 := K2''.out.frozen
      have c3 := K3''.out.cell
      have f3 := K3''.out.frozen
      have c4 := K4''.out.cell
      have f4 := K4''.out.frozen
      obtain ⟨q1, q2, q3⟩ := HE.out
      have q4 : w.heap.size < b2 := by omega
      go_wp2_with fail
      clear c2 f2 c3 f3 c4 f4
      rw [HR.out, if_pos ⟨trivial, trivial⟩]
      have k2 := ((K2''.out.set (.slice ao2 f.flat.length cp2)).other (B' := b1) (by omega) (.int .i64 0)).other (B' := b2) (by omega) (.int .i64 0)
      have k3 := ((K3''.out.other (B' := w.heap.size) (by omega) (.slice ao2 f.flat.length cp2)).set (.int .i64 0)).other (B' := b2) (by omega) (.int .i64 0)
      have k4 := ((K4''.out.other (B' := w.heap.size) (by omega) (.slice ao2 f.flat.length cp2)).other (B' := b1) (by omega) (.int .i64 0)).set (.int .i64 0)
      have g9 : w7.grownBy w9 (some w.heap.size) := grown_then HG8.out HG9.out (by simp)
      have hb9 : Below w.heap.size w w9 := HB7.out.grown g9 HB7.out.size (by simp)
      have ho9 := HO8.out.grown HG9.out (by simp)
      refine door_ret (by simp) (by simp) (by simp) k2 k3 k4 (((hb9.setCell (p := ⟨w.heap.size, 0, none⟩) (Nat.le_refl _) _).setCell (p := ⟨b1, 0, none⟩) (by simp; omega) _).setCell (p := ⟨b2, 0, none⟩) (by simp; omega) _) ?_
      have o1 := own_grown ho9 (grown_set w9 w.heap.size 0 (.slice ao2 f.flat.length cp2)) (fun j hj => by simp at hj; subst hj; exact .inr (fun e => K2''.out.not_row (by decide) ho9 e.symm))
      have o2 := own_grown o1 (grown_set _ b1 0 (.int .i64 0)) (fun j hj => by simp at hj; subst hj; exact .inr (fun e => (K3''.out.other (B' := w.heap.size) (by omega) (.slice ao2 f.flat.length cp2)).not_row (by decide) o1 e.symm))
      exact own_grown o2 (grown_set _ b2 0 (.int .i64 0)) (fun j hj => by simp at hj; subst hj; exact .inr (fun e => ((K4''.out.other (B' := w.heap.size) (by omega) (.slice ao2 f.flat.length cp2)).other (B' := b1) (by omega) (.int .i64 0)).not_row (by decide) o2 e.symm))
  · simp only at hok
    subst hok
    go_wp2_with fail
    rw [HR.out, if_neg (by simp)]
    have hE := HE.out
    exact door_panic (by simp) (by simp) (by simp) K2.out K3.out K4.out (by omega) (by omega) (by omega) HB7.out (Nat.le_refl _) (by omega) (by omega)
end Go.Proofs.Ytbpipnjdfmpbdaa
