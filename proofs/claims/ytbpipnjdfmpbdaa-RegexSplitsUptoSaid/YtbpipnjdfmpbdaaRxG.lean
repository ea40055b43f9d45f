import Derived.Test.YtbpipnjdfmpbdaaRxF
namespace Go.Proofs.Ytbpipnjdfmpbdaa
open Go.RowKit Go.Shelf

theorem sPart_b {E : Nat → PR} {L : List Mk} {q : Nat} {r : PR} (hq : q ≤ L.length) (hE : ∀ x, q < x → x ≤ L.length → PB L x (E x)) (h : sPart E L q = some r) : SB L q r ∧ (r.ok = false → q < L.length) := by
  unfold sPart at h
  split at h
  · rename_i hb
    simp only [Option.some.injEq] at h
    subst h
    have G := pUnit_b (E := E) hq (fun h => hE _ (by omega) h)
    exact ⟨⟨G.le, G.lt, fun h => by have := G.size h; omega, G.one⟩, fun _ => begins_lt hb⟩
  · cases h
theorem sExpr_b {E : Nat → PR} {L : List Mk} {q : Nat} {r : PR} (hE : ∀ x, q < x → x ≤ L.length → PB L x (E x)) (h : sExpr E L q = some r) : SB L q r ∧ (r.ok = false → q < L.length) := by
  unfold sExpr at h
  split at h
  · rename_i hb
    simp only [Option.some.injEq] at h
    subst h
    have hlt := kd_lt (L := L) (p := q) (by omega)
    have G := pPart_b (E := E) (p := q + 1) hlt (fun x hx h => hE x (by omega) h)
    exact ⟨⟨G.le, fun h => by have := G.lt h; omega, fun h => by have := G.size h; have := G.lt h; omega, G.one⟩, fun _ => hlt⟩
  · cases h
theorem reads_expr (Br : Nat) (vl : Value) (L : List Mk) (en : Int) (hl : L.length < 4294967296) : ∀ (n p : Nat), L.length - p < n → Reads 47 Br vl L en p (pExpr L n p)
  | 0, p, h => by omega
  | n + 1, p, h => by
    have ih : ∀ q, p < q → q ≤ L.length → Reads 47 Br vl L en q (pExpr L n q) := fun q hq hql => reads_expr Br vl L en hl n q (by omega)
    have hE : ∀ q, q ≤ L.length → PB L q (pExpr L n q) := fun q hq => pExpr_b L n q hq
    have hA : ∀ q, p ≤ q → Reads 112 Br vl L en q (pAtom (pExpr L n) L q) := fun q hq w hr hql =>
      xAtom_any Br vl L q en (pExpr L n) w hr hql hl (fun w2 h2 h3 => ih (q + 1) (by omega) h3 w2 h2 h3) (fun h => (hE _ h).le)
    have hU : ∀ q, p ≤ q → Reads 99 Br vl L en q (pUnit (pExpr L n) L q) := fun q hq w hr hql =>
      xUnit_any Br vl L q en (pExpr L n) w hr hql hl (hA q hq w hr hql) (pAtom_b hql (fun h => hE _ h))
    have hP : ∀ q, p ≤ q → Reads 75 Br vl L en q (pPart (pExpr L n) L q) := fun q hq w hr hql =>
      xPart_any Br vl L q en (pExpr L n) w hr hql hl (fun x hx => hU x (by omega)) (pUnit_b hql (fun h => hE _ h)) (fun x r _ hx2 hs => sPart_b hx2 (fun y _ hy => hE y hy) hs)
    intro w hr hql
    exact xExpr_any Br vl L p en (pExpr L n) w hr hql hl (fun x hx => hP x hx) (pPart_b hql (fun y _ hy => hE y hy)) (fun x r _ hx2 hs => sExpr_b (fun y _ hy => hE y hy) hs)
end Go.Proofs.Ytbpipnjdfmpbdaa
