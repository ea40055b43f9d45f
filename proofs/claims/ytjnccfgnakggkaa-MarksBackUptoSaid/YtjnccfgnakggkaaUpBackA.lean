import Derived.Test.YtjnccfgnakggkaaUpLib
import Derived.Test.YtjnccfgnakggkaaMkBack
namespace Go.Proofs.Ytjnccfgnakggkaa
open Go.ChangeShapes Go.WideShapes Go.RowKit Go.Deep Go.Deep
theorem flat_one (l : List UInt8) : l.flatMap (fun b : UInt8 => [Value.int .u8 b.toNat]) = l.map fun b => .int .u8 b.toNat := by
  induction l with
  | nil => rfl
  | cons x r ih => rw [List.flatMap_cons, ih]; rfl
theorem sum_one (l : List UInt8) : (l.map (fun _ => 1)).sum = l.length := by
  induction l with
  | nil => rfl
  | cons x r ih => simp only [List.map_cons, List.sum_cons, ih, List.length_cons]; omega
/-- a list of bytes, read -/
theorem open_bytes {H : Type} {enc : TypeId × Value → H} {w : World} {base : Nat} {spare : Nat → Bool} {held : Bool} {r : Reach} {b0 : Nat} {v : Value} {d : DataW H} {ps : List MemPlace}
    (hval : Value.okWide Try.prog w r b0 45 v) (h : DataW.Trod enc Try.prog w base spare held 45 v d ps) :
    ∃ l : List UInt8, RdB w v l ∧ l.length ≤ Rows.uptoBulk d := by
  obtain ⟨l, h1, _, h3⟩ := open_list (fun b : UInt8 => [.int .u8 b.toNat]) (fun _ => True) (fun _ => 1) 1 (by omega) (fun _ => rfl) Try.underlying45 (by kernel_rfl) (fun {fuel cs x} ht => by
    obtain ⟨k, e0, rfl, hk⟩ := DataW.trod_int (k := .u8) (by kernel_rfl) ht
    refine ⟨UInt8.ofNat k.toNat, ?_, trivial, Nat.le_refl _⟩
    have hb : 0 ≤ k ∧ k < 256 := by
      have h2 : IntKind.u8.min ≤ k ∧ k ≤ IntKind.u8.max := by simpa [Lit.wf] using hk
      have e1 : IntKind.u8.min = 0 := rfl
      have e2 : IntKind.u8.max = 255 := rfl
      omega
    have e : ((UInt8.ofNat k.toNat).toNat : Int) = k := by
      have : k.toNat < 256 := by omega
      simp [Nat.mod_eq_of_lt this]; omega
    rw [e0, e]) hval h
  refine ⟨l, ?_, ?_⟩
  · unfold RdB
    rw [← flat_one]; exact h1
  · rw [sum_one] at h3; exact h3
end Go.Proofs.Ytjnccfgnakggkaa
