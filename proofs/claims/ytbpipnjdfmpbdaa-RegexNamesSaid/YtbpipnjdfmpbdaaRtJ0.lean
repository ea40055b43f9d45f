import Derived.Test.YtbpipnjdfmpbdaaRtI
namespace Go.Proofs.Ytbpipnjdfmpbdaa
open Go.RowKit Go.Shelf

def headTree : List Nd := [⟨4, ⟨#[]⟩, 2⟩, ⟨3, ⟨#[97]⟩, 0⟩, ⟨6, ⟨#[]⟩, 1⟩, ⟨3, ⟨#[98]⟩, 0⟩]
set_option maxRecDepth 100000 in
theorem head_one : parseS ⟨#[97, 32, 98, 42]⟩ = (headTree, 0, 0) := by decide +kernel
set_option maxRecDepth 100000 in
theorem head_two : parseS ⟨#[97, 32, 36]⟩ = ([], 2, 172) := by decide +kernel
end Go.Proofs.Ytbpipnjdfmpbdaa
