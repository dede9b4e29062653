/-
  No cell of these rows narrows 'for every input' (looked for: loops, veiled, ifaces, maps, wideKeys, modest, calm, conditions, laid).
  DERIVED. THE GIVEN ROWS OF THIS SEAT. 3 by the template 'for every input the law returns true; each argument reads behind the call as it read before'; 0 by the template 'total and deterministic' (their statements: YtmhmhpdpiikjiaaGreatTotals.lean).
  GIVEN WITH THE SEED: the statements are not yours to turn. If you find one false, say at which input.
  Laid BY PROGRAM, IN A SANDBOX (cutbox-rows.mjs): the forced cells as the released guide's own fill.sh prints them over the translation 10e7e70762912e01… (all of the seat's roots in one cut). By AI agents, Wed Nov 11 2026. No macro, syntax, notation, axiom, sorry.
-/
import Derived.Test.YtmhmhpdpiikjiaaGreatChecked
import GoSem.Claim
import GoSem.ClaimJoined
import GoSem.ClaimMapViews
import Derived.JoinedTies
import Derived.KernelRfl
namespace Go.Proofs.YtmhmhpdpiikjiaaGreat
/- THE CELL 'sum', in the pinned program and in every row, IS THE sha256 OF THE DUMP (.gsa) THAT YtmhmhpdpiikjiaaGreatProg.lean LOADS. Nothing in Lean hashes anything: it is a label: what it is worth is what the hold of that sum in a sandbox is worth. -/
noncomputable def Tryz.pinned : Pinned := { name := "ytmhmhpdpiikjiaagreat", sum := "10e7e70762912e01504e45a3801bb748e2c902b3e4114f34228d5ceb01e10d6b", checked := Tryz.checked }
namespace Rows
def none {H : Type} : Left H := { results := [], args := [] }

/-- 'barbicanlaw20.ChunkLives': WHATEVER THE INPUT: true; the input reads as it did. -/
def chunkLivesSpec : ChangeSpec := { name := "chunkLives", fn := fun _ => fun
  | [d] => { results := [.lit (.bool true)], args := [d] }
  | _ => none }
def chunkLivesRow : OpenClaim := { program := "ytmhmhpdpiikjiaagreat", sum := "10e7e70762912e01504e45a3801bb748e2c902b3e4114f34228d5ceb01e10d6b", func := "barbican/barbicanlaw20.ChunkLives", spec := "chunkLives", inPlace := ["internal/bytealg.MakeNoZero"], unfollowed := true, recurses := true, apart := false }
def ChunkLivesSaid : Prop := chunkLivesRow.holds Tryz.pinned (OpenSpec.ofChange chunkLivesSpec)

/-- ITS FALSE NEIGHBOUR: 'it returns false'. Refute it at one input. -/
def chunkLivesWrong : ChangeSpec := { name := "chunkLives", fn := fun _ => fun
  | [d] => { results := [.lit (.bool false)], args := [d] }
  | _ => none }
def ChunkLivesWrongFalsely : Prop := chunkLivesRow.holds Tryz.pinned (OpenSpec.ofChange chunkLivesWrong)

/-- 'barbicanlaw20.ChunkCuts': WHATEVER THE INPUT: true; the input reads as it did. -/
def chunkCutsSpec : ChangeSpec := { name := "chunkCuts", fn := fun _ => fun
  | [d] => { results := [.lit (.bool true)], args := [d] }
  | _ => none }
def chunkCutsRow : OpenClaim := { program := "ytmhmhpdpiikjiaagreat", sum := "10e7e70762912e01504e45a3801bb748e2c902b3e4114f34228d5ceb01e10d6b", func := "barbican/barbicanlaw20.ChunkCuts", spec := "chunkCuts", inPlace := ["internal/bytealg.MakeNoZero"], unfollowed := true, recurses := true, apart := false }
def ChunkCutsSaid : Prop := chunkCutsRow.holds Tryz.pinned (OpenSpec.ofChange chunkCutsSpec)

/-- ITS FALSE NEIGHBOUR: 'it returns false'. Refute it at one input. -/
def chunkCutsWrong : ChangeSpec := { name := "chunkCuts", fn := fun _ => fun
  | [d] => { results := [.lit (.bool false)], args := [d] }
  | _ => none }
def ChunkCutsWrongFalsely : Prop := chunkCutsRow.holds Tryz.pinned (OpenSpec.ofChange chunkCutsWrong)

/-- 'barbicanlaw20.ChunkNumbers': WHATEVER THE INPUT: true; the input reads as it did. -/
def chunkNumbersSpec : ChangeSpec := { name := "chunkNumbers", fn := fun _ => fun
  | [] => { results := [.lit (.bool true)], args := [] }
  | _ => none }
def chunkNumbersRow : OpenClaim := { program := "ytmhmhpdpiikjiaagreat", sum := "10e7e70762912e01504e45a3801bb748e2c902b3e4114f34228d5ceb01e10d6b", func := "barbican/barbicanlaw20.ChunkNumbers", spec := "chunkNumbers", inPlace := ["internal/bytealg.MakeNoZero"], unfollowed := true, recurses := true, apart := false }
def ChunkNumbersSaid : Prop := chunkNumbersRow.holds Tryz.pinned (OpenSpec.ofChange chunkNumbersSpec)

/-- ITS FALSE NEIGHBOUR: 'it returns false'. Refute it at one input. -/
def chunkNumbersWrong : ChangeSpec := { name := "chunkNumbers", fn := fun _ => fun
  | [] => { results := [.lit (.bool false)], args := [] }
  | _ => none }
def ChunkNumbersWrongFalsely : Prop := chunkNumbersRow.holds Tryz.pinned (OpenSpec.ofChange chunkNumbersWrong)

/- THE SECOND FORM. 'bulk': how many values and letters a reading holds, each counted each time it is reached (what is shared counts as often as it is met; a slice's spare places count too). A statement '..UptoSaid' is the law's where the arguments, and the package variables that the reading takes, are together of bulk at most 1048576: NARROWER than '..Said'. Prove '..Said' where nothing that the law and all that it calls make is longer than what came in: it says more and counts as full. Else prove '..UptoSaid'. A law counts once. -/
mutual
def uptoBulk {H : Type} : DataW H → Nat
  | .lit (.string bytes) => bytes.length + 1
  | .lit _ => 1
  | .nil => 1
  | .ptr d => uptoBulk d + 1
  | .slice elems spare => uptoBulkAll elems + uptoBulkAll spare + 1
  | .agg parts => uptoBulkAll parts + 1
  | .iface _ d => uptoBulk d + 1
  | .map entries => uptoBulkEntries entries + 1
  | .held _ => 1
def uptoBulkAll {H : Type} : List (DataW H) → Nat
  | [] => 0
  | d :: r => uptoBulk d + uptoBulkAll r
def uptoBulkEntries {H : Type} : List (Lit × DataW H) → Nat
  | [] => 0
  | x :: r => uptoBulkEntry x + uptoBulkEntries r
def uptoBulkEntry {H : Type} : Lit × DataW H → Nat
  | (.string bytes, d) => bytes.length + uptoBulk d + 1
  | (_, d) => uptoBulk d + 1
 end
def uptoSmall : (H : Type) → List (DataW H) → Bool := fun _ ds => decide (uptoBulkAll ds ≤ 1048576)
def OpenSpec.upto (s : _root_.Go.ChangeSpec) : _root_.Go.OpenSpec := { _root_.Go.OpenSpec.ofChange s with cond := some uptoSmall }

/-- 'barbicanlaw20.ChunkLives', WHERE WHAT IT READS IS OF BULK AT MOST 1048576: true; the input reads as it did. -/
def chunkLivesUptoRow : OpenClaim := { program := "ytmhmhpdpiikjiaagreat", sum := "10e7e70762912e01504e45a3801bb748e2c902b3e4114f34228d5ceb01e10d6b", func := "barbican/barbicanlaw20.ChunkLives", spec := "chunkLives", inPlace := ["internal/bytealg.MakeNoZero"], unfollowed := true, recurses := true, apart := false, narrowed := true }
def ChunkLivesUptoSaid : Prop := chunkLivesUptoRow.holds Tryz.pinned (OpenSpec.upto chunkLivesSpec)

/-- 'barbicanlaw20.ChunkCuts', WHERE WHAT IT READS IS OF BULK AT MOST 1048576: true; the input reads as it did. -/
def chunkCutsUptoRow : OpenClaim := { program := "ytmhmhpdpiikjiaagreat", sum := "10e7e70762912e01504e45a3801bb748e2c902b3e4114f34228d5ceb01e10d6b", func := "barbican/barbicanlaw20.ChunkCuts", spec := "chunkCuts", inPlace := ["internal/bytealg.MakeNoZero"], unfollowed := true, recurses := true, apart := false, narrowed := true }
def ChunkCutsUptoSaid : Prop := chunkCutsUptoRow.holds Tryz.pinned (OpenSpec.upto chunkCutsSpec)

/-- 'barbicanlaw20.ChunkNumbers', WHERE WHAT IT READS IS OF BULK AT MOST 1048576: true; the input reads as it did. -/
def chunkNumbersUptoRow : OpenClaim := { program := "ytmhmhpdpiikjiaagreat", sum := "10e7e70762912e01504e45a3801bb748e2c902b3e4114f34228d5ceb01e10d6b", func := "barbican/barbicanlaw20.ChunkNumbers", spec := "chunkNumbers", inPlace := ["internal/bytealg.MakeNoZero"], unfollowed := true, recurses := true, apart := false, narrowed := true }
def ChunkNumbersUptoSaid : Prop := chunkNumbersUptoRow.holds Tryz.pinned (OpenSpec.upto chunkNumbersSpec)

end Rows
end Go.Proofs.YtmhmhpdpiikjiaaGreat
