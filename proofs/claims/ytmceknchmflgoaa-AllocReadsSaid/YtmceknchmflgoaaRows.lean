/-
  No cell of these rows narrows 'for every input' (looked for: loops, veiled, ifaces, maps, wideKeys, modest, calm, conditions, laid).
  DERIVED. THE GIVEN ROWS OF THIS SEAT. 4 by the template 'for every input the law returns true; each argument reads behind the call as it read before'; 0 by the template 'total and deterministic' (their statements: YtmceknchmflgoaaTotals.lean).
  GIVEN WITH THE SEED: the statements are not yours to turn. If you find one false, say at which input.
  Laid BY PROGRAM, IN A SANDBOX (cutbox-rows.mjs): the forced cells as the released guide's own fill.sh prints them over the translation d6adcdb38728c9ae… (all of the seat's roots in one cut). By AI agents, Wed Nov 11 2026. No macro, syntax, notation, axiom, sorry.
-/
import Derived.Test.YtmceknchmflgoaaChecked
import GoSem.Claim
import GoSem.ClaimJoined
import GoSem.ClaimMapViews
import Derived.JoinedTies
import Derived.KernelRfl
namespace Go.Proofs.Ytmceknchmflgoaa
/- THE CELL 'sum', in the pinned program and in every row, IS THE sha256 OF THE DUMP (.gsa) THAT YtmceknchmflgoaaProg.lean LOADS. Nothing in Lean hashes anything: it is a label: what it is worth is what the hold of that sum in a sandbox is worth. -/
noncomputable def Try.pinned : Pinned := { name := "ytmceknchmflgoaa", sum := "d6adcdb38728c9ae6b05d3480a6a55d314e26a05f3bf3e0791b4e5e61f9a08e4", checked := Try.checked }
namespace Rows
def none {H : Type} : Left H := { results := [], args := [] }

/-- 'latticelaw08.AllocSteps': WHATEVER THE INPUT: true; the input reads as it did. -/
def allocStepsSpec : ChangeSpec := { name := "allocSteps", fn := fun _ => fun
  | [d1, d2] => { results := [.lit (.bool true)], args := [d1, d2] }
  | _ => none }
def allocStepsRow : OpenClaim := { program := "ytmceknchmflgoaa", sum := "d6adcdb38728c9ae6b05d3480a6a55d314e26a05f3bf3e0791b4e5e61f9a08e4", func := "lattice/latticelaw08.AllocSteps", spec := "allocSteps", apart := false }
def AllocStepsSaid : Prop := allocStepsRow.holds Try.pinned (OpenSpec.ofChange allocStepsSpec)

/-- ITS FALSE NEIGHBOUR: 'it returns false'. Refute it at one input. -/
def allocStepsWrong : ChangeSpec := { name := "allocSteps", fn := fun _ => fun
  | [d1, d2] => { results := [.lit (.bool false)], args := [d1, d2] }
  | _ => none }
def AllocStepsWrongFalsely : Prop := allocStepsRow.holds Try.pinned (OpenSpec.ofChange allocStepsWrong)

/-- 'latticelaw08.AllocOnce': WHATEVER THE INPUT: true; the input reads as it did. -/
def allocOnceSpec : ChangeSpec := { name := "allocOnce", fn := fun _ => fun
  | [d1, d2] => { results := [.lit (.bool true)], args := [d1, d2] }
  | _ => none }
def allocOnceRow : OpenClaim := { program := "ytmceknchmflgoaa", sum := "d6adcdb38728c9ae6b05d3480a6a55d314e26a05f3bf3e0791b4e5e61f9a08e4", func := "lattice/latticelaw08.AllocOnce", spec := "allocOnce", apart := false }
def AllocOnceSaid : Prop := allocOnceRow.holds Try.pinned (OpenSpec.ofChange allocOnceSpec)

/-- ITS FALSE NEIGHBOUR: 'it returns false'. Refute it at one input. -/
def allocOnceWrong : ChangeSpec := { name := "allocOnce", fn := fun _ => fun
  | [d1, d2] => { results := [.lit (.bool false)], args := [d1, d2] }
  | _ => none }
def AllocOnceWrongFalsely : Prop := allocOnceRow.holds Try.pinned (OpenSpec.ofChange allocOnceWrong)

/-- 'latticelaw08.AllocNil': WHATEVER THE INPUT: true; the input reads as it did. -/
def allocNilSpec : ChangeSpec := { name := "allocNil", fn := fun _ => fun
  | [d] => { results := [.lit (.bool true)], args := [d] }
  | _ => none }
def allocNilRow : OpenClaim := { program := "ytmceknchmflgoaa", sum := "d6adcdb38728c9ae6b05d3480a6a55d314e26a05f3bf3e0791b4e5e61f9a08e4", func := "lattice/latticelaw08.AllocNil", spec := "allocNil", apart := false }
def AllocNilSaid : Prop := allocNilRow.holds Try.pinned (OpenSpec.ofChange allocNilSpec)

/-- ITS FALSE NEIGHBOUR: 'it returns false'. Refute it at one input. -/
def allocNilWrong : ChangeSpec := { name := "allocNil", fn := fun _ => fun
  | [d] => { results := [.lit (.bool false)], args := [d] }
  | _ => none }
def AllocNilWrongFalsely : Prop := allocNilRow.holds Try.pinned (OpenSpec.ofChange allocNilWrong)

/-- 'latticelaw08.AllocReads': WHATEVER THE INPUT: true; the input reads as it did. -/
def allocReadsSpec : ChangeSpec := { name := "allocReads", fn := fun _ => fun
  | [d1, d2] => { results := [.lit (.bool true)], args := [d1, d2] }
  | _ => none }
def allocReadsRow : OpenClaim := { program := "ytmceknchmflgoaa", sum := "d6adcdb38728c9ae6b05d3480a6a55d314e26a05f3bf3e0791b4e5e61f9a08e4", func := "lattice/latticelaw08.AllocReads", spec := "allocReads", apart := false }
def AllocReadsSaid : Prop := allocReadsRow.holds Try.pinned (OpenSpec.ofChange allocReadsSpec)

/-- ITS FALSE NEIGHBOUR: 'it returns false'. Refute it at one input. -/
def allocReadsWrong : ChangeSpec := { name := "allocReads", fn := fun _ => fun
  | [d1, d2] => { results := [.lit (.bool false)], args := [d1, d2] }
  | _ => none }
def AllocReadsWrongFalsely : Prop := allocReadsRow.holds Try.pinned (OpenSpec.ofChange allocReadsWrong)

/- THE SECOND FORM. 'bulk': how many values and letters a reading holds, each counted each time it is reached (what is shared counts as often as it is met; a slice's spare places count too). A statement '..UptoSaid' is the law's where the arguments, and the package variables that the reading takes, are together of bulk at most 1048576: NARROWER than '..Said'. Prove '..Said' where nothing that the law and all that it calls make is longer than what came in: it says more and counts as full. Else prove '..UptoSaid'. A law counts once. -/
mutual
def uptoBulk {H : Type} : DataW H → Nat
  | .lit (.string bytes) => bytes.length + 1
  | .lit _ => 1
  | .nil => 1
  | .ptr d => uptoBulk d + 1
  | .slice elems spare => uptoBulkAll elems + uptoBulkAll spare + 1
  | .agg parts => uptoBulkAll parts + 1
  | .iface _ d => uptoBulk d + 1
  | .map entries => uptoBulkEntries entries + 1
  | .held _ => 1
def uptoBulkAll {H : Type} : List (DataW H) → Nat
  | [] => 0
  | d :: r => uptoBulk d + uptoBulkAll r
def uptoBulkEntries {H : Type} : List (Lit × DataW H) → Nat
  | [] => 0
  | x :: r => uptoBulkEntry x + uptoBulkEntries r
def uptoBulkEntry {H : Type} : Lit × DataW H → Nat
  | (.string bytes, d) => bytes.length + uptoBulk d + 1
  | (_, d) => uptoBulk d + 1
 end
def uptoSmall : (H : Type) → List (DataW H) → Bool := fun _ ds => decide (uptoBulkAll ds ≤ 1048576)
def OpenSpec.upto (s : _root_.Go.ChangeSpec) : _root_.Go.OpenSpec := { _root_.Go.OpenSpec.ofChange s with cond := some uptoSmall }

/-- 'latticelaw08.AllocSteps', WHERE WHAT IT READS IS OF BULK AT MOST 1048576: true; the input reads as it did. -/
def allocStepsUptoRow : OpenClaim := { program := "ytmceknchmflgoaa", sum := "d6adcdb38728c9ae6b05d3480a6a55d314e26a05f3bf3e0791b4e5e61f9a08e4", func := "lattice/latticelaw08.AllocSteps", spec := "allocSteps", apart := false, narrowed := true }
def AllocStepsUptoSaid : Prop := allocStepsUptoRow.holds Try.pinned (OpenSpec.upto allocStepsSpec)

/-- 'latticelaw08.AllocOnce', WHERE WHAT IT READS IS OF BULK AT MOST 1048576: true; the input reads as it did. -/
def allocOnceUptoRow : OpenClaim := { program := "ytmceknchmflgoaa", sum := "d6adcdb38728c9ae6b05d3480a6a55d314e26a05f3bf3e0791b4e5e61f9a08e4", func := "lattice/latticelaw08.AllocOnce", spec := "allocOnce", apart := false, narrowed := true }
def AllocOnceUptoSaid : Prop := allocOnceUptoRow.holds Try.pinned (OpenSpec.upto allocOnceSpec)

/-- 'latticelaw08.AllocNil', WHERE WHAT IT READS IS OF BULK AT MOST 1048576: true; the input reads as it did. -/
def allocNilUptoRow : OpenClaim := { program := "ytmceknchmflgoaa", sum := "d6adcdb38728c9ae6b05d3480a6a55d314e26a05f3bf3e0791b4e5e61f9a08e4", func := "lattice/latticelaw08.AllocNil", spec := "allocNil", apart := false, narrowed := true }
def AllocNilUptoSaid : Prop := allocNilUptoRow.holds Try.pinned (OpenSpec.upto allocNilSpec)

/-- 'latticelaw08.AllocReads', WHERE WHAT IT READS IS OF BULK AT MOST 1048576: true; the input reads as it did. -/
def allocReadsUptoRow : OpenClaim := { program := "ytmceknchmflgoaa", sum := "d6adcdb38728c9ae6b05d3480a6a55d314e26a05f3bf3e0791b4e5e61f9a08e4", func := "lattice/latticelaw08.AllocReads", spec := "allocReads", apart := false, narrowed := true }
def AllocReadsUptoSaid : Prop := allocReadsUptoRow.holds Try.pinned (OpenSpec.upto allocReadsSpec)

end Rows
end Go.Proofs.Ytmceknchmflgoaa
