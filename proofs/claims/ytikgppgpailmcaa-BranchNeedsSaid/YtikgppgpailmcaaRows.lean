/-
  NARROWER THAN 'FOR EVERY INPUT', by the rows' own cells (each row's printed sentence says how): BranchChecks: loops.
  DERIVED. THE GIVEN ROWS OF THIS SEAT. 3 by the template 'for every input the law returns true; each argument reads behind the call as it read before'; 0 by the template 'total and deterministic' (their statements: YtikgppgpailmcaaTotals.lean).
  GIVEN WITH THE SEED: the statements are not yours to turn. If you find one false, say at which input.
  Laid BY PROGRAM, IN A SANDBOX (cutbox-rows.mjs): the forced cells as the released guide's own fill.sh prints them over the translation 5a27fbeee5685770… (all of the seat's roots in one cut). By AI agents, Wed Nov 11 2026. No macro, syntax, notation, axiom, sorry.
-/
import Derived.Test.YtikgppgpailmcaaChecked
import GoSem.Claim
import GoSem.ClaimJoined
import GoSem.ClaimMapViews
import Derived.JoinedTies
import Derived.KernelRfl
namespace Go.Proofs.Ytikgppgpailmcaa
/- THE CELL 'sum', in the pinned program and in every row, IS THE sha256 OF THE DUMP (.gsa) THAT YtikgppgpailmcaaProg.lean LOADS. Nothing in Lean hashes anything: it is a label: what it is worth is what the hold of that sum in a sandbox is worth. -/
noncomputable def Try.pinned : Pinned := { name := "ytikgppgpailmcaa", sum := "5a27fbeee5685770ab163ec0a82aa927027b5ab9fea6c59fed8ebaa7185f601c", checked := Try.checked }
namespace Rows
def none {H : Type} : Left H := { results := [], args := [] }

/-- 'synthesislaw33.BranchCovers': WHATEVER THE INPUT: true; the input reads as it did. -/
def branchCoversSpec : ChangeSpec := { name := "branchCovers", fn := fun _ => fun
  | [d1, d2] => { results := [.lit (.bool true)], args := [d1, d2] }
  | _ => none }
def branchCoversRow : OpenClaim := { program := "ytikgppgpailmcaa", sum := "5a27fbeee5685770ab163ec0a82aa927027b5ab9fea6c59fed8ebaa7185f601c", func := "synthesis/synthesislaw33.BranchCovers", spec := "branchCovers", recurses := true, apart := false }
def BranchCoversSaid : Prop := branchCoversRow.holds Try.pinned (OpenSpec.ofChange branchCoversSpec)

/-- ITS FALSE NEIGHBOUR: 'it returns false'. Refute it at one input. -/
def branchCoversWrong : ChangeSpec := { name := "branchCovers", fn := fun _ => fun
  | [d1, d2] => { results := [.lit (.bool false)], args := [d1, d2] }
  | _ => none }
def BranchCoversWrongFalsely : Prop := branchCoversRow.holds Try.pinned (OpenSpec.ofChange branchCoversWrong)

/-- 'synthesislaw33.BranchNeeds': WHATEVER THE INPUT: true; the input reads as it did. -/
def branchNeedsSpec : ChangeSpec := { name := "branchNeeds", fn := fun _ => fun
  | [d1, d2] => { results := [.lit (.bool true)], args := [d1, d2] }
  | _ => none }
def branchNeedsRow : OpenClaim := { program := "ytikgppgpailmcaa", sum := "5a27fbeee5685770ab163ec0a82aa927027b5ab9fea6c59fed8ebaa7185f601c", func := "synthesis/synthesislaw33.BranchNeeds", spec := "branchNeeds", apart := false }
def BranchNeedsSaid : Prop := branchNeedsRow.holds Try.pinned (OpenSpec.ofChange branchNeedsSpec)

/-- ITS FALSE NEIGHBOUR: 'it returns false'. Refute it at one input. -/
def branchNeedsWrong : ChangeSpec := { name := "branchNeeds", fn := fun _ => fun
  | [d1, d2] => { results := [.lit (.bool false)], args := [d1, d2] }
  | _ => none }
def BranchNeedsWrongFalsely : Prop := branchNeedsRow.holds Try.pinned (OpenSpec.ofChange branchNeedsWrong)

/-- 'synthesislaw33.BranchChecks': WHATEVER THE INPUT: true; the input reads as it did. -/
def branchChecksSpec : ChangeSpec := { name := "branchChecks", fn := fun _ => fun
  | [d1, d2, d3] => { results := [.lit (.bool true)], args := [d1, d2, d3] }
  | _ => none }
def branchChecksRow : OpenClaim := { program := "ytikgppgpailmcaa", sum := "5a27fbeee5685770ab163ec0a82aa927027b5ab9fea6c59fed8ebaa7185f601c", func := "synthesis/synthesislaw33.BranchChecks", spec := "branchChecks", inPlace := ["internal/bytealg.IndexByteString", "internal/bytealg.IndexString"], unfollowed := true, recurses := true, named := ["internal/bytealg.MaxLen"], loops := true, apart := false }
def BranchChecksSaid : Prop := branchChecksRow.holds Try.pinned (OpenSpec.ofChange branchChecksSpec)

/-- ITS FALSE NEIGHBOUR: 'it returns false'. Refute it at one input. -/
def branchChecksWrong : ChangeSpec := { name := "branchChecks", fn := fun _ => fun
  | [d1, d2, d3] => { results := [.lit (.bool false)], args := [d1, d2, d3] }
  | _ => none }
def BranchChecksWrongFalsely : Prop := branchChecksRow.holds Try.pinned (OpenSpec.ofChange branchChecksWrong)

/- THE SECOND FORM. 'bulk': how many values and letters a reading holds, each counted each time it is reached (what is shared counts as often as it is met; a slice's spare places count too). A statement '..UptoSaid' is the law's where the arguments, and the package variables that the reading takes, are together of bulk at most 1048576: NARROWER than '..Said'. Prove '..Said' where nothing that the law and all that it calls make is longer than what came in: it says more and counts as full. Else prove '..UptoSaid'. A law counts once. -/
mutual
def uptoBulk {H : Type} : DataW H → Nat
  | .lit (.string bytes) => bytes.length + 1
  | .lit _ => 1
  | .nil => 1
  | .ptr d => uptoBulk d + 1
  | .slice elems spare => uptoBulkAll elems + uptoBulkAll spare + 1
  | .agg parts => uptoBulkAll parts + 1
  | .iface _ d => uptoBulk d + 1
  | .map entries => uptoBulkEntries entries + 1
  | .held _ => 1
def uptoBulkAll {H : Type} : List (DataW H) → Nat
  | [] => 0
  | d :: r => uptoBulk d + uptoBulkAll r
def uptoBulkEntries {H : Type} : List (Lit × DataW H) → Nat
  | [] => 0
  | x :: r => uptoBulkEntry x + uptoBulkEntries r
def uptoBulkEntry {H : Type} : Lit × DataW H → Nat
  | (.string bytes, d) => bytes.length + uptoBulk d + 1
  | (_, d) => uptoBulk d + 1
 end
def uptoSmall : (H : Type) → List (DataW H) → Bool := fun _ ds => decide (uptoBulkAll ds ≤ 1048576)
def OpenSpec.upto (s : _root_.Go.ChangeSpec) : _root_.Go.OpenSpec := { _root_.Go.OpenSpec.ofChange s with cond := some uptoSmall }

/-- 'synthesislaw33.BranchCovers', WHERE WHAT IT READS IS OF BULK AT MOST 1048576: true; the input reads as it did. -/
def branchCoversUptoRow : OpenClaim := { program := "ytikgppgpailmcaa", sum := "5a27fbeee5685770ab163ec0a82aa927027b5ab9fea6c59fed8ebaa7185f601c", func := "synthesis/synthesislaw33.BranchCovers", spec := "branchCovers", recurses := true, apart := false, narrowed := true }
def BranchCoversUptoSaid : Prop := branchCoversUptoRow.holds Try.pinned (OpenSpec.upto branchCoversSpec)

/-- 'synthesislaw33.BranchNeeds', WHERE WHAT IT READS IS OF BULK AT MOST 1048576: true; the input reads as it did. -/
def branchNeedsUptoRow : OpenClaim := { program := "ytikgppgpailmcaa", sum := "5a27fbeee5685770ab163ec0a82aa927027b5ab9fea6c59fed8ebaa7185f601c", func := "synthesis/synthesislaw33.BranchNeeds", spec := "branchNeeds", apart := false, narrowed := true }
def BranchNeedsUptoSaid : Prop := branchNeedsUptoRow.holds Try.pinned (OpenSpec.upto branchNeedsSpec)

/-- 'synthesislaw33.BranchChecks', WHERE WHAT IT READS IS OF BULK AT MOST 1048576: true; the input reads as it did. -/
def branchChecksUptoRow : OpenClaim := { program := "ytikgppgpailmcaa", sum := "5a27fbeee5685770ab163ec0a82aa927027b5ab9fea6c59fed8ebaa7185f601c", func := "synthesis/synthesislaw33.BranchChecks", spec := "branchChecks", inPlace := ["internal/bytealg.IndexByteString", "internal/bytealg.IndexString"], unfollowed := true, recurses := true, named := ["internal/bytealg.MaxLen"], loops := true, apart := false, narrowed := true }
def BranchChecksUptoSaid : Prop := branchChecksUptoRow.holds Try.pinned (OpenSpec.upto branchChecksSpec)

end Rows
end Go.Proofs.Ytikgppgpailmcaa
