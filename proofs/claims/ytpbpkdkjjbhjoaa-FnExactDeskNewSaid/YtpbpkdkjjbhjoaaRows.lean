/-
  No cell of these rows narrows 'for every input' (looked for: loops, veiled, ifaces, maps, wideKeys, modest, calm, conditions, laid).
  DERIVED. THE GIVEN ROWS OF THIS SEAT. 12 by the template 'for every input the law returns true; each argument reads behind the call as it read before'; 0 by the template 'total and deterministic' (their statements: YtpbpkdkjjbhjoaaTotals.lean).
  GIVEN WITH THE SEED: the statements are not yours to turn. If you find one false, say at which input.
  Laid BY PROGRAM, IN A SANDBOX (cutbox-rows.mjs): the forced cells as the released guide's own fill.sh prints them over the translation 039bf7f532e84037… (all of the seat's roots in one cut). By AI agents, Wed Nov 11 2026. No macro, syntax, notation, axiom, sorry.
-/
import Derived.Test.YtpbpkdkjjbhjoaaChecked
import GoSem.Claim
import GoSem.ClaimJoined
import GoSem.ClaimMapViews
import Derived.JoinedTies
import Derived.KernelRfl
namespace Go.Proofs.Ytpbpkdkjjbhjoaa
/- THE CELL 'sum', in the pinned program and in every row, IS THE sha256 OF THE DUMP (.gsa) THAT YtpbpkdkjjbhjoaaProg.lean LOADS. Nothing in Lean hashes anything: it is a label: what it is worth is what the hold of that sum in a sandbox is worth. -/
noncomputable def Try.pinned : Pinned := { name := "ytpbpkdkjjbhjoaa", sum := "039bf7f532e8403736129867afb9e82ccad9f70b6b9dfcb22ff709e7bff7a4a1", checked := Try.checked }
namespace Rows
def none {H : Type} : Left H := { results := [], args := [] }

/-- 'laws.FnSetOk': WHATEVER THE INPUT: true; the input reads as it did. -/
def fnSetOkSpec : ChangeSpec := { name := "fnSetOk", fn := fun _ => fun
  | [d] => { results := [.lit (.bool true)], args := [d] }
  | _ => none }
def fnSetOkRow : OpenClaim := { program := "ytpbpkdkjjbhjoaa", sum := "039bf7f532e8403736129867afb9e82ccad9f70b6b9dfcb22ff709e7bff7a4a1", func := "loop.example/selfmaps/laws.FnSetOk", spec := "fnSetOk", apart := false }
def FnSetOkSaid : Prop := fnSetOkRow.holds Try.pinned (OpenSpec.ofChange fnSetOkSpec)

/-- ITS FALSE NEIGHBOUR: 'it returns false'. Refute it at one input. -/
def fnSetOkWrong : ChangeSpec := { name := "fnSetOk", fn := fun _ => fun
  | [d] => { results := [.lit (.bool false)], args := [d] }
  | _ => none }
def FnSetOkWrongFalsely : Prop := fnSetOkRow.holds Try.pinned (OpenSpec.ofChange fnSetOkWrong)

/-- 'laws.FnExactClosedWithin': WHATEVER THE INPUT: true; the input reads as it did. -/
def fnExactClosedWithinSpec : ChangeSpec := { name := "fnExactClosedWithin", fn := fun _ => fun
  | [d1, d2] => { results := [.lit (.bool true)], args := [d1, d2] }
  | _ => none }
def fnExactClosedWithinRow : OpenClaim := { program := "ytpbpkdkjjbhjoaa", sum := "039bf7f532e8403736129867afb9e82ccad9f70b6b9dfcb22ff709e7bff7a4a1", func := "loop.example/selfmaps/laws.FnExactClosedWithin", spec := "fnExactClosedWithin", apart := false }
def FnExactClosedWithinSaid : Prop := fnExactClosedWithinRow.holds Try.pinned (OpenSpec.ofChange fnExactClosedWithinSpec)

/-- ITS FALSE NEIGHBOUR: 'it returns false'. Refute it at one input. -/
def fnExactClosedWithinWrong : ChangeSpec := { name := "fnExactClosedWithin", fn := fun _ => fun
  | [d1, d2] => { results := [.lit (.bool false)], args := [d1, d2] }
  | _ => none }
def FnExactClosedWithinWrongFalsely : Prop := fnExactClosedWithinRow.holds Try.pinned (OpenSpec.ofChange fnExactClosedWithinWrong)

/-- 'laws.FnExactLimitOf': WHATEVER THE INPUT: true; the input reads as it did. -/
def fnExactLimitOfSpec : ChangeSpec := { name := "fnExactLimitOf", fn := fun _ => fun
  | [d] => { results := [.lit (.bool true)], args := [d] }
  | _ => none }
def fnExactLimitOfRow : OpenClaim := { program := "ytpbpkdkjjbhjoaa", sum := "039bf7f532e8403736129867afb9e82ccad9f70b6b9dfcb22ff709e7bff7a4a1", func := "loop.example/selfmaps/laws.FnExactLimitOf", spec := "fnExactLimitOf", apart := false }
def FnExactLimitOfSaid : Prop := fnExactLimitOfRow.holds Try.pinned (OpenSpec.ofChange fnExactLimitOfSpec)

/-- ITS FALSE NEIGHBOUR: 'it returns false'. Refute it at one input. -/
def fnExactLimitOfWrong : ChangeSpec := { name := "fnExactLimitOf", fn := fun _ => fun
  | [d] => { results := [.lit (.bool false)], args := [d] }
  | _ => none }
def FnExactLimitOfWrongFalsely : Prop := fnExactLimitOfRow.holds Try.pinned (OpenSpec.ofChange fnExactLimitOfWrong)

/-- 'laws.FnExactClosedAround': WHATEVER THE INPUT: true; the input reads as it did. -/
def fnExactClosedAroundSpec : ChangeSpec := { name := "fnExactClosedAround", fn := fun _ => fun
  | [d1, d2] => { results := [.lit (.bool true)], args := [d1, d2] }
  | _ => none }
def fnExactClosedAroundRow : OpenClaim := { program := "ytpbpkdkjjbhjoaa", sum := "039bf7f532e8403736129867afb9e82ccad9f70b6b9dfcb22ff709e7bff7a4a1", func := "loop.example/selfmaps/laws.FnExactClosedAround", spec := "fnExactClosedAround", apart := false }
def FnExactClosedAroundSaid : Prop := fnExactClosedAroundRow.holds Try.pinned (OpenSpec.ofChange fnExactClosedAroundSpec)

/-- ITS FALSE NEIGHBOUR: 'it returns false'. Refute it at one input. -/
def fnExactClosedAroundWrong : ChangeSpec := { name := "fnExactClosedAround", fn := fun _ => fun
  | [d1, d2] => { results := [.lit (.bool false)], args := [d1, d2] }
  | _ => none }
def FnExactClosedAroundWrongFalsely : Prop := fnExactClosedAroundRow.holds Try.pinned (OpenSpec.ofChange fnExactClosedAroundWrong)

/-- 'laws.FnExactTreeFor': WHATEVER THE INPUT: true; the input reads as it did. -/
def fnExactTreeForSpec : ChangeSpec := { name := "fnExactTreeFor", fn := fun _ => fun
  | [d] => { results := [.lit (.bool true)], args := [d] }
  | _ => none }
def fnExactTreeForRow : OpenClaim := { program := "ytpbpkdkjjbhjoaa", sum := "039bf7f532e8403736129867afb9e82ccad9f70b6b9dfcb22ff709e7bff7a4a1", func := "loop.example/selfmaps/laws.FnExactTreeFor", spec := "fnExactTreeFor", apart := false }
def FnExactTreeForSaid : Prop := fnExactTreeForRow.holds Try.pinned (OpenSpec.ofChange fnExactTreeForSpec)

/-- ITS FALSE NEIGHBOUR: 'it returns false'. Refute it at one input. -/
def fnExactTreeForWrong : ChangeSpec := { name := "fnExactTreeFor", fn := fun _ => fun
  | [d] => { results := [.lit (.bool false)], args := [d] }
  | _ => none }
def FnExactTreeForWrongFalsely : Prop := fnExactTreeForRow.holds Try.pinned (OpenSpec.ofChange fnExactTreeForWrong)

/-- 'laws.FnExactDeskOk': WHATEVER THE INPUT: true; the input reads as it did. -/
def fnExactDeskOkSpec : ChangeSpec := { name := "fnExactDeskOk", fn := fun _ => fun
  | [d] => { results := [.lit (.bool true)], args := [d] }
  | _ => none }
def fnExactDeskOkRow : OpenClaim := { program := "ytpbpkdkjjbhjoaa", sum := "039bf7f532e8403736129867afb9e82ccad9f70b6b9dfcb22ff709e7bff7a4a1", func := "loop.example/selfmaps/laws.FnExactDeskOk", spec := "fnExactDeskOk", apart := false }
def FnExactDeskOkSaid : Prop := fnExactDeskOkRow.holds Try.pinned (OpenSpec.ofChange fnExactDeskOkSpec)

/-- ITS FALSE NEIGHBOUR: 'it returns false'. Refute it at one input. -/
def fnExactDeskOkWrong : ChangeSpec := { name := "fnExactDeskOk", fn := fun _ => fun
  | [d] => { results := [.lit (.bool false)], args := [d] }
  | _ => none }
def FnExactDeskOkWrongFalsely : Prop := fnExactDeskOkRow.holds Try.pinned (OpenSpec.ofChange fnExactDeskOkWrong)

/-- 'laws.FnExactDeskNew': WHATEVER THE INPUT: true; the input reads as it did. -/
def fnExactDeskNewSpec : ChangeSpec := { name := "fnExactDeskNew", fn := fun _ => fun
  | [d] => { results := [.lit (.bool true)], args := [d] }
  | _ => none }
def fnExactDeskNewRow : OpenClaim := { program := "ytpbpkdkjjbhjoaa", sum := "039bf7f532e8403736129867afb9e82ccad9f70b6b9dfcb22ff709e7bff7a4a1", func := "loop.example/selfmaps/laws.FnExactDeskNew", spec := "fnExactDeskNew", apart := false }
def FnExactDeskNewSaid : Prop := fnExactDeskNewRow.holds Try.pinned (OpenSpec.ofChange fnExactDeskNewSpec)

/-- ITS FALSE NEIGHBOUR: 'it returns false'. Refute it at one input. -/
def fnExactDeskNewWrong : ChangeSpec := { name := "fnExactDeskNew", fn := fun _ => fun
  | [d] => { results := [.lit (.bool false)], args := [d] }
  | _ => none }
def FnExactDeskNewWrongFalsely : Prop := fnExactDeskNewRow.holds Try.pinned (OpenSpec.ofChange fnExactDeskNewWrong)

/-- 'laws.FnComesFrom': WHATEVER THE INPUT: true; the input reads as it did. -/
def fnComesFromSpec : ChangeSpec := { name := "fnComesFrom", fn := fun _ => fun
  | [d] => { results := [.lit (.bool true)], args := [d] }
  | _ => none }
def fnComesFromRow : OpenClaim := { program := "ytpbpkdkjjbhjoaa", sum := "039bf7f532e8403736129867afb9e82ccad9f70b6b9dfcb22ff709e7bff7a4a1", func := "loop.example/selfmaps/laws.FnComesFrom", spec := "fnComesFrom", apart := false }
def FnComesFromSaid : Prop := fnComesFromRow.holds Try.pinned (OpenSpec.ofChange fnComesFromSpec)

/-- ITS FALSE NEIGHBOUR: 'it returns false'. Refute it at one input. -/
def fnComesFromWrong : ChangeSpec := { name := "fnComesFrom", fn := fun _ => fun
  | [d] => { results := [.lit (.bool false)], args := [d] }
  | _ => none }
def FnComesFromWrongFalsely : Prop := fnComesFromRow.holds Try.pinned (OpenSpec.ofChange fnComesFromWrong)

/-- 'laws.FnLedTo': WHATEVER THE INPUT: true; the input reads as it did. -/
def fnLedToSpec : ChangeSpec := { name := "fnLedTo", fn := fun _ => fun
  | [d] => { results := [.lit (.bool true)], args := [d] }
  | _ => none }
def fnLedToRow : OpenClaim := { program := "ytpbpkdkjjbhjoaa", sum := "039bf7f532e8403736129867afb9e82ccad9f70b6b9dfcb22ff709e7bff7a4a1", func := "loop.example/selfmaps/laws.FnLedTo", spec := "fnLedTo", apart := false }
def FnLedToSaid : Prop := fnLedToRow.holds Try.pinned (OpenSpec.ofChange fnLedToSpec)

/-- ITS FALSE NEIGHBOUR: 'it returns false'. Refute it at one input. -/
def fnLedToWrong : ChangeSpec := { name := "fnLedTo", fn := fun _ => fun
  | [d] => { results := [.lit (.bool false)], args := [d] }
  | _ => none }
def FnLedToWrongFalsely : Prop := fnLedToRow.holds Try.pinned (OpenSpec.ofChange fnLedToWrong)

/-- 'laws.FnDeskNew': WHATEVER THE INPUT: true; the input reads as it did. -/
def fnDeskNewSpec : ChangeSpec := { name := "fnDeskNew", fn := fun _ => fun
  | [d] => { results := [.lit (.bool true)], args := [d] }
  | _ => none }
def fnDeskNewRow : OpenClaim := { program := "ytpbpkdkjjbhjoaa", sum := "039bf7f532e8403736129867afb9e82ccad9f70b6b9dfcb22ff709e7bff7a4a1", func := "loop.example/selfmaps/laws.FnDeskNew", spec := "fnDeskNew", apart := false }
def FnDeskNewSaid : Prop := fnDeskNewRow.holds Try.pinned (OpenSpec.ofChange fnDeskNewSpec)

/-- ITS FALSE NEIGHBOUR: 'it returns false'. Refute it at one input. -/
def fnDeskNewWrong : ChangeSpec := { name := "fnDeskNew", fn := fun _ => fun
  | [d] => { results := [.lit (.bool false)], args := [d] }
  | _ => none }
def FnDeskNewWrongFalsely : Prop := fnDeskNewRow.holds Try.pinned (OpenSpec.ofChange fnDeskNewWrong)

/-- 'laws.FnClosedOk': WHATEVER THE INPUT: true; the input reads as it did. -/
def fnClosedOkSpec : ChangeSpec := { name := "fnClosedOk", fn := fun _ => fun
  | [d] => { results := [.lit (.bool true)], args := [d] }
  | _ => none }
def fnClosedOkRow : OpenClaim := { program := "ytpbpkdkjjbhjoaa", sum := "039bf7f532e8403736129867afb9e82ccad9f70b6b9dfcb22ff709e7bff7a4a1", func := "loop.example/selfmaps/laws.FnClosedOk", spec := "fnClosedOk", apart := false }
def FnClosedOkSaid : Prop := fnClosedOkRow.holds Try.pinned (OpenSpec.ofChange fnClosedOkSpec)

/-- ITS FALSE NEIGHBOUR: 'it returns false'. Refute it at one input. -/
def fnClosedOkWrong : ChangeSpec := { name := "fnClosedOk", fn := fun _ => fun
  | [d] => { results := [.lit (.bool false)], args := [d] }
  | _ => none }
def FnClosedOkWrongFalsely : Prop := fnClosedOkRow.holds Try.pinned (OpenSpec.ofChange fnClosedOkWrong)

/-- 'laws.FnGardenOf': WHATEVER THE INPUT: true; the input reads as it did. -/
def fnGardenOfSpec : ChangeSpec := { name := "fnGardenOf", fn := fun _ => fun
  | [d] => { results := [.lit (.bool true)], args := [d] }
  | _ => none }
def fnGardenOfRow : OpenClaim := { program := "ytpbpkdkjjbhjoaa", sum := "039bf7f532e8403736129867afb9e82ccad9f70b6b9dfcb22ff709e7bff7a4a1", func := "loop.example/selfmaps/laws.FnGardenOf", spec := "fnGardenOf", apart := false }
def FnGardenOfSaid : Prop := fnGardenOfRow.holds Try.pinned (OpenSpec.ofChange fnGardenOfSpec)

/-- ITS FALSE NEIGHBOUR: 'it returns false'. Refute it at one input. -/
def fnGardenOfWrong : ChangeSpec := { name := "fnGardenOf", fn := fun _ => fun
  | [d] => { results := [.lit (.bool false)], args := [d] }
  | _ => none }
def FnGardenOfWrongFalsely : Prop := fnGardenOfRow.holds Try.pinned (OpenSpec.ofChange fnGardenOfWrong)

/- THE SECOND FORM. 'bulk': how many values and letters a reading holds, each counted each time it is reached (what is shared counts as often as it is met; a slice's spare places count too). A statement '..UptoSaid' is the law's where the arguments, and the package variables that the reading takes, are together of bulk at most 1048576: NARROWER than '..Said'. Prove '..Said' where nothing that the law and all that it calls make is longer than what came in: it says more and counts as full. Else prove '..UptoSaid'. A law counts once. -/
mutual
def uptoBulk {H : Type} : DataW H → Nat
  | .lit (.string bytes) => bytes.length + 1
  | .lit _ => 1
  | .nil => 1
  | .ptr d => uptoBulk d + 1
  | .slice elems spare => uptoBulkAll elems + uptoBulkAll spare + 1
  | .agg parts => uptoBulkAll parts + 1
  | .iface _ d => uptoBulk d + 1
  | .map entries => uptoBulkEntries entries + 1
  | .held _ => 1
def uptoBulkAll {H : Type} : List (DataW H) → Nat
  | [] => 0
  | d :: r => uptoBulk d + uptoBulkAll r
def uptoBulkEntries {H : Type} : List (Lit × DataW H) → Nat
  | [] => 0
  | x :: r => uptoBulkEntry x + uptoBulkEntries r
def uptoBulkEntry {H : Type} : Lit × DataW H → Nat
  | (.string bytes, d) => bytes.length + uptoBulk d + 1
  | (_, d) => uptoBulk d + 1
 end
def uptoSmall : (H : Type) → List (DataW H) → Bool := fun _ ds => decide (uptoBulkAll ds ≤ 1048576)
def OpenSpec.upto (s : _root_.Go.ChangeSpec) : _root_.Go.OpenSpec := { _root_.Go.OpenSpec.ofChange s with cond := some uptoSmall }

/-- 'laws.FnSetOk', WHERE WHAT IT READS IS OF BULK AT MOST 1048576: true; the input reads as it did. -/
def fnSetOkUptoRow : OpenClaim := { program := "ytpbpkdkjjbhjoaa", sum := "039bf7f532e8403736129867afb9e82ccad9f70b6b9dfcb22ff709e7bff7a4a1", func := "loop.example/selfmaps/laws.FnSetOk", spec := "fnSetOk", apart := false, narrowed := true }
def FnSetOkUptoSaid : Prop := fnSetOkUptoRow.holds Try.pinned (OpenSpec.upto fnSetOkSpec)

/-- 'laws.FnExactClosedWithin', WHERE WHAT IT READS IS OF BULK AT MOST 1048576: true; the input reads as it did. -/
def fnExactClosedWithinUptoRow : OpenClaim := { program := "ytpbpkdkjjbhjoaa", sum := "039bf7f532e8403736129867afb9e82ccad9f70b6b9dfcb22ff709e7bff7a4a1", func := "loop.example/selfmaps/laws.FnExactClosedWithin", spec := "fnExactClosedWithin", apart := false, narrowed := true }
def FnExactClosedWithinUptoSaid : Prop := fnExactClosedWithinUptoRow.holds Try.pinned (OpenSpec.upto fnExactClosedWithinSpec)

/-- 'laws.FnExactLimitOf', WHERE WHAT IT READS IS OF BULK AT MOST 1048576: true; the input reads as it did. -/
def fnExactLimitOfUptoRow : OpenClaim := { program := "ytpbpkdkjjbhjoaa", sum := "039bf7f532e8403736129867afb9e82ccad9f70b6b9dfcb22ff709e7bff7a4a1", func := "loop.example/selfmaps/laws.FnExactLimitOf", spec := "fnExactLimitOf", apart := false, narrowed := true }
def FnExactLimitOfUptoSaid : Prop := fnExactLimitOfUptoRow.holds Try.pinned (OpenSpec.upto fnExactLimitOfSpec)

/-- 'laws.FnExactClosedAround', WHERE WHAT IT READS IS OF BULK AT MOST 1048576: true; the input reads as it did. -/
def fnExactClosedAroundUptoRow : OpenClaim := { program := "ytpbpkdkjjbhjoaa", sum := "039bf7f532e8403736129867afb9e82ccad9f70b6b9dfcb22ff709e7bff7a4a1", func := "loop.example/selfmaps/laws.FnExactClosedAround", spec := "fnExactClosedAround", apart := false, narrowed := true }
def FnExactClosedAroundUptoSaid : Prop := fnExactClosedAroundUptoRow.holds Try.pinned (OpenSpec.upto fnExactClosedAroundSpec)

/-- 'laws.FnExactTreeFor', WHERE WHAT IT READS IS OF BULK AT MOST 1048576: true; the input reads as it did. -/
def fnExactTreeForUptoRow : OpenClaim := { program := "ytpbpkdkjjbhjoaa", sum := "039bf7f532e8403736129867afb9e82ccad9f70b6b9dfcb22ff709e7bff7a4a1", func := "loop.example/selfmaps/laws.FnExactTreeFor", spec := "fnExactTreeFor", apart := false, narrowed := true }
def FnExactTreeForUptoSaid : Prop := fnExactTreeForUptoRow.holds Try.pinned (OpenSpec.upto fnExactTreeForSpec)

/-- 'laws.FnExactDeskOk', WHERE WHAT IT READS IS OF BULK AT MOST 1048576: true; the input reads as it did. -/
def fnExactDeskOkUptoRow : OpenClaim := { program := "ytpbpkdkjjbhjoaa", sum := "039bf7f532e8403736129867afb9e82ccad9f70b6b9dfcb22ff709e7bff7a4a1", func := "loop.example/selfmaps/laws.FnExactDeskOk", spec := "fnExactDeskOk", apart := false, narrowed := true }
def FnExactDeskOkUptoSaid : Prop := fnExactDeskOkUptoRow.holds Try.pinned (OpenSpec.upto fnExactDeskOkSpec)

/-- 'laws.FnExactDeskNew', WHERE WHAT IT READS IS OF BULK AT MOST 1048576: true; the input reads as it did. -/
def fnExactDeskNewUptoRow : OpenClaim := { program := "ytpbpkdkjjbhjoaa", sum := "039bf7f532e8403736129867afb9e82ccad9f70b6b9dfcb22ff709e7bff7a4a1", func := "loop.example/selfmaps/laws.FnExactDeskNew", spec := "fnExactDeskNew", apart := false, narrowed := true }
def FnExactDeskNewUptoSaid : Prop := fnExactDeskNewUptoRow.holds Try.pinned (OpenSpec.upto fnExactDeskNewSpec)

/-- 'laws.FnComesFrom', WHERE WHAT IT READS IS OF BULK AT MOST 1048576: true; the input reads as it did. -/
def fnComesFromUptoRow : OpenClaim := { program := "ytpbpkdkjjbhjoaa", sum := "039bf7f532e8403736129867afb9e82ccad9f70b6b9dfcb22ff709e7bff7a4a1", func := "loop.example/selfmaps/laws.FnComesFrom", spec := "fnComesFrom", apart := false, narrowed := true }
def FnComesFromUptoSaid : Prop := fnComesFromUptoRow.holds Try.pinned (OpenSpec.upto fnComesFromSpec)

/-- 'laws.FnLedTo', WHERE WHAT IT READS IS OF BULK AT MOST 1048576: true; the input reads as it did. -/
def fnLedToUptoRow : OpenClaim := { program := "ytpbpkdkjjbhjoaa", sum := "039bf7f532e8403736129867afb9e82ccad9f70b6b9dfcb22ff709e7bff7a4a1", func := "loop.example/selfmaps/laws.FnLedTo", spec := "fnLedTo", apart := false, narrowed := true }
def FnLedToUptoSaid : Prop := fnLedToUptoRow.holds Try.pinned (OpenSpec.upto fnLedToSpec)

/-- 'laws.FnDeskNew', WHERE WHAT IT READS IS OF BULK AT MOST 1048576: true; the input reads as it did. -/
def fnDeskNewUptoRow : OpenClaim := { program := "ytpbpkdkjjbhjoaa", sum := "039bf7f532e8403736129867afb9e82ccad9f70b6b9dfcb22ff709e7bff7a4a1", func := "loop.example/selfmaps/laws.FnDeskNew", spec := "fnDeskNew", apart := false, narrowed := true }
def FnDeskNewUptoSaid : Prop := fnDeskNewUptoRow.holds Try.pinned (OpenSpec.upto fnDeskNewSpec)

/-- 'laws.FnClosedOk', WHERE WHAT IT READS IS OF BULK AT MOST 1048576: true; the input reads as it did. -/
def fnClosedOkUptoRow : OpenClaim := { program := "ytpbpkdkjjbhjoaa", sum := "039bf7f532e8403736129867afb9e82ccad9f70b6b9dfcb22ff709e7bff7a4a1", func := "loop.example/selfmaps/laws.FnClosedOk", spec := "fnClosedOk", apart := false, narrowed := true }
def FnClosedOkUptoSaid : Prop := fnClosedOkUptoRow.holds Try.pinned (OpenSpec.upto fnClosedOkSpec)

/-- 'laws.FnGardenOf', WHERE WHAT IT READS IS OF BULK AT MOST 1048576: true; the input reads as it did. -/
def fnGardenOfUptoRow : OpenClaim := { program := "ytpbpkdkjjbhjoaa", sum := "039bf7f532e8403736129867afb9e82ccad9f70b6b9dfcb22ff709e7bff7a4a1", func := "loop.example/selfmaps/laws.FnGardenOf", spec := "fnGardenOf", apart := false, narrowed := true }
def FnGardenOfUptoSaid : Prop := fnGardenOfUptoRow.holds Try.pinned (OpenSpec.upto fnGardenOfSpec)

end Rows
end Go.Proofs.Ytpbpkdkjjbhjoaa
