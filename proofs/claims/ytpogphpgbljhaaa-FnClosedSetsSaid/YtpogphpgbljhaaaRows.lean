/-
  No cell of these rows narrows 'for every input' (looked for: loops, veiled, ifaces, maps, wideKeys, modest, calm, conditions, laid).
  DERIVED. THE GIVEN ROWS OF THIS SEAT. 4 by the template 'for every input the law returns true; each argument reads behind the call as it read before'; 0 by the template 'total and deterministic' (their statements: YtpogphpgbljhaaaTotals.lean).
  GIVEN WITH THE SEED: the statements are not yours to turn. If you find one false, say at which input.
  Laid BY PROGRAM, IN A SANDBOX (cutbox-rows.mjs): the forced cells as the released guide's own fill.sh prints them over the translation 11349e66cc894d4e… (all of the seat's roots in one cut). By AI agents, Wed Nov 11 2026. No macro, syntax, notation, axiom, sorry.
-/
import Derived.Test.YtpogphpgbljhaaaChecked
import GoSem.Claim
import GoSem.ClaimJoined
import GoSem.ClaimMapViews
import Derived.JoinedTies
import Derived.KernelRfl
namespace Go.Proofs.Ytpogphpgbljhaaa
/- THE CELL 'sum', in the pinned program and in every row, IS THE sha256 OF THE DUMP (.gsa) THAT YtpogphpgbljhaaaProg.lean LOADS. Nothing in Lean hashes anything: it is a label: what it is worth is what the hold of that sum in a sandbox is worth. -/
noncomputable def Try.pinned : Pinned := { name := "ytpogphpgbljhaaa", sum := "11349e66cc894d4e22f43895f4494fe53b32e5f5ab31ffeb831f47d3ab108579", checked := Try.checked }
namespace Rows
def none {H : Type} : Left H := { results := [], args := [] }

/-- 'laws.FnExactClosedSets': WHATEVER THE INPUT: true; the input reads as it did. -/
def fnExactClosedSetsSpec : ChangeSpec := { name := "fnExactClosedSets", fn := fun _ => fun
  | [d] => { results := [.lit (.bool true)], args := [d] }
  | _ => none }
def fnExactClosedSetsRow : OpenClaim := { program := "ytpogphpgbljhaaa", sum := "11349e66cc894d4e22f43895f4494fe53b32e5f5ab31ffeb831f47d3ab108579", func := "loop.example/selfmaps/laws.FnExactClosedSets", spec := "fnExactClosedSets", unfollowed := true, recurses := true, apart := false }
def FnExactClosedSetsSaid : Prop := fnExactClosedSetsRow.holds Try.pinned (OpenSpec.ofChange fnExactClosedSetsSpec)

/-- ITS FALSE NEIGHBOUR: 'it returns false'. Refute it at one input. -/
def fnExactClosedSetsWrong : ChangeSpec := { name := "fnExactClosedSets", fn := fun _ => fun
  | [d] => { results := [.lit (.bool false)], args := [d] }
  | _ => none }
def FnExactClosedSetsWrongFalsely : Prop := fnExactClosedSetsRow.holds Try.pinned (OpenSpec.ofChange fnExactClosedSetsWrong)

/-- 'laws.FnClosedWithin': WHATEVER THE INPUT: true; the input reads as it did. -/
def fnClosedWithinSpec : ChangeSpec := { name := "fnClosedWithin", fn := fun _ => fun
  | [d] => { results := [.lit (.bool true)], args := [d] }
  | _ => none }
def fnClosedWithinRow : OpenClaim := { program := "ytpogphpgbljhaaa", sum := "11349e66cc894d4e22f43895f4494fe53b32e5f5ab31ffeb831f47d3ab108579", func := "loop.example/selfmaps/laws.FnClosedWithin", spec := "fnClosedWithin", unfollowed := true, recurses := true, apart := false }
def FnClosedWithinSaid : Prop := fnClosedWithinRow.holds Try.pinned (OpenSpec.ofChange fnClosedWithinSpec)

/-- ITS FALSE NEIGHBOUR: 'it returns false'. Refute it at one input. -/
def fnClosedWithinWrong : ChangeSpec := { name := "fnClosedWithin", fn := fun _ => fun
  | [d] => { results := [.lit (.bool false)], args := [d] }
  | _ => none }
def FnClosedWithinWrongFalsely : Prop := fnClosedWithinRow.holds Try.pinned (OpenSpec.ofChange fnClosedWithinWrong)

/-- 'laws.FnClosedAround': WHATEVER THE INPUT: true; the input reads as it did. -/
def fnClosedAroundSpec : ChangeSpec := { name := "fnClosedAround", fn := fun _ => fun
  | [d] => { results := [.lit (.bool true)], args := [d] }
  | _ => none }
def fnClosedAroundRow : OpenClaim := { program := "ytpogphpgbljhaaa", sum := "11349e66cc894d4e22f43895f4494fe53b32e5f5ab31ffeb831f47d3ab108579", func := "loop.example/selfmaps/laws.FnClosedAround", spec := "fnClosedAround", unfollowed := true, recurses := true, apart := false }
def FnClosedAroundSaid : Prop := fnClosedAroundRow.holds Try.pinned (OpenSpec.ofChange fnClosedAroundSpec)

/-- ITS FALSE NEIGHBOUR: 'it returns false'. Refute it at one input. -/
def fnClosedAroundWrong : ChangeSpec := { name := "fnClosedAround", fn := fun _ => fun
  | [d] => { results := [.lit (.bool false)], args := [d] }
  | _ => none }
def FnClosedAroundWrongFalsely : Prop := fnClosedAroundRow.holds Try.pinned (OpenSpec.ofChange fnClosedAroundWrong)

/-- 'laws.FnClosedSets': WHATEVER THE INPUT: true; the input reads as it did. -/
def fnClosedSetsSpec : ChangeSpec := { name := "fnClosedSets", fn := fun _ => fun
  | [d] => { results := [.lit (.bool true)], args := [d] }
  | _ => none }
def fnClosedSetsRow : OpenClaim := { program := "ytpogphpgbljhaaa", sum := "11349e66cc894d4e22f43895f4494fe53b32e5f5ab31ffeb831f47d3ab108579", func := "loop.example/selfmaps/laws.FnClosedSets", spec := "fnClosedSets", unfollowed := true, recurses := true, apart := false }
def FnClosedSetsSaid : Prop := fnClosedSetsRow.holds Try.pinned (OpenSpec.ofChange fnClosedSetsSpec)

/-- ITS FALSE NEIGHBOUR: 'it returns false'. Refute it at one input. -/
def fnClosedSetsWrong : ChangeSpec := { name := "fnClosedSets", fn := fun _ => fun
  | [d] => { results := [.lit (.bool false)], args := [d] }
  | _ => none }
def FnClosedSetsWrongFalsely : Prop := fnClosedSetsRow.holds Try.pinned (OpenSpec.ofChange fnClosedSetsWrong)

/- THE SECOND FORM. 'bulk': how many values and letters a reading holds, each counted each time it is reached (what is shared counts as often as it is met; a slice's spare places count too). A statement '..UptoSaid' is the law's where the arguments, and the package variables that the reading takes, are together of bulk at most 1048576: NARROWER than '..Said'. Prove '..Said' where nothing that the law and all that it calls make is longer than what came in: it says more and counts as full. Else prove '..UptoSaid'. A law counts once. -/
mutual
def uptoBulk {H : Type} : DataW H → Nat
  | .lit (.string bytes) => bytes.length + 1
  | .lit _ => 1
  | .nil => 1
  | .ptr d => uptoBulk d + 1
  | .slice elems spare => uptoBulkAll elems + uptoBulkAll spare + 1
  | .agg parts => uptoBulkAll parts + 1
  | .iface _ d => uptoBulk d + 1
  | .map entries => uptoBulkEntries entries + 1
  | .held _ => 1
def uptoBulkAll {H : Type} : List (DataW H) → Nat
  | [] => 0
  | d :: r => uptoBulk d + uptoBulkAll r
def uptoBulkEntries {H : Type} : List (Lit × DataW H) → Nat
  | [] => 0
  | x :: r => uptoBulkEntry x + uptoBulkEntries r
def uptoBulkEntry {H : Type} : Lit × DataW H → Nat
  | (.string bytes, d) => bytes.length + uptoBulk d + 1
  | (_, d) => uptoBulk d + 1
 end
def uptoSmall : (H : Type) → List (DataW H) → Bool := fun _ ds => decide (uptoBulkAll ds ≤ 1048576)
def OpenSpec.upto (s : _root_.Go.ChangeSpec) : _root_.Go.OpenSpec := { _root_.Go.OpenSpec.ofChange s with cond := some uptoSmall }

/-- 'laws.FnExactClosedSets', WHERE WHAT IT READS IS OF BULK AT MOST 1048576: true; the input reads as it did. -/
def fnExactClosedSetsUptoRow : OpenClaim := { program := "ytpogphpgbljhaaa", sum := "11349e66cc894d4e22f43895f4494fe53b32e5f5ab31ffeb831f47d3ab108579", func := "loop.example/selfmaps/laws.FnExactClosedSets", spec := "fnExactClosedSets", unfollowed := true, recurses := true, apart := false, narrowed := true }
def FnExactClosedSetsUptoSaid : Prop := fnExactClosedSetsUptoRow.holds Try.pinned (OpenSpec.upto fnExactClosedSetsSpec)

/-- 'laws.FnClosedWithin', WHERE WHAT IT READS IS OF BULK AT MOST 1048576: true; the input reads as it did. -/
def fnClosedWithinUptoRow : OpenClaim := { program := "ytpogphpgbljhaaa", sum := "11349e66cc894d4e22f43895f4494fe53b32e5f5ab31ffeb831f47d3ab108579", func := "loop.example/selfmaps/laws.FnClosedWithin", spec := "fnClosedWithin", unfollowed := true, recurses := true, apart := false, narrowed := true }
def FnClosedWithinUptoSaid : Prop := fnClosedWithinUptoRow.holds Try.pinned (OpenSpec.upto fnClosedWithinSpec)

/-- 'laws.FnClosedAround', WHERE WHAT IT READS IS OF BULK AT MOST 1048576: true; the input reads as it did. -/
def fnClosedAroundUptoRow : OpenClaim := { program := "ytpogphpgbljhaaa", sum := "11349e66cc894d4e22f43895f4494fe53b32e5f5ab31ffeb831f47d3ab108579", func := "loop.example/selfmaps/laws.FnClosedAround", spec := "fnClosedAround", unfollowed := true, recurses := true, apart := false, narrowed := true }
def FnClosedAroundUptoSaid : Prop := fnClosedAroundUptoRow.holds Try.pinned (OpenSpec.upto fnClosedAroundSpec)

/-- 'laws.FnClosedSets', WHERE WHAT IT READS IS OF BULK AT MOST 1048576: true; the input reads as it did. -/
def fnClosedSetsUptoRow : OpenClaim := { program := "ytpogphpgbljhaaa", sum := "11349e66cc894d4e22f43895f4494fe53b32e5f5ab31ffeb831f47d3ab108579", func := "loop.example/selfmaps/laws.FnClosedSets", spec := "fnClosedSets", unfollowed := true, recurses := true, apart := false, narrowed := true }
def FnClosedSetsUptoSaid : Prop := fnClosedSetsUptoRow.holds Try.pinned (OpenSpec.upto fnClosedSetsSpec)

end Rows
end Go.Proofs.Ytpogphpgbljhaaa
