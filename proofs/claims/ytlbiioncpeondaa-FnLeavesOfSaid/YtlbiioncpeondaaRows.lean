/-
  No cell of these rows narrows 'for every input' (looked for: loops, veiled, ifaces, maps, wideKeys, modest, calm, conditions, laid).
  DERIVED. THE GIVEN ROWS OF THIS SEAT. 12 by the template 'for every input the law returns true; each argument reads behind the call as it read before'; 0 by the template 'total and deterministic' (their statements: YtlbiioncpeondaaTotals.lean).
  GIVEN WITH THE SEED: the statements are not yours to turn. If you find one false, say at which input.
  Laid BY PROGRAM, IN A SANDBOX (cutbox-rows.mjs): the forced cells as the released guide's own fill.sh prints them over the translation 179b79b327a4b970… (all of the seat's roots in one cut). By AI agents, Wed Nov 11 2026. No macro, syntax, notation, axiom, sorry.
-/
import Derived.Test.YtlbiioncpeondaaChecked
import GoSem.Claim
import GoSem.ClaimJoined
import GoSem.ClaimMapViews
import Derived.JoinedTies
import Derived.KernelRfl
namespace Go.Proofs.Ytlbiioncpeondaa
/- THE CELL 'sum', in the pinned program and in every row, IS THE sha256 OF THE DUMP (.gsa) THAT YtlbiioncpeondaaProg.lean LOADS. Nothing in Lean hashes anything: it is a label: what it is worth is what the hold of that sum in a sandbox is worth. -/
noncomputable def Try.pinned : Pinned := { name := "ytlbiioncpeondaa", sum := "179b79b327a4b97028ae189ee859c3bc8ea61de4cf1a8d72123901666df54630", checked := Try.checked }
namespace Rows
def none {H : Type} : Left H := { results := [], args := [] }

/-- 'laws.FnExactTreeOk': WHATEVER THE INPUT: true; the input reads as it did. -/
def fnExactTreeOkSpec : ChangeSpec := { name := "fnExactTreeOk", fn := fun _ => fun
  | [d] => { results := [.lit (.bool true)], args := [d] }
  | _ => none }
def fnExactTreeOkRow : OpenClaim := { program := "ytlbiioncpeondaa", sum := "179b79b327a4b97028ae189ee859c3bc8ea61de4cf1a8d72123901666df54630", func := "loop.example/selfmaps/laws.FnExactTreeOk", spec := "fnExactTreeOk", apart := false }
def FnExactTreeOkSaid : Prop := fnExactTreeOkRow.holds Try.pinned (OpenSpec.ofChange fnExactTreeOkSpec)

/-- ITS FALSE NEIGHBOUR: 'it returns false'. Refute it at one input. -/
def fnExactTreeOkWrong : ChangeSpec := { name := "fnExactTreeOk", fn := fun _ => fun
  | [d] => { results := [.lit (.bool false)], args := [d] }
  | _ => none }
def FnExactTreeOkWrongFalsely : Prop := fnExactTreeOkRow.holds Try.pinned (OpenSpec.ofChange fnExactTreeOkWrong)

/-- 'laws.FnLimitOf': WHATEVER THE INPUT: true; the input reads as it did. -/
def fnLimitOfSpec : ChangeSpec := { name := "fnLimitOf", fn := fun _ => fun
  | [d] => { results := [.lit (.bool true)], args := [d] }
  | _ => none }
def fnLimitOfRow : OpenClaim := { program := "ytlbiioncpeondaa", sum := "179b79b327a4b97028ae189ee859c3bc8ea61de4cf1a8d72123901666df54630", func := "loop.example/selfmaps/laws.FnLimitOf", spec := "fnLimitOf", apart := false }
def FnLimitOfSaid : Prop := fnLimitOfRow.holds Try.pinned (OpenSpec.ofChange fnLimitOfSpec)

/-- ITS FALSE NEIGHBOUR: 'it returns false'. Refute it at one input. -/
def fnLimitOfWrong : ChangeSpec := { name := "fnLimitOf", fn := fun _ => fun
  | [d] => { results := [.lit (.bool false)], args := [d] }
  | _ => none }
def FnLimitOfWrongFalsely : Prop := fnLimitOfRow.holds Try.pinned (OpenSpec.ofChange fnLimitOfWrong)

/-- 'laws.FnExactRootOf': WHATEVER THE INPUT: true; the input reads as it did. -/
def fnExactRootOfSpec : ChangeSpec := { name := "fnExactRootOf", fn := fun _ => fun
  | [d] => { results := [.lit (.bool true)], args := [d] }
  | _ => none }
def fnExactRootOfRow : OpenClaim := { program := "ytlbiioncpeondaa", sum := "179b79b327a4b97028ae189ee859c3bc8ea61de4cf1a8d72123901666df54630", func := "loop.example/selfmaps/laws.FnExactRootOf", spec := "fnExactRootOf", apart := false }
def FnExactRootOfSaid : Prop := fnExactRootOfRow.holds Try.pinned (OpenSpec.ofChange fnExactRootOfSpec)

/-- ITS FALSE NEIGHBOUR: 'it returns false'. Refute it at one input. -/
def fnExactRootOfWrong : ChangeSpec := { name := "fnExactRootOf", fn := fun _ => fun
  | [d] => { results := [.lit (.bool false)], args := [d] }
  | _ => none }
def FnExactRootOfWrongFalsely : Prop := fnExactRootOfRow.holds Try.pinned (OpenSpec.ofChange fnExactRootOfWrong)

/-- 'laws.FnExactLeavesOf': WHATEVER THE INPUT: true; the input reads as it did. -/
def fnExactLeavesOfSpec : ChangeSpec := { name := "fnExactLeavesOf", fn := fun _ => fun
  | [d] => { results := [.lit (.bool true)], args := [d] }
  | _ => none }
def fnExactLeavesOfRow : OpenClaim := { program := "ytlbiioncpeondaa", sum := "179b79b327a4b97028ae189ee859c3bc8ea61de4cf1a8d72123901666df54630", func := "loop.example/selfmaps/laws.FnExactLeavesOf", spec := "fnExactLeavesOf", unfollowed := true, recurses := true, apart := false }
def FnExactLeavesOfSaid : Prop := fnExactLeavesOfRow.holds Try.pinned (OpenSpec.ofChange fnExactLeavesOfSpec)

/-- ITS FALSE NEIGHBOUR: 'it returns false'. Refute it at one input. -/
def fnExactLeavesOfWrong : ChangeSpec := { name := "fnExactLeavesOf", fn := fun _ => fun
  | [d] => { results := [.lit (.bool false)], args := [d] }
  | _ => none }
def FnExactLeavesOfWrongFalsely : Prop := fnExactLeavesOfRow.holds Try.pinned (OpenSpec.ofChange fnExactLeavesOfWrong)

/-- 'laws.FnExactCodeOf': WHATEVER THE INPUT: true; the input reads as it did. -/
def fnExactCodeOfSpec : ChangeSpec := { name := "fnExactCodeOf", fn := fun _ => fun
  | [d] => { results := [.lit (.bool true)], args := [d] }
  | _ => none }
def fnExactCodeOfRow : OpenClaim := { program := "ytlbiioncpeondaa", sum := "179b79b327a4b97028ae189ee859c3bc8ea61de4cf1a8d72123901666df54630", func := "loop.example/selfmaps/laws.FnExactCodeOf", spec := "fnExactCodeOf", apart := false }
def FnExactCodeOfSaid : Prop := fnExactCodeOfRow.holds Try.pinned (OpenSpec.ofChange fnExactCodeOfSpec)

/-- ITS FALSE NEIGHBOUR: 'it returns false'. Refute it at one input. -/
def fnExactCodeOfWrong : ChangeSpec := { name := "fnExactCodeOf", fn := fun _ => fun
  | [d] => { results := [.lit (.bool false)], args := [d] }
  | _ => none }
def FnExactCodeOfWrongFalsely : Prop := fnExactCodeOfRow.holds Try.pinned (OpenSpec.ofChange fnExactCodeOfWrong)

/-- 'laws.FnCentreOf': WHATEVER THE INPUT: true; the input reads as it did. -/
def fnCentreOfSpec : ChangeSpec := { name := "fnCentreOf", fn := fun _ => fun
  | [d] => { results := [.lit (.bool true)], args := [d] }
  | _ => none }
def fnCentreOfRow : OpenClaim := { program := "ytlbiioncpeondaa", sum := "179b79b327a4b97028ae189ee859c3bc8ea61de4cf1a8d72123901666df54630", func := "loop.example/selfmaps/laws.FnCentreOf", spec := "fnCentreOf", unfollowed := true, recurses := true, apart := false }
def FnCentreOfSaid : Prop := fnCentreOfRow.holds Try.pinned (OpenSpec.ofChange fnCentreOfSpec)

/-- ITS FALSE NEIGHBOUR: 'it returns false'. Refute it at one input. -/
def fnCentreOfWrong : ChangeSpec := { name := "fnCentreOf", fn := fun _ => fun
  | [d] => { results := [.lit (.bool false)], args := [d] }
  | _ => none }
def FnCentreOfWrongFalsely : Prop := fnCentreOfRow.holds Try.pinned (OpenSpec.ofChange fnCentreOfWrong)

/-- 'laws.FnTreeOk': WHATEVER THE INPUT: true; the input reads as it did. -/
def fnTreeOkSpec : ChangeSpec := { name := "fnTreeOk", fn := fun _ => fun
  | [d] => { results := [.lit (.bool true)], args := [d] }
  | _ => none }
def fnTreeOkRow : OpenClaim := { program := "ytlbiioncpeondaa", sum := "179b79b327a4b97028ae189ee859c3bc8ea61de4cf1a8d72123901666df54630", func := "loop.example/selfmaps/laws.FnTreeOk", spec := "fnTreeOk", apart := false }
def FnTreeOkSaid : Prop := fnTreeOkRow.holds Try.pinned (OpenSpec.ofChange fnTreeOkSpec)

/-- ITS FALSE NEIGHBOUR: 'it returns false'. Refute it at one input. -/
def fnTreeOkWrong : ChangeSpec := { name := "fnTreeOk", fn := fun _ => fun
  | [d] => { results := [.lit (.bool false)], args := [d] }
  | _ => none }
def FnTreeOkWrongFalsely : Prop := fnTreeOkRow.holds Try.pinned (OpenSpec.ofChange fnTreeOkWrong)

/-- 'laws.FnDeskOk': WHATEVER THE INPUT: true; the input reads as it did. -/
def fnDeskOkSpec : ChangeSpec := { name := "fnDeskOk", fn := fun _ => fun
  | [d] => { results := [.lit (.bool true)], args := [d] }
  | _ => none }
def fnDeskOkRow : OpenClaim := { program := "ytlbiioncpeondaa", sum := "179b79b327a4b97028ae189ee859c3bc8ea61de4cf1a8d72123901666df54630", func := "loop.example/selfmaps/laws.FnDeskOk", spec := "fnDeskOk", recurses := true, apart := false }
def FnDeskOkSaid : Prop := fnDeskOkRow.holds Try.pinned (OpenSpec.ofChange fnDeskOkSpec)

/-- ITS FALSE NEIGHBOUR: 'it returns false'. Refute it at one input. -/
def fnDeskOkWrong : ChangeSpec := { name := "fnDeskOk", fn := fun _ => fun
  | [d] => { results := [.lit (.bool false)], args := [d] }
  | _ => none }
def FnDeskOkWrongFalsely : Prop := fnDeskOkRow.holds Try.pinned (OpenSpec.ofChange fnDeskOkWrong)

/-- 'laws.FnTreeFor': WHATEVER THE INPUT: true; the input reads as it did. -/
def fnTreeForSpec : ChangeSpec := { name := "fnTreeFor", fn := fun _ => fun
  | [d] => { results := [.lit (.bool true)], args := [d] }
  | _ => none }
def fnTreeForRow : OpenClaim := { program := "ytlbiioncpeondaa", sum := "179b79b327a4b97028ae189ee859c3bc8ea61de4cf1a8d72123901666df54630", func := "loop.example/selfmaps/laws.FnTreeFor", spec := "fnTreeFor", unfollowed := true, recurses := true, apart := false }
def FnTreeForSaid : Prop := fnTreeForRow.holds Try.pinned (OpenSpec.ofChange fnTreeForSpec)

/-- ITS FALSE NEIGHBOUR: 'it returns false'. Refute it at one input. -/
def fnTreeForWrong : ChangeSpec := { name := "fnTreeFor", fn := fun _ => fun
  | [d] => { results := [.lit (.bool false)], args := [d] }
  | _ => none }
def FnTreeForWrongFalsely : Prop := fnTreeForRow.holds Try.pinned (OpenSpec.ofChange fnTreeForWrong)

/-- 'laws.FnRootOf': WHATEVER THE INPUT: true; the input reads as it did. -/
def fnRootOfSpec : ChangeSpec := { name := "fnRootOf", fn := fun _ => fun
  | [d] => { results := [.lit (.bool true)], args := [d] }
  | _ => none }
def fnRootOfRow : OpenClaim := { program := "ytlbiioncpeondaa", sum := "179b79b327a4b97028ae189ee859c3bc8ea61de4cf1a8d72123901666df54630", func := "loop.example/selfmaps/laws.FnRootOf", spec := "fnRootOf", recurses := true, apart := false }
def FnRootOfSaid : Prop := fnRootOfRow.holds Try.pinned (OpenSpec.ofChange fnRootOfSpec)

/-- ITS FALSE NEIGHBOUR: 'it returns false'. Refute it at one input. -/
def fnRootOfWrong : ChangeSpec := { name := "fnRootOf", fn := fun _ => fun
  | [d] => { results := [.lit (.bool false)], args := [d] }
  | _ => none }
def FnRootOfWrongFalsely : Prop := fnRootOfRow.holds Try.pinned (OpenSpec.ofChange fnRootOfWrong)

/-- 'laws.FnLeavesOf': WHATEVER THE INPUT: true; the input reads as it did. -/
def fnLeavesOfSpec : ChangeSpec := { name := "fnLeavesOf", fn := fun _ => fun
  | [d] => { results := [.lit (.bool true)], args := [d] }
  | _ => none }
def fnLeavesOfRow : OpenClaim := { program := "ytlbiioncpeondaa", sum := "179b79b327a4b97028ae189ee859c3bc8ea61de4cf1a8d72123901666df54630", func := "loop.example/selfmaps/laws.FnLeavesOf", spec := "fnLeavesOf", unfollowed := true, recurses := true, apart := false }
def FnLeavesOfSaid : Prop := fnLeavesOfRow.holds Try.pinned (OpenSpec.ofChange fnLeavesOfSpec)

/-- ITS FALSE NEIGHBOUR: 'it returns false'. Refute it at one input. -/
def fnLeavesOfWrong : ChangeSpec := { name := "fnLeavesOf", fn := fun _ => fun
  | [d] => { results := [.lit (.bool false)], args := [d] }
  | _ => none }
def FnLeavesOfWrongFalsely : Prop := fnLeavesOfRow.holds Try.pinned (OpenSpec.ofChange fnLeavesOfWrong)

/-- 'laws.FnCodeOf': WHATEVER THE INPUT: true; the input reads as it did. -/
def fnCodeOfSpec : ChangeSpec := { name := "fnCodeOf", fn := fun _ => fun
  | [d] => { results := [.lit (.bool true)], args := [d] }
  | _ => none }
def fnCodeOfRow : OpenClaim := { program := "ytlbiioncpeondaa", sum := "179b79b327a4b97028ae189ee859c3bc8ea61de4cf1a8d72123901666df54630", func := "loop.example/selfmaps/laws.FnCodeOf", spec := "fnCodeOf", apart := false }
def FnCodeOfSaid : Prop := fnCodeOfRow.holds Try.pinned (OpenSpec.ofChange fnCodeOfSpec)

/-- ITS FALSE NEIGHBOUR: 'it returns false'. Refute it at one input. -/
def fnCodeOfWrong : ChangeSpec := { name := "fnCodeOf", fn := fun _ => fun
  | [d] => { results := [.lit (.bool false)], args := [d] }
  | _ => none }
def FnCodeOfWrongFalsely : Prop := fnCodeOfRow.holds Try.pinned (OpenSpec.ofChange fnCodeOfWrong)

/- THE SECOND FORM. 'bulk': how many values and letters a reading holds, each counted each time it is reached (what is shared counts as often as it is met; a slice's spare places count too). A statement '..UptoSaid' is the law's where the arguments, and the package variables that the reading takes, are together of bulk at most 1048576: NARROWER than '..Said'. Prove '..Said' where nothing that the law and all that it calls make is longer than what came in: it says more and counts as full. Else prove '..UptoSaid'. A law counts once. -/
mutual
def uptoBulk {H : Type} : DataW H → Nat
  | .lit (.string bytes) => bytes.length + 1
  | .lit _ => 1
  | .nil => 1
  | .ptr d => uptoBulk d + 1
  | .slice elems spare => uptoBulkAll elems + uptoBulkAll spare + 1
  | .agg parts => uptoBulkAll parts + 1
  | .iface _ d => uptoBulk d + 1
  | .map entries => uptoBulkEntries entries + 1
  | .held _ => 1
def uptoBulkAll {H : Type} : List (DataW H) → Nat
  | [] => 0
  | d :: r => uptoBulk d + uptoBulkAll r
def uptoBulkEntries {H : Type} : List (Lit × DataW H) → Nat
  | [] => 0
  | x :: r => uptoBulkEntry x + uptoBulkEntries r
def uptoBulkEntry {H : Type} : Lit × DataW H → Nat
  | (.string bytes, d) => bytes.length + uptoBulk d + 1
  | (_, d) => uptoBulk d + 1
 end
def uptoSmall : (H : Type) → List (DataW H) → Bool := fun _ ds => decide (uptoBulkAll ds ≤ 1048576)
def OpenSpec.upto (s : _root_.Go.ChangeSpec) : _root_.Go.OpenSpec := { _root_.Go.OpenSpec.ofChange s with cond := some uptoSmall }

/-- 'laws.FnExactTreeOk', WHERE WHAT IT READS IS OF BULK AT MOST 1048576: true; the input reads as it did. -/
def fnExactTreeOkUptoRow : OpenClaim := { program := "ytlbiioncpeondaa", sum := "179b79b327a4b97028ae189ee859c3bc8ea61de4cf1a8d72123901666df54630", func := "loop.example/selfmaps/laws.FnExactTreeOk", spec := "fnExactTreeOk", apart := false, narrowed := true }
def FnExactTreeOkUptoSaid : Prop := fnExactTreeOkUptoRow.holds Try.pinned (OpenSpec.upto fnExactTreeOkSpec)

/-- 'laws.FnLimitOf', WHERE WHAT IT READS IS OF BULK AT MOST 1048576: true; the input reads as it did. -/
def fnLimitOfUptoRow : OpenClaim := { program := "ytlbiioncpeondaa", sum := "179b79b327a4b97028ae189ee859c3bc8ea61de4cf1a8d72123901666df54630", func := "loop.example/selfmaps/laws.FnLimitOf", spec := "fnLimitOf", apart := false, narrowed := true }
def FnLimitOfUptoSaid : Prop := fnLimitOfUptoRow.holds Try.pinned (OpenSpec.upto fnLimitOfSpec)

/-- 'laws.FnExactRootOf', WHERE WHAT IT READS IS OF BULK AT MOST 1048576: true; the input reads as it did. -/
def fnExactRootOfUptoRow : OpenClaim := { program := "ytlbiioncpeondaa", sum := "179b79b327a4b97028ae189ee859c3bc8ea61de4cf1a8d72123901666df54630", func := "loop.example/selfmaps/laws.FnExactRootOf", spec := "fnExactRootOf", apart := false, narrowed := true }
def FnExactRootOfUptoSaid : Prop := fnExactRootOfUptoRow.holds Try.pinned (OpenSpec.upto fnExactRootOfSpec)

/-- 'laws.FnExactLeavesOf', WHERE WHAT IT READS IS OF BULK AT MOST 1048576: true; the input reads as it did. -/
def fnExactLeavesOfUptoRow : OpenClaim := { program := "ytlbiioncpeondaa", sum := "179b79b327a4b97028ae189ee859c3bc8ea61de4cf1a8d72123901666df54630", func := "loop.example/selfmaps/laws.FnExactLeavesOf", spec := "fnExactLeavesOf", unfollowed := true, recurses := true, apart := false, narrowed := true }
def FnExactLeavesOfUptoSaid : Prop := fnExactLeavesOfUptoRow.holds Try.pinned (OpenSpec.upto fnExactLeavesOfSpec)

/-- 'laws.FnExactCodeOf', WHERE WHAT IT READS IS OF BULK AT MOST 1048576: true; the input reads as it did. -/
def fnExactCodeOfUptoRow : OpenClaim := { program := "ytlbiioncpeondaa", sum := "179b79b327a4b97028ae189ee859c3bc8ea61de4cf1a8d72123901666df54630", func := "loop.example/selfmaps/laws.FnExactCodeOf", spec := "fnExactCodeOf", apart := false, narrowed := true }
def FnExactCodeOfUptoSaid : Prop := fnExactCodeOfUptoRow.holds Try.pinned (OpenSpec.upto fnExactCodeOfSpec)

/-- 'laws.FnCentreOf', WHERE WHAT IT READS IS OF BULK AT MOST 1048576: true; the input reads as it did. -/
def fnCentreOfUptoRow : OpenClaim := { program := "ytlbiioncpeondaa", sum := "179b79b327a4b97028ae189ee859c3bc8ea61de4cf1a8d72123901666df54630", func := "loop.example/selfmaps/laws.FnCentreOf", spec := "fnCentreOf", unfollowed := true, recurses := true, apart := false, narrowed := true }
def FnCentreOfUptoSaid : Prop := fnCentreOfUptoRow.holds Try.pinned (OpenSpec.upto fnCentreOfSpec)

/-- 'laws.FnTreeOk', WHERE WHAT IT READS IS OF BULK AT MOST 1048576: true; the input reads as it did. -/
def fnTreeOkUptoRow : OpenClaim := { program := "ytlbiioncpeondaa", sum := "179b79b327a4b97028ae189ee859c3bc8ea61de4cf1a8d72123901666df54630", func := "loop.example/selfmaps/laws.FnTreeOk", spec := "fnTreeOk", apart := false, narrowed := true }
def FnTreeOkUptoSaid : Prop := fnTreeOkUptoRow.holds Try.pinned (OpenSpec.upto fnTreeOkSpec)

/-- 'laws.FnDeskOk', WHERE WHAT IT READS IS OF BULK AT MOST 1048576: true; the input reads as it did. -/
def fnDeskOkUptoRow : OpenClaim := { program := "ytlbiioncpeondaa", sum := "179b79b327a4b97028ae189ee859c3bc8ea61de4cf1a8d72123901666df54630", func := "loop.example/selfmaps/laws.FnDeskOk", spec := "fnDeskOk", recurses := true, apart := false, narrowed := true }
def FnDeskOkUptoSaid : Prop := fnDeskOkUptoRow.holds Try.pinned (OpenSpec.upto fnDeskOkSpec)

/-- 'laws.FnTreeFor', WHERE WHAT IT READS IS OF BULK AT MOST 1048576: true; the input reads as it did. -/
def fnTreeForUptoRow : OpenClaim := { program := "ytlbiioncpeondaa", sum := "179b79b327a4b97028ae189ee859c3bc8ea61de4cf1a8d72123901666df54630", func := "loop.example/selfmaps/laws.FnTreeFor", spec := "fnTreeFor", unfollowed := true, recurses := true, apart := false, narrowed := true }
def FnTreeForUptoSaid : Prop := fnTreeForUptoRow.holds Try.pinned (OpenSpec.upto fnTreeForSpec)

/-- 'laws.FnRootOf', WHERE WHAT IT READS IS OF BULK AT MOST 1048576: true; the input reads as it did. -/
def fnRootOfUptoRow : OpenClaim := { program := "ytlbiioncpeondaa", sum := "179b79b327a4b97028ae189ee859c3bc8ea61de4cf1a8d72123901666df54630", func := "loop.example/selfmaps/laws.FnRootOf", spec := "fnRootOf", recurses := true, apart := false, narrowed := true }
def FnRootOfUptoSaid : Prop := fnRootOfUptoRow.holds Try.pinned (OpenSpec.upto fnRootOfSpec)

/-- 'laws.FnLeavesOf', WHERE WHAT IT READS IS OF BULK AT MOST 1048576: true; the input reads as it did. -/
def fnLeavesOfUptoRow : OpenClaim := { program := "ytlbiioncpeondaa", sum := "179b79b327a4b97028ae189ee859c3bc8ea61de4cf1a8d72123901666df54630", func := "loop.example/selfmaps/laws.FnLeavesOf", spec := "fnLeavesOf", unfollowed := true, recurses := true, apart := false, narrowed := true }
def FnLeavesOfUptoSaid : Prop := fnLeavesOfUptoRow.holds Try.pinned (OpenSpec.upto fnLeavesOfSpec)

/-- 'laws.FnCodeOf', WHERE WHAT IT READS IS OF BULK AT MOST 1048576: true; the input reads as it did. -/
def fnCodeOfUptoRow : OpenClaim := { program := "ytlbiioncpeondaa", sum := "179b79b327a4b97028ae189ee859c3bc8ea61de4cf1a8d72123901666df54630", func := "loop.example/selfmaps/laws.FnCodeOf", spec := "fnCodeOf", apart := false, narrowed := true }
def FnCodeOfUptoSaid : Prop := fnCodeOfUptoRow.holds Try.pinned (OpenSpec.upto fnCodeOfSpec)

end Rows
end Go.Proofs.Ytlbiioncpeondaa
