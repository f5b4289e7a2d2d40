/-
  No cell of these rows narrows 'for every input' (looked for: loops, veiled, ifaces, maps, wideKeys, modest, calm, conditions, laid).
  DERIVED. THE GIVEN ROWS OF THIS SEAT. 5 by the template 'for every input the law returns true; each argument reads behind the call as it read before'; 0 by the template 'total and deterministic' (their statements: YtohllgeangmlaaaTotals.lean).
  GIVEN WITH THE SEED: the statements are not yours to turn. If you find one false, say at which input.
  Laid BY PROGRAM, IN A SANDBOX (cutbox-rows.mjs): the forced cells as the released guide's own fill.sh prints them over the translation d426c371d3049937… (all of the seat's roots in one cut). By AI agents, Wed Nov 11 2026. No macro, syntax, notation, axiom, sorry.
-/
import Derived.Test.YtohllgeangmlaaaChecked
import GoSem.Claim
import GoSem.ClaimJoined
import GoSem.ClaimMapViews
import Derived.JoinedTies
import Derived.KernelRfl
namespace Go.Proofs.Ytohllgeangmlaaa
/- THE CELL 'sum', in the pinned program and in every row, IS THE sha256 OF THE DUMP (.gsa) THAT YtohllgeangmlaaaProg.lean LOADS. Nothing in Lean hashes anything: it is a label: what it is worth is what the hold of that sum in a sandbox is worth. -/
noncomputable def Try.pinned : Pinned := { name := "ytohllgeangmlaaa", sum := "d426c371d30499373efd5ab548d2950fb1b048b3544c031b33ecd93e0196797b", checked := Try.checked }
namespace Rows
def none {H : Type} : Left H := { results := [], args := [] }

/-- 'laws.FnExactSetOk': WHATEVER THE INPUT: true; the input reads as it did. -/
def fnExactSetOkSpec : ChangeSpec := { name := "fnExactSetOk", fn := fun _ => fun
  | [d1, d2] => { results := [.lit (.bool true)], args := [d1, d2] }
  | _ => none }
def fnExactSetOkRow : OpenClaim := { program := "ytohllgeangmlaaa", sum := "d426c371d30499373efd5ab548d2950fb1b048b3544c031b33ecd93e0196797b", func := "loop.example/selfmaps/laws.FnExactSetOk", spec := "fnExactSetOk", apart := false }
def FnExactSetOkSaid : Prop := fnExactSetOkRow.holds Try.pinned (OpenSpec.ofChange fnExactSetOkSpec)

/-- ITS FALSE NEIGHBOUR: 'it returns false'. Refute it at one input. -/
def fnExactSetOkWrong : ChangeSpec := { name := "fnExactSetOk", fn := fun _ => fun
  | [d1, d2] => { results := [.lit (.bool false)], args := [d1, d2] }
  | _ => none }
def FnExactSetOkWrongFalsely : Prop := fnExactSetOkRow.holds Try.pinned (OpenSpec.ofChange fnExactSetOkWrong)

/-- 'laws.FnExactComesFrom': WHATEVER THE INPUT: true; the input reads as it did. -/
def fnExactComesFromSpec : ChangeSpec := { name := "fnExactComesFrom", fn := fun _ => fun
  | [d1, d2] => { results := [.lit (.bool true)], args := [d1, d2] }
  | _ => none }
def fnExactComesFromRow : OpenClaim := { program := "ytohllgeangmlaaa", sum := "d426c371d30499373efd5ab548d2950fb1b048b3544c031b33ecd93e0196797b", func := "loop.example/selfmaps/laws.FnExactComesFrom", spec := "fnExactComesFrom", apart := false }
def FnExactComesFromSaid : Prop := fnExactComesFromRow.holds Try.pinned (OpenSpec.ofChange fnExactComesFromSpec)

/-- ITS FALSE NEIGHBOUR: 'it returns false'. Refute it at one input. -/
def fnExactComesFromWrong : ChangeSpec := { name := "fnExactComesFrom", fn := fun _ => fun
  | [d1, d2] => { results := [.lit (.bool false)], args := [d1, d2] }
  | _ => none }
def FnExactComesFromWrongFalsely : Prop := fnExactComesFromRow.holds Try.pinned (OpenSpec.ofChange fnExactComesFromWrong)

/-- 'laws.FnExactLedTo': WHATEVER THE INPUT: true; the input reads as it did. -/
def fnExactLedToSpec : ChangeSpec := { name := "fnExactLedTo", fn := fun _ => fun
  | [d1, d2] => { results := [.lit (.bool true)], args := [d1, d2] }
  | _ => none }
def fnExactLedToRow : OpenClaim := { program := "ytohllgeangmlaaa", sum := "d426c371d30499373efd5ab548d2950fb1b048b3544c031b33ecd93e0196797b", func := "loop.example/selfmaps/laws.FnExactLedTo", spec := "fnExactLedTo", apart := false }
def FnExactLedToSaid : Prop := fnExactLedToRow.holds Try.pinned (OpenSpec.ofChange fnExactLedToSpec)

/-- ITS FALSE NEIGHBOUR: 'it returns false'. Refute it at one input. -/
def fnExactLedToWrong : ChangeSpec := { name := "fnExactLedTo", fn := fun _ => fun
  | [d1, d2] => { results := [.lit (.bool false)], args := [d1, d2] }
  | _ => none }
def FnExactLedToWrongFalsely : Prop := fnExactLedToRow.holds Try.pinned (OpenSpec.ofChange fnExactLedToWrong)

/-- 'laws.FnExactClosedOk': WHATEVER THE INPUT: true; the input reads as it did. -/
def fnExactClosedOkSpec : ChangeSpec := { name := "fnExactClosedOk", fn := fun _ => fun
  | [d1, d2] => { results := [.lit (.bool true)], args := [d1, d2] }
  | _ => none }
def fnExactClosedOkRow : OpenClaim := { program := "ytohllgeangmlaaa", sum := "d426c371d30499373efd5ab548d2950fb1b048b3544c031b33ecd93e0196797b", func := "loop.example/selfmaps/laws.FnExactClosedOk", spec := "fnExactClosedOk", apart := false }
def FnExactClosedOkSaid : Prop := fnExactClosedOkRow.holds Try.pinned (OpenSpec.ofChange fnExactClosedOkSpec)

/-- ITS FALSE NEIGHBOUR: 'it returns false'. Refute it at one input. -/
def fnExactClosedOkWrong : ChangeSpec := { name := "fnExactClosedOk", fn := fun _ => fun
  | [d1, d2] => { results := [.lit (.bool false)], args := [d1, d2] }
  | _ => none }
def FnExactClosedOkWrongFalsely : Prop := fnExactClosedOkRow.holds Try.pinned (OpenSpec.ofChange fnExactClosedOkWrong)

/-- 'laws.FnExactGardenOf': WHATEVER THE INPUT: true; the input reads as it did. -/
def fnExactGardenOfSpec : ChangeSpec := { name := "fnExactGardenOf", fn := fun _ => fun
  | [d] => { results := [.lit (.bool true)], args := [d] }
  | _ => none }
def fnExactGardenOfRow : OpenClaim := { program := "ytohllgeangmlaaa", sum := "d426c371d30499373efd5ab548d2950fb1b048b3544c031b33ecd93e0196797b", func := "loop.example/selfmaps/laws.FnExactGardenOf", spec := "fnExactGardenOf", apart := false }
def FnExactGardenOfSaid : Prop := fnExactGardenOfRow.holds Try.pinned (OpenSpec.ofChange fnExactGardenOfSpec)

/-- ITS FALSE NEIGHBOUR: 'it returns false'. Refute it at one input. -/
def fnExactGardenOfWrong : ChangeSpec := { name := "fnExactGardenOf", fn := fun _ => fun
  | [d] => { results := [.lit (.bool false)], args := [d] }
  | _ => none }
def FnExactGardenOfWrongFalsely : Prop := fnExactGardenOfRow.holds Try.pinned (OpenSpec.ofChange fnExactGardenOfWrong)

/- THE SECOND FORM. 'bulk': how many values and letters a reading holds, each counted each time it is reached (what is shared counts as often as it is met; a slice's spare places count too). A statement '..UptoSaid' is the law's where the arguments, and the package variables that the reading takes, are together of bulk at most 1048576: NARROWER than '..Said'. Prove '..Said' where nothing that the law and all that it calls make is longer than what came in: it says more and counts as full. Else prove '..UptoSaid'. A law counts once. -/
mutual
def uptoBulk {H : Type} : DataW H → Nat
  | .lit (.string bytes) => bytes.length + 1
  | .lit _ => 1
  | .nil => 1
  | .ptr d => uptoBulk d + 1
  | .slice elems spare => uptoBulkAll elems + uptoBulkAll spare + 1
  | .agg parts => uptoBulkAll parts + 1
  | .iface _ d => uptoBulk d + 1
  | .map entries => uptoBulkEntries entries + 1
  | .held _ => 1
def uptoBulkAll {H : Type} : List (DataW H) → Nat
  | [] => 0
  | d :: r => uptoBulk d + uptoBulkAll r
def uptoBulkEntries {H : Type} : List (Lit × DataW H) → Nat
  | [] => 0
  | x :: r => uptoBulkEntry x + uptoBulkEntries r
def uptoBulkEntry {H : Type} : Lit × DataW H → Nat
  | (.string bytes, d) => bytes.length + uptoBulk d + 1
  | (_, d) => uptoBulk d + 1
 end
def uptoSmall : (H : Type) → List (DataW H) → Bool := fun _ ds => decide (uptoBulkAll ds ≤ 1048576)
def OpenSpec.upto (s : _root_.Go.ChangeSpec) : _root_.Go.OpenSpec := { _root_.Go.OpenSpec.ofChange s with cond := some uptoSmall }

/-- 'laws.FnExactSetOk', WHERE WHAT IT READS IS OF BULK AT MOST 1048576: true; the input reads as it did. -/
def fnExactSetOkUptoRow : OpenClaim := { program := "ytohllgeangmlaaa", sum := "d426c371d30499373efd5ab548d2950fb1b048b3544c031b33ecd93e0196797b", func := "loop.example/selfmaps/laws.FnExactSetOk", spec := "fnExactSetOk", apart := false, narrowed := true }
def FnExactSetOkUptoSaid : Prop := fnExactSetOkUptoRow.holds Try.pinned (OpenSpec.upto fnExactSetOkSpec)

/-- 'laws.FnExactComesFrom', WHERE WHAT IT READS IS OF BULK AT MOST 1048576: true; the input reads as it did. -/
def fnExactComesFromUptoRow : OpenClaim := { program := "ytohllgeangmlaaa", sum := "d426c371d30499373efd5ab548d2950fb1b048b3544c031b33ecd93e0196797b", func := "loop.example/selfmaps/laws.FnExactComesFrom", spec := "fnExactComesFrom", apart := false, narrowed := true }
def FnExactComesFromUptoSaid : Prop := fnExactComesFromUptoRow.holds Try.pinned (OpenSpec.upto fnExactComesFromSpec)

/-- 'laws.FnExactLedTo', WHERE WHAT IT READS IS OF BULK AT MOST 1048576: true; the input reads as it did. -/
def fnExactLedToUptoRow : OpenClaim := { program := "ytohllgeangmlaaa", sum := "d426c371d30499373efd5ab548d2950fb1b048b3544c031b33ecd93e0196797b", func := "loop.example/selfmaps/laws.FnExactLedTo", spec := "fnExactLedTo", apart := false, narrowed := true }
def FnExactLedToUptoSaid : Prop := fnExactLedToUptoRow.holds Try.pinned (OpenSpec.upto fnExactLedToSpec)

/-- 'laws.FnExactClosedOk', WHERE WHAT IT READS IS OF BULK AT MOST 1048576: true; the input reads as it did. -/
def fnExactClosedOkUptoRow : OpenClaim := { program := "ytohllgeangmlaaa", sum := "d426c371d30499373efd5ab548d2950fb1b048b3544c031b33ecd93e0196797b", func := "loop.example/selfmaps/laws.FnExactClosedOk", spec := "fnExactClosedOk", apart := false, narrowed := true }
def FnExactClosedOkUptoSaid : Prop := fnExactClosedOkUptoRow.holds Try.pinned (OpenSpec.upto fnExactClosedOkSpec)

/-- 'laws.FnExactGardenOf', WHERE WHAT IT READS IS OF BULK AT MOST 1048576: true; the input reads as it did. -/
def fnExactGardenOfUptoRow : OpenClaim := { program := "ytohllgeangmlaaa", sum := "d426c371d30499373efd5ab548d2950fb1b048b3544c031b33ecd93e0196797b", func := "loop.example/selfmaps/laws.FnExactGardenOf", spec := "fnExactGardenOf", apart := false, narrowed := true }
def FnExactGardenOfUptoSaid : Prop := fnExactGardenOfUptoRow.holds Try.pinned (OpenSpec.upto fnExactGardenOfSpec)

end Rows
end Go.Proofs.Ytohllgeangmlaaa
