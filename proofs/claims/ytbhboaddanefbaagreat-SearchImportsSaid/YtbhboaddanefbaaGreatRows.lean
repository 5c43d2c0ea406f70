/-
  No cell of these rows narrows 'for every input' (looked for: loops, veiled, ifaces, maps, wideKeys, modest, calm, conditions, laid).
  DERIVED. THE GIVEN ROWS OF THIS SEAT. 5 by the template 'for every input the law returns true; each argument reads behind the call as it read before'; 0 by the template 'total and deterministic' (their statements: YtbhboaddanefbaaGreatTotals.lean).
  GIVEN WITH THE SEED: the statements are not yours to turn. If you find one false, say at which input.
  Laid BY PROGRAM, IN A SANDBOX (cutbox-rows.mjs): the forced cells as the released guide's own fill.sh prints them over the translation 7079a2a293f2d532… (all of the seat's roots in one cut). By AI agents, Wed Nov 11 2026. No macro, syntax, notation, axiom, sorry.
-/
import Derived.Test.YtbhboaddanefbaaGreatChecked
import GoSem.Claim
import GoSem.ClaimJoined
import GoSem.ClaimMapViews
import Derived.JoinedTies
import Derived.KernelRfl
namespace Go.Proofs.YtbhboaddanefbaaGreat
/- THE CELL 'sum', in the pinned program and in every row, IS THE sha256 OF THE DUMP (.gsa) THAT YtbhboaddanefbaaGreatProg.lean LOADS. Nothing in Lean hashes anything: it is a label: what it is worth is what the hold of that sum in a sandbox is worth. -/
noncomputable def Tryz.pinned : Pinned := { name := "ytbhboaddanefbaagreat", sum := "7079a2a293f2d53233b9c13c2c3b7aae30ad1a770cc8f332512c3b5bbb303163", checked := Tryz.checked }
namespace Rows
def none {H : Type} : Left H := { results := [], args := [] }

/-- 'bradawllaw22.SearchImports': WHATEVER THE INPUT: true; the input reads as it did. -/
def searchImportsSpec : ChangeSpec := { name := "searchImports", fn := fun _ => fun
  | [d1, d2, d3] => { results := [.lit (.bool true)], args := [d1, d2, d3] }
  | _ => none }
def searchImportsRow : OpenClaim := { program := "ytbhboaddanefbaagreat", sum := "7079a2a293f2d53233b9c13c2c3b7aae30ad1a770cc8f332512c3b5bbb303163", func := "bradawl/bradawllaw22.SearchImports", spec := "searchImports", unfollowed := true, recurses := true, apart := false }
def SearchImportsSaid : Prop := searchImportsRow.holds Tryz.pinned (OpenSpec.ofChange searchImportsSpec)

/-- ITS FALSE NEIGHBOUR: 'it returns false'. Refute it at one input. -/
def searchImportsWrong : ChangeSpec := { name := "searchImports", fn := fun _ => fun
  | [d1, d2, d3] => { results := [.lit (.bool false)], args := [d1, d2, d3] }
  | _ => none }
def SearchImportsWrongFalsely : Prop := searchImportsRow.holds Tryz.pinned (OpenSpec.ofChange searchImportsWrong)

/-- 'bradawllaw22.SearchPhases': WHATEVER THE INPUT: true; the input reads as it did. -/
def searchPhasesSpec : ChangeSpec := { name := "searchPhases", fn := fun _ => fun
  | [d1, d2, d3] => { results := [.lit (.bool true)], args := [d1, d2, d3] }
  | _ => none }
def searchPhasesRow : OpenClaim := { program := "ytbhboaddanefbaagreat", sum := "7079a2a293f2d53233b9c13c2c3b7aae30ad1a770cc8f332512c3b5bbb303163", func := "bradawl/bradawllaw22.SearchPhases", spec := "searchPhases", unfollowed := true, recurses := true, apart := false }
def SearchPhasesSaid : Prop := searchPhasesRow.holds Tryz.pinned (OpenSpec.ofChange searchPhasesSpec)

/-- ITS FALSE NEIGHBOUR: 'it returns false'. Refute it at one input. -/
def searchPhasesWrong : ChangeSpec := { name := "searchPhases", fn := fun _ => fun
  | [d1, d2, d3] => { results := [.lit (.bool false)], args := [d1, d2, d3] }
  | _ => none }
def SearchPhasesWrongFalsely : Prop := searchPhasesRow.holds Tryz.pinned (OpenSpec.ofChange searchPhasesWrong)

/-- 'bradawllaw22.SearchDecides': WHATEVER THE INPUT: true; the input reads as it did. -/
def searchDecidesSpec : ChangeSpec := { name := "searchDecides", fn := fun _ => fun
  | [d1, d2, d3] => { results := [.lit (.bool true)], args := [d1, d2, d3] }
  | _ => none }
def searchDecidesRow : OpenClaim := { program := "ytbhboaddanefbaagreat", sum := "7079a2a293f2d53233b9c13c2c3b7aae30ad1a770cc8f332512c3b5bbb303163", func := "bradawl/bradawllaw22.SearchDecides", spec := "searchDecides", unfollowed := true, recurses := true, apart := false }
def SearchDecidesSaid : Prop := searchDecidesRow.holds Tryz.pinned (OpenSpec.ofChange searchDecidesSpec)

/-- ITS FALSE NEIGHBOUR: 'it returns false'. Refute it at one input. -/
def searchDecidesWrong : ChangeSpec := { name := "searchDecides", fn := fun _ => fun
  | [d1, d2, d3] => { results := [.lit (.bool false)], args := [d1, d2, d3] }
  | _ => none }
def SearchDecidesWrongFalsely : Prop := searchDecidesRow.holds Tryz.pinned (OpenSpec.ofChange searchDecidesWrong)

/-- 'bradawllaw22.SearchLimits': WHATEVER THE INPUT: true; the input reads as it did. -/
def searchLimitsSpec : ChangeSpec := { name := "searchLimits", fn := fun _ => fun
  | [d1, d2, d3] => { results := [.lit (.bool true)], args := [d1, d2, d3] }
  | _ => none }
def searchLimitsRow : OpenClaim := { program := "ytbhboaddanefbaagreat", sum := "7079a2a293f2d53233b9c13c2c3b7aae30ad1a770cc8f332512c3b5bbb303163", func := "bradawl/bradawllaw22.SearchLimits", spec := "searchLimits", unfollowed := true, recurses := true, apart := false }
def SearchLimitsSaid : Prop := searchLimitsRow.holds Tryz.pinned (OpenSpec.ofChange searchLimitsSpec)

/-- ITS FALSE NEIGHBOUR: 'it returns false'. Refute it at one input. -/
def searchLimitsWrong : ChangeSpec := { name := "searchLimits", fn := fun _ => fun
  | [d1, d2, d3] => { results := [.lit (.bool false)], args := [d1, d2, d3] }
  | _ => none }
def SearchLimitsWrongFalsely : Prop := searchLimitsRow.holds Tryz.pinned (OpenSpec.ofChange searchLimitsWrong)

/-- 'bradawllaw22.SearchParts': WHATEVER THE INPUT: true; the input reads as it did. -/
def searchPartsSpec : ChangeSpec := { name := "searchParts", fn := fun _ => fun
  | [d1, d2, d3] => { results := [.lit (.bool true)], args := [d1, d2, d3] }
  | _ => none }
def searchPartsRow : OpenClaim := { program := "ytbhboaddanefbaagreat", sum := "7079a2a293f2d53233b9c13c2c3b7aae30ad1a770cc8f332512c3b5bbb303163", func := "bradawl/bradawllaw22.SearchParts", spec := "searchParts", unfollowed := true, recurses := true, apart := false }
def SearchPartsSaid : Prop := searchPartsRow.holds Tryz.pinned (OpenSpec.ofChange searchPartsSpec)

/-- ITS FALSE NEIGHBOUR: 'it returns false'. Refute it at one input. -/
def searchPartsWrong : ChangeSpec := { name := "searchParts", fn := fun _ => fun
  | [d1, d2, d3] => { results := [.lit (.bool false)], args := [d1, d2, d3] }
  | _ => none }
def SearchPartsWrongFalsely : Prop := searchPartsRow.holds Tryz.pinned (OpenSpec.ofChange searchPartsWrong)

/- THE SECOND FORM. 'bulk': how many values and letters a reading holds, each counted each time it is reached (what is shared counts as often as it is met; a slice's spare places count too). A statement '..UptoSaid' is the law's where the arguments, and the package variables that the reading takes, are together of bulk at most 1048576: NARROWER than '..Said'. Prove '..Said' where nothing that the law and all that it calls make is longer than what came in: it says more and counts as full. Else prove '..UptoSaid'. A law counts once. -/
mutual
def uptoBulk {H : Type} : DataW H → Nat
  | .lit (.string bytes) => bytes.length + 1
  | .lit _ => 1
  | .nil => 1
  | .ptr d => uptoBulk d + 1
  | .slice elems spare => uptoBulkAll elems + uptoBulkAll spare + 1
  | .agg parts => uptoBulkAll parts + 1
  | .iface _ d => uptoBulk d + 1
  | .map entries => uptoBulkEntries entries + 1
  | .held _ => 1
def uptoBulkAll {H : Type} : List (DataW H) → Nat
  | [] => 0
  | d :: r => uptoBulk d + uptoBulkAll r
def uptoBulkEntries {H : Type} : List (Lit × DataW H) → Nat
  | [] => 0
  | x :: r => uptoBulkEntry x + uptoBulkEntries r
def uptoBulkEntry {H : Type} : Lit × DataW H → Nat
  | (.string bytes, d) => bytes.length + uptoBulk d + 1
  | (_, d) => uptoBulk d + 1
 end
def uptoSmall : (H : Type) → List (DataW H) → Bool := fun _ ds => decide (uptoBulkAll ds ≤ 1048576)
def OpenSpec.upto (s : _root_.Go.ChangeSpec) : _root_.Go.OpenSpec := { _root_.Go.OpenSpec.ofChange s with cond := some uptoSmall }

/-- 'bradawllaw22.SearchImports', WHERE WHAT IT READS IS OF BULK AT MOST 1048576: true; the input reads as it did. -/
def searchImportsUptoRow : OpenClaim := { program := "ytbhboaddanefbaagreat", sum := "7079a2a293f2d53233b9c13c2c3b7aae30ad1a770cc8f332512c3b5bbb303163", func := "bradawl/bradawllaw22.SearchImports", spec := "searchImports", unfollowed := true, recurses := true, apart := false, narrowed := true }
def SearchImportsUptoSaid : Prop := searchImportsUptoRow.holds Tryz.pinned (OpenSpec.upto searchImportsSpec)

/-- 'bradawllaw22.SearchPhases', WHERE WHAT IT READS IS OF BULK AT MOST 1048576: true; the input reads as it did. -/
def searchPhasesUptoRow : OpenClaim := { program := "ytbhboaddanefbaagreat", sum := "7079a2a293f2d53233b9c13c2c3b7aae30ad1a770cc8f332512c3b5bbb303163", func := "bradawl/bradawllaw22.SearchPhases", spec := "searchPhases", unfollowed := true, recurses := true, apart := false, narrowed := true }
def SearchPhasesUptoSaid : Prop := searchPhasesUptoRow.holds Tryz.pinned (OpenSpec.upto searchPhasesSpec)

/-- 'bradawllaw22.SearchDecides', WHERE WHAT IT READS IS OF BULK AT MOST 1048576: true; the input reads as it did. -/
def searchDecidesUptoRow : OpenClaim := { program := "ytbhboaddanefbaagreat", sum := "7079a2a293f2d53233b9c13c2c3b7aae30ad1a770cc8f332512c3b5bbb303163", func := "bradawl/bradawllaw22.SearchDecides", spec := "searchDecides", unfollowed := true, recurses := true, apart := false, narrowed := true }
def SearchDecidesUptoSaid : Prop := searchDecidesUptoRow.holds Tryz.pinned (OpenSpec.upto searchDecidesSpec)

/-- 'bradawllaw22.SearchLimits', WHERE WHAT IT READS IS OF BULK AT MOST 1048576: true; the input reads as it did. -/
def searchLimitsUptoRow : OpenClaim := { program := "ytbhboaddanefbaagreat", sum := "7079a2a293f2d53233b9c13c2c3b7aae30ad1a770cc8f332512c3b5bbb303163", func := "bradawl/bradawllaw22.SearchLimits", spec := "searchLimits", unfollowed := true, recurses := true, apart := false, narrowed := true }
def SearchLimitsUptoSaid : Prop := searchLimitsUptoRow.holds Tryz.pinned (OpenSpec.upto searchLimitsSpec)

/-- 'bradawllaw22.SearchParts', WHERE WHAT IT READS IS OF BULK AT MOST 1048576: true; the input reads as it did. -/
def searchPartsUptoRow : OpenClaim := { program := "ytbhboaddanefbaagreat", sum := "7079a2a293f2d53233b9c13c2c3b7aae30ad1a770cc8f332512c3b5bbb303163", func := "bradawl/bradawllaw22.SearchParts", spec := "searchParts", unfollowed := true, recurses := true, apart := false, narrowed := true }
def SearchPartsUptoSaid : Prop := searchPartsUptoRow.holds Tryz.pinned (OpenSpec.upto searchPartsSpec)

end Rows
end Go.Proofs.YtbhboaddanefbaaGreat
