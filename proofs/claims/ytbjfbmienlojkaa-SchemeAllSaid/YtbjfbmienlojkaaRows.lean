/-
  No cell of these rows narrows 'for every input' (looked for: loops, veiled, ifaces, maps, wideKeys, modest, calm, conditions, laid).
  DERIVED. THE GIVEN ROWS OF THIS SEAT. 10 by the template 'for every input the law returns true; each argument reads behind the call as it read before'; 0 by the template 'total and deterministic' (their statements: YtbjfbmienlojkaaTotals.lean).
  GIVEN WITH THE SEED: the statements are not yours to turn. If you find one false, say at which input.
  Laid BY PROGRAM, IN A SANDBOX (cutbox-rows.mjs): the forced cells as the released guide's own fill.sh prints them over the translation f0e94af01a94297e… (all of the seat's roots in one cut). By AI agents, Wed Nov 11 2026. No macro, syntax, notation, axiom, sorry.
-/
import Derived.Test.YtbjfbmienlojkaaChecked
import GoSem.Claim
import GoSem.ClaimJoined
import GoSem.ClaimMapViews
import Derived.JoinedTies
import Derived.KernelRfl
namespace Go.Proofs.Ytbjfbmienlojkaa
/- THE CELL 'sum', in the pinned program and in every row, IS THE sha256 OF THE DUMP (.gsa) THAT YtbjfbmienlojkaaProg.lean LOADS. Nothing in Lean hashes anything: it is a label: what it is worth is what the hold of that sum in a sandbox is worth. -/
noncomputable def Try.pinned : Pinned := { name := "ytbjfbmienlojkaa", sum := "f0e94af01a94297e960f5898c9430e28e7e2dc7339bfe9e5ca6497304d7ecef9", checked := Try.checked }
namespace Rows
def none {H : Type} : Left H := { results := [], args := [] }

/-- 'canticlelaw16.SchemeReads': WHATEVER THE INPUT: true; the input reads as it did. -/
def schemeReadsSpec : ChangeSpec := { name := "schemeReads", fn := fun _ => fun
  | [d] => { results := [.lit (.bool true)], args := [d] }
  | _ => none }
def schemeReadsRow : OpenClaim := { program := "ytbjfbmienlojkaa", sum := "f0e94af01a94297e960f5898c9430e28e7e2dc7339bfe9e5ca6497304d7ecef9", func := "canticle/canticlelaw16.SchemeReads", spec := "schemeReads", inPlace := ["internal/abi.NoEscape"], unfollowed := true, recurses := true, plainKeys := false, apart := false }
def SchemeReadsSaid : Prop := schemeReadsRow.holds Try.pinned (OpenSpec.ofChange schemeReadsSpec)

/-- ITS FALSE NEIGHBOUR: 'it returns false'. Refute it at one input. -/
def schemeReadsWrong : ChangeSpec := { name := "schemeReads", fn := fun _ => fun
  | [d] => { results := [.lit (.bool false)], args := [d] }
  | _ => none }
def SchemeReadsWrongFalsely : Prop := schemeReadsRow.holds Try.pinned (OpenSpec.ofChange schemeReadsWrong)

/-- 'canticlelaw16.SchemeAll': WHATEVER THE INPUT: true; the input reads as it did. -/
def schemeAllSpec : ChangeSpec := { name := "schemeAll", fn := fun _ => fun
  | [d] => { results := [.lit (.bool true)], args := [d] }
  | _ => none }
def schemeAllRow : OpenClaim := { program := "ytbjfbmienlojkaa", sum := "f0e94af01a94297e960f5898c9430e28e7e2dc7339bfe9e5ca6497304d7ecef9", func := "canticle/canticlelaw16.SchemeAll", spec := "schemeAll", inPlace := ["internal/abi.NoEscape"], unfollowed := true, recurses := true, plainKeys := false, apart := false }
def SchemeAllSaid : Prop := schemeAllRow.holds Try.pinned (OpenSpec.ofChange schemeAllSpec)

/-- ITS FALSE NEIGHBOUR: 'it returns false'. Refute it at one input. -/
def schemeAllWrong : ChangeSpec := { name := "schemeAll", fn := fun _ => fun
  | [d] => { results := [.lit (.bool false)], args := [d] }
  | _ => none }
def SchemeAllWrongFalsely : Prop := schemeAllRow.holds Try.pinned (OpenSpec.ofChange schemeAllWrong)

/-- 'canticlelaw16.SchemeClasses': WHATEVER THE INPUT: true; the input reads as it did. -/
def schemeClassesSpec : ChangeSpec := { name := "schemeClasses", fn := fun _ => fun
  | [d] => { results := [.lit (.bool true)], args := [d] }
  | _ => none }
def schemeClassesRow : OpenClaim := { program := "ytbjfbmienlojkaa", sum := "f0e94af01a94297e960f5898c9430e28e7e2dc7339bfe9e5ca6497304d7ecef9", func := "canticle/canticlelaw16.SchemeClasses", spec := "schemeClasses", inPlace := ["internal/abi.NoEscape"], unfollowed := true, recurses := true, plainKeys := false, apart := false }
def SchemeClassesSaid : Prop := schemeClassesRow.holds Try.pinned (OpenSpec.ofChange schemeClassesSpec)

/-- ITS FALSE NEIGHBOUR: 'it returns false'. Refute it at one input. -/
def schemeClassesWrong : ChangeSpec := { name := "schemeClasses", fn := fun _ => fun
  | [d] => { results := [.lit (.bool false)], args := [d] }
  | _ => none }
def SchemeClassesWrongFalsely : Prop := schemeClassesRow.holds Try.pinned (OpenSpec.ofChange schemeClassesWrong)

/-- 'canticlelaw16.SchemePrints': WHATEVER THE INPUT: true; the input reads as it did. -/
def schemePrintsSpec : ChangeSpec := { name := "schemePrints", fn := fun _ => fun
  | [d1, d2] => { results := [.lit (.bool true)], args := [d1, d2] }
  | _ => none }
def schemePrintsRow : OpenClaim := { program := "ytbjfbmienlojkaa", sum := "f0e94af01a94297e960f5898c9430e28e7e2dc7339bfe9e5ca6497304d7ecef9", func := "canticle/canticlelaw16.SchemePrints", spec := "schemePrints", inPlace := ["internal/abi.NoEscape"], unfollowed := true, recurses := true, plainKeys := false, apart := false }
def SchemePrintsSaid : Prop := schemePrintsRow.holds Try.pinned (OpenSpec.ofChange schemePrintsSpec)

/-- ITS FALSE NEIGHBOUR: 'it returns false'. Refute it at one input. -/
def schemePrintsWrong : ChangeSpec := { name := "schemePrints", fn := fun _ => fun
  | [d1, d2] => { results := [.lit (.bool false)], args := [d1, d2] }
  | _ => none }
def SchemePrintsWrongFalsely : Prop := schemePrintsRow.holds Try.pinned (OpenSpec.ofChange schemePrintsWrong)

/-- 'canticlelaw16.SchemeFinds': WHATEVER THE INPUT: true; the input reads as it did. -/
def schemeFindsSpec : ChangeSpec := { name := "schemeFinds", fn := fun _ => fun
  | [d1, d2] => { results := [.lit (.bool true)], args := [d1, d2] }
  | _ => none }
def schemeFindsRow : OpenClaim := { program := "ytbjfbmienlojkaa", sum := "f0e94af01a94297e960f5898c9430e28e7e2dc7339bfe9e5ca6497304d7ecef9", func := "canticle/canticlelaw16.SchemeFinds", spec := "schemeFinds", inPlace := ["internal/abi.NoEscape"], unfollowed := true, recurses := true, plainKeys := false, apart := false }
def SchemeFindsSaid : Prop := schemeFindsRow.holds Try.pinned (OpenSpec.ofChange schemeFindsSpec)

/-- ITS FALSE NEIGHBOUR: 'it returns false'. Refute it at one input. -/
def schemeFindsWrong : ChangeSpec := { name := "schemeFinds", fn := fun _ => fun
  | [d1, d2] => { results := [.lit (.bool false)], args := [d1, d2] }
  | _ => none }
def SchemeFindsWrongFalsely : Prop := schemeFindsRow.holds Try.pinned (OpenSpec.ofChange schemeFindsWrong)

/-- 'canticlelaw16.SchemeFound': WHATEVER THE INPUT: true; the input reads as it did. -/
def schemeFoundSpec : ChangeSpec := { name := "schemeFound", fn := fun _ => fun
  | [d1, d2] => { results := [.lit (.bool true)], args := [d1, d2] }
  | _ => none }
def schemeFoundRow : OpenClaim := { program := "ytbjfbmienlojkaa", sum := "f0e94af01a94297e960f5898c9430e28e7e2dc7339bfe9e5ca6497304d7ecef9", func := "canticle/canticlelaw16.SchemeFound", spec := "schemeFound", inPlace := ["internal/abi.NoEscape"], unfollowed := true, recurses := true, plainKeys := false, apart := false }
def SchemeFoundSaid : Prop := schemeFoundRow.holds Try.pinned (OpenSpec.ofChange schemeFoundSpec)

/-- ITS FALSE NEIGHBOUR: 'it returns false'. Refute it at one input. -/
def schemeFoundWrong : ChangeSpec := { name := "schemeFound", fn := fun _ => fun
  | [d1, d2] => { results := [.lit (.bool false)], args := [d1, d2] }
  | _ => none }
def SchemeFoundWrongFalsely : Prop := schemeFoundRow.holds Try.pinned (OpenSpec.ofChange schemeFoundWrong)

/-- 'canticlelaw16.SchemeCounts': WHATEVER THE INPUT: true; the input reads as it did. -/
def schemeCountsSpec : ChangeSpec := { name := "schemeCounts", fn := fun _ => fun
  | [d1, d2, d3] => { results := [.lit (.bool true)], args := [d1, d2, d3] }
  | _ => none }
def schemeCountsRow : OpenClaim := { program := "ytbjfbmienlojkaa", sum := "f0e94af01a94297e960f5898c9430e28e7e2dc7339bfe9e5ca6497304d7ecef9", func := "canticle/canticlelaw16.SchemeCounts", spec := "schemeCounts", inPlace := ["internal/abi.NoEscape"], unfollowed := true, recurses := true, plainKeys := false, apart := false }
def SchemeCountsSaid : Prop := schemeCountsRow.holds Try.pinned (OpenSpec.ofChange schemeCountsSpec)

/-- ITS FALSE NEIGHBOUR: 'it returns false'. Refute it at one input. -/
def schemeCountsWrong : ChangeSpec := { name := "schemeCounts", fn := fun _ => fun
  | [d1, d2, d3] => { results := [.lit (.bool false)], args := [d1, d2, d3] }
  | _ => none }
def SchemeCountsWrongFalsely : Prop := schemeCountsRow.holds Try.pinned (OpenSpec.ofChange schemeCountsWrong)

/-- 'canticlelaw16.SchemeMeets': WHATEVER THE INPUT: true; the input reads as it did. -/
def schemeMeetsSpec : ChangeSpec := { name := "schemeMeets", fn := fun _ => fun
  | [d1, d2] => { results := [.lit (.bool true)], args := [d1, d2] }
  | _ => none }
def schemeMeetsRow : OpenClaim := { program := "ytbjfbmienlojkaa", sum := "f0e94af01a94297e960f5898c9430e28e7e2dc7339bfe9e5ca6497304d7ecef9", func := "canticle/canticlelaw16.SchemeMeets", spec := "schemeMeets", inPlace := ["internal/abi.NoEscape"], unfollowed := true, recurses := true, plainKeys := false, apart := false }
def SchemeMeetsSaid : Prop := schemeMeetsRow.holds Try.pinned (OpenSpec.ofChange schemeMeetsSpec)

/-- ITS FALSE NEIGHBOUR: 'it returns false'. Refute it at one input. -/
def schemeMeetsWrong : ChangeSpec := { name := "schemeMeets", fn := fun _ => fun
  | [d1, d2] => { results := [.lit (.bool false)], args := [d1, d2] }
  | _ => none }
def SchemeMeetsWrongFalsely : Prop := schemeMeetsRow.holds Try.pinned (OpenSpec.ofChange schemeMeetsWrong)

/-- 'canticlelaw16.SchemeLattice': WHATEVER THE INPUT: true; the input reads as it did. -/
def schemeLatticeSpec : ChangeSpec := { name := "schemeLattice", fn := fun _ => fun
  | [d1, d2, d3] => { results := [.lit (.bool true)], args := [d1, d2, d3] }
  | _ => none }
def schemeLatticeRow : OpenClaim := { program := "ytbjfbmienlojkaa", sum := "f0e94af01a94297e960f5898c9430e28e7e2dc7339bfe9e5ca6497304d7ecef9", func := "canticle/canticlelaw16.SchemeLattice", spec := "schemeLattice", inPlace := ["internal/abi.NoEscape"], unfollowed := true, recurses := true, plainKeys := false, apart := false }
def SchemeLatticeSaid : Prop := schemeLatticeRow.holds Try.pinned (OpenSpec.ofChange schemeLatticeSpec)

/-- ITS FALSE NEIGHBOUR: 'it returns false'. Refute it at one input. -/
def schemeLatticeWrong : ChangeSpec := { name := "schemeLattice", fn := fun _ => fun
  | [d1, d2, d3] => { results := [.lit (.bool false)], args := [d1, d2, d3] }
  | _ => none }
def SchemeLatticeWrongFalsely : Prop := schemeLatticeRow.holds Try.pinned (OpenSpec.ofChange schemeLatticeWrong)

/-- 'canticlelaw16.SchemeChecks': WHATEVER THE INPUT: true; the input reads as it did. -/
def schemeChecksSpec : ChangeSpec := { name := "schemeChecks", fn := fun _ => fun
  | [d] => { results := [.lit (.bool true)], args := [d] }
  | _ => none }
def schemeChecksRow : OpenClaim := { program := "ytbjfbmienlojkaa", sum := "f0e94af01a94297e960f5898c9430e28e7e2dc7339bfe9e5ca6497304d7ecef9", func := "canticle/canticlelaw16.SchemeChecks", spec := "schemeChecks", inPlace := ["internal/abi.NoEscape"], unfollowed := true, recurses := true, plainKeys := false, apart := false }
def SchemeChecksSaid : Prop := schemeChecksRow.holds Try.pinned (OpenSpec.ofChange schemeChecksSpec)

/-- ITS FALSE NEIGHBOUR: 'it returns false'. Refute it at one input. -/
def schemeChecksWrong : ChangeSpec := { name := "schemeChecks", fn := fun _ => fun
  | [d] => { results := [.lit (.bool false)], args := [d] }
  | _ => none }
def SchemeChecksWrongFalsely : Prop := schemeChecksRow.holds Try.pinned (OpenSpec.ofChange schemeChecksWrong)

/- THE SECOND FORM. 'bulk': how many values and letters a reading holds, each counted each time it is reached (what is shared counts as often as it is met; a slice's spare places count too). A statement '..UptoSaid' is the law's where the arguments, and the package variables that the reading takes, are together of bulk at most 1048576: NARROWER than '..Said'. Prove '..Said' where nothing that the law and all that it calls make is longer than what came in: it says more and counts as full. Else prove '..UptoSaid'. A law counts once. -/
mutual
def uptoBulk {H : Type} : DataW H → Nat
  | .lit (.string bytes) => bytes.length + 1
  | .lit _ => 1
  | .nil => 1
  | .ptr d => uptoBulk d + 1
  | .slice elems spare => uptoBulkAll elems + uptoBulkAll spare + 1
  | .agg parts => uptoBulkAll parts + 1
  | .iface _ d => uptoBulk d + 1
  | .map entries => uptoBulkEntries entries + 1
  | .held _ => 1
def uptoBulkAll {H : Type} : List (DataW H) → Nat
  | [] => 0
  | d :: r => uptoBulk d + uptoBulkAll r
def uptoBulkEntries {H : Type} : List (Lit × DataW H) → Nat
  | [] => 0
  | x :: r => uptoBulkEntry x + uptoBulkEntries r
def uptoBulkEntry {H : Type} : Lit × DataW H → Nat
  | (.string bytes, d) => bytes.length + uptoBulk d + 1
  | (_, d) => uptoBulk d + 1
 end
def uptoSmall : (H : Type) → List (DataW H) → Bool := fun _ ds => decide (uptoBulkAll ds ≤ 1048576)
def OpenSpec.upto (s : _root_.Go.ChangeSpec) : _root_.Go.OpenSpec := { _root_.Go.OpenSpec.ofChange s with cond := some uptoSmall }

/-- 'canticlelaw16.SchemeReads', WHERE WHAT IT READS IS OF BULK AT MOST 1048576: true; the input reads as it did. -/
def schemeReadsUptoRow : OpenClaim := { program := "ytbjfbmienlojkaa", sum := "f0e94af01a94297e960f5898c9430e28e7e2dc7339bfe9e5ca6497304d7ecef9", func := "canticle/canticlelaw16.SchemeReads", spec := "schemeReads", inPlace := ["internal/abi.NoEscape"], unfollowed := true, recurses := true, plainKeys := false, apart := false, narrowed := true }
def SchemeReadsUptoSaid : Prop := schemeReadsUptoRow.holds Try.pinned (OpenSpec.upto schemeReadsSpec)

/-- 'canticlelaw16.SchemeAll', WHERE WHAT IT READS IS OF BULK AT MOST 1048576: true; the input reads as it did. -/
def schemeAllUptoRow : OpenClaim := { program := "ytbjfbmienlojkaa", sum := "f0e94af01a94297e960f5898c9430e28e7e2dc7339bfe9e5ca6497304d7ecef9", func := "canticle/canticlelaw16.SchemeAll", spec := "schemeAll", inPlace := ["internal/abi.NoEscape"], unfollowed := true, recurses := true, plainKeys := false, apart := false, narrowed := true }
def SchemeAllUptoSaid : Prop := schemeAllUptoRow.holds Try.pinned (OpenSpec.upto schemeAllSpec)

/-- 'canticlelaw16.SchemeClasses', WHERE WHAT IT READS IS OF BULK AT MOST 1048576: true; the input reads as it did. -/
def schemeClassesUptoRow : OpenClaim := { program := "ytbjfbmienlojkaa", sum := "f0e94af01a94297e960f5898c9430e28e7e2dc7339bfe9e5ca6497304d7ecef9", func := "canticle/canticlelaw16.SchemeClasses", spec := "schemeClasses", inPlace := ["internal/abi.NoEscape"], unfollowed := true, recurses := true, plainKeys := false, apart := false, narrowed := true }
def SchemeClassesUptoSaid : Prop := schemeClassesUptoRow.holds Try.pinned (OpenSpec.upto schemeClassesSpec)

/-- 'canticlelaw16.SchemePrints', WHERE WHAT IT READS IS OF BULK AT MOST 1048576: true; the input reads as it did. -/
def schemePrintsUptoRow : OpenClaim := { program := "ytbjfbmienlojkaa", sum := "f0e94af01a94297e960f5898c9430e28e7e2dc7339bfe9e5ca6497304d7ecef9", func := "canticle/canticlelaw16.SchemePrints", spec := "schemePrints", inPlace := ["internal/abi.NoEscape"], unfollowed := true, recurses := true, plainKeys := false, apart := false, narrowed := true }
def SchemePrintsUptoSaid : Prop := schemePrintsUptoRow.holds Try.pinned (OpenSpec.upto schemePrintsSpec)

/-- 'canticlelaw16.SchemeFinds', WHERE WHAT IT READS IS OF BULK AT MOST 1048576: true; the input reads as it did. -/
def schemeFindsUptoRow : OpenClaim := { program := "ytbjfbmienlojkaa", sum := "f0e94af01a94297e960f5898c9430e28e7e2dc7339bfe9e5ca6497304d7ecef9", func := "canticle/canticlelaw16.SchemeFinds", spec := "schemeFinds", inPlace := ["internal/abi.NoEscape"], unfollowed := true, recurses := true, plainKeys := false, apart := false, narrowed := true }
def SchemeFindsUptoSaid : Prop := schemeFindsUptoRow.holds Try.pinned (OpenSpec.upto schemeFindsSpec)

/-- 'canticlelaw16.SchemeFound', WHERE WHAT IT READS IS OF BULK AT MOST 1048576: true; the input reads as it did. -/
def schemeFoundUptoRow : OpenClaim := { program := "ytbjfbmienlojkaa", sum := "f0e94af01a94297e960f5898c9430e28e7e2dc7339bfe9e5ca6497304d7ecef9", func := "canticle/canticlelaw16.SchemeFound", spec := "schemeFound", inPlace := ["internal/abi.NoEscape"], unfollowed := true, recurses := true, plainKeys := false, apart := false, narrowed := true }
def SchemeFoundUptoSaid : Prop := schemeFoundUptoRow.holds Try.pinned (OpenSpec.upto schemeFoundSpec)

/-- 'canticlelaw16.SchemeCounts', WHERE WHAT IT READS IS OF BULK AT MOST 1048576: true; the input reads as it did. -/
def schemeCountsUptoRow : OpenClaim := { program := "ytbjfbmienlojkaa", sum := "f0e94af01a94297e960f5898c9430e28e7e2dc7339bfe9e5ca6497304d7ecef9", func := "canticle/canticlelaw16.SchemeCounts", spec := "schemeCounts", inPlace := ["internal/abi.NoEscape"], unfollowed := true, recurses := true, plainKeys := false, apart := false, narrowed := true }
def SchemeCountsUptoSaid : Prop := schemeCountsUptoRow.holds Try.pinned (OpenSpec.upto schemeCountsSpec)

/-- 'canticlelaw16.SchemeMeets', WHERE WHAT IT READS IS OF BULK AT MOST 1048576: true; the input reads as it did. -/
def schemeMeetsUptoRow : OpenClaim := { program := "ytbjfbmienlojkaa", sum := "f0e94af01a94297e960f5898c9430e28e7e2dc7339bfe9e5ca6497304d7ecef9", func := "canticle/canticlelaw16.SchemeMeets", spec := "schemeMeets", inPlace := ["internal/abi.NoEscape"], unfollowed := true, recurses := true, plainKeys := false, apart := false, narrowed := true }
def SchemeMeetsUptoSaid : Prop := schemeMeetsUptoRow.holds Try.pinned (OpenSpec.upto schemeMeetsSpec)

/-- 'canticlelaw16.SchemeLattice', WHERE WHAT IT READS IS OF BULK AT MOST 1048576: true; the input reads as it did. -/
def schemeLatticeUptoRow : OpenClaim := { program := "ytbjfbmienlojkaa", sum := "f0e94af01a94297e960f5898c9430e28e7e2dc7339bfe9e5ca6497304d7ecef9", func := "canticle/canticlelaw16.SchemeLattice", spec := "schemeLattice", inPlace := ["internal/abi.NoEscape"], unfollowed := true, recurses := true, plainKeys := false, apart := false, narrowed := true }
def SchemeLatticeUptoSaid : Prop := schemeLatticeUptoRow.holds Try.pinned (OpenSpec.upto schemeLatticeSpec)

/-- 'canticlelaw16.SchemeChecks', WHERE WHAT IT READS IS OF BULK AT MOST 1048576: true; the input reads as it did. -/
def schemeChecksUptoRow : OpenClaim := { program := "ytbjfbmienlojkaa", sum := "f0e94af01a94297e960f5898c9430e28e7e2dc7339bfe9e5ca6497304d7ecef9", func := "canticle/canticlelaw16.SchemeChecks", spec := "schemeChecks", inPlace := ["internal/abi.NoEscape"], unfollowed := true, recurses := true, plainKeys := false, apart := false, narrowed := true }
def SchemeChecksUptoSaid : Prop := schemeChecksUptoRow.holds Try.pinned (OpenSpec.upto schemeChecksSpec)

end Rows
end Go.Proofs.Ytbjfbmienlojkaa
