/-
  No cell of these rows narrows 'for every input' (looked for: loops, veiled, ifaces, maps, wideKeys, modest, calm, conditions, laid).
  DERIVED. THE GIVEN ROWS OF THIS SEAT. 24 by the template 'for every input the law returns true; each argument reads behind the call as it read before'; 0 by the template 'total and deterministic' (their statements: YtogofchpocoebaaTotals.lean).
  GIVEN WITH THE SEED: the statements are not yours to turn. If you find one false, say at which input.
  Laid BY PROGRAM, IN A SANDBOX (cutbox-rows.mjs): the forced cells as the released guide's own fill.sh prints them over the translation 16a934ec00240c9b… (all of the seat's roots in one cut). By AI agents, Wed Nov 11 2026. No macro, syntax, notation, axiom, sorry.
-/
import Derived.Test.YtogofchpocoebaaChecked
import GoSem.Claim
import GoSem.ClaimJoined
import GoSem.ClaimMapViews
import Derived.JoinedTies
import Derived.KernelRfl
namespace Go.Proofs.Ytogofchpocoebaa
/- THE CELL 'sum', in the pinned program and in every row, IS THE sha256 OF THE DUMP (.gsa) THAT YtogofchpocoebaaProg.lean LOADS. Nothing in Lean hashes anything: it is a label: what it is worth is what the hold of that sum in a sandbox is worth. -/
noncomputable def Try.pinned : Pinned := { name := "ytogofchpocoebaa", sum := "16a934ec00240c9b37ca3aa4703115be3abd6bca692ada02d5aa263d4914e2a5", checked := Try.checked }
namespace Rows
def none {H : Type} : Left H := { results := [], args := [] }

/-- 'canticlelaw15.RhymeTails': WHATEVER THE INPUT: true; the input reads as it did. -/
def rhymeTailsSpec : ChangeSpec := { name := "rhymeTails", fn := fun _ => fun
  | [d] => { results := [.lit (.bool true)], args := [d] }
  | _ => none }
def rhymeTailsRow : OpenClaim := { program := "ytogofchpocoebaa", sum := "16a934ec00240c9b37ca3aa4703115be3abd6bca692ada02d5aa263d4914e2a5", func := "canticle/canticlelaw15.RhymeTails", spec := "rhymeTails", inPlace := ["internal/abi.NoEscape"], unfollowed := true, recurses := true, apart := false }
def RhymeTailsSaid : Prop := rhymeTailsRow.holds Try.pinned (OpenSpec.ofChange rhymeTailsSpec)

/-- ITS FALSE NEIGHBOUR: 'it returns false'. Refute it at one input. -/
def rhymeTailsWrong : ChangeSpec := { name := "rhymeTails", fn := fun _ => fun
  | [d] => { results := [.lit (.bool false)], args := [d] }
  | _ => none }
def RhymeTailsWrongFalsely : Prop := rhymeTailsRow.holds Try.pinned (OpenSpec.ofChange rhymeTailsWrong)

/-- 'canticlelaw08.PhoneCosts': WHATEVER THE INPUT: true; the input reads as it did. -/
def phoneCostsSpec : ChangeSpec := { name := "phoneCosts", fn := fun _ => fun
  | [d1, d2] => { results := [.lit (.bool true)], args := [d1, d2] }
  | _ => none }
def phoneCostsRow : OpenClaim := { program := "ytogofchpocoebaa", sum := "16a934ec00240c9b37ca3aa4703115be3abd6bca692ada02d5aa263d4914e2a5", func := "canticle/canticlelaw08.PhoneCosts", spec := "phoneCosts", inPlace := ["internal/abi.NoEscape"], unfollowed := true, recurses := true, apart := false }
def PhoneCostsSaid : Prop := phoneCostsRow.holds Try.pinned (OpenSpec.ofChange phoneCostsSpec)

/-- ITS FALSE NEIGHBOUR: 'it returns false'. Refute it at one input. -/
def phoneCostsWrong : ChangeSpec := { name := "phoneCosts", fn := fun _ => fun
  | [d1, d2] => { results := [.lit (.bool false)], args := [d1, d2] }
  | _ => none }
def PhoneCostsWrongFalsely : Prop := phoneCostsRow.holds Try.pinned (OpenSpec.ofChange phoneCostsWrong)

/-- 'canticlelaw08.PhonePrints': WHATEVER THE INPUT: true; the input reads as it did. -/
def phonePrintsSpec : ChangeSpec := { name := "phonePrints", fn := fun _ => fun
  | [d] => { results := [.lit (.bool true)], args := [d] }
  | _ => none }
def phonePrintsRow : OpenClaim := { program := "ytogofchpocoebaa", sum := "16a934ec00240c9b37ca3aa4703115be3abd6bca692ada02d5aa263d4914e2a5", func := "canticle/canticlelaw08.PhonePrints", spec := "phonePrints", inPlace := ["internal/abi.NoEscape"], unfollowed := true, recurses := true, apart := false }
def PhonePrintsSaid : Prop := phonePrintsRow.holds Try.pinned (OpenSpec.ofChange phonePrintsSpec)

/-- ITS FALSE NEIGHBOUR: 'it returns false'. Refute it at one input. -/
def phonePrintsWrong : ChangeSpec := { name := "phonePrints", fn := fun _ => fun
  | [d] => { results := [.lit (.bool false)], args := [d] }
  | _ => none }
def PhonePrintsWrongFalsely : Prop := phonePrintsRow.holds Try.pinned (OpenSpec.ofChange phonePrintsWrong)

/-- 'canticlelaw08.PhoneRunes': WHATEVER THE INPUT: true; the input reads as it did. -/
def phoneRunesSpec : ChangeSpec := { name := "phoneRunes", fn := fun _ => fun
  | [d1, d2] => { results := [.lit (.bool true)], args := [d1, d2] }
  | _ => none }
def phoneRunesRow : OpenClaim := { program := "ytogofchpocoebaa", sum := "16a934ec00240c9b37ca3aa4703115be3abd6bca692ada02d5aa263d4914e2a5", func := "canticle/canticlelaw08.PhoneRunes", spec := "phoneRunes", inPlace := ["internal/abi.NoEscape"], unfollowed := true, recurses := true, apart := false }
def PhoneRunesSaid : Prop := phoneRunesRow.holds Try.pinned (OpenSpec.ofChange phoneRunesSpec)

/-- ITS FALSE NEIGHBOUR: 'it returns false'. Refute it at one input. -/
def phoneRunesWrong : ChangeSpec := { name := "phoneRunes", fn := fun _ => fun
  | [d1, d2] => { results := [.lit (.bool false)], args := [d1, d2] }
  | _ => none }
def PhoneRunesWrongFalsely : Prop := phoneRunesRow.holds Try.pinned (OpenSpec.ofChange phoneRunesWrong)

/-- 'canticlelaw08.PhoneReads': WHATEVER THE INPUT: true; the input reads as it did. -/
def phoneReadsSpec : ChangeSpec := { name := "phoneReads", fn := fun _ => fun
  | [d1, d2] => { results := [.lit (.bool true)], args := [d1, d2] }
  | _ => none }
def phoneReadsRow : OpenClaim := { program := "ytogofchpocoebaa", sum := "16a934ec00240c9b37ca3aa4703115be3abd6bca692ada02d5aa263d4914e2a5", func := "canticle/canticlelaw08.PhoneReads", spec := "phoneReads", inPlace := ["internal/abi.NoEscape"], unfollowed := true, recurses := true, apart := false }
def PhoneReadsSaid : Prop := phoneReadsRow.holds Try.pinned (OpenSpec.ofChange phoneReadsSpec)

/-- ITS FALSE NEIGHBOUR: 'it returns false'. Refute it at one input. -/
def phoneReadsWrong : ChangeSpec := { name := "phoneReads", fn := fun _ => fun
  | [d1, d2] => { results := [.lit (.bool false)], args := [d1, d2] }
  | _ => none }
def PhoneReadsWrongFalsely : Prop := phoneReadsRow.holds Try.pinned (OpenSpec.ofChange phoneReadsWrong)

/-- 'canticlelaw08.PhoneBack': WHATEVER THE INPUT: true; the input reads as it did. -/
def phoneBackSpec : ChangeSpec := { name := "phoneBack", fn := fun _ => fun
  | [d1, d2] => { results := [.lit (.bool true)], args := [d1, d2] }
  | _ => none }
def phoneBackRow : OpenClaim := { program := "ytogofchpocoebaa", sum := "16a934ec00240c9b37ca3aa4703115be3abd6bca692ada02d5aa263d4914e2a5", func := "canticle/canticlelaw08.PhoneBack", spec := "phoneBack", inPlace := ["internal/abi.NoEscape"], unfollowed := true, recurses := true, apart := false }
def PhoneBackSaid : Prop := phoneBackRow.holds Try.pinned (OpenSpec.ofChange phoneBackSpec)

/-- ITS FALSE NEIGHBOUR: 'it returns false'. Refute it at one input. -/
def phoneBackWrong : ChangeSpec := { name := "phoneBack", fn := fun _ => fun
  | [d1, d2] => { results := [.lit (.bool false)], args := [d1, d2] }
  | _ => none }
def PhoneBackWrongFalsely : Prop := phoneBackRow.holds Try.pinned (OpenSpec.ofChange phoneBackWrong)

/-- 'canticlelaw15.RhymeKeys': WHATEVER THE INPUT: true; the input reads as it did. -/
def rhymeKeysSpec : ChangeSpec := { name := "rhymeKeys", fn := fun _ => fun
  | [d] => { results := [.lit (.bool true)], args := [d] }
  | _ => none }
def rhymeKeysRow : OpenClaim := { program := "ytogofchpocoebaa", sum := "16a934ec00240c9b37ca3aa4703115be3abd6bca692ada02d5aa263d4914e2a5", func := "canticle/canticlelaw15.RhymeKeys", spec := "rhymeKeys", inPlace := ["internal/abi.NoEscape"], unfollowed := true, recurses := true, apart := false }
def RhymeKeysSaid : Prop := rhymeKeysRow.holds Try.pinned (OpenSpec.ofChange rhymeKeysSpec)

/-- ITS FALSE NEIGHBOUR: 'it returns false'. Refute it at one input. -/
def rhymeKeysWrong : ChangeSpec := { name := "rhymeKeys", fn := fun _ => fun
  | [d] => { results := [.lit (.bool false)], args := [d] }
  | _ => none }
def RhymeKeysWrongFalsely : Prop := rhymeKeysRow.holds Try.pinned (OpenSpec.ofChange rhymeKeysWrong)

/-- 'canticlelaw08.PhoneFar': WHATEVER THE INPUT: true; the input reads as it did. -/
def phoneFarSpec : ChangeSpec := { name := "phoneFar", fn := fun _ => fun
  | [d1, d2, d3, d4] => { results := [.lit (.bool true)], args := [d1, d2, d3, d4] }
  | _ => none }
def phoneFarRow : OpenClaim := { program := "ytogofchpocoebaa", sum := "16a934ec00240c9b37ca3aa4703115be3abd6bca692ada02d5aa263d4914e2a5", func := "canticle/canticlelaw08.PhoneFar", spec := "phoneFar", inPlace := ["internal/abi.NoEscape"], unfollowed := true, recurses := true, apart := false }
def PhoneFarSaid : Prop := phoneFarRow.holds Try.pinned (OpenSpec.ofChange phoneFarSpec)

/-- ITS FALSE NEIGHBOUR: 'it returns false'. Refute it at one input. -/
def phoneFarWrong : ChangeSpec := { name := "phoneFar", fn := fun _ => fun
  | [d1, d2, d3, d4] => { results := [.lit (.bool false)], args := [d1, d2, d3, d4] }
  | _ => none }
def PhoneFarWrongFalsely : Prop := phoneFarRow.holds Try.pinned (OpenSpec.ofChange phoneFarWrong)

/-- 'canticlelaw08.PhoneRows': WHATEVER THE INPUT: true; the input reads as it did. -/
def phoneRowsSpec : ChangeSpec := { name := "phoneRows", fn := fun _ => fun
  | [d1, d2, d3] => { results := [.lit (.bool true)], args := [d1, d2, d3] }
  | _ => none }
def phoneRowsRow : OpenClaim := { program := "ytogofchpocoebaa", sum := "16a934ec00240c9b37ca3aa4703115be3abd6bca692ada02d5aa263d4914e2a5", func := "canticle/canticlelaw08.PhoneRows", spec := "phoneRows", inPlace := ["internal/abi.NoEscape"], unfollowed := true, recurses := true, apart := false }
def PhoneRowsSaid : Prop := phoneRowsRow.holds Try.pinned (OpenSpec.ofChange phoneRowsSpec)

/-- ITS FALSE NEIGHBOUR: 'it returns false'. Refute it at one input. -/
def phoneRowsWrong : ChangeSpec := { name := "phoneRows", fn := fun _ => fun
  | [d1, d2, d3] => { results := [.lit (.bool false)], args := [d1, d2, d3] }
  | _ => none }
def PhoneRowsWrongFalsely : Prop := phoneRowsRow.holds Try.pinned (OpenSpec.ofChange phoneRowsWrong)

/-- 'canticlelaw08.PhoneKnown': WHATEVER THE INPUT: true; the input reads as it did. -/
def phoneKnownSpec : ChangeSpec := { name := "phoneKnown", fn := fun _ => fun
  | [] => { results := [.lit (.bool true)], args := [] }
  | _ => none }
def phoneKnownRow : OpenClaim := { program := "ytogofchpocoebaa", sum := "16a934ec00240c9b37ca3aa4703115be3abd6bca692ada02d5aa263d4914e2a5", func := "canticle/canticlelaw08.PhoneKnown", spec := "phoneKnown", inPlace := ["internal/abi.NoEscape"], unfollowed := true, recurses := true, apart := false }
def PhoneKnownSaid : Prop := phoneKnownRow.holds Try.pinned (OpenSpec.ofChange phoneKnownSpec)

/-- ITS FALSE NEIGHBOUR: 'it returns false'. Refute it at one input. -/
def phoneKnownWrong : ChangeSpec := { name := "phoneKnown", fn := fun _ => fun
  | [] => { results := [.lit (.bool false)], args := [] }
  | _ => none }
def PhoneKnownWrongFalsely : Prop := phoneKnownRow.holds Try.pinned (OpenSpec.ofChange phoneKnownWrong)

/-- 'canticlelaw15.RhymePairs': WHATEVER THE INPUT: true; the input reads as it did. -/
def rhymePairsSpec : ChangeSpec := { name := "rhymePairs", fn := fun _ => fun
  | [d1, d2, d3] => { results := [.lit (.bool true)], args := [d1, d2, d3] }
  | _ => none }
def rhymePairsRow : OpenClaim := { program := "ytogofchpocoebaa", sum := "16a934ec00240c9b37ca3aa4703115be3abd6bca692ada02d5aa263d4914e2a5", func := "canticle/canticlelaw15.RhymePairs", spec := "rhymePairs", inPlace := ["internal/abi.NoEscape"], unfollowed := true, recurses := true, apart := false }
def RhymePairsSaid : Prop := rhymePairsRow.holds Try.pinned (OpenSpec.ofChange rhymePairsSpec)

/-- ITS FALSE NEIGHBOUR: 'it returns false'. Refute it at one input. -/
def rhymePairsWrong : ChangeSpec := { name := "rhymePairs", fn := fun _ => fun
  | [d1, d2, d3] => { results := [.lit (.bool false)], args := [d1, d2, d3] }
  | _ => none }
def RhymePairsWrongFalsely : Prop := rhymePairsRow.holds Try.pinned (OpenSpec.ofChange rhymePairsWrong)

/-- 'canticlelaw15.RhymeClasses': WHATEVER THE INPUT: true; the input reads as it did. -/
def rhymeClassesSpec : ChangeSpec := { name := "rhymeClasses", fn := fun _ => fun
  | [d1, d2] => { results := [.lit (.bool true)], args := [d1, d2] }
  | _ => none }
def rhymeClassesRow : OpenClaim := { program := "ytogofchpocoebaa", sum := "16a934ec00240c9b37ca3aa4703115be3abd6bca692ada02d5aa263d4914e2a5", func := "canticle/canticlelaw15.RhymeClasses", spec := "rhymeClasses", inPlace := ["internal/abi.NoEscape"], unfollowed := true, recurses := true, apart := false }
def RhymeClassesSaid : Prop := rhymeClassesRow.holds Try.pinned (OpenSpec.ofChange rhymeClassesSpec)

/-- ITS FALSE NEIGHBOUR: 'it returns false'. Refute it at one input. -/
def rhymeClassesWrong : ChangeSpec := { name := "rhymeClasses", fn := fun _ => fun
  | [d1, d2] => { results := [.lit (.bool false)], args := [d1, d2] }
  | _ => none }
def RhymeClassesWrongFalsely : Prop := rhymeClassesRow.holds Try.pinned (OpenSpec.ofChange rhymeClassesWrong)

/-- 'canticlelaw15.RhymeNames': WHATEVER THE INPUT: true; the input reads as it did. -/
def rhymeNamesSpec : ChangeSpec := { name := "rhymeNames", fn := fun _ => fun
  | [] => { results := [.lit (.bool true)], args := [] }
  | _ => none }
def rhymeNamesRow : OpenClaim := { program := "ytogofchpocoebaa", sum := "16a934ec00240c9b37ca3aa4703115be3abd6bca692ada02d5aa263d4914e2a5", func := "canticle/canticlelaw15.RhymeNames", spec := "rhymeNames", inPlace := ["internal/abi.NoEscape"], unfollowed := true, recurses := true, apart := false }
def RhymeNamesSaid : Prop := rhymeNamesRow.holds Try.pinned (OpenSpec.ofChange rhymeNamesSpec)

/-- ITS FALSE NEIGHBOUR: 'it returns false'. Refute it at one input. -/
def rhymeNamesWrong : ChangeSpec := { name := "rhymeNames", fn := fun _ => fun
  | [] => { results := [.lit (.bool false)], args := [] }
  | _ => none }
def RhymeNamesWrongFalsely : Prop := rhymeNamesRow.holds Try.pinned (OpenSpec.ofChange rhymeNamesWrong)

/-- 'canticlelaw15.RhymeIsOne': WHATEVER THE INPUT: true; the input reads as it did. -/
def rhymeIsOneSpec : ChangeSpec := { name := "rhymeIsOne", fn := fun _ => fun
  | [d1, d2, d3] => { results := [.lit (.bool true)], args := [d1, d2, d3] }
  | _ => none }
def rhymeIsOneRow : OpenClaim := { program := "ytogofchpocoebaa", sum := "16a934ec00240c9b37ca3aa4703115be3abd6bca692ada02d5aa263d4914e2a5", func := "canticle/canticlelaw15.RhymeIsOne", spec := "rhymeIsOne", inPlace := ["internal/abi.NoEscape"], unfollowed := true, recurses := true, apart := false }
def RhymeIsOneSaid : Prop := rhymeIsOneRow.holds Try.pinned (OpenSpec.ofChange rhymeIsOneSpec)

/-- ITS FALSE NEIGHBOUR: 'it returns false'. Refute it at one input. -/
def rhymeIsOneWrong : ChangeSpec := { name := "rhymeIsOne", fn := fun _ => fun
  | [d1, d2, d3] => { results := [.lit (.bool false)], args := [d1, d2, d3] }
  | _ => none }
def RhymeIsOneWrongFalsely : Prop := rhymeIsOneRow.holds Try.pinned (OpenSpec.ofChange rhymeIsOneWrong)

/-- 'canticlelaw15.RhymeKinds': WHATEVER THE INPUT: true; the input reads as it did. -/
def rhymeKindsSpec : ChangeSpec := { name := "rhymeKinds", fn := fun _ => fun
  | [d1, d2] => { results := [.lit (.bool true)], args := [d1, d2] }
  | _ => none }
def rhymeKindsRow : OpenClaim := { program := "ytogofchpocoebaa", sum := "16a934ec00240c9b37ca3aa4703115be3abd6bca692ada02d5aa263d4914e2a5", func := "canticle/canticlelaw15.RhymeKinds", spec := "rhymeKinds", inPlace := ["internal/abi.NoEscape"], unfollowed := true, recurses := true, apart := false }
def RhymeKindsSaid : Prop := rhymeKindsRow.holds Try.pinned (OpenSpec.ofChange rhymeKindsSpec)

/-- ITS FALSE NEIGHBOUR: 'it returns false'. Refute it at one input. -/
def rhymeKindsWrong : ChangeSpec := { name := "rhymeKinds", fn := fun _ => fun
  | [d1, d2] => { results := [.lit (.bool false)], args := [d1, d2] }
  | _ => none }
def RhymeKindsWrongFalsely : Prop := rhymeKindsRow.holds Try.pinned (OpenSpec.ofChange rhymeKindsWrong)

/-- 'canticlelaw11.SyllablePrints': WHATEVER THE INPUT: true; the input reads as it did. -/
def syllablePrintsSpec : ChangeSpec := { name := "syllablePrints", fn := fun _ => fun
  | [d1, d2] => { results := [.lit (.bool true)], args := [d1, d2] }
  | _ => none }
def syllablePrintsRow : OpenClaim := { program := "ytogofchpocoebaa", sum := "16a934ec00240c9b37ca3aa4703115be3abd6bca692ada02d5aa263d4914e2a5", func := "canticle/canticlelaw11.SyllablePrints", spec := "syllablePrints", inPlace := ["internal/bytealg.IndexByteString", "internal/bytealg.IndexString", "internal/abi.NoEscape"], unfollowed := true, recurses := true, named := ["internal/bytealg.MaxLen"], apart := false }
def SyllablePrintsSaid : Prop := syllablePrintsRow.holds Try.pinned (OpenSpec.ofChange syllablePrintsSpec)

/-- ITS FALSE NEIGHBOUR: 'it returns false'. Refute it at one input. -/
def syllablePrintsWrong : ChangeSpec := { name := "syllablePrints", fn := fun _ => fun
  | [d1, d2] => { results := [.lit (.bool false)], args := [d1, d2] }
  | _ => none }
def SyllablePrintsWrongFalsely : Prop := syllablePrintsRow.holds Try.pinned (OpenSpec.ofChange syllablePrintsWrong)

/-- 'canticlelaw11.SyllableParts': WHATEVER THE INPUT: true; the input reads as it did. -/
def syllablePartsSpec : ChangeSpec := { name := "syllableParts", fn := fun _ => fun
  | [d] => { results := [.lit (.bool true)], args := [d] }
  | _ => none }
def syllablePartsRow : OpenClaim := { program := "ytogofchpocoebaa", sum := "16a934ec00240c9b37ca3aa4703115be3abd6bca692ada02d5aa263d4914e2a5", func := "canticle/canticlelaw11.SyllableParts", spec := "syllableParts", inPlace := ["internal/bytealg.IndexByteString", "internal/bytealg.IndexString", "internal/abi.NoEscape"], unfollowed := true, recurses := true, named := ["internal/bytealg.MaxLen"], apart := false }
def SyllablePartsSaid : Prop := syllablePartsRow.holds Try.pinned (OpenSpec.ofChange syllablePartsSpec)

/-- ITS FALSE NEIGHBOUR: 'it returns false'. Refute it at one input. -/
def syllablePartsWrong : ChangeSpec := { name := "syllableParts", fn := fun _ => fun
  | [d] => { results := [.lit (.bool false)], args := [d] }
  | _ => none }
def SyllablePartsWrongFalsely : Prop := syllablePartsRow.holds Try.pinned (OpenSpec.ofChange syllablePartsWrong)

/-- 'canticlelaw11.SyllableSigns': WHATEVER THE INPUT: true; the input reads as it did. -/
def syllableSignsSpec : ChangeSpec := { name := "syllableSigns", fn := fun _ => fun
  | [d1, d2] => { results := [.lit (.bool true)], args := [d1, d2] }
  | _ => none }
def syllableSignsRow : OpenClaim := { program := "ytogofchpocoebaa", sum := "16a934ec00240c9b37ca3aa4703115be3abd6bca692ada02d5aa263d4914e2a5", func := "canticle/canticlelaw11.SyllableSigns", spec := "syllableSigns", inPlace := ["internal/bytealg.IndexByteString", "internal/bytealg.IndexString", "internal/abi.NoEscape"], unfollowed := true, recurses := true, named := ["internal/bytealg.MaxLen"], apart := false }
def SyllableSignsSaid : Prop := syllableSignsRow.holds Try.pinned (OpenSpec.ofChange syllableSignsSpec)

/-- ITS FALSE NEIGHBOUR: 'it returns false'. Refute it at one input. -/
def syllableSignsWrong : ChangeSpec := { name := "syllableSigns", fn := fun _ => fun
  | [d1, d2] => { results := [.lit (.bool false)], args := [d1, d2] }
  | _ => none }
def SyllableSignsWrongFalsely : Prop := syllableSignsRow.holds Try.pinned (OpenSpec.ofChange syllableSignsWrong)

/-- 'canticlelaw11.SyllableReads': WHATEVER THE INPUT: true; the input reads as it did. -/
def syllableReadsSpec : ChangeSpec := { name := "syllableReads", fn := fun _ => fun
  | [d] => { results := [.lit (.bool true)], args := [d] }
  | _ => none }
def syllableReadsRow : OpenClaim := { program := "ytogofchpocoebaa", sum := "16a934ec00240c9b37ca3aa4703115be3abd6bca692ada02d5aa263d4914e2a5", func := "canticle/canticlelaw11.SyllableReads", spec := "syllableReads", inPlace := ["internal/bytealg.IndexByteString", "internal/bytealg.IndexString", "internal/abi.NoEscape"], unfollowed := true, recurses := true, named := ["internal/bytealg.MaxLen"], apart := false }
def SyllableReadsSaid : Prop := syllableReadsRow.holds Try.pinned (OpenSpec.ofChange syllableReadsSpec)

/-- ITS FALSE NEIGHBOUR: 'it returns false'. Refute it at one input. -/
def syllableReadsWrong : ChangeSpec := { name := "syllableReads", fn := fun _ => fun
  | [d] => { results := [.lit (.bool false)], args := [d] }
  | _ => none }
def SyllableReadsWrongFalsely : Prop := syllableReadsRow.holds Try.pinned (OpenSpec.ofChange syllableReadsWrong)

/-- 'canticlelaw11.SyllableBack': WHATEVER THE INPUT: true; the input reads as it did. -/
def syllableBackSpec : ChangeSpec := { name := "syllableBack", fn := fun _ => fun
  | [d1, d2, d3] => { results := [.lit (.bool true)], args := [d1, d2, d3] }
  | _ => none }
def syllableBackRow : OpenClaim := { program := "ytogofchpocoebaa", sum := "16a934ec00240c9b37ca3aa4703115be3abd6bca692ada02d5aa263d4914e2a5", func := "canticle/canticlelaw11.SyllableBack", spec := "syllableBack", inPlace := ["internal/bytealg.IndexByteString", "internal/bytealg.IndexString", "internal/abi.NoEscape"], unfollowed := true, recurses := true, named := ["internal/bytealg.MaxLen"], apart := false }
def SyllableBackSaid : Prop := syllableBackRow.holds Try.pinned (OpenSpec.ofChange syllableBackSpec)

/-- ITS FALSE NEIGHBOUR: 'it returns false'. Refute it at one input. -/
def syllableBackWrong : ChangeSpec := { name := "syllableBack", fn := fun _ => fun
  | [d1, d2, d3] => { results := [.lit (.bool false)], args := [d1, d2, d3] }
  | _ => none }
def SyllableBackWrongFalsely : Prop := syllableBackRow.holds Try.pinned (OpenSpec.ofChange syllableBackWrong)

/-- 'canticlelaw11.SyllableKnown': WHATEVER THE INPUT: true; the input reads as it did. -/
def syllableKnownSpec : ChangeSpec := { name := "syllableKnown", fn := fun _ => fun
  | [] => { results := [.lit (.bool true)], args := [] }
  | _ => none }
def syllableKnownRow : OpenClaim := { program := "ytogofchpocoebaa", sum := "16a934ec00240c9b37ca3aa4703115be3abd6bca692ada02d5aa263d4914e2a5", func := "canticle/canticlelaw11.SyllableKnown", spec := "syllableKnown", inPlace := ["internal/bytealg.IndexByteString", "internal/bytealg.IndexString", "internal/abi.NoEscape"], unfollowed := true, recurses := true, named := ["internal/bytealg.MaxLen"], apart := false }
def SyllableKnownSaid : Prop := syllableKnownRow.holds Try.pinned (OpenSpec.ofChange syllableKnownSpec)

/-- ITS FALSE NEIGHBOUR: 'it returns false'. Refute it at one input. -/
def syllableKnownWrong : ChangeSpec := { name := "syllableKnown", fn := fun _ => fun
  | [] => { results := [.lit (.bool false)], args := [] }
  | _ => none }
def SyllableKnownWrongFalsely : Prop := syllableKnownRow.holds Try.pinned (OpenSpec.ofChange syllableKnownWrong)

/-- 'canticlelaw11.SyllableSplits': WHATEVER THE INPUT: true; the input reads as it did. -/
def syllableSplitsSpec : ChangeSpec := { name := "syllableSplits", fn := fun _ => fun
  | [d1, d2, d3, d4] => { results := [.lit (.bool true)], args := [d1, d2, d3, d4] }
  | _ => none }
def syllableSplitsRow : OpenClaim := { program := "ytogofchpocoebaa", sum := "16a934ec00240c9b37ca3aa4703115be3abd6bca692ada02d5aa263d4914e2a5", func := "canticle/canticlelaw11.SyllableSplits", spec := "syllableSplits", inPlace := ["internal/bytealg.IndexByteString", "internal/bytealg.IndexString", "internal/abi.NoEscape"], unfollowed := true, recurses := true, named := ["internal/bytealg.MaxLen"], apart := false }
def SyllableSplitsSaid : Prop := syllableSplitsRow.holds Try.pinned (OpenSpec.ofChange syllableSplitsSpec)

/-- ITS FALSE NEIGHBOUR: 'it returns false'. Refute it at one input. -/
def syllableSplitsWrong : ChangeSpec := { name := "syllableSplits", fn := fun _ => fun
  | [d1, d2, d3, d4] => { results := [.lit (.bool false)], args := [d1, d2, d3, d4] }
  | _ => none }
def SyllableSplitsWrongFalsely : Prop := syllableSplitsRow.holds Try.pinned (OpenSpec.ofChange syllableSplitsWrong)

/-- 'canticlelaw11.SyllableTwice': WHATEVER THE INPUT: true; the input reads as it did. -/
def syllableTwiceSpec : ChangeSpec := { name := "syllableTwice", fn := fun _ => fun
  | [d1, d2] => { results := [.lit (.bool true)], args := [d1, d2] }
  | _ => none }
def syllableTwiceRow : OpenClaim := { program := "ytogofchpocoebaa", sum := "16a934ec00240c9b37ca3aa4703115be3abd6bca692ada02d5aa263d4914e2a5", func := "canticle/canticlelaw11.SyllableTwice", spec := "syllableTwice", inPlace := ["internal/bytealg.IndexByteString", "internal/bytealg.IndexString", "internal/abi.NoEscape"], unfollowed := true, recurses := true, named := ["internal/bytealg.MaxLen"], apart := false }
def SyllableTwiceSaid : Prop := syllableTwiceRow.holds Try.pinned (OpenSpec.ofChange syllableTwiceSpec)

/-- ITS FALSE NEIGHBOUR: 'it returns false'. Refute it at one input. -/
def syllableTwiceWrong : ChangeSpec := { name := "syllableTwice", fn := fun _ => fun
  | [d1, d2] => { results := [.lit (.bool false)], args := [d1, d2] }
  | _ => none }
def SyllableTwiceWrongFalsely : Prop := syllableTwiceRow.holds Try.pinned (OpenSpec.ofChange syllableTwiceWrong)

/-- 'canticlelaw11.SyllableStress': WHATEVER THE INPUT: true; the input reads as it did. -/
def syllableStressSpec : ChangeSpec := { name := "syllableStress", fn := fun _ => fun
  | [d1, d2, d3] => { results := [.lit (.bool true)], args := [d1, d2, d3] }
  | _ => none }
def syllableStressRow : OpenClaim := { program := "ytogofchpocoebaa", sum := "16a934ec00240c9b37ca3aa4703115be3abd6bca692ada02d5aa263d4914e2a5", func := "canticle/canticlelaw11.SyllableStress", spec := "syllableStress", inPlace := ["internal/bytealg.IndexByteString", "internal/bytealg.IndexString", "internal/abi.NoEscape"], unfollowed := true, recurses := true, named := ["internal/bytealg.MaxLen"], apart := false }
def SyllableStressSaid : Prop := syllableStressRow.holds Try.pinned (OpenSpec.ofChange syllableStressSpec)

/-- ITS FALSE NEIGHBOUR: 'it returns false'. Refute it at one input. -/
def syllableStressWrong : ChangeSpec := { name := "syllableStress", fn := fun _ => fun
  | [d1, d2, d3] => { results := [.lit (.bool false)], args := [d1, d2, d3] }
  | _ => none }
def SyllableStressWrongFalsely : Prop := syllableStressRow.holds Try.pinned (OpenSpec.ofChange syllableStressWrong)

/- THE SECOND FORM. 'bulk': how many values and letters a reading holds, each counted each time it is reached (what is shared counts as often as it is met; a slice's spare places count too). A statement '..UptoSaid' is the law's where the arguments, and the package variables that the reading takes, are together of bulk at most 1048576: NARROWER than '..Said'. Prove '..Said' where nothing that the law and all that it calls make is longer than what came in: it says more and counts as full. Else prove '..UptoSaid'. A law counts once. -/
mutual
def uptoBulk {H : Type} : DataW H → Nat
  | .lit (.string bytes) => bytes.length + 1
  | .lit _ => 1
  | .nil => 1
  | .ptr d => uptoBulk d + 1
  | .slice elems spare => uptoBulkAll elems + uptoBulkAll spare + 1
  | .agg parts => uptoBulkAll parts + 1
  | .iface _ d => uptoBulk d + 1
  | .map entries => uptoBulkEntries entries + 1
  | .held _ => 1
def uptoBulkAll {H : Type} : List (DataW H) → Nat
  | [] => 0
  | d :: r => uptoBulk d + uptoBulkAll r
def uptoBulkEntries {H : Type} : List (Lit × DataW H) → Nat
  | [] => 0
  | x :: r => uptoBulkEntry x + uptoBulkEntries r
def uptoBulkEntry {H : Type} : Lit × DataW H → Nat
  | (.string bytes, d) => bytes.length + uptoBulk d + 1
  | (_, d) => uptoBulk d + 1
 end
def uptoSmall : (H : Type) → List (DataW H) → Bool := fun _ ds => decide (uptoBulkAll ds ≤ 1048576)
def OpenSpec.upto (s : _root_.Go.ChangeSpec) : _root_.Go.OpenSpec := { _root_.Go.OpenSpec.ofChange s with cond := some uptoSmall }

/-- 'canticlelaw15.RhymeTails', WHERE WHAT IT READS IS OF BULK AT MOST 1048576: true; the input reads as it did. -/
def rhymeTailsUptoRow : OpenClaim := { program := "ytogofchpocoebaa", sum := "16a934ec00240c9b37ca3aa4703115be3abd6bca692ada02d5aa263d4914e2a5", func := "canticle/canticlelaw15.RhymeTails", spec := "rhymeTails", inPlace := ["internal/abi.NoEscape"], unfollowed := true, recurses := true, apart := false, narrowed := true }
def RhymeTailsUptoSaid : Prop := rhymeTailsUptoRow.holds Try.pinned (OpenSpec.upto rhymeTailsSpec)

/-- 'canticlelaw08.PhoneCosts', WHERE WHAT IT READS IS OF BULK AT MOST 1048576: true; the input reads as it did. -/
def phoneCostsUptoRow : OpenClaim := { program := "ytogofchpocoebaa", sum := "16a934ec00240c9b37ca3aa4703115be3abd6bca692ada02d5aa263d4914e2a5", func := "canticle/canticlelaw08.PhoneCosts", spec := "phoneCosts", inPlace := ["internal/abi.NoEscape"], unfollowed := true, recurses := true, apart := false, narrowed := true }
def PhoneCostsUptoSaid : Prop := phoneCostsUptoRow.holds Try.pinned (OpenSpec.upto phoneCostsSpec)

/-- 'canticlelaw08.PhonePrints', WHERE WHAT IT READS IS OF BULK AT MOST 1048576: true; the input reads as it did. -/
def phonePrintsUptoRow : OpenClaim := { program := "ytogofchpocoebaa", sum := "16a934ec00240c9b37ca3aa4703115be3abd6bca692ada02d5aa263d4914e2a5", func := "canticle/canticlelaw08.PhonePrints", spec := "phonePrints", inPlace := ["internal/abi.NoEscape"], unfollowed := true, recurses := true, apart := false, narrowed := true }
def PhonePrintsUptoSaid : Prop := phonePrintsUptoRow.holds Try.pinned (OpenSpec.upto phonePrintsSpec)

/-- 'canticlelaw08.PhoneRunes', WHERE WHAT IT READS IS OF BULK AT MOST 1048576: true; the input reads as it did. -/
def phoneRunesUptoRow : OpenClaim := { program := "ytogofchpocoebaa", sum := "16a934ec00240c9b37ca3aa4703115be3abd6bca692ada02d5aa263d4914e2a5", func := "canticle/canticlelaw08.PhoneRunes", spec := "phoneRunes", inPlace := ["internal/abi.NoEscape"], unfollowed := true, recurses := true, apart := false, narrowed := true }
def PhoneRunesUptoSaid : Prop := phoneRunesUptoRow.holds Try.pinned (OpenSpec.upto phoneRunesSpec)

/-- 'canticlelaw08.PhoneReads', WHERE WHAT IT READS IS OF BULK AT MOST 1048576: true; the input reads as it did. -/
def phoneReadsUptoRow : OpenClaim := { program := "ytogofchpocoebaa", sum := "16a934ec00240c9b37ca3aa4703115be3abd6bca692ada02d5aa263d4914e2a5", func := "canticle/canticlelaw08.PhoneReads", spec := "phoneReads", inPlace := ["internal/abi.NoEscape"], unfollowed := true, recurses := true, apart := false, narrowed := true }
def PhoneReadsUptoSaid : Prop := phoneReadsUptoRow.holds Try.pinned (OpenSpec.upto phoneReadsSpec)

/-- 'canticlelaw08.PhoneBack', WHERE WHAT IT READS IS OF BULK AT MOST 1048576: true; the input reads as it did. -/
def phoneBackUptoRow : OpenClaim := { program := "ytogofchpocoebaa", sum := "16a934ec00240c9b37ca3aa4703115be3abd6bca692ada02d5aa263d4914e2a5", func := "canticle/canticlelaw08.PhoneBack", spec := "phoneBack", inPlace := ["internal/abi.NoEscape"], unfollowed := true, recurses := true, apart := false, narrowed := true }
def PhoneBackUptoSaid : Prop := phoneBackUptoRow.holds Try.pinned (OpenSpec.upto phoneBackSpec)

/-- 'canticlelaw15.RhymeKeys', WHERE WHAT IT READS IS OF BULK AT MOST 1048576: true; the input reads as it did. -/
def rhymeKeysUptoRow : OpenClaim := { program := "ytogofchpocoebaa", sum := "16a934ec00240c9b37ca3aa4703115be3abd6bca692ada02d5aa263d4914e2a5", func := "canticle/canticlelaw15.RhymeKeys", spec := "rhymeKeys", inPlace := ["internal/abi.NoEscape"], unfollowed := true, recurses := true, apart := false, narrowed := true }
def RhymeKeysUptoSaid : Prop := rhymeKeysUptoRow.holds Try.pinned (OpenSpec.upto rhymeKeysSpec)

/-- 'canticlelaw08.PhoneFar', WHERE WHAT IT READS IS OF BULK AT MOST 1048576: true; the input reads as it did. -/
def phoneFarUptoRow : OpenClaim := { program := "ytogofchpocoebaa", sum := "16a934ec00240c9b37ca3aa4703115be3abd6bca692ada02d5aa263d4914e2a5", func := "canticle/canticlelaw08.PhoneFar", spec := "phoneFar", inPlace := ["internal/abi.NoEscape"], unfollowed := true, recurses := true, apart := false, narrowed := true }
def PhoneFarUptoSaid : Prop := phoneFarUptoRow.holds Try.pinned (OpenSpec.upto phoneFarSpec)

/-- 'canticlelaw08.PhoneRows', WHERE WHAT IT READS IS OF BULK AT MOST 1048576: true; the input reads as it did. -/
def phoneRowsUptoRow : OpenClaim := { program := "ytogofchpocoebaa", sum := "16a934ec00240c9b37ca3aa4703115be3abd6bca692ada02d5aa263d4914e2a5", func := "canticle/canticlelaw08.PhoneRows", spec := "phoneRows", inPlace := ["internal/abi.NoEscape"], unfollowed := true, recurses := true, apart := false, narrowed := true }
def PhoneRowsUptoSaid : Prop := phoneRowsUptoRow.holds Try.pinned (OpenSpec.upto phoneRowsSpec)

/-- 'canticlelaw08.PhoneKnown', WHERE WHAT IT READS IS OF BULK AT MOST 1048576: true; the input reads as it did. -/
def phoneKnownUptoRow : OpenClaim := { program := "ytogofchpocoebaa", sum := "16a934ec00240c9b37ca3aa4703115be3abd6bca692ada02d5aa263d4914e2a5", func := "canticle/canticlelaw08.PhoneKnown", spec := "phoneKnown", inPlace := ["internal/abi.NoEscape"], unfollowed := true, recurses := true, apart := false, narrowed := true }
def PhoneKnownUptoSaid : Prop := phoneKnownUptoRow.holds Try.pinned (OpenSpec.upto phoneKnownSpec)

/-- 'canticlelaw15.RhymePairs', WHERE WHAT IT READS IS OF BULK AT MOST 1048576: true; the input reads as it did. -/
def rhymePairsUptoRow : OpenClaim := { program := "ytogofchpocoebaa", sum := "16a934ec00240c9b37ca3aa4703115be3abd6bca692ada02d5aa263d4914e2a5", func := "canticle/canticlelaw15.RhymePairs", spec := "rhymePairs", inPlace := ["internal/abi.NoEscape"], unfollowed := true, recurses := true, apart := false, narrowed := true }
def RhymePairsUptoSaid : Prop := rhymePairsUptoRow.holds Try.pinned (OpenSpec.upto rhymePairsSpec)

/-- 'canticlelaw15.RhymeClasses', WHERE WHAT IT READS IS OF BULK AT MOST 1048576: true; the input reads as it did. -/
def rhymeClassesUptoRow : OpenClaim := { program := "ytogofchpocoebaa", sum := "16a934ec00240c9b37ca3aa4703115be3abd6bca692ada02d5aa263d4914e2a5", func := "canticle/canticlelaw15.RhymeClasses", spec := "rhymeClasses", inPlace := ["internal/abi.NoEscape"], unfollowed := true, recurses := true, apart := false, narrowed := true }
def RhymeClassesUptoSaid : Prop := rhymeClassesUptoRow.holds Try.pinned (OpenSpec.upto rhymeClassesSpec)

/-- 'canticlelaw15.RhymeNames', WHERE WHAT IT READS IS OF BULK AT MOST 1048576: true; the input reads as it did. -/
def rhymeNamesUptoRow : OpenClaim := { program := "ytogofchpocoebaa", sum := "16a934ec00240c9b37ca3aa4703115be3abd6bca692ada02d5aa263d4914e2a5", func := "canticle/canticlelaw15.RhymeNames", spec := "rhymeNames", inPlace := ["internal/abi.NoEscape"], unfollowed := true, recurses := true, apart := false, narrowed := true }
def RhymeNamesUptoSaid : Prop := rhymeNamesUptoRow.holds Try.pinned (OpenSpec.upto rhymeNamesSpec)

/-- 'canticlelaw15.RhymeIsOne', WHERE WHAT IT READS IS OF BULK AT MOST 1048576: true; the input reads as it did. -/
def rhymeIsOneUptoRow : OpenClaim := { program := "ytogofchpocoebaa", sum := "16a934ec00240c9b37ca3aa4703115be3abd6bca692ada02d5aa263d4914e2a5", func := "canticle/canticlelaw15.RhymeIsOne", spec := "rhymeIsOne", inPlace := ["internal/abi.NoEscape"], unfollowed := true, recurses := true, apart := false, narrowed := true }
def RhymeIsOneUptoSaid : Prop := rhymeIsOneUptoRow.holds Try.pinned (OpenSpec.upto rhymeIsOneSpec)

/-- 'canticlelaw15.RhymeKinds', WHERE WHAT IT READS IS OF BULK AT MOST 1048576: true; the input reads as it did. -/
def rhymeKindsUptoRow : OpenClaim := { program := "ytogofchpocoebaa", sum := "16a934ec00240c9b37ca3aa4703115be3abd6bca692ada02d5aa263d4914e2a5", func := "canticle/canticlelaw15.RhymeKinds", spec := "rhymeKinds", inPlace := ["internal/abi.NoEscape"], unfollowed := true, recurses := true, apart := false, narrowed := true }
def RhymeKindsUptoSaid : Prop := rhymeKindsUptoRow.holds Try.pinned (OpenSpec.upto rhymeKindsSpec)

/-- 'canticlelaw11.SyllablePrints', WHERE WHAT IT READS IS OF BULK AT MOST 1048576: true; the input reads as it did. -/
def syllablePrintsUptoRow : OpenClaim := { program := "ytogofchpocoebaa", sum := "16a934ec00240c9b37ca3aa4703115be3abd6bca692ada02d5aa263d4914e2a5", func := "canticle/canticlelaw11.SyllablePrints", spec := "syllablePrints", inPlace := ["internal/bytealg.IndexByteString", "internal/bytealg.IndexString", "internal/abi.NoEscape"], unfollowed := true, recurses := true, named := ["internal/bytealg.MaxLen"], apart := false, narrowed := true }
def SyllablePrintsUptoSaid : Prop := syllablePrintsUptoRow.holds Try.pinned (OpenSpec.upto syllablePrintsSpec)

/-- 'canticlelaw11.SyllableParts', WHERE WHAT IT READS IS OF BULK AT MOST 1048576: true; the input reads as it did. -/
def syllablePartsUptoRow : OpenClaim := { program := "ytogofchpocoebaa", sum := "16a934ec00240c9b37ca3aa4703115be3abd6bca692ada02d5aa263d4914e2a5", func := "canticle/canticlelaw11.SyllableParts", spec := "syllableParts", inPlace := ["internal/bytealg.IndexByteString", "internal/bytealg.IndexString", "internal/abi.NoEscape"], unfollowed := true, recurses := true, named := ["internal/bytealg.MaxLen"], apart := false, narrowed := true }
def SyllablePartsUptoSaid : Prop := syllablePartsUptoRow.holds Try.pinned (OpenSpec.upto syllablePartsSpec)

/-- 'canticlelaw11.SyllableSigns', WHERE WHAT IT READS IS OF BULK AT MOST 1048576: true; the input reads as it did. -/
def syllableSignsUptoRow : OpenClaim := { program := "ytogofchpocoebaa", sum := "16a934ec00240c9b37ca3aa4703115be3abd6bca692ada02d5aa263d4914e2a5", func := "canticle/canticlelaw11.SyllableSigns", spec := "syllableSigns", inPlace := ["internal/bytealg.IndexByteString", "internal/bytealg.IndexString", "internal/abi.NoEscape"], unfollowed := true, recurses := true, named := ["internal/bytealg.MaxLen"], apart := false, narrowed := true }
def SyllableSignsUptoSaid : Prop := syllableSignsUptoRow.holds Try.pinned (OpenSpec.upto syllableSignsSpec)

/-- 'canticlelaw11.SyllableReads', WHERE WHAT IT READS IS OF BULK AT MOST 1048576: true; the input reads as it did. -/
def syllableReadsUptoRow : OpenClaim := { program := "ytogofchpocoebaa", sum := "16a934ec00240c9b37ca3aa4703115be3abd6bca692ada02d5aa263d4914e2a5", func := "canticle/canticlelaw11.SyllableReads", spec := "syllableReads", inPlace := ["internal/bytealg.IndexByteString", "internal/bytealg.IndexString", "internal/abi.NoEscape"], unfollowed := true, recurses := true, named := ["internal/bytealg.MaxLen"], apart := false, narrowed := true }
def SyllableReadsUptoSaid : Prop := syllableReadsUptoRow.holds Try.pinned (OpenSpec.upto syllableReadsSpec)

/-- 'canticlelaw11.SyllableBack', WHERE WHAT IT READS IS OF BULK AT MOST 1048576: true; the input reads as it did. -/
def syllableBackUptoRow : OpenClaim := { program := "ytogofchpocoebaa", sum := "16a934ec00240c9b37ca3aa4703115be3abd6bca692ada02d5aa263d4914e2a5", func := "canticle/canticlelaw11.SyllableBack", spec := "syllableBack", inPlace := ["internal/bytealg.IndexByteString", "internal/bytealg.IndexString", "internal/abi.NoEscape"], unfollowed := true, recurses := true, named := ["internal/bytealg.MaxLen"], apart := false, narrowed := true }
def SyllableBackUptoSaid : Prop := syllableBackUptoRow.holds Try.pinned (OpenSpec.upto syllableBackSpec)

/-- 'canticlelaw11.SyllableKnown', WHERE WHAT IT READS IS OF BULK AT MOST 1048576: true; the input reads as it did. -/
def syllableKnownUptoRow : OpenClaim := { program := "ytogofchpocoebaa", sum := "16a934ec00240c9b37ca3aa4703115be3abd6bca692ada02d5aa263d4914e2a5", func := "canticle/canticlelaw11.SyllableKnown", spec := "syllableKnown", inPlace := ["internal/bytealg.IndexByteString", "internal/bytealg.IndexString", "internal/abi.NoEscape"], unfollowed := true, recurses := true, named := ["internal/bytealg.MaxLen"], apart := false, narrowed := true }
def SyllableKnownUptoSaid : Prop := syllableKnownUptoRow.holds Try.pinned (OpenSpec.upto syllableKnownSpec)

/-- 'canticlelaw11.SyllableSplits', WHERE WHAT IT READS IS OF BULK AT MOST 1048576: true; the input reads as it did. -/
def syllableSplitsUptoRow : OpenClaim := { program := "ytogofchpocoebaa", sum := "16a934ec00240c9b37ca3aa4703115be3abd6bca692ada02d5aa263d4914e2a5", func := "canticle/canticlelaw11.SyllableSplits", spec := "syllableSplits", inPlace := ["internal/bytealg.IndexByteString", "internal/bytealg.IndexString", "internal/abi.NoEscape"], unfollowed := true, recurses := true, named := ["internal/bytealg.MaxLen"], apart := false, narrowed := true }
def SyllableSplitsUptoSaid : Prop := syllableSplitsUptoRow.holds Try.pinned (OpenSpec.upto syllableSplitsSpec)

/-- 'canticlelaw11.SyllableTwice', WHERE WHAT IT READS IS OF BULK AT MOST 1048576: true; the input reads as it did. -/
def syllableTwiceUptoRow : OpenClaim := { program := "ytogofchpocoebaa", sum := "16a934ec00240c9b37ca3aa4703115be3abd6bca692ada02d5aa263d4914e2a5", func := "canticle/canticlelaw11.SyllableTwice", spec := "syllableTwice", inPlace := ["internal/bytealg.IndexByteString", "internal/bytealg.IndexString", "internal/abi.NoEscape"], unfollowed := true, recurses := true, named := ["internal/bytealg.MaxLen"], apart := false, narrowed := true }
def SyllableTwiceUptoSaid : Prop := syllableTwiceUptoRow.holds Try.pinned (OpenSpec.upto syllableTwiceSpec)

/-- 'canticlelaw11.SyllableStress', WHERE WHAT IT READS IS OF BULK AT MOST 1048576: true; the input reads as it did. -/
def syllableStressUptoRow : OpenClaim := { program := "ytogofchpocoebaa", sum := "16a934ec00240c9b37ca3aa4703115be3abd6bca692ada02d5aa263d4914e2a5", func := "canticle/canticlelaw11.SyllableStress", spec := "syllableStress", inPlace := ["internal/bytealg.IndexByteString", "internal/bytealg.IndexString", "internal/abi.NoEscape"], unfollowed := true, recurses := true, named := ["internal/bytealg.MaxLen"], apart := false, narrowed := true }
def SyllableStressUptoSaid : Prop := syllableStressUptoRow.holds Try.pinned (OpenSpec.upto syllableStressSpec)

end Rows
end Go.Proofs.Ytogofchpocoebaa
