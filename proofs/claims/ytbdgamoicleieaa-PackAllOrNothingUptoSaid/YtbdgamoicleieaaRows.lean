/-
  No cell of these rows narrows 'for every input' (looked for: loops, veiled, ifaces, maps, wideKeys, modest, calm, conditions, laid).
  DERIVED. THE GIVEN ROWS OF THIS SEAT. 10 by the template 'for every input the law returns true; each argument reads behind the call as it read before'; 0 by the template 'total and deterministic' (their statements: YtbdgamoicleieaaTotals.lean).
  GIVEN WITH THE SEED: the statements are not yours to turn. If you find one false, say at which input.
  Laid BY PROGRAM, IN A SANDBOX (cutbox-rows.mjs): the forced cells as the released guide's own fill.sh prints them over the translation 0232640e3e39afb7… (all of the seat's roots in one cut). By AI agents, Wed Nov 11 2026. No macro, syntax, notation, axiom, sorry.
-/
import Derived.Test.YtbdgamoicleieaaChecked
import GoSem.Claim
import GoSem.ClaimJoined
import GoSem.ClaimMapViews
import Derived.JoinedTies
import Derived.KernelRfl
namespace Go.Proofs.Ytbdgamoicleieaa
/- THE CELL 'sum', in the pinned program and in every row, IS THE sha256 OF THE DUMP (.gsa) THAT YtbdgamoicleieaaProg.lean LOADS. Nothing in Lean hashes anything: it is a label: what it is worth is what the hold of that sum in a sandbox is worth. -/
noncomputable def Try.pinned : Pinned := { name := "ytbdgamoicleieaa", sum := "0232640e3e39afb7af2b781f5eca2d284370b0fb9b3181e631e87a994d38f111", checked := Try.checked }
namespace Rows
def none {H : Type} : Left H := { results := [], args := [] }

/-- 'cosignerlaw22.PackForms': WHATEVER THE INPUT: true; the input reads as it did. -/
def packFormsSpec : ChangeSpec := { name := "packForms", fn := fun _ => fun
  | [d1, d2] => { results := [.lit (.bool true)], args := [d1, d2] }
  | _ => none }
def packFormsRow : OpenClaim := { program := "ytbdgamoicleieaa", sum := "0232640e3e39afb7af2b781f5eca2d284370b0fb9b3181e631e87a994d38f111", func := "cosigner/cosignerlaw22.PackForms", spec := "packForms", unfollowed := true, recurses := true, apart := false }
def PackFormsSaid : Prop := packFormsRow.holds Try.pinned (OpenSpec.ofChange packFormsSpec)

/-- ITS FALSE NEIGHBOUR: 'it returns false'. Refute it at one input. -/
def packFormsWrong : ChangeSpec := { name := "packForms", fn := fun _ => fun
  | [d1, d2] => { results := [.lit (.bool false)], args := [d1, d2] }
  | _ => none }
def PackFormsWrongFalsely : Prop := packFormsRow.holds Try.pinned (OpenSpec.ofChange packFormsWrong)

/-- 'cosignerlaw22.PackEncodes': WHATEVER THE INPUT: true; the input reads as it did. -/
def packEncodesSpec : ChangeSpec := { name := "packEncodes", fn := fun _ => fun
  | [d1, d2] => { results := [.lit (.bool true)], args := [d1, d2] }
  | _ => none }
def packEncodesRow : OpenClaim := { program := "ytbdgamoicleieaa", sum := "0232640e3e39afb7af2b781f5eca2d284370b0fb9b3181e631e87a994d38f111", func := "cosigner/cosignerlaw22.PackEncodes", spec := "packEncodes", unfollowed := true, recurses := true, apart := false }
def PackEncodesSaid : Prop := packEncodesRow.holds Try.pinned (OpenSpec.ofChange packEncodesSpec)

/-- ITS FALSE NEIGHBOUR: 'it returns false'. Refute it at one input. -/
def packEncodesWrong : ChangeSpec := { name := "packEncodes", fn := fun _ => fun
  | [d1, d2] => { results := [.lit (.bool false)], args := [d1, d2] }
  | _ => none }
def PackEncodesWrongFalsely : Prop := packEncodesRow.holds Try.pinned (OpenSpec.ofChange packEncodesWrong)

/-- 'cosignerlaw22.PackTorn': WHATEVER THE INPUT: true; the input reads as it did. -/
def packTornSpec : ChangeSpec := { name := "packTorn", fn := fun _ => fun
  | [d1, d2, d3, d4, d5] => { results := [.lit (.bool true)], args := [d1, d2, d3, d4, d5] }
  | _ => none }
def packTornRow : OpenClaim := { program := "ytbdgamoicleieaa", sum := "0232640e3e39afb7af2b781f5eca2d284370b0fb9b3181e631e87a994d38f111", func := "cosigner/cosignerlaw22.PackTorn", spec := "packTorn", unfollowed := true, recurses := true, apart := false }
def PackTornSaid : Prop := packTornRow.holds Try.pinned (OpenSpec.ofChange packTornSpec)

/-- ITS FALSE NEIGHBOUR: 'it returns false'. Refute it at one input. -/
def packTornWrong : ChangeSpec := { name := "packTorn", fn := fun _ => fun
  | [d1, d2, d3, d4, d5] => { results := [.lit (.bool false)], args := [d1, d2, d3, d4, d5] }
  | _ => none }
def PackTornWrongFalsely : Prop := packTornRow.holds Try.pinned (OpenSpec.ofChange packTornWrong)

/-- 'cosignerlaw22.PackRoundTrip': WHATEVER THE INPUT: true; the input reads as it did. -/
def packRoundTripSpec : ChangeSpec := { name := "packRoundTrip", fn := fun _ => fun
  | [d1, d2, d3, d4] => { results := [.lit (.bool true)], args := [d1, d2, d3, d4] }
  | _ => none }
def packRoundTripRow : OpenClaim := { program := "ytbdgamoicleieaa", sum := "0232640e3e39afb7af2b781f5eca2d284370b0fb9b3181e631e87a994d38f111", func := "cosigner/cosignerlaw22.PackRoundTrip", spec := "packRoundTrip", unfollowed := true, recurses := true, apart := false }
def PackRoundTripSaid : Prop := packRoundTripRow.holds Try.pinned (OpenSpec.ofChange packRoundTripSpec)

/-- ITS FALSE NEIGHBOUR: 'it returns false'. Refute it at one input. -/
def packRoundTripWrong : ChangeSpec := { name := "packRoundTrip", fn := fun _ => fun
  | [d1, d2, d3, d4] => { results := [.lit (.bool false)], args := [d1, d2, d3, d4] }
  | _ => none }
def PackRoundTripWrongFalsely : Prop := packRoundTripRow.holds Try.pinned (OpenSpec.ofChange packRoundTripWrong)

/-- 'cosignerlaw22.PackRenumbers': WHATEVER THE INPUT: true; the input reads as it did. -/
def packRenumbersSpec : ChangeSpec := { name := "packRenumbers", fn := fun _ => fun
  | [d1, d2] => { results := [.lit (.bool true)], args := [d1, d2] }
  | _ => none }
def packRenumbersRow : OpenClaim := { program := "ytbdgamoicleieaa", sum := "0232640e3e39afb7af2b781f5eca2d284370b0fb9b3181e631e87a994d38f111", func := "cosigner/cosignerlaw22.PackRenumbers", spec := "packRenumbers", unfollowed := true, recurses := true, apart := false }
def PackRenumbersSaid : Prop := packRenumbersRow.holds Try.pinned (OpenSpec.ofChange packRenumbersSpec)

/-- ITS FALSE NEIGHBOUR: 'it returns false'. Refute it at one input. -/
def packRenumbersWrong : ChangeSpec := { name := "packRenumbers", fn := fun _ => fun
  | [d1, d2] => { results := [.lit (.bool false)], args := [d1, d2] }
  | _ => none }
def PackRenumbersWrongFalsely : Prop := packRenumbersRow.holds Try.pinned (OpenSpec.ofChange packRenumbersWrong)

/-- 'cosignerlaw22.PackAllOrNothing': WHATEVER THE INPUT: true; the input reads as it did. -/
def packAllOrNothingSpec : ChangeSpec := { name := "packAllOrNothing", fn := fun _ => fun
  | [d1, d2, d3, d4] => { results := [.lit (.bool true)], args := [d1, d2, d3, d4] }
  | _ => none }
def packAllOrNothingRow : OpenClaim := { program := "ytbdgamoicleieaa", sum := "0232640e3e39afb7af2b781f5eca2d284370b0fb9b3181e631e87a994d38f111", func := "cosigner/cosignerlaw22.PackAllOrNothing", spec := "packAllOrNothing", unfollowed := true, recurses := true, apart := false }
def PackAllOrNothingSaid : Prop := packAllOrNothingRow.holds Try.pinned (OpenSpec.ofChange packAllOrNothingSpec)

/-- ITS FALSE NEIGHBOUR: 'it returns false'. Refute it at one input. -/
def packAllOrNothingWrong : ChangeSpec := { name := "packAllOrNothing", fn := fun _ => fun
  | [d1, d2, d3, d4] => { results := [.lit (.bool false)], args := [d1, d2, d3, d4] }
  | _ => none }
def PackAllOrNothingWrongFalsely : Prop := packAllOrNothingRow.holds Try.pinned (OpenSpec.ofChange packAllOrNothingWrong)

/-- 'cosignerlaw22.PackBackAgain': WHATEVER THE INPUT: true; the input reads as it did. -/
def packBackAgainSpec : ChangeSpec := { name := "packBackAgain", fn := fun _ => fun
  | [d1, d2, d3, d4] => { results := [.lit (.bool true)], args := [d1, d2, d3, d4] }
  | _ => none }
def packBackAgainRow : OpenClaim := { program := "ytbdgamoicleieaa", sum := "0232640e3e39afb7af2b781f5eca2d284370b0fb9b3181e631e87a994d38f111", func := "cosigner/cosignerlaw22.PackBackAgain", spec := "packBackAgain", unfollowed := true, recurses := true, apart := false }
def PackBackAgainSaid : Prop := packBackAgainRow.holds Try.pinned (OpenSpec.ofChange packBackAgainSpec)

/-- ITS FALSE NEIGHBOUR: 'it returns false'. Refute it at one input. -/
def packBackAgainWrong : ChangeSpec := { name := "packBackAgain", fn := fun _ => fun
  | [d1, d2, d3, d4] => { results := [.lit (.bool false)], args := [d1, d2, d3, d4] }
  | _ => none }
def PackBackAgainWrongFalsely : Prop := packBackAgainRow.holds Try.pinned (OpenSpec.ofChange packBackAgainWrong)

/-- 'cosignerlaw22.PackParts': WHATEVER THE INPUT: true; the input reads as it did. -/
def packPartsSpec : ChangeSpec := { name := "packParts", fn := fun _ => fun
  | [d1, d2, d3] => { results := [.lit (.bool true)], args := [d1, d2, d3] }
  | _ => none }
def packPartsRow : OpenClaim := { program := "ytbdgamoicleieaa", sum := "0232640e3e39afb7af2b781f5eca2d284370b0fb9b3181e631e87a994d38f111", func := "cosigner/cosignerlaw22.PackParts", spec := "packParts", unfollowed := true, recurses := true, apart := false }
def PackPartsSaid : Prop := packPartsRow.holds Try.pinned (OpenSpec.ofChange packPartsSpec)

/-- ITS FALSE NEIGHBOUR: 'it returns false'. Refute it at one input. -/
def packPartsWrong : ChangeSpec := { name := "packParts", fn := fun _ => fun
  | [d1, d2, d3] => { results := [.lit (.bool false)], args := [d1, d2, d3] }
  | _ => none }
def PackPartsWrongFalsely : Prop := packPartsRow.holds Try.pinned (OpenSpec.ofChange packPartsWrong)

/-- 'cosignerlaw22.PackChainsAgree': WHATEVER THE INPUT: true; the input reads as it did. -/
def packChainsAgreeSpec : ChangeSpec := { name := "packChainsAgree", fn := fun _ => fun
  | [d1, d2, d3, d4, d5, d6] => { results := [.lit (.bool true)], args := [d1, d2, d3, d4, d5, d6] }
  | _ => none }
def packChainsAgreeRow : OpenClaim := { program := "ytbdgamoicleieaa", sum := "0232640e3e39afb7af2b781f5eca2d284370b0fb9b3181e631e87a994d38f111", func := "cosigner/cosignerlaw22.PackChainsAgree", spec := "packChainsAgree", unfollowed := true, recurses := true, apart := false }
def PackChainsAgreeSaid : Prop := packChainsAgreeRow.holds Try.pinned (OpenSpec.ofChange packChainsAgreeSpec)

/-- ITS FALSE NEIGHBOUR: 'it returns false'. Refute it at one input. -/
def packChainsAgreeWrong : ChangeSpec := { name := "packChainsAgree", fn := fun _ => fun
  | [d1, d2, d3, d4, d5, d6] => { results := [.lit (.bool false)], args := [d1, d2, d3, d4, d5, d6] }
  | _ => none }
def PackChainsAgreeWrongFalsely : Prop := packChainsAgreeRow.holds Try.pinned (OpenSpec.ofChange packChainsAgreeWrong)

/-- 'cosignerlaw22.PackCanons': WHATEVER THE INPUT: true; the input reads as it did. -/
def packCanonsSpec : ChangeSpec := { name := "packCanons", fn := fun _ => fun
  | [d1, d2, d3] => { results := [.lit (.bool true)], args := [d1, d2, d3] }
  | _ => none }
def packCanonsRow : OpenClaim := { program := "ytbdgamoicleieaa", sum := "0232640e3e39afb7af2b781f5eca2d284370b0fb9b3181e631e87a994d38f111", func := "cosigner/cosignerlaw22.PackCanons", spec := "packCanons", unfollowed := true, recurses := true, apart := false }
def PackCanonsSaid : Prop := packCanonsRow.holds Try.pinned (OpenSpec.ofChange packCanonsSpec)

/-- ITS FALSE NEIGHBOUR: 'it returns false'. Refute it at one input. -/
def packCanonsWrong : ChangeSpec := { name := "packCanons", fn := fun _ => fun
  | [d1, d2, d3] => { results := [.lit (.bool false)], args := [d1, d2, d3] }
  | _ => none }
def PackCanonsWrongFalsely : Prop := packCanonsRow.holds Try.pinned (OpenSpec.ofChange packCanonsWrong)

/- THE SECOND FORM. 'bulk': how many values and letters a reading holds, each counted each time it is reached (what is shared counts as often as it is met; a slice's spare places count too). A statement '..UptoSaid' is the law's where the arguments, and the package variables that the reading takes, are together of bulk at most 1048576: NARROWER than '..Said'. Prove '..Said' where nothing that the law and all that it calls make is longer than what came in: it says more and counts as full. Else prove '..UptoSaid'. A law counts once. -/
mutual
def uptoBulk {H : Type} : DataW H → Nat
  | .lit (.string bytes) => bytes.length + 1
  | .lit _ => 1
  | .nil => 1
  | .ptr d => uptoBulk d + 1
  | .slice elems spare => uptoBulkAll elems + uptoBulkAll spare + 1
  | .agg parts => uptoBulkAll parts + 1
  | .iface _ d => uptoBulk d + 1
  | .map entries => uptoBulkEntries entries + 1
  | .held _ => 1
def uptoBulkAll {H : Type} : List (DataW H) → Nat
  | [] => 0
  | d :: r => uptoBulk d + uptoBulkAll r
def uptoBulkEntries {H : Type} : List (Lit × DataW H) → Nat
  | [] => 0
  | x :: r => uptoBulkEntry x + uptoBulkEntries r
def uptoBulkEntry {H : Type} : Lit × DataW H → Nat
  | (.string bytes, d) => bytes.length + uptoBulk d + 1
  | (_, d) => uptoBulk d + 1
 end
def uptoSmall : (H : Type) → List (DataW H) → Bool := fun _ ds => decide (uptoBulkAll ds ≤ 1048576)
def OpenSpec.upto (s : _root_.Go.ChangeSpec) : _root_.Go.OpenSpec := { _root_.Go.OpenSpec.ofChange s with cond := some uptoSmall }

/-- 'cosignerlaw22.PackForms', WHERE WHAT IT READS IS OF BULK AT MOST 1048576: true; the input reads as it did. -/
def packFormsUptoRow : OpenClaim := { program := "ytbdgamoicleieaa", sum := "0232640e3e39afb7af2b781f5eca2d284370b0fb9b3181e631e87a994d38f111", func := "cosigner/cosignerlaw22.PackForms", spec := "packForms", unfollowed := true, recurses := true, apart := false, narrowed := true }
def PackFormsUptoSaid : Prop := packFormsUptoRow.holds Try.pinned (OpenSpec.upto packFormsSpec)

/-- 'cosignerlaw22.PackEncodes', WHERE WHAT IT READS IS OF BULK AT MOST 1048576: true; the input reads as it did. -/
def packEncodesUptoRow : OpenClaim := { program := "ytbdgamoicleieaa", sum := "0232640e3e39afb7af2b781f5eca2d284370b0fb9b3181e631e87a994d38f111", func := "cosigner/cosignerlaw22.PackEncodes", spec := "packEncodes", unfollowed := true, recurses := true, apart := false, narrowed := true }
def PackEncodesUptoSaid : Prop := packEncodesUptoRow.holds Try.pinned (OpenSpec.upto packEncodesSpec)

/-- 'cosignerlaw22.PackTorn', WHERE WHAT IT READS IS OF BULK AT MOST 1048576: true; the input reads as it did. -/
def packTornUptoRow : OpenClaim := { program := "ytbdgamoicleieaa", sum := "0232640e3e39afb7af2b781f5eca2d284370b0fb9b3181e631e87a994d38f111", func := "cosigner/cosignerlaw22.PackTorn", spec := "packTorn", unfollowed := true, recurses := true, apart := false, narrowed := true }
def PackTornUptoSaid : Prop := packTornUptoRow.holds Try.pinned (OpenSpec.upto packTornSpec)

/-- 'cosignerlaw22.PackRoundTrip', WHERE WHAT IT READS IS OF BULK AT MOST 1048576: true; the input reads as it did. -/
def packRoundTripUptoRow : OpenClaim := { program := "ytbdgamoicleieaa", sum := "0232640e3e39afb7af2b781f5eca2d284370b0fb9b3181e631e87a994d38f111", func := "cosigner/cosignerlaw22.PackRoundTrip", spec := "packRoundTrip", unfollowed := true, recurses := true, apart := false, narrowed := true }
def PackRoundTripUptoSaid : Prop := packRoundTripUptoRow.holds Try.pinned (OpenSpec.upto packRoundTripSpec)

/-- 'cosignerlaw22.PackRenumbers', WHERE WHAT IT READS IS OF BULK AT MOST 1048576: true; the input reads as it did. -/
def packRenumbersUptoRow : OpenClaim := { program := "ytbdgamoicleieaa", sum := "0232640e3e39afb7af2b781f5eca2d284370b0fb9b3181e631e87a994d38f111", func := "cosigner/cosignerlaw22.PackRenumbers", spec := "packRenumbers", unfollowed := true, recurses := true, apart := false, narrowed := true }
def PackRenumbersUptoSaid : Prop := packRenumbersUptoRow.holds Try.pinned (OpenSpec.upto packRenumbersSpec)

/-- 'cosignerlaw22.PackAllOrNothing', WHERE WHAT IT READS IS OF BULK AT MOST 1048576: true; the input reads as it did. -/
def packAllOrNothingUptoRow : OpenClaim := { program := "ytbdgamoicleieaa", sum := "0232640e3e39afb7af2b781f5eca2d284370b0fb9b3181e631e87a994d38f111", func := "cosigner/cosignerlaw22.PackAllOrNothing", spec := "packAllOrNothing", unfollowed := true, recurses := true, apart := false, narrowed := true }
def PackAllOrNothingUptoSaid : Prop := packAllOrNothingUptoRow.holds Try.pinned (OpenSpec.upto packAllOrNothingSpec)

/-- 'cosignerlaw22.PackBackAgain', WHERE WHAT IT READS IS OF BULK AT MOST 1048576: true; the input reads as it did. -/
def packBackAgainUptoRow : OpenClaim := { program := "ytbdgamoicleieaa", sum := "0232640e3e39afb7af2b781f5eca2d284370b0fb9b3181e631e87a994d38f111", func := "cosigner/cosignerlaw22.PackBackAgain", spec := "packBackAgain", unfollowed := true, recurses := true, apart := false, narrowed := true }
def PackBackAgainUptoSaid : Prop := packBackAgainUptoRow.holds Try.pinned (OpenSpec.upto packBackAgainSpec)

/-- 'cosignerlaw22.PackParts', WHERE WHAT IT READS IS OF BULK AT MOST 1048576: true; the input reads as it did. -/
def packPartsUptoRow : OpenClaim := { program := "ytbdgamoicleieaa", sum := "0232640e3e39afb7af2b781f5eca2d284370b0fb9b3181e631e87a994d38f111", func := "cosigner/cosignerlaw22.PackParts", spec := "packParts", unfollowed := true, recurses := true, apart := false, narrowed := true }
def PackPartsUptoSaid : Prop := packPartsUptoRow.holds Try.pinned (OpenSpec.upto packPartsSpec)

/-- 'cosignerlaw22.PackChainsAgree', WHERE WHAT IT READS IS OF BULK AT MOST 1048576: true; the input reads as it did. -/
def packChainsAgreeUptoRow : OpenClaim := { program := "ytbdgamoicleieaa", sum := "0232640e3e39afb7af2b781f5eca2d284370b0fb9b3181e631e87a994d38f111", func := "cosigner/cosignerlaw22.PackChainsAgree", spec := "packChainsAgree", unfollowed := true, recurses := true, apart := false, narrowed := true }
def PackChainsAgreeUptoSaid : Prop := packChainsAgreeUptoRow.holds Try.pinned (OpenSpec.upto packChainsAgreeSpec)

/-- 'cosignerlaw22.PackCanons', WHERE WHAT IT READS IS OF BULK AT MOST 1048576: true; the input reads as it did. -/
def packCanonsUptoRow : OpenClaim := { program := "ytbdgamoicleieaa", sum := "0232640e3e39afb7af2b781f5eca2d284370b0fb9b3181e631e87a994d38f111", func := "cosigner/cosignerlaw22.PackCanons", spec := "packCanons", unfollowed := true, recurses := true, apart := false, narrowed := true }
def PackCanonsUptoSaid : Prop := packCanonsUptoRow.holds Try.pinned (OpenSpec.upto packCanonsSpec)

end Rows
end Go.Proofs.Ytbdgamoicleieaa
