/-
  No cell of these rows narrows 'for every input' (looked for: loops, veiled, ifaces, maps, wideKeys, modest, calm, conditions, laid).
  DERIVED. THE GIVEN ROWS OF THIS SEAT. 4 by the template 'for every input the law returns true; each argument reads behind the call as it read before'; 0 by the template 'total and deterministic' (their statements: YtbdgamoicleieaaGreatTotals.lean).
  GIVEN WITH THE SEED: the statements are not yours to turn. If you find one false, say at which input.
  Laid BY PROGRAM, IN A SANDBOX (cutbox-rows.mjs): the forced cells as the released guide's own fill.sh prints them over the translation be08a1a9de845960… (all of the seat's roots in one cut). By AI agents, Wed Nov 11 2026. No macro, syntax, notation, axiom, sorry.
-/
import Derived.Test.YtbdgamoicleieaaGreatChecked
import GoSem.Claim
import GoSem.ClaimJoined
import GoSem.ClaimMapViews
import Derived.JoinedTies
import Derived.KernelRfl
namespace Go.Proofs.YtbdgamoicleieaaGreat
/- THE CELL 'sum', in the pinned program and in every row, IS THE sha256 OF THE DUMP (.gsa) THAT YtbdgamoicleieaaGreatProg.lean LOADS. Nothing in Lean hashes anything: it is a label: what it is worth is what the hold of that sum in a sandbox is worth. -/
noncomputable def Tryz.pinned : Pinned := { name := "ytbdgamoicleieaagreat", sum := "be08a1a9de845960e59cc55053fca6599a2cb22792cb9e68bf19b7a507f8a375", checked := Tryz.checked }
namespace Rows
def none {H : Type} : Left H := { results := [], args := [] }

/-- 'cosignerlaw22.PackConverts': WHATEVER THE INPUT: true; the input reads as it did. -/
def packConvertsSpec : ChangeSpec := { name := "packConverts", fn := fun _ => fun
  | [d1, d2, d3, d4] => { results := [.lit (.bool true)], args := [d1, d2, d3, d4] }
  | _ => none }
def packConvertsRow : OpenClaim := { program := "ytbdgamoicleieaagreat", sum := "be08a1a9de845960e59cc55053fca6599a2cb22792cb9e68bf19b7a507f8a375", func := "cosigner/cosignerlaw22.PackConverts", spec := "packConverts", unfollowed := true, recurses := true, apart := false }
def PackConvertsSaid : Prop := packConvertsRow.holds Tryz.pinned (OpenSpec.ofChange packConvertsSpec)

/-- ITS FALSE NEIGHBOUR: 'it returns false'. Refute it at one input. -/
def packConvertsWrong : ChangeSpec := { name := "packConverts", fn := fun _ => fun
  | [d1, d2, d3, d4] => { results := [.lit (.bool false)], args := [d1, d2, d3, d4] }
  | _ => none }
def PackConvertsWrongFalsely : Prop := packConvertsRow.holds Tryz.pinned (OpenSpec.ofChange packConvertsWrong)

/-- 'cosignerlaw22.PackChains': WHATEVER THE INPUT: true; the input reads as it did. -/
def packChainsSpec : ChangeSpec := { name := "packChains", fn := fun _ => fun
  | [d1, d2, d3, d4, d5] => { results := [.lit (.bool true)], args := [d1, d2, d3, d4, d5] }
  | _ => none }
def packChainsRow : OpenClaim := { program := "ytbdgamoicleieaagreat", sum := "be08a1a9de845960e59cc55053fca6599a2cb22792cb9e68bf19b7a507f8a375", func := "cosigner/cosignerlaw22.PackChains", spec := "packChains", unfollowed := true, recurses := true, apart := false }
def PackChainsSaid : Prop := packChainsRow.holds Tryz.pinned (OpenSpec.ofChange packChainsSpec)

/-- ITS FALSE NEIGHBOUR: 'it returns false'. Refute it at one input. -/
def packChainsWrong : ChangeSpec := { name := "packChains", fn := fun _ => fun
  | [d1, d2, d3, d4, d5] => { results := [.lit (.bool false)], args := [d1, d2, d3, d4, d5] }
  | _ => none }
def PackChainsWrongFalsely : Prop := packChainsRow.holds Tryz.pinned (OpenSpec.ofChange packChainsWrong)

/-- 'cosignerlaw22.PackRules': WHATEVER THE INPUT: true; the input reads as it did. -/
def packRulesSpec : ChangeSpec := { name := "packRules", fn := fun _ => fun
  | [d1, d2, d3] => { results := [.lit (.bool true)], args := [d1, d2, d3] }
  | _ => none }
def packRulesRow : OpenClaim := { program := "ytbdgamoicleieaagreat", sum := "be08a1a9de845960e59cc55053fca6599a2cb22792cb9e68bf19b7a507f8a375", func := "cosigner/cosignerlaw22.PackRules", spec := "packRules", unfollowed := true, recurses := true, apart := false }
def PackRulesSaid : Prop := packRulesRow.holds Tryz.pinned (OpenSpec.ofChange packRulesSpec)

/-- ITS FALSE NEIGHBOUR: 'it returns false'. Refute it at one input. -/
def packRulesWrong : ChangeSpec := { name := "packRules", fn := fun _ => fun
  | [d1, d2, d3] => { results := [.lit (.bool false)], args := [d1, d2, d3] }
  | _ => none }
def PackRulesWrongFalsely : Prop := packRulesRow.holds Tryz.pinned (OpenSpec.ofChange packRulesWrong)

/-- 'cosignerlaw22.PackDecodes': WHATEVER THE INPUT: true; the input reads as it did. -/
def packDecodesSpec : ChangeSpec := { name := "packDecodes", fn := fun _ => fun
  | [d1, d2] => { results := [.lit (.bool true)], args := [d1, d2] }
  | _ => none }
def packDecodesRow : OpenClaim := { program := "ytbdgamoicleieaagreat", sum := "be08a1a9de845960e59cc55053fca6599a2cb22792cb9e68bf19b7a507f8a375", func := "cosigner/cosignerlaw22.PackDecodes", spec := "packDecodes", unfollowed := true, recurses := true, apart := false }
def PackDecodesSaid : Prop := packDecodesRow.holds Tryz.pinned (OpenSpec.ofChange packDecodesSpec)

/-- ITS FALSE NEIGHBOUR: 'it returns false'. Refute it at one input. -/
def packDecodesWrong : ChangeSpec := { name := "packDecodes", fn := fun _ => fun
  | [d1, d2] => { results := [.lit (.bool false)], args := [d1, d2] }
  | _ => none }
def PackDecodesWrongFalsely : Prop := packDecodesRow.holds Tryz.pinned (OpenSpec.ofChange packDecodesWrong)

/- THE SECOND FORM. 'bulk': how many values and letters a reading holds, each counted each time it is reached (what is shared counts as often as it is met; a slice's spare places count too). A statement '..UptoSaid' is the law's where the arguments, and the package variables that the reading takes, are together of bulk at most 1048576: NARROWER than '..Said'. Prove '..Said' where nothing that the law and all that it calls make is longer than what came in: it says more and counts as full. Else prove '..UptoSaid'. A law counts once. -/
mutual
def uptoBulk {H : Type} : DataW H → Nat
  | .lit (.string bytes) => bytes.length + 1
  | .lit _ => 1
  | .nil => 1
  | .ptr d => uptoBulk d + 1
  | .slice elems spare => uptoBulkAll elems + uptoBulkAll spare + 1
  | .agg parts => uptoBulkAll parts + 1
  | .iface _ d => uptoBulk d + 1
  | .map entries => uptoBulkEntries entries + 1
  | .held _ => 1
def uptoBulkAll {H : Type} : List (DataW H) → Nat
  | [] => 0
  | d :: r => uptoBulk d + uptoBulkAll r
def uptoBulkEntries {H : Type} : List (Lit × DataW H) → Nat
  | [] => 0
  | x :: r => uptoBulkEntry x + uptoBulkEntries r
def uptoBulkEntry {H : Type} : Lit × DataW H → Nat
  | (.string bytes, d) => bytes.length + uptoBulk d + 1
  | (_, d) => uptoBulk d + 1
 end
def uptoSmall : (H : Type) → List (DataW H) → Bool := fun _ ds => decide (uptoBulkAll ds ≤ 1048576)
def OpenSpec.upto (s : _root_.Go.ChangeSpec) : _root_.Go.OpenSpec := { _root_.Go.OpenSpec.ofChange s with cond := some uptoSmall }

/-- 'cosignerlaw22.PackConverts', WHERE WHAT IT READS IS OF BULK AT MOST 1048576: true; the input reads as it did. -/
def packConvertsUptoRow : OpenClaim := { program := "ytbdgamoicleieaagreat", sum := "be08a1a9de845960e59cc55053fca6599a2cb22792cb9e68bf19b7a507f8a375", func := "cosigner/cosignerlaw22.PackConverts", spec := "packConverts", unfollowed := true, recurses := true, apart := false, narrowed := true }
def PackConvertsUptoSaid : Prop := packConvertsUptoRow.holds Tryz.pinned (OpenSpec.upto packConvertsSpec)

/-- 'cosignerlaw22.PackChains', WHERE WHAT IT READS IS OF BULK AT MOST 1048576: true; the input reads as it did. -/
def packChainsUptoRow : OpenClaim := { program := "ytbdgamoicleieaagreat", sum := "be08a1a9de845960e59cc55053fca6599a2cb22792cb9e68bf19b7a507f8a375", func := "cosigner/cosignerlaw22.PackChains", spec := "packChains", unfollowed := true, recurses := true, apart := false, narrowed := true }
def PackChainsUptoSaid : Prop := packChainsUptoRow.holds Tryz.pinned (OpenSpec.upto packChainsSpec)

/-- 'cosignerlaw22.PackRules', WHERE WHAT IT READS IS OF BULK AT MOST 1048576: true; the input reads as it did. -/
def packRulesUptoRow : OpenClaim := { program := "ytbdgamoicleieaagreat", sum := "be08a1a9de845960e59cc55053fca6599a2cb22792cb9e68bf19b7a507f8a375", func := "cosigner/cosignerlaw22.PackRules", spec := "packRules", unfollowed := true, recurses := true, apart := false, narrowed := true }
def PackRulesUptoSaid : Prop := packRulesUptoRow.holds Tryz.pinned (OpenSpec.upto packRulesSpec)

/-- 'cosignerlaw22.PackDecodes', WHERE WHAT IT READS IS OF BULK AT MOST 1048576: true; the input reads as it did. -/
def packDecodesUptoRow : OpenClaim := { program := "ytbdgamoicleieaagreat", sum := "be08a1a9de845960e59cc55053fca6599a2cb22792cb9e68bf19b7a507f8a375", func := "cosigner/cosignerlaw22.PackDecodes", spec := "packDecodes", unfollowed := true, recurses := true, apart := false, narrowed := true }
def PackDecodesUptoSaid : Prop := packDecodesUptoRow.holds Tryz.pinned (OpenSpec.upto packDecodesSpec)

end Rows
end Go.Proofs.YtbdgamoicleieaaGreat
