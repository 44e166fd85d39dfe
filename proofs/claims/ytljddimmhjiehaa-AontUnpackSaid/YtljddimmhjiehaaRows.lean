/-
  No cell of these rows narrows 'for every input' (looked for: loops, veiled, ifaces, maps, wideKeys, modest, calm, conditions, laid).
  DERIVED. THE GIVEN ROWS OF THIS SEAT. 3 by the template 'for every input the law returns true; each argument reads behind the call as it read before'; 0 by the template 'total and deterministic' (their statements: YtljddimmhjiehaaTotals.lean).
  GIVEN WITH THE SEED: the statements are not yours to turn. If you find one false, say at which input.
  Laid BY PROGRAM, IN A SANDBOX (cutbox-rows.mjs): the forced cells as the released guide's own fill.sh prints them over the translation 790a352a441b88cd… (all of the seat's roots in one cut). By AI agents, Wed Nov 11 2026. No macro, syntax, notation, axiom, sorry.
-/
import Derived.Test.YtljddimmhjiehaaChecked
import GoSem.Claim
import GoSem.ClaimJoined
import GoSem.ClaimMapViews
import Derived.JoinedTies
import Derived.KernelRfl
namespace Go.Proofs.Ytljddimmhjiehaa
/- THE CELL 'sum', in the pinned program and in every row, IS THE sha256 OF THE DUMP (.gsa) THAT YtljddimmhjiehaaProg.lean LOADS. Nothing in Lean hashes anything: it is a label: what it is worth is what the hold of that sum in a sandbox is worth. -/
noncomputable def Try.pinned : Pinned := { name := "ytljddimmhjiehaa", sum := "790a352a441b88cd5eb504715e0d95f371d60248ba6f136b37049c69d1f11d84", checked := Try.checked }
namespace Rows
def none {H : Type} : Left H := { results := [], args := [] }

/-- 'scriniumlaw11.AontAll': WHATEVER THE INPUT: true; the input reads as it did. -/
def aontAllSpec : ChangeSpec := { name := "aontAll", fn := fun _ => fun
  | [d1, d2, d3] => { results := [.lit (.bool true)], args := [d1, d2, d3] }
  | _ => none }
def aontAllRow : OpenClaim := { program := "ytljddimmhjiehaa", sum := "790a352a441b88cd5eb504715e0d95f371d60248ba6f136b37049c69d1f11d84", func := "scrinium/scriniumlaw11.AontAll", spec := "aontAll", inPlace := ["internal/bytealg.MakeNoZero"], unfollowed := true, recurses := true, apart := false }
def AontAllSaid : Prop := aontAllRow.holds Try.pinned (OpenSpec.ofChange aontAllSpec)

/-- ITS FALSE NEIGHBOUR: 'it returns false'. Refute it at one input. -/
def aontAllWrong : ChangeSpec := { name := "aontAll", fn := fun _ => fun
  | [d1, d2, d3] => { results := [.lit (.bool false)], args := [d1, d2, d3] }
  | _ => none }
def AontAllWrongFalsely : Prop := aontAllRow.holds Try.pinned (OpenSpec.ofChange aontAllWrong)

/-- 'scriniumlaw11.AontUnpack': WHATEVER THE INPUT: true; the input reads as it did. -/
def aontUnpackSpec : ChangeSpec := { name := "aontUnpack", fn := fun _ => fun
  | [d1, d2] => { results := [.lit (.bool true)], args := [d1, d2] }
  | _ => none }
def aontUnpackRow : OpenClaim := { program := "ytljddimmhjiehaa", sum := "790a352a441b88cd5eb504715e0d95f371d60248ba6f136b37049c69d1f11d84", func := "scrinium/scriniumlaw11.AontUnpack", spec := "aontUnpack", inPlace := ["internal/bytealg.MakeNoZero"], unfollowed := true, recurses := true, apart := false }
def AontUnpackSaid : Prop := aontUnpackRow.holds Try.pinned (OpenSpec.ofChange aontUnpackSpec)

/-- ITS FALSE NEIGHBOUR: 'it returns false'. Refute it at one input. -/
def aontUnpackWrong : ChangeSpec := { name := "aontUnpack", fn := fun _ => fun
  | [d1, d2] => { results := [.lit (.bool false)], args := [d1, d2] }
  | _ => none }
def AontUnpackWrongFalsely : Prop := aontUnpackRow.holds Try.pinned (OpenSpec.ofChange aontUnpackWrong)

/-- 'scriniumlaw11.AontPack': WHATEVER THE INPUT: true; the input reads as it did. -/
def aontPackSpec : ChangeSpec := { name := "aontPack", fn := fun _ => fun
  | [d1, d2, d3] => { results := [.lit (.bool true)], args := [d1, d2, d3] }
  | _ => none }
def aontPackRow : OpenClaim := { program := "ytljddimmhjiehaa", sum := "790a352a441b88cd5eb504715e0d95f371d60248ba6f136b37049c69d1f11d84", func := "scrinium/scriniumlaw11.AontPack", spec := "aontPack", inPlace := ["internal/bytealg.MakeNoZero"], unfollowed := true, recurses := true, apart := false }
def AontPackSaid : Prop := aontPackRow.holds Try.pinned (OpenSpec.ofChange aontPackSpec)

/-- ITS FALSE NEIGHBOUR: 'it returns false'. Refute it at one input. -/
def aontPackWrong : ChangeSpec := { name := "aontPack", fn := fun _ => fun
  | [d1, d2, d3] => { results := [.lit (.bool false)], args := [d1, d2, d3] }
  | _ => none }
def AontPackWrongFalsely : Prop := aontPackRow.holds Try.pinned (OpenSpec.ofChange aontPackWrong)

/- THE SECOND FORM. 'bulk': how many values and letters a reading holds, each counted each time it is reached (what is shared counts as often as it is met; a slice's spare places count too). A statement '..UptoSaid' is the law's where the arguments, and the package variables that the reading takes, are together of bulk at most 1048576: NARROWER than '..Said'. Prove '..Said' where nothing that the law and all that it calls make is longer than what came in: it says more and counts as full. Else prove '..UptoSaid'. A law counts once. -/
mutual
def uptoBulk {H : Type} : DataW H → Nat
  | .lit (.string bytes) => bytes.length + 1
  | .lit _ => 1
  | .nil => 1
  | .ptr d => uptoBulk d + 1
  | .slice elems spare => uptoBulkAll elems + uptoBulkAll spare + 1
  | .agg parts => uptoBulkAll parts + 1
  | .iface _ d => uptoBulk d + 1
  | .map entries => uptoBulkEntries entries + 1
  | .held _ => 1
def uptoBulkAll {H : Type} : List (DataW H) → Nat
  | [] => 0
  | d :: r => uptoBulk d + uptoBulkAll r
def uptoBulkEntries {H : Type} : List (Lit × DataW H) → Nat
  | [] => 0
  | x :: r => uptoBulkEntry x + uptoBulkEntries r
def uptoBulkEntry {H : Type} : Lit × DataW H → Nat
  | (.string bytes, d) => bytes.length + uptoBulk d + 1
  | (_, d) => uptoBulk d + 1
 end
def uptoSmall : (H : Type) → List (DataW H) → Bool := fun _ ds => decide (uptoBulkAll ds ≤ 1048576)
def OpenSpec.upto (s : _root_.Go.ChangeSpec) : _root_.Go.OpenSpec := { _root_.Go.OpenSpec.ofChange s with cond := some uptoSmall }

/-- 'scriniumlaw11.AontAll', WHERE WHAT IT READS IS OF BULK AT MOST 1048576: true; the input reads as it did. -/
def aontAllUptoRow : OpenClaim := { program := "ytljddimmhjiehaa", sum := "790a352a441b88cd5eb504715e0d95f371d60248ba6f136b37049c69d1f11d84", func := "scrinium/scriniumlaw11.AontAll", spec := "aontAll", inPlace := ["internal/bytealg.MakeNoZero"], unfollowed := true, recurses := true, apart := false, narrowed := true }
def AontAllUptoSaid : Prop := aontAllUptoRow.holds Try.pinned (OpenSpec.upto aontAllSpec)

/-- 'scriniumlaw11.AontUnpack', WHERE WHAT IT READS IS OF BULK AT MOST 1048576: true; the input reads as it did. -/
def aontUnpackUptoRow : OpenClaim := { program := "ytljddimmhjiehaa", sum := "790a352a441b88cd5eb504715e0d95f371d60248ba6f136b37049c69d1f11d84", func := "scrinium/scriniumlaw11.AontUnpack", spec := "aontUnpack", inPlace := ["internal/bytealg.MakeNoZero"], unfollowed := true, recurses := true, apart := false, narrowed := true }
def AontUnpackUptoSaid : Prop := aontUnpackUptoRow.holds Try.pinned (OpenSpec.upto aontUnpackSpec)

/-- 'scriniumlaw11.AontPack', WHERE WHAT IT READS IS OF BULK AT MOST 1048576: true; the input reads as it did. -/
def aontPackUptoRow : OpenClaim := { program := "ytljddimmhjiehaa", sum := "790a352a441b88cd5eb504715e0d95f371d60248ba6f136b37049c69d1f11d84", func := "scrinium/scriniumlaw11.AontPack", spec := "aontPack", inPlace := ["internal/bytealg.MakeNoZero"], unfollowed := true, recurses := true, apart := false, narrowed := true }
def AontPackUptoSaid : Prop := aontPackUptoRow.holds Try.pinned (OpenSpec.upto aontPackSpec)

end Rows
end Go.Proofs.Ytljddimmhjiehaa
