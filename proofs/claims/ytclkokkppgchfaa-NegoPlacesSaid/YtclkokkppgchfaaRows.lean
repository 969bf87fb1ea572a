/-
  No cell of these rows narrows 'for every input' (looked for: loops, veiled, ifaces, maps, wideKeys, modest, calm, conditions, laid).
  DERIVED. THE GIVEN ROWS OF THIS SEAT. 13 by the template 'for every input the law returns true; each argument reads behind the call as it read before'; 0 by the template 'total and deterministic' (their statements: YtclkokkppgchfaaTotals.lean).
  GIVEN WITH THE SEED: the statements are not yours to turn. If you find one false, say at which input.
  Laid BY PROGRAM, IN A SANDBOX (cutbox-rows.mjs): the forced cells as the released guide's own fill.sh prints them over the translation 6db061b91aab1730… (all of the seat's roots in one cut). By AI agents, Wed Nov 11 2026. No macro, syntax, notation, axiom, sorry.
-/
import Derived.Test.YtclkokkppgchfaaChecked
import GoSem.Claim
import GoSem.ClaimJoined
import GoSem.ClaimMapViews
import Derived.JoinedTies
import Derived.KernelRfl
namespace Go.Proofs.Ytclkokkppgchfaa
/- THE CELL 'sum', in the pinned program and in every row, IS THE sha256 OF THE DUMP (.gsa) THAT YtclkokkppgchfaaProg.lean LOADS. Nothing in Lean hashes anything: it is a label: what it is worth is what the hold of that sum in a sandbox is worth. -/
noncomputable def Try.pinned : Pinned := { name := "ytclkokkppgchfaa", sum := "6db061b91aab173055caf0e68c46525da6ce5f86e668e439ffaabbfc4f129548", checked := Try.checked }
namespace Rows
def none {H : Type} : Left H := { results := [], args := [] }

/-- 'madrigallaw27.NegoPlaces': WHATEVER THE INPUT: true; the input reads as it did. -/
def negoPlacesSpec : ChangeSpec := { name := "negoPlaces", fn := fun _ => fun
  | [d1, d2, d3, d4] => { results := [.lit (.bool true)], args := [d1, d2, d3, d4] }
  | _ => none }
def negoPlacesRow : OpenClaim := { program := "ytclkokkppgchfaa", sum := "6db061b91aab173055caf0e68c46525da6ce5f86e668e439ffaabbfc4f129548", func := "madrigal/madrigallaw27.NegoPlaces", spec := "negoPlaces", unfollowed := true, recurses := true, apart := false }
def NegoPlacesSaid : Prop := negoPlacesRow.holds Try.pinned (OpenSpec.ofChange negoPlacesSpec)

/-- ITS FALSE NEIGHBOUR: 'it returns false'. Refute it at one input. -/
def negoPlacesWrong : ChangeSpec := { name := "negoPlaces", fn := fun _ => fun
  | [d1, d2, d3, d4] => { results := [.lit (.bool false)], args := [d1, d2, d3, d4] }
  | _ => none }
def NegoPlacesWrongFalsely : Prop := negoPlacesRow.holds Try.pinned (OpenSpec.ofChange negoPlacesWrong)

/-- 'madrigallaw27.NegoNets': WHATEVER THE INPUT: true; the input reads as it did. -/
def negoNetsSpec : ChangeSpec := { name := "negoNets", fn := fun _ => fun
  | [d1, d2, d3, d4] => { results := [.lit (.bool true)], args := [d1, d2, d3, d4] }
  | _ => none }
def negoNetsRow : OpenClaim := { program := "ytclkokkppgchfaa", sum := "6db061b91aab173055caf0e68c46525da6ce5f86e668e439ffaabbfc4f129548", func := "madrigal/madrigallaw27.NegoNets", spec := "negoNets", unfollowed := true, recurses := true, apart := false }
def NegoNetsSaid : Prop := negoNetsRow.holds Try.pinned (OpenSpec.ofChange negoNetsSpec)

/-- ITS FALSE NEIGHBOUR: 'it returns false'. Refute it at one input. -/
def negoNetsWrong : ChangeSpec := { name := "negoNets", fn := fun _ => fun
  | [d1, d2, d3, d4] => { results := [.lit (.bool false)], args := [d1, d2, d3, d4] }
  | _ => none }
def NegoNetsWrongFalsely : Prop := negoNetsRow.holds Try.pinned (OpenSpec.ofChange negoNetsWrong)

/-- 'madrigallaw27.NegoApart': WHATEVER THE INPUT: true; the input reads as it did. -/
def negoApartSpec : ChangeSpec := { name := "negoApart", fn := fun _ => fun
  | [d1, d2, d3, d4] => { results := [.lit (.bool true)], args := [d1, d2, d3, d4] }
  | _ => none }
def negoApartRow : OpenClaim := { program := "ytclkokkppgchfaa", sum := "6db061b91aab173055caf0e68c46525da6ce5f86e668e439ffaabbfc4f129548", func := "madrigal/madrigallaw27.NegoApart", spec := "negoApart", unfollowed := true, recurses := true, apart := false }
def NegoApartSaid : Prop := negoApartRow.holds Try.pinned (OpenSpec.ofChange negoApartSpec)

/-- ITS FALSE NEIGHBOUR: 'it returns false'. Refute it at one input. -/
def negoApartWrong : ChangeSpec := { name := "negoApart", fn := fun _ => fun
  | [d1, d2, d3, d4] => { results := [.lit (.bool false)], args := [d1, d2, d3, d4] }
  | _ => none }
def NegoApartWrongFalsely : Prop := negoApartRow.holds Try.pinned (OpenSpec.ofChange negoApartWrong)

/-- 'madrigallaw27.NegoCircle': WHATEVER THE INPUT: true; the input reads as it did. -/
def negoCircleSpec : ChangeSpec := { name := "negoCircle", fn := fun _ => fun
  | [d] => { results := [.lit (.bool true)], args := [d] }
  | _ => none }
def negoCircleRow : OpenClaim := { program := "ytclkokkppgchfaa", sum := "6db061b91aab173055caf0e68c46525da6ce5f86e668e439ffaabbfc4f129548", func := "madrigal/madrigallaw27.NegoCircle", spec := "negoCircle", unfollowed := true, recurses := true, apart := false }
def NegoCircleSaid : Prop := negoCircleRow.holds Try.pinned (OpenSpec.ofChange negoCircleSpec)

/-- ITS FALSE NEIGHBOUR: 'it returns false'. Refute it at one input. -/
def negoCircleWrong : ChangeSpec := { name := "negoCircle", fn := fun _ => fun
  | [d] => { results := [.lit (.bool false)], args := [d] }
  | _ => none }
def NegoCircleWrongFalsely : Prop := negoCircleRow.holds Try.pinned (OpenSpec.ofChange negoCircleWrong)

/-- 'madrigallaw27.NegoEnough': WHATEVER THE INPUT: true; the input reads as it did. -/
def negoEnoughSpec : ChangeSpec := { name := "negoEnough", fn := fun _ => fun
  | [d] => { results := [.lit (.bool true)], args := [d] }
  | _ => none }
def negoEnoughRow : OpenClaim := { program := "ytclkokkppgchfaa", sum := "6db061b91aab173055caf0e68c46525da6ce5f86e668e439ffaabbfc4f129548", func := "madrigal/madrigallaw27.NegoEnough", spec := "negoEnough", unfollowed := true, recurses := true, apart := false }
def NegoEnoughSaid : Prop := negoEnoughRow.holds Try.pinned (OpenSpec.ofChange negoEnoughSpec)

/-- ITS FALSE NEIGHBOUR: 'it returns false'. Refute it at one input. -/
def negoEnoughWrong : ChangeSpec := { name := "negoEnough", fn := fun _ => fun
  | [d] => { results := [.lit (.bool false)], args := [d] }
  | _ => none }
def NegoEnoughWrongFalsely : Prop := negoEnoughRow.holds Try.pinned (OpenSpec.ofChange negoEnoughWrong)

/-- 'madrigallaw27.NegoFree': WHATEVER THE INPUT: true; the input reads as it did. -/
def negoFreeSpec : ChangeSpec := { name := "negoFree", fn := fun _ => fun
  | [d1, d2] => { results := [.lit (.bool true)], args := [d1, d2] }
  | _ => none }
def negoFreeRow : OpenClaim := { program := "ytclkokkppgchfaa", sum := "6db061b91aab173055caf0e68c46525da6ce5f86e668e439ffaabbfc4f129548", func := "madrigal/madrigallaw27.NegoFree", spec := "negoFree", unfollowed := true, recurses := true, apart := false }
def NegoFreeSaid : Prop := negoFreeRow.holds Try.pinned (OpenSpec.ofChange negoFreeSpec)

/-- ITS FALSE NEIGHBOUR: 'it returns false'. Refute it at one input. -/
def negoFreeWrong : ChangeSpec := { name := "negoFree", fn := fun _ => fun
  | [d1, d2] => { results := [.lit (.bool false)], args := [d1, d2] }
  | _ => none }
def NegoFreeWrongFalsely : Prop := negoFreeRow.holds Try.pinned (OpenSpec.ofChange negoFreeWrong)

/-- 'madrigallaw27.NegoOne': WHATEVER THE INPUT: true; the input reads as it did. -/
def negoOneSpec : ChangeSpec := { name := "negoOne", fn := fun _ => fun
  | [d] => { results := [.lit (.bool true)], args := [d] }
  | _ => none }
def negoOneRow : OpenClaim := { program := "ytclkokkppgchfaa", sum := "6db061b91aab173055caf0e68c46525da6ce5f86e668e439ffaabbfc4f129548", func := "madrigal/madrigallaw27.NegoOne", spec := "negoOne", unfollowed := true, recurses := true, apart := false }
def NegoOneSaid : Prop := negoOneRow.holds Try.pinned (OpenSpec.ofChange negoOneSpec)

/-- ITS FALSE NEIGHBOUR: 'it returns false'. Refute it at one input. -/
def negoOneWrong : ChangeSpec := { name := "negoOne", fn := fun _ => fun
  | [d] => { results := [.lit (.bool false)], args := [d] }
  | _ => none }
def NegoOneWrongFalsely : Prop := negoOneRow.holds Try.pinned (OpenSpec.ofChange negoOneWrong)

/-- 'madrigallaw27.NegoDropped': WHATEVER THE INPUT: true; the input reads as it did. -/
def negoDroppedSpec : ChangeSpec := { name := "negoDropped", fn := fun _ => fun
  | [d1, d2, d3] => { results := [.lit (.bool true)], args := [d1, d2, d3] }
  | _ => none }
def negoDroppedRow : OpenClaim := { program := "ytclkokkppgchfaa", sum := "6db061b91aab173055caf0e68c46525da6ce5f86e668e439ffaabbfc4f129548", func := "madrigal/madrigallaw27.NegoDropped", spec := "negoDropped", unfollowed := true, recurses := true, apart := false }
def NegoDroppedSaid : Prop := negoDroppedRow.holds Try.pinned (OpenSpec.ofChange negoDroppedSpec)

/-- ITS FALSE NEIGHBOUR: 'it returns false'. Refute it at one input. -/
def negoDroppedWrong : ChangeSpec := { name := "negoDropped", fn := fun _ => fun
  | [d1, d2, d3] => { results := [.lit (.bool false)], args := [d1, d2, d3] }
  | _ => none }
def NegoDroppedWrongFalsely : Prop := negoDroppedRow.holds Try.pinned (OpenSpec.ofChange negoDroppedWrong)

/-- 'madrigallaw27.NegoProgress': WHATEVER THE INPUT: true; the input reads as it did. -/
def negoProgressSpec : ChangeSpec := { name := "negoProgress", fn := fun _ => fun
  | [d1, d2, d3] => { results := [.lit (.bool true)], args := [d1, d2, d3] }
  | _ => none }
def negoProgressRow : OpenClaim := { program := "ytclkokkppgchfaa", sum := "6db061b91aab173055caf0e68c46525da6ce5f86e668e439ffaabbfc4f129548", func := "madrigal/madrigallaw27.NegoProgress", spec := "negoProgress", unfollowed := true, recurses := true, apart := false }
def NegoProgressSaid : Prop := negoProgressRow.holds Try.pinned (OpenSpec.ofChange negoProgressSpec)

/-- ITS FALSE NEIGHBOUR: 'it returns false'. Refute it at one input. -/
def negoProgressWrong : ChangeSpec := { name := "negoProgress", fn := fun _ => fun
  | [d1, d2, d3] => { results := [.lit (.bool false)], args := [d1, d2, d3] }
  | _ => none }
def NegoProgressWrongFalsely : Prop := negoProgressRow.holds Try.pinned (OpenSpec.ofChange negoProgressWrong)

/-- 'madrigallaw27.NegoSerial': WHATEVER THE INPUT: true; the input reads as it did. -/
def negoSerialSpec : ChangeSpec := { name := "negoSerial", fn := fun _ => fun
  | [d1, d2] => { results := [.lit (.bool true)], args := [d1, d2] }
  | _ => none }
def negoSerialRow : OpenClaim := { program := "ytclkokkppgchfaa", sum := "6db061b91aab173055caf0e68c46525da6ce5f86e668e439ffaabbfc4f129548", func := "madrigal/madrigallaw27.NegoSerial", spec := "negoSerial", unfollowed := true, recurses := true, apart := false }
def NegoSerialSaid : Prop := negoSerialRow.holds Try.pinned (OpenSpec.ofChange negoSerialSpec)

/-- ITS FALSE NEIGHBOUR: 'it returns false'. Refute it at one input. -/
def negoSerialWrong : ChangeSpec := { name := "negoSerial", fn := fun _ => fun
  | [d1, d2] => { results := [.lit (.bool false)], args := [d1, d2] }
  | _ => none }
def NegoSerialWrongFalsely : Prop := negoSerialRow.holds Try.pinned (OpenSpec.ofChange negoSerialWrong)

/-- 'madrigallaw27.NegoAll': WHATEVER THE INPUT: true; the input reads as it did. -/
def negoAllSpec : ChangeSpec := { name := "negoAll", fn := fun _ => fun
  | [d1, d2] => { results := [.lit (.bool true)], args := [d1, d2] }
  | _ => none }
def negoAllRow : OpenClaim := { program := "ytclkokkppgchfaa", sum := "6db061b91aab173055caf0e68c46525da6ce5f86e668e439ffaabbfc4f129548", func := "madrigal/madrigallaw27.NegoAll", spec := "negoAll", unfollowed := true, recurses := true, apart := false }
def NegoAllSaid : Prop := negoAllRow.holds Try.pinned (OpenSpec.ofChange negoAllSpec)

/-- ITS FALSE NEIGHBOUR: 'it returns false'. Refute it at one input. -/
def negoAllWrong : ChangeSpec := { name := "negoAll", fn := fun _ => fun
  | [d1, d2] => { results := [.lit (.bool false)], args := [d1, d2] }
  | _ => none }
def NegoAllWrongFalsely : Prop := negoAllRow.holds Try.pinned (OpenSpec.ofChange negoAllWrong)

/-- 'madrigallaw27.NegoDoubles': WHATEVER THE INPUT: true; the input reads as it did. -/
def negoDoublesSpec : ChangeSpec := { name := "negoDoubles", fn := fun _ => fun
  | [d1, d2] => { results := [.lit (.bool true)], args := [d1, d2] }
  | _ => none }
def negoDoublesRow : OpenClaim := { program := "ytclkokkppgchfaa", sum := "6db061b91aab173055caf0e68c46525da6ce5f86e668e439ffaabbfc4f129548", func := "madrigal/madrigallaw27.NegoDoubles", spec := "negoDoubles", unfollowed := true, recurses := true, apart := false }
def NegoDoublesSaid : Prop := negoDoublesRow.holds Try.pinned (OpenSpec.ofChange negoDoublesSpec)

/-- ITS FALSE NEIGHBOUR: 'it returns false'. Refute it at one input. -/
def negoDoublesWrong : ChangeSpec := { name := "negoDoubles", fn := fun _ => fun
  | [d1, d2] => { results := [.lit (.bool false)], args := [d1, d2] }
  | _ => none }
def NegoDoublesWrongFalsely : Prop := negoDoublesRow.holds Try.pinned (OpenSpec.ofChange negoDoublesWrong)

/-- 'madrigallaw27.NegoMoment': WHATEVER THE INPUT: true; the input reads as it did. -/
def negoMomentSpec : ChangeSpec := { name := "negoMoment", fn := fun _ => fun
  | [d] => { results := [.lit (.bool true)], args := [d] }
  | _ => none }
def negoMomentRow : OpenClaim := { program := "ytclkokkppgchfaa", sum := "6db061b91aab173055caf0e68c46525da6ce5f86e668e439ffaabbfc4f129548", func := "madrigal/madrigallaw27.NegoMoment", spec := "negoMoment", unfollowed := true, recurses := true, apart := false }
def NegoMomentSaid : Prop := negoMomentRow.holds Try.pinned (OpenSpec.ofChange negoMomentSpec)

/-- ITS FALSE NEIGHBOUR: 'it returns false'. Refute it at one input. -/
def negoMomentWrong : ChangeSpec := { name := "negoMoment", fn := fun _ => fun
  | [d] => { results := [.lit (.bool false)], args := [d] }
  | _ => none }
def NegoMomentWrongFalsely : Prop := negoMomentRow.holds Try.pinned (OpenSpec.ofChange negoMomentWrong)

/- THE SECOND FORM. 'bulk': how many values and letters a reading holds, each counted each time it is reached (what is shared counts as often as it is met; a slice's spare places count too). A statement '..UptoSaid' is the law's where the arguments, and the package variables that the reading takes, are together of bulk at most 1048576: NARROWER than '..Said'. Prove '..Said' where nothing that the law and all that it calls make is longer than what came in: it says more and counts as full. Else prove '..UptoSaid'. A law counts once. -/
mutual
def uptoBulk {H : Type} : DataW H → Nat
  | .lit (.string bytes) => bytes.length + 1
  | .lit _ => 1
  | .nil => 1
  | .ptr d => uptoBulk d + 1
  | .slice elems spare => uptoBulkAll elems + uptoBulkAll spare + 1
  | .agg parts => uptoBulkAll parts + 1
  | .iface _ d => uptoBulk d + 1
  | .map entries => uptoBulkEntries entries + 1
  | .held _ => 1
def uptoBulkAll {H : Type} : List (DataW H) → Nat
  | [] => 0
  | d :: r => uptoBulk d + uptoBulkAll r
def uptoBulkEntries {H : Type} : List (Lit × DataW H) → Nat
  | [] => 0
  | x :: r => uptoBulkEntry x + uptoBulkEntries r
def uptoBulkEntry {H : Type} : Lit × DataW H → Nat
  | (.string bytes, d) => bytes.length + uptoBulk d + 1
  | (_, d) => uptoBulk d + 1
 end
def uptoSmall : (H : Type) → List (DataW H) → Bool := fun _ ds => decide (uptoBulkAll ds ≤ 1048576)
def OpenSpec.upto (s : _root_.Go.ChangeSpec) : _root_.Go.OpenSpec := { _root_.Go.OpenSpec.ofChange s with cond := some uptoSmall }

/-- 'madrigallaw27.NegoPlaces', WHERE WHAT IT READS IS OF BULK AT MOST 1048576: true; the input reads as it did. -/
def negoPlacesUptoRow : OpenClaim := { program := "ytclkokkppgchfaa", sum := "6db061b91aab173055caf0e68c46525da6ce5f86e668e439ffaabbfc4f129548", func := "madrigal/madrigallaw27.NegoPlaces", spec := "negoPlaces", unfollowed := true, recurses := true, apart := false, narrowed := true }
def NegoPlacesUptoSaid : Prop := negoPlacesUptoRow.holds Try.pinned (OpenSpec.upto negoPlacesSpec)

/-- 'madrigallaw27.NegoNets', WHERE WHAT IT READS IS OF BULK AT MOST 1048576: true; the input reads as it did. -/
def negoNetsUptoRow : OpenClaim := { program := "ytclkokkppgchfaa", sum := "6db061b91aab173055caf0e68c46525da6ce5f86e668e439ffaabbfc4f129548", func := "madrigal/madrigallaw27.NegoNets", spec := "negoNets", unfollowed := true, recurses := true, apart := false, narrowed := true }
def NegoNetsUptoSaid : Prop := negoNetsUptoRow.holds Try.pinned (OpenSpec.upto negoNetsSpec)

/-- 'madrigallaw27.NegoApart', WHERE WHAT IT READS IS OF BULK AT MOST 1048576: true; the input reads as it did. -/
def negoApartUptoRow : OpenClaim := { program := "ytclkokkppgchfaa", sum := "6db061b91aab173055caf0e68c46525da6ce5f86e668e439ffaabbfc4f129548", func := "madrigal/madrigallaw27.NegoApart", spec := "negoApart", unfollowed := true, recurses := true, apart := false, narrowed := true }
def NegoApartUptoSaid : Prop := negoApartUptoRow.holds Try.pinned (OpenSpec.upto negoApartSpec)

/-- 'madrigallaw27.NegoCircle', WHERE WHAT IT READS IS OF BULK AT MOST 1048576: true; the input reads as it did. -/
def negoCircleUptoRow : OpenClaim := { program := "ytclkokkppgchfaa", sum := "6db061b91aab173055caf0e68c46525da6ce5f86e668e439ffaabbfc4f129548", func := "madrigal/madrigallaw27.NegoCircle", spec := "negoCircle", unfollowed := true, recurses := true, apart := false, narrowed := true }
def NegoCircleUptoSaid : Prop := negoCircleUptoRow.holds Try.pinned (OpenSpec.upto negoCircleSpec)

/-- 'madrigallaw27.NegoEnough', WHERE WHAT IT READS IS OF BULK AT MOST 1048576: true; the input reads as it did. -/
def negoEnoughUptoRow : OpenClaim := { program := "ytclkokkppgchfaa", sum := "6db061b91aab173055caf0e68c46525da6ce5f86e668e439ffaabbfc4f129548", func := "madrigal/madrigallaw27.NegoEnough", spec := "negoEnough", unfollowed := true, recurses := true, apart := false, narrowed := true }
def NegoEnoughUptoSaid : Prop := negoEnoughUptoRow.holds Try.pinned (OpenSpec.upto negoEnoughSpec)

/-- 'madrigallaw27.NegoFree', WHERE WHAT IT READS IS OF BULK AT MOST 1048576: true; the input reads as it did. -/
def negoFreeUptoRow : OpenClaim := { program := "ytclkokkppgchfaa", sum := "6db061b91aab173055caf0e68c46525da6ce5f86e668e439ffaabbfc4f129548", func := "madrigal/madrigallaw27.NegoFree", spec := "negoFree", unfollowed := true, recurses := true, apart := false, narrowed := true }
def NegoFreeUptoSaid : Prop := negoFreeUptoRow.holds Try.pinned (OpenSpec.upto negoFreeSpec)

/-- 'madrigallaw27.NegoOne', WHERE WHAT IT READS IS OF BULK AT MOST 1048576: true; the input reads as it did. -/
def negoOneUptoRow : OpenClaim := { program := "ytclkokkppgchfaa", sum := "6db061b91aab173055caf0e68c46525da6ce5f86e668e439ffaabbfc4f129548", func := "madrigal/madrigallaw27.NegoOne", spec := "negoOne", unfollowed := true, recurses := true, apart := false, narrowed := true }
def NegoOneUptoSaid : Prop := negoOneUptoRow.holds Try.pinned (OpenSpec.upto negoOneSpec)

/-- 'madrigallaw27.NegoDropped', WHERE WHAT IT READS IS OF BULK AT MOST 1048576: true; the input reads as it did. -/
def negoDroppedUptoRow : OpenClaim := { program := "ytclkokkppgchfaa", sum := "6db061b91aab173055caf0e68c46525da6ce5f86e668e439ffaabbfc4f129548", func := "madrigal/madrigallaw27.NegoDropped", spec := "negoDropped", unfollowed := true, recurses := true, apart := false, narrowed := true }
def NegoDroppedUptoSaid : Prop := negoDroppedUptoRow.holds Try.pinned (OpenSpec.upto negoDroppedSpec)

/-- 'madrigallaw27.NegoProgress', WHERE WHAT IT READS IS OF BULK AT MOST 1048576: true; the input reads as it did. -/
def negoProgressUptoRow : OpenClaim := { program := "ytclkokkppgchfaa", sum := "6db061b91aab173055caf0e68c46525da6ce5f86e668e439ffaabbfc4f129548", func := "madrigal/madrigallaw27.NegoProgress", spec := "negoProgress", unfollowed := true, recurses := true, apart := false, narrowed := true }
def NegoProgressUptoSaid : Prop := negoProgressUptoRow.holds Try.pinned (OpenSpec.upto negoProgressSpec)

/-- 'madrigallaw27.NegoSerial', WHERE WHAT IT READS IS OF BULK AT MOST 1048576: true; the input reads as it did. -/
def negoSerialUptoRow : OpenClaim := { program := "ytclkokkppgchfaa", sum := "6db061b91aab173055caf0e68c46525da6ce5f86e668e439ffaabbfc4f129548", func := "madrigal/madrigallaw27.NegoSerial", spec := "negoSerial", unfollowed := true, recurses := true, apart := false, narrowed := true }
def NegoSerialUptoSaid : Prop := negoSerialUptoRow.holds Try.pinned (OpenSpec.upto negoSerialSpec)

/-- 'madrigallaw27.NegoAll', WHERE WHAT IT READS IS OF BULK AT MOST 1048576: true; the input reads as it did. -/
def negoAllUptoRow : OpenClaim := { program := "ytclkokkppgchfaa", sum := "6db061b91aab173055caf0e68c46525da6ce5f86e668e439ffaabbfc4f129548", func := "madrigal/madrigallaw27.NegoAll", spec := "negoAll", unfollowed := true, recurses := true, apart := false, narrowed := true }
def NegoAllUptoSaid : Prop := negoAllUptoRow.holds Try.pinned (OpenSpec.upto negoAllSpec)

/-- 'madrigallaw27.NegoDoubles', WHERE WHAT IT READS IS OF BULK AT MOST 1048576: true; the input reads as it did. -/
def negoDoublesUptoRow : OpenClaim := { program := "ytclkokkppgchfaa", sum := "6db061b91aab173055caf0e68c46525da6ce5f86e668e439ffaabbfc4f129548", func := "madrigal/madrigallaw27.NegoDoubles", spec := "negoDoubles", unfollowed := true, recurses := true, apart := false, narrowed := true }
def NegoDoublesUptoSaid : Prop := negoDoublesUptoRow.holds Try.pinned (OpenSpec.upto negoDoublesSpec)

/-- 'madrigallaw27.NegoMoment', WHERE WHAT IT READS IS OF BULK AT MOST 1048576: true; the input reads as it did. -/
def negoMomentUptoRow : OpenClaim := { program := "ytclkokkppgchfaa", sum := "6db061b91aab173055caf0e68c46525da6ce5f86e668e439ffaabbfc4f129548", func := "madrigal/madrigallaw27.NegoMoment", spec := "negoMoment", unfollowed := true, recurses := true, apart := false, narrowed := true }
def NegoMomentUptoSaid : Prop := negoMomentUptoRow.holds Try.pinned (OpenSpec.upto negoMomentSpec)

end Rows
end Go.Proofs.Ytclkokkppgchfaa
