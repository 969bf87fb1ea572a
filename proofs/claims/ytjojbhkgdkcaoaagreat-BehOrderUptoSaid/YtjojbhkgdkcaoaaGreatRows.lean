/-
  NARROWER THAN 'FOR EVERY INPUT', by the rows' own cells (each row's printed sentence says how): BehInsts: loops · BehUsed: loops · BehOrder: loops · BehTwice: loops · BehValues: loops · BehGates: loops · BehMore: loops · BehCompares: loops · BehPaths: loops · BehLooks: loops · BehChecks: loops.
  DERIVED. THE GIVEN ROWS OF THIS SEAT. 12 by the template 'for every input the law returns true; each argument reads behind the call as it read before'; 0 by the template 'total and deterministic' (their statements: YtjojbhkgdkcaoaaGreatTotals.lean).
  GIVEN WITH THE SEED: the statements are not yours to turn. If you find one false, say at which input.
  Laid BY PROGRAM, IN A SANDBOX (cutbox-rows.mjs): the forced cells as the released guide's own fill.sh prints them over the translation 85881e36dbb991d4… (all of the seat's roots in one cut). By AI agents, Wed Nov 11 2026. No macro, syntax, notation, axiom, sorry.
-/
import Derived.Test.YtjojbhkgdkcaoaaGreatChecked
import GoSem.Claim
import GoSem.ClaimJoined
import GoSem.ClaimMapViews
import Derived.JoinedTies
import Derived.KernelRfl
namespace Go.Proofs.YtjojbhkgdkcaoaaGreat
/- THE CELL 'sum', in the pinned program and in every row, IS THE sha256 OF THE DUMP (.gsa) THAT YtjojbhkgdkcaoaaGreatProg.lean LOADS. Nothing in Lean hashes anything: it is a label: what it is worth is what the hold of that sum in a sandbox is worth. -/
noncomputable def Tryz.pinned : Pinned := { name := "ytjojbhkgdkcaoaagreat", sum := "85881e36dbb991d4935348eb05459b18caaed6fc891d129f2f79a067a0c65366", checked := Tryz.checked }
namespace Rows
def none {H : Type} : Left H := { results := [], args := [] }

/-- 'madrigallaw11.BehInsts': WHATEVER THE INPUT: true; the input reads as it did. -/
def behInstsSpec : ChangeSpec := { name := "behInsts", fn := fun _ => fun
  | [d1, d2, d3, d4] => { results := [.lit (.bool true)], args := [d1, d2, d3, d4] }
  | _ => none }
def behInstsRow : OpenClaim := { program := "ytjojbhkgdkcaoaagreat", sum := "85881e36dbb991d4935348eb05459b18caaed6fc891d129f2f79a067a0c65366", func := "madrigal/madrigallaw11.BehInsts", spec := "behInsts", inPlace := ["internal/bytealg.IndexByteString", "internal/bytealg.IndexString", "internal/bytealg.CountString"], unfollowed := true, recurses := true, named := ["internal/bytealg.MaxLen"], loops := true, apart := false }
def BehInstsSaid : Prop := behInstsRow.holds Tryz.pinned (OpenSpec.ofChange behInstsSpec)

/-- ITS FALSE NEIGHBOUR: 'it returns false'. Refute it at one input. -/
def behInstsWrong : ChangeSpec := { name := "behInsts", fn := fun _ => fun
  | [d1, d2, d3, d4] => { results := [.lit (.bool false)], args := [d1, d2, d3, d4] }
  | _ => none }
def BehInstsWrongFalsely : Prop := behInstsRow.holds Tryz.pinned (OpenSpec.ofChange behInstsWrong)

/-- 'madrigallaw11.BehUsed': WHATEVER THE INPUT: true; the input reads as it did. -/
def behUsedSpec : ChangeSpec := { name := "behUsed", fn := fun _ => fun
  | [d1, d2, d3, d4] => { results := [.lit (.bool true)], args := [d1, d2, d3, d4] }
  | _ => none }
def behUsedRow : OpenClaim := { program := "ytjojbhkgdkcaoaagreat", sum := "85881e36dbb991d4935348eb05459b18caaed6fc891d129f2f79a067a0c65366", func := "madrigal/madrigallaw11.BehUsed", spec := "behUsed", inPlace := ["internal/bytealg.IndexByteString", "internal/bytealg.IndexString", "internal/bytealg.CountString"], unfollowed := true, recurses := true, named := ["internal/bytealg.MaxLen"], loops := true, apart := false }
def BehUsedSaid : Prop := behUsedRow.holds Tryz.pinned (OpenSpec.ofChange behUsedSpec)

/-- ITS FALSE NEIGHBOUR: 'it returns false'. Refute it at one input. -/
def behUsedWrong : ChangeSpec := { name := "behUsed", fn := fun _ => fun
  | [d1, d2, d3, d4] => { results := [.lit (.bool false)], args := [d1, d2, d3, d4] }
  | _ => none }
def BehUsedWrongFalsely : Prop := behUsedRow.holds Tryz.pinned (OpenSpec.ofChange behUsedWrong)

/-- 'madrigallaw11.BehJoined': WHATEVER THE INPUT: true; the input reads as it did. -/
def behJoinedSpec : ChangeSpec := { name := "behJoined", fn := fun _ => fun
  | [d1, d2, d3] => { results := [.lit (.bool true)], args := [d1, d2, d3] }
  | _ => none }
def behJoinedRow : OpenClaim := { program := "ytjojbhkgdkcaoaagreat", sum := "85881e36dbb991d4935348eb05459b18caaed6fc891d129f2f79a067a0c65366", func := "madrigal/madrigallaw11.BehJoined", spec := "behJoined", inPlace := ["internal/bytealg.IndexByteString", "internal/bytealg.IndexString", "internal/bytealg.CountString"], unfollowed := true, recurses := true, named := ["internal/bytealg.MaxLen"], apart := false }
def BehJoinedSaid : Prop := behJoinedRow.holds Tryz.pinned (OpenSpec.ofChange behJoinedSpec)

/-- ITS FALSE NEIGHBOUR: 'it returns false'. Refute it at one input. -/
def behJoinedWrong : ChangeSpec := { name := "behJoined", fn := fun _ => fun
  | [d1, d2, d3] => { results := [.lit (.bool false)], args := [d1, d2, d3] }
  | _ => none }
def BehJoinedWrongFalsely : Prop := behJoinedRow.holds Tryz.pinned (OpenSpec.ofChange behJoinedWrong)

/-- 'madrigallaw11.BehOrder': WHATEVER THE INPUT: true; the input reads as it did. -/
def behOrderSpec : ChangeSpec := { name := "behOrder", fn := fun _ => fun
  | [d1, d2, d3, d4, d5, d6] => { results := [.lit (.bool true)], args := [d1, d2, d3, d4, d5, d6] }
  | _ => none }
def behOrderRow : OpenClaim := { program := "ytjojbhkgdkcaoaagreat", sum := "85881e36dbb991d4935348eb05459b18caaed6fc891d129f2f79a067a0c65366", func := "madrigal/madrigallaw11.BehOrder", spec := "behOrder", inPlace := ["internal/bytealg.IndexByteString", "internal/bytealg.IndexString", "internal/bytealg.CountString"], unfollowed := true, recurses := true, named := ["internal/bytealg.MaxLen"], loops := true, apart := false }
def BehOrderSaid : Prop := behOrderRow.holds Tryz.pinned (OpenSpec.ofChange behOrderSpec)

/-- ITS FALSE NEIGHBOUR: 'it returns false'. Refute it at one input. -/
def behOrderWrong : ChangeSpec := { name := "behOrder", fn := fun _ => fun
  | [d1, d2, d3, d4, d5, d6] => { results := [.lit (.bool false)], args := [d1, d2, d3, d4, d5, d6] }
  | _ => none }
def BehOrderWrongFalsely : Prop := behOrderRow.holds Tryz.pinned (OpenSpec.ofChange behOrderWrong)

/-- 'madrigallaw11.BehTwice': WHATEVER THE INPUT: true; the input reads as it did. -/
def behTwiceSpec : ChangeSpec := { name := "behTwice", fn := fun _ => fun
  | [d1, d2, d3] => { results := [.lit (.bool true)], args := [d1, d2, d3] }
  | _ => none }
def behTwiceRow : OpenClaim := { program := "ytjojbhkgdkcaoaagreat", sum := "85881e36dbb991d4935348eb05459b18caaed6fc891d129f2f79a067a0c65366", func := "madrigal/madrigallaw11.BehTwice", spec := "behTwice", inPlace := ["internal/bytealg.IndexByteString", "internal/bytealg.IndexString", "internal/bytealg.CountString"], unfollowed := true, recurses := true, named := ["internal/bytealg.MaxLen"], loops := true, apart := false }
def BehTwiceSaid : Prop := behTwiceRow.holds Tryz.pinned (OpenSpec.ofChange behTwiceSpec)

/-- ITS FALSE NEIGHBOUR: 'it returns false'. Refute it at one input. -/
def behTwiceWrong : ChangeSpec := { name := "behTwice", fn := fun _ => fun
  | [d1, d2, d3] => { results := [.lit (.bool false)], args := [d1, d2, d3] }
  | _ => none }
def BehTwiceWrongFalsely : Prop := behTwiceRow.holds Tryz.pinned (OpenSpec.ofChange behTwiceWrong)

/-- 'madrigallaw11.BehValues': WHATEVER THE INPUT: true; the input reads as it did. -/
def behValuesSpec : ChangeSpec := { name := "behValues", fn := fun _ => fun
  | [d1, d2, d3, d4, d5] => { results := [.lit (.bool true)], args := [d1, d2, d3, d4, d5] }
  | _ => none }
def behValuesRow : OpenClaim := { program := "ytjojbhkgdkcaoaagreat", sum := "85881e36dbb991d4935348eb05459b18caaed6fc891d129f2f79a067a0c65366", func := "madrigal/madrigallaw11.BehValues", spec := "behValues", inPlace := ["internal/bytealg.IndexByteString", "internal/bytealg.IndexString", "internal/bytealg.CountString"], unfollowed := true, recurses := true, named := ["internal/bytealg.MaxLen"], loops := true, apart := false }
def BehValuesSaid : Prop := behValuesRow.holds Tryz.pinned (OpenSpec.ofChange behValuesSpec)

/-- ITS FALSE NEIGHBOUR: 'it returns false'. Refute it at one input. -/
def behValuesWrong : ChangeSpec := { name := "behValues", fn := fun _ => fun
  | [d1, d2, d3, d4, d5] => { results := [.lit (.bool false)], args := [d1, d2, d3, d4, d5] }
  | _ => none }
def BehValuesWrongFalsely : Prop := behValuesRow.holds Tryz.pinned (OpenSpec.ofChange behValuesWrong)

/-- 'madrigallaw11.BehGates': WHATEVER THE INPUT: true; the input reads as it did. -/
def behGatesSpec : ChangeSpec := { name := "behGates", fn := fun _ => fun
  | [d1, d2, d3, d4, d5, d6, d7] => { results := [.lit (.bool true)], args := [d1, d2, d3, d4, d5, d6, d7] }
  | _ => none }
def behGatesRow : OpenClaim := { program := "ytjojbhkgdkcaoaagreat", sum := "85881e36dbb991d4935348eb05459b18caaed6fc891d129f2f79a067a0c65366", func := "madrigal/madrigallaw11.BehGates", spec := "behGates", inPlace := ["internal/bytealg.IndexByteString", "internal/bytealg.IndexString", "internal/bytealg.CountString"], unfollowed := true, recurses := true, named := ["internal/bytealg.MaxLen"], loops := true, apart := false }
def BehGatesSaid : Prop := behGatesRow.holds Tryz.pinned (OpenSpec.ofChange behGatesSpec)

/-- ITS FALSE NEIGHBOUR: 'it returns false'. Refute it at one input. -/
def behGatesWrong : ChangeSpec := { name := "behGates", fn := fun _ => fun
  | [d1, d2, d3, d4, d5, d6, d7] => { results := [.lit (.bool false)], args := [d1, d2, d3, d4, d5, d6, d7] }
  | _ => none }
def BehGatesWrongFalsely : Prop := behGatesRow.holds Tryz.pinned (OpenSpec.ofChange behGatesWrong)

/-- 'madrigallaw11.BehMore': WHATEVER THE INPUT: true; the input reads as it did. -/
def behMoreSpec : ChangeSpec := { name := "behMore", fn := fun _ => fun
  | [d1, d2, d3, d4, d5] => { results := [.lit (.bool true)], args := [d1, d2, d3, d4, d5] }
  | _ => none }
def behMoreRow : OpenClaim := { program := "ytjojbhkgdkcaoaagreat", sum := "85881e36dbb991d4935348eb05459b18caaed6fc891d129f2f79a067a0c65366", func := "madrigal/madrigallaw11.BehMore", spec := "behMore", inPlace := ["internal/bytealg.IndexByteString", "internal/bytealg.IndexString", "internal/bytealg.CountString"], unfollowed := true, recurses := true, named := ["internal/bytealg.MaxLen"], loops := true, apart := false }
def BehMoreSaid : Prop := behMoreRow.holds Tryz.pinned (OpenSpec.ofChange behMoreSpec)

/-- ITS FALSE NEIGHBOUR: 'it returns false'. Refute it at one input. -/
def behMoreWrong : ChangeSpec := { name := "behMore", fn := fun _ => fun
  | [d1, d2, d3, d4, d5] => { results := [.lit (.bool false)], args := [d1, d2, d3, d4, d5] }
  | _ => none }
def BehMoreWrongFalsely : Prop := behMoreRow.holds Tryz.pinned (OpenSpec.ofChange behMoreWrong)

/-- 'madrigallaw11.BehCompares': WHATEVER THE INPUT: true; the input reads as it did. -/
def behComparesSpec : ChangeSpec := { name := "behCompares", fn := fun _ => fun
  | [d1, d2, d3, d4, d5, d6] => { results := [.lit (.bool true)], args := [d1, d2, d3, d4, d5, d6] }
  | _ => none }
def behComparesRow : OpenClaim := { program := "ytjojbhkgdkcaoaagreat", sum := "85881e36dbb991d4935348eb05459b18caaed6fc891d129f2f79a067a0c65366", func := "madrigal/madrigallaw11.BehCompares", spec := "behCompares", inPlace := ["internal/bytealg.IndexByteString", "internal/bytealg.IndexString", "internal/bytealg.CountString"], unfollowed := true, recurses := true, named := ["internal/bytealg.MaxLen"], loops := true, apart := false }
def BehComparesSaid : Prop := behComparesRow.holds Tryz.pinned (OpenSpec.ofChange behComparesSpec)

/-- ITS FALSE NEIGHBOUR: 'it returns false'. Refute it at one input. -/
def behComparesWrong : ChangeSpec := { name := "behCompares", fn := fun _ => fun
  | [d1, d2, d3, d4, d5, d6] => { results := [.lit (.bool false)], args := [d1, d2, d3, d4, d5, d6] }
  | _ => none }
def BehComparesWrongFalsely : Prop := behComparesRow.holds Tryz.pinned (OpenSpec.ofChange behComparesWrong)

/-- 'madrigallaw11.BehPaths': WHATEVER THE INPUT: true; the input reads as it did. -/
def behPathsSpec : ChangeSpec := { name := "behPaths", fn := fun _ => fun
  | [d1, d2, d3, d4] => { results := [.lit (.bool true)], args := [d1, d2, d3, d4] }
  | _ => none }
def behPathsRow : OpenClaim := { program := "ytjojbhkgdkcaoaagreat", sum := "85881e36dbb991d4935348eb05459b18caaed6fc891d129f2f79a067a0c65366", func := "madrigal/madrigallaw11.BehPaths", spec := "behPaths", inPlace := ["internal/bytealg.IndexByteString", "internal/bytealg.IndexString", "internal/bytealg.CountString"], unfollowed := true, recurses := true, named := ["internal/bytealg.MaxLen"], loops := true, apart := false }
def BehPathsSaid : Prop := behPathsRow.holds Tryz.pinned (OpenSpec.ofChange behPathsSpec)

/-- ITS FALSE NEIGHBOUR: 'it returns false'. Refute it at one input. -/
def behPathsWrong : ChangeSpec := { name := "behPaths", fn := fun _ => fun
  | [d1, d2, d3, d4] => { results := [.lit (.bool false)], args := [d1, d2, d3, d4] }
  | _ => none }
def BehPathsWrongFalsely : Prop := behPathsRow.holds Tryz.pinned (OpenSpec.ofChange behPathsWrong)

/-- 'madrigallaw11.BehLooks': WHATEVER THE INPUT: true; the input reads as it did. -/
def behLooksSpec : ChangeSpec := { name := "behLooks", fn := fun _ => fun
  | [d1, d2, d3, d4] => { results := [.lit (.bool true)], args := [d1, d2, d3, d4] }
  | _ => none }
def behLooksRow : OpenClaim := { program := "ytjojbhkgdkcaoaagreat", sum := "85881e36dbb991d4935348eb05459b18caaed6fc891d129f2f79a067a0c65366", func := "madrigal/madrigallaw11.BehLooks", spec := "behLooks", inPlace := ["internal/bytealg.IndexByteString", "internal/bytealg.IndexString", "internal/bytealg.CountString"], unfollowed := true, recurses := true, named := ["internal/bytealg.MaxLen"], loops := true, apart := false }
def BehLooksSaid : Prop := behLooksRow.holds Tryz.pinned (OpenSpec.ofChange behLooksSpec)

/-- ITS FALSE NEIGHBOUR: 'it returns false'. Refute it at one input. -/
def behLooksWrong : ChangeSpec := { name := "behLooks", fn := fun _ => fun
  | [d1, d2, d3, d4] => { results := [.lit (.bool false)], args := [d1, d2, d3, d4] }
  | _ => none }
def BehLooksWrongFalsely : Prop := behLooksRow.holds Tryz.pinned (OpenSpec.ofChange behLooksWrong)

/-- 'madrigallaw11.BehChecks': WHATEVER THE INPUT: true; the input reads as it did. -/
def behChecksSpec : ChangeSpec := { name := "behChecks", fn := fun _ => fun
  | [d1, d2, d3, d4, d5] => { results := [.lit (.bool true)], args := [d1, d2, d3, d4, d5] }
  | _ => none }
def behChecksRow : OpenClaim := { program := "ytjojbhkgdkcaoaagreat", sum := "85881e36dbb991d4935348eb05459b18caaed6fc891d129f2f79a067a0c65366", func := "madrigal/madrigallaw11.BehChecks", spec := "behChecks", inPlace := ["internal/bytealg.IndexByteString", "internal/bytealg.IndexString", "internal/bytealg.CountString"], unfollowed := true, recurses := true, named := ["internal/bytealg.MaxLen"], loops := true, apart := false }
def BehChecksSaid : Prop := behChecksRow.holds Tryz.pinned (OpenSpec.ofChange behChecksSpec)

/-- ITS FALSE NEIGHBOUR: 'it returns false'. Refute it at one input. -/
def behChecksWrong : ChangeSpec := { name := "behChecks", fn := fun _ => fun
  | [d1, d2, d3, d4, d5] => { results := [.lit (.bool false)], args := [d1, d2, d3, d4, d5] }
  | _ => none }
def BehChecksWrongFalsely : Prop := behChecksRow.holds Tryz.pinned (OpenSpec.ofChange behChecksWrong)

/- THE SECOND FORM. 'bulk': how many values and letters a reading holds, each counted each time it is reached (what is shared counts as often as it is met; a slice's spare places count too). A statement '..UptoSaid' is the law's where the arguments, and the package variables that the reading takes, are together of bulk at most 1048576: NARROWER than '..Said'. Prove '..Said' where nothing that the law and all that it calls make is longer than what came in: it says more and counts as full. Else prove '..UptoSaid'. A law counts once. -/
mutual
def uptoBulk {H : Type} : DataW H → Nat
  | .lit (.string bytes) => bytes.length + 1
  | .lit _ => 1
  | .nil => 1
  | .ptr d => uptoBulk d + 1
  | .slice elems spare => uptoBulkAll elems + uptoBulkAll spare + 1
  | .agg parts => uptoBulkAll parts + 1
  | .iface _ d => uptoBulk d + 1
  | .map entries => uptoBulkEntries entries + 1
  | .held _ => 1
def uptoBulkAll {H : Type} : List (DataW H) → Nat
  | [] => 0
  | d :: r => uptoBulk d + uptoBulkAll r
def uptoBulkEntries {H : Type} : List (Lit × DataW H) → Nat
  | [] => 0
  | x :: r => uptoBulkEntry x + uptoBulkEntries r
def uptoBulkEntry {H : Type} : Lit × DataW H → Nat
  | (.string bytes, d) => bytes.length + uptoBulk d + 1
  | (_, d) => uptoBulk d + 1
 end
def uptoSmall : (H : Type) → List (DataW H) → Bool := fun _ ds => decide (uptoBulkAll ds ≤ 1048576)
def OpenSpec.upto (s : _root_.Go.ChangeSpec) : _root_.Go.OpenSpec := { _root_.Go.OpenSpec.ofChange s with cond := some uptoSmall }

/-- 'madrigallaw11.BehInsts', WHERE WHAT IT READS IS OF BULK AT MOST 1048576: true; the input reads as it did. -/
def behInstsUptoRow : OpenClaim := { program := "ytjojbhkgdkcaoaagreat", sum := "85881e36dbb991d4935348eb05459b18caaed6fc891d129f2f79a067a0c65366", func := "madrigal/madrigallaw11.BehInsts", spec := "behInsts", inPlace := ["internal/bytealg.IndexByteString", "internal/bytealg.IndexString", "internal/bytealg.CountString"], unfollowed := true, recurses := true, named := ["internal/bytealg.MaxLen"], loops := true, apart := false, narrowed := true }
def BehInstsUptoSaid : Prop := behInstsUptoRow.holds Tryz.pinned (OpenSpec.upto behInstsSpec)

/-- 'madrigallaw11.BehUsed', WHERE WHAT IT READS IS OF BULK AT MOST 1048576: true; the input reads as it did. -/
def behUsedUptoRow : OpenClaim := { program := "ytjojbhkgdkcaoaagreat", sum := "85881e36dbb991d4935348eb05459b18caaed6fc891d129f2f79a067a0c65366", func := "madrigal/madrigallaw11.BehUsed", spec := "behUsed", inPlace := ["internal/bytealg.IndexByteString", "internal/bytealg.IndexString", "internal/bytealg.CountString"], unfollowed := true, recurses := true, named := ["internal/bytealg.MaxLen"], loops := true, apart := false, narrowed := true }
def BehUsedUptoSaid : Prop := behUsedUptoRow.holds Tryz.pinned (OpenSpec.upto behUsedSpec)

/-- 'madrigallaw11.BehJoined', WHERE WHAT IT READS IS OF BULK AT MOST 1048576: true; the input reads as it did. -/
def behJoinedUptoRow : OpenClaim := { program := "ytjojbhkgdkcaoaagreat", sum := "85881e36dbb991d4935348eb05459b18caaed6fc891d129f2f79a067a0c65366", func := "madrigal/madrigallaw11.BehJoined", spec := "behJoined", inPlace := ["internal/bytealg.IndexByteString", "internal/bytealg.IndexString", "internal/bytealg.CountString"], unfollowed := true, recurses := true, named := ["internal/bytealg.MaxLen"], apart := false, narrowed := true }
def BehJoinedUptoSaid : Prop := behJoinedUptoRow.holds Tryz.pinned (OpenSpec.upto behJoinedSpec)

/-- 'madrigallaw11.BehOrder', WHERE WHAT IT READS IS OF BULK AT MOST 1048576: true; the input reads as it did. -/
def behOrderUptoRow : OpenClaim := { program := "ytjojbhkgdkcaoaagreat", sum := "85881e36dbb991d4935348eb05459b18caaed6fc891d129f2f79a067a0c65366", func := "madrigal/madrigallaw11.BehOrder", spec := "behOrder", inPlace := ["internal/bytealg.IndexByteString", "internal/bytealg.IndexString", "internal/bytealg.CountString"], unfollowed := true, recurses := true, named := ["internal/bytealg.MaxLen"], loops := true, apart := false, narrowed := true }
def BehOrderUptoSaid : Prop := behOrderUptoRow.holds Tryz.pinned (OpenSpec.upto behOrderSpec)

/-- 'madrigallaw11.BehTwice', WHERE WHAT IT READS IS OF BULK AT MOST 1048576: true; the input reads as it did. -/
def behTwiceUptoRow : OpenClaim := { program := "ytjojbhkgdkcaoaagreat", sum := "85881e36dbb991d4935348eb05459b18caaed6fc891d129f2f79a067a0c65366", func := "madrigal/madrigallaw11.BehTwice", spec := "behTwice", inPlace := ["internal/bytealg.IndexByteString", "internal/bytealg.IndexString", "internal/bytealg.CountString"], unfollowed := true, recurses := true, named := ["internal/bytealg.MaxLen"], loops := true, apart := false, narrowed := true }
def BehTwiceUptoSaid : Prop := behTwiceUptoRow.holds Tryz.pinned (OpenSpec.upto behTwiceSpec)

/-- 'madrigallaw11.BehValues', WHERE WHAT IT READS IS OF BULK AT MOST 1048576: true; the input reads as it did. -/
def behValuesUptoRow : OpenClaim := { program := "ytjojbhkgdkcaoaagreat", sum := "85881e36dbb991d4935348eb05459b18caaed6fc891d129f2f79a067a0c65366", func := "madrigal/madrigallaw11.BehValues", spec := "behValues", inPlace := ["internal/bytealg.IndexByteString", "internal/bytealg.IndexString", "internal/bytealg.CountString"], unfollowed := true, recurses := true, named := ["internal/bytealg.MaxLen"], loops := true, apart := false, narrowed := true }
def BehValuesUptoSaid : Prop := behValuesUptoRow.holds Tryz.pinned (OpenSpec.upto behValuesSpec)

/-- 'madrigallaw11.BehGates', WHERE WHAT IT READS IS OF BULK AT MOST 1048576: true; the input reads as it did. -/
def behGatesUptoRow : OpenClaim := { program := "ytjojbhkgdkcaoaagreat", sum := "85881e36dbb991d4935348eb05459b18caaed6fc891d129f2f79a067a0c65366", func := "madrigal/madrigallaw11.BehGates", spec := "behGates", inPlace := ["internal/bytealg.IndexByteString", "internal/bytealg.IndexString", "internal/bytealg.CountString"], unfollowed := true, recurses := true, named := ["internal/bytealg.MaxLen"], loops := true, apart := false, narrowed := true }
def BehGatesUptoSaid : Prop := behGatesUptoRow.holds Tryz.pinned (OpenSpec.upto behGatesSpec)

/-- 'madrigallaw11.BehMore', WHERE WHAT IT READS IS OF BULK AT MOST 1048576: true; the input reads as it did. -/
def behMoreUptoRow : OpenClaim := { program := "ytjojbhkgdkcaoaagreat", sum := "85881e36dbb991d4935348eb05459b18caaed6fc891d129f2f79a067a0c65366", func := "madrigal/madrigallaw11.BehMore", spec := "behMore", inPlace := ["internal/bytealg.IndexByteString", "internal/bytealg.IndexString", "internal/bytealg.CountString"], unfollowed := true, recurses := true, named := ["internal/bytealg.MaxLen"], loops := true, apart := false, narrowed := true }
def BehMoreUptoSaid : Prop := behMoreUptoRow.holds Tryz.pinned (OpenSpec.upto behMoreSpec)

/-- 'madrigallaw11.BehCompares', WHERE WHAT IT READS IS OF BULK AT MOST 1048576: true; the input reads as it did. -/
def behComparesUptoRow : OpenClaim := { program := "ytjojbhkgdkcaoaagreat", sum := "85881e36dbb991d4935348eb05459b18caaed6fc891d129f2f79a067a0c65366", func := "madrigal/madrigallaw11.BehCompares", spec := "behCompares", inPlace := ["internal/bytealg.IndexByteString", "internal/bytealg.IndexString", "internal/bytealg.CountString"], unfollowed := true, recurses := true, named := ["internal/bytealg.MaxLen"], loops := true, apart := false, narrowed := true }
def BehComparesUptoSaid : Prop := behComparesUptoRow.holds Tryz.pinned (OpenSpec.upto behComparesSpec)

/-- 'madrigallaw11.BehPaths', WHERE WHAT IT READS IS OF BULK AT MOST 1048576: true; the input reads as it did. -/
def behPathsUptoRow : OpenClaim := { program := "ytjojbhkgdkcaoaagreat", sum := "85881e36dbb991d4935348eb05459b18caaed6fc891d129f2f79a067a0c65366", func := "madrigal/madrigallaw11.BehPaths", spec := "behPaths", inPlace := ["internal/bytealg.IndexByteString", "internal/bytealg.IndexString", "internal/bytealg.CountString"], unfollowed := true, recurses := true, named := ["internal/bytealg.MaxLen"], loops := true, apart := false, narrowed := true }
def BehPathsUptoSaid : Prop := behPathsUptoRow.holds Tryz.pinned (OpenSpec.upto behPathsSpec)

/-- 'madrigallaw11.BehLooks', WHERE WHAT IT READS IS OF BULK AT MOST 1048576: true; the input reads as it did. -/
def behLooksUptoRow : OpenClaim := { program := "ytjojbhkgdkcaoaagreat", sum := "85881e36dbb991d4935348eb05459b18caaed6fc891d129f2f79a067a0c65366", func := "madrigal/madrigallaw11.BehLooks", spec := "behLooks", inPlace := ["internal/bytealg.IndexByteString", "internal/bytealg.IndexString", "internal/bytealg.CountString"], unfollowed := true, recurses := true, named := ["internal/bytealg.MaxLen"], loops := true, apart := false, narrowed := true }
def BehLooksUptoSaid : Prop := behLooksUptoRow.holds Tryz.pinned (OpenSpec.upto behLooksSpec)

/-- 'madrigallaw11.BehChecks', WHERE WHAT IT READS IS OF BULK AT MOST 1048576: true; the input reads as it did. -/
def behChecksUptoRow : OpenClaim := { program := "ytjojbhkgdkcaoaagreat", sum := "85881e36dbb991d4935348eb05459b18caaed6fc891d129f2f79a067a0c65366", func := "madrigal/madrigallaw11.BehChecks", spec := "behChecks", inPlace := ["internal/bytealg.IndexByteString", "internal/bytealg.IndexString", "internal/bytealg.CountString"], unfollowed := true, recurses := true, named := ["internal/bytealg.MaxLen"], loops := true, apart := false, narrowed := true }
def BehChecksUptoSaid : Prop := behChecksUptoRow.holds Tryz.pinned (OpenSpec.upto behChecksSpec)

end Rows
end Go.Proofs.YtjojbhkgdkcaoaaGreat
