/-
  No cell of these rows narrows 'for every input' (looked for: loops, veiled, ifaces, maps, wideKeys, modest, calm, conditions, laid).
  DERIVED. THE GIVEN ROWS OF THIS SEAT. 10 by the template 'for every input the law returns true; each argument reads behind the call as it read before'; 0 by the template 'total and deterministic' (their statements: YtgekiiildobfkaaTotals.lean).
  GIVEN WITH THE SEED: the statements are not yours to turn. If you find one false, say at which input.
  Laid BY PROGRAM, IN A SANDBOX (cutbox-rows.mjs): the forced cells as the released guide's own fill.sh prints them over the translation 55fd506b83125231… (all of the seat's roots in one cut). By AI agents, Wed Nov 11 2026. No macro, syntax, notation, axiom, sorry.
-/
import Derived.Test.YtgekiiildobfkaaChecked
import GoSem.Claim
import GoSem.ClaimJoined
import GoSem.ClaimMapViews
import Derived.JoinedTies
import Derived.KernelRfl
namespace Go.Proofs.Ytgekiiildobfkaa
/- THE CELL 'sum', in the pinned program and in every row, IS THE sha256 OF THE DUMP (.gsa) THAT YtgekiiildobfkaaProg.lean LOADS. Nothing in Lean hashes anything: it is a label: what it is worth is what the hold of that sum in a sandbox is worth. -/
noncomputable def Try.pinned : Pinned := { name := "ytgekiiildobfkaa", sum := "55fd506b831252319414fce51355129decf72cc93099d2c33efa76a84b567724", checked := Try.checked }
namespace Rows
def none {H : Type} : Left H := { results := [], args := [] }

/-- 'waybilllaw20.TimerFirst': WHATEVER THE INPUT: true; the input reads as it did. -/
def timerFirstSpec : ChangeSpec := { name := "timerFirst", fn := fun _ => fun
  | [d1, d2] => { results := [.lit (.bool true)], args := [d1, d2] }
  | _ => none }
def timerFirstRow : OpenClaim := { program := "ytgekiiildobfkaa", sum := "55fd506b831252319414fce51355129decf72cc93099d2c33efa76a84b567724", func := "waybill/waybilllaw20.TimerFirst", spec := "timerFirst", unfollowed := true, recurses := true, apart := false }
def TimerFirstSaid : Prop := timerFirstRow.holds Try.pinned (OpenSpec.ofChange timerFirstSpec)

/-- ITS FALSE NEIGHBOUR: 'it returns false'. Refute it at one input. -/
def timerFirstWrong : ChangeSpec := { name := "timerFirst", fn := fun _ => fun
  | [d1, d2] => { results := [.lit (.bool false)], args := [d1, d2] }
  | _ => none }
def TimerFirstWrongFalsely : Prop := timerFirstRow.holds Try.pinned (OpenSpec.ofChange timerFirstWrong)

/-- 'waybilllaw15.BreakerRuns': WHATEVER THE INPUT: true; the input reads as it did. -/
def breakerRunsSpec : ChangeSpec := { name := "breakerRuns", fn := fun _ => fun
  | [d1, d2] => { results := [.lit (.bool true)], args := [d1, d2] }
  | _ => none }
def breakerRunsRow : OpenClaim := { program := "ytgekiiildobfkaa", sum := "55fd506b831252319414fce51355129decf72cc93099d2c33efa76a84b567724", func := "waybill/waybilllaw15.BreakerRuns", spec := "breakerRuns", unfollowed := true, recurses := true, apart := false }
def BreakerRunsSaid : Prop := breakerRunsRow.holds Try.pinned (OpenSpec.ofChange breakerRunsSpec)

/-- ITS FALSE NEIGHBOUR: 'it returns false'. Refute it at one input. -/
def breakerRunsWrong : ChangeSpec := { name := "breakerRuns", fn := fun _ => fun
  | [d1, d2] => { results := [.lit (.bool false)], args := [d1, d2] }
  | _ => none }
def BreakerRunsWrongFalsely : Prop := breakerRunsRow.holds Try.pinned (OpenSpec.ofChange breakerRunsWrong)

/-- 'waybilllaw20.TimerMay': WHATEVER THE INPUT: true; the input reads as it did. -/
def timerMaySpec : ChangeSpec := { name := "timerMay", fn := fun _ => fun
  | [d1, d2, d3, d4] => { results := [.lit (.bool true)], args := [d1, d2, d3, d4] }
  | _ => none }
def timerMayRow : OpenClaim := { program := "ytgekiiildobfkaa", sum := "55fd506b831252319414fce51355129decf72cc93099d2c33efa76a84b567724", func := "waybill/waybilllaw20.TimerMay", spec := "timerMay", unfollowed := true, recurses := true, apart := false }
def TimerMaySaid : Prop := timerMayRow.holds Try.pinned (OpenSpec.ofChange timerMaySpec)

/-- ITS FALSE NEIGHBOUR: 'it returns false'. Refute it at one input. -/
def timerMayWrong : ChangeSpec := { name := "timerMay", fn := fun _ => fun
  | [d1, d2, d3, d4] => { results := [.lit (.bool false)], args := [d1, d2, d3, d4] }
  | _ => none }
def TimerMayWrongFalsely : Prop := timerMayRow.holds Try.pinned (OpenSpec.ofChange timerMayWrong)

/-- 'waybilllaw27.CallSlow': WHATEVER THE INPUT: true; the input reads as it did. -/
def callSlowSpec : ChangeSpec := { name := "callSlow", fn := fun _ => fun
  | [d1, d2, d3, d4] => { results := [.lit (.bool true)], args := [d1, d2, d3, d4] }
  | _ => none }
def callSlowRow : OpenClaim := { program := "ytgekiiildobfkaa", sum := "55fd506b831252319414fce51355129decf72cc93099d2c33efa76a84b567724", func := "waybill/waybilllaw27.CallSlow", spec := "callSlow", unfollowed := true, recurses := true, apart := false }
def CallSlowSaid : Prop := callSlowRow.holds Try.pinned (OpenSpec.ofChange callSlowSpec)

/-- ITS FALSE NEIGHBOUR: 'it returns false'. Refute it at one input. -/
def callSlowWrong : ChangeSpec := { name := "callSlow", fn := fun _ => fun
  | [d1, d2, d3, d4] => { results := [.lit (.bool false)], args := [d1, d2, d3, d4] }
  | _ => none }
def CallSlowWrongFalsely : Prop := callSlowRow.holds Try.pinned (OpenSpec.ofChange callSlowWrong)

/-- 'waybilllaw27.CallOwn': WHATEVER THE INPUT: true; the input reads as it did. -/
def callOwnSpec : ChangeSpec := { name := "callOwn", fn := fun _ => fun
  | [d1, d2, d3, d4] => { results := [.lit (.bool true)], args := [d1, d2, d3, d4] }
  | _ => none }
def callOwnRow : OpenClaim := { program := "ytgekiiildobfkaa", sum := "55fd506b831252319414fce51355129decf72cc93099d2c33efa76a84b567724", func := "waybill/waybilllaw27.CallOwn", spec := "callOwn", unfollowed := true, recurses := true, apart := false }
def CallOwnSaid : Prop := callOwnRow.holds Try.pinned (OpenSpec.ofChange callOwnSpec)

/-- ITS FALSE NEIGHBOUR: 'it returns false'. Refute it at one input. -/
def callOwnWrong : ChangeSpec := { name := "callOwn", fn := fun _ => fun
  | [d1, d2, d3, d4] => { results := [.lit (.bool false)], args := [d1, d2, d3, d4] }
  | _ => none }
def CallOwnWrongFalsely : Prop := callOwnRow.holds Try.pinned (OpenSpec.ofChange callOwnWrong)

/-- 'waybilllaw27.CallTells': WHATEVER THE INPUT: true; the input reads as it did. -/
def callTellsSpec : ChangeSpec := { name := "callTells", fn := fun _ => fun
  | [d1, d2, d3, d4, d5, d6, d7, d8] => { results := [.lit (.bool true)], args := [d1, d2, d3, d4, d5, d6, d7, d8] }
  | _ => none }
def callTellsRow : OpenClaim := { program := "ytgekiiildobfkaa", sum := "55fd506b831252319414fce51355129decf72cc93099d2c33efa76a84b567724", func := "waybill/waybilllaw27.CallTells", spec := "callTells", unfollowed := true, recurses := true, apart := false }
def CallTellsSaid : Prop := callTellsRow.holds Try.pinned (OpenSpec.ofChange callTellsSpec)

/-- ITS FALSE NEIGHBOUR: 'it returns false'. Refute it at one input. -/
def callTellsWrong : ChangeSpec := { name := "callTells", fn := fun _ => fun
  | [d1, d2, d3, d4, d5, d6, d7, d8] => { results := [.lit (.bool false)], args := [d1, d2, d3, d4, d5, d6, d7, d8] }
  | _ => none }
def CallTellsWrongFalsely : Prop := callTellsRow.holds Try.pinned (OpenSpec.ofChange callTellsWrong)

/-- 'waybilllaw13.SubsetSome': WHATEVER THE INPUT: true; the input reads as it did. -/
def subsetSomeSpec : ChangeSpec := { name := "subsetSome", fn := fun _ => fun
  | [d1, d2, d3, d4] => { results := [.lit (.bool true)], args := [d1, d2, d3, d4] }
  | _ => none }
def subsetSomeRow : OpenClaim := { program := "ytgekiiildobfkaa", sum := "55fd506b831252319414fce51355129decf72cc93099d2c33efa76a84b567724", func := "waybill/waybilllaw13.SubsetSome", spec := "subsetSome", recurses := true, apart := false }
def SubsetSomeSaid : Prop := subsetSomeRow.holds Try.pinned (OpenSpec.ofChange subsetSomeSpec)

/-- ITS FALSE NEIGHBOUR: 'it returns false'. Refute it at one input. -/
def subsetSomeWrong : ChangeSpec := { name := "subsetSome", fn := fun _ => fun
  | [d1, d2, d3, d4] => { results := [.lit (.bool false)], args := [d1, d2, d3, d4] }
  | _ => none }
def SubsetSomeWrongFalsely : Prop := subsetSomeRow.holds Try.pinned (OpenSpec.ofChange subsetSomeWrong)

/-- 'waybilllaw13.SubsetApart': WHATEVER THE INPUT: true; the input reads as it did. -/
def subsetApartSpec : ChangeSpec := { name := "subsetApart", fn := fun _ => fun
  | [d1, d2, d3, d4, d5] => { results := [.lit (.bool true)], args := [d1, d2, d3, d4, d5] }
  | _ => none }
def subsetApartRow : OpenClaim := { program := "ytgekiiildobfkaa", sum := "55fd506b831252319414fce51355129decf72cc93099d2c33efa76a84b567724", func := "waybill/waybilllaw13.SubsetApart", spec := "subsetApart", recurses := true, apart := false }
def SubsetApartSaid : Prop := subsetApartRow.holds Try.pinned (OpenSpec.ofChange subsetApartSpec)

/-- ITS FALSE NEIGHBOUR: 'it returns false'. Refute it at one input. -/
def subsetApartWrong : ChangeSpec := { name := "subsetApart", fn := fun _ => fun
  | [d1, d2, d3, d4, d5] => { results := [.lit (.bool false)], args := [d1, d2, d3, d4, d5] }
  | _ => none }
def SubsetApartWrongFalsely : Prop := subsetApartRow.holds Try.pinned (OpenSpec.ofChange subsetApartWrong)

/-- 'waybilllaw13.SubsetOwn': WHATEVER THE INPUT: true; the input reads as it did. -/
def subsetOwnSpec : ChangeSpec := { name := "subsetOwn", fn := fun _ => fun
  | [d1, d2, d3, d4] => { results := [.lit (.bool true)], args := [d1, d2, d3, d4] }
  | _ => none }
def subsetOwnRow : OpenClaim := { program := "ytgekiiildobfkaa", sum := "55fd506b831252319414fce51355129decf72cc93099d2c33efa76a84b567724", func := "waybill/waybilllaw13.SubsetOwn", spec := "subsetOwn", recurses := true, apart := false }
def SubsetOwnSaid : Prop := subsetOwnRow.holds Try.pinned (OpenSpec.ofChange subsetOwnSpec)

/-- ITS FALSE NEIGHBOUR: 'it returns false'. Refute it at one input. -/
def subsetOwnWrong : ChangeSpec := { name := "subsetOwn", fn := fun _ => fun
  | [d1, d2, d3, d4] => { results := [.lit (.bool false)], args := [d1, d2, d3, d4] }
  | _ => none }
def SubsetOwnWrongFalsely : Prop := subsetOwnRow.holds Try.pinned (OpenSpec.ofChange subsetOwnWrong)

/-- 'waybilllaw12.RingOrder': WHATEVER THE INPUT: true; the input reads as it did. -/
def ringOrderSpec : ChangeSpec := { name := "ringOrder", fn := fun _ => fun
  | [d1, d2] => { results := [.lit (.bool true)], args := [d1, d2] }
  | _ => none }
def ringOrderRow : OpenClaim := { program := "ytgekiiildobfkaa", sum := "55fd506b831252319414fce51355129decf72cc93099d2c33efa76a84b567724", func := "waybill/waybilllaw12.RingOrder", spec := "ringOrder", unfollowed := true, recurses := true, apart := false }
def RingOrderSaid : Prop := ringOrderRow.holds Try.pinned (OpenSpec.ofChange ringOrderSpec)

/-- ITS FALSE NEIGHBOUR: 'it returns false'. Refute it at one input. -/
def ringOrderWrong : ChangeSpec := { name := "ringOrder", fn := fun _ => fun
  | [d1, d2] => { results := [.lit (.bool false)], args := [d1, d2] }
  | _ => none }
def RingOrderWrongFalsely : Prop := ringOrderRow.holds Try.pinned (OpenSpec.ofChange ringOrderWrong)

/- THE SECOND FORM. 'bulk': how many values and letters a reading holds, each counted each time it is reached (what is shared counts as often as it is met; a slice's spare places count too). A statement '..UptoSaid' is the law's where the arguments, and the package variables that the reading takes, are together of bulk at most 1048576: NARROWER than '..Said'. Prove '..Said' where nothing that the law and all that it calls make is longer than what came in: it says more and counts as full. Else prove '..UptoSaid'. A law counts once. -/
mutual
def uptoBulk {H : Type} : DataW H → Nat
  | .lit (.string bytes) => bytes.length + 1
  | .lit _ => 1
  | .nil => 1
  | .ptr d => uptoBulk d + 1
  | .slice elems spare => uptoBulkAll elems + uptoBulkAll spare + 1
  | .agg parts => uptoBulkAll parts + 1
  | .iface _ d => uptoBulk d + 1
  | .map entries => uptoBulkEntries entries + 1
  | .held _ => 1
def uptoBulkAll {H : Type} : List (DataW H) → Nat
  | [] => 0
  | d :: r => uptoBulk d + uptoBulkAll r
def uptoBulkEntries {H : Type} : List (Lit × DataW H) → Nat
  | [] => 0
  | x :: r => uptoBulkEntry x + uptoBulkEntries r
def uptoBulkEntry {H : Type} : Lit × DataW H → Nat
  | (.string bytes, d) => bytes.length + uptoBulk d + 1
  | (_, d) => uptoBulk d + 1
 end
def uptoSmall : (H : Type) → List (DataW H) → Bool := fun _ ds => decide (uptoBulkAll ds ≤ 1048576)
def OpenSpec.upto (s : _root_.Go.ChangeSpec) : _root_.Go.OpenSpec := { _root_.Go.OpenSpec.ofChange s with cond := some uptoSmall }

/-- 'waybilllaw20.TimerFirst', WHERE WHAT IT READS IS OF BULK AT MOST 1048576: true; the input reads as it did. -/
def timerFirstUptoRow : OpenClaim := { program := "ytgekiiildobfkaa", sum := "55fd506b831252319414fce51355129decf72cc93099d2c33efa76a84b567724", func := "waybill/waybilllaw20.TimerFirst", spec := "timerFirst", unfollowed := true, recurses := true, apart := false, narrowed := true }
def TimerFirstUptoSaid : Prop := timerFirstUptoRow.holds Try.pinned (OpenSpec.upto timerFirstSpec)

/-- 'waybilllaw15.BreakerRuns', WHERE WHAT IT READS IS OF BULK AT MOST 1048576: true; the input reads as it did. -/
def breakerRunsUptoRow : OpenClaim := { program := "ytgekiiildobfkaa", sum := "55fd506b831252319414fce51355129decf72cc93099d2c33efa76a84b567724", func := "waybill/waybilllaw15.BreakerRuns", spec := "breakerRuns", unfollowed := true, recurses := true, apart := false, narrowed := true }
def BreakerRunsUptoSaid : Prop := breakerRunsUptoRow.holds Try.pinned (OpenSpec.upto breakerRunsSpec)

/-- 'waybilllaw20.TimerMay', WHERE WHAT IT READS IS OF BULK AT MOST 1048576: true; the input reads as it did. -/
def timerMayUptoRow : OpenClaim := { program := "ytgekiiildobfkaa", sum := "55fd506b831252319414fce51355129decf72cc93099d2c33efa76a84b567724", func := "waybill/waybilllaw20.TimerMay", spec := "timerMay", unfollowed := true, recurses := true, apart := false, narrowed := true }
def TimerMayUptoSaid : Prop := timerMayUptoRow.holds Try.pinned (OpenSpec.upto timerMaySpec)

/-- 'waybilllaw27.CallSlow', WHERE WHAT IT READS IS OF BULK AT MOST 1048576: true; the input reads as it did. -/
def callSlowUptoRow : OpenClaim := { program := "ytgekiiildobfkaa", sum := "55fd506b831252319414fce51355129decf72cc93099d2c33efa76a84b567724", func := "waybill/waybilllaw27.CallSlow", spec := "callSlow", unfollowed := true, recurses := true, apart := false, narrowed := true }
def CallSlowUptoSaid : Prop := callSlowUptoRow.holds Try.pinned (OpenSpec.upto callSlowSpec)

/-- 'waybilllaw27.CallOwn', WHERE WHAT IT READS IS OF BULK AT MOST 1048576: true; the input reads as it did. -/
def callOwnUptoRow : OpenClaim := { program := "ytgekiiildobfkaa", sum := "55fd506b831252319414fce51355129decf72cc93099d2c33efa76a84b567724", func := "waybill/waybilllaw27.CallOwn", spec := "callOwn", unfollowed := true, recurses := true, apart := false, narrowed := true }
def CallOwnUptoSaid : Prop := callOwnUptoRow.holds Try.pinned (OpenSpec.upto callOwnSpec)

/-- 'waybilllaw27.CallTells', WHERE WHAT IT READS IS OF BULK AT MOST 1048576: true; the input reads as it did. -/
def callTellsUptoRow : OpenClaim := { program := "ytgekiiildobfkaa", sum := "55fd506b831252319414fce51355129decf72cc93099d2c33efa76a84b567724", func := "waybill/waybilllaw27.CallTells", spec := "callTells", unfollowed := true, recurses := true, apart := false, narrowed := true }
def CallTellsUptoSaid : Prop := callTellsUptoRow.holds Try.pinned (OpenSpec.upto callTellsSpec)

/-- 'waybilllaw13.SubsetSome', WHERE WHAT IT READS IS OF BULK AT MOST 1048576: true; the input reads as it did. -/
def subsetSomeUptoRow : OpenClaim := { program := "ytgekiiildobfkaa", sum := "55fd506b831252319414fce51355129decf72cc93099d2c33efa76a84b567724", func := "waybill/waybilllaw13.SubsetSome", spec := "subsetSome", recurses := true, apart := false, narrowed := true }
def SubsetSomeUptoSaid : Prop := subsetSomeUptoRow.holds Try.pinned (OpenSpec.upto subsetSomeSpec)

/-- 'waybilllaw13.SubsetApart', WHERE WHAT IT READS IS OF BULK AT MOST 1048576: true; the input reads as it did. -/
def subsetApartUptoRow : OpenClaim := { program := "ytgekiiildobfkaa", sum := "55fd506b831252319414fce51355129decf72cc93099d2c33efa76a84b567724", func := "waybill/waybilllaw13.SubsetApart", spec := "subsetApart", recurses := true, apart := false, narrowed := true }
def SubsetApartUptoSaid : Prop := subsetApartUptoRow.holds Try.pinned (OpenSpec.upto subsetApartSpec)

/-- 'waybilllaw13.SubsetOwn', WHERE WHAT IT READS IS OF BULK AT MOST 1048576: true; the input reads as it did. -/
def subsetOwnUptoRow : OpenClaim := { program := "ytgekiiildobfkaa", sum := "55fd506b831252319414fce51355129decf72cc93099d2c33efa76a84b567724", func := "waybill/waybilllaw13.SubsetOwn", spec := "subsetOwn", recurses := true, apart := false, narrowed := true }
def SubsetOwnUptoSaid : Prop := subsetOwnUptoRow.holds Try.pinned (OpenSpec.upto subsetOwnSpec)

/-- 'waybilllaw12.RingOrder', WHERE WHAT IT READS IS OF BULK AT MOST 1048576: true; the input reads as it did. -/
def ringOrderUptoRow : OpenClaim := { program := "ytgekiiildobfkaa", sum := "55fd506b831252319414fce51355129decf72cc93099d2c33efa76a84b567724", func := "waybill/waybilllaw12.RingOrder", spec := "ringOrder", unfollowed := true, recurses := true, apart := false, narrowed := true }
def RingOrderUptoSaid : Prop := ringOrderUptoRow.holds Try.pinned (OpenSpec.upto ringOrderSpec)

end Rows
end Go.Proofs.Ytgekiiildobfkaa
