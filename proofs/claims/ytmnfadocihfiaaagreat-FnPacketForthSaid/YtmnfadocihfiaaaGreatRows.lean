/-
  No cell of these rows narrows 'for every input' (looked for: loops, veiled, ifaces, maps, wideKeys, modest, calm, conditions, laid).
  DERIVED. THE GIVEN ROWS OF THIS SEAT. 8 by the template 'for every input the law returns true; each argument reads behind the call as it read before'; 0 by the template 'total and deterministic' (their statements: YtmnfadocihfiaaaGreatTotals.lean).
  GIVEN WITH THE SEED: the statements are not yours to turn. If you find one false, say at which input.
  Laid BY PROGRAM, IN A SANDBOX (cutbox-rows.mjs): the forced cells as the released guide's own fill.sh prints them over the translation a20f86115b556ec0… (all of the seat's roots in one cut). By AI agents, Wed Nov 11 2026. No macro, syntax, notation, axiom, sorry.
-/
import Derived.Test.YtmnfadocihfiaaaGreatChecked
import GoSem.Claim
import GoSem.ClaimJoined
import GoSem.ClaimMapViews
import Derived.JoinedTies
import Derived.KernelRfl
namespace Go.Proofs.YtmnfadocihfiaaaGreat
/- THE CELL 'sum', in the pinned program and in every row, IS THE sha256 OF THE DUMP (.gsa) THAT YtmnfadocihfiaaaGreatProg.lean LOADS. Nothing in Lean hashes anything: it is a label: what it is worth is what the hold of that sum in a sandbox is worth. -/
noncomputable def Tryz.pinned : Pinned := { name := "ytmnfadocihfiaaagreat", sum := "a20f86115b556ec04939239ea68e1eee090aa50f0973b125b3c6c7fc67c277af", checked := Tryz.checked }
namespace Rows
def none {H : Type} : Left H := { results := [], args := [] }

/-- 'laws.FnExactChainAt': WHATEVER THE INPUT: true; the input reads as it did. -/
def fnExactChainAtSpec : ChangeSpec := { name := "fnExactChainAt", fn := fun _ => fun
  | [d1, d2, d3] => { results := [.lit (.bool true)], args := [d1, d2, d3] }
  | _ => none }
def fnExactChainAtRow : OpenClaim := { program := "ytmnfadocihfiaaagreat", sum := "a20f86115b556ec04939239ea68e1eee090aa50f0973b125b3c6c7fc67c277af", func := "loop.example/g00655/laws.FnExactChainAt", spec := "fnExactChainAt", unfollowed := true, recurses := true, plainKeys := false, apart := false }
def FnExactChainAtSaid : Prop := fnExactChainAtRow.holds Tryz.pinned (OpenSpec.ofChange fnExactChainAtSpec)

/-- ITS FALSE NEIGHBOUR: 'it returns false'. Refute it at one input. -/
def fnExactChainAtWrong : ChangeSpec := { name := "fnExactChainAt", fn := fun _ => fun
  | [d1, d2, d3] => { results := [.lit (.bool false)], args := [d1, d2, d3] }
  | _ => none }
def FnExactChainAtWrongFalsely : Prop := fnExactChainAtRow.holds Tryz.pinned (OpenSpec.ofChange fnExactChainAtWrong)

/-- 'laws.FnNatMended': WHATEVER THE INPUT: true; the input reads as it did. -/
def fnNatMendedSpec : ChangeSpec := { name := "fnNatMended", fn := fun _ => fun
  | [d] => { results := [.lit (.bool true)], args := [d] }
  | _ => none }
def fnNatMendedRow : OpenClaim := { program := "ytmnfadocihfiaaagreat", sum := "a20f86115b556ec04939239ea68e1eee090aa50f0973b125b3c6c7fc67c277af", func := "loop.example/g00655/laws.FnNatMended", spec := "fnNatMended", unfollowed := true, recurses := true, plainKeys := false, apart := false }
def FnNatMendedSaid : Prop := fnNatMendedRow.holds Tryz.pinned (OpenSpec.ofChange fnNatMendedSpec)

/-- ITS FALSE NEIGHBOUR: 'it returns false'. Refute it at one input. -/
def fnNatMendedWrong : ChangeSpec := { name := "fnNatMended", fn := fun _ => fun
  | [d] => { results := [.lit (.bool false)], args := [d] }
  | _ => none }
def FnNatMendedWrongFalsely : Prop := fnNatMendedRow.holds Tryz.pinned (OpenSpec.ofChange fnNatMendedWrong)

/-- 'laws.FnExactRulesAt': WHATEVER THE INPUT: true; the input reads as it did. -/
def fnExactRulesAtSpec : ChangeSpec := { name := "fnExactRulesAt", fn := fun _ => fun
  | [d1, d2] => { results := [.lit (.bool true)], args := [d1, d2] }
  | _ => none }
def fnExactRulesAtRow : OpenClaim := { program := "ytmnfadocihfiaaagreat", sum := "a20f86115b556ec04939239ea68e1eee090aa50f0973b125b3c6c7fc67c277af", func := "loop.example/g00655/laws.FnExactRulesAt", spec := "fnExactRulesAt", unfollowed := true, recurses := true, plainKeys := false, apart := false }
def FnExactRulesAtSaid : Prop := fnExactRulesAtRow.holds Tryz.pinned (OpenSpec.ofChange fnExactRulesAtSpec)

/-- ITS FALSE NEIGHBOUR: 'it returns false'. Refute it at one input. -/
def fnExactRulesAtWrong : ChangeSpec := { name := "fnExactRulesAt", fn := fun _ => fun
  | [d1, d2] => { results := [.lit (.bool false)], args := [d1, d2] }
  | _ => none }
def FnExactRulesAtWrongFalsely : Prop := fnExactRulesAtRow.holds Tryz.pinned (OpenSpec.ofChange fnExactRulesAtWrong)

/-- 'laws.FnExactPacketRead': WHATEVER THE INPUT: true; the input reads as it did. -/
def fnExactPacketReadSpec : ChangeSpec := { name := "fnExactPacketRead", fn := fun _ => fun
  | [d] => { results := [.lit (.bool true)], args := [d] }
  | _ => none }
def fnExactPacketReadRow : OpenClaim := { program := "ytmnfadocihfiaaagreat", sum := "a20f86115b556ec04939239ea68e1eee090aa50f0973b125b3c6c7fc67c277af", func := "loop.example/g00655/laws.FnExactPacketRead", spec := "fnExactPacketRead", unfollowed := true, recurses := true, plainKeys := false, apart := false }
def FnExactPacketReadSaid : Prop := fnExactPacketReadRow.holds Tryz.pinned (OpenSpec.ofChange fnExactPacketReadSpec)

/-- ITS FALSE NEIGHBOUR: 'it returns false'. Refute it at one input. -/
def fnExactPacketReadWrong : ChangeSpec := { name := "fnExactPacketRead", fn := fun _ => fun
  | [d] => { results := [.lit (.bool false)], args := [d] }
  | _ => none }
def FnExactPacketReadWrongFalsely : Prop := fnExactPacketReadRow.holds Tryz.pinned (OpenSpec.ofChange fnExactPacketReadWrong)

/-- 'laws.FnPacketForth': WHATEVER THE INPUT: true; the input reads as it did. -/
def fnPacketForthSpec : ChangeSpec := { name := "fnPacketForth", fn := fun _ => fun
  | [d] => { results := [.lit (.bool true)], args := [d] }
  | _ => none }
def fnPacketForthRow : OpenClaim := { program := "ytmnfadocihfiaaagreat", sum := "a20f86115b556ec04939239ea68e1eee090aa50f0973b125b3c6c7fc67c277af", func := "loop.example/g00655/laws.FnPacketForth", spec := "fnPacketForth", unfollowed := true, recurses := true, plainKeys := false, apart := false }
def FnPacketForthSaid : Prop := fnPacketForthRow.holds Tryz.pinned (OpenSpec.ofChange fnPacketForthSpec)

/-- ITS FALSE NEIGHBOUR: 'it returns false'. Refute it at one input. -/
def fnPacketForthWrong : ChangeSpec := { name := "fnPacketForth", fn := fun _ => fun
  | [d] => { results := [.lit (.bool false)], args := [d] }
  | _ => none }
def FnPacketForthWrongFalsely : Prop := fnPacketForthRow.holds Tryz.pinned (OpenSpec.ofChange fnPacketForthWrong)

/-- 'laws.FnExactInOrder': WHATEVER THE INPUT: true; the input reads as it did. -/
def fnExactInOrderSpec : ChangeSpec := { name := "fnExactInOrder", fn := fun _ => fun
  | [d1, d2] => { results := [.lit (.bool true)], args := [d1, d2] }
  | _ => none }
def fnExactInOrderRow : OpenClaim := { program := "ytmnfadocihfiaaagreat", sum := "a20f86115b556ec04939239ea68e1eee090aa50f0973b125b3c6c7fc67c277af", func := "loop.example/g00655/laws.FnExactInOrder", spec := "fnExactInOrder", unfollowed := true, recurses := true, plainKeys := false, apart := false }
def FnExactInOrderSaid : Prop := fnExactInOrderRow.holds Tryz.pinned (OpenSpec.ofChange fnExactInOrderSpec)

/-- ITS FALSE NEIGHBOUR: 'it returns false'. Refute it at one input. -/
def fnExactInOrderWrong : ChangeSpec := { name := "fnExactInOrder", fn := fun _ => fun
  | [d1, d2] => { results := [.lit (.bool false)], args := [d1, d2] }
  | _ => none }
def FnExactInOrderWrongFalsely : Prop := fnExactInOrderRow.holds Tryz.pinned (OpenSpec.ofChange fnExactInOrderWrong)

/-- 'laws.FnBackWay': WHATEVER THE INPUT: true; the input reads as it did. -/
def fnBackWaySpec : ChangeSpec := { name := "fnBackWay", fn := fun _ => fun
  | [d] => { results := [.lit (.bool true)], args := [d] }
  | _ => none }
def fnBackWayRow : OpenClaim := { program := "ytmnfadocihfiaaagreat", sum := "a20f86115b556ec04939239ea68e1eee090aa50f0973b125b3c6c7fc67c277af", func := "loop.example/g00655/laws.FnBackWay", spec := "fnBackWay", unfollowed := true, recurses := true, plainKeys := false, apart := false }
def FnBackWaySaid : Prop := fnBackWayRow.holds Tryz.pinned (OpenSpec.ofChange fnBackWaySpec)

/-- ITS FALSE NEIGHBOUR: 'it returns false'. Refute it at one input. -/
def fnBackWayWrong : ChangeSpec := { name := "fnBackWay", fn := fun _ => fun
  | [d] => { results := [.lit (.bool false)], args := [d] }
  | _ => none }
def FnBackWayWrongFalsely : Prop := fnBackWayRow.holds Tryz.pinned (OpenSpec.ofChange fnBackWayWrong)

/-- 'laws.FnMeters': WHATEVER THE INPUT: true; the input reads as it did. -/
def fnMetersSpec : ChangeSpec := { name := "fnMeters", fn := fun _ => fun
  | [d] => { results := [.lit (.bool true)], args := [d] }
  | _ => none }
def fnMetersRow : OpenClaim := { program := "ytmnfadocihfiaaagreat", sum := "a20f86115b556ec04939239ea68e1eee090aa50f0973b125b3c6c7fc67c277af", func := "loop.example/g00655/laws.FnMeters", spec := "fnMeters", unfollowed := true, recurses := true, plainKeys := false, apart := false }
def FnMetersSaid : Prop := fnMetersRow.holds Tryz.pinned (OpenSpec.ofChange fnMetersSpec)

/-- ITS FALSE NEIGHBOUR: 'it returns false'. Refute it at one input. -/
def fnMetersWrong : ChangeSpec := { name := "fnMeters", fn := fun _ => fun
  | [d] => { results := [.lit (.bool false)], args := [d] }
  | _ => none }
def FnMetersWrongFalsely : Prop := fnMetersRow.holds Tryz.pinned (OpenSpec.ofChange fnMetersWrong)

/- THE SECOND FORM. 'bulk': how many values and letters a reading holds, each counted each time it is reached (what is shared counts as often as it is met; a slice's spare places count too). A statement '..UptoSaid' is the law's where the arguments, and the package variables that the reading takes, are together of bulk at most 1048576: NARROWER than '..Said'. Prove '..Said' where nothing that the law and all that it calls make is longer than what came in: it says more and counts as full. Else prove '..UptoSaid'. A law counts once. -/
mutual
def uptoBulk {H : Type} : DataW H → Nat
  | .lit (.string bytes) => bytes.length + 1
  | .lit _ => 1
  | .nil => 1
  | .ptr d => uptoBulk d + 1
  | .slice elems spare => uptoBulkAll elems + uptoBulkAll spare + 1
  | .agg parts => uptoBulkAll parts + 1
  | .iface _ d => uptoBulk d + 1
  | .map entries => uptoBulkEntries entries + 1
  | .held _ => 1
def uptoBulkAll {H : Type} : List (DataW H) → Nat
  | [] => 0
  | d :: r => uptoBulk d + uptoBulkAll r
def uptoBulkEntries {H : Type} : List (Lit × DataW H) → Nat
  | [] => 0
  | x :: r => uptoBulkEntry x + uptoBulkEntries r
def uptoBulkEntry {H : Type} : Lit × DataW H → Nat
  | (.string bytes, d) => bytes.length + uptoBulk d + 1
  | (_, d) => uptoBulk d + 1
 end
def uptoSmall : (H : Type) → List (DataW H) → Bool := fun _ ds => decide (uptoBulkAll ds ≤ 1048576)
def OpenSpec.upto (s : _root_.Go.ChangeSpec) : _root_.Go.OpenSpec := { _root_.Go.OpenSpec.ofChange s with cond := some uptoSmall }

/-- 'laws.FnExactChainAt', WHERE WHAT IT READS IS OF BULK AT MOST 1048576: true; the input reads as it did. -/
def fnExactChainAtUptoRow : OpenClaim := { program := "ytmnfadocihfiaaagreat", sum := "a20f86115b556ec04939239ea68e1eee090aa50f0973b125b3c6c7fc67c277af", func := "loop.example/g00655/laws.FnExactChainAt", spec := "fnExactChainAt", unfollowed := true, recurses := true, plainKeys := false, apart := false, narrowed := true }
def FnExactChainAtUptoSaid : Prop := fnExactChainAtUptoRow.holds Tryz.pinned (OpenSpec.upto fnExactChainAtSpec)

/-- 'laws.FnNatMended', WHERE WHAT IT READS IS OF BULK AT MOST 1048576: true; the input reads as it did. -/
def fnNatMendedUptoRow : OpenClaim := { program := "ytmnfadocihfiaaagreat", sum := "a20f86115b556ec04939239ea68e1eee090aa50f0973b125b3c6c7fc67c277af", func := "loop.example/g00655/laws.FnNatMended", spec := "fnNatMended", unfollowed := true, recurses := true, plainKeys := false, apart := false, narrowed := true }
def FnNatMendedUptoSaid : Prop := fnNatMendedUptoRow.holds Tryz.pinned (OpenSpec.upto fnNatMendedSpec)

/-- 'laws.FnExactRulesAt', WHERE WHAT IT READS IS OF BULK AT MOST 1048576: true; the input reads as it did. -/
def fnExactRulesAtUptoRow : OpenClaim := { program := "ytmnfadocihfiaaagreat", sum := "a20f86115b556ec04939239ea68e1eee090aa50f0973b125b3c6c7fc67c277af", func := "loop.example/g00655/laws.FnExactRulesAt", spec := "fnExactRulesAt", unfollowed := true, recurses := true, plainKeys := false, apart := false, narrowed := true }
def FnExactRulesAtUptoSaid : Prop := fnExactRulesAtUptoRow.holds Tryz.pinned (OpenSpec.upto fnExactRulesAtSpec)

/-- 'laws.FnExactPacketRead', WHERE WHAT IT READS IS OF BULK AT MOST 1048576: true; the input reads as it did. -/
def fnExactPacketReadUptoRow : OpenClaim := { program := "ytmnfadocihfiaaagreat", sum := "a20f86115b556ec04939239ea68e1eee090aa50f0973b125b3c6c7fc67c277af", func := "loop.example/g00655/laws.FnExactPacketRead", spec := "fnExactPacketRead", unfollowed := true, recurses := true, plainKeys := false, apart := false, narrowed := true }
def FnExactPacketReadUptoSaid : Prop := fnExactPacketReadUptoRow.holds Tryz.pinned (OpenSpec.upto fnExactPacketReadSpec)

/-- 'laws.FnPacketForth', WHERE WHAT IT READS IS OF BULK AT MOST 1048576: true; the input reads as it did. -/
def fnPacketForthUptoRow : OpenClaim := { program := "ytmnfadocihfiaaagreat", sum := "a20f86115b556ec04939239ea68e1eee090aa50f0973b125b3c6c7fc67c277af", func := "loop.example/g00655/laws.FnPacketForth", spec := "fnPacketForth", unfollowed := true, recurses := true, plainKeys := false, apart := false, narrowed := true }
def FnPacketForthUptoSaid : Prop := fnPacketForthUptoRow.holds Tryz.pinned (OpenSpec.upto fnPacketForthSpec)

/-- 'laws.FnExactInOrder', WHERE WHAT IT READS IS OF BULK AT MOST 1048576: true; the input reads as it did. -/
def fnExactInOrderUptoRow : OpenClaim := { program := "ytmnfadocihfiaaagreat", sum := "a20f86115b556ec04939239ea68e1eee090aa50f0973b125b3c6c7fc67c277af", func := "loop.example/g00655/laws.FnExactInOrder", spec := "fnExactInOrder", unfollowed := true, recurses := true, plainKeys := false, apart := false, narrowed := true }
def FnExactInOrderUptoSaid : Prop := fnExactInOrderUptoRow.holds Tryz.pinned (OpenSpec.upto fnExactInOrderSpec)

/-- 'laws.FnBackWay', WHERE WHAT IT READS IS OF BULK AT MOST 1048576: true; the input reads as it did. -/
def fnBackWayUptoRow : OpenClaim := { program := "ytmnfadocihfiaaagreat", sum := "a20f86115b556ec04939239ea68e1eee090aa50f0973b125b3c6c7fc67c277af", func := "loop.example/g00655/laws.FnBackWay", spec := "fnBackWay", unfollowed := true, recurses := true, plainKeys := false, apart := false, narrowed := true }
def FnBackWayUptoSaid : Prop := fnBackWayUptoRow.holds Tryz.pinned (OpenSpec.upto fnBackWaySpec)

/-- 'laws.FnMeters', WHERE WHAT IT READS IS OF BULK AT MOST 1048576: true; the input reads as it did. -/
def fnMetersUptoRow : OpenClaim := { program := "ytmnfadocihfiaaagreat", sum := "a20f86115b556ec04939239ea68e1eee090aa50f0973b125b3c6c7fc67c277af", func := "loop.example/g00655/laws.FnMeters", spec := "fnMeters", unfollowed := true, recurses := true, plainKeys := false, apart := false, narrowed := true }
def FnMetersUptoSaid : Prop := fnMetersUptoRow.holds Tryz.pinned (OpenSpec.upto fnMetersSpec)

end Rows
end Go.Proofs.YtmnfadocihfiaaaGreat
