/-
  No cell of these rows narrows 'for every input' (looked for: loops, veiled, ifaces, maps, wideKeys, modest, calm, conditions, laid).
  DERIVED. THE GIVEN ROWS OF THIS SEAT. 4 by the template 'for every input the law returns true; each argument reads behind the call as it read before'; 0 by the template 'total and deterministic' (their statements: YtemcbhjheebnnaaGreatTotals.lean).
  GIVEN WITH THE SEED: the statements are not yours to turn. If you find one false, say at which input.
  Laid BY PROGRAM, IN A SANDBOX (cutbox-rows.mjs): the forced cells as the released guide's own fill.sh prints them over the translation 2c2ca1080794b855… (all of the seat's roots in one cut). By AI agents, Wed Nov 11 2026. No macro, syntax, notation, axiom, sorry.
-/
import Derived.Test.YtemcbhjheebnnaaGreatChecked
import GoSem.Claim
import GoSem.ClaimJoined
import GoSem.ClaimMapViews
import Derived.JoinedTies
import Derived.KernelRfl
namespace Go.Proofs.YtemcbhjheebnnaaGreat
/- THE CELL 'sum', in the pinned program and in every row, IS THE sha256 OF THE DUMP (.gsa) THAT YtemcbhjheebnnaaGreatProg.lean LOADS. Nothing in Lean hashes anything: it is a label: what it is worth is what the hold of that sum in a sandbox is worth. -/
noncomputable def Tryz.pinned : Pinned := { name := "ytemcbhjheebnnaagreat", sum := "2c2ca1080794b855f97019f414725393d1f2cfa4c6611002940743258ee2f2f5", checked := Tryz.checked }
namespace Rows
def none {H : Type} : Left H := { results := [], args := [] }

/-- 'laws.FnExactModuleDo': WHATEVER THE INPUT: true; the input reads as it did. -/
def fnExactModuleDoSpec : ChangeSpec := { name := "fnExactModuleDo", fn := fun _ => fun
  | [d1, d2] => { results := [.lit (.bool true)], args := [d1, d2] }
  | _ => none }
def fnExactModuleDoRow : OpenClaim := { program := "ytemcbhjheebnnaagreat", sum := "2c2ca1080794b855f97019f414725393d1f2cfa4c6611002940743258ee2f2f5", func := "loop.example/g00655/laws.FnExactModuleDo", spec := "fnExactModuleDo", unfollowed := true, recurses := true, apart := false }
def FnExactModuleDoSaid : Prop := fnExactModuleDoRow.holds Tryz.pinned (OpenSpec.ofChange fnExactModuleDoSpec)

/-- ITS FALSE NEIGHBOUR: 'it returns false'. Refute it at one input. -/
def fnExactModuleDoWrong : ChangeSpec := { name := "fnExactModuleDo", fn := fun _ => fun
  | [d1, d2] => { results := [.lit (.bool false)], args := [d1, d2] }
  | _ => none }
def FnExactModuleDoWrongFalsely : Prop := fnExactModuleDoRow.holds Tryz.pinned (OpenSpec.ofChange fnExactModuleDoWrong)

/-- 'laws.FnExactChainDo': WHATEVER THE INPUT: true; the input reads as it did. -/
def fnExactChainDoSpec : ChangeSpec := { name := "fnExactChainDo", fn := fun _ => fun
  | [d1, d2, d3] => { results := [.lit (.bool true)], args := [d1, d2, d3] }
  | _ => none }
def fnExactChainDoRow : OpenClaim := { program := "ytemcbhjheebnnaagreat", sum := "2c2ca1080794b855f97019f414725393d1f2cfa4c6611002940743258ee2f2f5", func := "loop.example/g00655/laws.FnExactChainDo", spec := "fnExactChainDo", unfollowed := true, recurses := true, apart := false }
def FnExactChainDoSaid : Prop := fnExactChainDoRow.holds Tryz.pinned (OpenSpec.ofChange fnExactChainDoSpec)

/-- ITS FALSE NEIGHBOUR: 'it returns false'. Refute it at one input. -/
def fnExactChainDoWrong : ChangeSpec := { name := "fnExactChainDo", fn := fun _ => fun
  | [d1, d2, d3] => { results := [.lit (.bool false)], args := [d1, d2, d3] }
  | _ => none }
def FnExactChainDoWrongFalsely : Prop := fnExactChainDoRow.holds Tryz.pinned (OpenSpec.ofChange fnExactChainDoWrong)

/-- 'laws.FnChainRight': WHATEVER THE INPUT: true; the input reads as it did. -/
def fnChainRightSpec : ChangeSpec := { name := "fnChainRight", fn := fun _ => fun
  | [d] => { results := [.lit (.bool true)], args := [d] }
  | _ => none }
def fnChainRightRow : OpenClaim := { program := "ytemcbhjheebnnaagreat", sum := "2c2ca1080794b855f97019f414725393d1f2cfa4c6611002940743258ee2f2f5", func := "loop.example/g00655/laws.FnChainRight", spec := "fnChainRight", unfollowed := true, recurses := true, apart := false }
def FnChainRightSaid : Prop := fnChainRightRow.holds Tryz.pinned (OpenSpec.ofChange fnChainRightSpec)

/-- ITS FALSE NEIGHBOUR: 'it returns false'. Refute it at one input. -/
def fnChainRightWrong : ChangeSpec := { name := "fnChainRight", fn := fun _ => fun
  | [d] => { results := [.lit (.bool false)], args := [d] }
  | _ => none }
def FnChainRightWrongFalsely : Prop := fnChainRightRow.holds Tryz.pinned (OpenSpec.ofChange fnChainRightWrong)

/-- 'laws.FnRulesOf': WHATEVER THE INPUT: true; the input reads as it did. -/
def fnRulesOfSpec : ChangeSpec := { name := "fnRulesOf", fn := fun _ => fun
  | [d] => { results := [.lit (.bool true)], args := [d] }
  | _ => none }
def fnRulesOfRow : OpenClaim := { program := "ytemcbhjheebnnaagreat", sum := "2c2ca1080794b855f97019f414725393d1f2cfa4c6611002940743258ee2f2f5", func := "loop.example/g00655/laws.FnRulesOf", spec := "fnRulesOf", unfollowed := true, recurses := true, apart := false }
def FnRulesOfSaid : Prop := fnRulesOfRow.holds Tryz.pinned (OpenSpec.ofChange fnRulesOfSpec)

/-- ITS FALSE NEIGHBOUR: 'it returns false'. Refute it at one input. -/
def fnRulesOfWrong : ChangeSpec := { name := "fnRulesOf", fn := fun _ => fun
  | [d] => { results := [.lit (.bool false)], args := [d] }
  | _ => none }
def FnRulesOfWrongFalsely : Prop := fnRulesOfRow.holds Tryz.pinned (OpenSpec.ofChange fnRulesOfWrong)

/- THE SECOND FORM. 'bulk': how many values and letters a reading holds, each counted each time it is reached (what is shared counts as often as it is met; a slice's spare places count too). A statement '..UptoSaid' is the law's where the arguments, and the package variables that the reading takes, are together of bulk at most 1048576: NARROWER than '..Said'. Prove '..Said' where nothing that the law and all that it calls make is longer than what came in: it says more and counts as full. Else prove '..UptoSaid'. A law counts once. -/
mutual
def uptoBulk {H : Type} : DataW H → Nat
  | .lit (.string bytes) => bytes.length + 1
  | .lit _ => 1
  | .nil => 1
  | .ptr d => uptoBulk d + 1
  | .slice elems spare => uptoBulkAll elems + uptoBulkAll spare + 1
  | .agg parts => uptoBulkAll parts + 1
  | .iface _ d => uptoBulk d + 1
  | .map entries => uptoBulkEntries entries + 1
  | .held _ => 1
def uptoBulkAll {H : Type} : List (DataW H) → Nat
  | [] => 0
  | d :: r => uptoBulk d + uptoBulkAll r
def uptoBulkEntries {H : Type} : List (Lit × DataW H) → Nat
  | [] => 0
  | x :: r => uptoBulkEntry x + uptoBulkEntries r
def uptoBulkEntry {H : Type} : Lit × DataW H → Nat
  | (.string bytes, d) => bytes.length + uptoBulk d + 1
  | (_, d) => uptoBulk d + 1
 end
def uptoSmall : (H : Type) → List (DataW H) → Bool := fun _ ds => decide (uptoBulkAll ds ≤ 1048576)
def OpenSpec.upto (s : _root_.Go.ChangeSpec) : _root_.Go.OpenSpec := { _root_.Go.OpenSpec.ofChange s with cond := some uptoSmall }

/-- 'laws.FnExactModuleDo', WHERE WHAT IT READS IS OF BULK AT MOST 1048576: true; the input reads as it did. -/
def fnExactModuleDoUptoRow : OpenClaim := { program := "ytemcbhjheebnnaagreat", sum := "2c2ca1080794b855f97019f414725393d1f2cfa4c6611002940743258ee2f2f5", func := "loop.example/g00655/laws.FnExactModuleDo", spec := "fnExactModuleDo", unfollowed := true, recurses := true, apart := false, narrowed := true }
def FnExactModuleDoUptoSaid : Prop := fnExactModuleDoUptoRow.holds Tryz.pinned (OpenSpec.upto fnExactModuleDoSpec)

/-- 'laws.FnExactChainDo', WHERE WHAT IT READS IS OF BULK AT MOST 1048576: true; the input reads as it did. -/
def fnExactChainDoUptoRow : OpenClaim := { program := "ytemcbhjheebnnaagreat", sum := "2c2ca1080794b855f97019f414725393d1f2cfa4c6611002940743258ee2f2f5", func := "loop.example/g00655/laws.FnExactChainDo", spec := "fnExactChainDo", unfollowed := true, recurses := true, apart := false, narrowed := true }
def FnExactChainDoUptoSaid : Prop := fnExactChainDoUptoRow.holds Tryz.pinned (OpenSpec.upto fnExactChainDoSpec)

/-- 'laws.FnChainRight', WHERE WHAT IT READS IS OF BULK AT MOST 1048576: true; the input reads as it did. -/
def fnChainRightUptoRow : OpenClaim := { program := "ytemcbhjheebnnaagreat", sum := "2c2ca1080794b855f97019f414725393d1f2cfa4c6611002940743258ee2f2f5", func := "loop.example/g00655/laws.FnChainRight", spec := "fnChainRight", unfollowed := true, recurses := true, apart := false, narrowed := true }
def FnChainRightUptoSaid : Prop := fnChainRightUptoRow.holds Tryz.pinned (OpenSpec.upto fnChainRightSpec)

/-- 'laws.FnRulesOf', WHERE WHAT IT READS IS OF BULK AT MOST 1048576: true; the input reads as it did. -/
def fnRulesOfUptoRow : OpenClaim := { program := "ytemcbhjheebnnaagreat", sum := "2c2ca1080794b855f97019f414725393d1f2cfa4c6611002940743258ee2f2f5", func := "loop.example/g00655/laws.FnRulesOf", spec := "fnRulesOf", unfollowed := true, recurses := true, apart := false, narrowed := true }
def FnRulesOfUptoSaid : Prop := fnRulesOfUptoRow.holds Tryz.pinned (OpenSpec.upto fnRulesOfSpec)

end Rows
end Go.Proofs.YtemcbhjheebnnaaGreat
