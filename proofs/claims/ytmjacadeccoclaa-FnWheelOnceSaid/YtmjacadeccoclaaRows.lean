/-
  No cell of these rows narrows 'for every input' (looked for: loops, veiled, ifaces, maps, wideKeys, modest, calm, conditions, laid).
  DERIVED. THE GIVEN ROWS OF THIS SEAT. 12 by the template 'for every input the law returns true; each argument reads behind the call as it read before'; 0 by the template 'total and deterministic' (their statements: YtmjacadeccoclaaTotals.lean).
  GIVEN WITH THE SEED: the statements are not yours to turn. If you find one false, say at which input.
  Laid BY PROGRAM, IN A SANDBOX (cutbox-rows.mjs): the forced cells as the released guide's own fill.sh prints them over the translation cf227d9434497049… (all of the seat's roots in one cut). By AI agents, Wed Nov 11 2026. No macro, syntax, notation, axiom, sorry.
-/
import Derived.Test.YtmjacadeccoclaaChecked
import GoSem.Claim
import GoSem.ClaimJoined
import GoSem.ClaimMapViews
import Derived.JoinedTies
import Derived.KernelRfl
namespace Go.Proofs.Ytmjacadeccoclaa
/- THE CELL 'sum', in the pinned program and in every row, IS THE sha256 OF THE DUMP (.gsa) THAT YtmjacadeccoclaaProg.lean LOADS. Nothing in Lean hashes anything: it is a label: what it is worth is what the hold of that sum in a sandbox is worth. -/
noncomputable def Try.pinned : Pinned := { name := "ytmjacadeccoclaa", sum := "cf227d94344970494dc091e5df3399669601c8b0e9cc0c1d967c3a9b0f1f7d30", checked := Try.checked }
namespace Rows
def none {H : Type} : Left H := { results := [], args := [] }

/-- 'laws.FnWheelOnce': WHATEVER THE INPUT: true; the input reads as it did. -/
def fnWheelOnceSpec : ChangeSpec := { name := "fnWheelOnce", fn := fun _ => fun
  | [d] => { results := [.lit (.bool true)], args := [d] }
  | _ => none }
def fnWheelOnceRow : OpenClaim := { program := "ytmjacadeccoclaa", sum := "cf227d94344970494dc091e5df3399669601c8b0e9cc0c1d967c3a9b0f1f7d30", func := "loop.example/g00655/laws.FnWheelOnce", spec := "fnWheelOnce", unfollowed := true, recurses := true, apart := false }
def FnWheelOnceSaid : Prop := fnWheelOnceRow.holds Try.pinned (OpenSpec.ofChange fnWheelOnceSpec)

/-- ITS FALSE NEIGHBOUR: 'it returns false'. Refute it at one input. -/
def fnWheelOnceWrong : ChangeSpec := { name := "fnWheelOnce", fn := fun _ => fun
  | [d] => { results := [.lit (.bool false)], args := [d] }
  | _ => none }
def FnWheelOnceWrongFalsely : Prop := fnWheelOnceRow.holds Try.pinned (OpenSpec.ofChange fnWheelOnceWrong)

/-- 'laws.FnExactLineEnd': WHATEVER THE INPUT: true; the input reads as it did. -/
def fnExactLineEndSpec : ChangeSpec := { name := "fnExactLineEnd", fn := fun _ => fun
  | [d] => { results := [.lit (.bool true)], args := [d] }
  | _ => none }
def fnExactLineEndRow : OpenClaim := { program := "ytmjacadeccoclaa", sum := "cf227d94344970494dc091e5df3399669601c8b0e9cc0c1d967c3a9b0f1f7d30", func := "loop.example/g00655/laws.FnExactLineEnd", spec := "fnExactLineEnd", apart := false }
def FnExactLineEndSaid : Prop := fnExactLineEndRow.holds Try.pinned (OpenSpec.ofChange fnExactLineEndSpec)

/-- ITS FALSE NEIGHBOUR: 'it returns false'. Refute it at one input. -/
def fnExactLineEndWrong : ChangeSpec := { name := "fnExactLineEnd", fn := fun _ => fun
  | [d] => { results := [.lit (.bool false)], args := [d] }
  | _ => none }
def FnExactLineEndWrongFalsely : Prop := fnExactLineEndRow.holds Try.pinned (OpenSpec.ofChange fnExactLineEndWrong)

/-- 'laws.FnWheelTicks': WHATEVER THE INPUT: true; the input reads as it did. -/
def fnWheelTicksSpec : ChangeSpec := { name := "fnWheelTicks", fn := fun _ => fun
  | [d] => { results := [.lit (.bool true)], args := [d] }
  | _ => none }
def fnWheelTicksRow : OpenClaim := { program := "ytmjacadeccoclaa", sum := "cf227d94344970494dc091e5df3399669601c8b0e9cc0c1d967c3a9b0f1f7d30", func := "loop.example/g00655/laws.FnWheelTicks", spec := "fnWheelTicks", unfollowed := true, recurses := true, apart := false }
def FnWheelTicksSaid : Prop := fnWheelTicksRow.holds Try.pinned (OpenSpec.ofChange fnWheelTicksSpec)

/-- ITS FALSE NEIGHBOUR: 'it returns false'. Refute it at one input. -/
def fnWheelTicksWrong : ChangeSpec := { name := "fnWheelTicks", fn := fun _ => fun
  | [d] => { results := [.lit (.bool false)], args := [d] }
  | _ => none }
def FnWheelTicksWrongFalsely : Prop := fnWheelTicksRow.holds Try.pinned (OpenSpec.ofChange fnWheelTicksWrong)

/-- 'laws.FnWheelLast': WHATEVER THE INPUT: true; the input reads as it did. -/
def fnWheelLastSpec : ChangeSpec := { name := "fnWheelLast", fn := fun _ => fun
  | [d] => { results := [.lit (.bool true)], args := [d] }
  | _ => none }
def fnWheelLastRow : OpenClaim := { program := "ytmjacadeccoclaa", sum := "cf227d94344970494dc091e5df3399669601c8b0e9cc0c1d967c3a9b0f1f7d30", func := "loop.example/g00655/laws.FnWheelLast", spec := "fnWheelLast", unfollowed := true, recurses := true, apart := false }
def FnWheelLastSaid : Prop := fnWheelLastRow.holds Try.pinned (OpenSpec.ofChange fnWheelLastSpec)

/-- ITS FALSE NEIGHBOUR: 'it returns false'. Refute it at one input. -/
def fnWheelLastWrong : ChangeSpec := { name := "fnWheelLast", fn := fun _ => fun
  | [d] => { results := [.lit (.bool false)], args := [d] }
  | _ => none }
def FnWheelLastWrongFalsely : Prop := fnWheelLastRow.holds Try.pinned (OpenSpec.ofChange fnWheelLastWrong)

/-- 'laws.FnTimesPlayed': WHATEVER THE INPUT: true; the input reads as it did. -/
def fnTimesPlayedSpec : ChangeSpec := { name := "fnTimesPlayed", fn := fun _ => fun
  | [d] => { results := [.lit (.bool true)], args := [d] }
  | _ => none }
def fnTimesPlayedRow : OpenClaim := { program := "ytmjacadeccoclaa", sum := "cf227d94344970494dc091e5df3399669601c8b0e9cc0c1d967c3a9b0f1f7d30", func := "loop.example/g00655/laws.FnTimesPlayed", spec := "fnTimesPlayed", unfollowed := true, recurses := true, apart := false }
def FnTimesPlayedSaid : Prop := fnTimesPlayedRow.holds Try.pinned (OpenSpec.ofChange fnTimesPlayedSpec)

/-- ITS FALSE NEIGHBOUR: 'it returns false'. Refute it at one input. -/
def fnTimesPlayedWrong : ChangeSpec := { name := "fnTimesPlayed", fn := fun _ => fun
  | [d] => { results := [.lit (.bool false)], args := [d] }
  | _ => none }
def FnTimesPlayedWrongFalsely : Prop := fnTimesPlayedRow.holds Try.pinned (OpenSpec.ofChange fnTimesPlayedWrong)

/-- 'laws.FnLineSplit': WHATEVER THE INPUT: true; the input reads as it did. -/
def fnLineSplitSpec : ChangeSpec := { name := "fnLineSplit", fn := fun _ => fun
  | [d] => { results := [.lit (.bool true)], args := [d] }
  | _ => none }
def fnLineSplitRow : OpenClaim := { program := "ytmjacadeccoclaa", sum := "cf227d94344970494dc091e5df3399669601c8b0e9cc0c1d967c3a9b0f1f7d30", func := "loop.example/g00655/laws.FnLineSplit", spec := "fnLineSplit", apart := false }
def FnLineSplitSaid : Prop := fnLineSplitRow.holds Try.pinned (OpenSpec.ofChange fnLineSplitSpec)

/-- ITS FALSE NEIGHBOUR: 'it returns false'. Refute it at one input. -/
def fnLineSplitWrong : ChangeSpec := { name := "fnLineSplit", fn := fun _ => fun
  | [d] => { results := [.lit (.bool false)], args := [d] }
  | _ => none }
def FnLineSplitWrongFalsely : Prop := fnLineSplitRow.holds Try.pinned (OpenSpec.ofChange fnLineSplitWrong)

/-- 'laws.FnExactWheelRun': WHATEVER THE INPUT: true; the input reads as it did. -/
def fnExactWheelRunSpec : ChangeSpec := { name := "fnExactWheelRun", fn := fun _ => fun
  | [d1, d2] => { results := [.lit (.bool true)], args := [d1, d2] }
  | _ => none }
def fnExactWheelRunRow : OpenClaim := { program := "ytmjacadeccoclaa", sum := "cf227d94344970494dc091e5df3399669601c8b0e9cc0c1d967c3a9b0f1f7d30", func := "loop.example/g00655/laws.FnExactWheelRun", spec := "fnExactWheelRun", unfollowed := true, recurses := true, apart := false }
def FnExactWheelRunSaid : Prop := fnExactWheelRunRow.holds Try.pinned (OpenSpec.ofChange fnExactWheelRunSpec)

/-- ITS FALSE NEIGHBOUR: 'it returns false'. Refute it at one input. -/
def fnExactWheelRunWrong : ChangeSpec := { name := "fnExactWheelRun", fn := fun _ => fun
  | [d1, d2] => { results := [.lit (.bool false)], args := [d1, d2] }
  | _ => none }
def FnExactWheelRunWrongFalsely : Prop := fnExactWheelRunRow.holds Try.pinned (OpenSpec.ofChange fnExactWheelRunWrong)

/-- 'laws.FnExactLineTick': WHATEVER THE INPUT: true; the input reads as it did. -/
def fnExactLineTickSpec : ChangeSpec := { name := "fnExactLineTick", fn := fun _ => fun
  | [d] => { results := [.lit (.bool true)], args := [d] }
  | _ => none }
def fnExactLineTickRow : OpenClaim := { program := "ytmjacadeccoclaa", sum := "cf227d94344970494dc091e5df3399669601c8b0e9cc0c1d967c3a9b0f1f7d30", func := "loop.example/g00655/laws.FnExactLineTick", spec := "fnExactLineTick", apart := false }
def FnExactLineTickSaid : Prop := fnExactLineTickRow.holds Try.pinned (OpenSpec.ofChange fnExactLineTickSpec)

/-- ITS FALSE NEIGHBOUR: 'it returns false'. Refute it at one input. -/
def fnExactLineTickWrong : ChangeSpec := { name := "fnExactLineTick", fn := fun _ => fun
  | [d] => { results := [.lit (.bool false)], args := [d] }
  | _ => none }
def FnExactLineTickWrongFalsely : Prop := fnExactLineTickRow.holds Try.pinned (OpenSpec.ofChange fnExactLineTickWrong)

/-- 'laws.FnLineEnds': WHATEVER THE INPUT: true; the input reads as it did. -/
def fnLineEndsSpec : ChangeSpec := { name := "fnLineEnds", fn := fun _ => fun
  | [d] => { results := [.lit (.bool true)], args := [d] }
  | _ => none }
def fnLineEndsRow : OpenClaim := { program := "ytmjacadeccoclaa", sum := "cf227d94344970494dc091e5df3399669601c8b0e9cc0c1d967c3a9b0f1f7d30", func := "loop.example/g00655/laws.FnLineEnds", spec := "fnLineEnds", apart := false }
def FnLineEndsSaid : Prop := fnLineEndsRow.holds Try.pinned (OpenSpec.ofChange fnLineEndsSpec)

/-- ITS FALSE NEIGHBOUR: 'it returns false'. Refute it at one input. -/
def fnLineEndsWrong : ChangeSpec := { name := "fnLineEnds", fn := fun _ => fun
  | [d] => { results := [.lit (.bool false)], args := [d] }
  | _ => none }
def FnLineEndsWrongFalsely : Prop := fnLineEndsRow.holds Try.pinned (OpenSpec.ofChange fnLineEndsWrong)

/-- 'laws.FnExactLineTimes': WHATEVER THE INPUT: true; the input reads as it did. -/
def fnExactLineTimesSpec : ChangeSpec := { name := "fnExactLineTimes", fn := fun _ => fun
  | [d] => { results := [.lit (.bool true)], args := [d] }
  | _ => none }
def fnExactLineTimesRow : OpenClaim := { program := "ytmjacadeccoclaa", sum := "cf227d94344970494dc091e5df3399669601c8b0e9cc0c1d967c3a9b0f1f7d30", func := "loop.example/g00655/laws.FnExactLineTimes", spec := "fnExactLineTimes", unfollowed := true, recurses := true, apart := false }
def FnExactLineTimesSaid : Prop := fnExactLineTimesRow.holds Try.pinned (OpenSpec.ofChange fnExactLineTimesSpec)

/-- ITS FALSE NEIGHBOUR: 'it returns false'. Refute it at one input. -/
def fnExactLineTimesWrong : ChangeSpec := { name := "fnExactLineTimes", fn := fun _ => fun
  | [d] => { results := [.lit (.bool false)], args := [d] }
  | _ => none }
def FnExactLineTimesWrongFalsely : Prop := fnExactLineTimesRow.holds Try.pinned (OpenSpec.ofChange fnExactLineTimesWrong)

/-- 'laws.FnExactWheelTick': WHATEVER THE INPUT: true; the input reads as it did. -/
def fnExactWheelTickSpec : ChangeSpec := { name := "fnExactWheelTick", fn := fun _ => fun
  | [d] => { results := [.lit (.bool true)], args := [d] }
  | _ => none }
def fnExactWheelTickRow : OpenClaim := { program := "ytmjacadeccoclaa", sum := "cf227d94344970494dc091e5df3399669601c8b0e9cc0c1d967c3a9b0f1f7d30", func := "loop.example/g00655/laws.FnExactWheelTick", spec := "fnExactWheelTick", unfollowed := true, recurses := true, apart := false }
def FnExactWheelTickSaid : Prop := fnExactWheelTickRow.holds Try.pinned (OpenSpec.ofChange fnExactWheelTickSpec)

/-- ITS FALSE NEIGHBOUR: 'it returns false'. Refute it at one input. -/
def fnExactWheelTickWrong : ChangeSpec := { name := "fnExactWheelTick", fn := fun _ => fun
  | [d] => { results := [.lit (.bool false)], args := [d] }
  | _ => none }
def FnExactWheelTickWrongFalsely : Prop := fnExactWheelTickRow.holds Try.pinned (OpenSpec.ofChange fnExactWheelTickWrong)

/-- 'laws.FnExactConfOk': WHATEVER THE INPUT: true; the input reads as it did. -/
def fnExactConfOkSpec : ChangeSpec := { name := "fnExactConfOk", fn := fun _ => fun
  | [d] => { results := [.lit (.bool true)], args := [d] }
  | _ => none }
def fnExactConfOkRow : OpenClaim := { program := "ytmjacadeccoclaa", sum := "cf227d94344970494dc091e5df3399669601c8b0e9cc0c1d967c3a9b0f1f7d30", func := "loop.example/g00655/laws.FnExactConfOk", spec := "fnExactConfOk", unfollowed := true, recurses := true, apart := false }
def FnExactConfOkSaid : Prop := fnExactConfOkRow.holds Try.pinned (OpenSpec.ofChange fnExactConfOkSpec)

/-- ITS FALSE NEIGHBOUR: 'it returns false'. Refute it at one input. -/
def fnExactConfOkWrong : ChangeSpec := { name := "fnExactConfOk", fn := fun _ => fun
  | [d] => { results := [.lit (.bool false)], args := [d] }
  | _ => none }
def FnExactConfOkWrongFalsely : Prop := fnExactConfOkRow.holds Try.pinned (OpenSpec.ofChange fnExactConfOkWrong)

/- THE SECOND FORM. 'bulk': how many values and letters a reading holds, each counted each time it is reached (what is shared counts as often as it is met; a slice's spare places count too). A statement '..UptoSaid' is the law's where the arguments, and the package variables that the reading takes, are together of bulk at most 1048576: NARROWER than '..Said'. Prove '..Said' where nothing that the law and all that it calls make is longer than what came in: it says more and counts as full. Else prove '..UptoSaid'. A law counts once. -/
mutual
def uptoBulk {H : Type} : DataW H → Nat
  | .lit (.string bytes) => bytes.length + 1
  | .lit _ => 1
  | .nil => 1
  | .ptr d => uptoBulk d + 1
  | .slice elems spare => uptoBulkAll elems + uptoBulkAll spare + 1
  | .agg parts => uptoBulkAll parts + 1
  | .iface _ d => uptoBulk d + 1
  | .map entries => uptoBulkEntries entries + 1
  | .held _ => 1
def uptoBulkAll {H : Type} : List (DataW H) → Nat
  | [] => 0
  | d :: r => uptoBulk d + uptoBulkAll r
def uptoBulkEntries {H : Type} : List (Lit × DataW H) → Nat
  | [] => 0
  | x :: r => uptoBulkEntry x + uptoBulkEntries r
def uptoBulkEntry {H : Type} : Lit × DataW H → Nat
  | (.string bytes, d) => bytes.length + uptoBulk d + 1
  | (_, d) => uptoBulk d + 1
 end
def uptoSmall : (H : Type) → List (DataW H) → Bool := fun _ ds => decide (uptoBulkAll ds ≤ 1048576)
def OpenSpec.upto (s : _root_.Go.ChangeSpec) : _root_.Go.OpenSpec := { _root_.Go.OpenSpec.ofChange s with cond := some uptoSmall }

/-- 'laws.FnWheelOnce', WHERE WHAT IT READS IS OF BULK AT MOST 1048576: true; the input reads as it did. -/
def fnWheelOnceUptoRow : OpenClaim := { program := "ytmjacadeccoclaa", sum := "cf227d94344970494dc091e5df3399669601c8b0e9cc0c1d967c3a9b0f1f7d30", func := "loop.example/g00655/laws.FnWheelOnce", spec := "fnWheelOnce", unfollowed := true, recurses := true, apart := false, narrowed := true }
def FnWheelOnceUptoSaid : Prop := fnWheelOnceUptoRow.holds Try.pinned (OpenSpec.upto fnWheelOnceSpec)

/-- 'laws.FnExactLineEnd', WHERE WHAT IT READS IS OF BULK AT MOST 1048576: true; the input reads as it did. -/
def fnExactLineEndUptoRow : OpenClaim := { program := "ytmjacadeccoclaa", sum := "cf227d94344970494dc091e5df3399669601c8b0e9cc0c1d967c3a9b0f1f7d30", func := "loop.example/g00655/laws.FnExactLineEnd", spec := "fnExactLineEnd", apart := false, narrowed := true }
def FnExactLineEndUptoSaid : Prop := fnExactLineEndUptoRow.holds Try.pinned (OpenSpec.upto fnExactLineEndSpec)

/-- 'laws.FnWheelTicks', WHERE WHAT IT READS IS OF BULK AT MOST 1048576: true; the input reads as it did. -/
def fnWheelTicksUptoRow : OpenClaim := { program := "ytmjacadeccoclaa", sum := "cf227d94344970494dc091e5df3399669601c8b0e9cc0c1d967c3a9b0f1f7d30", func := "loop.example/g00655/laws.FnWheelTicks", spec := "fnWheelTicks", unfollowed := true, recurses := true, apart := false, narrowed := true }
def FnWheelTicksUptoSaid : Prop := fnWheelTicksUptoRow.holds Try.pinned (OpenSpec.upto fnWheelTicksSpec)

/-- 'laws.FnWheelLast', WHERE WHAT IT READS IS OF BULK AT MOST 1048576: true; the input reads as it did. -/
def fnWheelLastUptoRow : OpenClaim := { program := "ytmjacadeccoclaa", sum := "cf227d94344970494dc091e5df3399669601c8b0e9cc0c1d967c3a9b0f1f7d30", func := "loop.example/g00655/laws.FnWheelLast", spec := "fnWheelLast", unfollowed := true, recurses := true, apart := false, narrowed := true }
def FnWheelLastUptoSaid : Prop := fnWheelLastUptoRow.holds Try.pinned (OpenSpec.upto fnWheelLastSpec)

/-- 'laws.FnTimesPlayed', WHERE WHAT IT READS IS OF BULK AT MOST 1048576: true; the input reads as it did. -/
def fnTimesPlayedUptoRow : OpenClaim := { program := "ytmjacadeccoclaa", sum := "cf227d94344970494dc091e5df3399669601c8b0e9cc0c1d967c3a9b0f1f7d30", func := "loop.example/g00655/laws.FnTimesPlayed", spec := "fnTimesPlayed", unfollowed := true, recurses := true, apart := false, narrowed := true }
def FnTimesPlayedUptoSaid : Prop := fnTimesPlayedUptoRow.holds Try.pinned (OpenSpec.upto fnTimesPlayedSpec)

/-- 'laws.FnLineSplit', WHERE WHAT IT READS IS OF BULK AT MOST 1048576: true; the input reads as it did. -/
def fnLineSplitUptoRow : OpenClaim := { program := "ytmjacadeccoclaa", sum := "cf227d94344970494dc091e5df3399669601c8b0e9cc0c1d967c3a9b0f1f7d30", func := "loop.example/g00655/laws.FnLineSplit", spec := "fnLineSplit", apart := false, narrowed := true }
def FnLineSplitUptoSaid : Prop := fnLineSplitUptoRow.holds Try.pinned (OpenSpec.upto fnLineSplitSpec)

/-- 'laws.FnExactWheelRun', WHERE WHAT IT READS IS OF BULK AT MOST 1048576: true; the input reads as it did. -/
def fnExactWheelRunUptoRow : OpenClaim := { program := "ytmjacadeccoclaa", sum := "cf227d94344970494dc091e5df3399669601c8b0e9cc0c1d967c3a9b0f1f7d30", func := "loop.example/g00655/laws.FnExactWheelRun", spec := "fnExactWheelRun", unfollowed := true, recurses := true, apart := false, narrowed := true }
def FnExactWheelRunUptoSaid : Prop := fnExactWheelRunUptoRow.holds Try.pinned (OpenSpec.upto fnExactWheelRunSpec)

/-- 'laws.FnExactLineTick', WHERE WHAT IT READS IS OF BULK AT MOST 1048576: true; the input reads as it did. -/
def fnExactLineTickUptoRow : OpenClaim := { program := "ytmjacadeccoclaa", sum := "cf227d94344970494dc091e5df3399669601c8b0e9cc0c1d967c3a9b0f1f7d30", func := "loop.example/g00655/laws.FnExactLineTick", spec := "fnExactLineTick", apart := false, narrowed := true }
def FnExactLineTickUptoSaid : Prop := fnExactLineTickUptoRow.holds Try.pinned (OpenSpec.upto fnExactLineTickSpec)

/-- 'laws.FnLineEnds', WHERE WHAT IT READS IS OF BULK AT MOST 1048576: true; the input reads as it did. -/
def fnLineEndsUptoRow : OpenClaim := { program := "ytmjacadeccoclaa", sum := "cf227d94344970494dc091e5df3399669601c8b0e9cc0c1d967c3a9b0f1f7d30", func := "loop.example/g00655/laws.FnLineEnds", spec := "fnLineEnds", apart := false, narrowed := true }
def FnLineEndsUptoSaid : Prop := fnLineEndsUptoRow.holds Try.pinned (OpenSpec.upto fnLineEndsSpec)

/-- 'laws.FnExactLineTimes', WHERE WHAT IT READS IS OF BULK AT MOST 1048576: true; the input reads as it did. -/
def fnExactLineTimesUptoRow : OpenClaim := { program := "ytmjacadeccoclaa", sum := "cf227d94344970494dc091e5df3399669601c8b0e9cc0c1d967c3a9b0f1f7d30", func := "loop.example/g00655/laws.FnExactLineTimes", spec := "fnExactLineTimes", unfollowed := true, recurses := true, apart := false, narrowed := true }
def FnExactLineTimesUptoSaid : Prop := fnExactLineTimesUptoRow.holds Try.pinned (OpenSpec.upto fnExactLineTimesSpec)

/-- 'laws.FnExactWheelTick', WHERE WHAT IT READS IS OF BULK AT MOST 1048576: true; the input reads as it did. -/
def fnExactWheelTickUptoRow : OpenClaim := { program := "ytmjacadeccoclaa", sum := "cf227d94344970494dc091e5df3399669601c8b0e9cc0c1d967c3a9b0f1f7d30", func := "loop.example/g00655/laws.FnExactWheelTick", spec := "fnExactWheelTick", unfollowed := true, recurses := true, apart := false, narrowed := true }
def FnExactWheelTickUptoSaid : Prop := fnExactWheelTickUptoRow.holds Try.pinned (OpenSpec.upto fnExactWheelTickSpec)

/-- 'laws.FnExactConfOk', WHERE WHAT IT READS IS OF BULK AT MOST 1048576: true; the input reads as it did. -/
def fnExactConfOkUptoRow : OpenClaim := { program := "ytmjacadeccoclaa", sum := "cf227d94344970494dc091e5df3399669601c8b0e9cc0c1d967c3a9b0f1f7d30", func := "loop.example/g00655/laws.FnExactConfOk", spec := "fnExactConfOk", unfollowed := true, recurses := true, apart := false, narrowed := true }
def FnExactConfOkUptoSaid : Prop := fnExactConfOkUptoRow.holds Try.pinned (OpenSpec.upto fnExactConfOkSpec)

end Rows
end Go.Proofs.Ytmjacadeccoclaa
