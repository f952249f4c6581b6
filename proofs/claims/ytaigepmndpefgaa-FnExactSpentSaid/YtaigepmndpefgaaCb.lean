/- Each function is proved to answer as its mirror does. -/
import Derived.Test.YtaigepmndpefgaaMb
import Derived.Test.YtaigepmndpefgaaRows
set_option linter.all false
namespace Go.Tw
open Go Go.RowKit Go.Proofs
def c83 (k : Nat) : Con := ⟨83, [((.sl (.int .u8)), false), ((.int .i64), false)], [(.int .i64)], (.own true), fun x => laws_szByteS x.1 x.2.1⟩
def F83 (k : Nat) : List Con := []
theorem okF83 (k : Nat) : ∀ cn ∈ F83 k, ConOk Try.prog cn := conNil
theorem ev83 (k : Nat) (x) : evF Try.prog (F83 k) (inlN Try.prog (F83 k) 4) [] Try.f83 (bodyOf Try.f83) (c83 k).ps (c83 k).rs (c83 k).rm x = (c83 k).m x := by kernel_rfl
theorem ok83 (k : Nat) : ConOk Try.prog (c83 k) :=
  fn_at (okF83 k) (cn := c83 k) (fn := Try.f83) (code := bodyOf Try.f83) (m := ⟨12, []⟩) (gs := []) (by kernel_rfl) (by kernel_rfl) (by kernel_rfl) (by kernel_rfl) (by kernel_rfl) (fun _ => by kernel_rfl)
    [] (fun c hP hm hg => (LInv.of (code := (bodyOf Try.f83)) (bs := []) (by kernel_rfl) LInv.nil)) (ev83 k)
def c47 (k : Nat) : Con := ⟨47, [(T_Event, false), ((.int .i64), false)], [(.int .i64)], (.own true), fun x => laws_szEvent x.1 x.2.1⟩
def F47 (k : Nat) : List Con := [c83 k]
theorem okF47 (k : Nat) : ∀ cn ∈ F47 k, ConOk Try.prog cn := (conCons (ok83 k) conNil)
theorem ev47 (k : Nat) (x) : evF Try.prog (F47 k) (inlN Try.prog (F47 k) 4) [] Try.f47 (bodyOf Try.f47) (c47 k).ps (c47 k).rs (c47 k).rm x = (c47 k).m x := by kernel_rfl
theorem ok47 (k : Nat) : ConOk Try.prog (c47 k) :=
  fn_at (okF47 k) (cn := c47 k) (fn := Try.f47) (code := bodyOf Try.f47) (m := ⟨12, []⟩) (gs := []) (by kernel_rfl) (by kernel_rfl) (by kernel_rfl) (by kernel_rfl) (by kernel_rfl) (fun _ => by kernel_rfl)
    [] (fun c hP hm hg => (LInv.of (code := (bodyOf Try.f47)) (bs := []) (by kernel_rfl) LInv.nil)) (ev47 k)
def c16 (k : Nat) : Con := ⟨16, [((.sl T_Event), false), ((.int .i64), false)], [(.int .i64)], (.own true), fun x => laws_szEventS k x.1 x.2.1⟩
def F16 (k : Nat) : List Con := [c47 k]
theorem okF16 (k : Nat) : ∀ cn ∈ F16 k, ConOk Try.prog cn := (conCons (ok47 k) conNil)
abbrev S16_5 : Shape := [(0, .v (.sl T_Event)), (1, .v (.int .i64)), (5, .v (.int .i64))]
abbrev X16_5 : Exit × Shape := (Exit.ret, [(4, .v (.int .i64))])
abbrev R16_5 : List (Exit × Shape) := [(Exit.exit 0, [(1, .v (.int .i64))])]
def lo16_5 (k : Nat) : LO := loopO [] [] [] S16_5 X16_5 R16_5 (iter (laws_szEventS_s5) k)
theorem st16_5 (k : Nat) (rec v) : evC Try.prog ⟨27, []⟩ (F16 k) (inlN Try.prog (F16 k) 4) [] (lpAt (bodyOf Try.f16) [0]) (Kb [] [] [] S16_5 X16_5 R16_5 rec) (mkSt [] [] S16_5 v.1 v.2) = (laws_szEventS_s5) rec v := by kernel_rfl
theorem lp16_5 (k : Nat) {c : Cx} (hP : c.P = Try.prog) (hm : c.m = ⟨27, []⟩) (hg : c.gs = []) : LoopOk c (lo16_5 k) (lpAt (bodyOf Try.f16) [0]) :=
  loop_at hP hm hg (okF16 k) (LInv.of (code := (lpAt (bodyOf Try.f16) [0])) (bs := []) (by kernel_rfl) LInv.nil) (fun rec v => st16_5 k rec v) k
theorem ev16 (k : Nat) (x) : evF Try.prog (F16 k) (inlN Try.prog (F16 k) 4) [(5, lo16_5 k)] Try.f16 (bodyOf Try.f16) (c16 k).ps (c16 k).rs (c16 k).rm x = (c16 k).m x := by kernel_rfl
theorem ok16 (k : Nat) : ConOk Try.prog (c16 k) :=
  fn_at (okF16 k) (cn := c16 k) (fn := Try.f16) (code := bodyOf Try.f16) (m := ⟨27, []⟩) (gs := []) (by kernel_rfl) (by kernel_rfl) (by kernel_rfl) (by kernel_rfl) (by kernel_rfl) (fun _ => by kernel_rfl)
    [(5, lo16_5 k)] (fun c hP hm hg => (LInv.of (code := (bodyOf Try.f16)) (bs := [(lpAt (bodyOf Try.f16) [0])]) (by kernel_rfl) (LInv.cons (b := (lpAt (bodyOf Try.f16) [0])) (by kernel_rfl) (lp16_5 k hP hm hg) LInv.nil))) (ev16 k)
def c69 (k : Nat) : Con := ⟨69, [((.sl (.int .i64)), false), ((.int .i64), false)], [(.int .i64)], (.own true), fun x => laws_szIntS x.1 x.2.1⟩
def F69 (k : Nat) : List Con := []
theorem okF69 (k : Nat) : ∀ cn ∈ F69 k, ConOk Try.prog cn := conNil
theorem ev69 (k : Nat) (x) : evF Try.prog (F69 k) (inlN Try.prog (F69 k) 4) [] Try.f69 (bodyOf Try.f69) (c69 k).ps (c69 k).rs (c69 k).rm x = (c69 k).m x := by kernel_rfl
theorem ok69 (k : Nat) : ConOk Try.prog (c69 k) :=
  fn_at (okF69 k) (cn := c69 k) (fn := Try.f69) (code := bodyOf Try.f69) (m := ⟨12, []⟩) (gs := []) (by kernel_rfl) (by kernel_rfl) (by kernel_rfl) (by kernel_rfl) (by kernel_rfl) (fun _ => by kernel_rfl)
    [] (fun c hP hm hg => (LInv.of (code := (bodyOf Try.f69)) (bs := []) (by kernel_rfl) LInv.nil)) (ev69 k)
def c48 (k : Nat) : Con := ⟨48, [(T_Out, false), ((.int .i64), false)], [(.int .i64)], (.own true), fun x => laws_szOut x.1 x.2.1⟩
def F48 (k : Nat) : List Con := [c83 k, c69 k]
theorem okF48 (k : Nat) : ∀ cn ∈ F48 k, ConOk Try.prog cn := (conCons (ok83 k) (conCons (ok69 k) conNil))
theorem ev48 (k : Nat) (x) : evF Try.prog (F48 k) (inlN Try.prog (F48 k) 4) [] Try.f48 (bodyOf Try.f48) (c48 k).ps (c48 k).rs (c48 k).rm x = (c48 k).m x := by kernel_rfl
theorem ok48 (k : Nat) : ConOk Try.prog (c48 k) :=
  fn_at (okF48 k) (cn := c48 k) (fn := Try.f48) (code := bodyOf Try.f48) (m := ⟨18, []⟩) (gs := []) (by kernel_rfl) (by kernel_rfl) (by kernel_rfl) (by kernel_rfl) (by kernel_rfl) (fun _ => by kernel_rfl)
    [] (fun c hP hm hg => (LInv.of (code := (bodyOf Try.f48)) (bs := []) (by kernel_rfl) LInv.nil)) (ev48 k)
def c17 (k : Nat) : Con := ⟨17, [((.sl T_Out), false), ((.int .i64), false)], [(.int .i64)], (.own true), fun x => laws_szOutS k x.1 x.2.1⟩
def F17 (k : Nat) : List Con := [c48 k]
theorem okF17 (k : Nat) : ∀ cn ∈ F17 k, ConOk Try.prog cn := (conCons (ok48 k) conNil)
abbrev S17_5 : Shape := [(0, .v (.sl T_Out)), (1, .v (.int .i64)), (5, .v (.int .i64))]
abbrev X17_5 : Exit × Shape := (Exit.ret, [(4, .v (.int .i64))])
abbrev R17_5 : List (Exit × Shape) := [(Exit.exit 0, [(1, .v (.int .i64))])]
def lo17_5 (k : Nat) : LO := loopO [] [] [] S17_5 X17_5 R17_5 (iter (laws_szOutS_s5) k)
theorem st17_5 (k : Nat) (rec v) : evC Try.prog ⟨27, []⟩ (F17 k) (inlN Try.prog (F17 k) 4) [] (lpAt (bodyOf Try.f17) [0]) (Kb [] [] [] S17_5 X17_5 R17_5 rec) (mkSt [] [] S17_5 v.1 v.2) = (laws_szOutS_s5) rec v := by kernel_rfl
theorem lp17_5 (k : Nat) {c : Cx} (hP : c.P = Try.prog) (hm : c.m = ⟨27, []⟩) (hg : c.gs = []) : LoopOk c (lo17_5 k) (lpAt (bodyOf Try.f17) [0]) :=
  loop_at hP hm hg (okF17 k) (LInv.of (code := (lpAt (bodyOf Try.f17) [0])) (bs := []) (by kernel_rfl) LInv.nil) (fun rec v => st17_5 k rec v) k
theorem ev17 (k : Nat) (x) : evF Try.prog (F17 k) (inlN Try.prog (F17 k) 4) [(5, lo17_5 k)] Try.f17 (bodyOf Try.f17) (c17 k).ps (c17 k).rs (c17 k).rm x = (c17 k).m x := by kernel_rfl
theorem ok17 (k : Nat) : ConOk Try.prog (c17 k) :=
  fn_at (okF17 k) (cn := c17 k) (fn := Try.f17) (code := bodyOf Try.f17) (m := ⟨27, []⟩) (gs := []) (by kernel_rfl) (by kernel_rfl) (by kernel_rfl) (by kernel_rfl) (by kernel_rfl) (fun _ => by kernel_rfl)
    [(5, lo17_5 k)] (fun c hP hm hg => (LInv.of (code := (bodyOf Try.f17)) (bs := [(lpAt (bodyOf Try.f17) [0])]) (by kernel_rfl) (LInv.cons (b := (lpAt (bodyOf Try.f17) [0])) (by kernel_rfl) (lp17_5 k hP hm hg) LInv.nil))) (ev17 k)
def c99 (k : Nat) : Con := ⟨99, [(T_Deal, false), ((.int .i64), false)], [(.int .i64)], (.own true), fun x => laws_szDeal x.1 x.2.1⟩
def F99 (k : Nat) : List Con := [c69 k]
theorem okF99 (k : Nat) : ∀ cn ∈ F99 k, ConOk Try.prog cn := (conCons (ok69 k) conNil)
theorem ev99 (k : Nat) (x) : evF Try.prog (F99 k) (inlN Try.prog (F99 k) 4) [] Try.f99 (bodyOf Try.f99) (c99 k).ps (c99 k).rs (c99 k).rm x = (c99 k).m x := by kernel_rfl
theorem ok99 (k : Nat) : ConOk Try.prog (c99 k) :=
  fn_at (okF99 k) (cn := c99 k) (fn := Try.f99) (code := bodyOf Try.f99) (m := ⟨12, []⟩) (gs := []) (by kernel_rfl) (by kernel_rfl) (by kernel_rfl) (by kernel_rfl) (by kernel_rfl) (fun _ => by kernel_rfl)
    [] (fun c hP hm hg => (LInv.of (code := (bodyOf Try.f99)) (bs := []) (by kernel_rfl) LInv.nil)) (ev99 k)
def c84 (k : Nat) : Con := ⟨84, [(T_TreeDeal, false), ((.int .i64), false)], [(.int .i64)], (.own true), fun x => laws_szTreeDeal x.1 x.2.1⟩
def F84 (k : Nat) : List Con := [c99 k]
theorem okF84 (k : Nat) : ∀ cn ∈ F84 k, ConOk Try.prog cn := (conCons (ok99 k) conNil)
theorem ev84 (k : Nat) (x) : evF Try.prog (F84 k) (inlN Try.prog (F84 k) 4) [] Try.f84 (bodyOf Try.f84) (c84 k).ps (c84 k).rs (c84 k).rm x = (c84 k).m x := by kernel_rfl
theorem ok84 (k : Nat) : ConOk Try.prog (c84 k) :=
  fn_at (okF84 k) (cn := c84 k) (fn := Try.f84) (code := bodyOf Try.f84) (m := ⟨18, []⟩) (gs := []) (by kernel_rfl) (by kernel_rfl) (by kernel_rfl) (by kernel_rfl) (by kernel_rfl) (fun _ => by kernel_rfl)
    [] (fun c hP hm hg => (LInv.of (code := (bodyOf Try.f84)) (bs := []) (by kernel_rfl) LInv.nil)) (ev84 k)
def c49 (k : Nat) : Con := ⟨49, [(T_Dealt, false), ((.int .i64), false)], [(.int .i64)], (.own true), fun x => laws_szDealt x.1 x.2.1⟩
def F49 (k : Nat) : List Con := [c84 k]
theorem okF49 (k : Nat) : ∀ cn ∈ F49 k, ConOk Try.prog cn := (conCons (ok84 k) conNil)
theorem ev49 (k : Nat) (x) : evF Try.prog (F49 k) (inlN Try.prog (F49 k) 4) [] Try.f49 (bodyOf Try.f49) (c49 k).ps (c49 k).rs (c49 k).rm x = (c49 k).m x := by kernel_rfl
theorem ok49 (k : Nat) : ConOk Try.prog (c49 k) :=
  fn_at (okF49 k) (cn := c49 k) (fn := Try.f49) (code := bodyOf Try.f49) (m := ⟨12, []⟩) (gs := []) (by kernel_rfl) (by kernel_rfl) (by kernel_rfl) (by kernel_rfl) (by kernel_rfl) (fun _ => by kernel_rfl)
    [] (fun c hP hm hg => (LInv.of (code := (bodyOf Try.f49)) (bs := []) (by kernel_rfl) LInv.nil)) (ev49 k)
def c18 (k : Nat) : Con := ⟨18, [((.sl T_Dealt), false), ((.int .i64), false)], [(.int .i64)], (.own true), fun x => laws_szDealtS k x.1 x.2.1⟩
def F18 (k : Nat) : List Con := [c49 k]
theorem okF18 (k : Nat) : ∀ cn ∈ F18 k, ConOk Try.prog cn := (conCons (ok49 k) conNil)
abbrev S18_5 : Shape := [(0, .v (.sl T_Dealt)), (1, .v (.int .i64)), (5, .v (.int .i64))]
abbrev X18_5 : Exit × Shape := (Exit.ret, [(4, .v (.int .i64))])
abbrev R18_5 : List (Exit × Shape) := [(Exit.exit 0, [(1, .v (.int .i64))])]
def lo18_5 (k : Nat) : LO := loopO [] [] [] S18_5 X18_5 R18_5 (iter (laws_szDealtS_s5) k)
theorem st18_5 (k : Nat) (rec v) : evC Try.prog ⟨27, []⟩ (F18 k) (inlN Try.prog (F18 k) 4) [] (lpAt (bodyOf Try.f18) [0]) (Kb [] [] [] S18_5 X18_5 R18_5 rec) (mkSt [] [] S18_5 v.1 v.2) = (laws_szDealtS_s5) rec v := by kernel_rfl
theorem lp18_5 (k : Nat) {c : Cx} (hP : c.P = Try.prog) (hm : c.m = ⟨27, []⟩) (hg : c.gs = []) : LoopOk c (lo18_5 k) (lpAt (bodyOf Try.f18) [0]) :=
  loop_at hP hm hg (okF18 k) (LInv.of (code := (lpAt (bodyOf Try.f18) [0])) (bs := []) (by kernel_rfl) LInv.nil) (fun rec v => st18_5 k rec v) k
theorem ev18 (k : Nat) (x) : evF Try.prog (F18 k) (inlN Try.prog (F18 k) 4) [(5, lo18_5 k)] Try.f18 (bodyOf Try.f18) (c18 k).ps (c18 k).rs (c18 k).rm x = (c18 k).m x := by kernel_rfl
theorem ok18 (k : Nat) : ConOk Try.prog (c18 k) :=
  fn_at (okF18 k) (cn := c18 k) (fn := Try.f18) (code := bodyOf Try.f18) (m := ⟨27, []⟩) (gs := []) (by kernel_rfl) (by kernel_rfl) (by kernel_rfl) (by kernel_rfl) (by kernel_rfl) (fun _ => by kernel_rfl)
    [(5, lo18_5 k)] (fun c hP hm hg => (LInv.of (code := (bodyOf Try.f18)) (bs := [(lpAt (bodyOf Try.f18) [0])]) (by kernel_rfl) (LInv.cons (b := (lpAt (bodyOf Try.f18) [0])) (by kernel_rfl) (lp18_5 k hP hm hg) LInv.nil))) (ev18 k)
def c85 (k : Nat) : Con := ⟨85, [((.sl (.int .u8)), false)], [(.sl (.int .u8))], (.own true), fun x => laws_toByteS k x.1⟩
def F85 (k : Nat) : List Con := []
theorem okF85 (k : Nat) : ∀ cn ∈ F85 k, ConOk Try.prog cn := conNil
abbrev S85_3 : Shape := [(0, .v (.sl (.int .u8))), (3, .own true (.sl (.int .u8))), (4, .v (.int .i64))]
abbrev X85_3 : Exit × Shape := (Exit.exit 0, [(3, .own true (.sl (.int .u8)))])
abbrev R85_3 : List (Exit × Shape) := []
def lo85_3 (k : Nat) : LO := loopO [] [] [] S85_3 X85_3 R85_3 (iter (laws_toByteS_s3) k)
theorem st85_3 (k : Nat) (rec v) : evC Try.prog ⟨22, []⟩ (F85 k) (inlN Try.prog (F85 k) 4) [] (lpAt (bodyOf Try.f85) [0]) (Kb [] [] [] S85_3 X85_3 R85_3 rec) (mkSt [] [] S85_3 v.1 v.2) = (laws_toByteS_s3) rec v := by kernel_rfl
theorem lp85_3 (k : Nat) {c : Cx} (hP : c.P = Try.prog) (hm : c.m = ⟨22, []⟩) (hg : c.gs = []) : LoopOk c (lo85_3 k) (lpAt (bodyOf Try.f85) [0]) :=
  loop_at hP hm hg (okF85 k) (LInv.of (code := (lpAt (bodyOf Try.f85) [0])) (bs := []) (by kernel_rfl) LInv.nil) (fun rec v => st85_3 k rec v) k
theorem ev85 (k : Nat) (x) : evF Try.prog (F85 k) (inlN Try.prog (F85 k) 4) [(3, lo85_3 k)] Try.f85 (bodyOf Try.f85) (c85 k).ps (c85 k).rs (c85 k).rm x = (c85 k).m x := by kernel_rfl
theorem ok85 (k : Nat) : ConOk Try.prog (c85 k) :=
  fn_at (okF85 k) (cn := c85 k) (fn := Try.f85) (code := bodyOf Try.f85) (m := ⟨22, []⟩) (gs := []) (by kernel_rfl) (by kernel_rfl) (by kernel_rfl) (by kernel_rfl) (by kernel_rfl) (fun _ => by kernel_rfl)
    [(3, lo85_3 k)] (fun c hP hm hg => (LInv.of (code := (bodyOf Try.f85)) (bs := [(lpAt (bodyOf Try.f85) [0])]) (by kernel_rfl) (LInv.cons (b := (lpAt (bodyOf Try.f85) [0])) (by kernel_rfl) (lp85_3 k hP hm hg) LInv.nil))) (ev85 k)
def c86 (k : Nat) : Con := ⟨86, [(T_Vec, false)], [T_Vec], (.own true), fun x => laws_toVec x.1⟩
def F86 (k : Nat) : List Con := []
theorem okF86 (k : Nat) : ∀ cn ∈ F86 k, ConOk Try.prog cn := conNil
theorem ev86 (k : Nat) (x) : evF Try.prog (F86 k) (inlN Try.prog (F86 k) 4) [] Try.f86 (bodyOf Try.f86) (c86 k).ps (c86 k).rs (c86 k).rm x = (c86 k).m x := by kernel_rfl
theorem ok86 (k : Nat) : ConOk Try.prog (c86 k) :=
  fn_at (okF86 k) (cn := c86 k) (fn := Try.f86) (code := bodyOf Try.f86) (m := ⟨14, []⟩) (gs := []) (by kernel_rfl) (by kernel_rfl) (by kernel_rfl) (by kernel_rfl) (by kernel_rfl) (fun _ => by kernel_rfl)
    [] (fun c hP hm hg => (LInv.of (code := (bodyOf Try.f86)) (bs := []) (by kernel_rfl) LInv.nil)) (ev86 k)
def c54 (k : Nat) : Con := ⟨54, [(T_Event, false)], [T_Event], (.own true), fun x => laws_toEvent k x.1⟩
def F54 (k : Nat) : List Con := [c85 k, c86 k]
theorem okF54 (k : Nat) : ∀ cn ∈ F54 k, ConOk Try.prog cn := (conCons (ok85 k) (conCons (ok86 k) conNil))
theorem ev54 (k : Nat) (x) : evF Try.prog (F54 k) (inlN Try.prog (F54 k) 4) [] Try.f54 (bodyOf Try.f54) (c54 k).ps (c54 k).rs (c54 k).rm x = (c54 k).m x := by kernel_rfl
theorem ok54 (k : Nat) : ConOk Try.prog (c54 k) :=
  fn_at (okF54 k) (cn := c54 k) (fn := Try.f54) (code := bodyOf Try.f54) (m := ⟨19, []⟩) (gs := []) (by kernel_rfl) (by kernel_rfl) (by kernel_rfl) (by kernel_rfl) (by kernel_rfl) (fun _ => by kernel_rfl)
    [] (fun c hP hm hg => (LInv.of (code := (bodyOf Try.f54)) (bs := []) (by kernel_rfl) LInv.nil)) (ev54 k)
def c20 (k : Nat) : Con := ⟨20, [((.sl T_Event), false)], [(.sl T_Event)], (.own true), fun x => laws_toEventS k x.1⟩
def F20 (k : Nat) : List Con := [c54 k]
theorem okF20 (k : Nat) : ∀ cn ∈ F20 k, ConOk Try.prog cn := (conCons (ok54 k) conNil)
abbrev S20_3 : Shape := [(0, .v (.sl T_Event)), (3, .own true (.sl T_Event)), (4, .v (.int .i64))]
abbrev X20_3 : Exit × Shape := (Exit.exit 0, [(3, .own true (.sl T_Event))])
abbrev R20_3 : List (Exit × Shape) := []
def lo20_3 (k : Nat) : LO := loopO [] [] [] S20_3 X20_3 R20_3 (iter (laws_toEventS_s3 k) k)
theorem st20_3 (k : Nat) (rec v) : evC Try.prog ⟨23, []⟩ (F20 k) (inlN Try.prog (F20 k) 4) [] (lpAt (bodyOf Try.f20) [0]) (Kb [] [] [] S20_3 X20_3 R20_3 rec) (mkSt [] [] S20_3 v.1 v.2) = (laws_toEventS_s3 k) rec v := by kernel_rfl
theorem lp20_3 (k : Nat) {c : Cx} (hP : c.P = Try.prog) (hm : c.m = ⟨23, []⟩) (hg : c.gs = []) : LoopOk c (lo20_3 k) (lpAt (bodyOf Try.f20) [0]) :=
  loop_at hP hm hg (okF20 k) (LInv.of (code := (lpAt (bodyOf Try.f20) [0])) (bs := []) (by kernel_rfl) LInv.nil) (fun rec v => st20_3 k rec v) k
theorem ev20 (k : Nat) (x) : evF Try.prog (F20 k) (inlN Try.prog (F20 k) 4) [(3, lo20_3 k)] Try.f20 (bodyOf Try.f20) (c20 k).ps (c20 k).rs (c20 k).rm x = (c20 k).m x := by kernel_rfl
theorem ok20 (k : Nat) : ConOk Try.prog (c20 k) :=
  fn_at (okF20 k) (cn := c20 k) (fn := Try.f20) (code := bodyOf Try.f20) (m := ⟨23, []⟩) (gs := []) (by kernel_rfl) (by kernel_rfl) (by kernel_rfl) (by kernel_rfl) (by kernel_rfl) (fun _ => by kernel_rfl)
    [(3, lo20_3 k)] (fun c hP hm hg => (LInv.of (code := (bodyOf Try.f20)) (bs := [(lpAt (bodyOf Try.f20) [0])]) (by kernel_rfl) (LInv.cons (b := (lpAt (bodyOf Try.f20) [0])) (by kernel_rfl) (lp20_3 k hP hm hg) LInv.nil))) (ev20 k)
def c70 (k : Nat) : Con := ⟨70, [((.sl (.int .i64)), false)], [(.sl (.int .i64))], (.own true), fun x => laws_toIntS k x.1⟩
def F70 (k : Nat) : List Con := []
theorem okF70 (k : Nat) : ∀ cn ∈ F70 k, ConOk Try.prog cn := conNil
abbrev S70_3 : Shape := [(0, .v (.sl (.int .i64))), (3, .own true (.sl (.int .i64))), (4, .v (.int .i64))]
abbrev X70_3 : Exit × Shape := (Exit.exit 0, [(3, .own true (.sl (.int .i64)))])
abbrev R70_3 : List (Exit × Shape) := []
def lo70_3 (k : Nat) : LO := loopO [] [] [] S70_3 X70_3 R70_3 (iter (laws_toIntS_s3) k)
theorem st70_3 (k : Nat) (rec v) : evC Try.prog ⟨22, []⟩ (F70 k) (inlN Try.prog (F70 k) 4) [] (lpAt (bodyOf Try.f70) [0]) (Kb [] [] [] S70_3 X70_3 R70_3 rec) (mkSt [] [] S70_3 v.1 v.2) = (laws_toIntS_s3) rec v := by kernel_rfl
theorem lp70_3 (k : Nat) {c : Cx} (hP : c.P = Try.prog) (hm : c.m = ⟨22, []⟩) (hg : c.gs = []) : LoopOk c (lo70_3 k) (lpAt (bodyOf Try.f70) [0]) :=
  loop_at hP hm hg (okF70 k) (LInv.of (code := (lpAt (bodyOf Try.f70) [0])) (bs := []) (by kernel_rfl) LInv.nil) (fun rec v => st70_3 k rec v) k
theorem ev70 (k : Nat) (x) : evF Try.prog (F70 k) (inlN Try.prog (F70 k) 4) [(3, lo70_3 k)] Try.f70 (bodyOf Try.f70) (c70 k).ps (c70 k).rs (c70 k).rm x = (c70 k).m x := by kernel_rfl
theorem ok70 (k : Nat) : ConOk Try.prog (c70 k) :=
  fn_at (okF70 k) (cn := c70 k) (fn := Try.f70) (code := bodyOf Try.f70) (m := ⟨22, []⟩) (gs := []) (by kernel_rfl) (by kernel_rfl) (by kernel_rfl) (by kernel_rfl) (by kernel_rfl) (fun _ => by kernel_rfl)
    [(3, lo70_3 k)] (fun c hP hm hg => (LInv.of (code := (bodyOf Try.f70)) (bs := [(lpAt (bodyOf Try.f70) [0])]) (by kernel_rfl) (LInv.cons (b := (lpAt (bodyOf Try.f70) [0])) (by kernel_rfl) (lp70_3 k hP hm hg) LInv.nil))) (ev70 k)
def c55 (k : Nat) : Con := ⟨55, [(T_Out, false)], [T_Out], (.own true), fun x => laws_toOut k x.1⟩
def F55 (k : Nat) : List Con := [c85 k, c70 k]
theorem okF55 (k : Nat) : ∀ cn ∈ F55 k, ConOk Try.prog cn := (conCons (ok85 k) (conCons (ok70 k) conNil))
theorem ev55 (k : Nat) (x) : evF Try.prog (F55 k) (inlN Try.prog (F55 k) 4) [] Try.f55 (bodyOf Try.f55) (c55 k).ps (c55 k).rs (c55 k).rm x = (c55 k).m x := by kernel_rfl
theorem ok55 (k : Nat) : ConOk Try.prog (c55 k) :=
  fn_at (okF55 k) (cn := c55 k) (fn := Try.f55) (code := bodyOf Try.f55) (m := ⟨22, []⟩) (gs := []) (by kernel_rfl) (by kernel_rfl) (by kernel_rfl) (by kernel_rfl) (by kernel_rfl) (fun _ => by kernel_rfl)
    [] (fun c hP hm hg => (LInv.of (code := (bodyOf Try.f55)) (bs := []) (by kernel_rfl) LInv.nil)) (ev55 k)
def c21 (k : Nat) : Con := ⟨21, [((.sl T_Out), false)], [(.sl T_Out)], (.own true), fun x => laws_toOutS k x.1⟩
def F21 (k : Nat) : List Con := [c55 k]
theorem okF21 (k : Nat) : ∀ cn ∈ F21 k, ConOk Try.prog cn := (conCons (ok55 k) conNil)
abbrev S21_3 : Shape := [(0, .v (.sl T_Out)), (3, .own true (.sl T_Out)), (4, .v (.int .i64))]
abbrev X21_3 : Exit × Shape := (Exit.exit 0, [(3, .own true (.sl T_Out))])
abbrev R21_3 : List (Exit × Shape) := []
def lo21_3 (k : Nat) : LO := loopO [] [] [] S21_3 X21_3 R21_3 (iter (laws_toOutS_s3 k) k)
theorem st21_3 (k : Nat) (rec v) : evC Try.prog ⟨23, []⟩ (F21 k) (inlN Try.prog (F21 k) 4) [] (lpAt (bodyOf Try.f21) [0]) (Kb [] [] [] S21_3 X21_3 R21_3 rec) (mkSt [] [] S21_3 v.1 v.2) = (laws_toOutS_s3 k) rec v := by kernel_rfl
theorem lp21_3 (k : Nat) {c : Cx} (hP : c.P = Try.prog) (hm : c.m = ⟨23, []⟩) (hg : c.gs = []) : LoopOk c (lo21_3 k) (lpAt (bodyOf Try.f21) [0]) :=
  loop_at hP hm hg (okF21 k) (LInv.of (code := (lpAt (bodyOf Try.f21) [0])) (bs := []) (by kernel_rfl) LInv.nil) (fun rec v => st21_3 k rec v) k
theorem ev21 (k : Nat) (x) : evF Try.prog (F21 k) (inlN Try.prog (F21 k) 4) [(3, lo21_3 k)] Try.f21 (bodyOf Try.f21) (c21 k).ps (c21 k).rs (c21 k).rm x = (c21 k).m x := by kernel_rfl
theorem ok21 (k : Nat) : ConOk Try.prog (c21 k) :=
  fn_at (okF21 k) (cn := c21 k) (fn := Try.f21) (code := bodyOf Try.f21) (m := ⟨23, []⟩) (gs := []) (by kernel_rfl) (by kernel_rfl) (by kernel_rfl) (by kernel_rfl) (by kernel_rfl) (fun _ => by kernel_rfl)
    [(3, lo21_3 k)] (fun c hP hm hg => (LInv.of (code := (bodyOf Try.f21)) (bs := [(lpAt (bodyOf Try.f21) [0])]) (by kernel_rfl) (LInv.cons (b := (lpAt (bodyOf Try.f21) [0])) (by kernel_rfl) (lp21_3 k hP hm hg) LInv.nil))) (ev21 k)
def c100 (k : Nat) : Con := ⟨100, [(T_Deal, false)], [T_Deal], (.own true), fun x => laws_toDeal k x.1⟩
def F100 (k : Nat) : List Con := [c86 k, c70 k]
theorem okF100 (k : Nat) : ∀ cn ∈ F100 k, ConOk Try.prog cn := (conCons (ok86 k) (conCons (ok70 k) conNil))
theorem ev100 (k : Nat) (x) : evF Try.prog (F100 k) (inlN Try.prog (F100 k) 4) [] Try.f100 (bodyOf Try.f100) (c100 k).ps (c100 k).rs (c100 k).rm x = (c100 k).m x := by kernel_rfl
theorem ok100 (k : Nat) : ConOk Try.prog (c100 k) :=
  fn_at (okF100 k) (cn := c100 k) (fn := Try.f100) (code := bodyOf Try.f100) (m := ⟨19, []⟩) (gs := []) (by kernel_rfl) (by kernel_rfl) (by kernel_rfl) (by kernel_rfl) (by kernel_rfl) (fun _ => by kernel_rfl)
    [] (fun c hP hm hg => (LInv.of (code := (bodyOf Try.f100)) (bs := []) (by kernel_rfl) LInv.nil)) (ev100 k)
def c87 (k : Nat) : Con := ⟨87, [(T_TreeDeal, false)], [T_TreeDeal], (.own true), fun x => laws_toTreeDeal k x.1⟩
def F87 (k : Nat) : List Con := [c100 k]
theorem okF87 (k : Nat) : ∀ cn ∈ F87 k, ConOk Try.prog cn := (conCons (ok100 k) conNil)
theorem ev87 (k : Nat) (x) : evF Try.prog (F87 k) (inlN Try.prog (F87 k) 4) [] Try.f87 (bodyOf Try.f87) (c87 k).ps (c87 k).rs (c87 k).rm x = (c87 k).m x := by kernel_rfl
theorem ok87 (k : Nat) : ConOk Try.prog (c87 k) :=
  fn_at (okF87 k) (cn := c87 k) (fn := Try.f87) (code := bodyOf Try.f87) (m := ⟨13, []⟩) (gs := []) (by kernel_rfl) (by kernel_rfl) (by kernel_rfl) (by kernel_rfl) (by kernel_rfl) (fun _ => by kernel_rfl)
    [] (fun c hP hm hg => (LInv.of (code := (bodyOf Try.f87)) (bs := []) (by kernel_rfl) LInv.nil)) (ev87 k)
def c56 (k : Nat) : Con := ⟨56, [(T_Dealt, false)], [T_Dealt], (.own true), fun x => laws_toDealt k x.1⟩
def F56 (k : Nat) : List Con := [c86 k, c87 k]
theorem okF56 (k : Nat) : ∀ cn ∈ F56 k, ConOk Try.prog cn := (conCons (ok86 k) (conCons (ok87 k) conNil))
theorem ev56 (k : Nat) (x) : evF Try.prog (F56 k) (inlN Try.prog (F56 k) 4) [] Try.f56 (bodyOf Try.f56) (c56 k).ps (c56 k).rs (c56 k).rm x = (c56 k).m x := by kernel_rfl
theorem ok56 (k : Nat) : ConOk Try.prog (c56 k) :=
  fn_at (okF56 k) (cn := c56 k) (fn := Try.f56) (code := bodyOf Try.f56) (m := ⟨16, []⟩) (gs := []) (by kernel_rfl) (by kernel_rfl) (by kernel_rfl) (by kernel_rfl) (by kernel_rfl) (fun _ => by kernel_rfl)
    [] (fun c hP hm hg => (LInv.of (code := (bodyOf Try.f56)) (bs := []) (by kernel_rfl) LInv.nil)) (ev56 k)
def c22 (k : Nat) : Con := ⟨22, [((.sl T_Dealt), false)], [(.sl T_Dealt)], (.own true), fun x => laws_toDealtS k x.1⟩
def F22 (k : Nat) : List Con := [c56 k]
theorem okF22 (k : Nat) : ∀ cn ∈ F22 k, ConOk Try.prog cn := (conCons (ok56 k) conNil)
abbrev S22_3 : Shape := [(0, .v (.sl T_Dealt)), (3, .own true (.sl T_Dealt)), (4, .v (.int .i64))]
abbrev X22_3 : Exit × Shape := (Exit.exit 0, [(3, .own true (.sl T_Dealt))])
abbrev R22_3 : List (Exit × Shape) := []
def lo22_3 (k : Nat) : LO := loopO [] [] [] S22_3 X22_3 R22_3 (iter (laws_toDealtS_s3 k) k)
theorem st22_3 (k : Nat) (rec v) : evC Try.prog ⟨23, []⟩ (F22 k) (inlN Try.prog (F22 k) 4) [] (lpAt (bodyOf Try.f22) [0]) (Kb [] [] [] S22_3 X22_3 R22_3 rec) (mkSt [] [] S22_3 v.1 v.2) = (laws_toDealtS_s3 k) rec v := by kernel_rfl
theorem lp22_3 (k : Nat) {c : Cx} (hP : c.P = Try.prog) (hm : c.m = ⟨23, []⟩) (hg : c.gs = []) : LoopOk c (lo22_3 k) (lpAt (bodyOf Try.f22) [0]) :=
  loop_at hP hm hg (okF22 k) (LInv.of (code := (lpAt (bodyOf Try.f22) [0])) (bs := []) (by kernel_rfl) LInv.nil) (fun rec v => st22_3 k rec v) k
theorem ev22 (k : Nat) (x) : evF Try.prog (F22 k) (inlN Try.prog (F22 k) 4) [(3, lo22_3 k)] Try.f22 (bodyOf Try.f22) (c22 k).ps (c22 k).rs (c22 k).rm x = (c22 k).m x := by kernel_rfl
theorem ok22 (k : Nat) : ConOk Try.prog (c22 k) :=
  fn_at (okF22 k) (cn := c22 k) (fn := Try.f22) (code := bodyOf Try.f22) (m := ⟨23, []⟩) (gs := []) (by kernel_rfl) (by kernel_rfl) (by kernel_rfl) (by kernel_rfl) (by kernel_rfl) (fun _ => by kernel_rfl)
    [(3, lo22_3 k)] (fun c hP hm hg => (LInv.of (code := (bodyOf Try.f22)) (bs := [(lpAt (bodyOf Try.f22) [0])]) (by kernel_rfl) (LInv.cons (b := (lpAt (bodyOf Try.f22) [0])) (by kernel_rfl) (lp22_3 k hP hm hg) LInv.nil))) (ev22 k)
def c50 (k : Nat) : Con := ⟨50, [((.sl T_Event), false)], [.bool], (.own true), fun x => spec_EventsOk k x.1⟩
def F50 (k : Nat) : List Con := []
theorem okF50 (k : Nat) : ∀ cn ∈ F50 k, ConOk Try.prog cn := conNil
abbrev S50_5 : Shape := [(0, .v (.sl T_Event)), (3, .v (.int .i64)), (4, .v (.int .i64))]
abbrev X50_5 : Exit × Shape := (Exit.ret, [(2, .v .bool)])
abbrev R50_5 : List (Exit × Shape) := [(Exit.exit 0, [])]
def lo50_5 (k : Nat) : LO := loopO [] [] [] S50_5 X50_5 R50_5 (iter (spec_EventsOk_s5) k)
theorem st50_5 (k : Nat) (rec v) : evC Try.prog ⟨86, []⟩ (F50 k) (inlN Try.prog (F50 k) 4) [] (lpAt (bodyOf Try.f50) [0]) (Kb [] [] [] S50_5 X50_5 R50_5 rec) (mkSt [] [] S50_5 v.1 v.2) = (spec_EventsOk_s5) rec v := by kernel_rfl
theorem lp50_5 (k : Nat) {c : Cx} (hP : c.P = Try.prog) (hm : c.m = ⟨86, []⟩) (hg : c.gs = []) : LoopOk c (lo50_5 k) (lpAt (bodyOf Try.f50) [0]) :=
  loop_at hP hm hg (okF50 k) (LInv.of (code := (lpAt (bodyOf Try.f50) [0])) (bs := []) (by kernel_rfl) LInv.nil) (fun rec v => st50_5 k rec v) k
theorem ev50 (k : Nat) (x) : evF Try.prog (F50 k) (inlN Try.prog (F50 k) 4) [(5, lo50_5 k)] Try.f50 (bodyOf Try.f50) (c50 k).ps (c50 k).rs (c50 k).rm x = (c50 k).m x := by kernel_rfl
theorem ok50 (k : Nat) : ConOk Try.prog (c50 k) :=
  fn_at (okF50 k) (cn := c50 k) (fn := Try.f50) (code := bodyOf Try.f50) (m := ⟨86, []⟩) (gs := []) (by kernel_rfl) (by kernel_rfl) (by kernel_rfl) (by kernel_rfl) (by kernel_rfl) (fun _ => by kernel_rfl)
    [(5, lo50_5 k)] (fun c hP hm hg => (LInv.of (code := (bodyOf Try.f50)) (bs := [(lpAt (bodyOf Try.f50) [0])]) (by kernel_rfl) (LInv.cons (b := (lpAt (bodyOf Try.f50) [0])) (by kernel_rfl) (lp50_5 k hP hm hg) LInv.nil))) (ev50 k)
def c51 (k : Nat) : Con := ⟨51, [((.sl T_Out), false)], [.bool], (.own true), fun x => spec_l24Few x.1⟩
def F51 (k : Nat) : List Con := []
theorem okF51 (k : Nat) : ∀ cn ∈ F51 k, ConOk Try.prog cn := conNil
theorem ev51 (k : Nat) (x) : evF Try.prog (F51 k) (inlN Try.prog (F51 k) 4) [] Try.f51 (bodyOf Try.f51) (c51 k).ps (c51 k).rs (c51 k).rm x = (c51 k).m x := by kernel_rfl
theorem ok51 (k : Nat) : ConOk Try.prog (c51 k) :=
  fn_at (okF51 k) (cn := c51 k) (fn := Try.f51) (code := bodyOf Try.f51) (m := ⟨6, []⟩) (gs := []) (by kernel_rfl) (by kernel_rfl) (by kernel_rfl) (by kernel_rfl) (by kernel_rfl) (fun _ => by kernel_rfl)
    [] (fun c hP hm hg => (LInv.of (code := (bodyOf Try.f51)) (bs := []) (by kernel_rfl) LInv.nil)) (ev51 k)
def c52 (k : Nat) : Con := ⟨52, [((.sl T_Event), false), ((.int .i64), false)], [(.int .i64)], (.own true), fun x => spec_l24Frame k x.1 x.2.1⟩
def F52 (k : Nat) : List Con := []
theorem okF52 (k : Nat) : ∀ cn ∈ F52 k, ConOk Try.prog cn := conNil
abbrev S52_3 : Shape := [(0, .v (.sl T_Event)), (1, .v (.int .i64)), (5, .v (.int .i64)), (6, .v (.int .i64))]
abbrev X52_3 : Exit × Shape := (Exit.ret, [(4, .v (.int .i64))])
abbrev R52_3 : List (Exit × Shape) := [(Exit.exit 0, [])]
def lo52_3 (k : Nat) : LO := loopO [] [] [] S52_3 X52_3 R52_3 (iter (spec_l24Frame_s3) k)
theorem st52_3 (k : Nat) (rec v) : evC Try.prog ⟨25, []⟩ (F52 k) (inlN Try.prog (F52 k) 4) [] (lpAt (bodyOf Try.f52) [0]) (Kb [] [] [] S52_3 X52_3 R52_3 rec) (mkSt [] [] S52_3 v.1 v.2) = (spec_l24Frame_s3) rec v := by kernel_rfl
theorem lp52_3 (k : Nat) {c : Cx} (hP : c.P = Try.prog) (hm : c.m = ⟨25, []⟩) (hg : c.gs = []) : LoopOk c (lo52_3 k) (lpAt (bodyOf Try.f52) [0]) :=
  loop_at hP hm hg (okF52 k) (LInv.of (code := (lpAt (bodyOf Try.f52) [0])) (bs := []) (by kernel_rfl) LInv.nil) (fun rec v => st52_3 k rec v) k
theorem ev52 (k : Nat) (x) : evF Try.prog (F52 k) (inlN Try.prog (F52 k) 4) [(3, lo52_3 k)] Try.f52 (bodyOf Try.f52) (c52 k).ps (c52 k).rs (c52 k).rm x = (c52 k).m x := by kernel_rfl
theorem ok52 (k : Nat) : ConOk Try.prog (c52 k) :=
  fn_at (okF52 k) (cn := c52 k) (fn := Try.f52) (code := bodyOf Try.f52) (m := ⟨25, []⟩) (gs := []) (by kernel_rfl) (by kernel_rfl) (by kernel_rfl) (by kernel_rfl) (by kernel_rfl) (fun _ => by kernel_rfl)
    [(3, lo52_3 k)] (fun c hP hm hg => (LInv.of (code := (bodyOf Try.f52)) (bs := [(lpAt (bodyOf Try.f52) [0])]) (by kernel_rfl) (LInv.cons (b := (lpAt (bodyOf Try.f52) [0])) (by kernel_rfl) (lp52_3 k hP hm hg) LInv.nil))) (ev52 k)
def c53 (k : Nat) : Con := ⟨53, [((.int .i64), false), ((.int .i64), false), ((.int .i64), false)], [(.int .i64)], (.own true), fun x => spec_Clip x.1 x.2.1 x.2.2.1⟩
def F53 (k : Nat) : List Con := []
theorem okF53 (k : Nat) : ∀ cn ∈ F53 k, ConOk Try.prog cn := conNil
theorem ev53 (k : Nat) (x) : evF Try.prog (F53 k) (inlN Try.prog (F53 k) 4) [] Try.f53 (bodyOf Try.f53) (c53 k).ps (c53 k).rs (c53 k).rm x = (c53 k).m x := by kernel_rfl
theorem ok53 (k : Nat) : ConOk Try.prog (c53 k) :=
  fn_at (okF53 k) (cn := c53 k) (fn := Try.f53) (code := bodyOf Try.f53) (m := ⟨16, []⟩) (gs := []) (by kernel_rfl) (by kernel_rfl) (by kernel_rfl) (by kernel_rfl) (by kernel_rfl) (fun _ => by kernel_rfl)
    [] (fun c hP hm hg => (LInv.of (code := (bodyOf Try.f53)) (bs := []) (by kernel_rfl) LInv.nil)) (ev53 k)
def c19 (k : Nat) : Con := ⟨19, [((.sl T_Event), false), ((.sl T_Out), false), ((.sl T_Dealt), false), ((.int .i64), false), ((.int .i64), false)], [T_Vec, T_Vec], (.own true), fun x => spec_Spent k x.1 x.2.1 x.2.2.1 x.2.2.2.1 x.2.2.2.2.1⟩
def F19 (k : Nat) : List Con := [c50 k, c51 k, c52 k, c53 k]
theorem okF19 (k : Nat) : ∀ cn ∈ F19 k, ConOk Try.prog cn := (conCons (ok50 k) (conCons (ok51 k) (conCons (ok52 k) (conCons (ok53 k) conNil))))
abbrev S19_14 : Shape := [(0, .v (.sl T_Event)), (1, .v (.sl T_Out)), (2, .v (.sl T_Dealt)), (3, .v (.int .i64)), (4, .v (.int .i64)), (10, .box true T_Vec), (11, .box true T_Vec), (12, .box true T_Vec), (13, .box true T_Vec), (14, .v (.int .i64)), (15, .boxv T_Dealt), (17, .v .bool), (18, .v (.int .i64))]
abbrev X19_14 : Exit × Shape := (Exit.exit 2, [(0, .v (.sl T_Event)), (1, .v (.sl T_Out)), (2, .v (.sl T_Dealt)), (3, .v (.int .i64)), (4, .v (.int .i64)), (10, .box true T_Vec), (11, .box true T_Vec), (12, .box true T_Vec), (13, .box true T_Vec), (14, .v (.int .i64)), (15, .boxv T_Dealt), (17, .v .bool)])
abbrev R19_14 : List (Exit × Shape) := []
def lo19_14 (k : Nat) : LO := loopO [] [] [] S19_14 X19_14 R19_14 (iter (spec_Spent_s14) k)
theorem st19_14 (k : Nat) (rec v) : evC Try.prog ⟨156, []⟩ (F19 k) (inlN Try.prog (F19 k) 4) [] (lpAt (bodyOf Try.f19) [0, 0]) (Kb [] [] [] S19_14 X19_14 R19_14 rec) (mkSt [] [] S19_14 v.1 v.2) = (spec_Spent_s14) rec v := by kernel_rfl
theorem lp19_14 (k : Nat) {c : Cx} (hP : c.P = Try.prog) (hm : c.m = ⟨156, []⟩) (hg : c.gs = []) : LoopOk c (lo19_14 k) (lpAt (bodyOf Try.f19) [0, 0]) :=
  loop_at hP hm hg (okF19 k) (LInv.of (code := (lpAt (bodyOf Try.f19) [0, 0])) (bs := []) (by kernel_rfl) LInv.nil) (fun rec v => st19_14 k rec v) k
abbrev S19_6 : Shape := [(0, .v (.sl T_Event)), (1, .v (.sl T_Out)), (2, .v (.sl T_Dealt)), (3, .v (.int .i64)), (4, .v (.int .i64)), (10, .box true T_Vec), (11, .box true T_Vec), (12, .box true T_Vec), (13, .box true T_Vec), (14, .v (.int .i64))]
abbrev X19_6 : Exit × Shape := (Exit.exit 0, [(10, .box true T_Vec), (11, .box true T_Vec), (12, .box true T_Vec), (13, .box true T_Vec)])
abbrev R19_6 : List (Exit × Shape) := []
def lo19_6 (k : Nat) : LO := loopO [] [] [] S19_6 X19_6 R19_6 (iter (spec_Spent_s6 k) k)
theorem st19_6 (k : Nat) (rec v) : evC Try.prog ⟨156, []⟩ (F19 k) (inlN Try.prog (F19 k) 4) [(14, lo19_14 k)] (lpAt (bodyOf Try.f19) [0]) (Kb [] [] [] S19_6 X19_6 R19_6 rec) (mkSt [] [] S19_6 v.1 v.2) = (spec_Spent_s6 k) rec v := by kernel_rfl
theorem lp19_6 (k : Nat) {c : Cx} (hP : c.P = Try.prog) (hm : c.m = ⟨156, []⟩) (hg : c.gs = []) : LoopOk c (lo19_6 k) (lpAt (bodyOf Try.f19) [0]) :=
  loop_at hP hm hg (okF19 k) (LInv.of (code := (lpAt (bodyOf Try.f19) [0])) (bs := [(lpAt (bodyOf Try.f19) [0, 0])]) (by kernel_rfl) (LInv.cons (b := (lpAt (bodyOf Try.f19) [0, 0])) (by kernel_rfl) (lp19_14 k hP hm hg) LInv.nil)) (fun rec v => st19_6 k rec v) k
theorem ev19 (k : Nat) (x) : evF Try.prog (F19 k) (inlN Try.prog (F19 k) 4) [(6, lo19_6 k)] Try.f19 (bodyOf Try.f19) (c19 k).ps (c19 k).rs (c19 k).rm x = (c19 k).m x := by kernel_rfl
theorem ok19 (k : Nat) : ConOk Try.prog (c19 k) :=
  fn_at (okF19 k) (cn := c19 k) (fn := Try.f19) (code := bodyOf Try.f19) (m := ⟨156, []⟩) (gs := []) (by kernel_rfl) (by kernel_rfl) (by kernel_rfl) (by kernel_rfl) (by kernel_rfl) (fun _ => by kernel_rfl)
    [(6, lo19_6 k)] (fun c hP hm hg => (LInv.of (code := (bodyOf Try.f19)) (bs := [(lpAt (bodyOf Try.f19) [0])]) (by kernel_rfl) (LInv.cons (b := (lpAt (bodyOf Try.f19) [0])) (by kernel_rfl) (lp19_6 k hP hm hg) LInv.nil))) (ev19 k)
def c40 (k : Nat) : Con := ⟨40, [((.int .i64), false), ((.int .i64), false), ((.int .i64), false)], [.bool], (.own true), fun x => impl_within x.1 x.2.1 x.2.2.1⟩
def F40 (k : Nat) : List Con := []
theorem okF40 (k : Nat) : ∀ cn ∈ F40 k, ConOk Try.prog cn := conNil
theorem ev40 (k : Nat) (x) : evF Try.prog (F40 k) (inlN Try.prog (F40 k) 4) [] Try.f40 (bodyOf Try.f40) (c40 k).ps (c40 k).rs (c40 k).rm x = (c40 k).m x := by kernel_rfl
theorem ok40 (k : Nat) : ConOk Try.prog (c40 k) :=
  fn_at (okF40 k) (cn := c40 k) (fn := Try.f40) (code := bodyOf Try.f40) (m := ⟨15, []⟩) (gs := []) (by kernel_rfl) (by kernel_rfl) (by kernel_rfl) (by kernel_rfl) (by kernel_rfl) (fun _ => by kernel_rfl)
    [] (fun c hP hm hg => (LInv.of (code := (bodyOf Try.f40)) (bs := []) (by kernel_rfl) LInv.nil)) (ev40 k)
def c88 (k : Nat) : Con := ⟨88, [(T_Event, false)], [.bool], (.own true), fun x => impl_eventOk x.1⟩
def F88 (k : Nat) : List Con := [c40 k]
theorem okF88 (k : Nat) : ∀ cn ∈ F88 k, ConOk Try.prog cn := (conCons (ok40 k) conNil)
theorem ev88 (k : Nat) (x) : evF Try.prog (F88 k) (inlN Try.prog (F88 k) 4) [] Try.f88 (bodyOf Try.f88) (c88 k).ps (c88 k).rs (c88 k).rm x = (c88 k).m x := by kernel_rfl
theorem ok88 (k : Nat) : ConOk Try.prog (c88 k) :=
  fn_at (okF88 k) (cn := c88 k) (fn := Try.f88) (code := bodyOf Try.f88) (m := ⟨67, []⟩) (gs := []) (by kernel_rfl) (by kernel_rfl) (by kernel_rfl) (by kernel_rfl) (by kernel_rfl) (fun _ => by kernel_rfl)
    [] (fun c hP hm hg => (LInv.of (code := (bodyOf Try.f88)) (bs := []) (by kernel_rfl) LInv.nil)) (ev88 k)
def c57 (k : Nat) : Con := ⟨57, [((.sl T_Event), false)], [.bool], (.own true), fun x => impl_EventsOk k x.1⟩
def F57 (k : Nat) : List Con := [c88 k]
theorem okF57 (k : Nat) : ∀ cn ∈ F57 k, ConOk Try.prog cn := (conCons (ok88 k) conNil)
abbrev S57_3 : Shape := [(0, .v (.sl T_Event)), (3, .v (.int .i64)), (6, .v (.sl T_Event)), (7, .v (.int .i64)), (8, .v (.int .i64))]
abbrev X57_3 : Exit × Shape := (Exit.ret, [(2, .v .bool)])
abbrev R57_3 : List (Exit × Shape) := [(Exit.exit 0, [(0, .v (.sl T_Event)), (3, .v (.int .i64))])]
def lo57_3 (k : Nat) : LO := loopO [] [] [] S57_3 X57_3 R57_3 (iter (impl_EventsOk_s3) k)
theorem st57_3 (k : Nat) (rec v) : evC Try.prog ⟨27, []⟩ (F57 k) (inlN Try.prog (F57 k) 4) [] (lpAt (bodyOf Try.f57) [0]) (Kb [] [] [] S57_3 X57_3 R57_3 rec) (mkSt [] [] S57_3 v.1 v.2) = (impl_EventsOk_s3) rec v := by kernel_rfl
theorem lp57_3 (k : Nat) {c : Cx} (hP : c.P = Try.prog) (hm : c.m = ⟨27, []⟩) (hg : c.gs = []) : LoopOk c (lo57_3 k) (lpAt (bodyOf Try.f57) [0]) :=
  loop_at hP hm hg (okF57 k) (LInv.of (code := (lpAt (bodyOf Try.f57) [0])) (bs := []) (by kernel_rfl) LInv.nil) (fun rec v => st57_3 k rec v) k
theorem ev57 (k : Nat) (x) : evF Try.prog (F57 k) (inlN Try.prog (F57 k) 4) [(3, lo57_3 k)] Try.f57 (bodyOf Try.f57) (c57 k).ps (c57 k).rs (c57 k).rm x = (c57 k).m x := by kernel_rfl
theorem ok57 (k : Nat) : ConOk Try.prog (c57 k) :=
  fn_at (okF57 k) (cn := c57 k) (fn := Try.f57) (code := bodyOf Try.f57) (m := ⟨27, []⟩) (gs := []) (by kernel_rfl) (by kernel_rfl) (by kernel_rfl) (by kernel_rfl) (by kernel_rfl) (fun _ => by kernel_rfl)
    [(3, lo57_3 k)] (fun c hP hm hg => (LInv.of (code := (bodyOf Try.f57)) (bs := [(lpAt (bodyOf Try.f57) [0])]) (by kernel_rfl) (LInv.cons (b := (lpAt (bodyOf Try.f57) [0])) (by kernel_rfl) (lp57_3 k hP hm hg) LInv.nil))) (ev57 k)
def c90 (k : Nat) : Con := ⟨90, [((.int .i64), false), ((.int .i64), false)], [(.int .i64)], (.own true), fun x => impl_Vec_plus_1 x.1 x.2.1⟩
def F90 (k : Nat) : List Con := []
theorem okF90 (k : Nat) : ∀ cn ∈ F90 k, ConOk Try.prog cn := conNil
theorem ev90 (k : Nat) (x) : evF Try.prog (F90 k) (inlN Try.prog (F90 k) 4) [] Try.f90 (bodyOf Try.f90) (c90 k).ps (c90 k).rs (c90 k).rm x = (c90 k).m x := by kernel_rfl
theorem ok90 (k : Nat) : ConOk Try.prog (c90 k) :=
  fn_at (okF90 k) (cn := c90 k) (fn := Try.f90) (code := bodyOf Try.f90) (m := ⟨8, []⟩) (gs := []) (by kernel_rfl) (by kernel_rfl) (by kernel_rfl) (by kernel_rfl) (by kernel_rfl) (fun _ => by kernel_rfl)
    [] (fun c hP hm hg => (LInv.of (code := (bodyOf Try.f90)) (bs := []) (by kernel_rfl) LInv.nil)) (ev90 k)
def c89 (k : Nat) : Con := ⟨89, [(T_Vec, false), (T_Vec, false), ((.cl 90 .un), false)], [T_Vec], (.own true), fun x => impl_both x.1 x.2.1 x.2.2.1⟩
def F89 (k : Nat) : List Con := [c90 k]
theorem okF89 (k : Nat) : ∀ cn ∈ F89 k, ConOk Try.prog cn := (conCons (ok90 k) conNil)
theorem ev89 (k : Nat) (x) : evF Try.prog (F89 k) (inlN Try.prog (F89 k) 4) [] Try.f89 (bodyOf Try.f89) (c89 k).ps (c89 k).rs (c89 k).rm x = (c89 k).m x := by kernel_rfl
theorem ok89 (k : Nat) : ConOk Try.prog (c89 k) :=
  fn_at (okF89 k) (cn := c89 k) (fn := Try.f89) (code := bodyOf Try.f89) (m := ⟨26, []⟩) (gs := []) (by kernel_rfl) (by kernel_rfl) (by kernel_rfl) (by kernel_rfl) (by kernel_rfl) (fun _ => by kernel_rfl)
    [] (fun c hP hm hg => (LInv.of (code := (bodyOf Try.f89)) (bs := []) (by kernel_rfl) LInv.nil)) (ev89 k)
def c58 (k : Nat) : Con := ⟨58, [(T_Vec, false), (T_Vec, false)], [T_Vec], (.own true), fun x => impl_Vec_plus x.1 x.2.1⟩
def F58 (k : Nat) : List Con := [c89 k]
theorem okF58 (k : Nat) : ∀ cn ∈ F58 k, ConOk Try.prog cn := (conCons (ok89 k) conNil)
theorem ev58 (k : Nat) (x) : evF Try.prog (F58 k) (inlN Try.prog (F58 k) 4) [] Try.f58 (bodyOf Try.f58) (c58 k).ps (c58 k).rs (c58 k).rm x = (c58 k).m x := by kernel_rfl
theorem ok58 (k : Nat) : ConOk Try.prog (c58 k) :=
  fn_at (okF58 k) (cn := c58 k) (fn := Try.f58) (code := bodyOf Try.f58) (m := ⟨8, []⟩) (gs := []) (by kernel_rfl) (by kernel_rfl) (by kernel_rfl) (by kernel_rfl) (by kernel_rfl) (fun _ => by kernel_rfl)
    [] (fun c hP hm hg => (LInv.of (code := (bodyOf Try.f58)) (bs := []) (by kernel_rfl) LInv.nil)) (ev58 k)
def c59 (k : Nat) : Con := ⟨59, [((.sl T_Event), false), ((.int .i64), false)], [(.int .i64)], (.own true), fun x => impl_frameAt k x.1 x.2.1⟩
def F59 (k : Nat) : List Con := []
theorem okF59 (k : Nat) : ∀ cn ∈ F59 k, ConOk Try.prog cn := conNil
abbrev S59_2 : Shape := [(1, .v (.int .i64)), (7, .v (.sl T_Event)), (8, .v (.int .i64)), (9, .v (.int .i64))]
abbrev X59_2 : Exit × Shape := (Exit.ret, [(4, .v (.int .i64))])
abbrev R59_2 : List (Exit × Shape) := [(Exit.exit 0, [])]
def lo59_2 (k : Nat) : LO := loopO [] [] [] S59_2 X59_2 R59_2 (iter (impl_frameAt_s2) k)
theorem st59_2 (k : Nat) (rec v) : evC Try.prog ⟨23, []⟩ (F59 k) (inlN Try.prog (F59 k) 4) [] (lpAt (bodyOf Try.f59) [0]) (Kb [] [] [] S59_2 X59_2 R59_2 rec) (mkSt [] [] S59_2 v.1 v.2) = (impl_frameAt_s2) rec v := by kernel_rfl
theorem lp59_2 (k : Nat) {c : Cx} (hP : c.P = Try.prog) (hm : c.m = ⟨23, []⟩) (hg : c.gs = []) : LoopOk c (lo59_2 k) (lpAt (bodyOf Try.f59) [0]) :=
  loop_at hP hm hg (okF59 k) (LInv.of (code := (lpAt (bodyOf Try.f59) [0])) (bs := []) (by kernel_rfl) LInv.nil) (fun rec v => st59_2 k rec v) k
theorem ev59 (k : Nat) (x) : evF Try.prog (F59 k) (inlN Try.prog (F59 k) 4) [(2, lo59_2 k)] Try.f59 (bodyOf Try.f59) (c59 k).ps (c59 k).rs (c59 k).rm x = (c59 k).m x := by kernel_rfl
theorem ok59 (k : Nat) : ConOk Try.prog (c59 k) :=
  fn_at (okF59 k) (cn := c59 k) (fn := Try.f59) (code := bodyOf Try.f59) (m := ⟨23, []⟩) (gs := []) (by kernel_rfl) (by kernel_rfl) (by kernel_rfl) (by kernel_rfl) (by kernel_rfl) (fun _ => by kernel_rfl)
    [(2, lo59_2 k)] (fun c hP hm hg => (LInv.of (code := (bodyOf Try.f59)) (bs := [(lpAt (bodyOf Try.f59) [0])]) (by kernel_rfl) (LInv.cons (b := (lpAt (bodyOf Try.f59) [0])) (by kernel_rfl) (lp59_2 k hP hm hg) LInv.nil))) (ev59 k)
def c62 (k : Nat) : Con := ⟨62, [(T_Out, false)], [.bool], (.own true), fun x => impl_isServed x.1⟩
def F62 (k : Nat) : List Con := []
theorem okF62 (k : Nat) : ∀ cn ∈ F62 k, ConOk Try.prog cn := conNil
theorem ev62 (k : Nat) (x) : evF Try.prog (F62 k) (inlN Try.prog (F62 k) 4) [] Try.f62 (bodyOf Try.f62) (c62 k).ps (c62 k).rs (c62 k).rm x = (c62 k).m x := by kernel_rfl
theorem ok62 (k : Nat) : ConOk Try.prog (c62 k) :=
  fn_at (okF62 k) (cn := c62 k) (fn := Try.f62) (code := bodyOf Try.f62) (m := ⟨21, []⟩) (gs := []) (by kernel_rfl) (by kernel_rfl) (by kernel_rfl) (by kernel_rfl) (by kernel_rfl) (fun _ => by kernel_rfl)
    [] (fun c hP hm hg => (LInv.of (code := (bodyOf Try.f62)) (bs := []) (by kernel_rfl) LInv.nil)) (ev62 k)
def c65 (k : Nat) : Con := ⟨65, [((.int .i64), false), ((.int .i64), false), ((.int .i64), false)], [(.int .i64)], (.own true), fun x => impl_Clip x.1 x.2.1 x.2.2.1⟩
def F65 (k : Nat) : List Con := []
theorem okF65 (k : Nat) : ∀ cn ∈ F65 k, ConOk Try.prog cn := conNil
theorem ev65 (k : Nat) (x) : evF Try.prog (F65 k) (inlN Try.prog (F65 k) 4) [] Try.f65 (bodyOf Try.f65) (c65 k).ps (c65 k).rs (c65 k).rm x = (c65 k).m x := by kernel_rfl
theorem ok65 (k : Nat) : ConOk Try.prog (c65 k) :=
  fn_at (okF65 k) (cn := c65 k) (fn := Try.f65) (code := bodyOf Try.f65) (m := ⟨18, []⟩) (gs := []) (by kernel_rfl) (by kernel_rfl) (by kernel_rfl) (by kernel_rfl) (by kernel_rfl) (fun _ => by kernel_rfl)
    [] (fun c hP hm hg => (LInv.of (code := (bodyOf Try.f65)) (bs := []) (by kernel_rfl) LInv.nil)) (ev65 k)
def c64 (k : Nat) : Con := ⟨64, [((.int .i64), false)], [(.int .i64)], (.own true), fun x => impl_Spent_2 x.1⟩
def F64 (k : Nat) : List Con := [c65 k]
theorem okF64 (k : Nat) : ∀ cn ∈ F64 k, ConOk Try.prog cn := (conCons (ok65 k) conNil)
theorem ev64 (k : Nat) (x) : evF Try.prog (F64 k) (inlN Try.prog (F64 k) 4) [] Try.f64 (bodyOf Try.f64) (c64 k).ps (c64 k).rs (c64 k).rm x = (c64 k).m x := by kernel_rfl
theorem ok64 (k : Nat) : ConOk Try.prog (c64 k) :=
  fn_at (okF64 k) (cn := c64 k) (fn := Try.f64) (code := bodyOf Try.f64) (m := ⟨5, []⟩) (gs := []) (by kernel_rfl) (by kernel_rfl) (by kernel_rfl) (by kernel_rfl) (by kernel_rfl) (fun _ => by kernel_rfl)
    [] (fun c hP hm hg => (LInv.of (code := (bodyOf Try.f64)) (bs := []) (by kernel_rfl) LInv.nil)) (ev64 k)
def c61 (k : Nat) : Con := ⟨61, [(T_Out, false), ((.ref T_Dealt), false)], [.bool], (.own true), fun x => impl_Spent_1 x.1 x.2.1⟩
def F61 (k : Nat) : List Con := [c62 k]
theorem okF61 (k : Nat) : ∀ cn ∈ F61 k, ConOk Try.prog cn := (conCons (ok62 k) conNil)
theorem ev61 (k : Nat) (x) : evF Try.prog (F61 k) (inlN Try.prog (F61 k) 4) [] Try.f61 (bodyOf Try.f61) (c61 k).ps (c61 k).rs (c61 k).rm x = (c61 k).m x := by kernel_rfl
theorem ok61 (k : Nat) : ConOk Try.prog (c61 k) :=
  fn_at (okF61 k) (cn := c61 k) (fn := Try.f61) (code := bodyOf Try.f61) (m := ⟨13, []⟩) (gs := []) (by kernel_rfl) (by kernel_rfl) (by kernel_rfl) (by kernel_rfl) (by kernel_rfl) (fun _ => by kernel_rfl)
    [] (fun c hP hm hg => (LInv.of (code := (bodyOf Try.f61)) (bs := []) (by kernel_rfl) LInv.nil)) (ev61 k)
def c91 (k : Nat) : Con := ⟨91, [((.sl T_Out), false), ((.cl 61 (.pr (.ref T_Dealt) .un)), false)], [(.int .i64)], (.own true), fun x => slices_IndexFunc_impl_Out_impl_Out k x.1 x.2.1⟩
def F91 (k : Nat) : List Con := [c61 k]
theorem okF91 (k : Nat) : ∀ cn ∈ F91 k, ConOk Try.prog cn := (conCons (ok61 k) conNil)
abbrev S91_2 : Shape := [(0, .v (.sl T_Out)), (1, .v (.cl 61 (.pr (.ref T_Dealt) .un))), (7, .v (.int .i64)), (8, .v (.int .i64))]
abbrev X91_2 : Exit × Shape := (Exit.ret, [(4, .v (.int .i64))])
abbrev R91_2 : List (Exit × Shape) := [(Exit.exit 0, [])]
def lo91_2 (k : Nat) : LO := loopO [] [] [] S91_2 X91_2 R91_2 (iter (slices_IndexFunc_impl_Out_impl_Out_s2) k)
theorem st91_2 (k : Nat) (rec v) : evC Try.prog ⟨19, []⟩ (F91 k) (inlN Try.prog (F91 k) 4) [] (lpAt (bodyOf Try.f91) [0]) (Kb [] [] [] S91_2 X91_2 R91_2 rec) (mkSt [] [] S91_2 v.1 v.2) = (slices_IndexFunc_impl_Out_impl_Out_s2) rec v := by kernel_rfl
theorem lp91_2 (k : Nat) {c : Cx} (hP : c.P = Try.prog) (hm : c.m = ⟨19, []⟩) (hg : c.gs = []) : LoopOk c (lo91_2 k) (lpAt (bodyOf Try.f91) [0]) :=
  loop_at hP hm hg (okF91 k) (LInv.of (code := (lpAt (bodyOf Try.f91) [0])) (bs := []) (by kernel_rfl) LInv.nil) (fun rec v => st91_2 k rec v) k
theorem ev91 (k : Nat) (x) : evF Try.prog (F91 k) (inlN Try.prog (F91 k) 4) [(2, lo91_2 k)] Try.f91 (bodyOf Try.f91) (c91 k).ps (c91 k).rs (c91 k).rm x = (c91 k).m x := by kernel_rfl
theorem ok91 (k : Nat) : ConOk Try.prog (c91 k) :=
  fn_at (okF91 k) (cn := c91 k) (fn := Try.f91) (code := bodyOf Try.f91) (m := ⟨19, []⟩) (gs := []) (by kernel_rfl) (by kernel_rfl) (by kernel_rfl) (by kernel_rfl) (by kernel_rfl) (fun _ => by kernel_rfl)
    [(2, lo91_2 k)] (fun c hP hm hg => (LInv.of (code := (bodyOf Try.f91)) (bs := [(lpAt (bodyOf Try.f91) [0])]) (by kernel_rfl) (LInv.cons (b := (lpAt (bodyOf Try.f91) [0])) (by kernel_rfl) (lp91_2 k hP hm hg) LInv.nil))) (ev91 k)
def c60 (k : Nat) : Con := ⟨60, [((.sl T_Out), false), ((.cl 61 (.pr (.ref T_Dealt) .un)), false)], [.bool], (.own true), fun x => slices_ContainsFunc_impl_Out_impl_Out k x.1 x.2.1⟩
def F60 (k : Nat) : List Con := [c91 k]
theorem okF60 (k : Nat) : ∀ cn ∈ F60 k, ConOk Try.prog cn := (conCons (ok91 k) conNil)
theorem ev60 (k : Nat) (x) : evF Try.prog (F60 k) (inlN Try.prog (F60 k) 4) [] Try.f60 (bodyOf Try.f60) (c60 k).ps (c60 k).rs (c60 k).rm x = (c60 k).m x := by kernel_rfl
theorem ok60 (k : Nat) : ConOk Try.prog (c60 k) :=
  fn_at (okF60 k) (cn := c60 k) (fn := Try.f60) (code := bodyOf Try.f60) (m := ⟨9, []⟩) (gs := []) (by kernel_rfl) (by kernel_rfl) (by kernel_rfl) (by kernel_rfl) (by kernel_rfl) (fun _ => by kernel_rfl)
    [] (fun c hP hm hg => (LInv.of (code := (bodyOf Try.f60)) (bs := []) (by kernel_rfl) LInv.nil)) (ev60 k)
def c63 (k : Nat) : Con := ⟨63, [(T_Vec, false), ((.cl 64 .un), false)], [T_Vec], (.own true), fun x => impl_Vec_each x.1 x.2.1⟩
def F63 (k : Nat) : List Con := [c64 k]
theorem okF63 (k : Nat) : ∀ cn ∈ F63 k, ConOk Try.prog cn := (conCons (ok64 k) conNil)
theorem ev63 (k : Nat) (x) : evF Try.prog (F63 k) (inlN Try.prog (F63 k) 4) [] Try.f63 (bodyOf Try.f63) (c63 k).ps (c63 k).rs (c63 k).rm x = (c63 k).m x := by kernel_rfl
theorem ok63 (k : Nat) : ConOk Try.prog (c63 k) :=
  fn_at (okF63 k) (cn := c63 k) (fn := Try.f63) (code := bodyOf Try.f63) (m := ⟨18, []⟩) (gs := []) (by kernel_rfl) (by kernel_rfl) (by kernel_rfl) (by kernel_rfl) (by kernel_rfl) (fun _ => by kernel_rfl)
    [] (fun c hP hm hg => (LInv.of (code := (bodyOf Try.f63)) (bs := []) (by kernel_rfl) LInv.nil)) (ev63 k)
def c23 (k : Nat) : Con := ⟨23, [((.sl T_Event), false), ((.sl T_Out), false), ((.sl T_Dealt), false), ((.int .i64), false), ((.int .i64), false)], [T_Vec, T_Vec], (.own true), fun x => impl_Spent k x.1 x.2.1 x.2.2.1 x.2.2.2.1 x.2.2.2.2.1⟩
def F23 (k : Nat) : List Con := [c57 k, c58 k, c59 k, c60 k, c63 k]
theorem okF23 (k : Nat) : ∀ cn ∈ F23 k, ConOk Try.prog cn := (conCons (ok57 k) (conCons (ok58 k) (conCons (ok59 k) (conCons (ok60 k) (conCons (ok63 k) conNil)))))
abbrev S23_5 : Shape := [(0, .v (.sl T_Event)), (1, .v (.sl T_Out)), (3, .v (.int .i64)), (4, .v (.int .i64)), (10, .box true T_Vec), (11, .box true T_Vec), (12, .box true T_Vec), (13, .box true T_Vec), (34, .v (.sl T_Dealt)), (35, .v (.int .i64)), (36, .v (.int .i64))]
abbrev X23_5 : Exit × Shape := (Exit.exit 0, [(10, .box true T_Vec), (11, .box true T_Vec), (12, .box true T_Vec), (13, .box true T_Vec)])
abbrev R23_5 : List (Exit × Shape) := []
def lo23_5 (k : Nat) : LO := loopO [] [] [] S23_5 X23_5 R23_5 (iter (impl_Spent_s5 k) k)
theorem st23_5 (k : Nat) (rec v) : evC Try.prog ⟨82, []⟩ (F23 k) (inlN Try.prog (F23 k) 4) [] (lpAt (bodyOf Try.f23) [0]) (Kb [] [] [] S23_5 X23_5 R23_5 rec) (mkSt [] [] S23_5 v.1 v.2) = (impl_Spent_s5 k) rec v := by kernel_rfl
theorem lp23_5 (k : Nat) {c : Cx} (hP : c.P = Try.prog) (hm : c.m = ⟨82, []⟩) (hg : c.gs = []) : LoopOk c (lo23_5 k) (lpAt (bodyOf Try.f23) [0]) :=
  loop_at hP hm hg (okF23 k) (LInv.of (code := (lpAt (bodyOf Try.f23) [0])) (bs := []) (by kernel_rfl) LInv.nil) (fun rec v => st23_5 k rec v) k
theorem ev23 (k : Nat) (x) : evF Try.prog (F23 k) (inlN Try.prog (F23 k) 4) [(5, lo23_5 k)] Try.f23 (bodyOf Try.f23) (c23 k).ps (c23 k).rs (c23 k).rm x = (c23 k).m x := by kernel_rfl
theorem ok23 (k : Nat) : ConOk Try.prog (c23 k) :=
  fn_at (okF23 k) (cn := c23 k) (fn := Try.f23) (code := bodyOf Try.f23) (m := ⟨82, []⟩) (gs := []) (by kernel_rfl) (by kernel_rfl) (by kernel_rfl) (by kernel_rfl) (by kernel_rfl) (fun _ => by kernel_rfl)
    [(5, lo23_5 k)] (fun c hP hm hg => (LInv.of (code := (bodyOf Try.f23)) (bs := [(lpAt (bodyOf Try.f23) [0])]) (by kernel_rfl) (LInv.cons (b := (lpAt (bodyOf Try.f23) [0])) (by kernel_rfl) (lp23_5 k hP hm hg) LInv.nil))) (ev23 k)
def c24 (k : Nat) : Con := ⟨24, [(T_Vec, false), (T_Vec, false)], [.bool], (.own true), fun x => laws_eqVec x.1 x.2.1⟩
def F24 (k : Nat) : List Con := []
theorem okF24 (k : Nat) : ∀ cn ∈ F24 k, ConOk Try.prog cn := conNil
theorem ev24 (k : Nat) (x) : evF Try.prog (F24 k) (inlN Try.prog (F24 k) 4) [] Try.f24 (bodyOf Try.f24) (c24 k).ps (c24 k).rs (c24 k).rm x = (c24 k).m x := by kernel_rfl
theorem ok24 (k : Nat) : ConOk Try.prog (c24 k) :=
  fn_at (okF24 k) (cn := c24 k) (fn := Try.f24) (code := bodyOf Try.f24) (m := ⟨20, []⟩) (gs := []) (by kernel_rfl) (by kernel_rfl) (by kernel_rfl) (by kernel_rfl) (by kernel_rfl) (fun _ => by kernel_rfl)
    [] (fun c hP hm hg => (LInv.of (code := (bodyOf Try.f24)) (bs := []) (by kernel_rfl) LInv.nil)) (ev24 k)
def c92 (k : Nat) : Con := ⟨92, [((.sl (.int .u8)), false), ((.sl (.int .u8)), false)], [.bool], (.own true), fun x => laws_eqByteS k x.1 x.2.1⟩
def F92 (k : Nat) : List Con := []
theorem okF92 (k : Nat) : ∀ cn ∈ F92 k, ConOk Try.prog cn := conNil
abbrev S92_4 : Shape := [(0, .v (.sl (.int .u8))), (1, .v (.sl (.int .u8))), (5, .v (.int .i64))]
abbrev X92_4 : Exit × Shape := (Exit.ret, [(4, .v .bool)])
abbrev R92_4 : List (Exit × Shape) := [(Exit.exit 0, [])]
def lo92_4 (k : Nat) : LO := loopO [] [] [] S92_4 X92_4 R92_4 (iter (laws_eqByteS_s4) k)
theorem st92_4 (k : Nat) (rec v) : evC Try.prog ⟨26, []⟩ (F92 k) (inlN Try.prog (F92 k) 4) [] (lpAt (bodyOf Try.f92) [0]) (Kb [] [] [] S92_4 X92_4 R92_4 rec) (mkSt [] [] S92_4 v.1 v.2) = (laws_eqByteS_s4) rec v := by kernel_rfl
theorem lp92_4 (k : Nat) {c : Cx} (hP : c.P = Try.prog) (hm : c.m = ⟨26, []⟩) (hg : c.gs = []) : LoopOk c (lo92_4 k) (lpAt (bodyOf Try.f92) [0]) :=
  loop_at hP hm hg (okF92 k) (LInv.of (code := (lpAt (bodyOf Try.f92) [0])) (bs := []) (by kernel_rfl) LInv.nil) (fun rec v => st92_4 k rec v) k
theorem ev92 (k : Nat) (x) : evF Try.prog (F92 k) (inlN Try.prog (F92 k) 4) [(4, lo92_4 k)] Try.f92 (bodyOf Try.f92) (c92 k).ps (c92 k).rs (c92 k).rm x = (c92 k).m x := by kernel_rfl
theorem ok92 (k : Nat) : ConOk Try.prog (c92 k) :=
  fn_at (okF92 k) (cn := c92 k) (fn := Try.f92) (code := bodyOf Try.f92) (m := ⟨26, []⟩) (gs := []) (by kernel_rfl) (by kernel_rfl) (by kernel_rfl) (by kernel_rfl) (by kernel_rfl) (fun _ => by kernel_rfl)
    [(4, lo92_4 k)] (fun c hP hm hg => (LInv.of (code := (bodyOf Try.f92)) (bs := [(lpAt (bodyOf Try.f92) [0])]) (by kernel_rfl) (LInv.cons (b := (lpAt (bodyOf Try.f92) [0])) (by kernel_rfl) (lp92_4 k hP hm hg) LInv.nil))) (ev92 k)
def c66 (k : Nat) : Con := ⟨66, [(T_Event, false), (T_Event, false)], [.bool], (.own true), fun x => laws_eqEvent k x.1 x.2.1⟩
def F66 (k : Nat) : List Con := [c92 k, c24 k]
theorem okF66 (k : Nat) : ∀ cn ∈ F66 k, ConOk Try.prog cn := (conCons (ok92 k) (conCons (ok24 k) conNil))
theorem ev66 (k : Nat) (x) : evF Try.prog (F66 k) (inlN Try.prog (F66 k) 4) [] Try.f66 (bodyOf Try.f66) (c66 k).ps (c66 k).rs (c66 k).rm x = (c66 k).m x := by kernel_rfl
theorem ok66 (k : Nat) : ConOk Try.prog (c66 k) :=
  fn_at (okF66 k) (cn := c66 k) (fn := Try.f66) (code := bodyOf Try.f66) (m := ⟨27, []⟩) (gs := []) (by kernel_rfl) (by kernel_rfl) (by kernel_rfl) (by kernel_rfl) (by kernel_rfl) (fun _ => by kernel_rfl)
    [] (fun c hP hm hg => (LInv.of (code := (bodyOf Try.f66)) (bs := []) (by kernel_rfl) LInv.nil)) (ev66 k)
def c25 (k : Nat) : Con := ⟨25, [((.sl T_Event), false), ((.sl T_Event), false)], [.bool], (.own true), fun x => laws_eqEventS k x.1 x.2.1⟩
def F25 (k : Nat) : List Con := [c66 k]
theorem okF25 (k : Nat) : ∀ cn ∈ F25 k, ConOk Try.prog cn := (conCons (ok66 k) conNil)
abbrev S25_4 : Shape := [(0, .v (.sl T_Event)), (1, .v (.sl T_Event)), (5, .v (.int .i64))]
abbrev X25_4 : Exit × Shape := (Exit.ret, [(4, .v .bool)])
abbrev R25_4 : List (Exit × Shape) := [(Exit.exit 0, [])]
def lo25_4 (k : Nat) : LO := loopO [] [] [] S25_4 X25_4 R25_4 (iter (laws_eqEventS_s4 k) k)
theorem st25_4 (k : Nat) (rec v) : evC Try.prog ⟨27, []⟩ (F25 k) (inlN Try.prog (F25 k) 4) [] (lpAt (bodyOf Try.f25) [0]) (Kb [] [] [] S25_4 X25_4 R25_4 rec) (mkSt [] [] S25_4 v.1 v.2) = (laws_eqEventS_s4 k) rec v := by kernel_rfl
theorem lp25_4 (k : Nat) {c : Cx} (hP : c.P = Try.prog) (hm : c.m = ⟨27, []⟩) (hg : c.gs = []) : LoopOk c (lo25_4 k) (lpAt (bodyOf Try.f25) [0]) :=
  loop_at hP hm hg (okF25 k) (LInv.of (code := (lpAt (bodyOf Try.f25) [0])) (bs := []) (by kernel_rfl) LInv.nil) (fun rec v => st25_4 k rec v) k
theorem ev25 (k : Nat) (x) : evF Try.prog (F25 k) (inlN Try.prog (F25 k) 4) [(4, lo25_4 k)] Try.f25 (bodyOf Try.f25) (c25 k).ps (c25 k).rs (c25 k).rm x = (c25 k).m x := by kernel_rfl
theorem ok25 (k : Nat) : ConOk Try.prog (c25 k) :=
  fn_at (okF25 k) (cn := c25 k) (fn := Try.f25) (code := bodyOf Try.f25) (m := ⟨27, []⟩) (gs := []) (by kernel_rfl) (by kernel_rfl) (by kernel_rfl) (by kernel_rfl) (by kernel_rfl) (fun _ => by kernel_rfl)
    [(4, lo25_4 k)] (fun c hP hm hg => (LInv.of (code := (bodyOf Try.f25)) (bs := [(lpAt (bodyOf Try.f25) [0])]) (by kernel_rfl) (LInv.cons (b := (lpAt (bodyOf Try.f25) [0])) (by kernel_rfl) (lp25_4 k hP hm hg) LInv.nil))) (ev25 k)
def c76 (k : Nat) : Con := ⟨76, [((.sl (.int .i64)), false), ((.sl (.int .i64)), false)], [.bool], (.own true), fun x => laws_eqIntS k x.1 x.2.1⟩
def F76 (k : Nat) : List Con := []
theorem okF76 (k : Nat) : ∀ cn ∈ F76 k, ConOk Try.prog cn := conNil
abbrev S76_4 : Shape := [(0, .v (.sl (.int .i64))), (1, .v (.sl (.int .i64))), (5, .v (.int .i64))]
abbrev X76_4 : Exit × Shape := (Exit.ret, [(4, .v .bool)])
abbrev R76_4 : List (Exit × Shape) := [(Exit.exit 0, [])]
def lo76_4 (k : Nat) : LO := loopO [] [] [] S76_4 X76_4 R76_4 (iter (laws_eqIntS_s4) k)
theorem st76_4 (k : Nat) (rec v) : evC Try.prog ⟨26, []⟩ (F76 k) (inlN Try.prog (F76 k) 4) [] (lpAt (bodyOf Try.f76) [0]) (Kb [] [] [] S76_4 X76_4 R76_4 rec) (mkSt [] [] S76_4 v.1 v.2) = (laws_eqIntS_s4) rec v := by kernel_rfl
theorem lp76_4 (k : Nat) {c : Cx} (hP : c.P = Try.prog) (hm : c.m = ⟨26, []⟩) (hg : c.gs = []) : LoopOk c (lo76_4 k) (lpAt (bodyOf Try.f76) [0]) :=
  loop_at hP hm hg (okF76 k) (LInv.of (code := (lpAt (bodyOf Try.f76) [0])) (bs := []) (by kernel_rfl) LInv.nil) (fun rec v => st76_4 k rec v) k
theorem ev76 (k : Nat) (x) : evF Try.prog (F76 k) (inlN Try.prog (F76 k) 4) [(4, lo76_4 k)] Try.f76 (bodyOf Try.f76) (c76 k).ps (c76 k).rs (c76 k).rm x = (c76 k).m x := by kernel_rfl
theorem ok76 (k : Nat) : ConOk Try.prog (c76 k) :=
  fn_at (okF76 k) (cn := c76 k) (fn := Try.f76) (code := bodyOf Try.f76) (m := ⟨26, []⟩) (gs := []) (by kernel_rfl) (by kernel_rfl) (by kernel_rfl) (by kernel_rfl) (by kernel_rfl) (fun _ => by kernel_rfl)
    [(4, lo76_4 k)] (fun c hP hm hg => (LInv.of (code := (bodyOf Try.f76)) (bs := [(lpAt (bodyOf Try.f76) [0])]) (by kernel_rfl) (LInv.cons (b := (lpAt (bodyOf Try.f76) [0])) (by kernel_rfl) (lp76_4 k hP hm hg) LInv.nil))) (ev76 k)
def c67 (k : Nat) : Con := ⟨67, [(T_Out, false), (T_Out, false)], [.bool], (.own true), fun x => laws_eqOut k x.1 x.2.1⟩
def F67 (k : Nat) : List Con := [c92 k, c76 k]
theorem okF67 (k : Nat) : ∀ cn ∈ F67 k, ConOk Try.prog cn := (conCons (ok92 k) (conCons (ok76 k) conNil))
theorem ev67 (k : Nat) (x) : evF Try.prog (F67 k) (inlN Try.prog (F67 k) 4) [] Try.f67 (bodyOf Try.f67) (c67 k).ps (c67 k).rs (c67 k).rm x = (c67 k).m x := by kernel_rfl
theorem ok67 (k : Nat) : ConOk Try.prog (c67 k) :=
  fn_at (okF67 k) (cn := c67 k) (fn := Try.f67) (code := bodyOf Try.f67) (m := ⟨32, []⟩) (gs := []) (by kernel_rfl) (by kernel_rfl) (by kernel_rfl) (by kernel_rfl) (by kernel_rfl) (fun _ => by kernel_rfl)
    [] (fun c hP hm hg => (LInv.of (code := (bodyOf Try.f67)) (bs := []) (by kernel_rfl) LInv.nil)) (ev67 k)
def c26 (k : Nat) : Con := ⟨26, [((.sl T_Out), false), ((.sl T_Out), false)], [.bool], (.own true), fun x => laws_eqOutS k x.1 x.2.1⟩
def F26 (k : Nat) : List Con := [c67 k]
theorem okF26 (k : Nat) : ∀ cn ∈ F26 k, ConOk Try.prog cn := (conCons (ok67 k) conNil)
abbrev S26_4 : Shape := [(0, .v (.sl T_Out)), (1, .v (.sl T_Out)), (5, .v (.int .i64))]
abbrev X26_4 : Exit × Shape := (Exit.ret, [(4, .v .bool)])
abbrev R26_4 : List (Exit × Shape) := [(Exit.exit 0, [])]
def lo26_4 (k : Nat) : LO := loopO [] [] [] S26_4 X26_4 R26_4 (iter (laws_eqOutS_s4 k) k)
theorem st26_4 (k : Nat) (rec v) : evC Try.prog ⟨27, []⟩ (F26 k) (inlN Try.prog (F26 k) 4) [] (lpAt (bodyOf Try.f26) [0]) (Kb [] [] [] S26_4 X26_4 R26_4 rec) (mkSt [] [] S26_4 v.1 v.2) = (laws_eqOutS_s4 k) rec v := by kernel_rfl
theorem lp26_4 (k : Nat) {c : Cx} (hP : c.P = Try.prog) (hm : c.m = ⟨27, []⟩) (hg : c.gs = []) : LoopOk c (lo26_4 k) (lpAt (bodyOf Try.f26) [0]) :=
  loop_at hP hm hg (okF26 k) (LInv.of (code := (lpAt (bodyOf Try.f26) [0])) (bs := []) (by kernel_rfl) LInv.nil) (fun rec v => st26_4 k rec v) k
theorem ev26 (k : Nat) (x) : evF Try.prog (F26 k) (inlN Try.prog (F26 k) 4) [(4, lo26_4 k)] Try.f26 (bodyOf Try.f26) (c26 k).ps (c26 k).rs (c26 k).rm x = (c26 k).m x := by kernel_rfl
theorem ok26 (k : Nat) : ConOk Try.prog (c26 k) :=
  fn_at (okF26 k) (cn := c26 k) (fn := Try.f26) (code := bodyOf Try.f26) (m := ⟨27, []⟩) (gs := []) (by kernel_rfl) (by kernel_rfl) (by kernel_rfl) (by kernel_rfl) (by kernel_rfl) (fun _ => by kernel_rfl)
    [(4, lo26_4 k)] (fun c hP hm hg => (LInv.of (code := (bodyOf Try.f26)) (bs := [(lpAt (bodyOf Try.f26) [0])]) (by kernel_rfl) (LInv.cons (b := (lpAt (bodyOf Try.f26) [0])) (by kernel_rfl) (lp26_4 k hP hm hg) LInv.nil))) (ev26 k)
def c101 (k : Nat) : Con := ⟨101, [(T_Deal, false), (T_Deal, false)], [.bool], (.own true), fun x => laws_eqDeal k x.1 x.2.1⟩
def F101 (k : Nat) : List Con := [c24 k, c76 k]
theorem okF101 (k : Nat) : ∀ cn ∈ F101 k, ConOk Try.prog cn := (conCons (ok24 k) (conCons (ok76 k) conNil))
theorem ev101 (k : Nat) (x) : evF Try.prog (F101 k) (inlN Try.prog (F101 k) 4) [] Try.f101 (bodyOf Try.f101) (c101 k).ps (c101 k).rs (c101 k).rm x = (c101 k).m x := by kernel_rfl
theorem ok101 (k : Nat) : ConOk Try.prog (c101 k) :=
  fn_at (okF101 k) (cn := c101 k) (fn := Try.f101) (code := bodyOf Try.f101) (m := ⟨27, []⟩) (gs := []) (by kernel_rfl) (by kernel_rfl) (by kernel_rfl) (by kernel_rfl) (by kernel_rfl) (fun _ => by kernel_rfl)
    [] (fun c hP hm hg => (LInv.of (code := (bodyOf Try.f101)) (bs := []) (by kernel_rfl) LInv.nil)) (ev101 k)
def c93 (k : Nat) : Con := ⟨93, [(T_TreeDeal, false), (T_TreeDeal, false)], [.bool], (.own true), fun x => laws_eqTreeDeal k x.1 x.2.1⟩
def F93 (k : Nat) : List Con := [c101 k]
theorem okF93 (k : Nat) : ∀ cn ∈ F93 k, ConOk Try.prog cn := (conCons (ok101 k) conNil)
theorem ev93 (k : Nat) (x) : evF Try.prog (F93 k) (inlN Try.prog (F93 k) 4) [] Try.f93 (bodyOf Try.f93) (c93 k).ps (c93 k).rs (c93 k).rm x = (c93 k).m x := by kernel_rfl
theorem ok93 (k : Nat) : ConOk Try.prog (c93 k) :=
  fn_at (okF93 k) (cn := c93 k) (fn := Try.f93) (code := bodyOf Try.f93) (m := ⟨17, []⟩) (gs := []) (by kernel_rfl) (by kernel_rfl) (by kernel_rfl) (by kernel_rfl) (by kernel_rfl) (fun _ => by kernel_rfl)
    [] (fun c hP hm hg => (LInv.of (code := (bodyOf Try.f93)) (bs := []) (by kernel_rfl) LInv.nil)) (ev93 k)
def c68 (k : Nat) : Con := ⟨68, [(T_Dealt, false), (T_Dealt, false)], [.bool], (.own true), fun x => laws_eqDealt k x.1 x.2.1⟩
def F68 (k : Nat) : List Con := [c24 k, c93 k]
theorem okF68 (k : Nat) : ∀ cn ∈ F68 k, ConOk Try.prog cn := (conCons (ok24 k) (conCons (ok93 k) conNil))
theorem ev68 (k : Nat) (x) : evF Try.prog (F68 k) (inlN Try.prog (F68 k) 4) [] Try.f68 (bodyOf Try.f68) (c68 k).ps (c68 k).rs (c68 k).rm x = (c68 k).m x := by kernel_rfl
theorem ok68 (k : Nat) : ConOk Try.prog (c68 k) :=
  fn_at (okF68 k) (cn := c68 k) (fn := Try.f68) (code := bodyOf Try.f68) (m := ⟨22, []⟩) (gs := []) (by kernel_rfl) (by kernel_rfl) (by kernel_rfl) (by kernel_rfl) (by kernel_rfl) (fun _ => by kernel_rfl)
    [] (fun c hP hm hg => (LInv.of (code := (bodyOf Try.f68)) (bs := []) (by kernel_rfl) LInv.nil)) (ev68 k)
def c27 (k : Nat) : Con := ⟨27, [((.sl T_Dealt), false), ((.sl T_Dealt), false)], [.bool], (.own true), fun x => laws_eqDealtS k x.1 x.2.1⟩
def F27 (k : Nat) : List Con := [c68 k]
theorem okF27 (k : Nat) : ∀ cn ∈ F27 k, ConOk Try.prog cn := (conCons (ok68 k) conNil)
abbrev S27_4 : Shape := [(0, .v (.sl T_Dealt)), (1, .v (.sl T_Dealt)), (5, .v (.int .i64))]
abbrev X27_4 : Exit × Shape := (Exit.ret, [(4, .v .bool)])
abbrev R27_4 : List (Exit × Shape) := [(Exit.exit 0, [])]
def lo27_4 (k : Nat) : LO := loopO [] [] [] S27_4 X27_4 R27_4 (iter (laws_eqDealtS_s4 k) k)
theorem st27_4 (k : Nat) (rec v) : evC Try.prog ⟨27, []⟩ (F27 k) (inlN Try.prog (F27 k) 4) [] (lpAt (bodyOf Try.f27) [0]) (Kb [] [] [] S27_4 X27_4 R27_4 rec) (mkSt [] [] S27_4 v.1 v.2) = (laws_eqDealtS_s4 k) rec v := by kernel_rfl
theorem lp27_4 (k : Nat) {c : Cx} (hP : c.P = Try.prog) (hm : c.m = ⟨27, []⟩) (hg : c.gs = []) : LoopOk c (lo27_4 k) (lpAt (bodyOf Try.f27) [0]) :=
  loop_at hP hm hg (okF27 k) (LInv.of (code := (lpAt (bodyOf Try.f27) [0])) (bs := []) (by kernel_rfl) LInv.nil) (fun rec v => st27_4 k rec v) k
theorem ev27 (k : Nat) (x) : evF Try.prog (F27 k) (inlN Try.prog (F27 k) 4) [(4, lo27_4 k)] Try.f27 (bodyOf Try.f27) (c27 k).ps (c27 k).rs (c27 k).rm x = (c27 k).m x := by kernel_rfl
theorem ok27 (k : Nat) : ConOk Try.prog (c27 k) :=
  fn_at (okF27 k) (cn := c27 k) (fn := Try.f27) (code := bodyOf Try.f27) (m := ⟨27, []⟩) (gs := []) (by kernel_rfl) (by kernel_rfl) (by kernel_rfl) (by kernel_rfl) (by kernel_rfl) (fun _ => by kernel_rfl)
    [(4, lo27_4 k)] (fun c hP hm hg => (LInv.of (code := (bodyOf Try.f27)) (bs := [(lpAt (bodyOf Try.f27) [0])]) (by kernel_rfl) (LInv.cons (b := (lpAt (bodyOf Try.f27) [0])) (by kernel_rfl) (lp27_4 k hP hm hg) LInv.nil))) (ev27 k)
def c4 (k : Nat) : Con := ⟨4, [((.sl T_Event), false), ((.sl T_Out), false), ((.sl T_Dealt), false), ((.int .i64), false), ((.int .i64), false)], [.bool], (.own true), fun x => laws_FnExactSpent k x.1 x.2.1 x.2.2.1 x.2.2.2.1 x.2.2.2.2.1⟩
def F4 (k : Nat) : List Con := [c16 k, c17 k, c18 k, c20 k, c21 k, c22 k, c19 k, c23 k, c24 k, c25 k, c26 k, c27 k]
theorem okF4 (k : Nat) : ∀ cn ∈ F4 k, ConOk Try.prog cn := (conCons (ok16 k) (conCons (ok17 k) (conCons (ok18 k) (conCons (ok20 k) (conCons (ok21 k) (conCons (ok22 k) (conCons (ok19 k) (conCons (ok23 k) (conCons (ok24 k) (conCons (ok25 k) (conCons (ok26 k) (conCons (ok27 k) conNil))))))))))))
theorem ev4 (k : Nat) (x) : evF Try.prog (F4 k) (inlN Try.prog (F4 k) 4) [] Try.f4 (bodyOf Try.f4) (c4 k).ps (c4 k).rs (c4 k).rm x = (c4 k).m x := by kernel_rfl
theorem ok4 (k : Nat) : ConOk Try.prog (c4 k) :=
  fn_at (okF4 k) (cn := c4 k) (fn := Try.f4) (code := bodyOf Try.f4) (m := ⟨86, []⟩) (gs := []) (by kernel_rfl) (by kernel_rfl) (by kernel_rfl) (by kernel_rfl) (by kernel_rfl) (fun _ => by kernel_rfl)
    [] (fun c hP hm hg => (LInv.of (code := (bodyOf Try.f4)) (bs := []) (by kernel_rfl) LInv.nil)) (ev4 k)
end Go.Tw
