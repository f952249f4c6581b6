/- Each function is proved to answer as its mirror does. -/
import Derived.Test.YtaigepmndpefgaaMe
import Derived.Test.YtaigepmndpefgaaRows
set_option linter.all false
namespace Go.Tw
open Go Go.RowKit Go.Proofs
def c83 (k : Nat) : Con := ⟨83, [((.sl (.int .u8)), false), ((.int .i64), false)], [(.int .i64)], (.own true), fun x => laws_szByteS x.1 x.2.1⟩
def F83 (k : Nat) : List Con := []
theorem okF83 (k : Nat) : ∀ cn ∈ F83 k, ConOk Try.prog cn := conNil
theorem ev83 (k : Nat) (x) : evF Try.prog (F83 k) (inlN Try.prog (F83 k) 4) [] Try.f83 (bodyOf Try.f83) (c83 k).ps (c83 k).rs (c83 k).rm x = (c83 k).m x := by kernel_rfl
theorem ok83 (k : Nat) : ConOk Try.prog (c83 k) :=
  fn_at (okF83 k) (cn := c83 k) (fn := Try.f83) (code := bodyOf Try.f83) (m := ⟨12, []⟩) (gs := []) (by kernel_rfl) (by kernel_rfl) (by kernel_rfl) (by kernel_rfl) (by kernel_rfl) (fun _ => by kernel_rfl)
    [] (fun c hP hm hg => (LInv.of (code := (bodyOf Try.f83)) (bs := []) (by kernel_rfl) LInv.nil)) (ev83 k)
def c69 (k : Nat) : Con := ⟨69, [((.sl (.int .i64)), false), ((.int .i64), false)], [(.int .i64)], (.own true), fun x => laws_szIntS x.1 x.2.1⟩
def F69 (k : Nat) : List Con := []
theorem okF69 (k : Nat) : ∀ cn ∈ F69 k, ConOk Try.prog cn := conNil
theorem ev69 (k : Nat) (x) : evF Try.prog (F69 k) (inlN Try.prog (F69 k) 4) [] Try.f69 (bodyOf Try.f69) (c69 k).ps (c69 k).rs (c69 k).rm x = (c69 k).m x := by kernel_rfl
theorem ok69 (k : Nat) : ConOk Try.prog (c69 k) :=
  fn_at (okF69 k) (cn := c69 k) (fn := Try.f69) (code := bodyOf Try.f69) (m := ⟨12, []⟩) (gs := []) (by kernel_rfl) (by kernel_rfl) (by kernel_rfl) (by kernel_rfl) (by kernel_rfl) (fun _ => by kernel_rfl)
    [] (fun c hP hm hg => (LInv.of (code := (bodyOf Try.f69)) (bs := []) (by kernel_rfl) LInv.nil)) (ev69 k)
def c48 (k : Nat) : Con := ⟨48, [(T_Out, false), ((.int .i64), false)], [(.int .i64)], (.own true), fun x => laws_szOut x.1 x.2.1⟩
def F48 (k : Nat) : List Con := [c83 k, c69 k]
theorem okF48 (k : Nat) : ∀ cn ∈ F48 k, ConOk Try.prog cn := (conCons (ok83 k) (conCons (ok69 k) conNil))
theorem ev48 (k : Nat) (x) : evF Try.prog (F48 k) (inlN Try.prog (F48 k) 4) [] Try.f48 (bodyOf Try.f48) (c48 k).ps (c48 k).rs (c48 k).rm x = (c48 k).m x := by kernel_rfl
theorem ok48 (k : Nat) : ConOk Try.prog (c48 k) :=
  fn_at (okF48 k) (cn := c48 k) (fn := Try.f48) (code := bodyOf Try.f48) (m := ⟨18, []⟩) (gs := []) (by kernel_rfl) (by kernel_rfl) (by kernel_rfl) (by kernel_rfl) (by kernel_rfl) (fun _ => by kernel_rfl)
    [] (fun c hP hm hg => (LInv.of (code := (bodyOf Try.f48)) (bs := []) (by kernel_rfl) LInv.nil)) (ev48 k)
def c17 (k : Nat) : Con := ⟨17, [((.sl T_Out), false), ((.int .i64), false)], [(.int .i64)], (.own true), fun x => laws_szOutS k x.1 x.2.1⟩
def F17 (k : Nat) : List Con := [c48 k]
theorem okF17 (k : Nat) : ∀ cn ∈ F17 k, ConOk Try.prog cn := (conCons (ok48 k) conNil)
abbrev S17_5 : Shape := [(0, .v (.sl T_Out)), (1, .v (.int .i64)), (5, .v (.int .i64))]
abbrev X17_5 : Exit × Shape := (Exit.ret, [(4, .v (.int .i64))])
abbrev R17_5 : List (Exit × Shape) := [(Exit.exit 0, [(1, .v (.int .i64))])]
def lo17_5 (k : Nat) : LO := loopO [] [] [] S17_5 X17_5 R17_5 (iter (laws_szOutS_s5) k)
theorem st17_5 (k : Nat) (rec v) : evC Try.prog ⟨27, []⟩ (F17 k) (inlN Try.prog (F17 k) 4) [] (lpAt (bodyOf Try.f17) [0]) (Kb [] [] [] S17_5 X17_5 R17_5 rec) (mkSt [] [] S17_5 v.1 v.2) = (laws_szOutS_s5) rec v := by kernel_rfl
theorem lp17_5 (k : Nat) {c : Cx} (hP : c.P = Try.prog) (hm : c.m = ⟨27, []⟩) (hg : c.gs = []) : LoopOk c (lo17_5 k) (lpAt (bodyOf Try.f17) [0]) :=
  loop_at hP hm hg (okF17 k) (LInv.of (code := (lpAt (bodyOf Try.f17) [0])) (bs := []) (by kernel_rfl) LInv.nil) (fun rec v => st17_5 k rec v) k
theorem ev17 (k : Nat) (x) : evF Try.prog (F17 k) (inlN Try.prog (F17 k) 4) [(5, lo17_5 k)] Try.f17 (bodyOf Try.f17) (c17 k).ps (c17 k).rs (c17 k).rm x = (c17 k).m x := by kernel_rfl
theorem ok17 (k : Nat) : ConOk Try.prog (c17 k) :=
  fn_at (okF17 k) (cn := c17 k) (fn := Try.f17) (code := bodyOf Try.f17) (m := ⟨27, []⟩) (gs := []) (by kernel_rfl) (by kernel_rfl) (by kernel_rfl) (by kernel_rfl) (by kernel_rfl) (fun _ => by kernel_rfl)
    [(5, lo17_5 k)] (fun c hP hm hg => (LInv.of (code := (bodyOf Try.f17)) (bs := [(lpAt (bodyOf Try.f17) [0])]) (by kernel_rfl) (LInv.cons (b := (lpAt (bodyOf Try.f17) [0])) (by kernel_rfl) (lp17_5 k hP hm hg) LInv.nil))) (ev17 k)
def c28 (k : Nat) : Con := ⟨28, [(T_Left, false), ((.int .i64), false)], [(.int .i64)], (.own true), fun x => laws_szLeft x.1 x.2.1⟩
def F28 (k : Nat) : List Con := [c69 k]
theorem okF28 (k : Nat) : ∀ cn ∈ F28 k, ConOk Try.prog cn := (conCons (ok69 k) conNil)
theorem ev28 (k : Nat) (x) : evF Try.prog (F28 k) (inlN Try.prog (F28 k) 4) [] Try.f28 (bodyOf Try.f28) (c28 k).ps (c28 k).rs (c28 k).rm x = (c28 k).m x := by kernel_rfl
theorem ok28 (k : Nat) : ConOk Try.prog (c28 k) :=
  fn_at (okF28 k) (cn := c28 k) (fn := Try.f28) (code := bodyOf Try.f28) (m := ⟨18, []⟩) (gs := []) (by kernel_rfl) (by kernel_rfl) (by kernel_rfl) (by kernel_rfl) (by kernel_rfl) (fun _ => by kernel_rfl)
    [] (fun c hP hm hg => (LInv.of (code := (bodyOf Try.f28)) (bs := []) (by kernel_rfl) LInv.nil)) (ev28 k)
def c85 (k : Nat) : Con := ⟨85, [((.sl (.int .u8)), false)], [(.sl (.int .u8))], (.own true), fun x => laws_toByteS k x.1⟩
def F85 (k : Nat) : List Con := []
theorem okF85 (k : Nat) : ∀ cn ∈ F85 k, ConOk Try.prog cn := conNil
abbrev S85_3 : Shape := [(0, .v (.sl (.int .u8))), (3, .own true (.sl (.int .u8))), (4, .v (.int .i64))]
abbrev X85_3 : Exit × Shape := (Exit.exit 0, [(3, .own true (.sl (.int .u8)))])
abbrev R85_3 : List (Exit × Shape) := []
def lo85_3 (k : Nat) : LO := loopO [] [] [] S85_3 X85_3 R85_3 (iter (laws_toByteS_s3) k)
theorem st85_3 (k : Nat) (rec v) : evC Try.prog ⟨22, []⟩ (F85 k) (inlN Try.prog (F85 k) 4) [] (lpAt (bodyOf Try.f85) [0]) (Kb [] [] [] S85_3 X85_3 R85_3 rec) (mkSt [] [] S85_3 v.1 v.2) = (laws_toByteS_s3) rec v := by kernel_rfl
theorem lp85_3 (k : Nat) {c : Cx} (hP : c.P = Try.prog) (hm : c.m = ⟨22, []⟩) (hg : c.gs = []) : LoopOk c (lo85_3 k) (lpAt (bodyOf Try.f85) [0]) :=
  loop_at hP hm hg (okF85 k) (LInv.of (code := (lpAt (bodyOf Try.f85) [0])) (bs := []) (by kernel_rfl) LInv.nil) (fun rec v => st85_3 k rec v) k
theorem ev85 (k : Nat) (x) : evF Try.prog (F85 k) (inlN Try.prog (F85 k) 4) [(3, lo85_3 k)] Try.f85 (bodyOf Try.f85) (c85 k).ps (c85 k).rs (c85 k).rm x = (c85 k).m x := by kernel_rfl
theorem ok85 (k : Nat) : ConOk Try.prog (c85 k) :=
  fn_at (okF85 k) (cn := c85 k) (fn := Try.f85) (code := bodyOf Try.f85) (m := ⟨22, []⟩) (gs := []) (by kernel_rfl) (by kernel_rfl) (by kernel_rfl) (by kernel_rfl) (by kernel_rfl) (fun _ => by kernel_rfl)
    [(3, lo85_3 k)] (fun c hP hm hg => (LInv.of (code := (bodyOf Try.f85)) (bs := [(lpAt (bodyOf Try.f85) [0])]) (by kernel_rfl) (LInv.cons (b := (lpAt (bodyOf Try.f85) [0])) (by kernel_rfl) (lp85_3 k hP hm hg) LInv.nil))) (ev85 k)
def c70 (k : Nat) : Con := ⟨70, [((.sl (.int .i64)), false)], [(.sl (.int .i64))], (.own true), fun x => laws_toIntS k x.1⟩
def F70 (k : Nat) : List Con := []
theorem okF70 (k : Nat) : ∀ cn ∈ F70 k, ConOk Try.prog cn := conNil
abbrev S70_3 : Shape := [(0, .v (.sl (.int .i64))), (3, .own true (.sl (.int .i64))), (4, .v (.int .i64))]
abbrev X70_3 : Exit × Shape := (Exit.exit 0, [(3, .own true (.sl (.int .i64)))])
abbrev R70_3 : List (Exit × Shape) := []
def lo70_3 (k : Nat) : LO := loopO [] [] [] S70_3 X70_3 R70_3 (iter (laws_toIntS_s3) k)
theorem st70_3 (k : Nat) (rec v) : evC Try.prog ⟨22, []⟩ (F70 k) (inlN Try.prog (F70 k) 4) [] (lpAt (bodyOf Try.f70) [0]) (Kb [] [] [] S70_3 X70_3 R70_3 rec) (mkSt [] [] S70_3 v.1 v.2) = (laws_toIntS_s3) rec v := by kernel_rfl
theorem lp70_3 (k : Nat) {c : Cx} (hP : c.P = Try.prog) (hm : c.m = ⟨22, []⟩) (hg : c.gs = []) : LoopOk c (lo70_3 k) (lpAt (bodyOf Try.f70) [0]) :=
  loop_at hP hm hg (okF70 k) (LInv.of (code := (lpAt (bodyOf Try.f70) [0])) (bs := []) (by kernel_rfl) LInv.nil) (fun rec v => st70_3 k rec v) k
theorem ev70 (k : Nat) (x) : evF Try.prog (F70 k) (inlN Try.prog (F70 k) 4) [(3, lo70_3 k)] Try.f70 (bodyOf Try.f70) (c70 k).ps (c70 k).rs (c70 k).rm x = (c70 k).m x := by kernel_rfl
theorem ok70 (k : Nat) : ConOk Try.prog (c70 k) :=
  fn_at (okF70 k) (cn := c70 k) (fn := Try.f70) (code := bodyOf Try.f70) (m := ⟨22, []⟩) (gs := []) (by kernel_rfl) (by kernel_rfl) (by kernel_rfl) (by kernel_rfl) (by kernel_rfl) (fun _ => by kernel_rfl)
    [(3, lo70_3 k)] (fun c hP hm hg => (LInv.of (code := (bodyOf Try.f70)) (bs := [(lpAt (bodyOf Try.f70) [0])]) (by kernel_rfl) (LInv.cons (b := (lpAt (bodyOf Try.f70) [0])) (by kernel_rfl) (lp70_3 k hP hm hg) LInv.nil))) (ev70 k)
def c55 (k : Nat) : Con := ⟨55, [(T_Out, false)], [T_Out], (.own true), fun x => laws_toOut k x.1⟩
def F55 (k : Nat) : List Con := [c85 k, c70 k]
theorem okF55 (k : Nat) : ∀ cn ∈ F55 k, ConOk Try.prog cn := (conCons (ok85 k) (conCons (ok70 k) conNil))
theorem ev55 (k : Nat) (x) : evF Try.prog (F55 k) (inlN Try.prog (F55 k) 4) [] Try.f55 (bodyOf Try.f55) (c55 k).ps (c55 k).rs (c55 k).rm x = (c55 k).m x := by kernel_rfl
theorem ok55 (k : Nat) : ConOk Try.prog (c55 k) :=
  fn_at (okF55 k) (cn := c55 k) (fn := Try.f55) (code := bodyOf Try.f55) (m := ⟨22, []⟩) (gs := []) (by kernel_rfl) (by kernel_rfl) (by kernel_rfl) (by kernel_rfl) (by kernel_rfl) (fun _ => by kernel_rfl)
    [] (fun c hP hm hg => (LInv.of (code := (bodyOf Try.f55)) (bs := []) (by kernel_rfl) LInv.nil)) (ev55 k)
def c21 (k : Nat) : Con := ⟨21, [((.sl T_Out), false)], [(.sl T_Out)], (.own true), fun x => laws_toOutS k x.1⟩
def F21 (k : Nat) : List Con := [c55 k]
theorem okF21 (k : Nat) : ∀ cn ∈ F21 k, ConOk Try.prog cn := (conCons (ok55 k) conNil)
abbrev S21_3 : Shape := [(0, .v (.sl T_Out)), (3, .own true (.sl T_Out)), (4, .v (.int .i64))]
abbrev X21_3 : Exit × Shape := (Exit.exit 0, [(3, .own true (.sl T_Out))])
abbrev R21_3 : List (Exit × Shape) := []
def lo21_3 (k : Nat) : LO := loopO [] [] [] S21_3 X21_3 R21_3 (iter (laws_toOutS_s3 k) k)
theorem st21_3 (k : Nat) (rec v) : evC Try.prog ⟨23, []⟩ (F21 k) (inlN Try.prog (F21 k) 4) [] (lpAt (bodyOf Try.f21) [0]) (Kb [] [] [] S21_3 X21_3 R21_3 rec) (mkSt [] [] S21_3 v.1 v.2) = (laws_toOutS_s3 k) rec v := by kernel_rfl
theorem lp21_3 (k : Nat) {c : Cx} (hP : c.P = Try.prog) (hm : c.m = ⟨23, []⟩) (hg : c.gs = []) : LoopOk c (lo21_3 k) (lpAt (bodyOf Try.f21) [0]) :=
  loop_at hP hm hg (okF21 k) (LInv.of (code := (lpAt (bodyOf Try.f21) [0])) (bs := []) (by kernel_rfl) LInv.nil) (fun rec v => st21_3 k rec v) k
theorem ev21 (k : Nat) (x) : evF Try.prog (F21 k) (inlN Try.prog (F21 k) 4) [(3, lo21_3 k)] Try.f21 (bodyOf Try.f21) (c21 k).ps (c21 k).rs (c21 k).rm x = (c21 k).m x := by kernel_rfl
theorem ok21 (k : Nat) : ConOk Try.prog (c21 k) :=
  fn_at (okF21 k) (cn := c21 k) (fn := Try.f21) (code := bodyOf Try.f21) (m := ⟨23, []⟩) (gs := []) (by kernel_rfl) (by kernel_rfl) (by kernel_rfl) (by kernel_rfl) (by kernel_rfl) (fun _ => by kernel_rfl)
    [(3, lo21_3 k)] (fun c hP hm hg => (LInv.of (code := (bodyOf Try.f21)) (bs := [(lpAt (bodyOf Try.f21) [0])]) (by kernel_rfl) (LInv.cons (b := (lpAt (bodyOf Try.f21) [0])) (by kernel_rfl) (lp21_3 k hP hm hg) LInv.nil))) (ev21 k)
def c30 (k : Nat) : Con := ⟨30, [(T_Left, false)], [T_Left], (.own true), fun x => laws_toLeft k x.1⟩
def F30 (k : Nat) : List Con := [c70 k]
theorem okF30 (k : Nat) : ∀ cn ∈ F30 k, ConOk Try.prog cn := (conCons (ok70 k) conNil)
theorem ev30 (k : Nat) (x) : evF Try.prog (F30 k) (inlN Try.prog (F30 k) 4) [] Try.f30 (bodyOf Try.f30) (c30 k).ps (c30 k).rs (c30 k).rm x = (c30 k).m x := by kernel_rfl
theorem ok30 (k : Nat) : ConOk Try.prog (c30 k) :=
  fn_at (okF30 k) (cn := c30 k) (fn := Try.f30) (code := bodyOf Try.f30) (m := ⟨22, []⟩) (gs := []) (by kernel_rfl) (by kernel_rfl) (by kernel_rfl) (by kernel_rfl) (by kernel_rfl) (fun _ => by kernel_rfl)
    [] (fun c hP hm hg => (LInv.of (code := (bodyOf Try.f30)) (bs := []) (by kernel_rfl) LInv.nil)) (ev30 k)
def c51 (k : Nat) : Con := ⟨51, [((.sl T_Out), false)], [.bool], (.own true), fun x => spec_l24Few x.1⟩
def F51 (k : Nat) : List Con := []
theorem okF51 (k : Nat) : ∀ cn ∈ F51 k, ConOk Try.prog cn := conNil
theorem ev51 (k : Nat) (x) : evF Try.prog (F51 k) (inlN Try.prog (F51 k) 4) [] Try.f51 (bodyOf Try.f51) (c51 k).ps (c51 k).rs (c51 k).rm x = (c51 k).m x := by kernel_rfl
theorem ok51 (k : Nat) : ConOk Try.prog (c51 k) :=
  fn_at (okF51 k) (cn := c51 k) (fn := Try.f51) (code := bodyOf Try.f51) (m := ⟨6, []⟩) (gs := []) (by kernel_rfl) (by kernel_rfl) (by kernel_rfl) (by kernel_rfl) (by kernel_rfl) (fun _ => by kernel_rfl)
    [] (fun c hP hm hg => (LInv.of (code := (bodyOf Try.f51)) (bs := []) (by kernel_rfl) LInv.nil)) (ev51 k)
def c29 (k : Nat) : Con := ⟨29, [((.int .i64), false), ((.sl T_Out), false), (T_Left, false)], [(.int .i64)], (.own true), fun x => spec_Ledger k x.1 x.2.1 x.2.2.1⟩
def F29 (k : Nat) : List Con := [c51 k]
theorem okF29 (k : Nat) : ∀ cn ∈ F29 k, ConOk Try.prog cn := (conCons (ok51 k) conNil)
abbrev S29_5 : Shape := [(0, .v (.int .i64)), (1, .v (.sl T_Out)), (5, .boxv T_Left), (7, .own true (.sl (.int .i64))), (8, .v (.int .i64))]
abbrev X29_5 : Exit × Shape := (Exit.exit 0, [(0, .v (.int .i64)), (5, .boxv T_Left), (7, .own true (.sl (.int .i64)))])
abbrev R29_5 : List (Exit × Shape) := []
def lo29_5 (k : Nat) : LO := loopO [] [] [] S29_5 X29_5 R29_5 (iter (spec_Ledger_s5) k)
theorem st29_5 (k : Nat) (rec v) : evC Try.prog ⟨125, []⟩ (F29 k) (inlN Try.prog (F29 k) 4) [] (lpAt (bodyOf Try.f29) [0]) (Kb [] [] [] S29_5 X29_5 R29_5 rec) (mkSt [] [] S29_5 v.1 v.2) = (spec_Ledger_s5) rec v := by kernel_rfl
theorem lp29_5 (k : Nat) {c : Cx} (hP : c.P = Try.prog) (hm : c.m = ⟨125, []⟩) (hg : c.gs = []) : LoopOk c (lo29_5 k) (lpAt (bodyOf Try.f29) [0]) :=
  loop_at hP hm hg (okF29 k) (LInv.of (code := (lpAt (bodyOf Try.f29) [0])) (bs := []) (by kernel_rfl) LInv.nil) (fun rec v => st29_5 k rec v) k
abbrev S29_11 : Shape := [(0, .v (.int .i64)), (7, .own true (.sl (.int .i64))), (9, .v (.int .i64))]
abbrev X29_11 : Exit × Shape := (Exit.ret, [(6, .v (.int .i64))])
abbrev R29_11 : List (Exit × Shape) := [(Exit.exit 2, [(0, .v (.int .i64)), (7, .own true (.sl (.int .i64)))])]
def lo29_11 (k : Nat) : LO := loopO [] [] [] S29_11 X29_11 R29_11 (iter (spec_Ledger_s11) k)
theorem st29_11 (k : Nat) (rec v) : evC Try.prog ⟨125, []⟩ (F29 k) (inlN Try.prog (F29 k) 4) [] (lpAt (bodyOf Try.f29) [1]) (Kb [] [] [] S29_11 X29_11 R29_11 rec) (mkSt [] [] S29_11 v.1 v.2) = (spec_Ledger_s11) rec v := by kernel_rfl
theorem lp29_11 (k : Nat) {c : Cx} (hP : c.P = Try.prog) (hm : c.m = ⟨125, []⟩) (hg : c.gs = []) : LoopOk c (lo29_11 k) (lpAt (bodyOf Try.f29) [1]) :=
  loop_at hP hm hg (okF29 k) (LInv.of (code := (lpAt (bodyOf Try.f29) [1])) (bs := []) (by kernel_rfl) LInv.nil) (fun rec v => st29_11 k rec v) k
abbrev S29_17 : Shape := [(0, .v (.int .i64)), (7, .own true (.sl (.int .i64))), (10, .own true (.sl (.int .i64))), (11, .v (.int .i64))]
abbrev X29_17 : Exit × Shape := (Exit.exit 4, [(0, .v (.int .i64)), (10, .own true (.sl (.int .i64)))])
abbrev R29_17 : List (Exit × Shape) := []
def lo29_17 (k : Nat) : LO := loopO [] [] [] S29_17 X29_17 R29_17 (iter (spec_Ledger_s17) k)
theorem st29_17 (k : Nat) (rec v) : evC Try.prog ⟨125, []⟩ (F29 k) (inlN Try.prog (F29 k) 4) [] (lpAt (bodyOf Try.f29) [2]) (Kb [] [] [] S29_17 X29_17 R29_17 rec) (mkSt [] [] S29_17 v.1 v.2) = (spec_Ledger_s17) rec v := by kernel_rfl
theorem lp29_17 (k : Nat) {c : Cx} (hP : c.P = Try.prog) (hm : c.m = ⟨125, []⟩) (hg : c.gs = []) : LoopOk c (lo29_17 k) (lpAt (bodyOf Try.f29) [2]) :=
  loop_at hP hm hg (okF29 k) (LInv.of (code := (lpAt (bodyOf Try.f29) [2])) (bs := []) (by kernel_rfl) LInv.nil) (fun rec v => st29_17 k rec v) k
abbrev S29_22 : Shape := [(0, .v (.int .i64)), (10, .own true (.sl (.int .i64))), (12, .v (.int .i64)), (13, .v (.int .i64))]
abbrev X29_22 : Exit × Shape := (Exit.ret, [(6, .v (.int .i64))])
abbrev R29_22 : List (Exit × Shape) := [(Exit.exit 6, [(12, .v (.int .i64))])]
def lo29_22 (k : Nat) : LO := loopO [] [] [] S29_22 X29_22 R29_22 (iter (spec_Ledger_s22) k)
theorem st29_22 (k : Nat) (rec v) : evC Try.prog ⟨125, []⟩ (F29 k) (inlN Try.prog (F29 k) 4) [] (lpAt (bodyOf Try.f29) [3]) (Kb [] [] [] S29_22 X29_22 R29_22 rec) (mkSt [] [] S29_22 v.1 v.2) = (spec_Ledger_s22) rec v := by kernel_rfl
theorem lp29_22 (k : Nat) {c : Cx} (hP : c.P = Try.prog) (hm : c.m = ⟨125, []⟩) (hg : c.gs = []) : LoopOk c (lo29_22 k) (lpAt (bodyOf Try.f29) [3]) :=
  loop_at hP hm hg (okF29 k) (LInv.of (code := (lpAt (bodyOf Try.f29) [3])) (bs := []) (by kernel_rfl) LInv.nil) (fun rec v => st29_22 k rec v) k
theorem ev29 (k : Nat) (x) : evF Try.prog (F29 k) (inlN Try.prog (F29 k) 4) [(5, lo29_5 k), (11, lo29_11 k), (17, lo29_17 k), (22, lo29_22 k)] Try.f29 (bodyOf Try.f29) (c29 k).ps (c29 k).rs (c29 k).rm x = (c29 k).m x := by kernel_rfl
theorem ok29 (k : Nat) : ConOk Try.prog (c29 k) :=
  fn_at (okF29 k) (cn := c29 k) (fn := Try.f29) (code := bodyOf Try.f29) (m := ⟨125, []⟩) (gs := []) (by kernel_rfl) (by kernel_rfl) (by kernel_rfl) (by kernel_rfl) (by kernel_rfl) (fun _ => by kernel_rfl)
    [(5, lo29_5 k), (11, lo29_11 k), (17, lo29_17 k), (22, lo29_22 k)] (fun c hP hm hg => (LInv.of (code := (bodyOf Try.f29)) (bs := [(lpAt (bodyOf Try.f29) [0]), (lpAt (bodyOf Try.f29) [1]), (lpAt (bodyOf Try.f29) [2]), (lpAt (bodyOf Try.f29) [3])]) (by kernel_rfl) (LInv.cons (b := (lpAt (bodyOf Try.f29) [0])) (by kernel_rfl) (lp29_5 k hP hm hg) (LInv.cons (b := (lpAt (bodyOf Try.f29) [1])) (by kernel_rfl) (lp29_11 k hP hm hg) (LInv.cons (b := (lpAt (bodyOf Try.f29) [2])) (by kernel_rfl) (lp29_17 k hP hm hg) (LInv.cons (b := (lpAt (bodyOf Try.f29) [3])) (by kernel_rfl) (lp29_22 k hP hm hg) LInv.nil)))))) (ev29 k)
def c40 (k : Nat) : Con := ⟨40, [((.int .i64), false), ((.int .i64), false), ((.int .i64), false)], [.bool], (.own true), fun x => impl_within x.1 x.2.1 x.2.2.1⟩
def F40 (k : Nat) : List Con := []
theorem okF40 (k : Nat) : ∀ cn ∈ F40 k, ConOk Try.prog cn := conNil
theorem ev40 (k : Nat) (x) : evF Try.prog (F40 k) (inlN Try.prog (F40 k) 4) [] Try.f40 (bodyOf Try.f40) (c40 k).ps (c40 k).rs (c40 k).rm x = (c40 k).m x := by kernel_rfl
theorem ok40 (k : Nat) : ConOk Try.prog (c40 k) :=
  fn_at (okF40 k) (cn := c40 k) (fn := Try.f40) (code := bodyOf Try.f40) (m := ⟨15, []⟩) (gs := []) (by kernel_rfl) (by kernel_rfl) (by kernel_rfl) (by kernel_rfl) (by kernel_rfl) (fun _ => by kernel_rfl)
    [] (fun c hP hm hg => (LInv.of (code := (bodyOf Try.f40)) (bs := []) (by kernel_rfl) LInv.nil)) (ev40 k)
def c71 (k : Nat) : Con := ⟨71, [((.sl T_Out), false), (T_Left, false)], [.bool], (.own true), fun x => impl_areShort x.1 x.2.1⟩
def F71 (k : Nat) : List Con := []
theorem okF71 (k : Nat) : ∀ cn ∈ F71 k, ConOk Try.prog cn := conNil
theorem ev71 (k : Nat) (x) : evF Try.prog (F71 k) (inlN Try.prog (F71 k) 4) [] Try.f71 (bodyOf Try.f71) (c71 k).ps (c71 k).rs (c71 k).rm x = (c71 k).m x := by kernel_rfl
theorem ok71 (k : Nat) : ConOk Try.prog (c71 k) :=
  fn_at (okF71 k) (cn := c71 k) (fn := Try.f71) (code := bodyOf Try.f71) (m := ⟨20, []⟩) (gs := []) (by kernel_rfl) (by kernel_rfl) (by kernel_rfl) (by kernel_rfl) (by kernel_rfl) (fun _ => by kernel_rfl)
    [] (fun c hP hm hg => (LInv.of (code := (bodyOf Try.f71)) (bs := []) (by kernel_rfl) LInv.nil)) (ev71 k)
def c72 (k : Nat) : Con := ⟨72, [((.sl (.sl (.int .i64))), false)], [(.sl (.int .i64))], (.own true), fun x => slices_Concat_int k x.1⟩
def F72 (k : Nat) : List Con := []
theorem okF72 (k : Nat) : ∀ cn ∈ F72 k, ConOk Try.prog cn := conNil
abbrev S72_3 : Shape := [(0, .v (.sl (.sl (.int .i64)))), (3, .v (.int .i64)), (9, .v (.sl (.sl (.int .i64)))), (10, .v (.int .i64)), (11, .v (.int .i64))]
abbrev X72_3 : Exit × Shape := (Exit.exit 0, [(0, .v (.sl (.sl (.int .i64)))), (3, .v (.int .i64))])
abbrev R72_3 : List (Exit × Shape) := []
def lo72_3 (k : Nat) : LO := loopO [] [] [] S72_3 X72_3 R72_3 (iter (slices_Concat_int_s3) k)
theorem st72_3 (k : Nat) (rec v) : evC Try.prog ⟨36, []⟩ (F72 k) (inlN Try.prog (F72 k) 4) [] (lpAt (bodyOf Try.f72) [0]) (Kb [] [] [] S72_3 X72_3 R72_3 rec) (mkSt [] [] S72_3 v.1 v.2) = (slices_Concat_int_s3) rec v := by kernel_rfl
theorem lp72_3 (k : Nat) {c : Cx} (hP : c.P = Try.prog) (hm : c.m = ⟨36, []⟩) (hg : c.gs = []) : LoopOk c (lo72_3 k) (lpAt (bodyOf Try.f72) [0]) :=
  loop_at hP hm hg (okF72 k) (LInv.of (code := (lpAt (bodyOf Try.f72) [0])) (bs := []) (by kernel_rfl) LInv.nil) (fun rec v => st72_3 k rec v) k
abbrev S72_11 : Shape := [(6, .own true (.sl (.int .i64))), (25, .v (.sl (.sl (.int .i64)))), (26, .v (.int .i64)), (27, .v (.int .i64))]
abbrev X72_11 : Exit × Shape := (Exit.exit 2, [(6, .own true (.sl (.int .i64)))])
abbrev R72_11 : List (Exit × Shape) := []
def lo72_11 (k : Nat) : LO := loopO [] [] [] S72_11 X72_11 R72_11 (iter (slices_Concat_int_s11) k)
theorem st72_11 (k : Nat) (rec v) : evC Try.prog ⟨36, []⟩ (F72 k) (inlN Try.prog (F72 k) 4) [] (lpAt (bodyOf Try.f72) [1]) (Kb [] [] [] S72_11 X72_11 R72_11 rec) (mkSt [] [] S72_11 v.1 v.2) = (slices_Concat_int_s11) rec v := by kernel_rfl
theorem lp72_11 (k : Nat) {c : Cx} (hP : c.P = Try.prog) (hm : c.m = ⟨36, []⟩) (hg : c.gs = []) : LoopOk c (lo72_11 k) (lpAt (bodyOf Try.f72) [1]) :=
  loop_at hP hm hg (okF72 k) (LInv.of (code := (lpAt (bodyOf Try.f72) [1])) (bs := []) (by kernel_rfl) LInv.nil) (fun rec v => st72_11 k rec v) k
theorem ev72 (k : Nat) (x) : evF Try.prog (F72 k) (inlN Try.prog (F72 k) 4) [(3, lo72_3 k), (11, lo72_11 k)] Try.f72 (bodyOf Try.f72) (c72 k).ps (c72 k).rs (c72 k).rm x = (c72 k).m x := by kernel_rfl
theorem ok72 (k : Nat) : ConOk Try.prog (c72 k) :=
  fn_at (okF72 k) (cn := c72 k) (fn := Try.f72) (code := bodyOf Try.f72) (m := ⟨36, []⟩) (gs := []) (by kernel_rfl) (by kernel_rfl) (by kernel_rfl) (by kernel_rfl) (by kernel_rfl) (fun _ => by kernel_rfl)
    [(3, lo72_3 k), (11, lo72_11 k)] (fun c hP hm hg => (LInv.of (code := (bodyOf Try.f72)) (bs := [(lpAt (bodyOf Try.f72) [0]), (lpAt (bodyOf Try.f72) [1])]) (by kernel_rfl) (LInv.cons (b := (lpAt (bodyOf Try.f72) [0])) (by kernel_rfl) (lp72_3 k hP hm hg) (LInv.cons (b := (lpAt (bodyOf Try.f72) [1])) (by kernel_rfl) (lp72_11 k hP hm hg) LInv.nil)))) (ev72 k)
def c73 (k : Nat) : Con := ⟨73, [((.sl (.int .i64)), true)], [], (.own true), fun x => sortC x.1⟩
theorem ok73 (k : Nat) : ConOk Try.prog (c73 k) := sort_ok
def c75 (k : Nat) : Con := ⟨75, [((.sl (.int .i64)), false)], [(.sl (.int .i64))], (.own true), fun x => slices_Clone_int x.1⟩
theorem ok75 (k : Nat) : ConOk Try.prog (c75 k) :=
  fn_nil conNil (fn := Try.f75) (code := bodyOf Try.f75) (by kernel_rfl) (by kernel_rfl) (by kernel_rfl) (by kernel_rfl) (by kernel_rfl) (fun e l => by kernel_rfl) (by kernel_rfl) (fun A cap => by kernel_rfl)
def c74 (k : Nat) : Con := ⟨74, [((.sl (.int .i64)), true)], [(.sl (.int .i64))], .mv, fun x => compactC x.1⟩
theorem ok74 (k : Nat) : ConOk Try.prog (c74 k) := compact_ok
def c31 (k : Nat) : Con := ⟨31, [((.int .i64), false), ((.sl T_Out), false), (T_Left, false)], [(.int .i64)], (.own true), fun x => impl_Ledger k x.1 x.2.1 x.2.2.1⟩
def F31 (k : Nat) : List Con := [c40 k, c71 k, c72 k, c73 k, c75 k, c74 k]
theorem okF31 (k : Nat) : ∀ cn ∈ F31 k, ConOk Try.prog cn := (conCons (ok40 k) (conCons (ok71 k) (conCons (ok72 k) (conCons (ok73 k) (conCons (ok75 k) (conCons (ok74 k) conNil))))))
abbrev S31_5 : Shape := [(0, .v (.int .i64)), (7, .own true (.sl (.int .i64))), (25, .v (.sl T_Out)), (26, .v (.int .i64)), (27, .v (.int .i64))]
abbrev X31_5 : Exit × Shape := (Exit.exit 0, [(0, .v (.int .i64)), (7, .own true (.sl (.int .i64)))])
abbrev R31_5 : List (Exit × Shape) := []
def lo31_5 (k : Nat) : LO := loopO [] [] [] S31_5 X31_5 R31_5 (iter (impl_Ledger_s5) k)
theorem st31_5 (k : Nat) (rec v) : evC Try.prog ⟨80, []⟩ (F31 k) (inlN Try.prog (F31 k) 4) [] (lpAt (bodyOf Try.f31) [0]) (Kb [] [] [] S31_5 X31_5 R31_5 rec) (mkSt [] [] S31_5 v.1 v.2) = (impl_Ledger_s5) rec v := by kernel_rfl
theorem lp31_5 (k : Nat) {c : Cx} (hP : c.P = Try.prog) (hm : c.m = ⟨80, []⟩) (hg : c.gs = []) : LoopOk c (lo31_5 k) (lpAt (bodyOf Try.f31) [0]) :=
  loop_at hP hm hg (okF31 k) (LInv.of (code := (lpAt (bodyOf Try.f31) [0])) (bs := []) (by kernel_rfl) LInv.nil) (fun rec v => st31_5 k rec v) k
theorem ev31 (k : Nat) (x) : evF Try.prog (F31 k) (inlN Try.prog (F31 k) 4) [(5, lo31_5 k)] Try.f31 (bodyOf Try.f31) (c31 k).ps (c31 k).rs (c31 k).rm x = (c31 k).m x := by kernel_rfl
theorem ok31 (k : Nat) : ConOk Try.prog (c31 k) :=
  fn_at (okF31 k) (cn := c31 k) (fn := Try.f31) (code := bodyOf Try.f31) (m := ⟨80, []⟩) (gs := []) (by kernel_rfl) (by kernel_rfl) (by kernel_rfl) (by kernel_rfl) (by kernel_rfl) (fun _ => by kernel_rfl)
    [(5, lo31_5 k)] (fun c hP hm hg => (LInv.of (code := (bodyOf Try.f31)) (bs := [(lpAt (bodyOf Try.f31) [0])]) (by kernel_rfl) (LInv.cons (b := (lpAt (bodyOf Try.f31) [0])) (by kernel_rfl) (lp31_5 k hP hm hg) LInv.nil))) (ev31 k)
def c92 (k : Nat) : Con := ⟨92, [((.sl (.int .u8)), false), ((.sl (.int .u8)), false)], [.bool], (.own true), fun x => laws_eqByteS k x.1 x.2.1⟩
def F92 (k : Nat) : List Con := []
theorem okF92 (k : Nat) : ∀ cn ∈ F92 k, ConOk Try.prog cn := conNil
abbrev S92_4 : Shape := [(0, .v (.sl (.int .u8))), (1, .v (.sl (.int .u8))), (5, .v (.int .i64))]
abbrev X92_4 : Exit × Shape := (Exit.ret, [(4, .v .bool)])
abbrev R92_4 : List (Exit × Shape) := [(Exit.exit 0, [])]
def lo92_4 (k : Nat) : LO := loopO [] [] [] S92_4 X92_4 R92_4 (iter (laws_eqByteS_s4) k)
theorem st92_4 (k : Nat) (rec v) : evC Try.prog ⟨26, []⟩ (F92 k) (inlN Try.prog (F92 k) 4) [] (lpAt (bodyOf Try.f92) [0]) (Kb [] [] [] S92_4 X92_4 R92_4 rec) (mkSt [] [] S92_4 v.1 v.2) = (laws_eqByteS_s4) rec v := by kernel_rfl
theorem lp92_4 (k : Nat) {c : Cx} (hP : c.P = Try.prog) (hm : c.m = ⟨26, []⟩) (hg : c.gs = []) : LoopOk c (lo92_4 k) (lpAt (bodyOf Try.f92) [0]) :=
  loop_at hP hm hg (okF92 k) (LInv.of (code := (lpAt (bodyOf Try.f92) [0])) (bs := []) (by kernel_rfl) LInv.nil) (fun rec v => st92_4 k rec v) k
theorem ev92 (k : Nat) (x) : evF Try.prog (F92 k) (inlN Try.prog (F92 k) 4) [(4, lo92_4 k)] Try.f92 (bodyOf Try.f92) (c92 k).ps (c92 k).rs (c92 k).rm x = (c92 k).m x := by kernel_rfl
theorem ok92 (k : Nat) : ConOk Try.prog (c92 k) :=
  fn_at (okF92 k) (cn := c92 k) (fn := Try.f92) (code := bodyOf Try.f92) (m := ⟨26, []⟩) (gs := []) (by kernel_rfl) (by kernel_rfl) (by kernel_rfl) (by kernel_rfl) (by kernel_rfl) (fun _ => by kernel_rfl)
    [(4, lo92_4 k)] (fun c hP hm hg => (LInv.of (code := (bodyOf Try.f92)) (bs := [(lpAt (bodyOf Try.f92) [0])]) (by kernel_rfl) (LInv.cons (b := (lpAt (bodyOf Try.f92) [0])) (by kernel_rfl) (lp92_4 k hP hm hg) LInv.nil))) (ev92 k)
def c76 (k : Nat) : Con := ⟨76, [((.sl (.int .i64)), false), ((.sl (.int .i64)), false)], [.bool], (.own true), fun x => laws_eqIntS k x.1 x.2.1⟩
def F76 (k : Nat) : List Con := []
theorem okF76 (k : Nat) : ∀ cn ∈ F76 k, ConOk Try.prog cn := conNil
abbrev S76_4 : Shape := [(0, .v (.sl (.int .i64))), (1, .v (.sl (.int .i64))), (5, .v (.int .i64))]
abbrev X76_4 : Exit × Shape := (Exit.ret, [(4, .v .bool)])
abbrev R76_4 : List (Exit × Shape) := [(Exit.exit 0, [])]
def lo76_4 (k : Nat) : LO := loopO [] [] [] S76_4 X76_4 R76_4 (iter (laws_eqIntS_s4) k)
theorem st76_4 (k : Nat) (rec v) : evC Try.prog ⟨26, []⟩ (F76 k) (inlN Try.prog (F76 k) 4) [] (lpAt (bodyOf Try.f76) [0]) (Kb [] [] [] S76_4 X76_4 R76_4 rec) (mkSt [] [] S76_4 v.1 v.2) = (laws_eqIntS_s4) rec v := by kernel_rfl
theorem lp76_4 (k : Nat) {c : Cx} (hP : c.P = Try.prog) (hm : c.m = ⟨26, []⟩) (hg : c.gs = []) : LoopOk c (lo76_4 k) (lpAt (bodyOf Try.f76) [0]) :=
  loop_at hP hm hg (okF76 k) (LInv.of (code := (lpAt (bodyOf Try.f76) [0])) (bs := []) (by kernel_rfl) LInv.nil) (fun rec v => st76_4 k rec v) k
theorem ev76 (k : Nat) (x) : evF Try.prog (F76 k) (inlN Try.prog (F76 k) 4) [(4, lo76_4 k)] Try.f76 (bodyOf Try.f76) (c76 k).ps (c76 k).rs (c76 k).rm x = (c76 k).m x := by kernel_rfl
theorem ok76 (k : Nat) : ConOk Try.prog (c76 k) :=
  fn_at (okF76 k) (cn := c76 k) (fn := Try.f76) (code := bodyOf Try.f76) (m := ⟨26, []⟩) (gs := []) (by kernel_rfl) (by kernel_rfl) (by kernel_rfl) (by kernel_rfl) (by kernel_rfl) (fun _ => by kernel_rfl)
    [(4, lo76_4 k)] (fun c hP hm hg => (LInv.of (code := (bodyOf Try.f76)) (bs := [(lpAt (bodyOf Try.f76) [0])]) (by kernel_rfl) (LInv.cons (b := (lpAt (bodyOf Try.f76) [0])) (by kernel_rfl) (lp76_4 k hP hm hg) LInv.nil))) (ev76 k)
def c67 (k : Nat) : Con := ⟨67, [(T_Out, false), (T_Out, false)], [.bool], (.own true), fun x => laws_eqOut k x.1 x.2.1⟩
def F67 (k : Nat) : List Con := [c92 k, c76 k]
theorem okF67 (k : Nat) : ∀ cn ∈ F67 k, ConOk Try.prog cn := (conCons (ok92 k) (conCons (ok76 k) conNil))
theorem ev67 (k : Nat) (x) : evF Try.prog (F67 k) (inlN Try.prog (F67 k) 4) [] Try.f67 (bodyOf Try.f67) (c67 k).ps (c67 k).rs (c67 k).rm x = (c67 k).m x := by kernel_rfl
theorem ok67 (k : Nat) : ConOk Try.prog (c67 k) :=
  fn_at (okF67 k) (cn := c67 k) (fn := Try.f67) (code := bodyOf Try.f67) (m := ⟨32, []⟩) (gs := []) (by kernel_rfl) (by kernel_rfl) (by kernel_rfl) (by kernel_rfl) (by kernel_rfl) (fun _ => by kernel_rfl)
    [] (fun c hP hm hg => (LInv.of (code := (bodyOf Try.f67)) (bs := []) (by kernel_rfl) LInv.nil)) (ev67 k)
def c26 (k : Nat) : Con := ⟨26, [((.sl T_Out), false), ((.sl T_Out), false)], [.bool], (.own true), fun x => laws_eqOutS k x.1 x.2.1⟩
def F26 (k : Nat) : List Con := [c67 k]
theorem okF26 (k : Nat) : ∀ cn ∈ F26 k, ConOk Try.prog cn := (conCons (ok67 k) conNil)
abbrev S26_4 : Shape := [(0, .v (.sl T_Out)), (1, .v (.sl T_Out)), (5, .v (.int .i64))]
abbrev X26_4 : Exit × Shape := (Exit.ret, [(4, .v .bool)])
abbrev R26_4 : List (Exit × Shape) := [(Exit.exit 0, [])]
def lo26_4 (k : Nat) : LO := loopO [] [] [] S26_4 X26_4 R26_4 (iter (laws_eqOutS_s4 k) k)
theorem st26_4 (k : Nat) (rec v) : evC Try.prog ⟨27, []⟩ (F26 k) (inlN Try.prog (F26 k) 4) [] (lpAt (bodyOf Try.f26) [0]) (Kb [] [] [] S26_4 X26_4 R26_4 rec) (mkSt [] [] S26_4 v.1 v.2) = (laws_eqOutS_s4 k) rec v := by kernel_rfl
theorem lp26_4 (k : Nat) {c : Cx} (hP : c.P = Try.prog) (hm : c.m = ⟨27, []⟩) (hg : c.gs = []) : LoopOk c (lo26_4 k) (lpAt (bodyOf Try.f26) [0]) :=
  loop_at hP hm hg (okF26 k) (LInv.of (code := (lpAt (bodyOf Try.f26) [0])) (bs := []) (by kernel_rfl) LInv.nil) (fun rec v => st26_4 k rec v) k
theorem ev26 (k : Nat) (x) : evF Try.prog (F26 k) (inlN Try.prog (F26 k) 4) [(4, lo26_4 k)] Try.f26 (bodyOf Try.f26) (c26 k).ps (c26 k).rs (c26 k).rm x = (c26 k).m x := by kernel_rfl
theorem ok26 (k : Nat) : ConOk Try.prog (c26 k) :=
  fn_at (okF26 k) (cn := c26 k) (fn := Try.f26) (code := bodyOf Try.f26) (m := ⟨27, []⟩) (gs := []) (by kernel_rfl) (by kernel_rfl) (by kernel_rfl) (by kernel_rfl) (by kernel_rfl) (fun _ => by kernel_rfl)
    [(4, lo26_4 k)] (fun c hP hm hg => (LInv.of (code := (bodyOf Try.f26)) (bs := [(lpAt (bodyOf Try.f26) [0])]) (by kernel_rfl) (LInv.cons (b := (lpAt (bodyOf Try.f26) [0])) (by kernel_rfl) (lp26_4 k hP hm hg) LInv.nil))) (ev26 k)
def c32 (k : Nat) : Con := ⟨32, [(T_Left, false), (T_Left, false)], [.bool], (.own true), fun x => laws_eqLeft k x.1 x.2.1⟩
def F32 (k : Nat) : List Con := [c76 k]
theorem okF32 (k : Nat) : ∀ cn ∈ F32 k, ConOk Try.prog cn := (conCons (ok76 k) conNil)
theorem ev32 (k : Nat) (x) : evF Try.prog (F32 k) (inlN Try.prog (F32 k) 4) [] Try.f32 (bodyOf Try.f32) (c32 k).ps (c32 k).rs (c32 k).rm x = (c32 k).m x := by kernel_rfl
theorem ok32 (k : Nat) : ConOk Try.prog (c32 k) :=
  fn_at (okF32 k) (cn := c32 k) (fn := Try.f32) (code := bodyOf Try.f32) (m := ⟨32, []⟩) (gs := []) (by kernel_rfl) (by kernel_rfl) (by kernel_rfl) (by kernel_rfl) (by kernel_rfl) (fun _ => by kernel_rfl)
    [] (fun c hP hm hg => (LInv.of (code := (bodyOf Try.f32)) (bs := []) (by kernel_rfl) LInv.nil)) (ev32 k)
def c5 (k : Nat) : Con := ⟨5, [((.int .i64), false), ((.sl T_Out), false), (T_Left, false)], [.bool], (.own true), fun x => laws_FnExactLedger k x.1 x.2.1 x.2.2.1⟩
def F5 (k : Nat) : List Con := [c17 k, c28 k, c21 k, c30 k, c29 k, c31 k, c26 k, c32 k]
theorem okF5 (k : Nat) : ∀ cn ∈ F5 k, ConOk Try.prog cn := (conCons (ok17 k) (conCons (ok28 k) (conCons (ok21 k) (conCons (ok30 k) (conCons (ok29 k) (conCons (ok31 k) (conCons (ok26 k) (conCons (ok32 k) conNil))))))))
theorem ev5 (k : Nat) (x) : evF Try.prog (F5 k) (inlN Try.prog (F5 k) 4) [] Try.f5 (bodyOf Try.f5) (c5 k).ps (c5 k).rs (c5 k).rm x = (c5 k).m x := by kernel_rfl
theorem ok5 (k : Nat) : ConOk Try.prog (c5 k) :=
  fn_at (okF5 k) (cn := c5 k) (fn := Try.f5) (code := bodyOf Try.f5) (m := ⟨49, []⟩) (gs := []) (by kernel_rfl) (by kernel_rfl) (by kernel_rfl) (by kernel_rfl) (by kernel_rfl) (fun _ => by kernel_rfl)
    [] (fun c hP hm hg => (LInv.of (code := (bodyOf Try.f5)) (bs := []) (by kernel_rfl) LInv.nil)) (ev5 k)
end Go.Tw
