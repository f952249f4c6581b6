/- Each function is proved to answer as its mirror does. -/
import Derived.Test.YtmjacadeccoclaaMc
import Derived.Test.YtmjacadeccoclaaRows
set_option linter.all false
namespace Go.Tw
open Go Go.RowKit Go.Proofs
def c57 (k : Nat) : Con := ⟨57, [((.sl T_Job), false), ((.int .i64), false)], [(.int .i64)], (.own true), fun x => laws_szJobS x.1 x.2.1⟩
def F57 (k : Nat) : List Con := []
theorem okF57 (k : Nat) : ∀ cn ∈ F57 k, ConOk Try.prog cn := conNil
theorem ev57 (k : Nat) (x) : evF Try.prog (F57 k) (inlN Try.prog (F57 k) 4) [] Try.f57 (bodyOf Try.f57) (c57 k).ps (c57 k).rs (c57 k).rm x = (c57 k).m x := by kernel_rfl
theorem ok57 (k : Nat) : ConOk Try.prog (c57 k) :=
  fn_at (okF57 k) (cn := c57 k) (fn := Try.f57) (code := bodyOf Try.f57) (m := ⟨12, []⟩) (gs := []) (by kernel_rfl) (by kernel_rfl) (by kernel_rfl) (by kernel_rfl) (by kernel_rfl) (fun _ => by kernel_rfl)
    [] (fun c hP hm hg => (LInv.of (code := (bodyOf Try.f57)) (bs := []) (by kernel_rfl) LInv.nil)) (ev57 k)
def c21 (k : Nat) : Con := ⟨21, [(T_Line, false), ((.int .i64), false)], [(.int .i64)], (.own true), fun x => laws_szLine x.1 x.2.1⟩
def F21 (k : Nat) : List Con := [c57 k]
theorem okF21 (k : Nat) : ∀ cn ∈ F21 k, ConOk Try.prog cn := (conCons (ok57 k) conNil)
theorem ev21 (k : Nat) (x) : evF Try.prog (F21 k) (inlN Try.prog (F21 k) 4) [] Try.f21 (bodyOf Try.f21) (c21 k).ps (c21 k).rs (c21 k).rm x = (c21 k).m x := by kernel_rfl
theorem ok21 (k : Nat) : ConOk Try.prog (c21 k) :=
  fn_at (okF21 k) (cn := c21 k) (fn := Try.f21) (code := bodyOf Try.f21) (m := ⟨24, []⟩) (gs := []) (by kernel_rfl) (by kernel_rfl) (by kernel_rfl) (by kernel_rfl) (by kernel_rfl) (fun _ => by kernel_rfl)
    [] (fun c hP hm hg => (LInv.of (code := (bodyOf Try.f21)) (bs := []) (by kernel_rfl) LInv.nil)) (ev21 k)
def c144 (k : Nat) : Con := ⟨144, [(T_Vec, false)], [T_Vec], (.own true), fun x => laws_toVec x.1⟩
def F144 (k : Nat) : List Con := []
theorem okF144 (k : Nat) : ∀ cn ∈ F144 k, ConOk Try.prog cn := conNil
theorem ev144 (k : Nat) (x) : evF Try.prog (F144 k) (inlN Try.prog (F144 k) 4) [] Try.f144 (bodyOf Try.f144) (c144 k).ps (c144 k).rs (c144 k).rm x = (c144 k).m x := by kernel_rfl
theorem ok144 (k : Nat) : ConOk Try.prog (c144 k) :=
  fn_at (okF144 k) (cn := c144 k) (fn := Try.f144) (code := bodyOf Try.f144) (m := ⟨14, []⟩) (gs := []) (by kernel_rfl) (by kernel_rfl) (by kernel_rfl) (by kernel_rfl) (by kernel_rfl) (fun _ => by kernel_rfl)
    [] (fun c hP hm hg => (LInv.of (code := (bodyOf Try.f144)) (bs := []) (by kernel_rfl) LInv.nil)) (ev144 k)
def c111 (k : Nat) : Con := ⟨111, [(T_Job, false)], [T_Job], (.own true), fun x => laws_toJob x.1⟩
def F111 (k : Nat) : List Con := [c144 k]
theorem okF111 (k : Nat) : ∀ cn ∈ F111 k, ConOk Try.prog cn := (conCons (ok144 k) conNil)
theorem ev111 (k : Nat) (x) : evF Try.prog (F111 k) (inlN Try.prog (F111 k) 4) [] Try.f111 (bodyOf Try.f111) (c111 k).ps (c111 k).rs (c111 k).rm x = (c111 k).m x := by kernel_rfl
theorem ok111 (k : Nat) : ConOk Try.prog (c111 k) :=
  fn_at (okF111 k) (cn := c111 k) (fn := Try.f111) (code := bodyOf Try.f111) (m := ⟨12, []⟩) (gs := []) (by kernel_rfl) (by kernel_rfl) (by kernel_rfl) (by kernel_rfl) (by kernel_rfl) (fun _ => by kernel_rfl)
    [] (fun c hP hm hg => (LInv.of (code := (bodyOf Try.f111)) (bs := []) (by kernel_rfl) LInv.nil)) (ev111 k)
def c58 (k : Nat) : Con := ⟨58, [((.sl T_Job), false)], [(.sl T_Job)], (.own true), fun x => laws_toJobS k x.1⟩
def F58 (k : Nat) : List Con := [c111 k]
theorem okF58 (k : Nat) : ∀ cn ∈ F58 k, ConOk Try.prog cn := (conCons (ok111 k) conNil)
abbrev S58_3 : Shape := [(0, .v (.sl T_Job)), (3, .own true (.sl T_Job)), (4, .v (.int .i64))]
abbrev X58_3 : Exit × Shape := (Exit.exit 0, [(3, .own true (.sl T_Job))])
abbrev R58_3 : List (Exit × Shape) := []
def lo58_3 (k : Nat) : LO := loopO [] [] [] S58_3 X58_3 R58_3 (iter (laws_toJobS_s3) k)
theorem st58_3 (k : Nat) (rec v) : evC Try.prog ⟨23, []⟩ (F58 k) (inlN Try.prog (F58 k) 4) [] (lpAt (bodyOf Try.f58) [0]) (Kb [] [] [] S58_3 X58_3 R58_3 rec) (mkSt [] [] S58_3 v.1 v.2) = (laws_toJobS_s3) rec v := by kernel_rfl
theorem lp58_3 (k : Nat) {c : Cx} (hP : c.P = Try.prog) (hm : c.m = ⟨23, []⟩) (hg : c.gs = []) : LoopOk c (lo58_3 k) (lpAt (bodyOf Try.f58) [0]) :=
  loop_at hP hm hg (okF58 k) (LInv.of (code := (lpAt (bodyOf Try.f58) [0])) (bs := []) (by kernel_rfl) LInv.nil) (fun rec v => st58_3 k rec v) k
theorem ev58 (k : Nat) (x) : evF Try.prog (F58 k) (inlN Try.prog (F58 k) 4) [(3, lo58_3 k)] Try.f58 (bodyOf Try.f58) (c58 k).ps (c58 k).rs (c58 k).rm x = (c58 k).m x := by kernel_rfl
theorem ok58 (k : Nat) : ConOk Try.prog (c58 k) :=
  fn_at (okF58 k) (cn := c58 k) (fn := Try.f58) (code := bodyOf Try.f58) (m := ⟨23, []⟩) (gs := []) (by kernel_rfl) (by kernel_rfl) (by kernel_rfl) (by kernel_rfl) (by kernel_rfl) (fun _ => by kernel_rfl)
    [(3, lo58_3 k)] (fun c hP hm hg => (LInv.of (code := (bodyOf Try.f58)) (bs := [(lpAt (bodyOf Try.f58) [0])]) (by kernel_rfl) (LInv.cons (b := (lpAt (bodyOf Try.f58) [0])) (by kernel_rfl) (lp58_3 k hP hm hg) LInv.nil))) (ev58 k)
def c23 (k : Nat) : Con := ⟨23, [(T_Line, false)], [T_Line], (.own true), fun x => laws_toLine k x.1⟩
def F23 (k : Nat) : List Con := [c58 k]
theorem okF23 (k : Nat) : ∀ cn ∈ F23 k, ConOk Try.prog cn := (conCons (ok58 k) conNil)
theorem ev23 (k : Nat) (x) : evF Try.prog (F23 k) (inlN Try.prog (F23 k) 4) [] Try.f23 (bodyOf Try.f23) (c23 k).ps (c23 k).rs (c23 k).rm x = (c23 k).m x := by kernel_rfl
theorem ok23 (k : Nat) : ConOk Try.prog (c23 k) :=
  fn_at (okF23 k) (cn := c23 k) (fn := Try.f23) (code := bodyOf Try.f23) (m := ⟨20, []⟩) (gs := []) (by kernel_rfl) (by kernel_rfl) (by kernel_rfl) (by kernel_rfl) (by kernel_rfl) (fun _ => by kernel_rfl)
    [] (fun c hP hm hg => (LInv.of (code := (bodyOf Try.f23)) (bs := []) (by kernel_rfl) LInv.nil)) (ev23 k)
def c102 (k : Nat) : Con := ⟨102, [(T_Line, false)], [(.sl T_Job)], (.own true), fun x => spec_l21All x.1⟩
def F102 (k : Nat) : List Con := []
theorem okF102 (k : Nat) : ∀ cn ∈ F102 k, ConOk Try.prog cn := conNil
theorem ev102 (k : Nat) (x) : evF Try.prog (F102 k) (inlN Try.prog (F102 k) 4) [] Try.f102 (bodyOf Try.f102) (c102 k).ps (c102 k).rs (c102 k).rm x = (c102 k).m x := by kernel_rfl
theorem ok102 (k : Nat) : ConOk Try.prog (c102 k) :=
  fn_at (okF102 k) (cn := c102 k) (fn := Try.f102) (code := bodyOf Try.f102) (m := ⟨13, []⟩) (gs := []) (by kernel_rfl) (by kernel_rfl) (by kernel_rfl) (by kernel_rfl) (by kernel_rfl) (fun _ => by kernel_rfl)
    [] (fun c hP hm hg => (LInv.of (code := (bodyOf Try.f102)) (bs := []) (by kernel_rfl) LInv.nil)) (ev102 k)
def c42 (k : Nat) : Con := ⟨42, [(T_Line, false)], [.bool], (.own true), fun x => spec_LineOk k x.1⟩
def F42 (k : Nat) : List Con := [c102 k]
theorem okF42 (k : Nat) : ∀ cn ∈ F42 k, ConOk Try.prog cn := (conCons (ok102 k) conNil)
abbrev S42_12 : Shape := [(1, .boxv T_Line), (3, .own true (.sl T_Job)), (4, .v (.int .i64)), (5, .v (.int .i64))]
abbrev X42_12 : Exit × Shape := (Exit.ret, [(2, .v .bool)])
abbrev R42_12 : List (Exit × Shape) := [(Exit.exit 2, [(1, .boxv T_Line), (3, .own true (.sl T_Job)), (4, .v (.int .i64))])]
def lo42_12 (k : Nat) : LO := loopO [] [] [] S42_12 X42_12 R42_12 (iter (spec_LineOk_s12) k)
theorem st42_12 (k : Nat) (rec v) : evC Try.prog ⟨154, []⟩ (F42 k) (inlN Try.prog (F42 k) 4) [] (lpAt (bodyOf Try.f42) [0, 0]) (Kb [] [] [] S42_12 X42_12 R42_12 rec) (mkSt [] [] S42_12 v.1 v.2) = (spec_LineOk_s12) rec v := by kernel_rfl
theorem lp42_12 (k : Nat) {c : Cx} (hP : c.P = Try.prog) (hm : c.m = ⟨154, []⟩) (hg : c.gs = []) : LoopOk c (lo42_12 k) (lpAt (bodyOf Try.f42) [0, 0]) :=
  loop_at hP hm hg (okF42 k) (LInv.of (code := (lpAt (bodyOf Try.f42) [0, 0])) (bs := []) (by kernel_rfl) LInv.nil) (fun rec v => st42_12 k rec v) k
abbrev S42_7 : Shape := [(1, .boxv T_Line), (3, .own true (.sl T_Job)), (4, .v (.int .i64))]
abbrev X42_7 : Exit × Shape := (Exit.ret, [(2, .v .bool)])
abbrev R42_7 : List (Exit × Shape) := [(Exit.exit 0, [])]
def lo42_7 (k : Nat) : LO := loopO [] [] [] S42_7 X42_7 R42_7 (iter (spec_LineOk_s7 k) k)
theorem st42_7 (k : Nat) (rec v) : evC Try.prog ⟨154, []⟩ (F42 k) (inlN Try.prog (F42 k) 4) [(12, lo42_12 k)] (lpAt (bodyOf Try.f42) [0]) (Kb [] [] [] S42_7 X42_7 R42_7 rec) (mkSt [] [] S42_7 v.1 v.2) = (spec_LineOk_s7 k) rec v := by kernel_rfl
theorem lp42_7 (k : Nat) {c : Cx} (hP : c.P = Try.prog) (hm : c.m = ⟨154, []⟩) (hg : c.gs = []) : LoopOk c (lo42_7 k) (lpAt (bodyOf Try.f42) [0]) :=
  loop_at hP hm hg (okF42 k) (LInv.of (code := (lpAt (bodyOf Try.f42) [0])) (bs := [(lpAt (bodyOf Try.f42) [0, 0])]) (by kernel_rfl) (LInv.cons (b := (lpAt (bodyOf Try.f42) [0, 0])) (by kernel_rfl) (lp42_12 k hP hm hg) LInv.nil)) (fun rec v => st42_7 k rec v) k
theorem ev42 (k : Nat) (x) : evF Try.prog (F42 k) (inlN Try.prog (F42 k) 4) [(7, lo42_7 k)] Try.f42 (bodyOf Try.f42) (c42 k).ps (c42 k).rs (c42 k).rm x = (c42 k).m x := by kernel_rfl
theorem ok42 (k : Nat) : ConOk Try.prog (c42 k) :=
  fn_at (okF42 k) (cn := c42 k) (fn := Try.f42) (code := bodyOf Try.f42) (m := ⟨154, []⟩) (gs := []) (by kernel_rfl) (by kernel_rfl) (by kernel_rfl) (by kernel_rfl) (by kernel_rfl) (fun _ => by kernel_rfl)
    [(7, lo42_7 k)] (fun c hP hm hg => (LInv.of (code := (bodyOf Try.f42)) (bs := [(lpAt (bodyOf Try.f42) [0])]) (by kernel_rfl) (LInv.cons (b := (lpAt (bodyOf Try.f42) [0])) (by kernel_rfl) (lp42_7 k hP hm hg) LInv.nil))) (ev42 k)
def c80 (k : Nat) : Con := ⟨80, [(T_Line, false)], [(.sl (.int .i64))], (.own true), fun x => spec_l21Through k x.1⟩
def F80 (k : Nat) : List Con := [c102 k]
theorem okF80 (k : Nat) : ∀ cn ∈ F80 k, ConOk Try.prog cn := (conCons (ok102 k) conNil)
abbrev S80_5 : Shape := [(3, .own true (.sl T_Job)), (4, .own true (.sl (.int .i64))), (5, .v (.int .i64)), (6, .v (.int .i64)), (7, .v (.int .i64)), (8, .v (.int .i64))]
abbrev X80_5 : Exit × Shape := (Exit.exit 0, [(4, .own true (.sl (.int .i64)))])
abbrev R80_5 : List (Exit × Shape) := []
def lo80_5 (k : Nat) : LO := loopO [] [] [] S80_5 X80_5 R80_5 (iter (spec_l21Through_s5) k)
theorem st80_5 (k : Nat) (rec v) : evC Try.prog ⟨67, []⟩ (F80 k) (inlN Try.prog (F80 k) 4) [] (lpAt (bodyOf Try.f80) [0]) (Kb [] [] [] S80_5 X80_5 R80_5 rec) (mkSt [] [] S80_5 v.1 v.2) = (spec_l21Through_s5) rec v := by kernel_rfl
theorem lp80_5 (k : Nat) {c : Cx} (hP : c.P = Try.prog) (hm : c.m = ⟨67, []⟩) (hg : c.gs = []) : LoopOk c (lo80_5 k) (lpAt (bodyOf Try.f80) [0]) :=
  loop_at hP hm hg (okF80 k) (LInv.of (code := (lpAt (bodyOf Try.f80) [0])) (bs := []) (by kernel_rfl) LInv.nil) (fun rec v => st80_5 k rec v) k
theorem ev80 (k : Nat) (x) : evF Try.prog (F80 k) (inlN Try.prog (F80 k) 4) [(5, lo80_5 k)] Try.f80 (bodyOf Try.f80) (c80 k).ps (c80 k).rs (c80 k).rm x = (c80 k).m x := by kernel_rfl
theorem ok80 (k : Nat) : ConOk Try.prog (c80 k) :=
  fn_at (okF80 k) (cn := c80 k) (fn := Try.f80) (code := bodyOf Try.f80) (m := ⟨67, []⟩) (gs := []) (by kernel_rfl) (by kernel_rfl) (by kernel_rfl) (by kernel_rfl) (by kernel_rfl) (fun _ => by kernel_rfl)
    [(5, lo80_5 k)] (fun c hP hm hg => (LInv.of (code := (bodyOf Try.f80)) (bs := [(lpAt (bodyOf Try.f80) [0])]) (by kernel_rfl) (LInv.cons (b := (lpAt (bodyOf Try.f80) [0])) (by kernel_rfl) (lp80_5 k hP hm hg) LInv.nil))) (ev80 k)
def c22 (k : Nat) : Con := ⟨22, [(T_Line, false)], [(.int .i64)], (.own true), fun x => spec_LineEnd k x.1⟩
def F22 (k : Nat) : List Con := [c42 k, c80 k]
theorem okF22 (k : Nat) : ∀ cn ∈ F22 k, ConOk Try.prog cn := (conCons (ok42 k) (conCons (ok80 k) conNil))
theorem ev22 (k : Nat) (x) : evF Try.prog (F22 k) (inlN Try.prog (F22 k) 4) [] Try.f22 (bodyOf Try.f22) (c22 k).ps (c22 k).rs (c22 k).rm x = (c22 k).m x := by kernel_rfl
theorem ok22 (k : Nat) : ConOk Try.prog (c22 k) :=
  fn_at (okF22 k) (cn := c22 k) (fn := Try.f22) (code := bodyOf Try.f22) (m := ⟨18, []⟩) (gs := []) (by kernel_rfl) (by kernel_rfl) (by kernel_rfl) (by kernel_rfl) (by kernel_rfl) (fun _ => by kernel_rfl)
    [] (fun c hP hm hg => (LInv.of (code := (bodyOf Try.f22)) (bs := []) (by kernel_rfl) LInv.nil)) (ev22 k)
def c76 (k : Nat) : Con := ⟨76, [((.int .i64), false), ((.int .i64), false), ((.int .i64), false)], [.bool], (.own true), fun x => impl_within x.1 x.2.1 x.2.2.1⟩
def F76 (k : Nat) : List Con := []
theorem okF76 (k : Nat) : ∀ cn ∈ F76 k, ConOk Try.prog cn := conNil
theorem ev76 (k : Nat) (x) : evF Try.prog (F76 k) (inlN Try.prog (F76 k) 4) [] Try.f76 (bodyOf Try.f76) (c76 k).ps (c76 k).rs (c76 k).rm x = (c76 k).m x := by kernel_rfl
theorem ok76 (k : Nat) : ConOk Try.prog (c76 k) :=
  fn_at (okF76 k) (cn := c76 k) (fn := Try.f76) (code := bodyOf Try.f76) (m := ⟨15, []⟩) (gs := []) (by kernel_rfl) (by kernel_rfl) (by kernel_rfl) (by kernel_rfl) (by kernel_rfl) (fun _ => by kernel_rfl)
    [] (fun c hP hm hg => (LInv.of (code := (bodyOf Try.f76)) (bs := []) (by kernel_rfl) LInv.nil)) (ev76 k)
def c132 (k : Nat) : Con := ⟨132, [((.sl (.sl T_Job)), false)], [(.sl T_Job)], (.own true), fun x => slices_Concat_impl_Job_impl_Job k x.1⟩
def F132 (k : Nat) : List Con := []
theorem okF132 (k : Nat) : ∀ cn ∈ F132 k, ConOk Try.prog cn := conNil
abbrev S132_3 : Shape := [(0, .v (.sl (.sl T_Job))), (3, .v (.int .i64)), (9, .v (.sl (.sl T_Job))), (10, .v (.int .i64)), (11, .v (.int .i64))]
abbrev X132_3 : Exit × Shape := (Exit.exit 0, [(0, .v (.sl (.sl T_Job))), (3, .v (.int .i64))])
abbrev R132_3 : List (Exit × Shape) := []
def lo132_3 (k : Nat) : LO := loopO [] [] [] S132_3 X132_3 R132_3 (iter (slices_Concat_impl_Job_impl_Job_s3) k)
theorem st132_3 (k : Nat) (rec v) : evC Try.prog ⟨36, []⟩ (F132 k) (inlN Try.prog (F132 k) 4) [] (lpAt (bodyOf Try.f132) [0]) (Kb [] [] [] S132_3 X132_3 R132_3 rec) (mkSt [] [] S132_3 v.1 v.2) = (slices_Concat_impl_Job_impl_Job_s3) rec v := by kernel_rfl
theorem lp132_3 (k : Nat) {c : Cx} (hP : c.P = Try.prog) (hm : c.m = ⟨36, []⟩) (hg : c.gs = []) : LoopOk c (lo132_3 k) (lpAt (bodyOf Try.f132) [0]) :=
  loop_at hP hm hg (okF132 k) (LInv.of (code := (lpAt (bodyOf Try.f132) [0])) (bs := []) (by kernel_rfl) LInv.nil) (fun rec v => st132_3 k rec v) k
abbrev S132_11 : Shape := [(6, .own true (.sl T_Job)), (25, .v (.sl (.sl T_Job))), (26, .v (.int .i64)), (27, .v (.int .i64))]
abbrev X132_11 : Exit × Shape := (Exit.exit 2, [(6, .own true (.sl T_Job))])
abbrev R132_11 : List (Exit × Shape) := []
def lo132_11 (k : Nat) : LO := loopO [] [] [] S132_11 X132_11 R132_11 (iter (slices_Concat_impl_Job_impl_Job_s11) k)
theorem st132_11 (k : Nat) (rec v) : evC Try.prog ⟨36, []⟩ (F132 k) (inlN Try.prog (F132 k) 4) [] (lpAt (bodyOf Try.f132) [1]) (Kb [] [] [] S132_11 X132_11 R132_11 rec) (mkSt [] [] S132_11 v.1 v.2) = (slices_Concat_impl_Job_impl_Job_s11) rec v := by kernel_rfl
theorem lp132_11 (k : Nat) {c : Cx} (hP : c.P = Try.prog) (hm : c.m = ⟨36, []⟩) (hg : c.gs = []) : LoopOk c (lo132_11 k) (lpAt (bodyOf Try.f132) [1]) :=
  loop_at hP hm hg (okF132 k) (LInv.of (code := (lpAt (bodyOf Try.f132) [1])) (bs := []) (by kernel_rfl) LInv.nil) (fun rec v => st132_11 k rec v) k
theorem ev132 (k : Nat) (x) : evF Try.prog (F132 k) (inlN Try.prog (F132 k) 4) [(3, lo132_3 k), (11, lo132_11 k)] Try.f132 (bodyOf Try.f132) (c132 k).ps (c132 k).rs (c132 k).rm x = (c132 k).m x := by kernel_rfl
theorem ok132 (k : Nat) : ConOk Try.prog (c132 k) :=
  fn_at (okF132 k) (cn := c132 k) (fn := Try.f132) (code := bodyOf Try.f132) (m := ⟨36, []⟩) (gs := []) (by kernel_rfl) (by kernel_rfl) (by kernel_rfl) (by kernel_rfl) (by kernel_rfl) (fun _ => by kernel_rfl)
    [(3, lo132_3 k), (11, lo132_11 k)] (fun c hP hm hg => (LInv.of (code := (bodyOf Try.f132)) (bs := [(lpAt (bodyOf Try.f132) [0]), (lpAt (bodyOf Try.f132) [1])]) (by kernel_rfl) (LInv.cons (b := (lpAt (bodyOf Try.f132) [0])) (by kernel_rfl) (lp132_3 k hP hm hg) (LInv.cons (b := (lpAt (bodyOf Try.f132) [1])) (by kernel_rfl) (lp132_11 k hP hm hg) LInv.nil)))) (ev132 k)
def c83 (k : Nat) : Con := ⟨83, [(T_Line, false)], [(.sl T_Job)], (.own true), fun x => impl_Line_jobs k x.1⟩
def F83 (k : Nat) : List Con := [c132 k]
theorem okF83 (k : Nat) : ∀ cn ∈ F83 k, ConOk Try.prog cn := (conCons (ok132 k) conNil)
theorem ev83 (k : Nat) (x) : evF Try.prog (F83 k) (inlN Try.prog (F83 k) 4) [] Try.f83 (bodyOf Try.f83) (c83 k).ps (c83 k).rs (c83 k).rm x = (c83 k).m x := by kernel_rfl
theorem ok83 (k : Nat) : ConOk Try.prog (c83 k) :=
  fn_at (okF83 k) (cn := c83 k) (fn := Try.f83) (code := bodyOf Try.f83) (m := ⟨11, []⟩) (gs := []) (by kernel_rfl) (by kernel_rfl) (by kernel_rfl) (by kernel_rfl) (by kernel_rfl) (fun _ => by kernel_rfl)
    [] (fun c hP hm hg => (LInv.of (code := (bodyOf Try.f83)) (bs := []) (by kernel_rfl) LInv.nil)) (ev83 k)
def c138 (k : Nat) : Con := ⟨138, [(T_Vec, false), ((.int .i64), false), ((.int .i64), false)], [.bool], (.own true), fun x => impl_Vec_isFrom x.1 x.2.1 x.2.2.1⟩
def F138 (k : Nat) : List Con := [c76 k]
theorem okF138 (k : Nat) : ∀ cn ∈ F138 k, ConOk Try.prog cn := (conCons (ok76 k) conNil)
theorem ev138 (k : Nat) (x) : evF Try.prog (F138 k) (inlN Try.prog (F138 k) 4) [] Try.f138 (bodyOf Try.f138) (c138 k).ps (c138 k).rs (c138 k).rm x = (c138 k).m x := by kernel_rfl
theorem ok138 (k : Nat) : ConOk Try.prog (c138 k) :=
  fn_at (okF138 k) (cn := c138 k) (fn := Try.f138) (code := bodyOf Try.f138) (m := ⟨26, []⟩) (gs := []) (by kernel_rfl) (by kernel_rfl) (by kernel_rfl) (by kernel_rfl) (by kernel_rfl) (fun _ => by kernel_rfl)
    [] (fun c hP hm hg => (LInv.of (code := (bodyOf Try.f138)) (bs := []) (by kernel_rfl) LInv.nil)) (ev138 k)
def c98 (k : Nat) : Con := ⟨98, [(T_Vec, false)], [.bool], (.own true), fun x => impl_CostOk x.1⟩
def F98 (k : Nat) : List Con := [c138 k]
theorem okF98 (k : Nat) : ∀ cn ∈ F98 k, ConOk Try.prog cn := (conCons (ok138 k) conNil)
theorem ev98 (k : Nat) (x) : evF Try.prog (F98 k) (inlN Try.prog (F98 k) 4) [] Try.f98 (bodyOf Try.f98) (c98 k).ps (c98 k).rs (c98 k).rm x = (c98 k).m x := by kernel_rfl
theorem ok98 (k : Nat) : ConOk Try.prog (c98 k) :=
  fn_at (okF98 k) (cn := c98 k) (fn := Try.f98) (code := bodyOf Try.f98) (m := ⟨5, []⟩) (gs := []) (by kernel_rfl) (by kernel_rfl) (by kernel_rfl) (by kernel_rfl) (by kernel_rfl) (fun _ => by kernel_rfl)
    [] (fun c hP hm hg => (LInv.of (code := (bodyOf Try.f98)) (bs := []) (by kernel_rfl) LInv.nil)) (ev98 k)
def c130 (k : Nat) : Con := ⟨130, [((.int .i64), false)], [.bool], (.own true), fun x => impl_isNeed x.1⟩
def F130 (k : Nat) : List Con := [c76 k]
theorem okF130 (k : Nat) : ∀ cn ∈ F130 k, ConOk Try.prog cn := (conCons (ok76 k) conNil)
theorem ev130 (k : Nat) (x) : evF Try.prog (F130 k) (inlN Try.prog (F130 k) 4) [] Try.f130 (bodyOf Try.f130) (c130 k).ps (c130 k).rs (c130 k).rm x = (c130 k).m x := by kernel_rfl
theorem ok130 (k : Nat) : ConOk Try.prog (c130 k) :=
  fn_at (okF130 k) (cn := c130 k) (fn := Try.f130) (code := bodyOf Try.f130) (m := ⟨5, []⟩) (gs := []) (by kernel_rfl) (by kernel_rfl) (by kernel_rfl) (by kernel_rfl) (by kernel_rfl) (fun _ => by kernel_rfl)
    [] (fun c hP hm hg => (LInv.of (code := (bodyOf Try.f130)) (bs := []) (by kernel_rfl) LInv.nil)) (ev130 k)
def c81 (k : Nat) : Con := ⟨81, [(T_Line, false)], [.bool], (.own true), fun x => impl_LineOk k x.1⟩
def F81 (k : Nat) : List Con := [c76 k, c83 k, c98 k, c130 k]
theorem okF81 (k : Nat) : ∀ cn ∈ F81 k, ConOk Try.prog cn := (conCons (ok76 k) (conCons (ok83 k) (conCons (ok98 k) (conCons (ok130 k) conNil))))
abbrev S81_5 : Shape := [(1, .boxv T_Line), (3, .mp .i64), (21, .own true (.sl T_Job)), (22, .v (.int .i64)), (23, .v (.int .i64))]
abbrev X81_5 : Exit × Shape := (Exit.ret, [(2, .v .bool)])
abbrev R81_5 : List (Exit × Shape) := [(Exit.exit 0, [])]
def lo81_5 (k : Nat) : LO := loopO [] [] [] S81_5 X81_5 R81_5 (iter (impl_LineOk_s5) k)
theorem st81_5 (k : Nat) (rec v) : evC Try.prog ⟨97, []⟩ (F81 k) (inlN Try.prog (F81 k) 4) [] (lpAt (bodyOf Try.f81) [0]) (Kb [] [] [] S81_5 X81_5 R81_5 rec) (mkSt [] [] S81_5 v.1 v.2) = (impl_LineOk_s5) rec v := by kernel_rfl
theorem lp81_5 (k : Nat) {c : Cx} (hP : c.P = Try.prog) (hm : c.m = ⟨97, []⟩) (hg : c.gs = []) : LoopOk c (lo81_5 k) (lpAt (bodyOf Try.f81) [0]) :=
  loop_at hP hm hg (okF81 k) (LInv.of (code := (lpAt (bodyOf Try.f81) [0])) (bs := []) (by kernel_rfl) LInv.nil) (fun rec v => st81_5 k rec v) k
theorem ev81 (k : Nat) (x) : evF Try.prog (F81 k) (inlN Try.prog (F81 k) 4) [(5, lo81_5 k)] Try.f81 (bodyOf Try.f81) (c81 k).ps (c81 k).rs (c81 k).rm x = (c81 k).m x := by kernel_rfl
theorem ok81 (k : Nat) : ConOk Try.prog (c81 k) :=
  fn_at (okF81 k) (cn := c81 k) (fn := Try.f81) (code := bodyOf Try.f81) (m := ⟨97, []⟩) (gs := []) (by kernel_rfl) (by kernel_rfl) (by kernel_rfl) (by kernel_rfl) (by kernel_rfl) (fun _ => by kernel_rfl)
    [(5, lo81_5 k)] (fun c hP hm hg => (LInv.of (code := (bodyOf Try.f81)) (bs := [(lpAt (bodyOf Try.f81) [0])]) (by kernel_rfl) (LInv.cons (b := (lpAt (bodyOf Try.f81) [0])) (by kernel_rfl) (lp81_5 k hP hm hg) LInv.nil))) (ev81 k)
def c131 (k : Nat) : Con := ⟨131, [((.sl T_Job), false)], [(.sl T_Job)], (.own true), fun x => slices_Clone_impl_Job_impl_Job x.1⟩
theorem ok131 (k : Nat) : ConOk Try.prog (c131 k) :=
  fn_nil conNil (fn := Try.f131) (code := bodyOf Try.f131) (by kernel_rfl) (by kernel_rfl) (by kernel_rfl) (by kernel_rfl) (by kernel_rfl) (fun e l => by kernel_rfl) (by kernel_rfl) (fun A cap => by kernel_rfl)
def c82 (k : Nat) : Con := ⟨82, [(T_Line, false)], [T_Line], (.own true), fun x => impl_copyLine x.1⟩
def F82 (k : Nat) : List Con := [c131 k]
theorem okF82 (k : Nat) : ∀ cn ∈ F82 k, ConOk Try.prog cn := (conCons (ok131 k) conNil)
theorem ev82 (k : Nat) (x) : evF Try.prog (F82 k) (inlN Try.prog (F82 k) 4) [] Try.f82 (bodyOf Try.f82) (c82 k).ps (c82 k).rs (c82 k).rm x = (c82 k).m x := by kernel_rfl
theorem ok82 (k : Nat) : ConOk Try.prog (c82 k) :=
  fn_at (okF82 k) (cn := c82 k) (fn := Try.f82) (code := bodyOf Try.f82) (m := ⟨15, []⟩) (gs := []) (by kernel_rfl) (by kernel_rfl) (by kernel_rfl) (by kernel_rfl) (by kernel_rfl) (fun _ => by kernel_rfl)
    [] (fun c hP hm hg => (LInv.of (code := (bodyOf Try.f82)) (bs := []) (by kernel_rfl) LInv.nil)) (ev82 k)
def c24 (k : Nat) : Con := ⟨24, [(T_Line, false)], [(.int .i64)], (.own true), fun x => impl_LineEnd k x.1⟩
def F24 (k : Nat) : List Con := [c81 k, c82 k, c83 k]
theorem okF24 (k : Nat) : ∀ cn ∈ F24 k, ConOk Try.prog cn := (conCons (ok81 k) (conCons (ok82 k) (conCons (ok83 k) conNil)))
abbrev S24_4 : Shape := [(3, .box true T_Line), (4, .v (.int .i64))]
abbrev X24_4 : Exit × Shape := (Exit.exit 0, [(4, .v (.int .i64))])
abbrev R24_4 : List (Exit × Shape) := []
def lo24_4 (k : Nat) : LO := loopO [] [] [] S24_4 X24_4 R24_4 (iter (impl_LineEnd_s4 k) k)
theorem st24_4 (k : Nat) (rec v) : evC Try.prog ⟨18, []⟩ (F24 k) (inlN Try.prog (F24 k) 4) [] (lpAt (bodyOf Try.f24) [0]) (Kb [] [] [] S24_4 X24_4 R24_4 rec) (mkSt [] [] S24_4 v.1 v.2) = (impl_LineEnd_s4 k) rec v := by kernel_rfl
theorem lp24_4 (k : Nat) {c : Cx} (hP : c.P = Try.prog) (hm : c.m = ⟨18, []⟩) (hg : c.gs = []) : LoopOk c (lo24_4 k) (lpAt (bodyOf Try.f24) [0]) :=
  loop_at hP hm hg (okF24 k) (LInv.of (code := (lpAt (bodyOf Try.f24) [0])) (bs := []) (by kernel_rfl) LInv.nil) (fun rec v => st24_4 k rec v) k
theorem ev24 (k : Nat) (x) : evF Try.prog (F24 k) (inlN Try.prog (F24 k) 4) [(4, lo24_4 k)] Try.f24 (bodyOf Try.f24) (c24 k).ps (c24 k).rs (c24 k).rm x = (c24 k).m x := by kernel_rfl
theorem ok24 (k : Nat) : ConOk Try.prog (c24 k) :=
  fn_at (okF24 k) (cn := c24 k) (fn := Try.f24) (code := bodyOf Try.f24) (m := ⟨18, []⟩) (gs := []) (by kernel_rfl) (by kernel_rfl) (by kernel_rfl) (by kernel_rfl) (by kernel_rfl) (fun _ => by kernel_rfl)
    [(4, lo24_4 k)] (fun c hP hm hg => (LInv.of (code := (bodyOf Try.f24)) (bs := [(lpAt (bodyOf Try.f24) [0])]) (by kernel_rfl) (LInv.cons (b := (lpAt (bodyOf Try.f24) [0])) (by kernel_rfl) (lp24_4 k hP hm hg) LInv.nil))) (ev24 k)
def c145 (k : Nat) : Con := ⟨145, [(T_Vec, false), (T_Vec, false)], [.bool], (.own true), fun x => laws_eqVec x.1 x.2.1⟩
def F145 (k : Nat) : List Con := []
theorem okF145 (k : Nat) : ∀ cn ∈ F145 k, ConOk Try.prog cn := conNil
theorem ev145 (k : Nat) (x) : evF Try.prog (F145 k) (inlN Try.prog (F145 k) 4) [] Try.f145 (bodyOf Try.f145) (c145 k).ps (c145 k).rs (c145 k).rm x = (c145 k).m x := by kernel_rfl
theorem ok145 (k : Nat) : ConOk Try.prog (c145 k) :=
  fn_at (okF145 k) (cn := c145 k) (fn := Try.f145) (code := bodyOf Try.f145) (m := ⟨20, []⟩) (gs := []) (by kernel_rfl) (by kernel_rfl) (by kernel_rfl) (by kernel_rfl) (by kernel_rfl) (fun _ => by kernel_rfl)
    [] (fun c hP hm hg => (LInv.of (code := (bodyOf Try.f145)) (bs := []) (by kernel_rfl) LInv.nil)) (ev145 k)
def c112 (k : Nat) : Con := ⟨112, [(T_Job, false), (T_Job, false)], [.bool], (.own true), fun x => laws_eqJob x.1 x.2.1⟩
def F112 (k : Nat) : List Con := [c145 k]
theorem okF112 (k : Nat) : ∀ cn ∈ F112 k, ConOk Try.prog cn := (conCons (ok145 k) conNil)
theorem ev112 (k : Nat) (x) : evF Try.prog (F112 k) (inlN Try.prog (F112 k) 4) [] Try.f112 (bodyOf Try.f112) (c112 k).ps (c112 k).rs (c112 k).rm x = (c112 k).m x := by kernel_rfl
theorem ok112 (k : Nat) : ConOk Try.prog (c112 k) :=
  fn_at (okF112 k) (cn := c112 k) (fn := Try.f112) (code := bodyOf Try.f112) (m := ⟨16, []⟩) (gs := []) (by kernel_rfl) (by kernel_rfl) (by kernel_rfl) (by kernel_rfl) (by kernel_rfl) (fun _ => by kernel_rfl)
    [] (fun c hP hm hg => (LInv.of (code := (bodyOf Try.f112)) (bs := []) (by kernel_rfl) LInv.nil)) (ev112 k)
def c60 (k : Nat) : Con := ⟨60, [((.sl T_Job), false), ((.sl T_Job), false)], [.bool], (.own true), fun x => laws_eqJobS k x.1 x.2.1⟩
def F60 (k : Nat) : List Con := [c112 k]
theorem okF60 (k : Nat) : ∀ cn ∈ F60 k, ConOk Try.prog cn := (conCons (ok112 k) conNil)
abbrev S60_4 : Shape := [(0, .v (.sl T_Job)), (1, .v (.sl T_Job)), (5, .v (.int .i64))]
abbrev X60_4 : Exit × Shape := (Exit.ret, [(4, .v .bool)])
abbrev R60_4 : List (Exit × Shape) := [(Exit.exit 0, [])]
def lo60_4 (k : Nat) : LO := loopO [] [] [] S60_4 X60_4 R60_4 (iter (laws_eqJobS_s4) k)
theorem st60_4 (k : Nat) (rec v) : evC Try.prog ⟨27, []⟩ (F60 k) (inlN Try.prog (F60 k) 4) [] (lpAt (bodyOf Try.f60) [0]) (Kb [] [] [] S60_4 X60_4 R60_4 rec) (mkSt [] [] S60_4 v.1 v.2) = (laws_eqJobS_s4) rec v := by kernel_rfl
theorem lp60_4 (k : Nat) {c : Cx} (hP : c.P = Try.prog) (hm : c.m = ⟨27, []⟩) (hg : c.gs = []) : LoopOk c (lo60_4 k) (lpAt (bodyOf Try.f60) [0]) :=
  loop_at hP hm hg (okF60 k) (LInv.of (code := (lpAt (bodyOf Try.f60) [0])) (bs := []) (by kernel_rfl) LInv.nil) (fun rec v => st60_4 k rec v) k
theorem ev60 (k : Nat) (x) : evF Try.prog (F60 k) (inlN Try.prog (F60 k) 4) [(4, lo60_4 k)] Try.f60 (bodyOf Try.f60) (c60 k).ps (c60 k).rs (c60 k).rm x = (c60 k).m x := by kernel_rfl
theorem ok60 (k : Nat) : ConOk Try.prog (c60 k) :=
  fn_at (okF60 k) (cn := c60 k) (fn := Try.f60) (code := bodyOf Try.f60) (m := ⟨27, []⟩) (gs := []) (by kernel_rfl) (by kernel_rfl) (by kernel_rfl) (by kernel_rfl) (by kernel_rfl) (fun _ => by kernel_rfl)
    [(4, lo60_4 k)] (fun c hP hm hg => (LInv.of (code := (bodyOf Try.f60)) (bs := [(lpAt (bodyOf Try.f60) [0])]) (by kernel_rfl) (LInv.cons (b := (lpAt (bodyOf Try.f60) [0])) (by kernel_rfl) (lp60_4 k hP hm hg) LInv.nil))) (ev60 k)
def c25 (k : Nat) : Con := ⟨25, [(T_Line, false), (T_Line, false)], [.bool], (.own true), fun x => laws_eqLine k x.1 x.2.1⟩
def F25 (k : Nat) : List Con := [c60 k]
theorem okF25 (k : Nat) : ∀ cn ∈ F25 k, ConOk Try.prog cn := (conCons (ok60 k) conNil)
theorem ev25 (k : Nat) (x) : evF Try.prog (F25 k) (inlN Try.prog (F25 k) 4) [] Try.f25 (bodyOf Try.f25) (c25 k).ps (c25 k).rs (c25 k).rm x = (c25 k).m x := by kernel_rfl
theorem ok25 (k : Nat) : ConOk Try.prog (c25 k) :=
  fn_at (okF25 k) (cn := c25 k) (fn := Try.f25) (code := bodyOf Try.f25) (m := ⟨28, []⟩) (gs := []) (by kernel_rfl) (by kernel_rfl) (by kernel_rfl) (by kernel_rfl) (by kernel_rfl) (fun _ => by kernel_rfl)
    [] (fun c hP hm hg => (LInv.of (code := (bodyOf Try.f25)) (bs := []) (by kernel_rfl) LInv.nil)) (ev25 k)
def c4 (k : Nat) : Con := ⟨4, [(T_Line, false)], [.bool], (.own true), fun x => laws_FnExactLineEnd k x.1⟩
def F4 (k : Nat) : List Con := [c21 k, c23 k, c22 k, c24 k, c25 k]
theorem okF4 (k : Nat) : ∀ cn ∈ F4 k, ConOk Try.prog cn := (conCons (ok21 k) (conCons (ok23 k) (conCons (ok22 k) (conCons (ok24 k) (conCons (ok25 k) conNil)))))
theorem ev4 (k : Nat) (x) : evF Try.prog (F4 k) (inlN Try.prog (F4 k) 4) [] Try.f4 (bodyOf Try.f4) (c4 k).ps (c4 k).rs (c4 k).rm x = (c4 k).m x := by kernel_rfl
theorem ok4 (k : Nat) : ConOk Try.prog (c4 k) :=
  fn_at (okF4 k) (cn := c4 k) (fn := Try.f4) (code := bodyOf Try.f4) (m := ⟨27, []⟩) (gs := []) (by kernel_rfl) (by kernel_rfl) (by kernel_rfl) (by kernel_rfl) (by kernel_rfl) (fun _ => by kernel_rfl)
    [] (fun c hP hm hg => (LInv.of (code := (bodyOf Try.f4)) (bs := []) (by kernel_rfl) LInv.nil)) (ev4 k)
def c137 (k : Nat) : Con := ⟨137, [(T_Line, false)], [T_Line], (.own true), fun x => spec_l21Copy x.1⟩
def F137 (k : Nat) : List Con := []
theorem okF137 (k : Nat) : ∀ cn ∈ F137 k, ConOk Try.prog cn := conNil
theorem ev137 (k : Nat) (x) : evF Try.prog (F137 k) (inlN Try.prog (F137 k) 4) [] Try.f137 (bodyOf Try.f137) (c137 k).ps (c137 k).rs (c137 k).rm x = (c137 k).m x := by kernel_rfl
theorem ok137 (k : Nat) : ConOk Try.prog (c137 k) :=
  fn_at (okF137 k) (cn := c137 k) (fn := Try.f137) (code := bodyOf Try.f137) (m := ⟨18, []⟩) (gs := []) (by kernel_rfl) (by kernel_rfl) (by kernel_rfl) (by kernel_rfl) (by kernel_rfl) (fun _ => by kernel_rfl)
    [] (fun c hP hm hg => (LInv.of (code := (bodyOf Try.f137)) (bs := []) (by kernel_rfl) LInv.nil)) (ev137 k)
def c109 (k : Nat) : Con := ⟨109, [(T_Line, false)], [T_Line, (.int .i64)], (.own true), fun x => spec_l21Tick x.1⟩
def F109 (k : Nat) : List Con := [c137 k]
theorem okF109 (k : Nat) : ∀ cn ∈ F109 k, ConOk Try.prog cn := (conCons (ok137 k) conNil)
theorem ev109 (k : Nat) (x) : evF Try.prog (F109 k) (inlN Try.prog (F109 k) 4) [] Try.f109 (bodyOf Try.f109) (c109 k).ps (c109 k).rs (c109 k).rm x = (c109 k).m x := by kernel_rfl
theorem ok109 (k : Nat) : ConOk Try.prog (c109 k) :=
  fn_at (okF109 k) (cn := c109 k) (fn := Try.f109) (code := bodyOf Try.f109) (m := ⟨114, []⟩) (gs := []) (by kernel_rfl) (by kernel_rfl) (by kernel_rfl) (by kernel_rfl) (by kernel_rfl) (fun _ => by kernel_rfl)
    [] (fun c hP hm hg => (LInv.of (code := (bodyOf Try.f109)) (bs := []) (by kernel_rfl) LInv.nil)) (ev109 k)
def c52 (k : Nat) : Con := ⟨52, [(T_Line, false)], [T_Line, (.int .i64)], (.own true), fun x => spec_LineTick k x.1⟩
def F52 (k : Nat) : List Con := [c42 k, c109 k]
theorem okF52 (k : Nat) : ∀ cn ∈ F52 k, ConOk Try.prog cn := (conCons (ok42 k) (conCons (ok109 k) conNil))
theorem ev52 (k : Nat) (x) : evF Try.prog (F52 k) (inlN Try.prog (F52 k) 4) [] Try.f52 (bodyOf Try.f52) (c52 k).ps (c52 k).rs (c52 k).rm x = (c52 k).m x := by kernel_rfl
theorem ok52 (k : Nat) : ConOk Try.prog (c52 k) :=
  fn_at (okF52 k) (cn := c52 k) (fn := Try.f52) (code := bodyOf Try.f52) (m := ⟨12, []⟩) (gs := []) (by kernel_rfl) (by kernel_rfl) (by kernel_rfl) (by kernel_rfl) (by kernel_rfl) (fun _ => by kernel_rfl)
    [] (fun c hP hm hg => (LInv.of (code := (bodyOf Try.f52)) (bs := []) (by kernel_rfl) LInv.nil)) (ev52 k)
def c53 (k : Nat) : Con := ⟨53, [(T_Line, false)], [T_Line, (.int .i64)], (.own true), fun x => impl_LineTick k x.1⟩
def F53 (k : Nat) : List Con := [c81 k, c82 k]
theorem okF53 (k : Nat) : ∀ cn ∈ F53 k, ConOk Try.prog cn := (conCons (ok81 k) (conCons (ok82 k) conNil))
theorem ev53 (k : Nat) (x) : evF Try.prog (F53 k) (inlN Try.prog (F53 k) 4) [] Try.f53 (bodyOf Try.f53) (c53 k).ps (c53 k).rs (c53 k).rm x = (c53 k).m x := by kernel_rfl
theorem ok53 (k : Nat) : ConOk Try.prog (c53 k) :=
  fn_at (okF53 k) (cn := c53 k) (fn := Try.f53) (code := bodyOf Try.f53) (m := ⟨16, []⟩) (gs := []) (by kernel_rfl) (by kernel_rfl) (by kernel_rfl) (by kernel_rfl) (by kernel_rfl) (fun _ => by kernel_rfl)
    [] (fun c hP hm hg => (LInv.of (code := (bodyOf Try.f53)) (bs := []) (by kernel_rfl) LInv.nil)) (ev53 k)
def c61 (k : Nat) : Con := ⟨61, [((.sl T_Job), true), ((.int .i64), false)], [(.int .i64)], (.own true), fun x => laws_markJobS k x.1 x.2.1⟩
def F61 (k : Nat) : List Con := []
theorem okF61 (k : Nat) : ∀ cn ∈ F61 k, ConOk Try.prog cn := conNil
abbrev S61_2 : Shape := [(0, .arg 0), (1, .v (.int .i64)), (5, .v (.int .i64))]
abbrev X61_2 : Exit × Shape := (Exit.exit 0, [(1, .v (.int .i64))])
abbrev R61_2 : List (Exit × Shape) := []
def lo61_2 (k : Nat) : LO := loopO [(0, 0)] [.full 0] [(.sl T_Job)] S61_2 X61_2 R61_2 (iter (laws_markJobS_s2) k)
theorem st61_2 (k : Nat) (rec v) : evC Try.prog ⟨44, [(0, 0)]⟩ (F61 k) (inlN Try.prog (F61 k) 4) [] (lpAt (bodyOf Try.f61) [0]) (Kb [(0, 0)] [.full 0] [(.sl T_Job)] S61_2 X61_2 R61_2 rec) (mkSt [.full 0] [(.sl T_Job)] S61_2 v.1 v.2) = (laws_markJobS_s2) rec v := by kernel_rfl
theorem lp61_2 (k : Nat) {c : Cx} (hP : c.P = Try.prog) (hm : c.m = ⟨44, [(0, 0)]⟩) (hg : c.gs = [.full 0]) : LoopOk c (lo61_2 k) (lpAt (bodyOf Try.f61) [0]) :=
  loop_at hP hm hg (okF61 k) (LInv.of (code := (lpAt (bodyOf Try.f61) [0])) (bs := []) (by kernel_rfl) LInv.nil) (fun rec v => st61_2 k rec v) k
theorem ev61 (k : Nat) (x) : evF Try.prog (F61 k) (inlN Try.prog (F61 k) 4) [(2, lo61_2 k)] Try.f61 (bodyOf Try.f61) (c61 k).ps (c61 k).rs (c61 k).rm x = (c61 k).m x := by kernel_rfl
theorem ok61 (k : Nat) : ConOk Try.prog (c61 k) :=
  fn_at (okF61 k) (cn := c61 k) (fn := Try.f61) (code := bodyOf Try.f61) (m := ⟨44, [(0, 0)]⟩) (gs := [.full 0]) (by kernel_rfl) (by kernel_rfl) (by kernel_rfl) (by kernel_rfl) (by kernel_rfl) (fun _ => by kernel_rfl)
    [(2, lo61_2 k)] (fun c hP hm hg => (LInv.of (code := (bodyOf Try.f61)) (bs := [(lpAt (bodyOf Try.f61) [0])]) (by kernel_rfl) (LInv.cons (b := (lpAt (bodyOf Try.f61) [0])) (by kernel_rfl) (lp61_2 k hP hm hg) LInv.nil))) (ev61 k)
def c110 (k : Nat) : Con := ⟨110, [((.sl T_Job), false), ((.int .i64), false)], [(.int .i64)], (.own true), fun x => laws_heldJobS k x.1 x.2.1⟩
def F110 (k : Nat) : List Con := []
theorem okF110 (k : Nat) : ∀ cn ∈ F110 k, ConOk Try.prog cn := conNil
abbrev S110_2 : Shape := [(0, .v (.sl T_Job)), (1, .v (.int .i64)), (5, .v (.int .i64))]
abbrev X110_2 : Exit × Shape := (Exit.ret, [(4, .v (.int .i64))])
abbrev R110_2 : List (Exit × Shape) := [(Exit.exit 0, [(1, .v (.int .i64))])]
def lo110_2 (k : Nat) : LO := loopO [] [] [] S110_2 X110_2 R110_2 (iter (laws_heldJobS_s2) k)
theorem st110_2 (k : Nat) (rec v) : evC Try.prog ⟨52, []⟩ (F110 k) (inlN Try.prog (F110 k) 4) [] (lpAt (bodyOf Try.f110) [0]) (Kb [] [] [] S110_2 X110_2 R110_2 rec) (mkSt [] [] S110_2 v.1 v.2) = (laws_heldJobS_s2) rec v := by kernel_rfl
theorem lp110_2 (k : Nat) {c : Cx} (hP : c.P = Try.prog) (hm : c.m = ⟨52, []⟩) (hg : c.gs = []) : LoopOk c (lo110_2 k) (lpAt (bodyOf Try.f110) [0]) :=
  loop_at hP hm hg (okF110 k) (LInv.of (code := (lpAt (bodyOf Try.f110) [0])) (bs := []) (by kernel_rfl) LInv.nil) (fun rec v => st110_2 k rec v) k
theorem ev110 (k : Nat) (x) : evF Try.prog (F110 k) (inlN Try.prog (F110 k) 4) [(2, lo110_2 k)] Try.f110 (bodyOf Try.f110) (c110 k).ps (c110 k).rs (c110 k).rm x = (c110 k).m x := by kernel_rfl
theorem ok110 (k : Nat) : ConOk Try.prog (c110 k) :=
  fn_at (okF110 k) (cn := c110 k) (fn := Try.f110) (code := bodyOf Try.f110) (m := ⟨52, []⟩) (gs := []) (by kernel_rfl) (by kernel_rfl) (by kernel_rfl) (by kernel_rfl) (by kernel_rfl) (fun _ => by kernel_rfl)
    [(2, lo110_2 k)] (fun c hP hm hg => (LInv.of (code := (bodyOf Try.f110)) (bs := [(lpAt (bodyOf Try.f110) [0])]) (by kernel_rfl) (LInv.cons (b := (lpAt (bodyOf Try.f110) [0])) (by kernel_rfl) (lp110_2 k hP hm hg) LInv.nil))) (ev110 k)
def c55 (k : Nat) : Con := ⟨55, [(T_Line, false), ((.int .i64), false)], [(.int .i64)], (.own true), fun x => laws_heldLine k x.1 x.2.1⟩
def F55 (k : Nat) : List Con := [c110 k]
theorem okF55 (k : Nat) : ∀ cn ∈ F55 k, ConOk Try.prog cn := (conCons (ok110 k) conNil)
theorem ev55 (k : Nat) (x) : evF Try.prog (F55 k) (inlN Try.prog (F55 k) 4) [] Try.f55 (bodyOf Try.f55) (c55 k).ps (c55 k).rs (c55 k).rm x = (c55 k).m x := by kernel_rfl
theorem ok55 (k : Nat) : ConOk Try.prog (c55 k) :=
  fn_at (okF55 k) (cn := c55 k) (fn := Try.f55) (code := bodyOf Try.f55) (m := ⟨24, []⟩) (gs := []) (by kernel_rfl) (by kernel_rfl) (by kernel_rfl) (by kernel_rfl) (by kernel_rfl) (fun _ => by kernel_rfl)
    [] (fun c hP hm hg => (LInv.of (code := (bodyOf Try.f55)) (bs := []) (by kernel_rfl) LInv.nil)) (ev55 k)
def c10 (k : Nat) : Con := ⟨10, [(T_Line, false)], [.bool], (.own true), fun x => laws_FnExactLineTick k x.1⟩
def F10 (k : Nat) : List Con := [c21 k, c23 k, c52 k, c53 k, c25 k, c61 k, c55 k]
theorem okF10 (k : Nat) : ∀ cn ∈ F10 k, ConOk Try.prog cn := (conCons (ok21 k) (conCons (ok23 k) (conCons (ok52 k) (conCons (ok53 k) (conCons (ok25 k) (conCons (ok61 k) (conCons (ok55 k) conNil)))))))
theorem ev10 (k : Nat) (x) : evF Try.prog (F10 k) (inlN Try.prog (F10 k) 4) [] Try.f10 (bodyOf Try.f10) (c10 k).ps (c10 k).rs (c10 k).rm x = (c10 k).m x := by kernel_rfl
theorem ok10 (k : Nat) : ConOk Try.prog (c10 k) :=
  fn_at (okF10 k) (cn := c10 k) (fn := Try.f10) (code := bodyOf Try.f10) (m := ⟨96, []⟩) (gs := []) (by kernel_rfl) (by kernel_rfl) (by kernel_rfl) (by kernel_rfl) (by kernel_rfl) (fun _ => by kernel_rfl)
    [] (fun c hP hm hg => (LInv.of (code := (bodyOf Try.f10)) (bs := []) (by kernel_rfl) LInv.nil)) (ev10 k)
def c96 (k : Nat) : Con := ⟨96, [((.int .i64), false)], [T_Line], (.own true), fun x => spec_LineNew k x.1⟩
def F96 (k : Nat) : List Con := [c42 k]
theorem okF96 (k : Nat) : ∀ cn ∈ F96 k, ConOk Try.prog cn := (conCons (ok42 k) conNil)
theorem ev96 (k : Nat) (x) : evF Try.prog (F96 k) (inlN Try.prog (F96 k) 4) [] Try.f96 (bodyOf Try.f96) (c96 k).ps (c96 k).rs (c96 k).rm x = (c96 k).m x := by kernel_rfl
theorem ok96 (k : Nat) : ConOk Try.prog (c96 k) :=
  fn_at (okF96 k) (cn := c96 k) (fn := Try.f96) (code := bodyOf Try.f96) (m := ⟨10, []⟩) (gs := []) (by kernel_rfl) (by kernel_rfl) (by kernel_rfl) (by kernel_rfl) (by kernel_rfl) (fun _ => by kernel_rfl)
    [] (fun c hP hm hg => (LInv.of (code := (bodyOf Try.f96)) (bs := []) (by kernel_rfl) LInv.nil)) (ev96 k)
def c147 (k : Nat) : Con := ⟨147, [(T_Vec, false), ((.int .i64), false), ((.int .i64), false)], [.bool], (.own true), fun x => spec_l13All x.1 x.2.1 x.2.2.1⟩
def F147 (k : Nat) : List Con := []
theorem okF147 (k : Nat) : ∀ cn ∈ F147 k, ConOk Try.prog cn := conNil
theorem ev147 (k : Nat) (x) : evF Try.prog (F147 k) (inlN Try.prog (F147 k) 4) [] Try.f147 (bodyOf Try.f147) (c147 k).ps (c147 k).rs (c147 k).rm x = (c147 k).m x := by kernel_rfl
theorem ok147 (k : Nat) : ConOk Try.prog (c147 k) :=
  fn_at (okF147 k) (cn := c147 k) (fn := Try.f147) (code := bodyOf Try.f147) (m := ⟨41, []⟩) (gs := []) (by kernel_rfl) (by kernel_rfl) (by kernel_rfl) (by kernel_rfl) (by kernel_rfl) (fun _ => by kernel_rfl)
    [] (fun c hP hm hg => (LInv.of (code := (bodyOf Try.f147)) (bs := []) (by kernel_rfl) LInv.nil)) (ev147 k)
def c136 (k : Nat) : Con := ⟨136, [(T_Vec, false)], [.bool], (.own true), fun x => spec_CostOk x.1⟩
def F136 (k : Nat) : List Con := [c147 k]
theorem okF136 (k : Nat) : ∀ cn ∈ F136 k, ConOk Try.prog cn := (conCons (ok147 k) conNil)
theorem ev136 (k : Nat) (x) : evF Try.prog (F136 k) (inlN Try.prog (F136 k) 4) [] Try.f136 (bodyOf Try.f136) (c136 k).ps (c136 k).rs (c136 k).rm x = (c136 k).m x := by kernel_rfl
theorem ok136 (k : Nat) : ConOk Try.prog (c136 k) :=
  fn_at (okF136 k) (cn := c136 k) (fn := Try.f136) (code := bodyOf Try.f136) (m := ⟨5, []⟩) (gs := []) (by kernel_rfl) (by kernel_rfl) (by kernel_rfl) (by kernel_rfl) (by kernel_rfl) (fun _ => by kernel_rfl)
    [] (fun c hP hm hg => (LInv.of (code := (bodyOf Try.f136)) (bs := []) (by kernel_rfl) LInv.nil)) (ev136 k)
def c97 (k : Nat) : Con := ⟨97, [(T_Line, false), (T_Job, false)], [T_Line, (.int .i64)], (.own true), fun x => spec_LinePut k x.1 x.2.1⟩
def F97 (k : Nat) : List Con := [c42 k, c136 k, c102 k, c137 k]
theorem okF97 (k : Nat) : ∀ cn ∈ F97 k, ConOk Try.prog cn := (conCons (ok42 k) (conCons (ok136 k) (conCons (ok102 k) (conCons (ok137 k) conNil))))
abbrev S97_5 : Shape := [(2, .boxv T_Line), (3, .box true T_Job), (4, .box true T_Line), (6, .own true (.sl T_Job)), (7, .v (.int .i64))]
abbrev X97_5 : Exit × Shape := (Exit.ret, [(4, .box true T_Line), (5, .v (.int .i64))])
abbrev R97_5 : List (Exit × Shape) := [(Exit.exit 0, [(2, .boxv T_Line), (3, .box true T_Job), (4, .box true T_Line), (6, .own true (.sl T_Job))])]
def lo97_5 (k : Nat) : LO := loopO [] [] [] S97_5 X97_5 R97_5 (iter (spec_LinePut_s5) k)
theorem st97_5 (k : Nat) (rec v) : evC Try.prog ⟨61, []⟩ (F97 k) (inlN Try.prog (F97 k) 4) [] (lpAt (bodyOf Try.f97) [0]) (Kb [] [] [] S97_5 X97_5 R97_5 rec) (mkSt [] [] S97_5 v.1 v.2) = (spec_LinePut_s5) rec v := by kernel_rfl
theorem lp97_5 (k : Nat) {c : Cx} (hP : c.P = Try.prog) (hm : c.m = ⟨61, []⟩) (hg : c.gs = []) : LoopOk c (lo97_5 k) (lpAt (bodyOf Try.f97) [0]) :=
  loop_at hP hm hg (okF97 k) (LInv.of (code := (lpAt (bodyOf Try.f97) [0])) (bs := []) (by kernel_rfl) LInv.nil) (fun rec v => st97_5 k rec v) k
theorem ev97 (k : Nat) (x) : evF Try.prog (F97 k) (inlN Try.prog (F97 k) 4) [(5, lo97_5 k)] Try.f97 (bodyOf Try.f97) (c97 k).ps (c97 k).rs (c97 k).rm x = (c97 k).m x := by kernel_rfl
theorem ok97 (k : Nat) : ConOk Try.prog (c97 k) :=
  fn_at (okF97 k) (cn := c97 k) (fn := Try.f97) (code := bodyOf Try.f97) (m := ⟨61, []⟩) (gs := []) (by kernel_rfl) (by kernel_rfl) (by kernel_rfl) (by kernel_rfl) (by kernel_rfl) (fun _ => by kernel_rfl)
    [(5, lo97_5 k)] (fun c hP hm hg => (LInv.of (code := (bodyOf Try.f97)) (bs := [(lpAt (bodyOf Try.f97) [0])]) (by kernel_rfl) (LInv.cons (b := (lpAt (bodyOf Try.f97) [0])) (by kernel_rfl) (lp97_5 k hP hm hg) LInv.nil))) (ev97 k)
def c36 (k : Nat) : Con := ⟨36, [((.sl T_Job), false)], [(.sl (.int .i64))], (.own true), fun x => spec_LineTimes k x.1⟩
def F36 (k : Nat) : List Con := [c96 k, c97 k, c80 k]
theorem okF36 (k : Nat) : ∀ cn ∈ F36 k, ConOk Try.prog cn := (conCons (ok96 k) (conCons (ok97 k) (conCons (ok80 k) conNil)))
abbrev S36_5 : Shape := [(0, .v (.sl T_Job)), (3, .box true T_Line), (4, .v (.int .i64))]
abbrev X36_5 : Exit × Shape := (Exit.ret, [(2, .own true (.sl (.int .i64)))])
abbrev R36_5 : List (Exit × Shape) := [(Exit.exit 0, [(3, .box true T_Line)])]
def lo36_5 (k : Nat) : LO := loopO [] [] [] S36_5 X36_5 R36_5 (iter (spec_LineTimes_s5 k) k)
theorem st36_5 (k : Nat) (rec v) : evC Try.prog ⟨31, []⟩ (F36 k) (inlN Try.prog (F36 k) 4) [] (lpAt (bodyOf Try.f36) [0]) (Kb [] [] [] S36_5 X36_5 R36_5 rec) (mkSt [] [] S36_5 v.1 v.2) = (spec_LineTimes_s5 k) rec v := by kernel_rfl
theorem lp36_5 (k : Nat) {c : Cx} (hP : c.P = Try.prog) (hm : c.m = ⟨31, []⟩) (hg : c.gs = []) : LoopOk c (lo36_5 k) (lpAt (bodyOf Try.f36) [0]) :=
  loop_at hP hm hg (okF36 k) (LInv.of (code := (lpAt (bodyOf Try.f36) [0])) (bs := []) (by kernel_rfl) LInv.nil) (fun rec v => st36_5 k rec v) k
theorem ev36 (k : Nat) (x) : evF Try.prog (F36 k) (inlN Try.prog (F36 k) 4) [(5, lo36_5 k)] Try.f36 (bodyOf Try.f36) (c36 k).ps (c36 k).rs (c36 k).rm x = (c36 k).m x := by kernel_rfl
theorem ok36 (k : Nat) : ConOk Try.prog (c36 k) :=
  fn_at (okF36 k) (cn := c36 k) (fn := Try.f36) (code := bodyOf Try.f36) (m := ⟨31, []⟩) (gs := []) (by kernel_rfl) (by kernel_rfl) (by kernel_rfl) (by kernel_rfl) (by kernel_rfl) (fun _ => by kernel_rfl)
    [(5, lo36_5 k)] (fun c hP hm hg => (LInv.of (code := (bodyOf Try.f36)) (bs := [(lpAt (bodyOf Try.f36) [0])]) (by kernel_rfl) (LInv.cons (b := (lpAt (bodyOf Try.f36) [0])) (by kernel_rfl) (lp36_5 k hP hm hg) LInv.nil))) (ev36 k)
def c38 (k : Nat) : Con := ⟨38, [((.int .i64), false)], [T_Line], (.own true), fun x => impl_LineNew x.1⟩
def F38 (k : Nat) : List Con := [c76 k]
theorem okF38 (k : Nat) : ∀ cn ∈ F38 k, ConOk Try.prog cn := (conCons (ok76 k) conNil)
theorem ev38 (k : Nat) (x) : evF Try.prog (F38 k) (inlN Try.prog (F38 k) 4) [] Try.f38 (bodyOf Try.f38) (c38 k).ps (c38 k).rs (c38 k).rm x = (c38 k).m x := by kernel_rfl
theorem ok38 (k : Nat) : ConOk Try.prog (c38 k) :=
  fn_at (okF38 k) (cn := c38 k) (fn := Try.f38) (code := bodyOf Try.f38) (m := ⟨9, []⟩) (gs := []) (by kernel_rfl) (by kernel_rfl) (by kernel_rfl) (by kernel_rfl) (by kernel_rfl) (fun _ => by kernel_rfl)
    [] (fun c hP hm hg => (LInv.of (code := (bodyOf Try.f38)) (bs := []) (by kernel_rfl) LInv.nil)) (ev38 k)
def c100 (k : Nat) : Con := ⟨100, [(T_Job, false), ((.ref T_Job), false)], [.bool], (.own true), fun x => impl_LinePut_1 x.1 x.2.1⟩
def F100 (k : Nat) : List Con := []
theorem okF100 (k : Nat) : ∀ cn ∈ F100 k, ConOk Try.prog cn := conNil
theorem ev100 (k : Nat) (x) : evF Try.prog (F100 k) (inlN Try.prog (F100 k) 4) [] Try.f100 (bodyOf Try.f100) (c100 k).ps (c100 k).rs (c100 k).rm x = (c100 k).m x := by kernel_rfl
theorem ok100 (k : Nat) : ConOk Try.prog (c100 k) :=
  fn_at (okF100 k) (cn := c100 k) (fn := Try.f100) (code := bodyOf Try.f100) (m := ⟨9, []⟩) (gs := []) (by kernel_rfl) (by kernel_rfl) (by kernel_rfl) (by kernel_rfl) (by kernel_rfl) (fun _ => by kernel_rfl)
    [] (fun c hP hm hg => (LInv.of (code := (bodyOf Try.f100)) (bs := []) (by kernel_rfl) LInv.nil)) (ev100 k)
def c139 (k : Nat) : Con := ⟨139, [((.sl T_Job), false), ((.cl 100 (.pr (.ref T_Job) .un)), false)], [(.int .i64)], (.own true), fun x => slices_IndexFunc_impl_Job_impl_Job k x.1 x.2.1⟩
def F139 (k : Nat) : List Con := [c100 k]
theorem okF139 (k : Nat) : ∀ cn ∈ F139 k, ConOk Try.prog cn := (conCons (ok100 k) conNil)
abbrev S139_2 : Shape := [(0, .v (.sl T_Job)), (1, .v (.cl 100 (.pr (.ref T_Job) .un))), (7, .v (.int .i64)), (8, .v (.int .i64))]
abbrev X139_2 : Exit × Shape := (Exit.ret, [(4, .v (.int .i64))])
abbrev R139_2 : List (Exit × Shape) := [(Exit.exit 0, [])]
def lo139_2 (k : Nat) : LO := loopO [] [] [] S139_2 X139_2 R139_2 (iter (slices_IndexFunc_impl_Job_impl_Job_s2) k)
theorem st139_2 (k : Nat) (rec v) : evC Try.prog ⟨19, []⟩ (F139 k) (inlN Try.prog (F139 k) 4) [] (lpAt (bodyOf Try.f139) [0]) (Kb [] [] [] S139_2 X139_2 R139_2 rec) (mkSt [] [] S139_2 v.1 v.2) = (slices_IndexFunc_impl_Job_impl_Job_s2) rec v := by kernel_rfl
theorem lp139_2 (k : Nat) {c : Cx} (hP : c.P = Try.prog) (hm : c.m = ⟨19, []⟩) (hg : c.gs = []) : LoopOk c (lo139_2 k) (lpAt (bodyOf Try.f139) [0]) :=
  loop_at hP hm hg (okF139 k) (LInv.of (code := (lpAt (bodyOf Try.f139) [0])) (bs := []) (by kernel_rfl) LInv.nil) (fun rec v => st139_2 k rec v) k
theorem ev139 (k : Nat) (x) : evF Try.prog (F139 k) (inlN Try.prog (F139 k) 4) [(2, lo139_2 k)] Try.f139 (bodyOf Try.f139) (c139 k).ps (c139 k).rs (c139 k).rm x = (c139 k).m x := by kernel_rfl
theorem ok139 (k : Nat) : ConOk Try.prog (c139 k) :=
  fn_at (okF139 k) (cn := c139 k) (fn := Try.f139) (code := bodyOf Try.f139) (m := ⟨19, []⟩) (gs := []) (by kernel_rfl) (by kernel_rfl) (by kernel_rfl) (by kernel_rfl) (by kernel_rfl) (fun _ => by kernel_rfl)
    [(2, lo139_2 k)] (fun c hP hm hg => (LInv.of (code := (bodyOf Try.f139)) (bs := [(lpAt (bodyOf Try.f139) [0])]) (by kernel_rfl) (LInv.cons (b := (lpAt (bodyOf Try.f139) [0])) (by kernel_rfl) (lp139_2 k hP hm hg) LInv.nil))) (ev139 k)
def c99 (k : Nat) : Con := ⟨99, [((.sl T_Job), false), ((.cl 100 (.pr (.ref T_Job) .un)), false)], [.bool], (.own true), fun x => slices_ContainsFunc_impl_Job_impl_Job k x.1 x.2.1⟩
def F99 (k : Nat) : List Con := [c139 k]
theorem okF99 (k : Nat) : ∀ cn ∈ F99 k, ConOk Try.prog cn := (conCons (ok139 k) conNil)
theorem ev99 (k : Nat) (x) : evF Try.prog (F99 k) (inlN Try.prog (F99 k) 4) [] Try.f99 (bodyOf Try.f99) (c99 k).ps (c99 k).rs (c99 k).rm x = (c99 k).m x := by kernel_rfl
theorem ok99 (k : Nat) : ConOk Try.prog (c99 k) :=
  fn_at (okF99 k) (cn := c99 k) (fn := Try.f99) (code := bodyOf Try.f99) (m := ⟨9, []⟩) (gs := []) (by kernel_rfl) (by kernel_rfl) (by kernel_rfl) (by kernel_rfl) (by kernel_rfl) (fun _ => by kernel_rfl)
    [] (fun c hP hm hg => (LInv.of (code := (bodyOf Try.f99)) (bs := []) (by kernel_rfl) LInv.nil)) (ev99 k)
def c39 (k : Nat) : Con := ⟨39, [(T_Line, false), (T_Job, false)], [T_Line, (.int .i64)], (.own true), fun x => impl_LinePut k x.1 x.2.1⟩
def F39 (k : Nat) : List Con := [c81 k, c98 k, c76 k, c83 k, c99 k, c82 k]
theorem okF39 (k : Nat) : ∀ cn ∈ F39 k, ConOk Try.prog cn := (conCons (ok81 k) (conCons (ok98 k) (conCons (ok76 k) (conCons (ok83 k) (conCons (ok99 k) (conCons (ok82 k) conNil))))))
theorem ev39 (k : Nat) (x) : evF Try.prog (F39 k) (inlN Try.prog (F39 k) 4) [] Try.f39 (bodyOf Try.f39) (c39 k).ps (c39 k).rs (c39 k).rm x = (c39 k).m x := by kernel_rfl
theorem ok39 (k : Nat) : ConOk Try.prog (c39 k) :=
  fn_at (okF39 k) (cn := c39 k) (fn := Try.f39) (code := bodyOf Try.f39) (m := ⟨47, []⟩) (gs := []) (by kernel_rfl) (by kernel_rfl) (by kernel_rfl) (by kernel_rfl) (by kernel_rfl) (fun _ => by kernel_rfl)
    [] (fun c hP hm hg => (LInv.of (code := (bodyOf Try.f39)) (bs := []) (by kernel_rfl) LInv.nil)) (ev39 k)
def c37 (k : Nat) : Con := ⟨37, [((.sl T_Job), false)], [(.sl (.int .i64))], (.own true), fun x => impl_LineTimes k x.1⟩
def F37 (k : Nat) : List Con := [c38 k, c39 k]
theorem okF37 (k : Nat) : ∀ cn ∈ F37 k, ConOk Try.prog cn := (conCons (ok38 k) (conCons (ok39 k) conNil))
abbrev S37_3 : Shape := [(0, .v (.sl T_Job)), (3, .box true T_Line), (10, .v (.sl T_Job)), (11, .v (.int .i64)), (12, .v (.int .i64))]
abbrev X37_3 : Exit × Shape := (Exit.ret, [(2, .own true (.sl (.int .i64)))])
abbrev R37_3 : List (Exit × Shape) := [(Exit.exit 0, [(0, .v (.sl T_Job)), (3, .box true T_Line)])]
def lo37_3 (k : Nat) : LO := loopO [] [] [] S37_3 X37_3 R37_3 (iter (impl_LineTimes_s3 k) k)
theorem st37_3 (k : Nat) (rec v) : evC Try.prog ⟨40, []⟩ (F37 k) (inlN Try.prog (F37 k) 4) [] (lpAt (bodyOf Try.f37) [0]) (Kb [] [] [] S37_3 X37_3 R37_3 rec) (mkSt [] [] S37_3 v.1 v.2) = (impl_LineTimes_s3 k) rec v := by kernel_rfl
theorem lp37_3 (k : Nat) {c : Cx} (hP : c.P = Try.prog) (hm : c.m = ⟨40, []⟩) (hg : c.gs = []) : LoopOk c (lo37_3 k) (lpAt (bodyOf Try.f37) [0]) :=
  loop_at hP hm hg (okF37 k) (LInv.of (code := (lpAt (bodyOf Try.f37) [0])) (bs := []) (by kernel_rfl) LInv.nil) (fun rec v => st37_3 k rec v) k
abbrev S37_11 : Shape := [(0, .v (.sl T_Job)), (3, .box true T_Line), (7, .own true (.sl (.int .i64))), (8, .v (.int .i64))]
abbrev X37_11 : Exit × Shape := (Exit.exit 2, [(7, .own true (.sl (.int .i64)))])
abbrev R37_11 : List (Exit × Shape) := []
def lo37_11 (k : Nat) : LO := loopO [] [] [] S37_11 X37_11 R37_11 (iter (impl_LineTimes_s11) k)
theorem st37_11 (k : Nat) (rec v) : evC Try.prog ⟨40, []⟩ (F37 k) (inlN Try.prog (F37 k) 4) [] (lpAt (bodyOf Try.f37) [1]) (Kb [] [] [] S37_11 X37_11 R37_11 rec) (mkSt [] [] S37_11 v.1 v.2) = (impl_LineTimes_s11) rec v := by kernel_rfl
theorem lp37_11 (k : Nat) {c : Cx} (hP : c.P = Try.prog) (hm : c.m = ⟨40, []⟩) (hg : c.gs = []) : LoopOk c (lo37_11 k) (lpAt (bodyOf Try.f37) [1]) :=
  loop_at hP hm hg (okF37 k) (LInv.of (code := (lpAt (bodyOf Try.f37) [1])) (bs := []) (by kernel_rfl) LInv.nil) (fun rec v => st37_11 k rec v) k
theorem ev37 (k : Nat) (x) : evF Try.prog (F37 k) (inlN Try.prog (F37 k) 4) [(3, lo37_3 k), (11, lo37_11 k)] Try.f37 (bodyOf Try.f37) (c37 k).ps (c37 k).rs (c37 k).rm x = (c37 k).m x := by kernel_rfl
theorem ok37 (k : Nat) : ConOk Try.prog (c37 k) :=
  fn_at (okF37 k) (cn := c37 k) (fn := Try.f37) (code := bodyOf Try.f37) (m := ⟨40, []⟩) (gs := []) (by kernel_rfl) (by kernel_rfl) (by kernel_rfl) (by kernel_rfl) (by kernel_rfl) (fun _ => by kernel_rfl)
    [(3, lo37_3 k), (11, lo37_11 k)] (fun c hP hm hg => (LInv.of (code := (bodyOf Try.f37)) (bs := [(lpAt (bodyOf Try.f37) [0]), (lpAt (bodyOf Try.f37) [1])]) (by kernel_rfl) (LInv.cons (b := (lpAt (bodyOf Try.f37) [0])) (by kernel_rfl) (lp37_3 k hP hm hg) (LInv.cons (b := (lpAt (bodyOf Try.f37) [1])) (by kernel_rfl) (lp37_11 k hP hm hg) LInv.nil)))) (ev37 k)
def c59 (k : Nat) : Con := ⟨59, [((.sl (.int .i64)), false), ((.sl (.int .i64)), false)], [.bool], (.own true), fun x => laws_eqIntS k x.1 x.2.1⟩
def F59 (k : Nat) : List Con := []
theorem okF59 (k : Nat) : ∀ cn ∈ F59 k, ConOk Try.prog cn := conNil
abbrev S59_4 : Shape := [(0, .v (.sl (.int .i64))), (1, .v (.sl (.int .i64))), (5, .v (.int .i64))]
abbrev X59_4 : Exit × Shape := (Exit.ret, [(4, .v .bool)])
abbrev R59_4 : List (Exit × Shape) := [(Exit.exit 0, [])]
def lo59_4 (k : Nat) : LO := loopO [] [] [] S59_4 X59_4 R59_4 (iter (laws_eqIntS_s4) k)
theorem st59_4 (k : Nat) (rec v) : evC Try.prog ⟨26, []⟩ (F59 k) (inlN Try.prog (F59 k) 4) [] (lpAt (bodyOf Try.f59) [0]) (Kb [] [] [] S59_4 X59_4 R59_4 rec) (mkSt [] [] S59_4 v.1 v.2) = (laws_eqIntS_s4) rec v := by kernel_rfl
theorem lp59_4 (k : Nat) {c : Cx} (hP : c.P = Try.prog) (hm : c.m = ⟨26, []⟩) (hg : c.gs = []) : LoopOk c (lo59_4 k) (lpAt (bodyOf Try.f59) [0]) :=
  loop_at hP hm hg (okF59 k) (LInv.of (code := (lpAt (bodyOf Try.f59) [0])) (bs := []) (by kernel_rfl) LInv.nil) (fun rec v => st59_4 k rec v) k
theorem ev59 (k : Nat) (x) : evF Try.prog (F59 k) (inlN Try.prog (F59 k) 4) [(4, lo59_4 k)] Try.f59 (bodyOf Try.f59) (c59 k).ps (c59 k).rs (c59 k).rm x = (c59 k).m x := by kernel_rfl
theorem ok59 (k : Nat) : ConOk Try.prog (c59 k) :=
  fn_at (okF59 k) (cn := c59 k) (fn := Try.f59) (code := bodyOf Try.f59) (m := ⟨26, []⟩) (gs := []) (by kernel_rfl) (by kernel_rfl) (by kernel_rfl) (by kernel_rfl) (by kernel_rfl) (fun _ => by kernel_rfl)
    [(4, lo59_4 k)] (fun c hP hm hg => (LInv.of (code := (bodyOf Try.f59)) (bs := [(lpAt (bodyOf Try.f59) [0])]) (by kernel_rfl) (LInv.cons (b := (lpAt (bodyOf Try.f59) [0])) (by kernel_rfl) (lp59_4 k hP hm hg) LInv.nil))) (ev59 k)
def c62 (k : Nat) : Con := ⟨62, [((.sl (.int .i64)), true), ((.int .i64), false)], [(.int .i64)], (.own true), fun x => laws_markIntS k x.1 x.2.1⟩
def F62 (k : Nat) : List Con := []
theorem okF62 (k : Nat) : ∀ cn ∈ F62 k, ConOk Try.prog cn := conNil
abbrev S62_2 : Shape := [(0, .arg 0), (1, .v (.int .i64)), (5, .v (.int .i64))]
abbrev X62_2 : Exit × Shape := (Exit.exit 0, [(1, .v (.int .i64))])
abbrev R62_2 : List (Exit × Shape) := []
def lo62_2 (k : Nat) : LO := loopO [(0, 0)] [.full 0] [(.sl (.int .i64))] S62_2 X62_2 R62_2 (iter (laws_markIntS_s2) k)
theorem st62_2 (k : Nat) (rec v) : evC Try.prog ⟨19, [(0, 0)]⟩ (F62 k) (inlN Try.prog (F62 k) 4) [] (lpAt (bodyOf Try.f62) [0]) (Kb [(0, 0)] [.full 0] [(.sl (.int .i64))] S62_2 X62_2 R62_2 rec) (mkSt [.full 0] [(.sl (.int .i64))] S62_2 v.1 v.2) = (laws_markIntS_s2) rec v := by kernel_rfl
theorem lp62_2 (k : Nat) {c : Cx} (hP : c.P = Try.prog) (hm : c.m = ⟨19, [(0, 0)]⟩) (hg : c.gs = [.full 0]) : LoopOk c (lo62_2 k) (lpAt (bodyOf Try.f62) [0]) :=
  loop_at hP hm hg (okF62 k) (LInv.of (code := (lpAt (bodyOf Try.f62) [0])) (bs := []) (by kernel_rfl) LInv.nil) (fun rec v => st62_2 k rec v) k
theorem ev62 (k : Nat) (x) : evF Try.prog (F62 k) (inlN Try.prog (F62 k) 4) [(2, lo62_2 k)] Try.f62 (bodyOf Try.f62) (c62 k).ps (c62 k).rs (c62 k).rm x = (c62 k).m x := by kernel_rfl
theorem ok62 (k : Nat) : ConOk Try.prog (c62 k) :=
  fn_at (okF62 k) (cn := c62 k) (fn := Try.f62) (code := bodyOf Try.f62) (m := ⟨19, [(0, 0)]⟩) (gs := [.full 0]) (by kernel_rfl) (by kernel_rfl) (by kernel_rfl) (by kernel_rfl) (by kernel_rfl) (fun _ => by kernel_rfl)
    [(2, lo62_2 k)] (fun c hP hm hg => (LInv.of (code := (bodyOf Try.f62)) (bs := [(lpAt (bodyOf Try.f62) [0])]) (by kernel_rfl) (LInv.cons (b := (lpAt (bodyOf Try.f62) [0])) (by kernel_rfl) (lp62_2 k hP hm hg) LInv.nil))) (ev62 k)
def c63 (k : Nat) : Con := ⟨63, [((.sl (.int .i64)), false), ((.int .i64), false)], [(.int .i64)], (.own true), fun x => laws_heldIntS k x.1 x.2.1⟩
def F63 (k : Nat) : List Con := []
theorem okF63 (k : Nat) : ∀ cn ∈ F63 k, ConOk Try.prog cn := conNil
abbrev S63_2 : Shape := [(0, .v (.sl (.int .i64))), (1, .v (.int .i64)), (5, .v (.int .i64))]
abbrev X63_2 : Exit × Shape := (Exit.ret, [(4, .v (.int .i64))])
abbrev R63_2 : List (Exit × Shape) := [(Exit.exit 0, [(1, .v (.int .i64))])]
def lo63_2 (k : Nat) : LO := loopO [] [] [] S63_2 X63_2 R63_2 (iter (laws_heldIntS_s2) k)
theorem st63_2 (k : Nat) (rec v) : evC Try.prog ⟨21, []⟩ (F63 k) (inlN Try.prog (F63 k) 4) [] (lpAt (bodyOf Try.f63) [0]) (Kb [] [] [] S63_2 X63_2 R63_2 rec) (mkSt [] [] S63_2 v.1 v.2) = (laws_heldIntS_s2) rec v := by kernel_rfl
theorem lp63_2 (k : Nat) {c : Cx} (hP : c.P = Try.prog) (hm : c.m = ⟨21, []⟩) (hg : c.gs = []) : LoopOk c (lo63_2 k) (lpAt (bodyOf Try.f63) [0]) :=
  loop_at hP hm hg (okF63 k) (LInv.of (code := (lpAt (bodyOf Try.f63) [0])) (bs := []) (by kernel_rfl) LInv.nil) (fun rec v => st63_2 k rec v) k
theorem ev63 (k : Nat) (x) : evF Try.prog (F63 k) (inlN Try.prog (F63 k) 4) [(2, lo63_2 k)] Try.f63 (bodyOf Try.f63) (c63 k).ps (c63 k).rs (c63 k).rm x = (c63 k).m x := by kernel_rfl
theorem ok63 (k : Nat) : ConOk Try.prog (c63 k) :=
  fn_at (okF63 k) (cn := c63 k) (fn := Try.f63) (code := bodyOf Try.f63) (m := ⟨21, []⟩) (gs := []) (by kernel_rfl) (by kernel_rfl) (by kernel_rfl) (by kernel_rfl) (by kernel_rfl) (fun _ => by kernel_rfl)
    [(2, lo63_2 k)] (fun c hP hm hg => (LInv.of (code := (bodyOf Try.f63)) (bs := [(lpAt (bodyOf Try.f63) [0])]) (by kernel_rfl) (LInv.cons (b := (lpAt (bodyOf Try.f63) [0])) (by kernel_rfl) (lp63_2 k hP hm hg) LInv.nil))) (ev63 k)
def c12 (k : Nat) : Con := ⟨12, [((.sl T_Job), false)], [.bool], (.own true), fun x => laws_FnExactLineTimes k x.1⟩
def F12 (k : Nat) : List Con := [c57 k, c58 k, c36 k, c37 k, c59 k, c60 k, c61 k, c62 k, c63 k]
theorem okF12 (k : Nat) : ∀ cn ∈ F12 k, ConOk Try.prog cn := (conCons (ok57 k) (conCons (ok58 k) (conCons (ok36 k) (conCons (ok37 k) (conCons (ok59 k) (conCons (ok60 k) (conCons (ok61 k) (conCons (ok62 k) (conCons (ok63 k) conNil)))))))))
theorem ev12 (k : Nat) (x) : evF Try.prog (F12 k) (inlN Try.prog (F12 k) 4) [] Try.f12 (bodyOf Try.f12) (c12 k).ps (c12 k).rs (c12 k).rm x = (c12 k).m x := by kernel_rfl
theorem ok12 (k : Nat) : ConOk Try.prog (c12 k) :=
  fn_at (okF12 k) (cn := c12 k) (fn := Try.f12) (code := bodyOf Try.f12) (m := ⟨69, []⟩) (gs := []) (by kernel_rfl) (by kernel_rfl) (by kernel_rfl) (by kernel_rfl) (by kernel_rfl) (fun _ => by kernel_rfl)
    [] (fun c hP hm hg => (LInv.of (code := (bodyOf Try.f12)) (bs := []) (by kernel_rfl) LInv.nil)) (ev12 k)
def c15 (k : Nat) : Con := ⟨15, [((.sl (.int .u8)), false)], [.bool], (.own true), fun x => laws_big x.1⟩
def F15 (k : Nat) : List Con := []
theorem okF15 (k : Nat) : ∀ cn ∈ F15 k, ConOk Try.prog cn := conNil
theorem ev15 (k : Nat) (x) : evF Try.prog (F15 k) (inlN Try.prog (F15 k) 4) [] Try.f15 (bodyOf Try.f15) (c15 k).ps (c15 k).rs (c15 k).rm x = (c15 k).m x := by kernel_rfl
theorem ok15 (k : Nat) : ConOk Try.prog (c15 k) :=
  fn_at (okF15 k) (cn := c15 k) (fn := Try.f15) (code := bodyOf Try.f15) (m := ⟨6, []⟩) (gs := []) (by kernel_rfl) (by kernel_rfl) (by kernel_rfl) (by kernel_rfl) (by kernel_rfl) (fun _ => by kernel_rfl)
    [] (fun c hP hm hg => (LInv.of (code := (bodyOf Try.f15)) (bs := []) (by kernel_rfl) LInv.nil)) (ev15 k)
def c72 (k : Nat) : Con := ⟨72, [((.ref T_l01Cur), true), ((.int .i64), false)], [(.int .i64)], (.own true), fun x => spec_l01Cur_pick x.1 x.2.1⟩
def F72 (k : Nat) : List Con := []
theorem okF72 (k : Nat) : ∀ cn ∈ F72 k, ConOk Try.prog cn := conNil
theorem ev72 (k : Nat) (x) : evF Try.prog (F72 k) (inlN Try.prog (F72 k) 4) [] Try.f72 (bodyOf Try.f72) (c72 k).ps (c72 k).rs (c72 k).rm x = (c72 k).m x := by kernel_rfl
theorem ok72 (k : Nat) : ConOk Try.prog (c72 k) :=
  fn_at (okF72 k) (cn := c72 k) (fn := Try.f72) (code := bodyOf Try.f72) (m := ⟨78, [(0, 0)]⟩) (gs := [.ptr 0 0 0]) (by kernel_rfl) (by kernel_rfl) (by kernel_rfl) (by kernel_rfl) (by kernel_rfl) (fun _ => by kernel_rfl)
    [] (fun c hP hm hg => (LInv.of (code := (bodyOf Try.f72)) (bs := []) (by kernel_rfl) LInv.nil)) (ev72 k)
def c154 (k : Nat) : Con := ⟨154, [((.ref T_l01Cur), true), ((.int .i64), false)], [(.int .i64)], (.own true), fun x => spec_l01Cur_wide x.1 x.2.1⟩
def F154 (k : Nat) : List Con := [c72 k]
theorem okF154 (k : Nat) : ∀ cn ∈ F154 k, ConOk Try.prog cn := (conCons (ok72 k) conNil)
theorem ev154 (k : Nat) (x) : evF Try.prog (F154 k) (inlN Try.prog (F154 k) 4) [] Try.f154 (bodyOf Try.f154) (c154 k).ps (c154 k).rs (c154 k).rm x = (c154 k).m x := by kernel_rfl
theorem ok154 (k : Nat) : ConOk Try.prog (c154 k) :=
  fn_at (okF154 k) (cn := c154 k) (fn := Try.f154) (code := bodyOf Try.f154) (m := ⟨17, [(0, 0)]⟩) (gs := [.ptr 0 0 0]) (by kernel_rfl) (by kernel_rfl) (by kernel_rfl) (by kernel_rfl) (by kernel_rfl) (fun _ => by kernel_rfl)
    [] (fun c hP hm hg => (LInv.of (code := (bodyOf Try.f154)) (bs := []) (by kernel_rfl) LInv.nil)) (ev154 k)
def c135 (k : Nat) : Con := ⟨135, [((.ref T_l01Cur), true), ((.int .i64), false)], [T_Vec], (.own true), fun x => spec_l01Cur_cost x.1 x.2.1⟩
def F135 (k : Nat) : List Con := [c72 k, c154 k]
theorem okF135 (k : Nat) : ∀ cn ∈ F135 k, ConOk Try.prog cn := (conCons (ok72 k) (conCons (ok154 k) conNil))
theorem ev135 (k : Nat) (x) : evF Try.prog (F135 k) (inlN Try.prog (F135 k) 4) [] Try.f135 (bodyOf Try.f135) (c135 k).ps (c135 k).rs (c135 k).rm x = (c135 k).m x := by kernel_rfl
theorem ok135 (k : Nat) : ConOk Try.prog (c135 k) :=
  fn_at (okF135 k) (cn := c135 k) (fn := Try.f135) (code := bodyOf Try.f135) (m := ⟨26, [(0, 0)]⟩) (gs := [.ptr 0 0 0]) (by kernel_rfl) (by kernel_rfl) (by kernel_rfl) (by kernel_rfl) (by kernel_rfl) (fun _ => by kernel_rfl)
    [] (fun c hP hm hg => (LInv.of (code := (bodyOf Try.f135)) (bs := []) (by kernel_rfl) LInv.nil)) (ev135 k)
def c94 (k : Nat) : Con := ⟨94, [((.ref T_l01Cur), true)], [(.sl T_Job)], (.own true), fun x => spec_l01Cur_jobs k x.1⟩
def F94 (k : Nat) : List Con := [c72 k, c135 k]
theorem okF94 (k : Nat) : ∀ cn ∈ F94 k, ConOk Try.prog cn := (conCons (ok72 k) (conCons (ok135 k) conNil))
abbrev S94_3 : Shape := [(0, .arg 0), (3, .own true (.sl T_Job)), (4, .v (.int .i64))]
abbrev X94_3 : Exit × Shape := (Exit.exit 0, [(3, .own true (.sl T_Job))])
abbrev R94_3 : List (Exit × Shape) := []
def lo94_3 (k : Nat) : LO := loopO [(0, 0)] [.ptr 0 0 0] [(.ref T_l01Cur)] S94_3 X94_3 R94_3 (iter (spec_l01Cur_jobs_s3) k)
theorem st94_3 (k : Nat) (rec v) : evC Try.prog ⟨25, [(0, 0)]⟩ (F94 k) (inlN Try.prog (F94 k) 4) [] (lpAt (bodyOf Try.f94) [0]) (Kb [(0, 0)] [.ptr 0 0 0] [(.ref T_l01Cur)] S94_3 X94_3 R94_3 rec) (mkSt [.ptr 0 0 0] [(.ref T_l01Cur)] S94_3 v.1 v.2) = (spec_l01Cur_jobs_s3) rec v := by kernel_rfl
theorem lp94_3 (k : Nat) {c : Cx} (hP : c.P = Try.prog) (hm : c.m = ⟨25, [(0, 0)]⟩) (hg : c.gs = [.ptr 0 0 0]) : LoopOk c (lo94_3 k) (lpAt (bodyOf Try.f94) [0]) :=
  loop_at hP hm hg (okF94 k) (LInv.of (code := (lpAt (bodyOf Try.f94) [0])) (bs := []) (by kernel_rfl) LInv.nil) (fun rec v => st94_3 k rec v) k
theorem ev94 (k : Nat) (x) : evF Try.prog (F94 k) (inlN Try.prog (F94 k) 4) [(3, lo94_3 k)] Try.f94 (bodyOf Try.f94) (c94 k).ps (c94 k).rs (c94 k).rm x = (c94 k).m x := by kernel_rfl
theorem ok94 (k : Nat) : ConOk Try.prog (c94 k) :=
  fn_at (okF94 k) (cn := c94 k) (fn := Try.f94) (code := bodyOf Try.f94) (m := ⟨25, [(0, 0)]⟩) (gs := [.ptr 0 0 0]) (by kernel_rfl) (by kernel_rfl) (by kernel_rfl) (by kernel_rfl) (by kernel_rfl) (fun _ => by kernel_rfl)
    [(3, lo94_3 k)] (fun c hP hm hg => (LInv.of (code := (bodyOf Try.f94)) (bs := [(lpAt (bodyOf Try.f94) [0])]) (by kernel_rfl) (LInv.cons (b := (lpAt (bodyOf Try.f94) [0])) (by kernel_rfl) (lp94_3 k hP hm hg) LInv.nil))) (ev94 k)
def c88 (k : Nat) : Con := ⟨88, [((.ref T_l01Cur), true), ((.int .i64), false)], [.bool], (.own true), fun x => spec_l01Cur_once x.1 x.2.1⟩
def F88 (k : Nat) : List Con := [c72 k]
theorem okF88 (k : Nat) : ∀ cn ∈ F88 k, ConOk Try.prog cn := (conCons (ok72 k) conNil)
theorem ev88 (k : Nat) (x) : evF Try.prog (F88 k) (inlN Try.prog (F88 k) 4) [] Try.f88 (bodyOf Try.f88) (c88 k).ps (c88 k).rs (c88 k).rm x = (c88 k).m x := by kernel_rfl
theorem ok88 (k : Nat) : ConOk Try.prog (c88 k) :=
  fn_at (okF88 k) (cn := c88 k) (fn := Try.f88) (code := bodyOf Try.f88) (m := ⟨11, [(0, 0)]⟩) (gs := [.ptr 0 0 0]) (by kernel_rfl) (by kernel_rfl) (by kernel_rfl) (by kernel_rfl) (by kernel_rfl) (fun _ => by kernel_rfl)
    [] (fun c hP hm hg => (LInv.of (code := (bodyOf Try.f88)) (bs := []) (by kernel_rfl) LInv.nil)) (ev88 k)
def c73 (k : Nat) : Con := ⟨73, [((.ref T_l01Cur), true)], [(.int .i64)], (.own true), fun x => spec_l01Cur_raw x.1⟩
def F73 (k : Nat) : List Con := [c72 k]
theorem okF73 (k : Nat) : ∀ cn ∈ F73 k, ConOk Try.prog cn := (conCons (ok72 k) conNil)
theorem ev73 (k : Nat) (x) : evF Try.prog (F73 k) (inlN Try.prog (F73 k) 4) [] Try.f73 (bodyOf Try.f73) (c73 k).ps (c73 k).rs (c73 k).rm x = (c73 k).m x := by kernel_rfl
theorem ok73 (k : Nat) : ConOk Try.prog (c73 k) :=
  fn_at (okF73 k) (cn := c73 k) (fn := Try.f73) (code := bodyOf Try.f73) (m := ⟨20, [(0, 0)]⟩) (gs := [.ptr 0 0 0]) (by kernel_rfl) (by kernel_rfl) (by kernel_rfl) (by kernel_rfl) (by kernel_rfl) (fun _ => by kernel_rfl)
    [] (fun c hP hm hg => (LInv.of (code := (bodyOf Try.f73)) (bs := []) (by kernel_rfl) LInv.nil)) (ev73 k)
def c95 (k : Nat) : Con := ⟨95, [((.ref T_l01Cur), true)], [T_Vec], (.own true), fun x => spec_l01Cur_vec x.1⟩
def F95 (k : Nat) : List Con := [c88 k, c73 k, c72 k]
theorem okF95 (k : Nat) : ∀ cn ∈ F95 k, ConOk Try.prog cn := (conCons (ok88 k) (conCons (ok73 k) (conCons (ok72 k) conNil)))
theorem ev95 (k : Nat) (x) : evF Try.prog (F95 k) (inlN Try.prog (F95 k) 4) [] Try.f95 (bodyOf Try.f95) (c95 k).ps (c95 k).rs (c95 k).rm x = (c95 k).m x := by kernel_rfl
theorem ok95 (k : Nat) : ConOk Try.prog (c95 k) :=
  fn_at (okF95 k) (cn := c95 k) (fn := Try.f95) (code := bodyOf Try.f95) (m := ⟨31, [(0, 0)]⟩) (gs := [.ptr 0 0 0]) (by kernel_rfl) (by kernel_rfl) (by kernel_rfl) (by kernel_rfl) (by kernel_rfl) (fun _ => by kernel_rfl)
    [] (fun c hP hm hg => (LInv.of (code := (bodyOf Try.f95)) (bs := []) (by kernel_rfl) LInv.nil)) (ev95 k)
def c35 (k : Nat) : Con := ⟨35, [((.sl (.int .u8)), false)], [(.sl T_Job)], (.own true), fun x => spec_DrawLineTimes k x.1⟩
def F35 (k : Nat) : List Con := [c94 k, c88 k, c72 k, c95 k]
theorem okF35 (k : Nat) : ∀ cn ∈ F35 k, ConOk Try.prog cn := (conCons (ok94 k) (conCons (ok88 k) (conCons (ok72 k) (conCons (ok95 k) conNil))))
theorem ev35 (k : Nat) (x) : evF Try.prog (F35 k) (inlN Try.prog (F35 k) 4) [] Try.f35 (bodyOf Try.f35) (c35 k).ps (c35 k).rs (c35 k).rm x = (c35 k).m x := by kernel_rfl
theorem ok35 (k : Nat) : ConOk Try.prog (c35 k) :=
  fn_at (okF35 k) (cn := c35 k) (fn := Try.f35) (code := bodyOf Try.f35) (m := ⟨20, []⟩) (gs := []) (by kernel_rfl) (by kernel_rfl) (by kernel_rfl) (by kernel_rfl) (by kernel_rfl) (fun _ => by kernel_rfl)
    [] (fun c hP hm hg => (LInv.of (code := (bodyOf Try.f35)) (bs := []) (by kernel_rfl) LInv.nil)) (ev35 k)
def c40 (k : Nat) : Con := ⟨40, [(T_Line, false), ((.int .i64), false)], [T_Line, (.sl T_Done)], (.own true), fun x => impl_LineRun k x.1 x.2.1⟩
def F40 (k : Nat) : List Con := [c81 k, c76 k, c82 k]
theorem okF40 (k : Nat) : ∀ cn ∈ F40 k, ConOk Try.prog cn := (conCons (ok81 k) (conCons (ok76 k) (conCons (ok82 k) conNil)))
abbrev S40_5 : Shape := [(1, .v (.int .i64)), (4, .box true T_Line), (6, .box true T_Line), (7, .own true (.sl T_Done)), (8, .v (.int .i64))]
abbrev X40_5 : Exit × Shape := (Exit.exit 0, [(4, .box true T_Line), (6, .box true T_Line), (7, .own true (.sl T_Done))])
abbrev R40_5 : List (Exit × Shape) := []
def lo40_5 (k : Nat) : LO := loopO [] [] [] S40_5 X40_5 R40_5 (iter (impl_LineRun_s5) k)
theorem st40_5 (k : Nat) (rec v) : evC Try.prog ⟨39, []⟩ (F40 k) (inlN Try.prog (F40 k) 4) [] (lpAt (bodyOf Try.f40) [0]) (Kb [] [] [] S40_5 X40_5 R40_5 rec) (mkSt [] [] S40_5 v.1 v.2) = (impl_LineRun_s5) rec v := by kernel_rfl
theorem lp40_5 (k : Nat) {c : Cx} (hP : c.P = Try.prog) (hm : c.m = ⟨39, []⟩) (hg : c.gs = []) : LoopOk c (lo40_5 k) (lpAt (bodyOf Try.f40) [0]) :=
  loop_at hP hm hg (okF40 k) (LInv.of (code := (lpAt (bodyOf Try.f40) [0])) (bs := []) (by kernel_rfl) LInv.nil) (fun rec v => st40_5 k rec v) k
theorem ev40 (k : Nat) (x) : evF Try.prog (F40 k) (inlN Try.prog (F40 k) 4) [(5, lo40_5 k)] Try.f40 (bodyOf Try.f40) (c40 k).ps (c40 k).rs (c40 k).rm x = (c40 k).m x := by kernel_rfl
theorem ok40 (k : Nat) : ConOk Try.prog (c40 k) :=
  fn_at (okF40 k) (cn := c40 k) (fn := Try.f40) (code := bodyOf Try.f40) (m := ⟨39, []⟩) (gs := []) (by kernel_rfl) (by kernel_rfl) (by kernel_rfl) (by kernel_rfl) (by kernel_rfl) (fun _ => by kernel_rfl)
    [(5, lo40_5 k)] (fun c hP hm hg => (LInv.of (code := (bodyOf Try.f40)) (bs := [(lpAt (bodyOf Try.f40) [0])]) (by kernel_rfl) (LInv.cons (b := (lpAt (bodyOf Try.f40) [0])) (by kernel_rfl) (lp40_5 k hP hm hg) LInv.nil))) (ev40 k)
def c7 (k : Nat) : Con := ⟨7, [((.sl (.int .u8)), false)], [.bool], (.own true), fun x => laws_FnTimesPlayed k x.1⟩
def F7 (k : Nat) : List Con := [c15 k, c35 k, c36 k, c37 k, c38 k, c39 k, c40 k]
theorem okF7 (k : Nat) : ∀ cn ∈ F7 k, ConOk Try.prog cn := (conCons (ok15 k) (conCons (ok35 k) (conCons (ok36 k) (conCons (ok37 k) (conCons (ok38 k) (conCons (ok39 k) (conCons (ok40 k) conNil)))))))
abbrev S7_10 : Shape := [(3, .own true (.sl T_Job)), (4, .own true (.sl (.int .i64))), (5, .own true (.sl (.int .i64))), (6, .box true T_Line), (7, .v (.int .i64))]
abbrev X7_10 : Exit × Shape := (Exit.ret, [(2, .v .bool)])
abbrev R7_10 : List (Exit × Shape) := [(Exit.exit 0, [(3, .own true (.sl T_Job)), (5, .own true (.sl (.int .i64))), (6, .box true T_Line)])]
def lo7_10 (k : Nat) : LO := loopO [] [] [] S7_10 X7_10 R7_10 (iter (laws_FnTimesPlayed_s10 k) k)
theorem st7_10 (k : Nat) (rec v) : evC Try.prog ⟨102, []⟩ (F7 k) (inlN Try.prog (F7 k) 4) [] (lpAt (bodyOf Try.f7) [0]) (Kb [] [] [] S7_10 X7_10 R7_10 rec) (mkSt [] [] S7_10 v.1 v.2) = (laws_FnTimesPlayed_s10 k) rec v := by kernel_rfl
theorem lp7_10 (k : Nat) {c : Cx} (hP : c.P = Try.prog) (hm : c.m = ⟨102, []⟩) (hg : c.gs = []) : LoopOk c (lo7_10 k) (lpAt (bodyOf Try.f7) [0]) :=
  loop_at hP hm hg (okF7 k) (LInv.of (code := (lpAt (bodyOf Try.f7) [0])) (bs := []) (by kernel_rfl) LInv.nil) (fun rec v => st7_10 k rec v) k
abbrev S7_20 : Shape := [(3, .own true (.sl T_Job)), (5, .own true (.sl (.int .i64))), (6, .box true T_Line), (11, .own true (.sl T_Done)), (12, .v (.int .i64))]
abbrev X7_20 : Exit × Shape := (Exit.ret, [(2, .v .bool)])
abbrev R7_20 : List (Exit × Shape) := [(Exit.exit 2, [(6, .box true T_Line)])]
def lo7_20 (k : Nat) : LO := loopO [] [] [] S7_20 X7_20 R7_20 (iter (laws_FnTimesPlayed_s20) k)
theorem st7_20 (k : Nat) (rec v) : evC Try.prog ⟨102, []⟩ (F7 k) (inlN Try.prog (F7 k) 4) [] (lpAt (bodyOf Try.f7) [1]) (Kb [] [] [] S7_20 X7_20 R7_20 rec) (mkSt [] [] S7_20 v.1 v.2) = (laws_FnTimesPlayed_s20) rec v := by kernel_rfl
theorem lp7_20 (k : Nat) {c : Cx} (hP : c.P = Try.prog) (hm : c.m = ⟨102, []⟩) (hg : c.gs = []) : LoopOk c (lo7_20 k) (lpAt (bodyOf Try.f7) [1]) :=
  loop_at hP hm hg (okF7 k) (LInv.of (code := (lpAt (bodyOf Try.f7) [1])) (bs := []) (by kernel_rfl) LInv.nil) (fun rec v => st7_20 k rec v) k
theorem ev7 (k : Nat) (x) : evF Try.prog (F7 k) (inlN Try.prog (F7 k) 4) [(10, lo7_10 k), (20, lo7_20 k)] Try.f7 (bodyOf Try.f7) (c7 k).ps (c7 k).rs (c7 k).rm x = (c7 k).m x := by kernel_rfl
theorem ok7 (k : Nat) : ConOk Try.prog (c7 k) :=
  fn_at (okF7 k) (cn := c7 k) (fn := Try.f7) (code := bodyOf Try.f7) (m := ⟨102, []⟩) (gs := []) (by kernel_rfl) (by kernel_rfl) (by kernel_rfl) (by kernel_rfl) (by kernel_rfl) (fun _ => by kernel_rfl)
    [(10, lo7_10 k), (20, lo7_20 k)] (fun c hP hm hg => (LInv.of (code := (bodyOf Try.f7)) (bs := [(lpAt (bodyOf Try.f7) [0]), (lpAt (bodyOf Try.f7) [1])]) (by kernel_rfl) (LInv.cons (b := (lpAt (bodyOf Try.f7) [0])) (by kernel_rfl) (lp7_10 k hP hm hg) (LInv.cons (b := (lpAt (bodyOf Try.f7) [1])) (by kernel_rfl) (lp7_20 k hP hm hg) LInv.nil)))) (ev7 k)
def c158 (k : Nat) : Con := ⟨158, [(T_Line, false), ((.int .i64), false)], [T_Line, (.sl T_Done)], (.own true), fun x => spec_LineRun k x.1 x.2.1⟩
def F158 (k : Nat) : List Con := [c42 k, c137 k, c102 k, c109 k]
theorem okF158 (k : Nat) : ∀ cn ∈ F158 k, ConOk Try.prog cn := (conCons (ok42 k) (conCons (ok137 k) (conCons (ok102 k) (conCons (ok109 k) conNil))))
abbrev S158_6 : Shape := [(1, .v (.int .i64)), (4, .box true T_Line), (6, .box true T_Line), (7, .own true (.sl T_Done)), (8, .v (.int .i64))]
abbrev X158_6 : Exit × Shape := (Exit.exit 0, [(4, .box true T_Line), (6, .box true T_Line), (7, .own true (.sl T_Done))])
abbrev R158_6 : List (Exit × Shape) := []
def lo158_6 (k : Nat) : LO := loopO [] [] [] S158_6 X158_6 R158_6 (iter (spec_LineRun_s6) k)
theorem st158_6 (k : Nat) (rec v) : evC Try.prog ⟨53, []⟩ (F158 k) (inlN Try.prog (F158 k) 4) [] (lpAt (bodyOf Try.f158) [0]) (Kb [] [] [] S158_6 X158_6 R158_6 rec) (mkSt [] [] S158_6 v.1 v.2) = (spec_LineRun_s6) rec v := by kernel_rfl
theorem lp158_6 (k : Nat) {c : Cx} (hP : c.P = Try.prog) (hm : c.m = ⟨53, []⟩) (hg : c.gs = []) : LoopOk c (lo158_6 k) (lpAt (bodyOf Try.f158) [0]) :=
  loop_at hP hm hg (okF158 k) (LInv.of (code := (lpAt (bodyOf Try.f158) [0])) (bs := []) (by kernel_rfl) LInv.nil) (fun rec v => st158_6 k rec v) k
theorem ev158 (k : Nat) (x) : evF Try.prog (F158 k) (inlN Try.prog (F158 k) 4) [(6, lo158_6 k)] Try.f158 (bodyOf Try.f158) (c158 k).ps (c158 k).rs (c158 k).rm x = (c158 k).m x := by kernel_rfl
theorem ok158 (k : Nat) : ConOk Try.prog (c158 k) :=
  fn_at (okF158 k) (cn := c158 k) (fn := Try.f158) (code := bodyOf Try.f158) (m := ⟨53, []⟩) (gs := []) (by kernel_rfl) (by kernel_rfl) (by kernel_rfl) (by kernel_rfl) (by kernel_rfl) (fun _ => by kernel_rfl)
    [(6, lo158_6 k)] (fun c hP hm hg => (LInv.of (code := (bodyOf Try.f158)) (bs := [(lpAt (bodyOf Try.f158) [0])]) (by kernel_rfl) (LInv.cons (b := (lpAt (bodyOf Try.f158) [0])) (by kernel_rfl) (lp158_6 k hP hm hg) LInv.nil))) (ev158 k)
def c155 (k : Nat) : Con := ⟨155, [((.ref T_l01Cur), true), ((.int .i64), false)], [(.int .i64)], (.own true), fun x => spec_l01Cur_size x.1 x.2.1⟩
def F155 (k : Nat) : List Con := [c72 k]
theorem okF155 (k : Nat) : ∀ cn ∈ F155 k, ConOk Try.prog cn := (conCons (ok72 k) conNil)
theorem ev155 (k : Nat) (x) : evF Try.prog (F155 k) (inlN Try.prog (F155 k) 4) [] Try.f155 (bodyOf Try.f155) (c155 k).ps (c155 k).rs (c155 k).rm x = (c155 k).m x := by kernel_rfl
theorem ok155 (k : Nat) : ConOk Try.prog (c155 k) :=
  fn_at (okF155 k) (cn := c155 k) (fn := Try.f155) (code := bodyOf Try.f155) (m := ⟨17, [(0, 0)]⟩) (gs := [.ptr 0 0 0]) (by kernel_rfl) (by kernel_rfl) (by kernel_rfl) (by kernel_rfl) (by kernel_rfl) (fun _ => by kernel_rfl)
    [] (fun c hP hm hg => (LInv.of (code := (bodyOf Try.f155)) (bs := []) (by kernel_rfl) LInv.nil)) (ev155 k)
def c140 (k : Nat) : Con := ⟨140, [((.ref T_l01Cur), true)], [T_Line], (.own true), fun x => spec_l01Cur_line k x.1⟩
def F140 (k : Nat) : List Con := [c72 k, c96 k, c155 k, c88 k, c135 k, c97 k, c158 k]
theorem okF140 (k : Nat) : ∀ cn ∈ F140 k, ConOk Try.prog cn := (conCons (ok72 k) (conCons (ok96 k) (conCons (ok155 k) (conCons (ok88 k) (conCons (ok135 k) (conCons (ok97 k) (conCons (ok158 k) conNil)))))))
abbrev S140_3 : Shape := [(0, .arg 0), (2, .box true T_Line), (3, .box true T_Line), (4, .v (.int .i64))]
abbrev X140_3 : Exit × Shape := (Exit.exit 0, [(2, .box true T_Line), (3, .box true T_Line)])
abbrev R140_3 : List (Exit × Shape) := []
def lo140_3 (k : Nat) : LO := loopO [(0, 0)] [.ptr 0 0 0] [(.ref T_l01Cur)] S140_3 X140_3 R140_3 (iter (spec_l01Cur_line_s3 k) k)
theorem st140_3 (k : Nat) (rec v) : evC Try.prog ⟨44, [(0, 0)]⟩ (F140 k) (inlN Try.prog (F140 k) 4) [] (lpAt (bodyOf Try.f140) [0]) (Kb [(0, 0)] [.ptr 0 0 0] [(.ref T_l01Cur)] S140_3 X140_3 R140_3 rec) (mkSt [.ptr 0 0 0] [(.ref T_l01Cur)] S140_3 v.1 v.2) = (spec_l01Cur_line_s3 k) rec v := by kernel_rfl
theorem lp140_3 (k : Nat) {c : Cx} (hP : c.P = Try.prog) (hm : c.m = ⟨44, [(0, 0)]⟩) (hg : c.gs = [.ptr 0 0 0]) : LoopOk c (lo140_3 k) (lpAt (bodyOf Try.f140) [0]) :=
  loop_at hP hm hg (okF140 k) (LInv.of (code := (lpAt (bodyOf Try.f140) [0])) (bs := []) (by kernel_rfl) LInv.nil) (fun rec v => st140_3 k rec v) k
theorem ev140 (k : Nat) (x) : evF Try.prog (F140 k) (inlN Try.prog (F140 k) 4) [(3, lo140_3 k)] Try.f140 (bodyOf Try.f140) (c140 k).ps (c140 k).rs (c140 k).rm x = (c140 k).m x := by kernel_rfl
theorem ok140 (k : Nat) : ConOk Try.prog (c140 k) :=
  fn_at (okF140 k) (cn := c140 k) (fn := Try.f140) (code := bodyOf Try.f140) (m := ⟨44, [(0, 0)]⟩) (gs := [.ptr 0 0 0]) (by kernel_rfl) (by kernel_rfl) (by kernel_rfl) (by kernel_rfl) (by kernel_rfl) (fun _ => by kernel_rfl)
    [(3, lo140_3 k)] (fun c hP hm hg => (LInv.of (code := (bodyOf Try.f140)) (bs := [(lpAt (bodyOf Try.f140) [0])]) (by kernel_rfl) (LInv.cons (b := (lpAt (bodyOf Try.f140) [0])) (by kernel_rfl) (lp140_3 k hP hm hg) LInv.nil))) (ev140 k)
def c101 (k : Nat) : Con := ⟨101, [((.ref T_l01Cur), true)], [T_Line], (.own true), fun x => spec_l01Cur_badLine k x.1⟩
def F101 (k : Nat) : List Con := [c140 k, c72 k, c73 k, c95 k]
theorem okF101 (k : Nat) : ∀ cn ∈ F101 k, ConOk Try.prog cn := (conCons (ok140 k) (conCons (ok72 k) (conCons (ok73 k) (conCons (ok95 k) conNil))))
theorem ev101 (k : Nat) (x) : evF Try.prog (F101 k) (inlN Try.prog (F101 k) 4) [] Try.f101 (bodyOf Try.f101) (c101 k).ps (c101 k).rs (c101 k).rm x = (c101 k).m x := by kernel_rfl
theorem ok101 (k : Nat) : ConOk Try.prog (c101 k) :=
  fn_at (okF101 k) (cn := c101 k) (fn := Try.f101) (code := bodyOf Try.f101) (m := ⟨58, [(0, 0)]⟩) (gs := [.ptr 0 0 0]) (by kernel_rfl) (by kernel_rfl) (by kernel_rfl) (by kernel_rfl) (by kernel_rfl) (fun _ => by kernel_rfl)
    [] (fun c hP hm hg => (LInv.of (code := (bodyOf Try.f101)) (bs := []) (by kernel_rfl) LInv.nil)) (ev101 k)
def c41 (k : Nat) : Con := ⟨41, [((.sl (.int .u8)), false)], [T_Line], (.own true), fun x => spec_DrawLineTick k x.1⟩
def F41 (k : Nat) : List Con := [c101 k]
theorem okF41 (k : Nat) : ∀ cn ∈ F41 k, ConOk Try.prog cn := (conCons (ok101 k) conNil)
theorem ev41 (k : Nat) (x) : evF Try.prog (F41 k) (inlN Try.prog (F41 k) 4) [] Try.f41 (bodyOf Try.f41) (c41 k).ps (c41 k).rs (c41 k).rm x = (c41 k).m x := by kernel_rfl
theorem ok41 (k : Nat) : ConOk Try.prog (c41 k) :=
  fn_at (okF41 k) (cn := c41 k) (fn := Try.f41) (code := bodyOf Try.f41) (m := ⟨8, []⟩) (gs := []) (by kernel_rfl) (by kernel_rfl) (by kernel_rfl) (by kernel_rfl) (by kernel_rfl) (fun _ => by kernel_rfl)
    [] (fun c hP hm hg => (LInv.of (code := (bodyOf Try.f41)) (bs := []) (by kernel_rfl) LInv.nil)) (ev41 k)
def c43 (k : Nat) : Con := ⟨43, [(T_Line, false)], [(.int .i64)], (.own true), fun x => impl_LineHeld k x.1⟩
def F43 (k : Nat) : List Con := [c81 k, c83 k]
theorem okF43 (k : Nat) : ∀ cn ∈ F43 k, ConOk Try.prog cn := (conCons (ok81 k) (conCons (ok83 k) conNil))
theorem ev43 (k : Nat) (x) : evF Try.prog (F43 k) (inlN Try.prog (F43 k) 4) [] Try.f43 (bodyOf Try.f43) (c43 k).ps (c43 k).rs (c43 k).rm x = (c43 k).m x := by kernel_rfl
theorem ok43 (k : Nat) : ConOk Try.prog (c43 k) :=
  fn_at (okF43 k) (cn := c43 k) (fn := Try.f43) (code := bodyOf Try.f43) (m := ⟨9, []⟩) (gs := []) (by kernel_rfl) (by kernel_rfl) (by kernel_rfl) (by kernel_rfl) (by kernel_rfl) (fun _ => by kernel_rfl)
    [] (fun c hP hm hg => (LInv.of (code := (bodyOf Try.f43)) (bs := []) (by kernel_rfl) LInv.nil)) (ev43 k)
def c33 (k : Nat) : Con := ⟨33, [((.sl (.int .u8)), false), ((.int .i64), false), ((.int .i64), false)], [(.int .i64)], (.own true), fun x => laws_pick k x.1 x.2.1 x.2.2.1⟩
def F33 (k : Nat) : List Con := []
theorem okF33 (k : Nat) : ∀ cn ∈ F33 k, ConOk Try.prog cn := conNil
abbrev S33_5 : Shape := [(0, .v (.sl (.int .u8))), (1, .v (.int .i64)), (2, .v (.int .i64)), (7, .v (.int .i64)), (8, .v (.int .i64))]
abbrev X33_5 : Exit × Shape := (Exit.exit 0, [(1, .v (.int .i64)), (2, .v (.int .i64)), (7, .v (.int .i64))])
abbrev R33_5 : List (Exit × Shape) := []
def lo33_5 (k : Nat) : LO := loopO [] [] [] S33_5 X33_5 R33_5 (iter (laws_pick_s5) k)
theorem st33_5 (k : Nat) (rec v) : evC Try.prog ⟨38, []⟩ (F33 k) (inlN Try.prog (F33 k) 4) [] (lpAt (bodyOf Try.f33) [0]) (Kb [] [] [] S33_5 X33_5 R33_5 rec) (mkSt [] [] S33_5 v.1 v.2) = (laws_pick_s5) rec v := by kernel_rfl
theorem lp33_5 (k : Nat) {c : Cx} (hP : c.P = Try.prog) (hm : c.m = ⟨38, []⟩) (hg : c.gs = []) : LoopOk c (lo33_5 k) (lpAt (bodyOf Try.f33) [0]) :=
  loop_at hP hm hg (okF33 k) (LInv.of (code := (lpAt (bodyOf Try.f33) [0])) (bs := []) (by kernel_rfl) LInv.nil) (fun rec v => st33_5 k rec v) k
theorem ev33 (k : Nat) (x) : evF Try.prog (F33 k) (inlN Try.prog (F33 k) 4) [(5, lo33_5 k)] Try.f33 (bodyOf Try.f33) (c33 k).ps (c33 k).rs (c33 k).rm x = (c33 k).m x := by kernel_rfl
theorem ok33 (k : Nat) : ConOk Try.prog (c33 k) :=
  fn_at (okF33 k) (cn := c33 k) (fn := Try.f33) (code := bodyOf Try.f33) (m := ⟨38, []⟩) (gs := []) (by kernel_rfl) (by kernel_rfl) (by kernel_rfl) (by kernel_rfl) (by kernel_rfl) (fun _ => by kernel_rfl)
    [(5, lo33_5 k)] (fun c hP hm hg => (LInv.of (code := (bodyOf Try.f33)) (bs := [(lpAt (bodyOf Try.f33) [0])]) (by kernel_rfl) (LInv.cons (b := (lpAt (bodyOf Try.f33) [0])) (by kernel_rfl) (lp33_5 k hP hm hg) LInv.nil))) (ev33 k)
def c8 (k : Nat) : Con := ⟨8, [((.sl (.int .u8)), false)], [.bool], (.own true), fun x => laws_FnLineSplit k x.1⟩
def F8 (k : Nat) : List Con := [c15 k, c41 k, c42 k, c43 k, c33 k, c40 k, c24 k]
theorem okF8 (k : Nat) : ∀ cn ∈ F8 k, ConOk Try.prog cn := (conCons (ok15 k) (conCons (ok41 k) (conCons (ok42 k) (conCons (ok43 k) (conCons (ok33 k) (conCons (ok40 k) (conCons (ok24 k) conNil)))))))
abbrev S8_14 : Shape := [(3, .box true T_Line), (4, .v (.int .i64)), (7, .own true (.sl T_Done)), (8, .box true T_Line), (9, .own true (.sl T_Done)), (10, .box true T_Line), (11, .own true (.sl T_Done)), (12, .v (.int .i64))]
abbrev X8_14 : Exit × Shape := (Exit.ret, [(2, .v .bool)])
abbrev R8_14 : List (Exit × Shape) := [(Exit.exit 0, [(3, .box true T_Line), (8, .box true T_Line), (10, .box true T_Line)])]
def lo8_14 (k : Nat) : LO := loopO [] [] [] S8_14 X8_14 R8_14 (iter (laws_FnLineSplit_s14) k)
theorem st8_14 (k : Nat) (rec v) : evC Try.prog ⟨156, []⟩ (F8 k) (inlN Try.prog (F8 k) 4) [] (lpAt (bodyOf Try.f8) [0]) (Kb [] [] [] S8_14 X8_14 R8_14 rec) (mkSt [] [] S8_14 v.1 v.2) = (laws_FnLineSplit_s14) rec v := by kernel_rfl
theorem lp8_14 (k : Nat) {c : Cx} (hP : c.P = Try.prog) (hm : c.m = ⟨156, []⟩) (hg : c.gs = []) : LoopOk c (lo8_14 k) (lpAt (bodyOf Try.f8) [0]) :=
  loop_at hP hm hg (okF8 k) (LInv.of (code := (lpAt (bodyOf Try.f8) [0])) (bs := []) (by kernel_rfl) LInv.nil) (fun rec v => st8_14 k rec v) k
theorem ev8 (k : Nat) (x) : evF Try.prog (F8 k) (inlN Try.prog (F8 k) 4) [(14, lo8_14 k)] Try.f8 (bodyOf Try.f8) (c8 k).ps (c8 k).rs (c8 k).rm x = (c8 k).m x := by kernel_rfl
theorem ok8 (k : Nat) : ConOk Try.prog (c8 k) :=
  fn_at (okF8 k) (cn := c8 k) (fn := Try.f8) (code := bodyOf Try.f8) (m := ⟨156, []⟩) (gs := []) (by kernel_rfl) (by kernel_rfl) (by kernel_rfl) (by kernel_rfl) (by kernel_rfl) (fun _ => by kernel_rfl)
    [(14, lo8_14 k)] (fun c hP hm hg => (LInv.of (code := (bodyOf Try.f8)) (bs := [(lpAt (bodyOf Try.f8) [0])]) (by kernel_rfl) (LInv.cons (b := (lpAt (bodyOf Try.f8) [0])) (by kernel_rfl) (lp8_14 k hP hm hg) LInv.nil))) (ev8 k)
def c56 (k : Nat) : Con := ⟨56, [((.sl (.int .u8)), false)], [T_Line], (.own true), fun x => spec_DrawLineEnd k x.1⟩
def F56 (k : Nat) : List Con := [c101 k]
theorem okF56 (k : Nat) : ∀ cn ∈ F56 k, ConOk Try.prog cn := (conCons (ok101 k) conNil)
theorem ev56 (k : Nat) (x) : evF Try.prog (F56 k) (inlN Try.prog (F56 k) 4) [] Try.f56 (bodyOf Try.f56) (c56 k).ps (c56 k).rs (c56 k).rm x = (c56 k).m x := by kernel_rfl
theorem ok56 (k : Nat) : ConOk Try.prog (c56 k) :=
  fn_at (okF56 k) (cn := c56 k) (fn := Try.f56) (code := bodyOf Try.f56) (m := ⟨8, []⟩) (gs := []) (by kernel_rfl) (by kernel_rfl) (by kernel_rfl) (by kernel_rfl) (by kernel_rfl) (fun _ => by kernel_rfl)
    [] (fun c hP hm hg => (LInv.of (code := (bodyOf Try.f56)) (bs := []) (by kernel_rfl) LInv.nil)) (ev56 k)
def c11 (k : Nat) : Con := ⟨11, [((.sl (.int .u8)), false)], [.bool], (.own true), fun x => laws_FnLineEnds k x.1⟩
def F11 (k : Nat) : List Con := [c15 k, c56 k, c24 k, c22 k, c40 k, c43 k]
theorem okF11 (k : Nat) : ∀ cn ∈ F11 k, ConOk Try.prog cn := (conCons (ok15 k) (conCons (ok56 k) (conCons (ok24 k) (conCons (ok22 k) (conCons (ok40 k) (conCons (ok43 k) conNil))))))
abbrev S11_10 : Shape := [(3, .box true T_Line), (4, .v (.int .i64)), (5, .own true (.sl T_Job)), (6, .v (.int .i64)), (7, .v (.int .i64))]
abbrev X11_10 : Exit × Shape := (Exit.exit 0, [(3, .box true T_Line), (4, .v (.int .i64)), (5, .own true (.sl T_Job)), (6, .v (.int .i64))])
abbrev R11_10 : List (Exit × Shape) := []
def lo11_10 (k : Nat) : LO := loopO [] [] [] S11_10 X11_10 R11_10 (iter (laws_FnLineEnds_s10) k)
theorem st11_10 (k : Nat) (rec v) : evC Try.prog ⟨134, []⟩ (F11 k) (inlN Try.prog (F11 k) 4) [] (lpAt (bodyOf Try.f11) [0]) (Kb [] [] [] S11_10 X11_10 R11_10 rec) (mkSt [] [] S11_10 v.1 v.2) = (laws_FnLineEnds_s10) rec v := by kernel_rfl
theorem lp11_10 (k : Nat) {c : Cx} (hP : c.P = Try.prog) (hm : c.m = ⟨134, []⟩) (hg : c.gs = []) : LoopOk c (lo11_10 k) (lpAt (bodyOf Try.f11) [0]) :=
  loop_at hP hm hg (okF11 k) (LInv.of (code := (lpAt (bodyOf Try.f11) [0])) (bs := []) (by kernel_rfl) LInv.nil) (fun rec v => st11_10 k rec v) k
abbrev S11_17 : Shape := [(3, .box true T_Line), (4, .v (.int .i64)), (5, .own true (.sl T_Job)), (9, .own true (.sl T_Done)), (10, .v (.int .i64))]
abbrev X11_17 : Exit × Shape := (Exit.ret, [(2, .v .bool)])
abbrev R11_17 : List (Exit × Shape) := [(Exit.exit 2, [(3, .box true T_Line), (4, .v (.int .i64)), (5, .own true (.sl T_Job))])]
def lo11_17 (k : Nat) : LO := loopO [] [] [] S11_17 X11_17 R11_17 (iter (laws_FnLineEnds_s17) k)
theorem st11_17 (k : Nat) (rec v) : evC Try.prog ⟨134, []⟩ (F11 k) (inlN Try.prog (F11 k) 4) [] (lpAt (bodyOf Try.f11) [1]) (Kb [] [] [] S11_17 X11_17 R11_17 rec) (mkSt [] [] S11_17 v.1 v.2) = (laws_FnLineEnds_s17) rec v := by kernel_rfl
theorem lp11_17 (k : Nat) {c : Cx} (hP : c.P = Try.prog) (hm : c.m = ⟨134, []⟩) (hg : c.gs = []) : LoopOk c (lo11_17 k) (lpAt (bodyOf Try.f11) [1]) :=
  loop_at hP hm hg (okF11 k) (LInv.of (code := (lpAt (bodyOf Try.f11) [1])) (bs := []) (by kernel_rfl) LInv.nil) (fun rec v => st11_17 k rec v) k
theorem ev11 (k : Nat) (x) : evF Try.prog (F11 k) (inlN Try.prog (F11 k) 4) [(10, lo11_10 k), (17, lo11_17 k)] Try.f11 (bodyOf Try.f11) (c11 k).ps (c11 k).rs (c11 k).rm x = (c11 k).m x := by kernel_rfl
theorem ok11 (k : Nat) : ConOk Try.prog (c11 k) :=
  fn_at (okF11 k) (cn := c11 k) (fn := Try.f11) (code := bodyOf Try.f11) (m := ⟨134, []⟩) (gs := []) (by kernel_rfl) (by kernel_rfl) (by kernel_rfl) (by kernel_rfl) (by kernel_rfl) (fun _ => by kernel_rfl)
    [(10, lo11_10 k), (17, lo11_17 k)] (fun c hP hm hg => (LInv.of (code := (bodyOf Try.f11)) (bs := [(lpAt (bodyOf Try.f11) [0]), (lpAt (bodyOf Try.f11) [1])]) (by kernel_rfl) (LInv.cons (b := (lpAt (bodyOf Try.f11) [0])) (by kernel_rfl) (lp11_10 k hP hm hg) (LInv.cons (b := (lpAt (bodyOf Try.f11) [1])) (by kernel_rfl) (lp11_17 k hP hm hg) LInv.nil)))) (ev11 k)
end Go.Tw
