/- Each function is proved to answer as its mirror does. -/
import Derived.Test.YtaigepmndpefgaaMc
import Derived.Test.YtaigepmndpefgaaRows
set_option linter.all false
namespace Go.Tw
open Go Go.RowKit Go.Proofs
def c33 (k : Nat) : Con := ⟨33, [((.sl T_Job), false), ((.int .i64), false)], [(.int .i64)], (.own true), fun x => laws_szJobS x.1 x.2.1⟩
def F33 (k : Nat) : List Con := []
theorem okF33 (k : Nat) : ∀ cn ∈ F33 k, ConOk Try.prog cn := conNil
theorem ev33 (k : Nat) (x) : evF Try.prog (F33 k) (inlN Try.prog (F33 k) 4) [] Try.f33 (bodyOf Try.f33) (c33 k).ps (c33 k).rs (c33 k).rm x = (c33 k).m x := by kernel_rfl
theorem ok33 (k : Nat) : ConOk Try.prog (c33 k) :=
  fn_at (okF33 k) (cn := c33 k) (fn := Try.f33) (code := bodyOf Try.f33) (m := ⟨12, []⟩) (gs := []) (by kernel_rfl) (by kernel_rfl) (by kernel_rfl) (by kernel_rfl) (by kernel_rfl) (fun _ => by kernel_rfl)
    [] (fun c hP hm hg => (LInv.of (code := (bodyOf Try.f33)) (bs := []) (by kernel_rfl) LInv.nil)) (ev33 k)
def c6 (k : Nat) : Con := ⟨6, [(T_Line, false), ((.int .i64), false)], [(.int .i64)], (.own true), fun x => laws_szLine x.1 x.2.1⟩
def F6 (k : Nat) : List Con := [c33 k]
theorem okF6 (k : Nat) : ∀ cn ∈ F6 k, ConOk Try.prog cn := (conCons (ok33 k) conNil)
theorem ev6 (k : Nat) (x) : evF Try.prog (F6 k) (inlN Try.prog (F6 k) 4) [] Try.f6 (bodyOf Try.f6) (c6 k).ps (c6 k).rs (c6 k).rm x = (c6 k).m x := by kernel_rfl
theorem ok6 (k : Nat) : ConOk Try.prog (c6 k) :=
  fn_at (okF6 k) (cn := c6 k) (fn := Try.f6) (code := bodyOf Try.f6) (m := ⟨24, []⟩) (gs := []) (by kernel_rfl) (by kernel_rfl) (by kernel_rfl) (by kernel_rfl) (by kernel_rfl) (fun _ => by kernel_rfl)
    [] (fun c hP hm hg => (LInv.of (code := (bodyOf Try.f6)) (bs := []) (by kernel_rfl) LInv.nil)) (ev6 k)
def c86 (k : Nat) : Con := ⟨86, [(T_Vec, false)], [T_Vec], (.own true), fun x => laws_toVec x.1⟩
def F86 (k : Nat) : List Con := []
theorem okF86 (k : Nat) : ∀ cn ∈ F86 k, ConOk Try.prog cn := conNil
theorem ev86 (k : Nat) (x) : evF Try.prog (F86 k) (inlN Try.prog (F86 k) 4) [] Try.f86 (bodyOf Try.f86) (c86 k).ps (c86 k).rs (c86 k).rm x = (c86 k).m x := by kernel_rfl
theorem ok86 (k : Nat) : ConOk Try.prog (c86 k) :=
  fn_at (okF86 k) (cn := c86 k) (fn := Try.f86) (code := bodyOf Try.f86) (m := ⟨14, []⟩) (gs := []) (by kernel_rfl) (by kernel_rfl) (by kernel_rfl) (by kernel_rfl) (by kernel_rfl) (fun _ => by kernel_rfl)
    [] (fun c hP hm hg => (LInv.of (code := (bodyOf Try.f86)) (bs := []) (by kernel_rfl) LInv.nil)) (ev86 k)
def c77 (k : Nat) : Con := ⟨77, [(T_Job, false)], [T_Job], (.own true), fun x => laws_toJob x.1⟩
def F77 (k : Nat) : List Con := [c86 k]
theorem okF77 (k : Nat) : ∀ cn ∈ F77 k, ConOk Try.prog cn := (conCons (ok86 k) conNil)
theorem ev77 (k : Nat) (x) : evF Try.prog (F77 k) (inlN Try.prog (F77 k) 4) [] Try.f77 (bodyOf Try.f77) (c77 k).ps (c77 k).rs (c77 k).rm x = (c77 k).m x := by kernel_rfl
theorem ok77 (k : Nat) : ConOk Try.prog (c77 k) :=
  fn_at (okF77 k) (cn := c77 k) (fn := Try.f77) (code := bodyOf Try.f77) (m := ⟨12, []⟩) (gs := []) (by kernel_rfl) (by kernel_rfl) (by kernel_rfl) (by kernel_rfl) (by kernel_rfl) (fun _ => by kernel_rfl)
    [] (fun c hP hm hg => (LInv.of (code := (bodyOf Try.f77)) (bs := []) (by kernel_rfl) LInv.nil)) (ev77 k)
def c38 (k : Nat) : Con := ⟨38, [((.sl T_Job), false)], [(.sl T_Job)], (.own true), fun x => laws_toJobS k x.1⟩
def F38 (k : Nat) : List Con := [c77 k]
theorem okF38 (k : Nat) : ∀ cn ∈ F38 k, ConOk Try.prog cn := (conCons (ok77 k) conNil)
abbrev S38_3 : Shape := [(0, .v (.sl T_Job)), (3, .own true (.sl T_Job)), (4, .v (.int .i64))]
abbrev X38_3 : Exit × Shape := (Exit.exit 0, [(3, .own true (.sl T_Job))])
abbrev R38_3 : List (Exit × Shape) := []
def lo38_3 (k : Nat) : LO := loopO [] [] [] S38_3 X38_3 R38_3 (iter (laws_toJobS_s3) k)
theorem st38_3 (k : Nat) (rec v) : evC Try.prog ⟨23, []⟩ (F38 k) (inlN Try.prog (F38 k) 4) [] (lpAt (bodyOf Try.f38) [0]) (Kb [] [] [] S38_3 X38_3 R38_3 rec) (mkSt [] [] S38_3 v.1 v.2) = (laws_toJobS_s3) rec v := by kernel_rfl
theorem lp38_3 (k : Nat) {c : Cx} (hP : c.P = Try.prog) (hm : c.m = ⟨23, []⟩) (hg : c.gs = []) : LoopOk c (lo38_3 k) (lpAt (bodyOf Try.f38) [0]) :=
  loop_at hP hm hg (okF38 k) (LInv.of (code := (lpAt (bodyOf Try.f38) [0])) (bs := []) (by kernel_rfl) LInv.nil) (fun rec v => st38_3 k rec v) k
theorem ev38 (k : Nat) (x) : evF Try.prog (F38 k) (inlN Try.prog (F38 k) 4) [(3, lo38_3 k)] Try.f38 (bodyOf Try.f38) (c38 k).ps (c38 k).rs (c38 k).rm x = (c38 k).m x := by kernel_rfl
theorem ok38 (k : Nat) : ConOk Try.prog (c38 k) :=
  fn_at (okF38 k) (cn := c38 k) (fn := Try.f38) (code := bodyOf Try.f38) (m := ⟨23, []⟩) (gs := []) (by kernel_rfl) (by kernel_rfl) (by kernel_rfl) (by kernel_rfl) (by kernel_rfl) (fun _ => by kernel_rfl)
    [(3, lo38_3 k)] (fun c hP hm hg => (LInv.of (code := (bodyOf Try.f38)) (bs := [(lpAt (bodyOf Try.f38) [0])]) (by kernel_rfl) (LInv.cons (b := (lpAt (bodyOf Try.f38) [0])) (by kernel_rfl) (lp38_3 k hP hm hg) LInv.nil))) (ev38 k)
def c8 (k : Nat) : Con := ⟨8, [(T_Line, false)], [T_Line], (.own true), fun x => laws_toLine k x.1⟩
def F8 (k : Nat) : List Con := [c38 k]
theorem okF8 (k : Nat) : ∀ cn ∈ F8 k, ConOk Try.prog cn := (conCons (ok38 k) conNil)
theorem ev8 (k : Nat) (x) : evF Try.prog (F8 k) (inlN Try.prog (F8 k) 4) [] Try.f8 (bodyOf Try.f8) (c8 k).ps (c8 k).rs (c8 k).rm x = (c8 k).m x := by kernel_rfl
theorem ok8 (k : Nat) : ConOk Try.prog (c8 k) :=
  fn_at (okF8 k) (cn := c8 k) (fn := Try.f8) (code := bodyOf Try.f8) (m := ⟨20, []⟩) (gs := []) (by kernel_rfl) (by kernel_rfl) (by kernel_rfl) (by kernel_rfl) (by kernel_rfl) (fun _ => by kernel_rfl)
    [] (fun c hP hm hg => (LInv.of (code := (bodyOf Try.f8)) (bs := []) (by kernel_rfl) LInv.nil)) (ev8 k)
def c36 (k : Nat) : Con := ⟨36, [(T_Line, false)], [(.sl T_Job)], (.own true), fun x => spec_l21All x.1⟩
def F36 (k : Nat) : List Con := []
theorem okF36 (k : Nat) : ∀ cn ∈ F36 k, ConOk Try.prog cn := conNil
theorem ev36 (k : Nat) (x) : evF Try.prog (F36 k) (inlN Try.prog (F36 k) 4) [] Try.f36 (bodyOf Try.f36) (c36 k).ps (c36 k).rs (c36 k).rm x = (c36 k).m x := by kernel_rfl
theorem ok36 (k : Nat) : ConOk Try.prog (c36 k) :=
  fn_at (okF36 k) (cn := c36 k) (fn := Try.f36) (code := bodyOf Try.f36) (m := ⟨13, []⟩) (gs := []) (by kernel_rfl) (by kernel_rfl) (by kernel_rfl) (by kernel_rfl) (by kernel_rfl) (fun _ => by kernel_rfl)
    [] (fun c hP hm hg => (LInv.of (code := (bodyOf Try.f36)) (bs := []) (by kernel_rfl) LInv.nil)) (ev36 k)
def c34 (k : Nat) : Con := ⟨34, [(T_Line, false)], [.bool], (.own true), fun x => spec_LineOk k x.1⟩
def F34 (k : Nat) : List Con := [c36 k]
theorem okF34 (k : Nat) : ∀ cn ∈ F34 k, ConOk Try.prog cn := (conCons (ok36 k) conNil)
abbrev S34_12 : Shape := [(1, .boxv T_Line), (3, .own true (.sl T_Job)), (4, .v (.int .i64)), (5, .v (.int .i64))]
abbrev X34_12 : Exit × Shape := (Exit.ret, [(2, .v .bool)])
abbrev R34_12 : List (Exit × Shape) := [(Exit.exit 2, [(1, .boxv T_Line), (3, .own true (.sl T_Job)), (4, .v (.int .i64))])]
def lo34_12 (k : Nat) : LO := loopO [] [] [] S34_12 X34_12 R34_12 (iter (spec_LineOk_s12) k)
theorem st34_12 (k : Nat) (rec v) : evC Try.prog ⟨154, []⟩ (F34 k) (inlN Try.prog (F34 k) 4) [] (lpAt (bodyOf Try.f34) [0, 0]) (Kb [] [] [] S34_12 X34_12 R34_12 rec) (mkSt [] [] S34_12 v.1 v.2) = (spec_LineOk_s12) rec v := by kernel_rfl
theorem lp34_12 (k : Nat) {c : Cx} (hP : c.P = Try.prog) (hm : c.m = ⟨154, []⟩) (hg : c.gs = []) : LoopOk c (lo34_12 k) (lpAt (bodyOf Try.f34) [0, 0]) :=
  loop_at hP hm hg (okF34 k) (LInv.of (code := (lpAt (bodyOf Try.f34) [0, 0])) (bs := []) (by kernel_rfl) LInv.nil) (fun rec v => st34_12 k rec v) k
abbrev S34_7 : Shape := [(1, .boxv T_Line), (3, .own true (.sl T_Job)), (4, .v (.int .i64))]
abbrev X34_7 : Exit × Shape := (Exit.ret, [(2, .v .bool)])
abbrev R34_7 : List (Exit × Shape) := [(Exit.exit 0, [])]
def lo34_7 (k : Nat) : LO := loopO [] [] [] S34_7 X34_7 R34_7 (iter (spec_LineOk_s7 k) k)
theorem st34_7 (k : Nat) (rec v) : evC Try.prog ⟨154, []⟩ (F34 k) (inlN Try.prog (F34 k) 4) [(12, lo34_12 k)] (lpAt (bodyOf Try.f34) [0]) (Kb [] [] [] S34_7 X34_7 R34_7 rec) (mkSt [] [] S34_7 v.1 v.2) = (spec_LineOk_s7 k) rec v := by kernel_rfl
theorem lp34_7 (k : Nat) {c : Cx} (hP : c.P = Try.prog) (hm : c.m = ⟨154, []⟩) (hg : c.gs = []) : LoopOk c (lo34_7 k) (lpAt (bodyOf Try.f34) [0]) :=
  loop_at hP hm hg (okF34 k) (LInv.of (code := (lpAt (bodyOf Try.f34) [0])) (bs := [(lpAt (bodyOf Try.f34) [0, 0])]) (by kernel_rfl) (LInv.cons (b := (lpAt (bodyOf Try.f34) [0, 0])) (by kernel_rfl) (lp34_12 k hP hm hg) LInv.nil)) (fun rec v => st34_7 k rec v) k
theorem ev34 (k : Nat) (x) : evF Try.prog (F34 k) (inlN Try.prog (F34 k) 4) [(7, lo34_7 k)] Try.f34 (bodyOf Try.f34) (c34 k).ps (c34 k).rs (c34 k).rm x = (c34 k).m x := by kernel_rfl
theorem ok34 (k : Nat) : ConOk Try.prog (c34 k) :=
  fn_at (okF34 k) (cn := c34 k) (fn := Try.f34) (code := bodyOf Try.f34) (m := ⟨154, []⟩) (gs := []) (by kernel_rfl) (by kernel_rfl) (by kernel_rfl) (by kernel_rfl) (by kernel_rfl) (fun _ => by kernel_rfl)
    [(7, lo34_7 k)] (fun c hP hm hg => (LInv.of (code := (bodyOf Try.f34)) (bs := [(lpAt (bodyOf Try.f34) [0])]) (by kernel_rfl) (LInv.cons (b := (lpAt (bodyOf Try.f34) [0])) (by kernel_rfl) (lp34_7 k hP hm hg) LInv.nil))) (ev34 k)
def c35 (k : Nat) : Con := ⟨35, [(T_Line, false)], [T_Line], (.own true), fun x => spec_l21Copy x.1⟩
def F35 (k : Nat) : List Con := []
theorem okF35 (k : Nat) : ∀ cn ∈ F35 k, ConOk Try.prog cn := conNil
theorem ev35 (k : Nat) (x) : evF Try.prog (F35 k) (inlN Try.prog (F35 k) 4) [] Try.f35 (bodyOf Try.f35) (c35 k).ps (c35 k).rs (c35 k).rm x = (c35 k).m x := by kernel_rfl
theorem ok35 (k : Nat) : ConOk Try.prog (c35 k) :=
  fn_at (okF35 k) (cn := c35 k) (fn := Try.f35) (code := bodyOf Try.f35) (m := ⟨18, []⟩) (gs := []) (by kernel_rfl) (by kernel_rfl) (by kernel_rfl) (by kernel_rfl) (by kernel_rfl) (fun _ => by kernel_rfl)
    [] (fun c hP hm hg => (LInv.of (code := (bodyOf Try.f35)) (bs := []) (by kernel_rfl) LInv.nil)) (ev35 k)
def c37 (k : Nat) : Con := ⟨37, [(T_Line, false)], [T_Line, (.int .i64)], (.own true), fun x => spec_l21Tick x.1⟩
def F37 (k : Nat) : List Con := [c35 k]
theorem okF37 (k : Nat) : ∀ cn ∈ F37 k, ConOk Try.prog cn := (conCons (ok35 k) conNil)
theorem ev37 (k : Nat) (x) : evF Try.prog (F37 k) (inlN Try.prog (F37 k) 4) [] Try.f37 (bodyOf Try.f37) (c37 k).ps (c37 k).rs (c37 k).rm x = (c37 k).m x := by kernel_rfl
theorem ok37 (k : Nat) : ConOk Try.prog (c37 k) :=
  fn_at (okF37 k) (cn := c37 k) (fn := Try.f37) (code := bodyOf Try.f37) (m := ⟨114, []⟩) (gs := []) (by kernel_rfl) (by kernel_rfl) (by kernel_rfl) (by kernel_rfl) (by kernel_rfl) (fun _ => by kernel_rfl)
    [] (fun c hP hm hg => (LInv.of (code := (bodyOf Try.f37)) (bs := []) (by kernel_rfl) LInv.nil)) (ev37 k)
def c7 (k : Nat) : Con := ⟨7, [(T_Line, false), ((.int .i64), false)], [T_Line, (.sl T_Done)], (.own true), fun x => spec_LineRun k x.1 x.2.1⟩
def F7 (k : Nat) : List Con := [c34 k, c35 k, c36 k, c37 k]
theorem okF7 (k : Nat) : ∀ cn ∈ F7 k, ConOk Try.prog cn := (conCons (ok34 k) (conCons (ok35 k) (conCons (ok36 k) (conCons (ok37 k) conNil))))
abbrev S7_6 : Shape := [(1, .v (.int .i64)), (4, .box true T_Line), (6, .box true T_Line), (7, .own true (.sl T_Done)), (8, .v (.int .i64))]
abbrev X7_6 : Exit × Shape := (Exit.exit 0, [(4, .box true T_Line), (6, .box true T_Line), (7, .own true (.sl T_Done))])
abbrev R7_6 : List (Exit × Shape) := []
def lo7_6 (k : Nat) : LO := loopO [] [] [] S7_6 X7_6 R7_6 (iter (spec_LineRun_s6) k)
theorem st7_6 (k : Nat) (rec v) : evC Try.prog ⟨53, []⟩ (F7 k) (inlN Try.prog (F7 k) 4) [] (lpAt (bodyOf Try.f7) [0]) (Kb [] [] [] S7_6 X7_6 R7_6 rec) (mkSt [] [] S7_6 v.1 v.2) = (spec_LineRun_s6) rec v := by kernel_rfl
theorem lp7_6 (k : Nat) {c : Cx} (hP : c.P = Try.prog) (hm : c.m = ⟨53, []⟩) (hg : c.gs = []) : LoopOk c (lo7_6 k) (lpAt (bodyOf Try.f7) [0]) :=
  loop_at hP hm hg (okF7 k) (LInv.of (code := (lpAt (bodyOf Try.f7) [0])) (bs := []) (by kernel_rfl) LInv.nil) (fun rec v => st7_6 k rec v) k
theorem ev7 (k : Nat) (x) : evF Try.prog (F7 k) (inlN Try.prog (F7 k) 4) [(6, lo7_6 k)] Try.f7 (bodyOf Try.f7) (c7 k).ps (c7 k).rs (c7 k).rm x = (c7 k).m x := by kernel_rfl
theorem ok7 (k : Nat) : ConOk Try.prog (c7 k) :=
  fn_at (okF7 k) (cn := c7 k) (fn := Try.f7) (code := bodyOf Try.f7) (m := ⟨53, []⟩) (gs := []) (by kernel_rfl) (by kernel_rfl) (by kernel_rfl) (by kernel_rfl) (by kernel_rfl) (fun _ => by kernel_rfl)
    [(6, lo7_6 k)] (fun c hP hm hg => (LInv.of (code := (bodyOf Try.f7)) (bs := [(lpAt (bodyOf Try.f7) [0])]) (by kernel_rfl) (LInv.cons (b := (lpAt (bodyOf Try.f7) [0])) (by kernel_rfl) (lp7_6 k hP hm hg) LInv.nil))) (ev7 k)
def c40 (k : Nat) : Con := ⟨40, [((.int .i64), false), ((.int .i64), false), ((.int .i64), false)], [.bool], (.own true), fun x => impl_within x.1 x.2.1 x.2.2.1⟩
def F40 (k : Nat) : List Con := []
theorem okF40 (k : Nat) : ∀ cn ∈ F40 k, ConOk Try.prog cn := conNil
theorem ev40 (k : Nat) (x) : evF Try.prog (F40 k) (inlN Try.prog (F40 k) 4) [] Try.f40 (bodyOf Try.f40) (c40 k).ps (c40 k).rs (c40 k).rm x = (c40 k).m x := by kernel_rfl
theorem ok40 (k : Nat) : ConOk Try.prog (c40 k) :=
  fn_at (okF40 k) (cn := c40 k) (fn := Try.f40) (code := bodyOf Try.f40) (m := ⟨15, []⟩) (gs := []) (by kernel_rfl) (by kernel_rfl) (by kernel_rfl) (by kernel_rfl) (by kernel_rfl) (fun _ => by kernel_rfl)
    [] (fun c hP hm hg => (LInv.of (code := (bodyOf Try.f40)) (bs := []) (by kernel_rfl) LInv.nil)) (ev40 k)
def c97 (k : Nat) : Con := ⟨97, [((.sl (.sl T_Job)), false)], [(.sl T_Job)], (.own true), fun x => slices_Concat_impl_Job_impl_Job k x.1⟩
def F97 (k : Nat) : List Con := []
theorem okF97 (k : Nat) : ∀ cn ∈ F97 k, ConOk Try.prog cn := conNil
abbrev S97_3 : Shape := [(0, .v (.sl (.sl T_Job))), (3, .v (.int .i64)), (9, .v (.sl (.sl T_Job))), (10, .v (.int .i64)), (11, .v (.int .i64))]
abbrev X97_3 : Exit × Shape := (Exit.exit 0, [(0, .v (.sl (.sl T_Job))), (3, .v (.int .i64))])
abbrev R97_3 : List (Exit × Shape) := []
def lo97_3 (k : Nat) : LO := loopO [] [] [] S97_3 X97_3 R97_3 (iter (slices_Concat_impl_Job_impl_Job_s3) k)
theorem st97_3 (k : Nat) (rec v) : evC Try.prog ⟨36, []⟩ (F97 k) (inlN Try.prog (F97 k) 4) [] (lpAt (bodyOf Try.f97) [0]) (Kb [] [] [] S97_3 X97_3 R97_3 rec) (mkSt [] [] S97_3 v.1 v.2) = (slices_Concat_impl_Job_impl_Job_s3) rec v := by kernel_rfl
theorem lp97_3 (k : Nat) {c : Cx} (hP : c.P = Try.prog) (hm : c.m = ⟨36, []⟩) (hg : c.gs = []) : LoopOk c (lo97_3 k) (lpAt (bodyOf Try.f97) [0]) :=
  loop_at hP hm hg (okF97 k) (LInv.of (code := (lpAt (bodyOf Try.f97) [0])) (bs := []) (by kernel_rfl) LInv.nil) (fun rec v => st97_3 k rec v) k
abbrev S97_11 : Shape := [(6, .own true (.sl T_Job)), (25, .v (.sl (.sl T_Job))), (26, .v (.int .i64)), (27, .v (.int .i64))]
abbrev X97_11 : Exit × Shape := (Exit.exit 2, [(6, .own true (.sl T_Job))])
abbrev R97_11 : List (Exit × Shape) := []
def lo97_11 (k : Nat) : LO := loopO [] [] [] S97_11 X97_11 R97_11 (iter (slices_Concat_impl_Job_impl_Job_s11) k)
theorem st97_11 (k : Nat) (rec v) : evC Try.prog ⟨36, []⟩ (F97 k) (inlN Try.prog (F97 k) 4) [] (lpAt (bodyOf Try.f97) [1]) (Kb [] [] [] S97_11 X97_11 R97_11 rec) (mkSt [] [] S97_11 v.1 v.2) = (slices_Concat_impl_Job_impl_Job_s11) rec v := by kernel_rfl
theorem lp97_11 (k : Nat) {c : Cx} (hP : c.P = Try.prog) (hm : c.m = ⟨36, []⟩) (hg : c.gs = []) : LoopOk c (lo97_11 k) (lpAt (bodyOf Try.f97) [1]) :=
  loop_at hP hm hg (okF97 k) (LInv.of (code := (lpAt (bodyOf Try.f97) [1])) (bs := []) (by kernel_rfl) LInv.nil) (fun rec v => st97_11 k rec v) k
theorem ev97 (k : Nat) (x) : evF Try.prog (F97 k) (inlN Try.prog (F97 k) 4) [(3, lo97_3 k), (11, lo97_11 k)] Try.f97 (bodyOf Try.f97) (c97 k).ps (c97 k).rs (c97 k).rm x = (c97 k).m x := by kernel_rfl
theorem ok97 (k : Nat) : ConOk Try.prog (c97 k) :=
  fn_at (okF97 k) (cn := c97 k) (fn := Try.f97) (code := bodyOf Try.f97) (m := ⟨36, []⟩) (gs := []) (by kernel_rfl) (by kernel_rfl) (by kernel_rfl) (by kernel_rfl) (by kernel_rfl) (fun _ => by kernel_rfl)
    [(3, lo97_3 k), (11, lo97_11 k)] (fun c hP hm hg => (LInv.of (code := (bodyOf Try.f97)) (bs := [(lpAt (bodyOf Try.f97) [0]), (lpAt (bodyOf Try.f97) [1])]) (by kernel_rfl) (LInv.cons (b := (lpAt (bodyOf Try.f97) [0])) (by kernel_rfl) (lp97_3 k hP hm hg) (LInv.cons (b := (lpAt (bodyOf Try.f97) [1])) (by kernel_rfl) (lp97_11 k hP hm hg) LInv.nil)))) (ev97 k)
def c78 (k : Nat) : Con := ⟨78, [(T_Line, false)], [(.sl T_Job)], (.own true), fun x => impl_Line_jobs k x.1⟩
def F78 (k : Nat) : List Con := [c97 k]
theorem okF78 (k : Nat) : ∀ cn ∈ F78 k, ConOk Try.prog cn := (conCons (ok97 k) conNil)
theorem ev78 (k : Nat) (x) : evF Try.prog (F78 k) (inlN Try.prog (F78 k) 4) [] Try.f78 (bodyOf Try.f78) (c78 k).ps (c78 k).rs (c78 k).rm x = (c78 k).m x := by kernel_rfl
theorem ok78 (k : Nat) : ConOk Try.prog (c78 k) :=
  fn_at (okF78 k) (cn := c78 k) (fn := Try.f78) (code := bodyOf Try.f78) (m := ⟨11, []⟩) (gs := []) (by kernel_rfl) (by kernel_rfl) (by kernel_rfl) (by kernel_rfl) (by kernel_rfl) (fun _ => by kernel_rfl)
    [] (fun c hP hm hg => (LInv.of (code := (bodyOf Try.f78)) (bs := []) (by kernel_rfl) LInv.nil)) (ev78 k)
def c98 (k : Nat) : Con := ⟨98, [(T_Vec, false), ((.int .i64), false), ((.int .i64), false)], [.bool], (.own true), fun x => impl_Vec_isFrom x.1 x.2.1 x.2.2.1⟩
def F98 (k : Nat) : List Con := [c40 k]
theorem okF98 (k : Nat) : ∀ cn ∈ F98 k, ConOk Try.prog cn := (conCons (ok40 k) conNil)
theorem ev98 (k : Nat) (x) : evF Try.prog (F98 k) (inlN Try.prog (F98 k) 4) [] Try.f98 (bodyOf Try.f98) (c98 k).ps (c98 k).rs (c98 k).rm x = (c98 k).m x := by kernel_rfl
theorem ok98 (k : Nat) : ConOk Try.prog (c98 k) :=
  fn_at (okF98 k) (cn := c98 k) (fn := Try.f98) (code := bodyOf Try.f98) (m := ⟨26, []⟩) (gs := []) (by kernel_rfl) (by kernel_rfl) (by kernel_rfl) (by kernel_rfl) (by kernel_rfl) (fun _ => by kernel_rfl)
    [] (fun c hP hm hg => (LInv.of (code := (bodyOf Try.f98)) (bs := []) (by kernel_rfl) LInv.nil)) (ev98 k)
def c79 (k : Nat) : Con := ⟨79, [(T_Vec, false)], [.bool], (.own true), fun x => impl_CostOk x.1⟩
def F79 (k : Nat) : List Con := [c98 k]
theorem okF79 (k : Nat) : ∀ cn ∈ F79 k, ConOk Try.prog cn := (conCons (ok98 k) conNil)
theorem ev79 (k : Nat) (x) : evF Try.prog (F79 k) (inlN Try.prog (F79 k) 4) [] Try.f79 (bodyOf Try.f79) (c79 k).ps (c79 k).rs (c79 k).rm x = (c79 k).m x := by kernel_rfl
theorem ok79 (k : Nat) : ConOk Try.prog (c79 k) :=
  fn_at (okF79 k) (cn := c79 k) (fn := Try.f79) (code := bodyOf Try.f79) (m := ⟨5, []⟩) (gs := []) (by kernel_rfl) (by kernel_rfl) (by kernel_rfl) (by kernel_rfl) (by kernel_rfl) (fun _ => by kernel_rfl)
    [] (fun c hP hm hg => (LInv.of (code := (bodyOf Try.f79)) (bs := []) (by kernel_rfl) LInv.nil)) (ev79 k)
def c80 (k : Nat) : Con := ⟨80, [((.int .i64), false)], [.bool], (.own true), fun x => impl_isNeed x.1⟩
def F80 (k : Nat) : List Con := [c40 k]
theorem okF80 (k : Nat) : ∀ cn ∈ F80 k, ConOk Try.prog cn := (conCons (ok40 k) conNil)
theorem ev80 (k : Nat) (x) : evF Try.prog (F80 k) (inlN Try.prog (F80 k) 4) [] Try.f80 (bodyOf Try.f80) (c80 k).ps (c80 k).rs (c80 k).rm x = (c80 k).m x := by kernel_rfl
theorem ok80 (k : Nat) : ConOk Try.prog (c80 k) :=
  fn_at (okF80 k) (cn := c80 k) (fn := Try.f80) (code := bodyOf Try.f80) (m := ⟨5, []⟩) (gs := []) (by kernel_rfl) (by kernel_rfl) (by kernel_rfl) (by kernel_rfl) (by kernel_rfl) (fun _ => by kernel_rfl)
    [] (fun c hP hm hg => (LInv.of (code := (bodyOf Try.f80)) (bs := []) (by kernel_rfl) LInv.nil)) (ev80 k)
def c39 (k : Nat) : Con := ⟨39, [(T_Line, false)], [.bool], (.own true), fun x => impl_LineOk k x.1⟩
def F39 (k : Nat) : List Con := [c40 k, c78 k, c79 k, c80 k]
theorem okF39 (k : Nat) : ∀ cn ∈ F39 k, ConOk Try.prog cn := (conCons (ok40 k) (conCons (ok78 k) (conCons (ok79 k) (conCons (ok80 k) conNil))))
abbrev S39_5 : Shape := [(1, .boxv T_Line), (3, .mp .i64), (21, .own true (.sl T_Job)), (22, .v (.int .i64)), (23, .v (.int .i64))]
abbrev X39_5 : Exit × Shape := (Exit.ret, [(2, .v .bool)])
abbrev R39_5 : List (Exit × Shape) := [(Exit.exit 0, [])]
def lo39_5 (k : Nat) : LO := loopO [] [] [] S39_5 X39_5 R39_5 (iter (impl_LineOk_s5) k)
theorem st39_5 (k : Nat) (rec v) : evC Try.prog ⟨97, []⟩ (F39 k) (inlN Try.prog (F39 k) 4) [] (lpAt (bodyOf Try.f39) [0]) (Kb [] [] [] S39_5 X39_5 R39_5 rec) (mkSt [] [] S39_5 v.1 v.2) = (impl_LineOk_s5) rec v := by kernel_rfl
theorem lp39_5 (k : Nat) {c : Cx} (hP : c.P = Try.prog) (hm : c.m = ⟨97, []⟩) (hg : c.gs = []) : LoopOk c (lo39_5 k) (lpAt (bodyOf Try.f39) [0]) :=
  loop_at hP hm hg (okF39 k) (LInv.of (code := (lpAt (bodyOf Try.f39) [0])) (bs := []) (by kernel_rfl) LInv.nil) (fun rec v => st39_5 k rec v) k
theorem ev39 (k : Nat) (x) : evF Try.prog (F39 k) (inlN Try.prog (F39 k) 4) [(5, lo39_5 k)] Try.f39 (bodyOf Try.f39) (c39 k).ps (c39 k).rs (c39 k).rm x = (c39 k).m x := by kernel_rfl
theorem ok39 (k : Nat) : ConOk Try.prog (c39 k) :=
  fn_at (okF39 k) (cn := c39 k) (fn := Try.f39) (code := bodyOf Try.f39) (m := ⟨97, []⟩) (gs := []) (by kernel_rfl) (by kernel_rfl) (by kernel_rfl) (by kernel_rfl) (by kernel_rfl) (fun _ => by kernel_rfl)
    [(5, lo39_5 k)] (fun c hP hm hg => (LInv.of (code := (bodyOf Try.f39)) (bs := [(lpAt (bodyOf Try.f39) [0])]) (by kernel_rfl) (LInv.cons (b := (lpAt (bodyOf Try.f39) [0])) (by kernel_rfl) (lp39_5 k hP hm hg) LInv.nil))) (ev39 k)
def c81 (k : Nat) : Con := ⟨81, [((.sl T_Job), false)], [(.sl T_Job)], (.own true), fun x => slices_Clone_impl_Job_impl_Job x.1⟩
theorem ok81 (k : Nat) : ConOk Try.prog (c81 k) :=
  fn_nil conNil (fn := Try.f81) (code := bodyOf Try.f81) (by kernel_rfl) (by kernel_rfl) (by kernel_rfl) (by kernel_rfl) (by kernel_rfl) (fun e l => by kernel_rfl) (by kernel_rfl) (fun A cap => by kernel_rfl)
def c41 (k : Nat) : Con := ⟨41, [(T_Line, false)], [T_Line], (.own true), fun x => impl_copyLine x.1⟩
def F41 (k : Nat) : List Con := [c81 k]
theorem okF41 (k : Nat) : ∀ cn ∈ F41 k, ConOk Try.prog cn := (conCons (ok81 k) conNil)
theorem ev41 (k : Nat) (x) : evF Try.prog (F41 k) (inlN Try.prog (F41 k) 4) [] Try.f41 (bodyOf Try.f41) (c41 k).ps (c41 k).rs (c41 k).rm x = (c41 k).m x := by kernel_rfl
theorem ok41 (k : Nat) : ConOk Try.prog (c41 k) :=
  fn_at (okF41 k) (cn := c41 k) (fn := Try.f41) (code := bodyOf Try.f41) (m := ⟨15, []⟩) (gs := []) (by kernel_rfl) (by kernel_rfl) (by kernel_rfl) (by kernel_rfl) (by kernel_rfl) (fun _ => by kernel_rfl)
    [] (fun c hP hm hg => (LInv.of (code := (bodyOf Try.f41)) (bs := []) (by kernel_rfl) LInv.nil)) (ev41 k)
def c9 (k : Nat) : Con := ⟨9, [(T_Line, false), ((.int .i64), false)], [T_Line, (.sl T_Done)], (.own true), fun x => impl_LineRun k x.1 x.2.1⟩
def F9 (k : Nat) : List Con := [c39 k, c40 k, c41 k]
theorem okF9 (k : Nat) : ∀ cn ∈ F9 k, ConOk Try.prog cn := (conCons (ok39 k) (conCons (ok40 k) (conCons (ok41 k) conNil)))
abbrev S9_5 : Shape := [(1, .v (.int .i64)), (4, .box true T_Line), (6, .box true T_Line), (7, .own true (.sl T_Done)), (8, .v (.int .i64))]
abbrev X9_5 : Exit × Shape := (Exit.exit 0, [(4, .box true T_Line), (6, .box true T_Line), (7, .own true (.sl T_Done))])
abbrev R9_5 : List (Exit × Shape) := []
def lo9_5 (k : Nat) : LO := loopO [] [] [] S9_5 X9_5 R9_5 (iter (impl_LineRun_s5) k)
theorem st9_5 (k : Nat) (rec v) : evC Try.prog ⟨39, []⟩ (F9 k) (inlN Try.prog (F9 k) 4) [] (lpAt (bodyOf Try.f9) [0]) (Kb [] [] [] S9_5 X9_5 R9_5 rec) (mkSt [] [] S9_5 v.1 v.2) = (impl_LineRun_s5) rec v := by kernel_rfl
theorem lp9_5 (k : Nat) {c : Cx} (hP : c.P = Try.prog) (hm : c.m = ⟨39, []⟩) (hg : c.gs = []) : LoopOk c (lo9_5 k) (lpAt (bodyOf Try.f9) [0]) :=
  loop_at hP hm hg (okF9 k) (LInv.of (code := (lpAt (bodyOf Try.f9) [0])) (bs := []) (by kernel_rfl) LInv.nil) (fun rec v => st9_5 k rec v) k
theorem ev9 (k : Nat) (x) : evF Try.prog (F9 k) (inlN Try.prog (F9 k) 4) [(5, lo9_5 k)] Try.f9 (bodyOf Try.f9) (c9 k).ps (c9 k).rs (c9 k).rm x = (c9 k).m x := by kernel_rfl
theorem ok9 (k : Nat) : ConOk Try.prog (c9 k) :=
  fn_at (okF9 k) (cn := c9 k) (fn := Try.f9) (code := bodyOf Try.f9) (m := ⟨39, []⟩) (gs := []) (by kernel_rfl) (by kernel_rfl) (by kernel_rfl) (by kernel_rfl) (by kernel_rfl) (fun _ => by kernel_rfl)
    [(5, lo9_5 k)] (fun c hP hm hg => (LInv.of (code := (bodyOf Try.f9)) (bs := [(lpAt (bodyOf Try.f9) [0])]) (by kernel_rfl) (LInv.cons (b := (lpAt (bodyOf Try.f9) [0])) (by kernel_rfl) (lp9_5 k hP hm hg) LInv.nil))) (ev9 k)
def c24 (k : Nat) : Con := ⟨24, [(T_Vec, false), (T_Vec, false)], [.bool], (.own true), fun x => laws_eqVec x.1 x.2.1⟩
def F24 (k : Nat) : List Con := []
theorem okF24 (k : Nat) : ∀ cn ∈ F24 k, ConOk Try.prog cn := conNil
theorem ev24 (k : Nat) (x) : evF Try.prog (F24 k) (inlN Try.prog (F24 k) 4) [] Try.f24 (bodyOf Try.f24) (c24 k).ps (c24 k).rs (c24 k).rm x = (c24 k).m x := by kernel_rfl
theorem ok24 (k : Nat) : ConOk Try.prog (c24 k) :=
  fn_at (okF24 k) (cn := c24 k) (fn := Try.f24) (code := bodyOf Try.f24) (m := ⟨20, []⟩) (gs := []) (by kernel_rfl) (by kernel_rfl) (by kernel_rfl) (by kernel_rfl) (by kernel_rfl) (fun _ => by kernel_rfl)
    [] (fun c hP hm hg => (LInv.of (code := (bodyOf Try.f24)) (bs := []) (by kernel_rfl) LInv.nil)) (ev24 k)
def c82 (k : Nat) : Con := ⟨82, [(T_Job, false), (T_Job, false)], [.bool], (.own true), fun x => laws_eqJob x.1 x.2.1⟩
def F82 (k : Nat) : List Con := [c24 k]
theorem okF82 (k : Nat) : ∀ cn ∈ F82 k, ConOk Try.prog cn := (conCons (ok24 k) conNil)
theorem ev82 (k : Nat) (x) : evF Try.prog (F82 k) (inlN Try.prog (F82 k) 4) [] Try.f82 (bodyOf Try.f82) (c82 k).ps (c82 k).rs (c82 k).rm x = (c82 k).m x := by kernel_rfl
theorem ok82 (k : Nat) : ConOk Try.prog (c82 k) :=
  fn_at (okF82 k) (cn := c82 k) (fn := Try.f82) (code := bodyOf Try.f82) (m := ⟨16, []⟩) (gs := []) (by kernel_rfl) (by kernel_rfl) (by kernel_rfl) (by kernel_rfl) (by kernel_rfl) (fun _ => by kernel_rfl)
    [] (fun c hP hm hg => (LInv.of (code := (bodyOf Try.f82)) (bs := []) (by kernel_rfl) LInv.nil)) (ev82 k)
def c43 (k : Nat) : Con := ⟨43, [((.sl T_Job), false), ((.sl T_Job), false)], [.bool], (.own true), fun x => laws_eqJobS k x.1 x.2.1⟩
def F43 (k : Nat) : List Con := [c82 k]
theorem okF43 (k : Nat) : ∀ cn ∈ F43 k, ConOk Try.prog cn := (conCons (ok82 k) conNil)
abbrev S43_4 : Shape := [(0, .v (.sl T_Job)), (1, .v (.sl T_Job)), (5, .v (.int .i64))]
abbrev X43_4 : Exit × Shape := (Exit.ret, [(4, .v .bool)])
abbrev R43_4 : List (Exit × Shape) := [(Exit.exit 0, [])]
def lo43_4 (k : Nat) : LO := loopO [] [] [] S43_4 X43_4 R43_4 (iter (laws_eqJobS_s4) k)
theorem st43_4 (k : Nat) (rec v) : evC Try.prog ⟨27, []⟩ (F43 k) (inlN Try.prog (F43 k) 4) [] (lpAt (bodyOf Try.f43) [0]) (Kb [] [] [] S43_4 X43_4 R43_4 rec) (mkSt [] [] S43_4 v.1 v.2) = (laws_eqJobS_s4) rec v := by kernel_rfl
theorem lp43_4 (k : Nat) {c : Cx} (hP : c.P = Try.prog) (hm : c.m = ⟨27, []⟩) (hg : c.gs = []) : LoopOk c (lo43_4 k) (lpAt (bodyOf Try.f43) [0]) :=
  loop_at hP hm hg (okF43 k) (LInv.of (code := (lpAt (bodyOf Try.f43) [0])) (bs := []) (by kernel_rfl) LInv.nil) (fun rec v => st43_4 k rec v) k
theorem ev43 (k : Nat) (x) : evF Try.prog (F43 k) (inlN Try.prog (F43 k) 4) [(4, lo43_4 k)] Try.f43 (bodyOf Try.f43) (c43 k).ps (c43 k).rs (c43 k).rm x = (c43 k).m x := by kernel_rfl
theorem ok43 (k : Nat) : ConOk Try.prog (c43 k) :=
  fn_at (okF43 k) (cn := c43 k) (fn := Try.f43) (code := bodyOf Try.f43) (m := ⟨27, []⟩) (gs := []) (by kernel_rfl) (by kernel_rfl) (by kernel_rfl) (by kernel_rfl) (by kernel_rfl) (fun _ => by kernel_rfl)
    [(4, lo43_4 k)] (fun c hP hm hg => (LInv.of (code := (bodyOf Try.f43)) (bs := [(lpAt (bodyOf Try.f43) [0])]) (by kernel_rfl) (LInv.cons (b := (lpAt (bodyOf Try.f43) [0])) (by kernel_rfl) (lp43_4 k hP hm hg) LInv.nil))) (ev43 k)
def c10 (k : Nat) : Con := ⟨10, [(T_Line, false), (T_Line, false)], [.bool], (.own true), fun x => laws_eqLine k x.1 x.2.1⟩
def F10 (k : Nat) : List Con := [c43 k]
theorem okF10 (k : Nat) : ∀ cn ∈ F10 k, ConOk Try.prog cn := (conCons (ok43 k) conNil)
theorem ev10 (k : Nat) (x) : evF Try.prog (F10 k) (inlN Try.prog (F10 k) 4) [] Try.f10 (bodyOf Try.f10) (c10 k).ps (c10 k).rs (c10 k).rm x = (c10 k).m x := by kernel_rfl
theorem ok10 (k : Nat) : ConOk Try.prog (c10 k) :=
  fn_at (okF10 k) (cn := c10 k) (fn := Try.f10) (code := bodyOf Try.f10) (m := ⟨28, []⟩) (gs := []) (by kernel_rfl) (by kernel_rfl) (by kernel_rfl) (by kernel_rfl) (by kernel_rfl) (fun _ => by kernel_rfl)
    [] (fun c hP hm hg => (LInv.of (code := (bodyOf Try.f10)) (bs := []) (by kernel_rfl) LInv.nil)) (ev10 k)
def c44 (k : Nat) : Con := ⟨44, [(T_Done, false), (T_Done, false)], [.bool], (.own true), fun x => laws_eqDone x.1 x.2.1⟩
def F44 (k : Nat) : List Con := []
theorem okF44 (k : Nat) : ∀ cn ∈ F44 k, ConOk Try.prog cn := conNil
theorem ev44 (k : Nat) (x) : evF Try.prog (F44 k) (inlN Try.prog (F44 k) 4) [] Try.f44 (bodyOf Try.f44) (c44 k).ps (c44 k).rs (c44 k).rm x = (c44 k).m x := by kernel_rfl
theorem ok44 (k : Nat) : ConOk Try.prog (c44 k) :=
  fn_at (okF44 k) (cn := c44 k) (fn := Try.f44) (code := bodyOf Try.f44) (m := ⟨15, []⟩) (gs := []) (by kernel_rfl) (by kernel_rfl) (by kernel_rfl) (by kernel_rfl) (by kernel_rfl) (fun _ => by kernel_rfl)
    [] (fun c hP hm hg => (LInv.of (code := (bodyOf Try.f44)) (bs := []) (by kernel_rfl) LInv.nil)) (ev44 k)
def c11 (k : Nat) : Con := ⟨11, [((.sl T_Done), false), ((.sl T_Done), false)], [.bool], (.own true), fun x => laws_eqDoneS k x.1 x.2.1⟩
def F11 (k : Nat) : List Con := [c44 k]
theorem okF11 (k : Nat) : ∀ cn ∈ F11 k, ConOk Try.prog cn := (conCons (ok44 k) conNil)
abbrev S11_4 : Shape := [(0, .v (.sl T_Done)), (1, .v (.sl T_Done)), (5, .v (.int .i64))]
abbrev X11_4 : Exit × Shape := (Exit.ret, [(4, .v .bool)])
abbrev R11_4 : List (Exit × Shape) := [(Exit.exit 0, [])]
def lo11_4 (k : Nat) : LO := loopO [] [] [] S11_4 X11_4 R11_4 (iter (laws_eqDoneS_s4) k)
theorem st11_4 (k : Nat) (rec v) : evC Try.prog ⟨27, []⟩ (F11 k) (inlN Try.prog (F11 k) 4) [] (lpAt (bodyOf Try.f11) [0]) (Kb [] [] [] S11_4 X11_4 R11_4 rec) (mkSt [] [] S11_4 v.1 v.2) = (laws_eqDoneS_s4) rec v := by kernel_rfl
theorem lp11_4 (k : Nat) {c : Cx} (hP : c.P = Try.prog) (hm : c.m = ⟨27, []⟩) (hg : c.gs = []) : LoopOk c (lo11_4 k) (lpAt (bodyOf Try.f11) [0]) :=
  loop_at hP hm hg (okF11 k) (LInv.of (code := (lpAt (bodyOf Try.f11) [0])) (bs := []) (by kernel_rfl) LInv.nil) (fun rec v => st11_4 k rec v) k
theorem ev11 (k : Nat) (x) : evF Try.prog (F11 k) (inlN Try.prog (F11 k) 4) [(4, lo11_4 k)] Try.f11 (bodyOf Try.f11) (c11 k).ps (c11 k).rs (c11 k).rm x = (c11 k).m x := by kernel_rfl
theorem ok11 (k : Nat) : ConOk Try.prog (c11 k) :=
  fn_at (okF11 k) (cn := c11 k) (fn := Try.f11) (code := bodyOf Try.f11) (m := ⟨27, []⟩) (gs := []) (by kernel_rfl) (by kernel_rfl) (by kernel_rfl) (by kernel_rfl) (by kernel_rfl) (fun _ => by kernel_rfl)
    [(4, lo11_4 k)] (fun c hP hm hg => (LInv.of (code := (bodyOf Try.f11)) (bs := [(lpAt (bodyOf Try.f11) [0])]) (by kernel_rfl) (LInv.cons (b := (lpAt (bodyOf Try.f11) [0])) (by kernel_rfl) (lp11_4 k hP hm hg) LInv.nil))) (ev11 k)
def c45 (k : Nat) : Con := ⟨45, [((.sl T_Job), true), ((.int .i64), false)], [(.int .i64)], (.own true), fun x => laws_markJobS k x.1 x.2.1⟩
def F45 (k : Nat) : List Con := []
theorem okF45 (k : Nat) : ∀ cn ∈ F45 k, ConOk Try.prog cn := conNil
abbrev S45_2 : Shape := [(0, .arg 0), (1, .v (.int .i64)), (5, .v (.int .i64))]
abbrev X45_2 : Exit × Shape := (Exit.exit 0, [(1, .v (.int .i64))])
abbrev R45_2 : List (Exit × Shape) := []
def lo45_2 (k : Nat) : LO := loopO [(0, 0)] [.full 0] [(.sl T_Job)] S45_2 X45_2 R45_2 (iter (laws_markJobS_s2) k)
theorem st45_2 (k : Nat) (rec v) : evC Try.prog ⟨44, [(0, 0)]⟩ (F45 k) (inlN Try.prog (F45 k) 4) [] (lpAt (bodyOf Try.f45) [0]) (Kb [(0, 0)] [.full 0] [(.sl T_Job)] S45_2 X45_2 R45_2 rec) (mkSt [.full 0] [(.sl T_Job)] S45_2 v.1 v.2) = (laws_markJobS_s2) rec v := by kernel_rfl
theorem lp45_2 (k : Nat) {c : Cx} (hP : c.P = Try.prog) (hm : c.m = ⟨44, [(0, 0)]⟩) (hg : c.gs = [.full 0]) : LoopOk c (lo45_2 k) (lpAt (bodyOf Try.f45) [0]) :=
  loop_at hP hm hg (okF45 k) (LInv.of (code := (lpAt (bodyOf Try.f45) [0])) (bs := []) (by kernel_rfl) LInv.nil) (fun rec v => st45_2 k rec v) k
theorem ev45 (k : Nat) (x) : evF Try.prog (F45 k) (inlN Try.prog (F45 k) 4) [(2, lo45_2 k)] Try.f45 (bodyOf Try.f45) (c45 k).ps (c45 k).rs (c45 k).rm x = (c45 k).m x := by kernel_rfl
theorem ok45 (k : Nat) : ConOk Try.prog (c45 k) :=
  fn_at (okF45 k) (cn := c45 k) (fn := Try.f45) (code := bodyOf Try.f45) (m := ⟨44, [(0, 0)]⟩) (gs := [.full 0]) (by kernel_rfl) (by kernel_rfl) (by kernel_rfl) (by kernel_rfl) (by kernel_rfl) (fun _ => by kernel_rfl)
    [(2, lo45_2 k)] (fun c hP hm hg => (LInv.of (code := (bodyOf Try.f45)) (bs := [(lpAt (bodyOf Try.f45) [0])]) (by kernel_rfl) (LInv.cons (b := (lpAt (bodyOf Try.f45) [0])) (by kernel_rfl) (lp45_2 k hP hm hg) LInv.nil))) (ev45 k)
def c13 (k : Nat) : Con := ⟨13, [((.sl T_Done), true), ((.int .i64), false)], [(.int .i64)], (.own true), fun x => laws_markDoneS k x.1 x.2.1⟩
def F13 (k : Nat) : List Con := []
theorem okF13 (k : Nat) : ∀ cn ∈ F13 k, ConOk Try.prog cn := conNil
abbrev S13_2 : Shape := [(0, .arg 0), (1, .v (.int .i64)), (5, .v (.int .i64))]
abbrev X13_2 : Exit × Shape := (Exit.exit 0, [(1, .v (.int .i64))])
abbrev R13_2 : List (Exit × Shape) := []
def lo13_2 (k : Nat) : LO := loopO [(0, 0)] [.full 0] [(.sl T_Done)] S13_2 X13_2 R13_2 (iter (laws_markDoneS_s2) k)
theorem st13_2 (k : Nat) (rec v) : evC Try.prog ⟨27, [(0, 0)]⟩ (F13 k) (inlN Try.prog (F13 k) 4) [] (lpAt (bodyOf Try.f13) [0]) (Kb [(0, 0)] [.full 0] [(.sl T_Done)] S13_2 X13_2 R13_2 rec) (mkSt [.full 0] [(.sl T_Done)] S13_2 v.1 v.2) = (laws_markDoneS_s2) rec v := by kernel_rfl
theorem lp13_2 (k : Nat) {c : Cx} (hP : c.P = Try.prog) (hm : c.m = ⟨27, [(0, 0)]⟩) (hg : c.gs = [.full 0]) : LoopOk c (lo13_2 k) (lpAt (bodyOf Try.f13) [0]) :=
  loop_at hP hm hg (okF13 k) (LInv.of (code := (lpAt (bodyOf Try.f13) [0])) (bs := []) (by kernel_rfl) LInv.nil) (fun rec v => st13_2 k rec v) k
theorem ev13 (k : Nat) (x) : evF Try.prog (F13 k) (inlN Try.prog (F13 k) 4) [(2, lo13_2 k)] Try.f13 (bodyOf Try.f13) (c13 k).ps (c13 k).rs (c13 k).rm x = (c13 k).m x := by kernel_rfl
theorem ok13 (k : Nat) : ConOk Try.prog (c13 k) :=
  fn_at (okF13 k) (cn := c13 k) (fn := Try.f13) (code := bodyOf Try.f13) (m := ⟨27, [(0, 0)]⟩) (gs := [.full 0]) (by kernel_rfl) (by kernel_rfl) (by kernel_rfl) (by kernel_rfl) (by kernel_rfl) (fun _ => by kernel_rfl)
    [(2, lo13_2 k)] (fun c hP hm hg => (LInv.of (code := (bodyOf Try.f13)) (bs := [(lpAt (bodyOf Try.f13) [0])]) (by kernel_rfl) (LInv.cons (b := (lpAt (bodyOf Try.f13) [0])) (by kernel_rfl) (lp13_2 k hP hm hg) LInv.nil))) (ev13 k)
def c46 (k : Nat) : Con := ⟨46, [((.sl T_Job), false), ((.int .i64), false)], [(.int .i64)], (.own true), fun x => laws_heldJobS k x.1 x.2.1⟩
def F46 (k : Nat) : List Con := []
theorem okF46 (k : Nat) : ∀ cn ∈ F46 k, ConOk Try.prog cn := conNil
abbrev S46_2 : Shape := [(0, .v (.sl T_Job)), (1, .v (.int .i64)), (5, .v (.int .i64))]
abbrev X46_2 : Exit × Shape := (Exit.ret, [(4, .v (.int .i64))])
abbrev R46_2 : List (Exit × Shape) := [(Exit.exit 0, [(1, .v (.int .i64))])]
def lo46_2 (k : Nat) : LO := loopO [] [] [] S46_2 X46_2 R46_2 (iter (laws_heldJobS_s2) k)
theorem st46_2 (k : Nat) (rec v) : evC Try.prog ⟨52, []⟩ (F46 k) (inlN Try.prog (F46 k) 4) [] (lpAt (bodyOf Try.f46) [0]) (Kb [] [] [] S46_2 X46_2 R46_2 rec) (mkSt [] [] S46_2 v.1 v.2) = (laws_heldJobS_s2) rec v := by kernel_rfl
theorem lp46_2 (k : Nat) {c : Cx} (hP : c.P = Try.prog) (hm : c.m = ⟨52, []⟩) (hg : c.gs = []) : LoopOk c (lo46_2 k) (lpAt (bodyOf Try.f46) [0]) :=
  loop_at hP hm hg (okF46 k) (LInv.of (code := (lpAt (bodyOf Try.f46) [0])) (bs := []) (by kernel_rfl) LInv.nil) (fun rec v => st46_2 k rec v) k
theorem ev46 (k : Nat) (x) : evF Try.prog (F46 k) (inlN Try.prog (F46 k) 4) [(2, lo46_2 k)] Try.f46 (bodyOf Try.f46) (c46 k).ps (c46 k).rs (c46 k).rm x = (c46 k).m x := by kernel_rfl
theorem ok46 (k : Nat) : ConOk Try.prog (c46 k) :=
  fn_at (okF46 k) (cn := c46 k) (fn := Try.f46) (code := bodyOf Try.f46) (m := ⟨52, []⟩) (gs := []) (by kernel_rfl) (by kernel_rfl) (by kernel_rfl) (by kernel_rfl) (by kernel_rfl) (fun _ => by kernel_rfl)
    [(2, lo46_2 k)] (fun c hP hm hg => (LInv.of (code := (bodyOf Try.f46)) (bs := [(lpAt (bodyOf Try.f46) [0])]) (by kernel_rfl) (LInv.cons (b := (lpAt (bodyOf Try.f46) [0])) (by kernel_rfl) (lp46_2 k hP hm hg) LInv.nil))) (ev46 k)
def c14 (k : Nat) : Con := ⟨14, [(T_Line, false), ((.int .i64), false)], [(.int .i64)], (.own true), fun x => laws_heldLine k x.1 x.2.1⟩
def F14 (k : Nat) : List Con := [c46 k]
theorem okF14 (k : Nat) : ∀ cn ∈ F14 k, ConOk Try.prog cn := (conCons (ok46 k) conNil)
theorem ev14 (k : Nat) (x) : evF Try.prog (F14 k) (inlN Try.prog (F14 k) 4) [] Try.f14 (bodyOf Try.f14) (c14 k).ps (c14 k).rs (c14 k).rm x = (c14 k).m x := by kernel_rfl
theorem ok14 (k : Nat) : ConOk Try.prog (c14 k) :=
  fn_at (okF14 k) (cn := c14 k) (fn := Try.f14) (code := bodyOf Try.f14) (m := ⟨24, []⟩) (gs := []) (by kernel_rfl) (by kernel_rfl) (by kernel_rfl) (by kernel_rfl) (by kernel_rfl) (fun _ => by kernel_rfl)
    [] (fun c hP hm hg => (LInv.of (code := (bodyOf Try.f14)) (bs := []) (by kernel_rfl) LInv.nil)) (ev14 k)
def c15 (k : Nat) : Con := ⟨15, [((.sl T_Done), false), ((.int .i64), false)], [(.int .i64)], (.own true), fun x => laws_heldDoneS k x.1 x.2.1⟩
def F15 (k : Nat) : List Con := []
theorem okF15 (k : Nat) : ∀ cn ∈ F15 k, ConOk Try.prog cn := conNil
abbrev S15_2 : Shape := [(0, .v (.sl T_Done)), (1, .v (.int .i64)), (5, .v (.int .i64))]
abbrev X15_2 : Exit × Shape := (Exit.ret, [(4, .v (.int .i64))])
abbrev R15_2 : List (Exit × Shape) := [(Exit.exit 0, [(1, .v (.int .i64))])]
def lo15_2 (k : Nat) : LO := loopO [] [] [] S15_2 X15_2 R15_2 (iter (laws_heldDoneS_s2) k)
theorem st15_2 (k : Nat) (rec v) : evC Try.prog ⟨31, []⟩ (F15 k) (inlN Try.prog (F15 k) 4) [] (lpAt (bodyOf Try.f15) [0]) (Kb [] [] [] S15_2 X15_2 R15_2 rec) (mkSt [] [] S15_2 v.1 v.2) = (laws_heldDoneS_s2) rec v := by kernel_rfl
theorem lp15_2 (k : Nat) {c : Cx} (hP : c.P = Try.prog) (hm : c.m = ⟨31, []⟩) (hg : c.gs = []) : LoopOk c (lo15_2 k) (lpAt (bodyOf Try.f15) [0]) :=
  loop_at hP hm hg (okF15 k) (LInv.of (code := (lpAt (bodyOf Try.f15) [0])) (bs := []) (by kernel_rfl) LInv.nil) (fun rec v => st15_2 k rec v) k
theorem ev15 (k : Nat) (x) : evF Try.prog (F15 k) (inlN Try.prog (F15 k) 4) [(2, lo15_2 k)] Try.f15 (bodyOf Try.f15) (c15 k).ps (c15 k).rs (c15 k).rm x = (c15 k).m x := by kernel_rfl
theorem ok15 (k : Nat) : ConOk Try.prog (c15 k) :=
  fn_at (okF15 k) (cn := c15 k) (fn := Try.f15) (code := bodyOf Try.f15) (m := ⟨31, []⟩) (gs := []) (by kernel_rfl) (by kernel_rfl) (by kernel_rfl) (by kernel_rfl) (by kernel_rfl) (fun _ => by kernel_rfl)
    [(2, lo15_2 k)] (fun c hP hm hg => (LInv.of (code := (bodyOf Try.f15)) (bs := [(lpAt (bodyOf Try.f15) [0])]) (by kernel_rfl) (LInv.cons (b := (lpAt (bodyOf Try.f15) [0])) (by kernel_rfl) (lp15_2 k hP hm hg) LInv.nil))) (ev15 k)
def c3 (k : Nat) : Con := ⟨3, [(T_Line, false), ((.int .i64), false)], [.bool], (.own true), fun x => laws_FnExactLineRun k x.1 x.2.1⟩
def F3 (k : Nat) : List Con := [c6 k, c8 k, c7 k, c9 k, c10 k, c11 k, c45 k, c13 k, c14 k, c15 k]
theorem okF3 (k : Nat) : ∀ cn ∈ F3 k, ConOk Try.prog cn := (conCons (ok6 k) (conCons (ok8 k) (conCons (ok7 k) (conCons (ok9 k) (conCons (ok10 k) (conCons (ok11 k) (conCons (ok45 k) (conCons (ok13 k) (conCons (ok14 k) (conCons (ok15 k) conNil))))))))))
theorem ev3 (k : Nat) (x) : evF Try.prog (F3 k) (inlN Try.prog (F3 k) 4) [] Try.f3 (bodyOf Try.f3) (c3 k).ps (c3 k).rs (c3 k).rm x = (c3 k).m x := by kernel_rfl
theorem ok3 (k : Nat) : ConOk Try.prog (c3 k) :=
  fn_at (okF3 k) (cn := c3 k) (fn := Try.f3) (code := bodyOf Try.f3) (m := ⟨117, []⟩) (gs := []) (by kernel_rfl) (by kernel_rfl) (by kernel_rfl) (by kernel_rfl) (by kernel_rfl) (fun _ => by kernel_rfl)
    [] (fun c hP hm hg => (LInv.of (code := (bodyOf Try.f3)) (bs := []) (by kernel_rfl) LInv.nil)) (ev3 k)
end Go.Tw
