/- Each function is proved to answer as its mirror does. -/
import Derived.Test.YtmlhnnjekfbenaaMa
import Derived.Test.YtmlhnnjekfbenaaRows
set_option linter.all false
namespace Go.Tw
open Go Go.RowKit Go.Proofs
def c46 (k : Nat) : Con := ⟨46, [((.sl (.int .u8)), false), ((.int .i64), false)], [(.int .i64)], (.own true), fun x => laws_szByteS x.1 x.2.1⟩
def F46 (k : Nat) : List Con := []
theorem okF46 (k : Nat) : ∀ cn ∈ F46 k, ConOk Try.prog cn := conNil
theorem ev46 (k : Nat) (x) : evF Try.prog (F46 k) [] Try.f46 (bodyOf Try.f46) (c46 k).ps (c46 k).rs (c46 k).rm x = (c46 k).m x := by kernel_rfl
theorem ok46 (k : Nat) : ConOk Try.prog (c46 k) :=
  fn_at (okF46 k) (cn := c46 k) (fn := Try.f46) (code := bodyOf Try.f46) (m := ⟨12, []⟩) (by kernel_rfl) (by kernel_rfl) (by kernel_rfl) (by kernel_rfl) (by kernel_rfl) (fun _ => by kernel_rfl)
    [] (fun c hP hm hg => (LInv.of (code := (bodyOf Try.f46)) (bs := []) (by kernel_rfl) LInv.nil)) (ev46 k)
def c28 (k : Nat) : Con := ⟨28, [(T_Event, false), ((.int .i64), false)], [(.int .i64)], (.own true), fun x => laws_szEvent x.1 x.2.1⟩
def F28 (k : Nat) : List Con := [c46 k]
theorem okF28 (k : Nat) : ∀ cn ∈ F28 k, ConOk Try.prog cn := (conCons (ok46 k) conNil)
theorem ev28 (k : Nat) (x) : evF Try.prog (F28 k) [] Try.f28 (bodyOf Try.f28) (c28 k).ps (c28 k).rs (c28 k).rm x = (c28 k).m x := by kernel_rfl
theorem ok28 (k : Nat) : ConOk Try.prog (c28 k) :=
  fn_at (okF28 k) (cn := c28 k) (fn := Try.f28) (code := bodyOf Try.f28) (m := ⟨12, []⟩) (by kernel_rfl) (by kernel_rfl) (by kernel_rfl) (by kernel_rfl) (by kernel_rfl) (fun _ => by kernel_rfl)
    [] (fun c hP hm hg => (LInv.of (code := (bodyOf Try.f28)) (bs := []) (by kernel_rfl) LInv.nil)) (ev28 k)
def c7 (k : Nat) : Con := ⟨7, [((.sl T_Event), false), ((.int .i64), false)], [(.int .i64)], (.own true), fun x => laws_szEventS k x.1 x.2.1⟩
def F7 (k : Nat) : List Con := [c28 k]
theorem okF7 (k : Nat) : ∀ cn ∈ F7 k, ConOk Try.prog cn := (conCons (ok28 k) conNil)
abbrev S7_5 : Shape := [(0, .v (.sl T_Event)), (1, .v (.int .i64)), (5, .v (.int .i64))]
abbrev X7_5 : Exit × Shape := (Exit.ret, [(4, .v (.int .i64))])
abbrev R7_5 : List (Exit × Shape) := [(Exit.exit 0, [(1, .v (.int .i64))])]
def lo7_5 (k : Nat) : LO := loopO [] [] [] S7_5 X7_5 R7_5 (iter (laws_szEventS_s5) k)
theorem st7_5 (k : Nat) (rec v) : evC Try.prog ⟨27, []⟩ (F7 k) [] (lpAt (bodyOf Try.f7) [0]) (Kb [] [] [] S7_5 X7_5 R7_5 rec) (mkSt [] [] S7_5 v.1 v.2) = (laws_szEventS_s5) rec v := by kernel_rfl
theorem lp7_5 (k : Nat) {c : Cx} (hP : c.P = Try.prog) (hm : c.m = ⟨27, []⟩) (hg : c.gs = []) : LoopOk c (lo7_5 k) (lpAt (bodyOf Try.f7) [0]) :=
  loop_at hP hm hg (okF7 k) (LInv.of (code := (lpAt (bodyOf Try.f7) [0])) (bs := []) (by kernel_rfl) LInv.nil) (fun rec v => st7_5 k rec v) k
theorem ev7 (k : Nat) (x) : evF Try.prog (F7 k) [(5, lo7_5 k)] Try.f7 (bodyOf Try.f7) (c7 k).ps (c7 k).rs (c7 k).rm x = (c7 k).m x := by kernel_rfl
theorem ok7 (k : Nat) : ConOk Try.prog (c7 k) :=
  fn_at (okF7 k) (cn := c7 k) (fn := Try.f7) (code := bodyOf Try.f7) (m := ⟨27, []⟩) (by kernel_rfl) (by kernel_rfl) (by kernel_rfl) (by kernel_rfl) (by kernel_rfl) (fun _ => by kernel_rfl)
    [(5, lo7_5 k)] (fun c hP hm hg => (LInv.of (code := (bodyOf Try.f7)) (bs := [(lpAt (bodyOf Try.f7) [0])]) (by kernel_rfl) (LInv.cons (b := (lpAt (bodyOf Try.f7) [0])) (by kernel_rfl) (lp7_5 k hP hm hg) LInv.nil))) (ev7 k)
def c47 (k : Nat) : Con := ⟨47, [((.sl (.int .u8)), false)], [(.sl (.int .u8))], (.own true), fun x => laws_toByteS k x.1⟩
def F47 (k : Nat) : List Con := []
theorem okF47 (k : Nat) : ∀ cn ∈ F47 k, ConOk Try.prog cn := conNil
abbrev S47_3 : Shape := [(0, .v (.sl (.int .u8))), (3, .own true (.sl (.int .u8))), (4, .v (.int .i64))]
abbrev X47_3 : Exit × Shape := (Exit.exit 0, [(3, .own true (.sl (.int .u8)))])
abbrev R47_3 : List (Exit × Shape) := []
def lo47_3 (k : Nat) : LO := loopO [] [] [] S47_3 X47_3 R47_3 (iter (laws_toByteS_s3) k)
theorem st47_3 (k : Nat) (rec v) : evC Try.prog ⟨22, []⟩ (F47 k) [] (lpAt (bodyOf Try.f47) [0]) (Kb [] [] [] S47_3 X47_3 R47_3 rec) (mkSt [] [] S47_3 v.1 v.2) = (laws_toByteS_s3) rec v := by kernel_rfl
theorem lp47_3 (k : Nat) {c : Cx} (hP : c.P = Try.prog) (hm : c.m = ⟨22, []⟩) (hg : c.gs = []) : LoopOk c (lo47_3 k) (lpAt (bodyOf Try.f47) [0]) :=
  loop_at hP hm hg (okF47 k) (LInv.of (code := (lpAt (bodyOf Try.f47) [0])) (bs := []) (by kernel_rfl) LInv.nil) (fun rec v => st47_3 k rec v) k
theorem ev47 (k : Nat) (x) : evF Try.prog (F47 k) [(3, lo47_3 k)] Try.f47 (bodyOf Try.f47) (c47 k).ps (c47 k).rs (c47 k).rm x = (c47 k).m x := by kernel_rfl
theorem ok47 (k : Nat) : ConOk Try.prog (c47 k) :=
  fn_at (okF47 k) (cn := c47 k) (fn := Try.f47) (code := bodyOf Try.f47) (m := ⟨22, []⟩) (by kernel_rfl) (by kernel_rfl) (by kernel_rfl) (by kernel_rfl) (by kernel_rfl) (fun _ => by kernel_rfl)
    [(3, lo47_3 k)] (fun c hP hm hg => (LInv.of (code := (bodyOf Try.f47)) (bs := [(lpAt (bodyOf Try.f47) [0])]) (by kernel_rfl) (LInv.cons (b := (lpAt (bodyOf Try.f47) [0])) (by kernel_rfl) (lp47_3 k hP hm hg) LInv.nil))) (ev47 k)
def c48 (k : Nat) : Con := ⟨48, [(T_Vec, false)], [T_Vec], (.own true), fun x => laws_toVec x.1⟩
def F48 (k : Nat) : List Con := []
theorem okF48 (k : Nat) : ∀ cn ∈ F48 k, ConOk Try.prog cn := conNil
theorem ev48 (k : Nat) (x) : evF Try.prog (F48 k) [] Try.f48 (bodyOf Try.f48) (c48 k).ps (c48 k).rs (c48 k).rm x = (c48 k).m x := by kernel_rfl
theorem ok48 (k : Nat) : ConOk Try.prog (c48 k) :=
  fn_at (okF48 k) (cn := c48 k) (fn := Try.f48) (code := bodyOf Try.f48) (m := ⟨14, []⟩) (by kernel_rfl) (by kernel_rfl) (by kernel_rfl) (by kernel_rfl) (by kernel_rfl) (fun _ => by kernel_rfl)
    [] (fun c hP hm hg => (LInv.of (code := (bodyOf Try.f48)) (bs := []) (by kernel_rfl) LInv.nil)) (ev48 k)
def c29 (k : Nat) : Con := ⟨29, [(T_Event, false)], [T_Event], (.own true), fun x => laws_toEvent k x.1⟩
def F29 (k : Nat) : List Con := [c47 k, c48 k]
theorem okF29 (k : Nat) : ∀ cn ∈ F29 k, ConOk Try.prog cn := (conCons (ok47 k) (conCons (ok48 k) conNil))
theorem ev29 (k : Nat) (x) : evF Try.prog (F29 k) [] Try.f29 (bodyOf Try.f29) (c29 k).ps (c29 k).rs (c29 k).rm x = (c29 k).m x := by kernel_rfl
theorem ok29 (k : Nat) : ConOk Try.prog (c29 k) :=
  fn_at (okF29 k) (cn := c29 k) (fn := Try.f29) (code := bodyOf Try.f29) (m := ⟨19, []⟩) (by kernel_rfl) (by kernel_rfl) (by kernel_rfl) (by kernel_rfl) (by kernel_rfl) (fun _ => by kernel_rfl)
    [] (fun c hP hm hg => (LInv.of (code := (bodyOf Try.f29)) (bs := []) (by kernel_rfl) LInv.nil)) (ev29 k)
def c9 (k : Nat) : Con := ⟨9, [((.sl T_Event), false)], [(.sl T_Event)], (.own true), fun x => laws_toEventS k x.1⟩
def F9 (k : Nat) : List Con := [c29 k]
theorem okF9 (k : Nat) : ∀ cn ∈ F9 k, ConOk Try.prog cn := (conCons (ok29 k) conNil)
abbrev S9_3 : Shape := [(0, .v (.sl T_Event)), (3, .own true (.sl T_Event)), (4, .v (.int .i64))]
abbrev X9_3 : Exit × Shape := (Exit.exit 0, [(3, .own true (.sl T_Event))])
abbrev R9_3 : List (Exit × Shape) := []
def lo9_3 (k : Nat) : LO := loopO [] [] [] S9_3 X9_3 R9_3 (iter (laws_toEventS_s3 k) k)
theorem st9_3 (k : Nat) (rec v) : evC Try.prog ⟨23, []⟩ (F9 k) [] (lpAt (bodyOf Try.f9) [0]) (Kb [] [] [] S9_3 X9_3 R9_3 rec) (mkSt [] [] S9_3 v.1 v.2) = (laws_toEventS_s3 k) rec v := by kernel_rfl
theorem lp9_3 (k : Nat) {c : Cx} (hP : c.P = Try.prog) (hm : c.m = ⟨23, []⟩) (hg : c.gs = []) : LoopOk c (lo9_3 k) (lpAt (bodyOf Try.f9) [0]) :=
  loop_at hP hm hg (okF9 k) (LInv.of (code := (lpAt (bodyOf Try.f9) [0])) (bs := []) (by kernel_rfl) LInv.nil) (fun rec v => st9_3 k rec v) k
theorem ev9 (k : Nat) (x) : evF Try.prog (F9 k) [(3, lo9_3 k)] Try.f9 (bodyOf Try.f9) (c9 k).ps (c9 k).rs (c9 k).rm x = (c9 k).m x := by kernel_rfl
theorem ok9 (k : Nat) : ConOk Try.prog (c9 k) :=
  fn_at (okF9 k) (cn := c9 k) (fn := Try.f9) (code := bodyOf Try.f9) (m := ⟨23, []⟩) (by kernel_rfl) (by kernel_rfl) (by kernel_rfl) (by kernel_rfl) (by kernel_rfl) (fun _ => by kernel_rfl)
    [(3, lo9_3 k)] (fun c hP hm hg => (LInv.of (code := (bodyOf Try.f9)) (bs := [(lpAt (bodyOf Try.f9) [0])]) (by kernel_rfl) (LInv.cons (b := (lpAt (bodyOf Try.f9) [0])) (by kernel_rfl) (lp9_3 k hP hm hg) LInv.nil))) (ev9 k)
def c8 (k : Nat) : Con := ⟨8, [((.sl T_Event), false)], [.bool], (.own true), fun x => spec_EventsOk k x.1⟩
def F8 (k : Nat) : List Con := []
theorem okF8 (k : Nat) : ∀ cn ∈ F8 k, ConOk Try.prog cn := conNil
abbrev S8_5 : Shape := [(0, .v (.sl T_Event)), (3, .v (.int .i64)), (4, .v (.int .i64))]
abbrev X8_5 : Exit × Shape := (Exit.ret, [(2, .v .bool)])
abbrev R8_5 : List (Exit × Shape) := [(Exit.exit 0, [])]
def lo8_5 (k : Nat) : LO := loopO [] [] [] S8_5 X8_5 R8_5 (iter (spec_EventsOk_s5) k)
theorem st8_5 (k : Nat) (rec v) : evC Try.prog ⟨86, []⟩ (F8 k) [] (lpAt (bodyOf Try.f8) [0]) (Kb [] [] [] S8_5 X8_5 R8_5 rec) (mkSt [] [] S8_5 v.1 v.2) = (spec_EventsOk_s5) rec v := by kernel_rfl
theorem lp8_5 (k : Nat) {c : Cx} (hP : c.P = Try.prog) (hm : c.m = ⟨86, []⟩) (hg : c.gs = []) : LoopOk c (lo8_5 k) (lpAt (bodyOf Try.f8) [0]) :=
  loop_at hP hm hg (okF8 k) (LInv.of (code := (lpAt (bodyOf Try.f8) [0])) (bs := []) (by kernel_rfl) LInv.nil) (fun rec v => st8_5 k rec v) k
theorem ev8 (k : Nat) (x) : evF Try.prog (F8 k) [(5, lo8_5 k)] Try.f8 (bodyOf Try.f8) (c8 k).ps (c8 k).rs (c8 k).rm x = (c8 k).m x := by kernel_rfl
theorem ok8 (k : Nat) : ConOk Try.prog (c8 k) :=
  fn_at (okF8 k) (cn := c8 k) (fn := Try.f8) (code := bodyOf Try.f8) (m := ⟨86, []⟩) (by kernel_rfl) (by kernel_rfl) (by kernel_rfl) (by kernel_rfl) (by kernel_rfl) (fun _ => by kernel_rfl)
    [(5, lo8_5 k)] (fun c hP hm hg => (LInv.of (code := (bodyOf Try.f8)) (bs := [(lpAt (bodyOf Try.f8) [0])]) (by kernel_rfl) (LInv.cons (b := (lpAt (bodyOf Try.f8) [0])) (by kernel_rfl) (lp8_5 k hP hm hg) LInv.nil))) (ev8 k)
def c37 (k : Nat) : Con := ⟨37, [((.int .i64), false), ((.int .i64), false), ((.int .i64), false)], [.bool], (.own true), fun x => impl_within x.1 x.2.1 x.2.2.1⟩
def F37 (k : Nat) : List Con := []
theorem okF37 (k : Nat) : ∀ cn ∈ F37 k, ConOk Try.prog cn := conNil
theorem ev37 (k : Nat) (x) : evF Try.prog (F37 k) [] Try.f37 (bodyOf Try.f37) (c37 k).ps (c37 k).rs (c37 k).rm x = (c37 k).m x := by kernel_rfl
theorem ok37 (k : Nat) : ConOk Try.prog (c37 k) :=
  fn_at (okF37 k) (cn := c37 k) (fn := Try.f37) (code := bodyOf Try.f37) (m := ⟨15, []⟩) (by kernel_rfl) (by kernel_rfl) (by kernel_rfl) (by kernel_rfl) (by kernel_rfl) (fun _ => by kernel_rfl)
    [] (fun c hP hm hg => (LInv.of (code := (bodyOf Try.f37)) (bs := []) (by kernel_rfl) LInv.nil)) (ev37 k)
def c30 (k : Nat) : Con := ⟨30, [(T_Event, false)], [.bool], (.own true), fun x => impl_eventOk x.1⟩
def F30 (k : Nat) : List Con := [c37 k]
theorem okF30 (k : Nat) : ∀ cn ∈ F30 k, ConOk Try.prog cn := (conCons (ok37 k) conNil)
theorem ev30 (k : Nat) (x) : evF Try.prog (F30 k) [] Try.f30 (bodyOf Try.f30) (c30 k).ps (c30 k).rs (c30 k).rm x = (c30 k).m x := by kernel_rfl
theorem ok30 (k : Nat) : ConOk Try.prog (c30 k) :=
  fn_at (okF30 k) (cn := c30 k) (fn := Try.f30) (code := bodyOf Try.f30) (m := ⟨67, []⟩) (by kernel_rfl) (by kernel_rfl) (by kernel_rfl) (by kernel_rfl) (by kernel_rfl) (fun _ => by kernel_rfl)
    [] (fun c hP hm hg => (LInv.of (code := (bodyOf Try.f30)) (bs := []) (by kernel_rfl) LInv.nil)) (ev30 k)
def c10 (k : Nat) : Con := ⟨10, [((.sl T_Event), false)], [.bool], (.own true), fun x => impl_EventsOk k x.1⟩
def F10 (k : Nat) : List Con := [c30 k]
theorem okF10 (k : Nat) : ∀ cn ∈ F10 k, ConOk Try.prog cn := (conCons (ok30 k) conNil)
abbrev S10_3 : Shape := [(0, .v (.sl T_Event)), (3, .v (.int .i64)), (6, .v (.sl T_Event)), (7, .v (.int .i64)), (8, .v (.int .i64))]
abbrev X10_3 : Exit × Shape := (Exit.ret, [(2, .v .bool)])
abbrev R10_3 : List (Exit × Shape) := [(Exit.exit 0, [(0, .v (.sl T_Event)), (3, .v (.int .i64))])]
def lo10_3 (k : Nat) : LO := loopO [] [] [] S10_3 X10_3 R10_3 (iter (impl_EventsOk_s3) k)
theorem st10_3 (k : Nat) (rec v) : evC Try.prog ⟨27, []⟩ (F10 k) [] (lpAt (bodyOf Try.f10) [0]) (Kb [] [] [] S10_3 X10_3 R10_3 rec) (mkSt [] [] S10_3 v.1 v.2) = (impl_EventsOk_s3) rec v := by kernel_rfl
theorem lp10_3 (k : Nat) {c : Cx} (hP : c.P = Try.prog) (hm : c.m = ⟨27, []⟩) (hg : c.gs = []) : LoopOk c (lo10_3 k) (lpAt (bodyOf Try.f10) [0]) :=
  loop_at hP hm hg (okF10 k) (LInv.of (code := (lpAt (bodyOf Try.f10) [0])) (bs := []) (by kernel_rfl) LInv.nil) (fun rec v => st10_3 k rec v) k
theorem ev10 (k : Nat) (x) : evF Try.prog (F10 k) [(3, lo10_3 k)] Try.f10 (bodyOf Try.f10) (c10 k).ps (c10 k).rs (c10 k).rm x = (c10 k).m x := by kernel_rfl
theorem ok10 (k : Nat) : ConOk Try.prog (c10 k) :=
  fn_at (okF10 k) (cn := c10 k) (fn := Try.f10) (code := bodyOf Try.f10) (m := ⟨27, []⟩) (by kernel_rfl) (by kernel_rfl) (by kernel_rfl) (by kernel_rfl) (by kernel_rfl) (fun _ => by kernel_rfl)
    [(3, lo10_3 k)] (fun c hP hm hg => (LInv.of (code := (bodyOf Try.f10)) (bs := [(lpAt (bodyOf Try.f10) [0])]) (by kernel_rfl) (LInv.cons (b := (lpAt (bodyOf Try.f10) [0])) (by kernel_rfl) (lp10_3 k hP hm hg) LInv.nil))) (ev10 k)
def c49 (k : Nat) : Con := ⟨49, [((.sl (.int .u8)), false), ((.sl (.int .u8)), false)], [.bool], (.own true), fun x => laws_eqByteS k x.1 x.2.1⟩
def F49 (k : Nat) : List Con := []
theorem okF49 (k : Nat) : ∀ cn ∈ F49 k, ConOk Try.prog cn := conNil
abbrev S49_4 : Shape := [(0, .v (.sl (.int .u8))), (1, .v (.sl (.int .u8))), (5, .v (.int .i64))]
abbrev X49_4 : Exit × Shape := (Exit.ret, [(4, .v .bool)])
abbrev R49_4 : List (Exit × Shape) := [(Exit.exit 0, [])]
def lo49_4 (k : Nat) : LO := loopO [] [] [] S49_4 X49_4 R49_4 (iter (laws_eqByteS_s4) k)
theorem st49_4 (k : Nat) (rec v) : evC Try.prog ⟨26, []⟩ (F49 k) [] (lpAt (bodyOf Try.f49) [0]) (Kb [] [] [] S49_4 X49_4 R49_4 rec) (mkSt [] [] S49_4 v.1 v.2) = (laws_eqByteS_s4) rec v := by kernel_rfl
theorem lp49_4 (k : Nat) {c : Cx} (hP : c.P = Try.prog) (hm : c.m = ⟨26, []⟩) (hg : c.gs = []) : LoopOk c (lo49_4 k) (lpAt (bodyOf Try.f49) [0]) :=
  loop_at hP hm hg (okF49 k) (LInv.of (code := (lpAt (bodyOf Try.f49) [0])) (bs := []) (by kernel_rfl) LInv.nil) (fun rec v => st49_4 k rec v) k
theorem ev49 (k : Nat) (x) : evF Try.prog (F49 k) [(4, lo49_4 k)] Try.f49 (bodyOf Try.f49) (c49 k).ps (c49 k).rs (c49 k).rm x = (c49 k).m x := by kernel_rfl
theorem ok49 (k : Nat) : ConOk Try.prog (c49 k) :=
  fn_at (okF49 k) (cn := c49 k) (fn := Try.f49) (code := bodyOf Try.f49) (m := ⟨26, []⟩) (by kernel_rfl) (by kernel_rfl) (by kernel_rfl) (by kernel_rfl) (by kernel_rfl) (fun _ => by kernel_rfl)
    [(4, lo49_4 k)] (fun c hP hm hg => (LInv.of (code := (bodyOf Try.f49)) (bs := [(lpAt (bodyOf Try.f49) [0])]) (by kernel_rfl) (LInv.cons (b := (lpAt (bodyOf Try.f49) [0])) (by kernel_rfl) (lp49_4 k hP hm hg) LInv.nil))) (ev49 k)
def c50 (k : Nat) : Con := ⟨50, [(T_Vec, false), (T_Vec, false)], [.bool], (.own true), fun x => laws_eqVec x.1 x.2.1⟩
def F50 (k : Nat) : List Con := []
theorem okF50 (k : Nat) : ∀ cn ∈ F50 k, ConOk Try.prog cn := conNil
theorem ev50 (k : Nat) (x) : evF Try.prog (F50 k) [] Try.f50 (bodyOf Try.f50) (c50 k).ps (c50 k).rs (c50 k).rm x = (c50 k).m x := by kernel_rfl
theorem ok50 (k : Nat) : ConOk Try.prog (c50 k) :=
  fn_at (okF50 k) (cn := c50 k) (fn := Try.f50) (code := bodyOf Try.f50) (m := ⟨20, []⟩) (by kernel_rfl) (by kernel_rfl) (by kernel_rfl) (by kernel_rfl) (by kernel_rfl) (fun _ => by kernel_rfl)
    [] (fun c hP hm hg => (LInv.of (code := (bodyOf Try.f50)) (bs := []) (by kernel_rfl) LInv.nil)) (ev50 k)
def c31 (k : Nat) : Con := ⟨31, [(T_Event, false), (T_Event, false)], [.bool], (.own true), fun x => laws_eqEvent k x.1 x.2.1⟩
def F31 (k : Nat) : List Con := [c49 k, c50 k]
theorem okF31 (k : Nat) : ∀ cn ∈ F31 k, ConOk Try.prog cn := (conCons (ok49 k) (conCons (ok50 k) conNil))
theorem ev31 (k : Nat) (x) : evF Try.prog (F31 k) [] Try.f31 (bodyOf Try.f31) (c31 k).ps (c31 k).rs (c31 k).rm x = (c31 k).m x := by kernel_rfl
theorem ok31 (k : Nat) : ConOk Try.prog (c31 k) :=
  fn_at (okF31 k) (cn := c31 k) (fn := Try.f31) (code := bodyOf Try.f31) (m := ⟨27, []⟩) (by kernel_rfl) (by kernel_rfl) (by kernel_rfl) (by kernel_rfl) (by kernel_rfl) (fun _ => by kernel_rfl)
    [] (fun c hP hm hg => (LInv.of (code := (bodyOf Try.f31)) (bs := []) (by kernel_rfl) LInv.nil)) (ev31 k)
def c11 (k : Nat) : Con := ⟨11, [((.sl T_Event), false), ((.sl T_Event), false)], [.bool], (.own true), fun x => laws_eqEventS k x.1 x.2.1⟩
def F11 (k : Nat) : List Con := [c31 k]
theorem okF11 (k : Nat) : ∀ cn ∈ F11 k, ConOk Try.prog cn := (conCons (ok31 k) conNil)
abbrev S11_4 : Shape := [(0, .v (.sl T_Event)), (1, .v (.sl T_Event)), (5, .v (.int .i64))]
abbrev X11_4 : Exit × Shape := (Exit.ret, [(4, .v .bool)])
abbrev R11_4 : List (Exit × Shape) := [(Exit.exit 0, [])]
def lo11_4 (k : Nat) : LO := loopO [] [] [] S11_4 X11_4 R11_4 (iter (laws_eqEventS_s4 k) k)
theorem st11_4 (k : Nat) (rec v) : evC Try.prog ⟨27, []⟩ (F11 k) [] (lpAt (bodyOf Try.f11) [0]) (Kb [] [] [] S11_4 X11_4 R11_4 rec) (mkSt [] [] S11_4 v.1 v.2) = (laws_eqEventS_s4 k) rec v := by kernel_rfl
theorem lp11_4 (k : Nat) {c : Cx} (hP : c.P = Try.prog) (hm : c.m = ⟨27, []⟩) (hg : c.gs = []) : LoopOk c (lo11_4 k) (lpAt (bodyOf Try.f11) [0]) :=
  loop_at hP hm hg (okF11 k) (LInv.of (code := (lpAt (bodyOf Try.f11) [0])) (bs := []) (by kernel_rfl) LInv.nil) (fun rec v => st11_4 k rec v) k
theorem ev11 (k : Nat) (x) : evF Try.prog (F11 k) [(4, lo11_4 k)] Try.f11 (bodyOf Try.f11) (c11 k).ps (c11 k).rs (c11 k).rm x = (c11 k).m x := by kernel_rfl
theorem ok11 (k : Nat) : ConOk Try.prog (c11 k) :=
  fn_at (okF11 k) (cn := c11 k) (fn := Try.f11) (code := bodyOf Try.f11) (m := ⟨27, []⟩) (by kernel_rfl) (by kernel_rfl) (by kernel_rfl) (by kernel_rfl) (by kernel_rfl) (fun _ => by kernel_rfl)
    [(4, lo11_4 k)] (fun c hP hm hg => (LInv.of (code := (bodyOf Try.f11)) (bs := [(lpAt (bodyOf Try.f11) [0])]) (by kernel_rfl) (LInv.cons (b := (lpAt (bodyOf Try.f11) [0])) (by kernel_rfl) (lp11_4 k hP hm hg) LInv.nil))) (ev11 k)
def c3 (k : Nat) : Con := ⟨3, [((.sl T_Event), false)], [.bool], (.own true), fun x => laws_FnExactEventsOk k x.1⟩
def F3 (k : Nat) : List Con := [c7 k, c9 k, c8 k, c10 k, c11 k]
theorem okF3 (k : Nat) : ∀ cn ∈ F3 k, ConOk Try.prog cn := (conCons (ok7 k) (conCons (ok9 k) (conCons (ok8 k) (conCons (ok10 k) (conCons (ok11 k) conNil)))))
theorem ev3 (k : Nat) (x) : evF Try.prog (F3 k) [] Try.f3 (bodyOf Try.f3) (c3 k).ps (c3 k).rs (c3 k).rm x = (c3 k).m x := by kernel_rfl
theorem ok3 (k : Nat) : ConOk Try.prog (c3 k) :=
  fn_at (okF3 k) (cn := c3 k) (fn := Try.f3) (code := bodyOf Try.f3) (m := ⟨27, []⟩) (by kernel_rfl) (by kernel_rfl) (by kernel_rfl) (by kernel_rfl) (by kernel_rfl) (fun _ => by kernel_rfl)
    [] (fun c hP hm hg => (LInv.of (code := (bodyOf Try.f3)) (bs := []) (by kernel_rfl) LInv.nil)) (ev3 k)
def c32 (k : Nat) : Con := ⟨32, [((.sl T_Event), false), ((.int .i64), false)], [(.int .i64)], (.own true), fun x => spec_l24Frame k x.1 x.2.1⟩
def F32 (k : Nat) : List Con := []
theorem okF32 (k : Nat) : ∀ cn ∈ F32 k, ConOk Try.prog cn := conNil
abbrev S32_3 : Shape := [(0, .v (.sl T_Event)), (1, .v (.int .i64)), (5, .v (.int .i64)), (6, .v (.int .i64))]
abbrev X32_3 : Exit × Shape := (Exit.ret, [(4, .v (.int .i64))])
abbrev R32_3 : List (Exit × Shape) := [(Exit.exit 0, [])]
def lo32_3 (k : Nat) : LO := loopO [] [] [] S32_3 X32_3 R32_3 (iter (spec_l24Frame_s3) k)
theorem st32_3 (k : Nat) (rec v) : evC Try.prog ⟨25, []⟩ (F32 k) [] (lpAt (bodyOf Try.f32) [0]) (Kb [] [] [] S32_3 X32_3 R32_3 rec) (mkSt [] [] S32_3 v.1 v.2) = (spec_l24Frame_s3) rec v := by kernel_rfl
theorem lp32_3 (k : Nat) {c : Cx} (hP : c.P = Try.prog) (hm : c.m = ⟨25, []⟩) (hg : c.gs = []) : LoopOk c (lo32_3 k) (lpAt (bodyOf Try.f32) [0]) :=
  loop_at hP hm hg (okF32 k) (LInv.of (code := (lpAt (bodyOf Try.f32) [0])) (bs := []) (by kernel_rfl) LInv.nil) (fun rec v => st32_3 k rec v) k
theorem ev32 (k : Nat) (x) : evF Try.prog (F32 k) [(3, lo32_3 k)] Try.f32 (bodyOf Try.f32) (c32 k).ps (c32 k).rs (c32 k).rm x = (c32 k).m x := by kernel_rfl
theorem ok32 (k : Nat) : ConOk Try.prog (c32 k) :=
  fn_at (okF32 k) (cn := c32 k) (fn := Try.f32) (code := bodyOf Try.f32) (m := ⟨25, []⟩) (by kernel_rfl) (by kernel_rfl) (by kernel_rfl) (by kernel_rfl) (by kernel_rfl) (fun _ => by kernel_rfl)
    [(3, lo32_3 k)] (fun c hP hm hg => (LInv.of (code := (bodyOf Try.f32)) (bs := [(lpAt (bodyOf Try.f32) [0])]) (by kernel_rfl) (LInv.cons (b := (lpAt (bodyOf Try.f32) [0])) (by kernel_rfl) (lp32_3 k hP hm hg) LInv.nil))) (ev32 k)
def c12 (k : Nat) : Con := ⟨12, [((.sl T_Event), false), ((.int .i64), false)], [(.int .i64)], (.own true), fun x => spec_FrameAt k x.1 x.2.1⟩
def F12 (k : Nat) : List Con := [c8 k, c32 k]
theorem okF12 (k : Nat) : ∀ cn ∈ F12 k, ConOk Try.prog cn := (conCons (ok8 k) (conCons (ok32 k) conNil))
theorem ev12 (k : Nat) (x) : evF Try.prog (F12 k) [] Try.f12 (bodyOf Try.f12) (c12 k).ps (c12 k).rs (c12 k).rm x = (c12 k).m x := by kernel_rfl
theorem ok12 (k : Nat) : ConOk Try.prog (c12 k) :=
  fn_at (okF12 k) (cn := c12 k) (fn := Try.f12) (code := bodyOf Try.f12) (m := ⟨11, []⟩) (by kernel_rfl) (by kernel_rfl) (by kernel_rfl) (by kernel_rfl) (by kernel_rfl) (fun _ => by kernel_rfl)
    [] (fun c hP hm hg => (LInv.of (code := (bodyOf Try.f12)) (bs := []) (by kernel_rfl) LInv.nil)) (ev12 k)
def c33 (k : Nat) : Con := ⟨33, [((.sl T_Event), false), ((.int .i64), false)], [(.int .i64)], (.own true), fun x => impl_frameAt k x.1 x.2.1⟩
def F33 (k : Nat) : List Con := []
theorem okF33 (k : Nat) : ∀ cn ∈ F33 k, ConOk Try.prog cn := conNil
abbrev S33_2 : Shape := [(1, .v (.int .i64)), (7, .v (.sl T_Event)), (8, .v (.int .i64)), (9, .v (.int .i64))]
abbrev X33_2 : Exit × Shape := (Exit.ret, [(4, .v (.int .i64))])
abbrev R33_2 : List (Exit × Shape) := [(Exit.exit 0, [])]
def lo33_2 (k : Nat) : LO := loopO [] [] [] S33_2 X33_2 R33_2 (iter (impl_frameAt_s2) k)
theorem st33_2 (k : Nat) (rec v) : evC Try.prog ⟨23, []⟩ (F33 k) [] (lpAt (bodyOf Try.f33) [0]) (Kb [] [] [] S33_2 X33_2 R33_2 rec) (mkSt [] [] S33_2 v.1 v.2) = (impl_frameAt_s2) rec v := by kernel_rfl
theorem lp33_2 (k : Nat) {c : Cx} (hP : c.P = Try.prog) (hm : c.m = ⟨23, []⟩) (hg : c.gs = []) : LoopOk c (lo33_2 k) (lpAt (bodyOf Try.f33) [0]) :=
  loop_at hP hm hg (okF33 k) (LInv.of (code := (lpAt (bodyOf Try.f33) [0])) (bs := []) (by kernel_rfl) LInv.nil) (fun rec v => st33_2 k rec v) k
theorem ev33 (k : Nat) (x) : evF Try.prog (F33 k) [(2, lo33_2 k)] Try.f33 (bodyOf Try.f33) (c33 k).ps (c33 k).rs (c33 k).rm x = (c33 k).m x := by kernel_rfl
theorem ok33 (k : Nat) : ConOk Try.prog (c33 k) :=
  fn_at (okF33 k) (cn := c33 k) (fn := Try.f33) (code := bodyOf Try.f33) (m := ⟨23, []⟩) (by kernel_rfl) (by kernel_rfl) (by kernel_rfl) (by kernel_rfl) (by kernel_rfl) (fun _ => by kernel_rfl)
    [(2, lo33_2 k)] (fun c hP hm hg => (LInv.of (code := (bodyOf Try.f33)) (bs := [(lpAt (bodyOf Try.f33) [0])]) (by kernel_rfl) (LInv.cons (b := (lpAt (bodyOf Try.f33) [0])) (by kernel_rfl) (lp33_2 k hP hm hg) LInv.nil))) (ev33 k)
def c13 (k : Nat) : Con := ⟨13, [((.sl T_Event), false), ((.int .i64), false)], [(.int .i64)], (.own true), fun x => impl_FrameAt k x.1 x.2.1⟩
def F13 (k : Nat) : List Con := [c10 k, c33 k]
theorem okF13 (k : Nat) : ∀ cn ∈ F13 k, ConOk Try.prog cn := (conCons (ok10 k) (conCons (ok33 k) conNil))
theorem ev13 (k : Nat) (x) : evF Try.prog (F13 k) [] Try.f13 (bodyOf Try.f13) (c13 k).ps (c13 k).rs (c13 k).rm x = (c13 k).m x := by kernel_rfl
theorem ok13 (k : Nat) : ConOk Try.prog (c13 k) :=
  fn_at (okF13 k) (cn := c13 k) (fn := Try.f13) (code := bodyOf Try.f13) (m := ⟨11, []⟩) (by kernel_rfl) (by kernel_rfl) (by kernel_rfl) (by kernel_rfl) (by kernel_rfl) (fun _ => by kernel_rfl)
    [] (fun c hP hm hg => (LInv.of (code := (bodyOf Try.f13)) (bs := []) (by kernel_rfl) LInv.nil)) (ev13 k)
def c4 (k : Nat) : Con := ⟨4, [((.sl T_Event), false), ((.int .i64), false)], [.bool], (.own true), fun x => laws_FnExactFrameAt k x.1 x.2.1⟩
def F4 (k : Nat) : List Con := [c7 k, c9 k, c12 k, c13 k, c11 k]
theorem okF4 (k : Nat) : ∀ cn ∈ F4 k, ConOk Try.prog cn := (conCons (ok7 k) (conCons (ok9 k) (conCons (ok12 k) (conCons (ok13 k) (conCons (ok11 k) conNil)))))
theorem ev4 (k : Nat) (x) : evF Try.prog (F4 k) [] Try.f4 (bodyOf Try.f4) (c4 k).ps (c4 k).rs (c4 k).rm x = (c4 k).m x := by kernel_rfl
theorem ok4 (k : Nat) : ConOk Try.prog (c4 k) :=
  fn_at (okF4 k) (cn := c4 k) (fn := Try.f4) (code := bodyOf Try.f4) (m := ⟨31, []⟩) (by kernel_rfl) (by kernel_rfl) (by kernel_rfl) (by kernel_rfl) (by kernel_rfl) (fun _ => by kernel_rfl)
    [] (fun c hP hm hg => (LInv.of (code := (bodyOf Try.f4)) (bs := []) (by kernel_rfl) LInv.nil)) (ev4 k)
end Go.Tw
