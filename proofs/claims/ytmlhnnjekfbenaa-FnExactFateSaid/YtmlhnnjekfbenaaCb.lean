/- Each function is proved to answer as its mirror does. -/
import Derived.Test.YtmlhnnjekfbenaaMb
import Derived.Test.YtmlhnnjekfbenaaRows
set_option linter.all false
namespace Go.Tw
open Go Go.RowKit Go.Proofs
def c46 (k : Nat) : Con := ⟨46, [((.sl (.int .u8)), false), ((.int .i64), false)], [(.int .i64)], (.own true), fun x => laws_szByteS x.1 x.2.1⟩
def F46 (k : Nat) : List Con := []
theorem okF46 (k : Nat) : ∀ cn ∈ F46 k, ConOk Try.prog cn := conNil
theorem ev46 (k : Nat) (x) : evF Try.prog (F46 k) [] Try.f46 (bodyOf Try.f46) (c46 k).ps (c46 k).rs (c46 k).rm x = (c46 k).m x := by kernel_rfl
theorem ok46 (k : Nat) : ConOk Try.prog (c46 k) :=
  fn_at (okF46 k) (cn := c46 k) (fn := Try.f46) (code := bodyOf Try.f46) (m := ⟨12, []⟩) (gs := []) (by kernel_rfl) (by kernel_rfl) (by kernel_rfl) (by kernel_rfl) (by kernel_rfl) (fun _ => by kernel_rfl)
    [] (fun c hP hm hg => (LInv.of (code := (bodyOf Try.f46)) (bs := []) (by kernel_rfl) LInv.nil)) (ev46 k)
def c28 (k : Nat) : Con := ⟨28, [(T_Event, false), ((.int .i64), false)], [(.int .i64)], (.own true), fun x => laws_szEvent x.1 x.2.1⟩
def F28 (k : Nat) : List Con := [c46 k]
theorem okF28 (k : Nat) : ∀ cn ∈ F28 k, ConOk Try.prog cn := (conCons (ok46 k) conNil)
theorem ev28 (k : Nat) (x) : evF Try.prog (F28 k) [] Try.f28 (bodyOf Try.f28) (c28 k).ps (c28 k).rs (c28 k).rm x = (c28 k).m x := by kernel_rfl
theorem ok28 (k : Nat) : ConOk Try.prog (c28 k) :=
  fn_at (okF28 k) (cn := c28 k) (fn := Try.f28) (code := bodyOf Try.f28) (m := ⟨12, []⟩) (gs := []) (by kernel_rfl) (by kernel_rfl) (by kernel_rfl) (by kernel_rfl) (by kernel_rfl) (fun _ => by kernel_rfl)
    [] (fun c hP hm hg => (LInv.of (code := (bodyOf Try.f28)) (bs := []) (by kernel_rfl) LInv.nil)) (ev28 k)
def c7 (k : Nat) : Con := ⟨7, [((.sl T_Event), false), ((.int .i64), false)], [(.int .i64)], (.own true), fun x => laws_szEventS k x.1 x.2.1⟩
def F7 (k : Nat) : List Con := [c28 k]
theorem okF7 (k : Nat) : ∀ cn ∈ F7 k, ConOk Try.prog cn := (conCons (ok28 k) conNil)
abbrev S7_5 : Shape := [(0, .v (.sl T_Event)), (1, .v (.int .i64)), (5, .v (.int .i64))]
abbrev X7_5 : Exit × Shape := (Exit.ret, [(4, .v (.int .i64))])
abbrev R7_5 : List (Exit × Shape) := [(Exit.exit 0, [(1, .v (.int .i64))])]
def lo7_5 (k : Nat) : LO := loopO [] [] [] S7_5 X7_5 R7_5 (iter (laws_szEventS_s5) k)
theorem st7_5 (k : Nat) (rec v) : evC Try.prog ⟨27, []⟩ (F7 k) [] (lpAt (bodyOf Try.f7) [0]) (Kb [] [] [] S7_5 X7_5 R7_5 rec) (mkSt [] [] S7_5 v.1 v.2) = (laws_szEventS_s5) rec v := by kernel_rfl
theorem lp7_5 (k : Nat) {c : Cx} (hP : c.P = Try.prog) (hm : c.m = ⟨27, []⟩) (hg : c.gs = []) : LoopOk c (lo7_5 k) (lpAt (bodyOf Try.f7) [0]) :=
  loop_at hP hm hg (okF7 k) (LInv.of (code := (lpAt (bodyOf Try.f7) [0])) (bs := []) (by kernel_rfl) LInv.nil) (fun rec v => st7_5 k rec v) k
theorem ev7 (k : Nat) (x) : evF Try.prog (F7 k) [(5, lo7_5 k)] Try.f7 (bodyOf Try.f7) (c7 k).ps (c7 k).rs (c7 k).rm x = (c7 k).m x := by kernel_rfl
theorem ok7 (k : Nat) : ConOk Try.prog (c7 k) :=
  fn_at (okF7 k) (cn := c7 k) (fn := Try.f7) (code := bodyOf Try.f7) (m := ⟨27, []⟩) (gs := []) (by kernel_rfl) (by kernel_rfl) (by kernel_rfl) (by kernel_rfl) (by kernel_rfl) (fun _ => by kernel_rfl)
    [(5, lo7_5 k)] (fun c hP hm hg => (LInv.of (code := (bodyOf Try.f7)) (bs := [(lpAt (bodyOf Try.f7) [0])]) (by kernel_rfl) (LInv.cons (b := (lpAt (bodyOf Try.f7) [0])) (by kernel_rfl) (lp7_5 k hP hm hg) LInv.nil))) (ev7 k)
def c47 (k : Nat) : Con := ⟨47, [((.sl (.int .u8)), false)], [(.sl (.int .u8))], (.own true), fun x => laws_toByteS k x.1⟩
def F47 (k : Nat) : List Con := []
theorem okF47 (k : Nat) : ∀ cn ∈ F47 k, ConOk Try.prog cn := conNil
abbrev S47_3 : Shape := [(0, .v (.sl (.int .u8))), (3, .own true (.sl (.int .u8))), (4, .v (.int .i64))]
abbrev X47_3 : Exit × Shape := (Exit.exit 0, [(3, .own true (.sl (.int .u8)))])
abbrev R47_3 : List (Exit × Shape) := []
def lo47_3 (k : Nat) : LO := loopO [] [] [] S47_3 X47_3 R47_3 (iter (laws_toByteS_s3) k)
theorem st47_3 (k : Nat) (rec v) : evC Try.prog ⟨22, []⟩ (F47 k) [] (lpAt (bodyOf Try.f47) [0]) (Kb [] [] [] S47_3 X47_3 R47_3 rec) (mkSt [] [] S47_3 v.1 v.2) = (laws_toByteS_s3) rec v := by kernel_rfl
theorem lp47_3 (k : Nat) {c : Cx} (hP : c.P = Try.prog) (hm : c.m = ⟨22, []⟩) (hg : c.gs = []) : LoopOk c (lo47_3 k) (lpAt (bodyOf Try.f47) [0]) :=
  loop_at hP hm hg (okF47 k) (LInv.of (code := (lpAt (bodyOf Try.f47) [0])) (bs := []) (by kernel_rfl) LInv.nil) (fun rec v => st47_3 k rec v) k
theorem ev47 (k : Nat) (x) : evF Try.prog (F47 k) [(3, lo47_3 k)] Try.f47 (bodyOf Try.f47) (c47 k).ps (c47 k).rs (c47 k).rm x = (c47 k).m x := by kernel_rfl
theorem ok47 (k : Nat) : ConOk Try.prog (c47 k) :=
  fn_at (okF47 k) (cn := c47 k) (fn := Try.f47) (code := bodyOf Try.f47) (m := ⟨22, []⟩) (gs := []) (by kernel_rfl) (by kernel_rfl) (by kernel_rfl) (by kernel_rfl) (by kernel_rfl) (fun _ => by kernel_rfl)
    [(3, lo47_3 k)] (fun c hP hm hg => (LInv.of (code := (bodyOf Try.f47)) (bs := [(lpAt (bodyOf Try.f47) [0])]) (by kernel_rfl) (LInv.cons (b := (lpAt (bodyOf Try.f47) [0])) (by kernel_rfl) (lp47_3 k hP hm hg) LInv.nil))) (ev47 k)
def c48 (k : Nat) : Con := ⟨48, [(T_Vec, false)], [T_Vec], (.own true), fun x => laws_toVec x.1⟩
def F48 (k : Nat) : List Con := []
theorem okF48 (k : Nat) : ∀ cn ∈ F48 k, ConOk Try.prog cn := conNil
theorem ev48 (k : Nat) (x) : evF Try.prog (F48 k) [] Try.f48 (bodyOf Try.f48) (c48 k).ps (c48 k).rs (c48 k).rm x = (c48 k).m x := by kernel_rfl
theorem ok48 (k : Nat) : ConOk Try.prog (c48 k) :=
  fn_at (okF48 k) (cn := c48 k) (fn := Try.f48) (code := bodyOf Try.f48) (m := ⟨14, []⟩) (gs := []) (by kernel_rfl) (by kernel_rfl) (by kernel_rfl) (by kernel_rfl) (by kernel_rfl) (fun _ => by kernel_rfl)
    [] (fun c hP hm hg => (LInv.of (code := (bodyOf Try.f48)) (bs := []) (by kernel_rfl) LInv.nil)) (ev48 k)
def c29 (k : Nat) : Con := ⟨29, [(T_Event, false)], [T_Event], (.own true), fun x => laws_toEvent k x.1⟩
def F29 (k : Nat) : List Con := [c47 k, c48 k]
theorem okF29 (k : Nat) : ∀ cn ∈ F29 k, ConOk Try.prog cn := (conCons (ok47 k) (conCons (ok48 k) conNil))
theorem ev29 (k : Nat) (x) : evF Try.prog (F29 k) [] Try.f29 (bodyOf Try.f29) (c29 k).ps (c29 k).rs (c29 k).rm x = (c29 k).m x := by kernel_rfl
theorem ok29 (k : Nat) : ConOk Try.prog (c29 k) :=
  fn_at (okF29 k) (cn := c29 k) (fn := Try.f29) (code := bodyOf Try.f29) (m := ⟨19, []⟩) (gs := []) (by kernel_rfl) (by kernel_rfl) (by kernel_rfl) (by kernel_rfl) (by kernel_rfl) (fun _ => by kernel_rfl)
    [] (fun c hP hm hg => (LInv.of (code := (bodyOf Try.f29)) (bs := []) (by kernel_rfl) LInv.nil)) (ev29 k)
def c9 (k : Nat) : Con := ⟨9, [((.sl T_Event), false)], [(.sl T_Event)], (.own true), fun x => laws_toEventS k x.1⟩
def F9 (k : Nat) : List Con := [c29 k]
theorem okF9 (k : Nat) : ∀ cn ∈ F9 k, ConOk Try.prog cn := (conCons (ok29 k) conNil)
abbrev S9_3 : Shape := [(0, .v (.sl T_Event)), (3, .own true (.sl T_Event)), (4, .v (.int .i64))]
abbrev X9_3 : Exit × Shape := (Exit.exit 0, [(3, .own true (.sl T_Event))])
abbrev R9_3 : List (Exit × Shape) := []
def lo9_3 (k : Nat) : LO := loopO [] [] [] S9_3 X9_3 R9_3 (iter (laws_toEventS_s3 k) k)
theorem st9_3 (k : Nat) (rec v) : evC Try.prog ⟨23, []⟩ (F9 k) [] (lpAt (bodyOf Try.f9) [0]) (Kb [] [] [] S9_3 X9_3 R9_3 rec) (mkSt [] [] S9_3 v.1 v.2) = (laws_toEventS_s3 k) rec v := by kernel_rfl
theorem lp9_3 (k : Nat) {c : Cx} (hP : c.P = Try.prog) (hm : c.m = ⟨23, []⟩) (hg : c.gs = []) : LoopOk c (lo9_3 k) (lpAt (bodyOf Try.f9) [0]) :=
  loop_at hP hm hg (okF9 k) (LInv.of (code := (lpAt (bodyOf Try.f9) [0])) (bs := []) (by kernel_rfl) LInv.nil) (fun rec v => st9_3 k rec v) k
theorem ev9 (k : Nat) (x) : evF Try.prog (F9 k) [(3, lo9_3 k)] Try.f9 (bodyOf Try.f9) (c9 k).ps (c9 k).rs (c9 k).rm x = (c9 k).m x := by kernel_rfl
theorem ok9 (k : Nat) : ConOk Try.prog (c9 k) :=
  fn_at (okF9 k) (cn := c9 k) (fn := Try.f9) (code := bodyOf Try.f9) (m := ⟨23, []⟩) (gs := []) (by kernel_rfl) (by kernel_rfl) (by kernel_rfl) (by kernel_rfl) (by kernel_rfl) (fun _ => by kernel_rfl)
    [(3, lo9_3 k)] (fun c hP hm hg => (LInv.of (code := (bodyOf Try.f9)) (bs := [(lpAt (bodyOf Try.f9) [0])]) (by kernel_rfl) (LInv.cons (b := (lpAt (bodyOf Try.f9) [0])) (by kernel_rfl) (lp9_3 k hP hm hg) LInv.nil))) (ev9 k)
def c8 (k : Nat) : Con := ⟨8, [((.sl T_Event), false)], [.bool], (.own true), fun x => spec_EventsOk k x.1⟩
def F8 (k : Nat) : List Con := []
theorem okF8 (k : Nat) : ∀ cn ∈ F8 k, ConOk Try.prog cn := conNil
abbrev S8_5 : Shape := [(0, .v (.sl T_Event)), (3, .v (.int .i64)), (4, .v (.int .i64))]
abbrev X8_5 : Exit × Shape := (Exit.ret, [(2, .v .bool)])
abbrev R8_5 : List (Exit × Shape) := [(Exit.exit 0, [])]
def lo8_5 (k : Nat) : LO := loopO [] [] [] S8_5 X8_5 R8_5 (iter (spec_EventsOk_s5) k)
theorem st8_5 (k : Nat) (rec v) : evC Try.prog ⟨86, []⟩ (F8 k) [] (lpAt (bodyOf Try.f8) [0]) (Kb [] [] [] S8_5 X8_5 R8_5 rec) (mkSt [] [] S8_5 v.1 v.2) = (spec_EventsOk_s5) rec v := by kernel_rfl
theorem lp8_5 (k : Nat) {c : Cx} (hP : c.P = Try.prog) (hm : c.m = ⟨86, []⟩) (hg : c.gs = []) : LoopOk c (lo8_5 k) (lpAt (bodyOf Try.f8) [0]) :=
  loop_at hP hm hg (okF8 k) (LInv.of (code := (lpAt (bodyOf Try.f8) [0])) (bs := []) (by kernel_rfl) LInv.nil) (fun rec v => st8_5 k rec v) k
theorem ev8 (k : Nat) (x) : evF Try.prog (F8 k) [(5, lo8_5 k)] Try.f8 (bodyOf Try.f8) (c8 k).ps (c8 k).rs (c8 k).rm x = (c8 k).m x := by kernel_rfl
theorem ok8 (k : Nat) : ConOk Try.prog (c8 k) :=
  fn_at (okF8 k) (cn := c8 k) (fn := Try.f8) (code := bodyOf Try.f8) (m := ⟨86, []⟩) (gs := []) (by kernel_rfl) (by kernel_rfl) (by kernel_rfl) (by kernel_rfl) (by kernel_rfl) (fun _ => by kernel_rfl)
    [(5, lo8_5 k)] (fun c hP hm hg => (LInv.of (code := (bodyOf Try.f8)) (bs := [(lpAt (bodyOf Try.f8) [0])]) (by kernel_rfl) (LInv.cons (b := (lpAt (bodyOf Try.f8) [0])) (by kernel_rfl) (lp8_5 k hP hm hg) LInv.nil))) (ev8 k)
def c37 (k : Nat) : Con := ⟨37, [((.int .i64), false), ((.int .i64), false), ((.int .i64), false)], [.bool], (.own true), fun x => impl_within x.1 x.2.1 x.2.2.1⟩
def F37 (k : Nat) : List Con := []
theorem okF37 (k : Nat) : ∀ cn ∈ F37 k, ConOk Try.prog cn := conNil
theorem ev37 (k : Nat) (x) : evF Try.prog (F37 k) [] Try.f37 (bodyOf Try.f37) (c37 k).ps (c37 k).rs (c37 k).rm x = (c37 k).m x := by kernel_rfl
theorem ok37 (k : Nat) : ConOk Try.prog (c37 k) :=
  fn_at (okF37 k) (cn := c37 k) (fn := Try.f37) (code := bodyOf Try.f37) (m := ⟨15, []⟩) (gs := []) (by kernel_rfl) (by kernel_rfl) (by kernel_rfl) (by kernel_rfl) (by kernel_rfl) (fun _ => by kernel_rfl)
    [] (fun c hP hm hg => (LInv.of (code := (bodyOf Try.f37)) (bs := []) (by kernel_rfl) LInv.nil)) (ev37 k)
def c30 (k : Nat) : Con := ⟨30, [(T_Event, false)], [.bool], (.own true), fun x => impl_eventOk x.1⟩
def F30 (k : Nat) : List Con := [c37 k]
theorem okF30 (k : Nat) : ∀ cn ∈ F30 k, ConOk Try.prog cn := (conCons (ok37 k) conNil)
theorem ev30 (k : Nat) (x) : evF Try.prog (F30 k) [] Try.f30 (bodyOf Try.f30) (c30 k).ps (c30 k).rs (c30 k).rm x = (c30 k).m x := by kernel_rfl
theorem ok30 (k : Nat) : ConOk Try.prog (c30 k) :=
  fn_at (okF30 k) (cn := c30 k) (fn := Try.f30) (code := bodyOf Try.f30) (m := ⟨67, []⟩) (gs := []) (by kernel_rfl) (by kernel_rfl) (by kernel_rfl) (by kernel_rfl) (by kernel_rfl) (fun _ => by kernel_rfl)
    [] (fun c hP hm hg => (LInv.of (code := (bodyOf Try.f30)) (bs := []) (by kernel_rfl) LInv.nil)) (ev30 k)
def c10 (k : Nat) : Con := ⟨10, [((.sl T_Event), false)], [.bool], (.own true), fun x => impl_EventsOk k x.1⟩
def F10 (k : Nat) : List Con := [c30 k]
theorem okF10 (k : Nat) : ∀ cn ∈ F10 k, ConOk Try.prog cn := (conCons (ok30 k) conNil)
abbrev S10_3 : Shape := [(0, .v (.sl T_Event)), (3, .v (.int .i64)), (6, .v (.sl T_Event)), (7, .v (.int .i64)), (8, .v (.int .i64))]
abbrev X10_3 : Exit × Shape := (Exit.ret, [(2, .v .bool)])
abbrev R10_3 : List (Exit × Shape) := [(Exit.exit 0, [(0, .v (.sl T_Event)), (3, .v (.int .i64))])]
def lo10_3 (k : Nat) : LO := loopO [] [] [] S10_3 X10_3 R10_3 (iter (impl_EventsOk_s3) k)
theorem st10_3 (k : Nat) (rec v) : evC Try.prog ⟨27, []⟩ (F10 k) [] (lpAt (bodyOf Try.f10) [0]) (Kb [] [] [] S10_3 X10_3 R10_3 rec) (mkSt [] [] S10_3 v.1 v.2) = (impl_EventsOk_s3) rec v := by kernel_rfl
theorem lp10_3 (k : Nat) {c : Cx} (hP : c.P = Try.prog) (hm : c.m = ⟨27, []⟩) (hg : c.gs = []) : LoopOk c (lo10_3 k) (lpAt (bodyOf Try.f10) [0]) :=
  loop_at hP hm hg (okF10 k) (LInv.of (code := (lpAt (bodyOf Try.f10) [0])) (bs := []) (by kernel_rfl) LInv.nil) (fun rec v => st10_3 k rec v) k
theorem ev10 (k : Nat) (x) : evF Try.prog (F10 k) [(3, lo10_3 k)] Try.f10 (bodyOf Try.f10) (c10 k).ps (c10 k).rs (c10 k).rm x = (c10 k).m x := by kernel_rfl
theorem ok10 (k : Nat) : ConOk Try.prog (c10 k) :=
  fn_at (okF10 k) (cn := c10 k) (fn := Try.f10) (code := bodyOf Try.f10) (m := ⟨27, []⟩) (gs := []) (by kernel_rfl) (by kernel_rfl) (by kernel_rfl) (by kernel_rfl) (by kernel_rfl) (fun _ => by kernel_rfl)
    [(3, lo10_3 k)] (fun c hP hm hg => (LInv.of (code := (bodyOf Try.f10)) (bs := [(lpAt (bodyOf Try.f10) [0])]) (by kernel_rfl) (LInv.cons (b := (lpAt (bodyOf Try.f10) [0])) (by kernel_rfl) (lp10_3 k hP hm hg) LInv.nil))) (ev10 k)
def c49 (k : Nat) : Con := ⟨49, [((.sl (.int .u8)), false), ((.sl (.int .u8)), false)], [.bool], (.own true), fun x => laws_eqByteS k x.1 x.2.1⟩
def F49 (k : Nat) : List Con := []
theorem okF49 (k : Nat) : ∀ cn ∈ F49 k, ConOk Try.prog cn := conNil
abbrev S49_4 : Shape := [(0, .v (.sl (.int .u8))), (1, .v (.sl (.int .u8))), (5, .v (.int .i64))]
abbrev X49_4 : Exit × Shape := (Exit.ret, [(4, .v .bool)])
abbrev R49_4 : List (Exit × Shape) := [(Exit.exit 0, [])]
def lo49_4 (k : Nat) : LO := loopO [] [] [] S49_4 X49_4 R49_4 (iter (laws_eqByteS_s4) k)
theorem st49_4 (k : Nat) (rec v) : evC Try.prog ⟨26, []⟩ (F49 k) [] (lpAt (bodyOf Try.f49) [0]) (Kb [] [] [] S49_4 X49_4 R49_4 rec) (mkSt [] [] S49_4 v.1 v.2) = (laws_eqByteS_s4) rec v := by kernel_rfl
theorem lp49_4 (k : Nat) {c : Cx} (hP : c.P = Try.prog) (hm : c.m = ⟨26, []⟩) (hg : c.gs = []) : LoopOk c (lo49_4 k) (lpAt (bodyOf Try.f49) [0]) :=
  loop_at hP hm hg (okF49 k) (LInv.of (code := (lpAt (bodyOf Try.f49) [0])) (bs := []) (by kernel_rfl) LInv.nil) (fun rec v => st49_4 k rec v) k
theorem ev49 (k : Nat) (x) : evF Try.prog (F49 k) [(4, lo49_4 k)] Try.f49 (bodyOf Try.f49) (c49 k).ps (c49 k).rs (c49 k).rm x = (c49 k).m x := by kernel_rfl
theorem ok49 (k : Nat) : ConOk Try.prog (c49 k) :=
  fn_at (okF49 k) (cn := c49 k) (fn := Try.f49) (code := bodyOf Try.f49) (m := ⟨26, []⟩) (gs := []) (by kernel_rfl) (by kernel_rfl) (by kernel_rfl) (by kernel_rfl) (by kernel_rfl) (fun _ => by kernel_rfl)
    [(4, lo49_4 k)] (fun c hP hm hg => (LInv.of (code := (bodyOf Try.f49)) (bs := [(lpAt (bodyOf Try.f49) [0])]) (by kernel_rfl) (LInv.cons (b := (lpAt (bodyOf Try.f49) [0])) (by kernel_rfl) (lp49_4 k hP hm hg) LInv.nil))) (ev49 k)
def c50 (k : Nat) : Con := ⟨50, [(T_Vec, false), (T_Vec, false)], [.bool], (.own true), fun x => laws_eqVec x.1 x.2.1⟩
def F50 (k : Nat) : List Con := []
theorem okF50 (k : Nat) : ∀ cn ∈ F50 k, ConOk Try.prog cn := conNil
theorem ev50 (k : Nat) (x) : evF Try.prog (F50 k) [] Try.f50 (bodyOf Try.f50) (c50 k).ps (c50 k).rs (c50 k).rm x = (c50 k).m x := by kernel_rfl
theorem ok50 (k : Nat) : ConOk Try.prog (c50 k) :=
  fn_at (okF50 k) (cn := c50 k) (fn := Try.f50) (code := bodyOf Try.f50) (m := ⟨20, []⟩) (gs := []) (by kernel_rfl) (by kernel_rfl) (by kernel_rfl) (by kernel_rfl) (by kernel_rfl) (fun _ => by kernel_rfl)
    [] (fun c hP hm hg => (LInv.of (code := (bodyOf Try.f50)) (bs := []) (by kernel_rfl) LInv.nil)) (ev50 k)
def c31 (k : Nat) : Con := ⟨31, [(T_Event, false), (T_Event, false)], [.bool], (.own true), fun x => laws_eqEvent k x.1 x.2.1⟩
def F31 (k : Nat) : List Con := [c49 k, c50 k]
theorem okF31 (k : Nat) : ∀ cn ∈ F31 k, ConOk Try.prog cn := (conCons (ok49 k) (conCons (ok50 k) conNil))
theorem ev31 (k : Nat) (x) : evF Try.prog (F31 k) [] Try.f31 (bodyOf Try.f31) (c31 k).ps (c31 k).rs (c31 k).rm x = (c31 k).m x := by kernel_rfl
theorem ok31 (k : Nat) : ConOk Try.prog (c31 k) :=
  fn_at (okF31 k) (cn := c31 k) (fn := Try.f31) (code := bodyOf Try.f31) (m := ⟨27, []⟩) (gs := []) (by kernel_rfl) (by kernel_rfl) (by kernel_rfl) (by kernel_rfl) (by kernel_rfl) (fun _ => by kernel_rfl)
    [] (fun c hP hm hg => (LInv.of (code := (bodyOf Try.f31)) (bs := []) (by kernel_rfl) LInv.nil)) (ev31 k)
def c11 (k : Nat) : Con := ⟨11, [((.sl T_Event), false), ((.sl T_Event), false)], [.bool], (.own true), fun x => laws_eqEventS k x.1 x.2.1⟩
def F11 (k : Nat) : List Con := [c31 k]
theorem okF11 (k : Nat) : ∀ cn ∈ F11 k, ConOk Try.prog cn := (conCons (ok31 k) conNil)
abbrev S11_4 : Shape := [(0, .v (.sl T_Event)), (1, .v (.sl T_Event)), (5, .v (.int .i64))]
abbrev X11_4 : Exit × Shape := (Exit.ret, [(4, .v .bool)])
abbrev R11_4 : List (Exit × Shape) := [(Exit.exit 0, [])]
def lo11_4 (k : Nat) : LO := loopO [] [] [] S11_4 X11_4 R11_4 (iter (laws_eqEventS_s4 k) k)
theorem st11_4 (k : Nat) (rec v) : evC Try.prog ⟨27, []⟩ (F11 k) [] (lpAt (bodyOf Try.f11) [0]) (Kb [] [] [] S11_4 X11_4 R11_4 rec) (mkSt [] [] S11_4 v.1 v.2) = (laws_eqEventS_s4 k) rec v := by kernel_rfl
theorem lp11_4 (k : Nat) {c : Cx} (hP : c.P = Try.prog) (hm : c.m = ⟨27, []⟩) (hg : c.gs = []) : LoopOk c (lo11_4 k) (lpAt (bodyOf Try.f11) [0]) :=
  loop_at hP hm hg (okF11 k) (LInv.of (code := (lpAt (bodyOf Try.f11) [0])) (bs := []) (by kernel_rfl) LInv.nil) (fun rec v => st11_4 k rec v) k
theorem ev11 (k : Nat) (x) : evF Try.prog (F11 k) [(4, lo11_4 k)] Try.f11 (bodyOf Try.f11) (c11 k).ps (c11 k).rs (c11 k).rm x = (c11 k).m x := by kernel_rfl
theorem ok11 (k : Nat) : ConOk Try.prog (c11 k) :=
  fn_at (okF11 k) (cn := c11 k) (fn := Try.f11) (code := bodyOf Try.f11) (m := ⟨27, []⟩) (gs := []) (by kernel_rfl) (by kernel_rfl) (by kernel_rfl) (by kernel_rfl) (by kernel_rfl) (fun _ => by kernel_rfl)
    [(4, lo11_4 k)] (fun c hP hm hg => (LInv.of (code := (bodyOf Try.f11)) (bs := [(lpAt (bodyOf Try.f11) [0])]) (by kernel_rfl) (LInv.cons (b := (lpAt (bodyOf Try.f11) [0])) (by kernel_rfl) (lp11_4 k hP hm hg) LInv.nil))) (ev11 k)
def c3 (k : Nat) : Con := ⟨3, [((.sl T_Event), false)], [.bool], (.own true), fun x => laws_FnExactEventsOk k x.1⟩
def F3 (k : Nat) : List Con := [c7 k, c9 k, c8 k, c10 k, c11 k]
theorem okF3 (k : Nat) : ∀ cn ∈ F3 k, ConOk Try.prog cn := (conCons (ok7 k) (conCons (ok9 k) (conCons (ok8 k) (conCons (ok10 k) (conCons (ok11 k) conNil)))))
theorem ev3 (k : Nat) (x) : evF Try.prog (F3 k) [] Try.f3 (bodyOf Try.f3) (c3 k).ps (c3 k).rs (c3 k).rm x = (c3 k).m x := by kernel_rfl
theorem ok3 (k : Nat) : ConOk Try.prog (c3 k) :=
  fn_at (okF3 k) (cn := c3 k) (fn := Try.f3) (code := bodyOf Try.f3) (m := ⟨27, []⟩) (gs := []) (by kernel_rfl) (by kernel_rfl) (by kernel_rfl) (by kernel_rfl) (by kernel_rfl) (fun _ => by kernel_rfl)
    [] (fun c hP hm hg => (LInv.of (code := (bodyOf Try.f3)) (bs := []) (by kernel_rfl) LInv.nil)) (ev3 k)
def c32 (k : Nat) : Con := ⟨32, [((.sl T_Event), false), ((.int .i64), false)], [(.int .i64)], (.own true), fun x => spec_l24Frame k x.1 x.2.1⟩
def F32 (k : Nat) : List Con := []
theorem okF32 (k : Nat) : ∀ cn ∈ F32 k, ConOk Try.prog cn := conNil
abbrev S32_3 : Shape := [(0, .v (.sl T_Event)), (1, .v (.int .i64)), (5, .v (.int .i64)), (6, .v (.int .i64))]
abbrev X32_3 : Exit × Shape := (Exit.ret, [(4, .v (.int .i64))])
abbrev R32_3 : List (Exit × Shape) := [(Exit.exit 0, [])]
def lo32_3 (k : Nat) : LO := loopO [] [] [] S32_3 X32_3 R32_3 (iter (spec_l24Frame_s3) k)
theorem st32_3 (k : Nat) (rec v) : evC Try.prog ⟨25, []⟩ (F32 k) [] (lpAt (bodyOf Try.f32) [0]) (Kb [] [] [] S32_3 X32_3 R32_3 rec) (mkSt [] [] S32_3 v.1 v.2) = (spec_l24Frame_s3) rec v := by kernel_rfl
theorem lp32_3 (k : Nat) {c : Cx} (hP : c.P = Try.prog) (hm : c.m = ⟨25, []⟩) (hg : c.gs = []) : LoopOk c (lo32_3 k) (lpAt (bodyOf Try.f32) [0]) :=
  loop_at hP hm hg (okF32 k) (LInv.of (code := (lpAt (bodyOf Try.f32) [0])) (bs := []) (by kernel_rfl) LInv.nil) (fun rec v => st32_3 k rec v) k
theorem ev32 (k : Nat) (x) : evF Try.prog (F32 k) [(3, lo32_3 k)] Try.f32 (bodyOf Try.f32) (c32 k).ps (c32 k).rs (c32 k).rm x = (c32 k).m x := by kernel_rfl
theorem ok32 (k : Nat) : ConOk Try.prog (c32 k) :=
  fn_at (okF32 k) (cn := c32 k) (fn := Try.f32) (code := bodyOf Try.f32) (m := ⟨25, []⟩) (gs := []) (by kernel_rfl) (by kernel_rfl) (by kernel_rfl) (by kernel_rfl) (by kernel_rfl) (fun _ => by kernel_rfl)
    [(3, lo32_3 k)] (fun c hP hm hg => (LInv.of (code := (bodyOf Try.f32)) (bs := [(lpAt (bodyOf Try.f32) [0])]) (by kernel_rfl) (LInv.cons (b := (lpAt (bodyOf Try.f32) [0])) (by kernel_rfl) (lp32_3 k hP hm hg) LInv.nil))) (ev32 k)
def c12 (k : Nat) : Con := ⟨12, [((.sl T_Event), false), ((.int .i64), false)], [(.int .i64)], (.own true), fun x => spec_FrameAt k x.1 x.2.1⟩
def F12 (k : Nat) : List Con := [c8 k, c32 k]
theorem okF12 (k : Nat) : ∀ cn ∈ F12 k, ConOk Try.prog cn := (conCons (ok8 k) (conCons (ok32 k) conNil))
theorem ev12 (k : Nat) (x) : evF Try.prog (F12 k) [] Try.f12 (bodyOf Try.f12) (c12 k).ps (c12 k).rs (c12 k).rm x = (c12 k).m x := by kernel_rfl
theorem ok12 (k : Nat) : ConOk Try.prog (c12 k) :=
  fn_at (okF12 k) (cn := c12 k) (fn := Try.f12) (code := bodyOf Try.f12) (m := ⟨11, []⟩) (gs := []) (by kernel_rfl) (by kernel_rfl) (by kernel_rfl) (by kernel_rfl) (by kernel_rfl) (fun _ => by kernel_rfl)
    [] (fun c hP hm hg => (LInv.of (code := (bodyOf Try.f12)) (bs := []) (by kernel_rfl) LInv.nil)) (ev12 k)
def c33 (k : Nat) : Con := ⟨33, [((.sl T_Event), false), ((.int .i64), false)], [(.int .i64)], (.own true), fun x => impl_frameAt k x.1 x.2.1⟩
def F33 (k : Nat) : List Con := []
theorem okF33 (k : Nat) : ∀ cn ∈ F33 k, ConOk Try.prog cn := conNil
abbrev S33_2 : Shape := [(1, .v (.int .i64)), (7, .v (.sl T_Event)), (8, .v (.int .i64)), (9, .v (.int .i64))]
abbrev X33_2 : Exit × Shape := (Exit.ret, [(4, .v (.int .i64))])
abbrev R33_2 : List (Exit × Shape) := [(Exit.exit 0, [])]
def lo33_2 (k : Nat) : LO := loopO [] [] [] S33_2 X33_2 R33_2 (iter (impl_frameAt_s2) k)
theorem st33_2 (k : Nat) (rec v) : evC Try.prog ⟨23, []⟩ (F33 k) [] (lpAt (bodyOf Try.f33) [0]) (Kb [] [] [] S33_2 X33_2 R33_2 rec) (mkSt [] [] S33_2 v.1 v.2) = (impl_frameAt_s2) rec v := by kernel_rfl
theorem lp33_2 (k : Nat) {c : Cx} (hP : c.P = Try.prog) (hm : c.m = ⟨23, []⟩) (hg : c.gs = []) : LoopOk c (lo33_2 k) (lpAt (bodyOf Try.f33) [0]) :=
  loop_at hP hm hg (okF33 k) (LInv.of (code := (lpAt (bodyOf Try.f33) [0])) (bs := []) (by kernel_rfl) LInv.nil) (fun rec v => st33_2 k rec v) k
theorem ev33 (k : Nat) (x) : evF Try.prog (F33 k) [(2, lo33_2 k)] Try.f33 (bodyOf Try.f33) (c33 k).ps (c33 k).rs (c33 k).rm x = (c33 k).m x := by kernel_rfl
theorem ok33 (k : Nat) : ConOk Try.prog (c33 k) :=
  fn_at (okF33 k) (cn := c33 k) (fn := Try.f33) (code := bodyOf Try.f33) (m := ⟨23, []⟩) (gs := []) (by kernel_rfl) (by kernel_rfl) (by kernel_rfl) (by kernel_rfl) (by kernel_rfl) (fun _ => by kernel_rfl)
    [(2, lo33_2 k)] (fun c hP hm hg => (LInv.of (code := (bodyOf Try.f33)) (bs := [(lpAt (bodyOf Try.f33) [0])]) (by kernel_rfl) (LInv.cons (b := (lpAt (bodyOf Try.f33) [0])) (by kernel_rfl) (lp33_2 k hP hm hg) LInv.nil))) (ev33 k)
def c13 (k : Nat) : Con := ⟨13, [((.sl T_Event), false), ((.int .i64), false)], [(.int .i64)], (.own true), fun x => impl_FrameAt k x.1 x.2.1⟩
def F13 (k : Nat) : List Con := [c10 k, c33 k]
theorem okF13 (k : Nat) : ∀ cn ∈ F13 k, ConOk Try.prog cn := (conCons (ok10 k) (conCons (ok33 k) conNil))
theorem ev13 (k : Nat) (x) : evF Try.prog (F13 k) [] Try.f13 (bodyOf Try.f13) (c13 k).ps (c13 k).rs (c13 k).rm x = (c13 k).m x := by kernel_rfl
theorem ok13 (k : Nat) : ConOk Try.prog (c13 k) :=
  fn_at (okF13 k) (cn := c13 k) (fn := Try.f13) (code := bodyOf Try.f13) (m := ⟨11, []⟩) (gs := []) (by kernel_rfl) (by kernel_rfl) (by kernel_rfl) (by kernel_rfl) (by kernel_rfl) (fun _ => by kernel_rfl)
    [] (fun c hP hm hg => (LInv.of (code := (bodyOf Try.f13)) (bs := []) (by kernel_rfl) LInv.nil)) (ev13 k)
def c4 (k : Nat) : Con := ⟨4, [((.sl T_Event), false), ((.int .i64), false)], [.bool], (.own true), fun x => laws_FnExactFrameAt k x.1 x.2.1⟩
def F4 (k : Nat) : List Con := [c7 k, c9 k, c12 k, c13 k, c11 k]
theorem okF4 (k : Nat) : ∀ cn ∈ F4 k, ConOk Try.prog cn := (conCons (ok7 k) (conCons (ok9 k) (conCons (ok12 k) (conCons (ok13 k) (conCons (ok11 k) conNil)))))
theorem ev4 (k : Nat) (x) : evF Try.prog (F4 k) [] Try.f4 (bodyOf Try.f4) (c4 k).ps (c4 k).rs (c4 k).rm x = (c4 k).m x := by kernel_rfl
theorem ok4 (k : Nat) : ConOk Try.prog (c4 k) :=
  fn_at (okF4 k) (cn := c4 k) (fn := Try.f4) (code := bodyOf Try.f4) (m := ⟨31, []⟩) (gs := []) (by kernel_rfl) (by kernel_rfl) (by kernel_rfl) (by kernel_rfl) (by kernel_rfl) (fun _ => by kernel_rfl)
    [] (fun c hP hm hg => (LInv.of (code := (bodyOf Try.f4)) (bs := []) (by kernel_rfl) LInv.nil)) (ev4 k)
def c40 (k : Nat) : Con := ⟨40, [((.sl (.int .i64)), false), ((.int .i64), false)], [(.int .i64)], (.own true), fun x => laws_szIntS x.1 x.2.1⟩
def F40 (k : Nat) : List Con := []
theorem okF40 (k : Nat) : ∀ cn ∈ F40 k, ConOk Try.prog cn := conNil
theorem ev40 (k : Nat) (x) : evF Try.prog (F40 k) [] Try.f40 (bodyOf Try.f40) (c40 k).ps (c40 k).rs (c40 k).rm x = (c40 k).m x := by kernel_rfl
theorem ok40 (k : Nat) : ConOk Try.prog (c40 k) :=
  fn_at (okF40 k) (cn := c40 k) (fn := Try.f40) (code := bodyOf Try.f40) (m := ⟨12, []⟩) (gs := []) (by kernel_rfl) (by kernel_rfl) (by kernel_rfl) (by kernel_rfl) (by kernel_rfl) (fun _ => by kernel_rfl)
    [] (fun c hP hm hg => (LInv.of (code := (bodyOf Try.f40)) (bs := []) (by kernel_rfl) LInv.nil)) (ev40 k)
def c34 (k : Nat) : Con := ⟨34, [(T_Out, false), ((.int .i64), false)], [(.int .i64)], (.own true), fun x => laws_szOut x.1 x.2.1⟩
def F34 (k : Nat) : List Con := [c46 k, c40 k]
theorem okF34 (k : Nat) : ∀ cn ∈ F34 k, ConOk Try.prog cn := (conCons (ok46 k) (conCons (ok40 k) conNil))
theorem ev34 (k : Nat) (x) : evF Try.prog (F34 k) [] Try.f34 (bodyOf Try.f34) (c34 k).ps (c34 k).rs (c34 k).rm x = (c34 k).m x := by kernel_rfl
theorem ok34 (k : Nat) : ConOk Try.prog (c34 k) :=
  fn_at (okF34 k) (cn := c34 k) (fn := Try.f34) (code := bodyOf Try.f34) (m := ⟨18, []⟩) (gs := []) (by kernel_rfl) (by kernel_rfl) (by kernel_rfl) (by kernel_rfl) (by kernel_rfl) (fun _ => by kernel_rfl)
    [] (fun c hP hm hg => (LInv.of (code := (bodyOf Try.f34)) (bs := []) (by kernel_rfl) LInv.nil)) (ev34 k)
def c14 (k : Nat) : Con := ⟨14, [((.sl T_Out), false), ((.int .i64), false)], [(.int .i64)], (.own true), fun x => laws_szOutS k x.1 x.2.1⟩
def F14 (k : Nat) : List Con := [c34 k]
theorem okF14 (k : Nat) : ∀ cn ∈ F14 k, ConOk Try.prog cn := (conCons (ok34 k) conNil)
abbrev S14_5 : Shape := [(0, .v (.sl T_Out)), (1, .v (.int .i64)), (5, .v (.int .i64))]
abbrev X14_5 : Exit × Shape := (Exit.ret, [(4, .v (.int .i64))])
abbrev R14_5 : List (Exit × Shape) := [(Exit.exit 0, [(1, .v (.int .i64))])]
def lo14_5 (k : Nat) : LO := loopO [] [] [] S14_5 X14_5 R14_5 (iter (laws_szOutS_s5) k)
theorem st14_5 (k : Nat) (rec v) : evC Try.prog ⟨27, []⟩ (F14 k) [] (lpAt (bodyOf Try.f14) [0]) (Kb [] [] [] S14_5 X14_5 R14_5 rec) (mkSt [] [] S14_5 v.1 v.2) = (laws_szOutS_s5) rec v := by kernel_rfl
theorem lp14_5 (k : Nat) {c : Cx} (hP : c.P = Try.prog) (hm : c.m = ⟨27, []⟩) (hg : c.gs = []) : LoopOk c (lo14_5 k) (lpAt (bodyOf Try.f14) [0]) :=
  loop_at hP hm hg (okF14 k) (LInv.of (code := (lpAt (bodyOf Try.f14) [0])) (bs := []) (by kernel_rfl) LInv.nil) (fun rec v => st14_5 k rec v) k
theorem ev14 (k : Nat) (x) : evF Try.prog (F14 k) [(5, lo14_5 k)] Try.f14 (bodyOf Try.f14) (c14 k).ps (c14 k).rs (c14 k).rm x = (c14 k).m x := by kernel_rfl
theorem ok14 (k : Nat) : ConOk Try.prog (c14 k) :=
  fn_at (okF14 k) (cn := c14 k) (fn := Try.f14) (code := bodyOf Try.f14) (m := ⟨27, []⟩) (gs := []) (by kernel_rfl) (by kernel_rfl) (by kernel_rfl) (by kernel_rfl) (by kernel_rfl) (fun _ => by kernel_rfl)
    [(5, lo14_5 k)] (fun c hP hm hg => (LInv.of (code := (bodyOf Try.f14)) (bs := [(lpAt (bodyOf Try.f14) [0])]) (by kernel_rfl) (LInv.cons (b := (lpAt (bodyOf Try.f14) [0])) (by kernel_rfl) (lp14_5 k hP hm hg) LInv.nil))) (ev14 k)
def c42 (k : Nat) : Con := ⟨42, [((.sl (.int .i64)), false)], [(.sl (.int .i64))], (.own true), fun x => laws_toIntS k x.1⟩
def F42 (k : Nat) : List Con := []
theorem okF42 (k : Nat) : ∀ cn ∈ F42 k, ConOk Try.prog cn := conNil
abbrev S42_3 : Shape := [(0, .v (.sl (.int .i64))), (3, .own true (.sl (.int .i64))), (4, .v (.int .i64))]
abbrev X42_3 : Exit × Shape := (Exit.exit 0, [(3, .own true (.sl (.int .i64)))])
abbrev R42_3 : List (Exit × Shape) := []
def lo42_3 (k : Nat) : LO := loopO [] [] [] S42_3 X42_3 R42_3 (iter (laws_toIntS_s3) k)
theorem st42_3 (k : Nat) (rec v) : evC Try.prog ⟨22, []⟩ (F42 k) [] (lpAt (bodyOf Try.f42) [0]) (Kb [] [] [] S42_3 X42_3 R42_3 rec) (mkSt [] [] S42_3 v.1 v.2) = (laws_toIntS_s3) rec v := by kernel_rfl
theorem lp42_3 (k : Nat) {c : Cx} (hP : c.P = Try.prog) (hm : c.m = ⟨22, []⟩) (hg : c.gs = []) : LoopOk c (lo42_3 k) (lpAt (bodyOf Try.f42) [0]) :=
  loop_at hP hm hg (okF42 k) (LInv.of (code := (lpAt (bodyOf Try.f42) [0])) (bs := []) (by kernel_rfl) LInv.nil) (fun rec v => st42_3 k rec v) k
theorem ev42 (k : Nat) (x) : evF Try.prog (F42 k) [(3, lo42_3 k)] Try.f42 (bodyOf Try.f42) (c42 k).ps (c42 k).rs (c42 k).rm x = (c42 k).m x := by kernel_rfl
theorem ok42 (k : Nat) : ConOk Try.prog (c42 k) :=
  fn_at (okF42 k) (cn := c42 k) (fn := Try.f42) (code := bodyOf Try.f42) (m := ⟨22, []⟩) (gs := []) (by kernel_rfl) (by kernel_rfl) (by kernel_rfl) (by kernel_rfl) (by kernel_rfl) (fun _ => by kernel_rfl)
    [(3, lo42_3 k)] (fun c hP hm hg => (LInv.of (code := (bodyOf Try.f42)) (bs := [(lpAt (bodyOf Try.f42) [0])]) (by kernel_rfl) (LInv.cons (b := (lpAt (bodyOf Try.f42) [0])) (by kernel_rfl) (lp42_3 k hP hm hg) LInv.nil))) (ev42 k)
def c36 (k : Nat) : Con := ⟨36, [(T_Out, false)], [T_Out], (.own true), fun x => laws_toOut k x.1⟩
def F36 (k : Nat) : List Con := [c47 k, c42 k]
theorem okF36 (k : Nat) : ∀ cn ∈ F36 k, ConOk Try.prog cn := (conCons (ok47 k) (conCons (ok42 k) conNil))
theorem ev36 (k : Nat) (x) : evF Try.prog (F36 k) [] Try.f36 (bodyOf Try.f36) (c36 k).ps (c36 k).rs (c36 k).rm x = (c36 k).m x := by kernel_rfl
theorem ok36 (k : Nat) : ConOk Try.prog (c36 k) :=
  fn_at (okF36 k) (cn := c36 k) (fn := Try.f36) (code := bodyOf Try.f36) (m := ⟨22, []⟩) (gs := []) (by kernel_rfl) (by kernel_rfl) (by kernel_rfl) (by kernel_rfl) (by kernel_rfl) (fun _ => by kernel_rfl)
    [] (fun c hP hm hg => (LInv.of (code := (bodyOf Try.f36)) (bs := []) (by kernel_rfl) LInv.nil)) (ev36 k)
def c16 (k : Nat) : Con := ⟨16, [((.sl T_Out), false)], [(.sl T_Out)], (.own true), fun x => laws_toOutS k x.1⟩
def F16 (k : Nat) : List Con := [c36 k]
theorem okF16 (k : Nat) : ∀ cn ∈ F16 k, ConOk Try.prog cn := (conCons (ok36 k) conNil)
abbrev S16_3 : Shape := [(0, .v (.sl T_Out)), (3, .own true (.sl T_Out)), (4, .v (.int .i64))]
abbrev X16_3 : Exit × Shape := (Exit.exit 0, [(3, .own true (.sl T_Out))])
abbrev R16_3 : List (Exit × Shape) := []
def lo16_3 (k : Nat) : LO := loopO [] [] [] S16_3 X16_3 R16_3 (iter (laws_toOutS_s3 k) k)
theorem st16_3 (k : Nat) (rec v) : evC Try.prog ⟨23, []⟩ (F16 k) [] (lpAt (bodyOf Try.f16) [0]) (Kb [] [] [] S16_3 X16_3 R16_3 rec) (mkSt [] [] S16_3 v.1 v.2) = (laws_toOutS_s3 k) rec v := by kernel_rfl
theorem lp16_3 (k : Nat) {c : Cx} (hP : c.P = Try.prog) (hm : c.m = ⟨23, []⟩) (hg : c.gs = []) : LoopOk c (lo16_3 k) (lpAt (bodyOf Try.f16) [0]) :=
  loop_at hP hm hg (okF16 k) (LInv.of (code := (lpAt (bodyOf Try.f16) [0])) (bs := []) (by kernel_rfl) LInv.nil) (fun rec v => st16_3 k rec v) k
theorem ev16 (k : Nat) (x) : evF Try.prog (F16 k) [(3, lo16_3 k)] Try.f16 (bodyOf Try.f16) (c16 k).ps (c16 k).rs (c16 k).rm x = (c16 k).m x := by kernel_rfl
theorem ok16 (k : Nat) : ConOk Try.prog (c16 k) :=
  fn_at (okF16 k) (cn := c16 k) (fn := Try.f16) (code := bodyOf Try.f16) (m := ⟨23, []⟩) (gs := []) (by kernel_rfl) (by kernel_rfl) (by kernel_rfl) (by kernel_rfl) (by kernel_rfl) (fun _ => by kernel_rfl)
    [(3, lo16_3 k)] (fun c hP hm hg => (LInv.of (code := (bodyOf Try.f16)) (bs := [(lpAt (bodyOf Try.f16) [0])]) (by kernel_rfl) (LInv.cons (b := (lpAt (bodyOf Try.f16) [0])) (by kernel_rfl) (lp16_3 k hP hm hg) LInv.nil))) (ev16 k)
def c35 (k : Nat) : Con := ⟨35, [((.sl T_Out), false)], [.bool], (.own true), fun x => spec_l24Few x.1⟩
def F35 (k : Nat) : List Con := []
theorem okF35 (k : Nat) : ∀ cn ∈ F35 k, ConOk Try.prog cn := conNil
theorem ev35 (k : Nat) (x) : evF Try.prog (F35 k) [] Try.f35 (bodyOf Try.f35) (c35 k).ps (c35 k).rs (c35 k).rm x = (c35 k).m x := by kernel_rfl
theorem ok35 (k : Nat) : ConOk Try.prog (c35 k) :=
  fn_at (okF35 k) (cn := c35 k) (fn := Try.f35) (code := bodyOf Try.f35) (m := ⟨6, []⟩) (gs := []) (by kernel_rfl) (by kernel_rfl) (by kernel_rfl) (by kernel_rfl) (by kernel_rfl) (fun _ => by kernel_rfl)
    [] (fun c hP hm hg => (LInv.of (code := (bodyOf Try.f35)) (bs := []) (by kernel_rfl) LInv.nil)) (ev35 k)
def c15 (k : Nat) : Con := ⟨15, [((.sl T_Out), false)], [(.sl (.int .i64))], (.own true), fun x => spec_Tally k x.1⟩
def F15 (k : Nat) : List Con := [c35 k]
theorem okF15 (k : Nat) : ∀ cn ∈ F15 k, ConOk Try.prog cn := (conCons (ok35 k) conNil)
abbrev S15_5 : Shape := [(0, .v (.sl T_Out)), (3, .own true (.sl (.int .i64))), (4, .v (.int .i64))]
abbrev X15_5 : Exit × Shape := (Exit.exit 0, [(3, .own true (.sl (.int .i64)))])
abbrev R15_5 : List (Exit × Shape) := []
def lo15_5 (k : Nat) : LO := loopO [] [] [] S15_5 X15_5 R15_5 (iter (spec_Tally_s5) k)
theorem st15_5 (k : Nat) (rec v) : evC Try.prog ⟨69, []⟩ (F15 k) [] (lpAt (bodyOf Try.f15) [0]) (Kb [] [] [] S15_5 X15_5 R15_5 rec) (mkSt [] [] S15_5 v.1 v.2) = (spec_Tally_s5) rec v := by kernel_rfl
theorem lp15_5 (k : Nat) {c : Cx} (hP : c.P = Try.prog) (hm : c.m = ⟨69, []⟩) (hg : c.gs = []) : LoopOk c (lo15_5 k) (lpAt (bodyOf Try.f15) [0]) :=
  loop_at hP hm hg (okF15 k) (LInv.of (code := (lpAt (bodyOf Try.f15) [0])) (bs := []) (by kernel_rfl) LInv.nil) (fun rec v => st15_5 k rec v) k
theorem ev15 (k : Nat) (x) : evF Try.prog (F15 k) [(5, lo15_5 k)] Try.f15 (bodyOf Try.f15) (c15 k).ps (c15 k).rs (c15 k).rm x = (c15 k).m x := by kernel_rfl
theorem ok15 (k : Nat) : ConOk Try.prog (c15 k) :=
  fn_at (okF15 k) (cn := c15 k) (fn := Try.f15) (code := bodyOf Try.f15) (m := ⟨69, []⟩) (gs := []) (by kernel_rfl) (by kernel_rfl) (by kernel_rfl) (by kernel_rfl) (by kernel_rfl) (fun _ => by kernel_rfl)
    [(5, lo15_5 k)] (fun c hP hm hg => (LInv.of (code := (bodyOf Try.f15)) (bs := [(lpAt (bodyOf Try.f15) [0])]) (by kernel_rfl) (LInv.cons (b := (lpAt (bodyOf Try.f15) [0])) (by kernel_rfl) (lp15_5 k hP hm hg) LInv.nil))) (ev15 k)
def c17 (k : Nat) : Con := ⟨17, [((.sl T_Out), false)], [(.sl (.int .i64))], (.own true), fun x => impl_Tally k x.1⟩
def F17 (k : Nat) : List Con := [c37 k]
theorem okF17 (k : Nat) : ∀ cn ∈ F17 k, ConOk Try.prog cn := (conCons (ok37 k) conNil)
abbrev S17_5 : Shape := [(3, .own true (.sl (.int .i64))), (10, .v (.sl T_Out)), (11, .v (.int .i64)), (12, .v (.int .i64))]
abbrev X17_5 : Exit × Shape := (Exit.exit 0, [(3, .own true (.sl (.int .i64)))])
abbrev R17_5 : List (Exit × Shape) := []
def lo17_5 (k : Nat) : LO := loopO [] [] [] S17_5 X17_5 R17_5 (iter (impl_Tally_s5) k)
theorem st17_5 (k : Nat) (rec v) : evC Try.prog ⟨75, []⟩ (F17 k) [] (lpAt (bodyOf Try.f17) [0]) (Kb [] [] [] S17_5 X17_5 R17_5 rec) (mkSt [] [] S17_5 v.1 v.2) = (impl_Tally_s5) rec v := by kernel_rfl
theorem lp17_5 (k : Nat) {c : Cx} (hP : c.P = Try.prog) (hm : c.m = ⟨75, []⟩) (hg : c.gs = []) : LoopOk c (lo17_5 k) (lpAt (bodyOf Try.f17) [0]) :=
  loop_at hP hm hg (okF17 k) (LInv.of (code := (lpAt (bodyOf Try.f17) [0])) (bs := []) (by kernel_rfl) LInv.nil) (fun rec v => st17_5 k rec v) k
theorem ev17 (k : Nat) (x) : evF Try.prog (F17 k) [(5, lo17_5 k)] Try.f17 (bodyOf Try.f17) (c17 k).ps (c17 k).rs (c17 k).rm x = (c17 k).m x := by kernel_rfl
theorem ok17 (k : Nat) : ConOk Try.prog (c17 k) :=
  fn_at (okF17 k) (cn := c17 k) (fn := Try.f17) (code := bodyOf Try.f17) (m := ⟨75, []⟩) (gs := []) (by kernel_rfl) (by kernel_rfl) (by kernel_rfl) (by kernel_rfl) (by kernel_rfl) (fun _ => by kernel_rfl)
    [(5, lo17_5 k)] (fun c hP hm hg => (LInv.of (code := (bodyOf Try.f17)) (bs := [(lpAt (bodyOf Try.f17) [0])]) (by kernel_rfl) (LInv.cons (b := (lpAt (bodyOf Try.f17) [0])) (by kernel_rfl) (lp17_5 k hP hm hg) LInv.nil))) (ev17 k)
def c18 (k : Nat) : Con := ⟨18, [((.sl (.int .i64)), false), ((.sl (.int .i64)), false)], [.bool], (.own true), fun x => laws_eqIntS k x.1 x.2.1⟩
def F18 (k : Nat) : List Con := []
theorem okF18 (k : Nat) : ∀ cn ∈ F18 k, ConOk Try.prog cn := conNil
abbrev S18_4 : Shape := [(0, .v (.sl (.int .i64))), (1, .v (.sl (.int .i64))), (5, .v (.int .i64))]
abbrev X18_4 : Exit × Shape := (Exit.ret, [(4, .v .bool)])
abbrev R18_4 : List (Exit × Shape) := [(Exit.exit 0, [])]
def lo18_4 (k : Nat) : LO := loopO [] [] [] S18_4 X18_4 R18_4 (iter (laws_eqIntS_s4) k)
theorem st18_4 (k : Nat) (rec v) : evC Try.prog ⟨26, []⟩ (F18 k) [] (lpAt (bodyOf Try.f18) [0]) (Kb [] [] [] S18_4 X18_4 R18_4 rec) (mkSt [] [] S18_4 v.1 v.2) = (laws_eqIntS_s4) rec v := by kernel_rfl
theorem lp18_4 (k : Nat) {c : Cx} (hP : c.P = Try.prog) (hm : c.m = ⟨26, []⟩) (hg : c.gs = []) : LoopOk c (lo18_4 k) (lpAt (bodyOf Try.f18) [0]) :=
  loop_at hP hm hg (okF18 k) (LInv.of (code := (lpAt (bodyOf Try.f18) [0])) (bs := []) (by kernel_rfl) LInv.nil) (fun rec v => st18_4 k rec v) k
theorem ev18 (k : Nat) (x) : evF Try.prog (F18 k) [(4, lo18_4 k)] Try.f18 (bodyOf Try.f18) (c18 k).ps (c18 k).rs (c18 k).rm x = (c18 k).m x := by kernel_rfl
theorem ok18 (k : Nat) : ConOk Try.prog (c18 k) :=
  fn_at (okF18 k) (cn := c18 k) (fn := Try.f18) (code := bodyOf Try.f18) (m := ⟨26, []⟩) (gs := []) (by kernel_rfl) (by kernel_rfl) (by kernel_rfl) (by kernel_rfl) (by kernel_rfl) (fun _ => by kernel_rfl)
    [(4, lo18_4 k)] (fun c hP hm hg => (LInv.of (code := (bodyOf Try.f18)) (bs := [(lpAt (bodyOf Try.f18) [0])]) (by kernel_rfl) (LInv.cons (b := (lpAt (bodyOf Try.f18) [0])) (by kernel_rfl) (lp18_4 k hP hm hg) LInv.nil))) (ev18 k)
def c38 (k : Nat) : Con := ⟨38, [(T_Out, false), (T_Out, false)], [.bool], (.own true), fun x => laws_eqOut k x.1 x.2.1⟩
def F38 (k : Nat) : List Con := [c49 k, c18 k]
theorem okF38 (k : Nat) : ∀ cn ∈ F38 k, ConOk Try.prog cn := (conCons (ok49 k) (conCons (ok18 k) conNil))
theorem ev38 (k : Nat) (x) : evF Try.prog (F38 k) [] Try.f38 (bodyOf Try.f38) (c38 k).ps (c38 k).rs (c38 k).rm x = (c38 k).m x := by kernel_rfl
theorem ok38 (k : Nat) : ConOk Try.prog (c38 k) :=
  fn_at (okF38 k) (cn := c38 k) (fn := Try.f38) (code := bodyOf Try.f38) (m := ⟨32, []⟩) (gs := []) (by kernel_rfl) (by kernel_rfl) (by kernel_rfl) (by kernel_rfl) (by kernel_rfl) (fun _ => by kernel_rfl)
    [] (fun c hP hm hg => (LInv.of (code := (bodyOf Try.f38)) (bs := []) (by kernel_rfl) LInv.nil)) (ev38 k)
def c19 (k : Nat) : Con := ⟨19, [((.sl T_Out), false), ((.sl T_Out), false)], [.bool], (.own true), fun x => laws_eqOutS k x.1 x.2.1⟩
def F19 (k : Nat) : List Con := [c38 k]
theorem okF19 (k : Nat) : ∀ cn ∈ F19 k, ConOk Try.prog cn := (conCons (ok38 k) conNil)
abbrev S19_4 : Shape := [(0, .v (.sl T_Out)), (1, .v (.sl T_Out)), (5, .v (.int .i64))]
abbrev X19_4 : Exit × Shape := (Exit.ret, [(4, .v .bool)])
abbrev R19_4 : List (Exit × Shape) := [(Exit.exit 0, [])]
def lo19_4 (k : Nat) : LO := loopO [] [] [] S19_4 X19_4 R19_4 (iter (laws_eqOutS_s4 k) k)
theorem st19_4 (k : Nat) (rec v) : evC Try.prog ⟨27, []⟩ (F19 k) [] (lpAt (bodyOf Try.f19) [0]) (Kb [] [] [] S19_4 X19_4 R19_4 rec) (mkSt [] [] S19_4 v.1 v.2) = (laws_eqOutS_s4 k) rec v := by kernel_rfl
theorem lp19_4 (k : Nat) {c : Cx} (hP : c.P = Try.prog) (hm : c.m = ⟨27, []⟩) (hg : c.gs = []) : LoopOk c (lo19_4 k) (lpAt (bodyOf Try.f19) [0]) :=
  loop_at hP hm hg (okF19 k) (LInv.of (code := (lpAt (bodyOf Try.f19) [0])) (bs := []) (by kernel_rfl) LInv.nil) (fun rec v => st19_4 k rec v) k
theorem ev19 (k : Nat) (x) : evF Try.prog (F19 k) [(4, lo19_4 k)] Try.f19 (bodyOf Try.f19) (c19 k).ps (c19 k).rs (c19 k).rm x = (c19 k).m x := by kernel_rfl
theorem ok19 (k : Nat) : ConOk Try.prog (c19 k) :=
  fn_at (okF19 k) (cn := c19 k) (fn := Try.f19) (code := bodyOf Try.f19) (m := ⟨27, []⟩) (gs := []) (by kernel_rfl) (by kernel_rfl) (by kernel_rfl) (by kernel_rfl) (by kernel_rfl) (fun _ => by kernel_rfl)
    [(4, lo19_4 k)] (fun c hP hm hg => (LInv.of (code := (bodyOf Try.f19)) (bs := [(lpAt (bodyOf Try.f19) [0])]) (by kernel_rfl) (LInv.cons (b := (lpAt (bodyOf Try.f19) [0])) (by kernel_rfl) (lp19_4 k hP hm hg) LInv.nil))) (ev19 k)
def c39 (k : Nat) : Con := ⟨39, [((.sl (.int .u8)), true), ((.int .i64), false)], [(.int .i64)], (.own true), fun x => laws_markByteS k x.1 x.2.1⟩
def F39 (k : Nat) : List Con := []
theorem okF39 (k : Nat) : ∀ cn ∈ F39 k, ConOk Try.prog cn := conNil
abbrev S39_2 : Shape := [(0, .arg 0), (1, .v (.int .i64)), (5, .v (.int .i64))]
abbrev X39_2 : Exit × Shape := (Exit.exit 0, [(1, .v (.int .i64))])
abbrev R39_2 : List (Exit × Shape) := []
def lo39_2 (k : Nat) : LO := loopO [(0, 0)] [.full 0] [(.sl (.int .u8))] S39_2 X39_2 R39_2 (iter (laws_markByteS_s2) k)
theorem st39_2 (k : Nat) (rec v) : evC Try.prog ⟨20, [(0, 0)]⟩ (F39 k) [] (lpAt (bodyOf Try.f39) [0]) (Kb [(0, 0)] [.full 0] [(.sl (.int .u8))] S39_2 X39_2 R39_2 rec) (mkSt [.full 0] [(.sl (.int .u8))] S39_2 v.1 v.2) = (laws_markByteS_s2) rec v := by kernel_rfl
theorem lp39_2 (k : Nat) {c : Cx} (hP : c.P = Try.prog) (hm : c.m = ⟨20, [(0, 0)]⟩) (hg : c.gs = [.full 0]) : LoopOk c (lo39_2 k) (lpAt (bodyOf Try.f39) [0]) :=
  loop_at hP hm hg (okF39 k) (LInv.of (code := (lpAt (bodyOf Try.f39) [0])) (bs := []) (by kernel_rfl) LInv.nil) (fun rec v => st39_2 k rec v) k
theorem ev39 (k : Nat) (x) : evF Try.prog (F39 k) [(2, lo39_2 k)] Try.f39 (bodyOf Try.f39) (c39 k).ps (c39 k).rs (c39 k).rm x = (c39 k).m x := by kernel_rfl
theorem ok39 (k : Nat) : ConOk Try.prog (c39 k) :=
  fn_at (okF39 k) (cn := c39 k) (fn := Try.f39) (code := bodyOf Try.f39) (m := ⟨20, [(0, 0)]⟩) (gs := [.full 0]) (by kernel_rfl) (by kernel_rfl) (by kernel_rfl) (by kernel_rfl) (by kernel_rfl) (fun _ => by kernel_rfl)
    [(2, lo39_2 k)] (fun c hP hm hg => (LInv.of (code := (bodyOf Try.f39)) (bs := [(lpAt (bodyOf Try.f39) [0])]) (by kernel_rfl) (LInv.cons (b := (lpAt (bodyOf Try.f39) [0])) (by kernel_rfl) (lp39_2 k hP hm hg) LInv.nil))) (ev39 k)
def c21 (k : Nat) : Con := ⟨21, [((.sl (.int .i64)), true), ((.int .i64), false)], [(.int .i64)], (.own true), fun x => laws_markIntS k x.1 x.2.1⟩
def F21 (k : Nat) : List Con := []
theorem okF21 (k : Nat) : ∀ cn ∈ F21 k, ConOk Try.prog cn := conNil
abbrev S21_2 : Shape := [(0, .arg 0), (1, .v (.int .i64)), (5, .v (.int .i64))]
abbrev X21_2 : Exit × Shape := (Exit.exit 0, [(1, .v (.int .i64))])
abbrev R21_2 : List (Exit × Shape) := []
def lo21_2 (k : Nat) : LO := loopO [(0, 0)] [.full 0] [(.sl (.int .i64))] S21_2 X21_2 R21_2 (iter (laws_markIntS_s2) k)
theorem st21_2 (k : Nat) (rec v) : evC Try.prog ⟨19, [(0, 0)]⟩ (F21 k) [] (lpAt (bodyOf Try.f21) [0]) (Kb [(0, 0)] [.full 0] [(.sl (.int .i64))] S21_2 X21_2 R21_2 rec) (mkSt [.full 0] [(.sl (.int .i64))] S21_2 v.1 v.2) = (laws_markIntS_s2) rec v := by kernel_rfl
theorem lp21_2 (k : Nat) {c : Cx} (hP : c.P = Try.prog) (hm : c.m = ⟨19, [(0, 0)]⟩) (hg : c.gs = [.full 0]) : LoopOk c (lo21_2 k) (lpAt (bodyOf Try.f21) [0]) :=
  loop_at hP hm hg (okF21 k) (LInv.of (code := (lpAt (bodyOf Try.f21) [0])) (bs := []) (by kernel_rfl) LInv.nil) (fun rec v => st21_2 k rec v) k
theorem ev21 (k : Nat) (x) : evF Try.prog (F21 k) [(2, lo21_2 k)] Try.f21 (bodyOf Try.f21) (c21 k).ps (c21 k).rs (c21 k).rm x = (c21 k).m x := by kernel_rfl
theorem ok21 (k : Nat) : ConOk Try.prog (c21 k) :=
  fn_at (okF21 k) (cn := c21 k) (fn := Try.f21) (code := bodyOf Try.f21) (m := ⟨19, [(0, 0)]⟩) (gs := [.full 0]) (by kernel_rfl) (by kernel_rfl) (by kernel_rfl) (by kernel_rfl) (by kernel_rfl) (fun _ => by kernel_rfl)
    [(2, lo21_2 k)] (fun c hP hm hg => (LInv.of (code := (bodyOf Try.f21)) (bs := [(lpAt (bodyOf Try.f21) [0])]) (by kernel_rfl) (LInv.cons (b := (lpAt (bodyOf Try.f21) [0])) (by kernel_rfl) (lp21_2 k hP hm hg) LInv.nil))) (ev21 k)
def c20 (k : Nat) : Con := ⟨20, [((.sl T_Out), true), ((.int .i64), false)], [(.int .i64)], (.own true), fun x => laws_markOutS k x.1 x.2.1⟩
def F20 (k : Nat) : List Con := [c39 k, c21 k]
theorem okF20 (k : Nat) : ∀ cn ∈ F20 k, ConOk Try.prog cn := (conCons (ok39 k) (conCons (ok21 k) conNil))
abbrev S20_2 : Shape := [(0, .arg 0), (1, .v (.int .i64)), (5, .v (.int .i64))]
abbrev X20_2 : Exit × Shape := (Exit.exit 0, [(1, .v (.int .i64))])
abbrev R20_2 : List (Exit × Shape) := []
def lo20_2 (k : Nat) : LO := loopO [(0, 0)] [.full 0] [(.sl T_Out)] S20_2 X20_2 R20_2 (iter (laws_markOutS_s2 k) k)
theorem st20_2 (k : Nat) (rec v) : evC Try.prog ⟨48, [(0, 0)]⟩ (F20 k) [] (lpAt (bodyOf Try.f20) [0]) (Kb [(0, 0)] [.full 0] [(.sl T_Out)] S20_2 X20_2 R20_2 rec) (mkSt [.full 0] [(.sl T_Out)] S20_2 v.1 v.2) = (laws_markOutS_s2 k) rec v := by kernel_rfl
theorem lp20_2 (k : Nat) {c : Cx} (hP : c.P = Try.prog) (hm : c.m = ⟨48, [(0, 0)]⟩) (hg : c.gs = [.full 0]) : LoopOk c (lo20_2 k) (lpAt (bodyOf Try.f20) [0]) :=
  loop_at hP hm hg (okF20 k) (LInv.of (code := (lpAt (bodyOf Try.f20) [0])) (bs := []) (by kernel_rfl) LInv.nil) (fun rec v => st20_2 k rec v) k
theorem ev20 (k : Nat) (x) : evF Try.prog (F20 k) [(2, lo20_2 k)] Try.f20 (bodyOf Try.f20) (c20 k).ps (c20 k).rs (c20 k).rm x = (c20 k).m x := by kernel_rfl
theorem ok20 (k : Nat) : ConOk Try.prog (c20 k) :=
  fn_at (okF20 k) (cn := c20 k) (fn := Try.f20) (code := bodyOf Try.f20) (m := ⟨48, [(0, 0)]⟩) (gs := [.full 0]) (by kernel_rfl) (by kernel_rfl) (by kernel_rfl) (by kernel_rfl) (by kernel_rfl) (fun _ => by kernel_rfl)
    [(2, lo20_2 k)] (fun c hP hm hg => (LInv.of (code := (bodyOf Try.f20)) (bs := [(lpAt (bodyOf Try.f20) [0])]) (by kernel_rfl) (LInv.cons (b := (lpAt (bodyOf Try.f20) [0])) (by kernel_rfl) (lp20_2 k hP hm hg) LInv.nil))) (ev20 k)
def c22 (k : Nat) : Con := ⟨22, [((.sl (.int .i64)), false), ((.int .i64), false)], [(.int .i64)], (.own true), fun x => laws_heldIntS k x.1 x.2.1⟩
def F22 (k : Nat) : List Con := []
theorem okF22 (k : Nat) : ∀ cn ∈ F22 k, ConOk Try.prog cn := conNil
abbrev S22_2 : Shape := [(0, .v (.sl (.int .i64))), (1, .v (.int .i64)), (5, .v (.int .i64))]
abbrev X22_2 : Exit × Shape := (Exit.ret, [(4, .v (.int .i64))])
abbrev R22_2 : List (Exit × Shape) := [(Exit.exit 0, [(1, .v (.int .i64))])]
def lo22_2 (k : Nat) : LO := loopO [] [] [] S22_2 X22_2 R22_2 (iter (laws_heldIntS_s2) k)
theorem st22_2 (k : Nat) (rec v) : evC Try.prog ⟨21, []⟩ (F22 k) [] (lpAt (bodyOf Try.f22) [0]) (Kb [] [] [] S22_2 X22_2 R22_2 rec) (mkSt [] [] S22_2 v.1 v.2) = (laws_heldIntS_s2) rec v := by kernel_rfl
theorem lp22_2 (k : Nat) {c : Cx} (hP : c.P = Try.prog) (hm : c.m = ⟨21, []⟩) (hg : c.gs = []) : LoopOk c (lo22_2 k) (lpAt (bodyOf Try.f22) [0]) :=
  loop_at hP hm hg (okF22 k) (LInv.of (code := (lpAt (bodyOf Try.f22) [0])) (bs := []) (by kernel_rfl) LInv.nil) (fun rec v => st22_2 k rec v) k
theorem ev22 (k : Nat) (x) : evF Try.prog (F22 k) [(2, lo22_2 k)] Try.f22 (bodyOf Try.f22) (c22 k).ps (c22 k).rs (c22 k).rm x = (c22 k).m x := by kernel_rfl
theorem ok22 (k : Nat) : ConOk Try.prog (c22 k) :=
  fn_at (okF22 k) (cn := c22 k) (fn := Try.f22) (code := bodyOf Try.f22) (m := ⟨21, []⟩) (gs := []) (by kernel_rfl) (by kernel_rfl) (by kernel_rfl) (by kernel_rfl) (by kernel_rfl) (fun _ => by kernel_rfl)
    [(2, lo22_2 k)] (fun c hP hm hg => (LInv.of (code := (bodyOf Try.f22)) (bs := [(lpAt (bodyOf Try.f22) [0])]) (by kernel_rfl) (LInv.cons (b := (lpAt (bodyOf Try.f22) [0])) (by kernel_rfl) (lp22_2 k hP hm hg) LInv.nil))) (ev22 k)
def c5 (k : Nat) : Con := ⟨5, [((.sl T_Out), false)], [.bool], (.own true), fun x => laws_FnExactTally k x.1⟩
def F5 (k : Nat) : List Con := [c14 k, c16 k, c15 k, c17 k, c18 k, c19 k, c20 k, c21 k, c22 k]
theorem okF5 (k : Nat) : ∀ cn ∈ F5 k, ConOk Try.prog cn := (conCons (ok14 k) (conCons (ok16 k) (conCons (ok15 k) (conCons (ok17 k) (conCons (ok18 k) (conCons (ok19 k) (conCons (ok20 k) (conCons (ok21 k) (conCons (ok22 k) conNil)))))))))
theorem ev5 (k : Nat) (x) : evF Try.prog (F5 k) [] Try.f5 (bodyOf Try.f5) (c5 k).ps (c5 k).rs (c5 k).rm x = (c5 k).m x := by kernel_rfl
theorem ok5 (k : Nat) : ConOk Try.prog (c5 k) :=
  fn_at (okF5 k) (cn := c5 k) (fn := Try.f5) (code := bodyOf Try.f5) (m := ⟨69, []⟩) (gs := []) (by kernel_rfl) (by kernel_rfl) (by kernel_rfl) (by kernel_rfl) (by kernel_rfl) (fun _ => by kernel_rfl)
    [] (fun c hP hm hg => (LInv.of (code := (bodyOf Try.f5)) (bs := []) (by kernel_rfl) LInv.nil)) (ev5 k)
def c23 (k : Nat) : Con := ⟨23, [(T_Left, false), ((.int .i64), false)], [(.int .i64)], (.own true), fun x => laws_szLeft x.1 x.2.1⟩
def F23 (k : Nat) : List Con := [c40 k]
theorem okF23 (k : Nat) : ∀ cn ∈ F23 k, ConOk Try.prog cn := (conCons (ok40 k) conNil)
theorem ev23 (k : Nat) (x) : evF Try.prog (F23 k) [] Try.f23 (bodyOf Try.f23) (c23 k).ps (c23 k).rs (c23 k).rm x = (c23 k).m x := by kernel_rfl
theorem ok23 (k : Nat) : ConOk Try.prog (c23 k) :=
  fn_at (okF23 k) (cn := c23 k) (fn := Try.f23) (code := bodyOf Try.f23) (m := ⟨18, []⟩) (gs := []) (by kernel_rfl) (by kernel_rfl) (by kernel_rfl) (by kernel_rfl) (by kernel_rfl) (fun _ => by kernel_rfl)
    [] (fun c hP hm hg => (LInv.of (code := (bodyOf Try.f23)) (bs := []) (by kernel_rfl) LInv.nil)) (ev23 k)
def c25 (k : Nat) : Con := ⟨25, [(T_Left, false)], [T_Left], (.own true), fun x => laws_toLeft k x.1⟩
def F25 (k : Nat) : List Con := [c42 k]
theorem okF25 (k : Nat) : ∀ cn ∈ F25 k, ConOk Try.prog cn := (conCons (ok42 k) conNil)
theorem ev25 (k : Nat) (x) : evF Try.prog (F25 k) [] Try.f25 (bodyOf Try.f25) (c25 k).ps (c25 k).rs (c25 k).rm x = (c25 k).m x := by kernel_rfl
theorem ok25 (k : Nat) : ConOk Try.prog (c25 k) :=
  fn_at (okF25 k) (cn := c25 k) (fn := Try.f25) (code := bodyOf Try.f25) (m := ⟨22, []⟩) (gs := []) (by kernel_rfl) (by kernel_rfl) (by kernel_rfl) (by kernel_rfl) (by kernel_rfl) (fun _ => by kernel_rfl)
    [] (fun c hP hm hg => (LInv.of (code := (bodyOf Try.f25)) (bs := []) (by kernel_rfl) LInv.nil)) (ev25 k)
def c41 (k : Nat) : Con := ⟨41, [((.sl (.int .i64)), false), ((.int .i64), false)], [.bool], (.own true), fun x => spec_l19In k x.1 x.2.1⟩
def F41 (k : Nat) : List Con := []
theorem okF41 (k : Nat) : ∀ cn ∈ F41 k, ConOk Try.prog cn := conNil
abbrev S41_2 : Shape := [(0, .v (.sl (.int .i64))), (1, .v (.int .i64)), (5, .v (.int .i64))]
abbrev X41_2 : Exit × Shape := (Exit.ret, [(4, .v .bool)])
abbrev R41_2 : List (Exit × Shape) := [(Exit.exit 0, [])]
def lo41_2 (k : Nat) : LO := loopO [] [] [] S41_2 X41_2 R41_2 (iter (spec_l19In_s2) k)
theorem st41_2 (k : Nat) (rec v) : evC Try.prog ⟨18, []⟩ (F41 k) [] (lpAt (bodyOf Try.f41) [0]) (Kb [] [] [] S41_2 X41_2 R41_2 rec) (mkSt [] [] S41_2 v.1 v.2) = (spec_l19In_s2) rec v := by kernel_rfl
theorem lp41_2 (k : Nat) {c : Cx} (hP : c.P = Try.prog) (hm : c.m = ⟨18, []⟩) (hg : c.gs = []) : LoopOk c (lo41_2 k) (lpAt (bodyOf Try.f41) [0]) :=
  loop_at hP hm hg (okF41 k) (LInv.of (code := (lpAt (bodyOf Try.f41) [0])) (bs := []) (by kernel_rfl) LInv.nil) (fun rec v => st41_2 k rec v) k
theorem ev41 (k : Nat) (x) : evF Try.prog (F41 k) [(2, lo41_2 k)] Try.f41 (bodyOf Try.f41) (c41 k).ps (c41 k).rs (c41 k).rm x = (c41 k).m x := by kernel_rfl
theorem ok41 (k : Nat) : ConOk Try.prog (c41 k) :=
  fn_at (okF41 k) (cn := c41 k) (fn := Try.f41) (code := bodyOf Try.f41) (m := ⟨18, []⟩) (gs := []) (by kernel_rfl) (by kernel_rfl) (by kernel_rfl) (by kernel_rfl) (by kernel_rfl) (fun _ => by kernel_rfl)
    [(2, lo41_2 k)] (fun c hP hm hg => (LInv.of (code := (bodyOf Try.f41)) (bs := [(lpAt (bodyOf Try.f41) [0])]) (by kernel_rfl) (LInv.cons (b := (lpAt (bodyOf Try.f41) [0])) (by kernel_rfl) (lp41_2 k hP hm hg) LInv.nil))) (ev41 k)
def c24 (k : Nat) : Con := ⟨24, [((.sl T_Out), false), (T_Left, false), ((.int .i64), false)], [(.int .i64)], (.own true), fun x => spec_Fate k x.1 x.2.1 x.2.2.1⟩
def F24 (k : Nat) : List Con := [c35 k, c41 k]
theorem okF24 (k : Nat) : ∀ cn ∈ F24 k, ConOk Try.prog cn := (conCons (ok35 k) (conCons (ok41 k) conNil))
abbrev S24_7 : Shape := [(0, .v (.sl T_Out)), (2, .v (.int .i64)), (4, .boxv T_Left), (7, .v (.int .i64)), (8, .v (.int .i64))]
abbrev X24_7 : Exit × Shape := (Exit.ret, [(6, .v (.int .i64))])
abbrev R24_7 : List (Exit × Shape) := [(Exit.exit 2, [(0, .v (.sl T_Out)), (2, .v (.int .i64)), (4, .boxv T_Left), (7, .v (.int .i64))])]
def lo24_7 (k : Nat) : LO := loopO [] [] [] S24_7 X24_7 R24_7 (iter (spec_Fate_s7) k)
theorem st24_7 (k : Nat) (rec v) : evC Try.prog ⟨59, []⟩ (F24 k) [] (lpAt (bodyOf Try.f24) [0, 0]) (Kb [] [] [] S24_7 X24_7 R24_7 rec) (mkSt [] [] S24_7 v.1 v.2) = (spec_Fate_s7) rec v := by kernel_rfl
theorem lp24_7 (k : Nat) {c : Cx} (hP : c.P = Try.prog) (hm : c.m = ⟨59, []⟩) (hg : c.gs = []) : LoopOk c (lo24_7 k) (lpAt (bodyOf Try.f24) [0, 0]) :=
  loop_at hP hm hg (okF24 k) (LInv.of (code := (lpAt (bodyOf Try.f24) [0, 0])) (bs := []) (by kernel_rfl) LInv.nil) (fun rec v => st24_7 k rec v) k
abbrev S24_4 : Shape := [(0, .v (.sl T_Out)), (2, .v (.int .i64)), (4, .boxv T_Left), (7, .v (.int .i64))]
abbrev X24_4 : Exit × Shape := (Exit.ret, [(6, .v (.int .i64))])
abbrev R24_4 : List (Exit × Shape) := [(Exit.exit 0, [(2, .v (.int .i64)), (4, .boxv T_Left)])]
def lo24_4 (k : Nat) : LO := loopO [] [] [] S24_4 X24_4 R24_4 (iter (spec_Fate_s4 k) k)
theorem st24_4 (k : Nat) (rec v) : evC Try.prog ⟨59, []⟩ (F24 k) [(7, lo24_7 k)] (lpAt (bodyOf Try.f24) [0]) (Kb [] [] [] S24_4 X24_4 R24_4 rec) (mkSt [] [] S24_4 v.1 v.2) = (spec_Fate_s4 k) rec v := by kernel_rfl
theorem lp24_4 (k : Nat) {c : Cx} (hP : c.P = Try.prog) (hm : c.m = ⟨59, []⟩) (hg : c.gs = []) : LoopOk c (lo24_4 k) (lpAt (bodyOf Try.f24) [0]) :=
  loop_at hP hm hg (okF24 k) (LInv.of (code := (lpAt (bodyOf Try.f24) [0])) (bs := [(lpAt (bodyOf Try.f24) [0, 0])]) (by kernel_rfl) (LInv.cons (b := (lpAt (bodyOf Try.f24) [0, 0])) (by kernel_rfl) (lp24_7 k hP hm hg) LInv.nil)) (fun rec v => st24_4 k rec v) k
theorem ev24 (k : Nat) (x) : evF Try.prog (F24 k) [(4, lo24_4 k)] Try.f24 (bodyOf Try.f24) (c24 k).ps (c24 k).rs (c24 k).rm x = (c24 k).m x := by kernel_rfl
theorem ok24 (k : Nat) : ConOk Try.prog (c24 k) :=
  fn_at (okF24 k) (cn := c24 k) (fn := Try.f24) (code := bodyOf Try.f24) (m := ⟨59, []⟩) (gs := []) (by kernel_rfl) (by kernel_rfl) (by kernel_rfl) (by kernel_rfl) (by kernel_rfl) (fun _ => by kernel_rfl)
    [(4, lo24_4 k)] (fun c hP hm hg => (LInv.of (code := (bodyOf Try.f24)) (bs := [(lpAt (bodyOf Try.f24) [0])]) (by kernel_rfl) (LInv.cons (b := (lpAt (bodyOf Try.f24) [0])) (by kernel_rfl) (lp24_4 k hP hm hg) LInv.nil))) (ev24 k)
def c43 (k : Nat) : Con := ⟨43, [((.sl T_Out), false), (T_Left, false)], [.bool], (.own true), fun x => impl_areShort x.1 x.2.1⟩
def F43 (k : Nat) : List Con := []
theorem okF43 (k : Nat) : ∀ cn ∈ F43 k, ConOk Try.prog cn := conNil
theorem ev43 (k : Nat) (x) : evF Try.prog (F43 k) [] Try.f43 (bodyOf Try.f43) (c43 k).ps (c43 k).rs (c43 k).rm x = (c43 k).m x := by kernel_rfl
theorem ok43 (k : Nat) : ConOk Try.prog (c43 k) :=
  fn_at (okF43 k) (cn := c43 k) (fn := Try.f43) (code := bodyOf Try.f43) (m := ⟨20, []⟩) (gs := []) (by kernel_rfl) (by kernel_rfl) (by kernel_rfl) (by kernel_rfl) (by kernel_rfl) (fun _ => by kernel_rfl)
    [] (fun c hP hm hg => (LInv.of (code := (bodyOf Try.f43)) (bs := []) (by kernel_rfl) LInv.nil)) (ev43 k)
def c52 (k : Nat) : Con := ⟨52, [(T_Out, false), ((.ref (.int .i64)), false), ((.ref (.int .i64)), false)], [.bool], (.own true), fun x => impl_isOver_1 x.1 x.2.1 x.2.2.1⟩
def F52 (k : Nat) : List Con := []
theorem okF52 (k : Nat) : ∀ cn ∈ F52 k, ConOk Try.prog cn := conNil
theorem ev52 (k : Nat) (x) : evF Try.prog (F52 k) [] Try.f52 (bodyOf Try.f52) (c52 k).ps (c52 k).rs (c52 k).rm x = (c52 k).m x := by kernel_rfl
theorem ok52 (k : Nat) : ConOk Try.prog (c52 k) :=
  fn_at (okF52 k) (cn := c52 k) (fn := Try.f52) (code := bodyOf Try.f52) (m := ⟨15, []⟩) (gs := []) (by kernel_rfl) (by kernel_rfl) (by kernel_rfl) (by kernel_rfl) (by kernel_rfl) (fun _ => by kernel_rfl)
    [] (fun c hP hm hg => (LInv.of (code := (bodyOf Try.f52)) (bs := []) (by kernel_rfl) LInv.nil)) (ev52 k)
def c54 (k : Nat) : Con := ⟨54, [((.sl T_Out), false), ((.cl 52 (.pr (.ref (.int .i64)) (.pr (.ref (.int .i64)) .un))), false)], [(.int .i64)], (.own true), fun x => slices_IndexFunc_impl_Out_impl_Out k x.1 x.2.1⟩
def F54 (k : Nat) : List Con := [c52 k]
theorem okF54 (k : Nat) : ∀ cn ∈ F54 k, ConOk Try.prog cn := (conCons (ok52 k) conNil)
abbrev S54_2 : Shape := [(0, .v (.sl T_Out)), (1, .v (.cl 52 (.pr (.ref (.int .i64)) (.pr (.ref (.int .i64)) .un)))), (7, .v (.int .i64)), (8, .v (.int .i64))]
abbrev X54_2 : Exit × Shape := (Exit.ret, [(4, .v (.int .i64))])
abbrev R54_2 : List (Exit × Shape) := [(Exit.exit 0, [])]
def lo54_2 (k : Nat) : LO := loopO [] [] [] S54_2 X54_2 R54_2 (iter (slices_IndexFunc_impl_Out_impl_Out_s2) k)
theorem st54_2 (k : Nat) (rec v) : evC Try.prog ⟨19, []⟩ (F54 k) [] (lpAt (bodyOf Try.f54) [0]) (Kb [] [] [] S54_2 X54_2 R54_2 rec) (mkSt [] [] S54_2 v.1 v.2) = (slices_IndexFunc_impl_Out_impl_Out_s2) rec v := by kernel_rfl
theorem lp54_2 (k : Nat) {c : Cx} (hP : c.P = Try.prog) (hm : c.m = ⟨19, []⟩) (hg : c.gs = []) : LoopOk c (lo54_2 k) (lpAt (bodyOf Try.f54) [0]) :=
  loop_at hP hm hg (okF54 k) (LInv.of (code := (lpAt (bodyOf Try.f54) [0])) (bs := []) (by kernel_rfl) LInv.nil) (fun rec v => st54_2 k rec v) k
theorem ev54 (k : Nat) (x) : evF Try.prog (F54 k) [(2, lo54_2 k)] Try.f54 (bodyOf Try.f54) (c54 k).ps (c54 k).rs (c54 k).rm x = (c54 k).m x := by kernel_rfl
theorem ok54 (k : Nat) : ConOk Try.prog (c54 k) :=
  fn_at (okF54 k) (cn := c54 k) (fn := Try.f54) (code := bodyOf Try.f54) (m := ⟨19, []⟩) (gs := []) (by kernel_rfl) (by kernel_rfl) (by kernel_rfl) (by kernel_rfl) (by kernel_rfl) (fun _ => by kernel_rfl)
    [(2, lo54_2 k)] (fun c hP hm hg => (LInv.of (code := (bodyOf Try.f54)) (bs := [(lpAt (bodyOf Try.f54) [0])]) (by kernel_rfl) (LInv.cons (b := (lpAt (bodyOf Try.f54) [0])) (by kernel_rfl) (lp54_2 k hP hm hg) LInv.nil))) (ev54 k)
def c51 (k : Nat) : Con := ⟨51, [((.sl T_Out), false), ((.cl 52 (.pr (.ref (.int .i64)) (.pr (.ref (.int .i64)) .un))), false)], [.bool], (.own true), fun x => slices_ContainsFunc_impl_Out_impl_Out k x.1 x.2.1⟩
def F51 (k : Nat) : List Con := [c54 k]
theorem okF51 (k : Nat) : ∀ cn ∈ F51 k, ConOk Try.prog cn := (conCons (ok54 k) conNil)
theorem ev51 (k : Nat) (x) : evF Try.prog (F51 k) [] Try.f51 (bodyOf Try.f51) (c51 k).ps (c51 k).rs (c51 k).rm x = (c51 k).m x := by kernel_rfl
theorem ok51 (k : Nat) : ConOk Try.prog (c51 k) :=
  fn_at (okF51 k) (cn := c51 k) (fn := Try.f51) (code := bodyOf Try.f51) (m := ⟨9, []⟩) (gs := []) (by kernel_rfl) (by kernel_rfl) (by kernel_rfl) (by kernel_rfl) (by kernel_rfl) (fun _ => by kernel_rfl)
    [] (fun c hP hm hg => (LInv.of (code := (bodyOf Try.f51)) (bs := []) (by kernel_rfl) LInv.nil)) (ev51 k)
def c44 (k : Nat) : Con := ⟨44, [((.sl T_Out), false), ((.int .i64), false), ((.int .i64), false)], [.bool], (.own true), fun x => impl_isOver k x.1 x.2.1 x.2.2.1⟩
def F44 (k : Nat) : List Con := [c51 k]
theorem okF44 (k : Nat) : ∀ cn ∈ F44 k, ConOk Try.prog cn := (conCons (ok51 k) conNil)
theorem ev44 (k : Nat) (x) : evF Try.prog (F44 k) [] Try.f44 (bodyOf Try.f44) (c44 k).ps (c44 k).rs (c44 k).rm x = (c44 k).m x := by kernel_rfl
theorem ok44 (k : Nat) : ConOk Try.prog (c44 k) :=
  fn_at (okF44 k) (cn := c44 k) (fn := Try.f44) (code := bodyOf Try.f44) (m := ⟨10, []⟩) (gs := []) (by kernel_rfl) (by kernel_rfl) (by kernel_rfl) (by kernel_rfl) (by kernel_rfl) (fun _ => by kernel_rfl)
    [] (fun c hP hm hg => (LInv.of (code := (bodyOf Try.f44)) (bs := []) (by kernel_rfl) LInv.nil)) (ev44 k)
def c53 (k : Nat) : Con := ⟨53, [((.sl (.int .i64)), false), ((.int .i64), false)], [(.int .i64)], (.own true), fun x => slices_Index_int k x.1 x.2.1⟩
def F53 (k : Nat) : List Con := []
theorem okF53 (k : Nat) : ∀ cn ∈ F53 k, ConOk Try.prog cn := conNil
abbrev S53_2 : Shape := [(0, .v (.sl (.int .i64))), (1, .v (.int .i64)), (7, .v (.int .i64)), (8, .v (.int .i64))]
abbrev X53_2 : Exit × Shape := (Exit.ret, [(4, .v (.int .i64))])
abbrev R53_2 : List (Exit × Shape) := [(Exit.exit 0, [])]
def lo53_2 (k : Nat) : LO := loopO [] [] [] S53_2 X53_2 R53_2 (iter (slices_Index_int_s2) k)
theorem st53_2 (k : Nat) (rec v) : evC Try.prog ⟨19, []⟩ (F53 k) [] (lpAt (bodyOf Try.f53) [0]) (Kb [] [] [] S53_2 X53_2 R53_2 rec) (mkSt [] [] S53_2 v.1 v.2) = (slices_Index_int_s2) rec v := by kernel_rfl
theorem lp53_2 (k : Nat) {c : Cx} (hP : c.P = Try.prog) (hm : c.m = ⟨19, []⟩) (hg : c.gs = []) : LoopOk c (lo53_2 k) (lpAt (bodyOf Try.f53) [0]) :=
  loop_at hP hm hg (okF53 k) (LInv.of (code := (lpAt (bodyOf Try.f53) [0])) (bs := []) (by kernel_rfl) LInv.nil) (fun rec v => st53_2 k rec v) k
theorem ev53 (k : Nat) (x) : evF Try.prog (F53 k) [(2, lo53_2 k)] Try.f53 (bodyOf Try.f53) (c53 k).ps (c53 k).rs (c53 k).rm x = (c53 k).m x := by kernel_rfl
theorem ok53 (k : Nat) : ConOk Try.prog (c53 k) :=
  fn_at (okF53 k) (cn := c53 k) (fn := Try.f53) (code := bodyOf Try.f53) (m := ⟨19, []⟩) (gs := []) (by kernel_rfl) (by kernel_rfl) (by kernel_rfl) (by kernel_rfl) (by kernel_rfl) (fun _ => by kernel_rfl)
    [(2, lo53_2 k)] (fun c hP hm hg => (LInv.of (code := (bodyOf Try.f53)) (bs := [(lpAt (bodyOf Try.f53) [0])]) (by kernel_rfl) (LInv.cons (b := (lpAt (bodyOf Try.f53) [0])) (by kernel_rfl) (lp53_2 k hP hm hg) LInv.nil))) (ev53 k)
def c45 (k : Nat) : Con := ⟨45, [((.sl (.int .i64)), false), ((.int .i64), false)], [.bool], (.own true), fun x => slices_Contains_int k x.1 x.2.1⟩
def F45 (k : Nat) : List Con := [c53 k]
theorem okF45 (k : Nat) : ∀ cn ∈ F45 k, ConOk Try.prog cn := (conCons (ok53 k) conNil)
theorem ev45 (k : Nat) (x) : evF Try.prog (F45 k) [] Try.f45 (bodyOf Try.f45) (c45 k).ps (c45 k).rs (c45 k).rm x = (c45 k).m x := by kernel_rfl
theorem ok45 (k : Nat) : ConOk Try.prog (c45 k) :=
  fn_at (okF45 k) (cn := c45 k) (fn := Try.f45) (code := bodyOf Try.f45) (m := ⟨9, []⟩) (gs := []) (by kernel_rfl) (by kernel_rfl) (by kernel_rfl) (by kernel_rfl) (by kernel_rfl) (fun _ => by kernel_rfl)
    [] (fun c hP hm hg => (LInv.of (code := (bodyOf Try.f45)) (bs := []) (by kernel_rfl) LInv.nil)) (ev45 k)
def c26 (k : Nat) : Con := ⟨26, [((.sl T_Out), false), (T_Left, false), ((.int .i64), false)], [(.int .i64)], (.own true), fun x => impl_Fate k x.1 x.2.1 x.2.2.1⟩
def F26 (k : Nat) : List Con := [c43 k, c44 k, c45 k]
theorem okF26 (k : Nat) : ∀ cn ∈ F26 k, ConOk Try.prog cn := (conCons (ok43 k) (conCons (ok44 k) (conCons (ok45 k) conNil)))
theorem ev26 (k : Nat) (x) : evF Try.prog (F26 k) [] Try.f26 (bodyOf Try.f26) (c26 k).ps (c26 k).rs (c26 k).rm x = (c26 k).m x := by kernel_rfl
theorem ok26 (k : Nat) : ConOk Try.prog (c26 k) :=
  fn_at (okF26 k) (cn := c26 k) (fn := Try.f26) (code := bodyOf Try.f26) (m := ⟨30, []⟩) (gs := []) (by kernel_rfl) (by kernel_rfl) (by kernel_rfl) (by kernel_rfl) (by kernel_rfl) (fun _ => by kernel_rfl)
    [] (fun c hP hm hg => (LInv.of (code := (bodyOf Try.f26)) (bs := []) (by kernel_rfl) LInv.nil)) (ev26 k)
def c27 (k : Nat) : Con := ⟨27, [(T_Left, false), (T_Left, false)], [.bool], (.own true), fun x => laws_eqLeft k x.1 x.2.1⟩
def F27 (k : Nat) : List Con := [c18 k]
theorem okF27 (k : Nat) : ∀ cn ∈ F27 k, ConOk Try.prog cn := (conCons (ok18 k) conNil)
theorem ev27 (k : Nat) (x) : evF Try.prog (F27 k) [] Try.f27 (bodyOf Try.f27) (c27 k).ps (c27 k).rs (c27 k).rm x = (c27 k).m x := by kernel_rfl
theorem ok27 (k : Nat) : ConOk Try.prog (c27 k) :=
  fn_at (okF27 k) (cn := c27 k) (fn := Try.f27) (code := bodyOf Try.f27) (m := ⟨32, []⟩) (gs := []) (by kernel_rfl) (by kernel_rfl) (by kernel_rfl) (by kernel_rfl) (by kernel_rfl) (fun _ => by kernel_rfl)
    [] (fun c hP hm hg => (LInv.of (code := (bodyOf Try.f27)) (bs := []) (by kernel_rfl) LInv.nil)) (ev27 k)
def c6 (k : Nat) : Con := ⟨6, [((.sl T_Out), false), (T_Left, false), ((.int .i64), false)], [.bool], (.own true), fun x => laws_FnExactFate k x.1 x.2.1 x.2.2.1⟩
def F6 (k : Nat) : List Con := [c14 k, c23 k, c16 k, c25 k, c24 k, c26 k, c19 k, c27 k]
theorem okF6 (k : Nat) : ∀ cn ∈ F6 k, ConOk Try.prog cn := (conCons (ok14 k) (conCons (ok23 k) (conCons (ok16 k) (conCons (ok25 k) (conCons (ok24 k) (conCons (ok26 k) (conCons (ok19 k) (conCons (ok27 k) conNil))))))))
theorem ev6 (k : Nat) (x) : evF Try.prog (F6 k) [] Try.f6 (bodyOf Try.f6) (c6 k).ps (c6 k).rs (c6 k).rm x = (c6 k).m x := by kernel_rfl
theorem ok6 (k : Nat) : ConOk Try.prog (c6 k) :=
  fn_at (okF6 k) (cn := c6 k) (fn := Try.f6) (code := bodyOf Try.f6) (m := ⟨49, []⟩) (gs := []) (by kernel_rfl) (by kernel_rfl) (by kernel_rfl) (by kernel_rfl) (by kernel_rfl) (fun _ => by kernel_rfl)
    [] (fun c hP hm hg => (LInv.of (code := (bodyOf Try.f6)) (bs := []) (by kernel_rfl) LInv.nil)) (ev6 k)
end Go.Tw
