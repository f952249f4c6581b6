/- Each function is proved to answer as its mirror does. -/
import Derived.Test.YtmjacadeccoclaaMb
import Derived.Test.YtmjacadeccoclaaRows
set_option linter.all false
namespace Go.Tw
open Go Go.RowKit Go.Proofs
def c113 (k : Nat) : Con := ⟨113, [((.sl T_Prof), false), ((.int .i64), false)], [(.int .i64)], (.own true), fun x => laws_szProfS x.1 x.2.1⟩
def F113 (k : Nat) : List Con := []
theorem okF113 (k : Nat) : ∀ cn ∈ F113 k, ConOk Try.prog cn := conNil
theorem ev113 (k : Nat) (x) : evF Try.prog (F113 k) (inlN Try.prog (F113 k) 4) [] Try.f113 (bodyOf Try.f113) (c113 k).ps (c113 k).rs (c113 k).rm x = (c113 k).m x := by kernel_rfl
theorem ok113 (k : Nat) : ConOk Try.prog (c113 k) :=
  fn_at (okF113 k) (cn := c113 k) (fn := Try.f113) (code := bodyOf Try.f113) (m := ⟨12, []⟩) (gs := []) (by kernel_rfl) (by kernel_rfl) (by kernel_rfl) (by kernel_rfl) (by kernel_rfl) (fun _ => by kernel_rfl)
    [] (fun c hP hm hg => (LInv.of (code := (bodyOf Try.f113)) (bs := []) (by kernel_rfl) LInv.nil)) (ev113 k)
def c65 (k : Nat) : Con := ⟨65, [(T_Conf, false), ((.int .i64), false)], [(.int .i64)], (.own true), fun x => laws_szConf x.1 x.2.1⟩
def F65 (k : Nat) : List Con := [c113 k]
theorem okF65 (k : Nat) : ∀ cn ∈ F65 k, ConOk Try.prog cn := (conCons (ok113 k) conNil)
theorem ev65 (k : Nat) (x) : evF Try.prog (F65 k) (inlN Try.prog (F65 k) 4) [] Try.f65 (bodyOf Try.f65) (c65 k).ps (c65 k).rs (c65 k).rm x = (c65 k).m x := by kernel_rfl
theorem ok65 (k : Nat) : ConOk Try.prog (c65 k) :=
  fn_at (okF65 k) (cn := c65 k) (fn := Try.f65) (code := bodyOf Try.f65) (m := ⟨12, []⟩) (gs := []) (by kernel_rfl) (by kernel_rfl) (by kernel_rfl) (by kernel_rfl) (by kernel_rfl) (fun _ => by kernel_rfl)
    [] (fun c hP hm hg => (LInv.of (code := (bodyOf Try.f65)) (bs := []) (by kernel_rfl) LInv.nil)) (ev65 k)
def c118 (k : Nat) : Con := ⟨118, [(T_Limits, false)], [T_Limits], (.own true), fun x => laws_toLimits x.1⟩
def F118 (k : Nat) : List Con := []
theorem okF118 (k : Nat) : ∀ cn ∈ F118 k, ConOk Try.prog cn := conNil
theorem ev118 (k : Nat) (x) : evF Try.prog (F118 k) (inlN Try.prog (F118 k) 4) [] Try.f118 (bodyOf Try.f118) (c118 k).ps (c118 k).rs (c118 k).rm x = (c118 k).m x := by kernel_rfl
theorem ok118 (k : Nat) : ConOk Try.prog (c118 k) :=
  fn_at (okF118 k) (cn := c118 k) (fn := Try.f118) (code := bodyOf Try.f118) (m := ⟨20, []⟩) (gs := []) (by kernel_rfl) (by kernel_rfl) (by kernel_rfl) (by kernel_rfl) (by kernel_rfl) (fun _ => by kernel_rfl)
    [] (fun c hP hm hg => (LInv.of (code := (bodyOf Try.f118)) (bs := []) (by kernel_rfl) LInv.nil)) (ev118 k)
def c144 (k : Nat) : Con := ⟨144, [(T_Vec, false)], [T_Vec], (.own true), fun x => laws_toVec x.1⟩
def F144 (k : Nat) : List Con := []
theorem okF144 (k : Nat) : ∀ cn ∈ F144 k, ConOk Try.prog cn := conNil
theorem ev144 (k : Nat) (x) : evF Try.prog (F144 k) (inlN Try.prog (F144 k) 4) [] Try.f144 (bodyOf Try.f144) (c144 k).ps (c144 k).rs (c144 k).rm x = (c144 k).m x := by kernel_rfl
theorem ok144 (k : Nat) : ConOk Try.prog (c144 k) :=
  fn_at (okF144 k) (cn := c144 k) (fn := Try.f144) (code := bodyOf Try.f144) (m := ⟨14, []⟩) (gs := []) (by kernel_rfl) (by kernel_rfl) (by kernel_rfl) (by kernel_rfl) (by kernel_rfl) (fun _ => by kernel_rfl)
    [] (fun c hP hm hg => (LInv.of (code := (bodyOf Try.f144)) (bs := []) (by kernel_rfl) LInv.nil)) (ev144 k)
def c148 (k : Nat) : Con := ⟨148, [(T_Prof, false)], [T_Prof], (.own true), fun x => laws_toProf x.1⟩
def F148 (k : Nat) : List Con := [c144 k]
theorem okF148 (k : Nat) : ∀ cn ∈ F148 k, ConOk Try.prog cn := (conCons (ok144 k) conNil)
theorem ev148 (k : Nat) (x) : evF Try.prog (F148 k) (inlN Try.prog (F148 k) 4) [] Try.f148 (bodyOf Try.f148) (c148 k).ps (c148 k).rs (c148 k).rm x = (c148 k).m x := by kernel_rfl
theorem ok148 (k : Nat) : ConOk Try.prog (c148 k) :=
  fn_at (okF148 k) (cn := c148 k) (fn := Try.f148) (code := bodyOf Try.f148) (m := ⟨13, []⟩) (gs := []) (by kernel_rfl) (by kernel_rfl) (by kernel_rfl) (by kernel_rfl) (by kernel_rfl) (fun _ => by kernel_rfl)
    [] (fun c hP hm hg => (LInv.of (code := (bodyOf Try.f148)) (bs := []) (by kernel_rfl) LInv.nil)) (ev148 k)
def c119 (k : Nat) : Con := ⟨119, [((.sl T_Prof), false)], [(.sl T_Prof)], (.own true), fun x => laws_toProfS k x.1⟩
def F119 (k : Nat) : List Con := [c148 k]
theorem okF119 (k : Nat) : ∀ cn ∈ F119 k, ConOk Try.prog cn := (conCons (ok148 k) conNil)
abbrev S119_3 : Shape := [(0, .v (.sl T_Prof)), (3, .own true (.sl T_Prof)), (4, .v (.int .i64))]
abbrev X119_3 : Exit × Shape := (Exit.exit 0, [(3, .own true (.sl T_Prof))])
abbrev R119_3 : List (Exit × Shape) := []
def lo119_3 (k : Nat) : LO := loopO [] [] [] S119_3 X119_3 R119_3 (iter (laws_toProfS_s3) k)
theorem st119_3 (k : Nat) (rec v) : evC Try.prog ⟨23, []⟩ (F119 k) (inlN Try.prog (F119 k) 4) [] (lpAt (bodyOf Try.f119) [0]) (Kb [] [] [] S119_3 X119_3 R119_3 rec) (mkSt [] [] S119_3 v.1 v.2) = (laws_toProfS_s3) rec v := by kernel_rfl
theorem lp119_3 (k : Nat) {c : Cx} (hP : c.P = Try.prog) (hm : c.m = ⟨23, []⟩) (hg : c.gs = []) : LoopOk c (lo119_3 k) (lpAt (bodyOf Try.f119) [0]) :=
  loop_at hP hm hg (okF119 k) (LInv.of (code := (lpAt (bodyOf Try.f119) [0])) (bs := []) (by kernel_rfl) LInv.nil) (fun rec v => st119_3 k rec v) k
theorem ev119 (k : Nat) (x) : evF Try.prog (F119 k) (inlN Try.prog (F119 k) 4) [(3, lo119_3 k)] Try.f119 (bodyOf Try.f119) (c119 k).ps (c119 k).rs (c119 k).rm x = (c119 k).m x := by kernel_rfl
theorem ok119 (k : Nat) : ConOk Try.prog (c119 k) :=
  fn_at (okF119 k) (cn := c119 k) (fn := Try.f119) (code := bodyOf Try.f119) (m := ⟨23, []⟩) (gs := []) (by kernel_rfl) (by kernel_rfl) (by kernel_rfl) (by kernel_rfl) (by kernel_rfl) (fun _ => by kernel_rfl)
    [(3, lo119_3 k)] (fun c hP hm hg => (LInv.of (code := (bodyOf Try.f119)) (bs := [(lpAt (bodyOf Try.f119) [0])]) (by kernel_rfl) (LInv.cons (b := (lpAt (bodyOf Try.f119) [0])) (by kernel_rfl) (lp119_3 k hP hm hg) LInv.nil))) (ev119 k)
def c67 (k : Nat) : Con := ⟨67, [(T_Conf, false)], [T_Conf], (.own true), fun x => laws_toConf k x.1⟩
def F67 (k : Nat) : List Con := [c118 k, c119 k]
theorem okF67 (k : Nat) : ∀ cn ∈ F67 k, ConOk Try.prog cn := (conCons (ok118 k) (conCons (ok119 k) conNil))
theorem ev67 (k : Nat) (x) : evF Try.prog (F67 k) (inlN Try.prog (F67 k) 4) [] Try.f67 (bodyOf Try.f67) (c67 k).ps (c67 k).rs (c67 k).rm x = (c67 k).m x := by kernel_rfl
theorem ok67 (k : Nat) : ConOk Try.prog (c67 k) :=
  fn_at (okF67 k) (cn := c67 k) (fn := Try.f67) (code := bodyOf Try.f67) (m := ⟨28, []⟩) (gs := []) (by kernel_rfl) (by kernel_rfl) (by kernel_rfl) (by kernel_rfl) (by kernel_rfl) (fun _ => by kernel_rfl)
    [] (fun c hP hm hg => (LInv.of (code := (bodyOf Try.f67)) (bs := []) (by kernel_rfl) LInv.nil)) (ev67 k)
def c161 (k : Nat) : Con := ⟨161, [(T_Table, false)], [(.int .i64)], (.own true), fun x => spec_l11Count k x.1⟩
def F161 (k : Nat) : List Con := []
theorem okF161 (k : Nat) : ∀ cn ∈ F161 k, ConOk Try.prog cn := conNil
abbrev S161_3 : Shape := [(1, .boxv T_Table), (3, .v (.int .i64)), (4, .v (.int .i64))]
abbrev X161_3 : Exit × Shape := (Exit.exit 0, [(3, .v (.int .i64))])
abbrev R161_3 : List (Exit × Shape) := []
def lo161_3 (k : Nat) : LO := loopO [] [] [] S161_3 X161_3 R161_3 (iter (spec_l11Count_s3) k)
theorem st161_3 (k : Nat) (rec v) : evC Try.prog ⟨21, []⟩ (F161 k) (inlN Try.prog (F161 k) 4) [] (lpAt (bodyOf Try.f161) [0]) (Kb [] [] [] S161_3 X161_3 R161_3 rec) (mkSt [] [] S161_3 v.1 v.2) = (spec_l11Count_s3) rec v := by kernel_rfl
theorem lp161_3 (k : Nat) {c : Cx} (hP : c.P = Try.prog) (hm : c.m = ⟨21, []⟩) (hg : c.gs = []) : LoopOk c (lo161_3 k) (lpAt (bodyOf Try.f161) [0]) :=
  loop_at hP hm hg (okF161 k) (LInv.of (code := (lpAt (bodyOf Try.f161) [0])) (bs := []) (by kernel_rfl) LInv.nil) (fun rec v => st161_3 k rec v) k
theorem ev161 (k : Nat) (x) : evF Try.prog (F161 k) (inlN Try.prog (F161 k) 4) [(3, lo161_3 k)] Try.f161 (bodyOf Try.f161) (c161 k).ps (c161 k).rs (c161 k).rm x = (c161 k).m x := by kernel_rfl
theorem ok161 (k : Nat) : ConOk Try.prog (c161 k) :=
  fn_at (okF161 k) (cn := c161 k) (fn := Try.f161) (code := bodyOf Try.f161) (m := ⟨21, []⟩) (gs := []) (by kernel_rfl) (by kernel_rfl) (by kernel_rfl) (by kernel_rfl) (by kernel_rfl) (fun _ => by kernel_rfl)
    [(3, lo161_3 k)] (fun c hP hm hg => (LInv.of (code := (bodyOf Try.f161)) (bs := [(lpAt (bodyOf Try.f161) [0])]) (by kernel_rfl) (LInv.cons (b := (lpAt (bodyOf Try.f161) [0])) (by kernel_rfl) (lp161_3 k hP hm hg) LInv.nil))) (ev161 k)
def c175 (k : Nat) : Con := ⟨175, [((.int .i64), false)], [.bool], (.own true), fun x => spec_l03Half x.1⟩
def F175 (k : Nat) : List Con := []
theorem okF175 (k : Nat) : ∀ cn ∈ F175 k, ConOk Try.prog cn := conNil
theorem ev175 (k : Nat) (x) : evF Try.prog (F175 k) (inlN Try.prog (F175 k) 4) [] Try.f175 (bodyOf Try.f175) (c175 k).ps (c175 k).rs (c175 k).rm x = (c175 k).m x := by kernel_rfl
theorem ok175 (k : Nat) : ConOk Try.prog (c175 k) :=
  fn_at (okF175 k) (cn := c175 k) (fn := Try.f175) (code := bodyOf Try.f175) (m := ⟨9, []⟩) (gs := []) (by kernel_rfl) (by kernel_rfl) (by kernel_rfl) (by kernel_rfl) (by kernel_rfl) (fun _ => by kernel_rfl)
    [] (fun c hP hm hg => (LInv.of (code := (bodyOf Try.f175)) (bs := []) (by kernel_rfl) LInv.nil)) (ev175 k)
def c172 (k : Nat) : Con := ⟨172, [(T_Addr, false)], [.bool], (.own true), fun x => spec_AddrOk x.1⟩
def F172 (k : Nat) : List Con := [c175 k]
theorem okF172 (k : Nat) : ∀ cn ∈ F172 k, ConOk Try.prog cn := (conCons (ok175 k) conNil)
theorem ev172 (k : Nat) (x) : evF Try.prog (F172 k) (inlN Try.prog (F172 k) 4) [] Try.f172 (bodyOf Try.f172) (c172 k).ps (c172 k).rs (c172 k).rm x = (c172 k).m x := by kernel_rfl
theorem ok172 (k : Nat) : ConOk Try.prog (c172 k) :=
  fn_at (okF172 k) (cn := c172 k) (fn := Try.f172) (code := bodyOf Try.f172) (m := ⟨47, []⟩) (gs := []) (by kernel_rfl) (by kernel_rfl) (by kernel_rfl) (by kernel_rfl) (by kernel_rfl) (fun _ => by kernel_rfl)
    [] (fun c hP hm hg => (LInv.of (code := (bodyOf Try.f172)) (bs := []) (by kernel_rfl) LInv.nil)) (ev172 k)
def c169 (k : Nat) : Con := ⟨169, [(T_Addr, false), (T_Addr, false)], [.bool], (.own true), fun x => spec_l07Pair x.1 x.2.1⟩
def F169 (k : Nat) : List Con := [c172 k]
theorem okF169 (k : Nat) : ∀ cn ∈ F169 k, ConOk Try.prog cn := (conCons (ok172 k) conNil)
theorem ev169 (k : Nat) (x) : evF Try.prog (F169 k) (inlN Try.prog (F169 k) 4) [] Try.f169 (bodyOf Try.f169) (c169 k).ps (c169 k).rs (c169 k).rm x = (c169 k).m x := by kernel_rfl
theorem ok169 (k : Nat) : ConOk Try.prog (c169 k) :=
  fn_at (okF169 k) (cn := c169 k) (fn := Try.f169) (code := bodyOf Try.f169) (m := ⟨18, []⟩) (gs := []) (by kernel_rfl) (by kernel_rfl) (by kernel_rfl) (by kernel_rfl) (by kernel_rfl) (fun _ => by kernel_rfl)
    [] (fun c hP hm hg => (LInv.of (code := (bodyOf Try.f169)) (bs := []) (by kernel_rfl) LInv.nil)) (ev169 k)
def c170 (k : Nat) : Con := ⟨170, [((.int .i64), false), ((.int .i64), false)], [.bool], (.own true), fun x => spec_l05In x.1 x.2.1⟩
def F170 (k : Nat) : List Con := []
theorem okF170 (k : Nat) : ∀ cn ∈ F170 k, ConOk Try.prog cn := conNil
theorem ev170 (k : Nat) (x) : evF Try.prog (F170 k) (inlN Try.prog (F170 k) 4) [] Try.f170 (bodyOf Try.f170) (c170 k).ps (c170 k).rs (c170 k).rm x = (c170 k).m x := by kernel_rfl
theorem ok170 (k : Nat) : ConOk Try.prog (c170 k) :=
  fn_at (okF170 k) (cn := c170 k) (fn := Try.f170) (code := bodyOf Try.f170) (m := ⟨12, []⟩) (gs := []) (by kernel_rfl) (by kernel_rfl) (by kernel_rfl) (by kernel_rfl) (by kernel_rfl) (fun _ => by kernel_rfl)
    [] (fun c hP hm hg => (LInv.of (code := (bodyOf Try.f170)) (bs := []) (by kernel_rfl) LInv.nil)) (ev170 k)
def c167 (k : Nat) : Con := ⟨167, [(T_Key, false)], [.bool], (.own true), fun x => spec_KeyOk x.1⟩
def F167 (k : Nat) : List Con := [c169 k, c170 k]
theorem okF167 (k : Nat) : ∀ cn ∈ F167 k, ConOk Try.prog cn := (conCons (ok169 k) (conCons (ok170 k) conNil))
theorem ev167 (k : Nat) (x) : evF Try.prog (F167 k) (inlN Try.prog (F167 k) 4) [] Try.f167 (bodyOf Try.f167) (c167 k).ps (c167 k).rs (c167 k).rm x = (c167 k).m x := by kernel_rfl
theorem ok167 (k : Nat) : ConOk Try.prog (c167 k) :=
  fn_at (okF167 k) (cn := c167 k) (fn := Try.f167) (code := bodyOf Try.f167) (m := ⟨23, []⟩) (gs := []) (by kernel_rfl) (by kernel_rfl) (by kernel_rfl) (by kernel_rfl) (by kernel_rfl) (fun _ => by kernel_rfl)
    [] (fun c hP hm hg => (LInv.of (code := (bodyOf Try.f167)) (bs := []) (by kernel_rfl) LInv.nil)) (ev167 k)
def c162 (k : Nat) : Con := ⟨162, [(T_FlowKey, false)], [.bool], (.own true), fun x => spec_FlowKeyOk x.1⟩
def F162 (k : Nat) : List Con := [c167 k]
theorem okF162 (k : Nat) : ∀ cn ∈ F162 k, ConOk Try.prog cn := (conCons (ok167 k) conNil)
theorem ev162 (k : Nat) (x) : evF Try.prog (F162 k) (inlN Try.prog (F162 k) 4) [] Try.f162 (bodyOf Try.f162) (c162 k).ps (c162 k).rs (c162 k).rm x = (c162 k).m x := by kernel_rfl
theorem ok162 (k : Nat) : ConOk Try.prog (c162 k) :=
  fn_at (okF162 k) (cn := c162 k) (fn := Try.f162) (code := bodyOf Try.f162) (m := ⟨16, []⟩) (gs := []) (by kernel_rfl) (by kernel_rfl) (by kernel_rfl) (by kernel_rfl) (by kernel_rfl) (fun _ => by kernel_rfl)
    [] (fun c hP hm hg => (LInv.of (code := (bodyOf Try.f162)) (bs := []) (by kernel_rfl) LInv.nil)) (ev162 k)
def c163 (k : Nat) : Con := ⟨163, [(T_Table, false), (T_FlowKey, false)], [(.int .i64)], (.own true), fun x => spec_l11Place k x.1 x.2.1⟩
def F163 (k : Nat) : List Con := []
theorem okF163 (k : Nat) : ∀ cn ∈ F163 k, ConOk Try.prog cn := conNil
abbrev S163_2 : Shape := [(2, .boxv T_Table), (3, .box true T_FlowKey), (5, .v (.int .i64))]
abbrev X163_2 : Exit × Shape := (Exit.ret, [(4, .v (.int .i64))])
abbrev R163_2 : List (Exit × Shape) := [(Exit.exit 0, [])]
def lo163_2 (k : Nat) : LO := loopO [] [] [] S163_2 X163_2 R163_2 (iter (spec_l11Place_s2) k)
theorem st163_2 (k : Nat) (rec v) : evC Try.prog ⟨30, []⟩ (F163 k) (inlN Try.prog (F163 k) 4) [] (lpAt (bodyOf Try.f163) [0]) (Kb [] [] [] S163_2 X163_2 R163_2 rec) (mkSt [] [] S163_2 v.1 v.2) = (spec_l11Place_s2) rec v := by kernel_rfl
theorem lp163_2 (k : Nat) {c : Cx} (hP : c.P = Try.prog) (hm : c.m = ⟨30, []⟩) (hg : c.gs = []) : LoopOk c (lo163_2 k) (lpAt (bodyOf Try.f163) [0]) :=
  loop_at hP hm hg (okF163 k) (LInv.of (code := (lpAt (bodyOf Try.f163) [0])) (bs := []) (by kernel_rfl) LInv.nil) (fun rec v => st163_2 k rec v) k
theorem ev163 (k : Nat) (x) : evF Try.prog (F163 k) (inlN Try.prog (F163 k) 4) [(2, lo163_2 k)] Try.f163 (bodyOf Try.f163) (c163 k).ps (c163 k).rs (c163 k).rm x = (c163 k).m x := by kernel_rfl
theorem ok163 (k : Nat) : ConOk Try.prog (c163 k) :=
  fn_at (okF163 k) (cn := c163 k) (fn := Try.f163) (code := bodyOf Try.f163) (m := ⟨30, []⟩) (gs := []) (by kernel_rfl) (by kernel_rfl) (by kernel_rfl) (by kernel_rfl) (by kernel_rfl) (fun _ => by kernel_rfl)
    [(2, lo163_2 k)] (fun c hP hm hg => (LInv.of (code := (bodyOf Try.f163)) (bs := [(lpAt (bodyOf Try.f163) [0])]) (by kernel_rfl) (LInv.cons (b := (lpAt (bodyOf Try.f163) [0])) (by kernel_rfl) (lp163_2 k hP hm hg) LInv.nil))) (ev163 k)
def c177 (k : Nat) : Con := ⟨177, [((.int .i64), false), ((.int .i64), false)], [(.int .i64)], (.own true), fun x => spec_l01Low x.1 x.2.1⟩
def F177 (k : Nat) : List Con := []
theorem okF177 (k : Nat) : ∀ cn ∈ F177 k, ConOk Try.prog cn := conNil
theorem ev177 (k : Nat) (x) : evF Try.prog (F177 k) (inlN Try.prog (F177 k) 4) [] Try.f177 (bodyOf Try.f177) (c177 k).ps (c177 k).rs (c177 k).rm x = (c177 k).m x := by kernel_rfl
theorem ok177 (k : Nat) : ConOk Try.prog (c177 k) :=
  fn_at (okF177 k) (cn := c177 k) (fn := Try.f177) (code := bodyOf Try.f177) (m := ⟨15, []⟩) (gs := []) (by kernel_rfl) (by kernel_rfl) (by kernel_rfl) (by kernel_rfl) (by kernel_rfl) (fun _ => by kernel_rfl)
    [] (fun c hP hm hg => (LInv.of (code := (bodyOf Try.f177)) (bs := []) (by kernel_rfl) LInv.nil)) (ev177 k)
def c174 (k : Nat) : Con := ⟨174, [((.int .i64), false)], [(.sl (.int .u8))], (.own true), fun x => spec_Put16 x.1⟩
def F174 (k : Nat) : List Con := [c177 k]
theorem okF174 (k : Nat) : ∀ cn ∈ F174 k, ConOk Try.prog cn := (conCons (ok177 k) conNil)
theorem ev174 (k : Nat) (x) : evF Try.prog (F174 k) (inlN Try.prog (F174 k) 4) [] Try.f174 (bodyOf Try.f174) (c174 k).ps (c174 k).rs (c174 k).rm x = (c174 k).m x := by kernel_rfl
theorem ok174 (k : Nat) : ConOk Try.prog (c174 k) :=
  fn_at (okF174 k) (cn := c174 k) (fn := Try.f174) (code := bodyOf Try.f174) (m := ⟨13, []⟩) (gs := []) (by kernel_rfl) (by kernel_rfl) (by kernel_rfl) (by kernel_rfl) (by kernel_rfl) (fun _ => by kernel_rfl)
    [] (fun c hP hm hg => (LInv.of (code := (bodyOf Try.f174)) (bs := []) (by kernel_rfl) LInv.nil)) (ev174 k)
def c176 (k : Nat) : Con := ⟨176, [((.int .i64), false)], [(.sl (.int .u8))], (.own true), fun x => spec_Put32 x.1⟩
def F176 (k : Nat) : List Con := [c177 k, c174 k]
theorem okF176 (k : Nat) : ∀ cn ∈ F176 k, ConOk Try.prog cn := (conCons (ok177 k) (conCons (ok174 k) conNil))
theorem ev176 (k : Nat) (x) : evF Try.prog (F176 k) (inlN Try.prog (F176 k) 4) [] Try.f176 (bodyOf Try.f176) (c176 k).ps (c176 k).rs (c176 k).rm x = (c176 k).m x := by kernel_rfl
theorem ok176 (k : Nat) : ConOk Try.prog (c176 k) :=
  fn_at (okF176 k) (cn := c176 k) (fn := Try.f176) (code := bodyOf Try.f176) (m := ⟨13, []⟩) (gs := []) (by kernel_rfl) (by kernel_rfl) (by kernel_rfl) (by kernel_rfl) (by kernel_rfl) (fun _ => by kernel_rfl)
    [] (fun c hP hm hg => (LInv.of (code := (bodyOf Try.f176)) (bs := []) (by kernel_rfl) LInv.nil)) (ev176 k)
def c173 (k : Nat) : Con := ⟨173, [(T_Addr, false)], [(.sl (.int .u8))], (.own true), fun x => spec_AddrBytes x.1⟩
def F173 (k : Nat) : List Con := [c172 k, c176 k]
theorem okF173 (k : Nat) : ∀ cn ∈ F173 k, ConOk Try.prog cn := (conCons (ok172 k) (conCons (ok176 k) conNil))
theorem ev173 (k : Nat) (x) : evF Try.prog (F173 k) (inlN Try.prog (F173 k) 4) [] Try.f173 (bodyOf Try.f173) (c173 k).ps (c173 k).rs (c173 k).rm x = (c173 k).m x := by kernel_rfl
theorem ok173 (k : Nat) : ConOk Try.prog (c173 k) :=
  fn_at (okF173 k) (cn := c173 k) (fn := Try.f173) (code := bodyOf Try.f173) (m := ⟨29, []⟩) (gs := []) (by kernel_rfl) (by kernel_rfl) (by kernel_rfl) (by kernel_rfl) (by kernel_rfl) (fun _ => by kernel_rfl)
    [] (fun c hP hm hg => (LInv.of (code := (bodyOf Try.f173)) (bs := []) (by kernel_rfl) LInv.nil)) (ev173 k)
def c171 (k : Nat) : Con := ⟨171, [(T_FlowKey, false)], [(.sl (.int .u8))], (.own true), fun x => spec_l11Bytes x.1⟩
def F171 (k : Nat) : List Con := [c173 k, c174 k]
theorem okF171 (k : Nat) : ∀ cn ∈ F171 k, ConOk Try.prog cn := (conCons (ok173 k) (conCons (ok174 k) conNil))
theorem ev171 (k : Nat) (x) : evF Try.prog (F171 k) (inlN Try.prog (F171 k) 4) [] Try.f171 (bodyOf Try.f171) (c171 k).ps (c171 k).rs (c171 k).rm x = (c171 k).m x := by kernel_rfl
theorem ok171 (k : Nat) : ConOk Try.prog (c171 k) :=
  fn_at (okF171 k) (cn := c171 k) (fn := Try.f171) (code := bodyOf Try.f171) (m := ⟨42, []⟩) (gs := []) (by kernel_rfl) (by kernel_rfl) (by kernel_rfl) (by kernel_rfl) (by kernel_rfl) (fun _ => by kernel_rfl)
    [] (fun c hP hm hg => (LInv.of (code := (bodyOf Try.f171)) (bs := []) (by kernel_rfl) LInv.nil)) (ev171 k)
def c168 (k : Nat) : Con := ⟨168, [((.int .i64), false), (T_FlowKey, false)], [(.int .i64)], (.own true), fun x => spec_HashOf k x.1 x.2.1⟩
def F168 (k : Nat) : List Con := [c162 k, c171 k]
theorem okF168 (k : Nat) : ∀ cn ∈ F168 k, ConOk Try.prog cn := (conCons (ok162 k) (conCons (ok171 k) conNil))
abbrev S168_6 : Shape := [(5, .v (.int .i64)), (6, .own true (.sl (.int .u8))), (7, .v (.int .i64))]
abbrev X168_6 : Exit × Shape := (Exit.exit 0, [(5, .v (.int .i64))])
abbrev R168_6 : List (Exit × Shape) := []
def lo168_6 (k : Nat) : LO := loopO [] [] [] S168_6 X168_6 R168_6 (iter (spec_HashOf_s6) k)
theorem st168_6 (k : Nat) (rec v) : evC Try.prog ⟨41, []⟩ (F168 k) (inlN Try.prog (F168 k) 4) [] (lpAt (bodyOf Try.f168) [0]) (Kb [] [] [] S168_6 X168_6 R168_6 rec) (mkSt [] [] S168_6 v.1 v.2) = (spec_HashOf_s6) rec v := by kernel_rfl
theorem lp168_6 (k : Nat) {c : Cx} (hP : c.P = Try.prog) (hm : c.m = ⟨41, []⟩) (hg : c.gs = []) : LoopOk c (lo168_6 k) (lpAt (bodyOf Try.f168) [0]) :=
  loop_at hP hm hg (okF168 k) (LInv.of (code := (lpAt (bodyOf Try.f168) [0])) (bs := []) (by kernel_rfl) LInv.nil) (fun rec v => st168_6 k rec v) k
theorem ev168 (k : Nat) (x) : evF Try.prog (F168 k) (inlN Try.prog (F168 k) 4) [(6, lo168_6 k)] Try.f168 (bodyOf Try.f168) (c168 k).ps (c168 k).rs (c168 k).rm x = (c168 k).m x := by kernel_rfl
theorem ok168 (k : Nat) : ConOk Try.prog (c168 k) :=
  fn_at (okF168 k) (cn := c168 k) (fn := Try.f168) (code := bodyOf Try.f168) (m := ⟨41, []⟩) (gs := []) (by kernel_rfl) (by kernel_rfl) (by kernel_rfl) (by kernel_rfl) (by kernel_rfl) (fun _ => by kernel_rfl)
    [(6, lo168_6 k)] (fun c hP hm hg => (LInv.of (code := (bodyOf Try.f168)) (bs := [(lpAt (bodyOf Try.f168) [0])]) (by kernel_rfl) (LInv.cons (b := (lpAt (bodyOf Try.f168) [0])) (by kernel_rfl) (lp168_6 k hP hm hg) LInv.nil))) (ev168 k)
def c164 (k : Nat) : Con := ⟨164, [(T_Table, false), (T_FlowKey, false)], [(.int .i64)], (.own true), fun x => spec_l11Home k x.1 x.2.1⟩
def F164 (k : Nat) : List Con := [c168 k]
theorem okF164 (k : Nat) : ∀ cn ∈ F164 k, ConOk Try.prog cn := (conCons (ok168 k) conNil)
theorem ev164 (k : Nat) (x) : evF Try.prog (F164 k) (inlN Try.prog (F164 k) 4) [] Try.f164 (bodyOf Try.f164) (c164 k).ps (c164 k).rs (c164 k).rm x = (c164 k).m x := by kernel_rfl
theorem ok164 (k : Nat) : ConOk Try.prog (c164 k) :=
  fn_at (okF164 k) (cn := c164 k) (fn := Try.f164) (code := bodyOf Try.f164) (m := ⟨13, []⟩) (gs := []) (by kernel_rfl) (by kernel_rfl) (by kernel_rfl) (by kernel_rfl) (by kernel_rfl) (fun _ => by kernel_rfl)
    [] (fun c hP hm hg => (LInv.of (code := (bodyOf Try.f164)) (bs := []) (by kernel_rfl) LInv.nil)) (ev164 k)
def c146 (k : Nat) : Con := ⟨146, [(T_Table, false)], [.bool], (.own true), fun x => spec_TableOk k x.1⟩
def F146 (k : Nat) : List Con := [c161 k, c162 k, c163 k, c164 k]
theorem okF146 (k : Nat) : ∀ cn ∈ F146 k, ConOk Try.prog cn := (conCons (ok161 k) (conCons (ok162 k) (conCons (ok163 k) (conCons (ok164 k) conNil))))
abbrev S146_16 : Shape := [(1, .boxv T_Table), (3, .v (.int .i64)), (4, .v (.int .i64)), (6, .v (.int .i64))]
abbrev X146_16 : Exit × Shape := (Exit.ret, [(2, .v .bool)])
abbrev R146_16 : List (Exit × Shape) := [(Exit.exit 2, [(1, .boxv T_Table), (3, .v (.int .i64)), (4, .v (.int .i64))])]
def lo146_16 (k : Nat) : LO := loopO [] [] [] S146_16 X146_16 R146_16 (iter (spec_TableOk_s16) k)
theorem st146_16 (k : Nat) (rec v) : evC Try.prog ⟨100, []⟩ (F146 k) (inlN Try.prog (F146 k) 4) [] (lpAt (bodyOf Try.f146) [0, 0]) (Kb [] [] [] S146_16 X146_16 R146_16 rec) (mkSt [] [] S146_16 v.1 v.2) = (spec_TableOk_s16) rec v := by kernel_rfl
theorem lp146_16 (k : Nat) {c : Cx} (hP : c.P = Try.prog) (hm : c.m = ⟨100, []⟩) (hg : c.gs = []) : LoopOk c (lo146_16 k) (lpAt (bodyOf Try.f146) [0, 0]) :=
  loop_at hP hm hg (okF146 k) (LInv.of (code := (lpAt (bodyOf Try.f146) [0, 0])) (bs := []) (by kernel_rfl) LInv.nil) (fun rec v => st146_16 k rec v) k
abbrev S146_7 : Shape := [(1, .boxv T_Table), (3, .v (.int .i64)), (4, .v (.int .i64))]
abbrev X146_7 : Exit × Shape := (Exit.ret, [(2, .v .bool)])
abbrev R146_7 : List (Exit × Shape) := [(Exit.exit 0, [])]
def lo146_7 (k : Nat) : LO := loopO [] [] [] S146_7 X146_7 R146_7 (iter (spec_TableOk_s7 k) k)
theorem st146_7 (k : Nat) (rec v) : evC Try.prog ⟨100, []⟩ (F146 k) (inlN Try.prog (F146 k) 4) [(16, lo146_16 k)] (lpAt (bodyOf Try.f146) [0]) (Kb [] [] [] S146_7 X146_7 R146_7 rec) (mkSt [] [] S146_7 v.1 v.2) = (spec_TableOk_s7 k) rec v := by kernel_rfl
theorem lp146_7 (k : Nat) {c : Cx} (hP : c.P = Try.prog) (hm : c.m = ⟨100, []⟩) (hg : c.gs = []) : LoopOk c (lo146_7 k) (lpAt (bodyOf Try.f146) [0]) :=
  loop_at hP hm hg (okF146 k) (LInv.of (code := (lpAt (bodyOf Try.f146) [0])) (bs := [(lpAt (bodyOf Try.f146) [0, 0])]) (by kernel_rfl) (LInv.cons (b := (lpAt (bodyOf Try.f146) [0, 0])) (by kernel_rfl) (lp146_16 k hP hm hg) LInv.nil)) (fun rec v => st146_7 k rec v) k
theorem ev146 (k : Nat) (x) : evF Try.prog (F146 k) (inlN Try.prog (F146 k) 4) [(7, lo146_7 k)] Try.f146 (bodyOf Try.f146) (c146 k).ps (c146 k).rs (c146 k).rm x = (c146 k).m x := by kernel_rfl
theorem ok146 (k : Nat) : ConOk Try.prog (c146 k) :=
  fn_at (okF146 k) (cn := c146 k) (fn := Try.f146) (code := bodyOf Try.f146) (m := ⟨100, []⟩) (gs := []) (by kernel_rfl) (by kernel_rfl) (by kernel_rfl) (by kernel_rfl) (by kernel_rfl) (fun _ => by kernel_rfl)
    [(7, lo146_7 k)] (fun c hP hm hg => (LInv.of (code := (bodyOf Try.f146)) (bs := [(lpAt (bodyOf Try.f146) [0])]) (by kernel_rfl) (LInv.cons (b := (lpAt (bodyOf Try.f146) [0])) (by kernel_rfl) (lp146_7 k hP hm hg) LInv.nil))) (ev146 k)
def c114 (k : Nat) : Con := ⟨114, [((.int .i64), false), ((.int .i64), false)], [T_Table], (.own true), fun x => spec_TableNew k x.1 x.2.1⟩
def F114 (k : Nat) : List Con := [c146 k]
theorem okF114 (k : Nat) : ∀ cn ∈ F114 k, ConOk Try.prog cn := (conCons (ok146 k) conNil)
theorem ev114 (k : Nat) (x) : evF Try.prog (F114 k) (inlN Try.prog (F114 k) 4) [] Try.f114 (bodyOf Try.f114) (c114 k).ps (c114 k).rs (c114 k).rm x = (c114 k).m x := by kernel_rfl
theorem ok114 (k : Nat) : ConOk Try.prog (c114 k) :=
  fn_at (okF114 k) (cn := c114 k) (fn := Try.f114) (code := bodyOf Try.f114) (m := ⟨22, []⟩) (gs := []) (by kernel_rfl) (by kernel_rfl) (by kernel_rfl) (by kernel_rfl) (by kernel_rfl) (fun _ => by kernel_rfl)
    [] (fun c hP hm hg => (LInv.of (code := (bodyOf Try.f114)) (bs := []) (by kernel_rfl) LInv.nil)) (ev114 k)
def c102 (k : Nat) : Con := ⟨102, [(T_Line, false)], [(.sl T_Job)], (.own true), fun x => spec_l21All x.1⟩
def F102 (k : Nat) : List Con := []
theorem okF102 (k : Nat) : ∀ cn ∈ F102 k, ConOk Try.prog cn := conNil
theorem ev102 (k : Nat) (x) : evF Try.prog (F102 k) (inlN Try.prog (F102 k) 4) [] Try.f102 (bodyOf Try.f102) (c102 k).ps (c102 k).rs (c102 k).rm x = (c102 k).m x := by kernel_rfl
theorem ok102 (k : Nat) : ConOk Try.prog (c102 k) :=
  fn_at (okF102 k) (cn := c102 k) (fn := Try.f102) (code := bodyOf Try.f102) (m := ⟨13, []⟩) (gs := []) (by kernel_rfl) (by kernel_rfl) (by kernel_rfl) (by kernel_rfl) (by kernel_rfl) (fun _ => by kernel_rfl)
    [] (fun c hP hm hg => (LInv.of (code := (bodyOf Try.f102)) (bs := []) (by kernel_rfl) LInv.nil)) (ev102 k)
def c42 (k : Nat) : Con := ⟨42, [(T_Line, false)], [.bool], (.own true), fun x => spec_LineOk k x.1⟩
def F42 (k : Nat) : List Con := [c102 k]
theorem okF42 (k : Nat) : ∀ cn ∈ F42 k, ConOk Try.prog cn := (conCons (ok102 k) conNil)
abbrev S42_12 : Shape := [(1, .boxv T_Line), (3, .own true (.sl T_Job)), (4, .v (.int .i64)), (5, .v (.int .i64))]
abbrev X42_12 : Exit × Shape := (Exit.ret, [(2, .v .bool)])
abbrev R42_12 : List (Exit × Shape) := [(Exit.exit 2, [(1, .boxv T_Line), (3, .own true (.sl T_Job)), (4, .v (.int .i64))])]
def lo42_12 (k : Nat) : LO := loopO [] [] [] S42_12 X42_12 R42_12 (iter (spec_LineOk_s12) k)
theorem st42_12 (k : Nat) (rec v) : evC Try.prog ⟨154, []⟩ (F42 k) (inlN Try.prog (F42 k) 4) [] (lpAt (bodyOf Try.f42) [0, 0]) (Kb [] [] [] S42_12 X42_12 R42_12 rec) (mkSt [] [] S42_12 v.1 v.2) = (spec_LineOk_s12) rec v := by kernel_rfl
theorem lp42_12 (k : Nat) {c : Cx} (hP : c.P = Try.prog) (hm : c.m = ⟨154, []⟩) (hg : c.gs = []) : LoopOk c (lo42_12 k) (lpAt (bodyOf Try.f42) [0, 0]) :=
  loop_at hP hm hg (okF42 k) (LInv.of (code := (lpAt (bodyOf Try.f42) [0, 0])) (bs := []) (by kernel_rfl) LInv.nil) (fun rec v => st42_12 k rec v) k
abbrev S42_7 : Shape := [(1, .boxv T_Line), (3, .own true (.sl T_Job)), (4, .v (.int .i64))]
abbrev X42_7 : Exit × Shape := (Exit.ret, [(2, .v .bool)])
abbrev R42_7 : List (Exit × Shape) := [(Exit.exit 0, [])]
def lo42_7 (k : Nat) : LO := loopO [] [] [] S42_7 X42_7 R42_7 (iter (spec_LineOk_s7 k) k)
theorem st42_7 (k : Nat) (rec v) : evC Try.prog ⟨154, []⟩ (F42 k) (inlN Try.prog (F42 k) 4) [(12, lo42_12 k)] (lpAt (bodyOf Try.f42) [0]) (Kb [] [] [] S42_7 X42_7 R42_7 rec) (mkSt [] [] S42_7 v.1 v.2) = (spec_LineOk_s7 k) rec v := by kernel_rfl
theorem lp42_7 (k : Nat) {c : Cx} (hP : c.P = Try.prog) (hm : c.m = ⟨154, []⟩) (hg : c.gs = []) : LoopOk c (lo42_7 k) (lpAt (bodyOf Try.f42) [0]) :=
  loop_at hP hm hg (okF42 k) (LInv.of (code := (lpAt (bodyOf Try.f42) [0])) (bs := [(lpAt (bodyOf Try.f42) [0, 0])]) (by kernel_rfl) (LInv.cons (b := (lpAt (bodyOf Try.f42) [0, 0])) (by kernel_rfl) (lp42_12 k hP hm hg) LInv.nil)) (fun rec v => st42_7 k rec v) k
theorem ev42 (k : Nat) (x) : evF Try.prog (F42 k) (inlN Try.prog (F42 k) 4) [(7, lo42_7 k)] Try.f42 (bodyOf Try.f42) (c42 k).ps (c42 k).rs (c42 k).rm x = (c42 k).m x := by kernel_rfl
theorem ok42 (k : Nat) : ConOk Try.prog (c42 k) :=
  fn_at (okF42 k) (cn := c42 k) (fn := Try.f42) (code := bodyOf Try.f42) (m := ⟨154, []⟩) (gs := []) (by kernel_rfl) (by kernel_rfl) (by kernel_rfl) (by kernel_rfl) (by kernel_rfl) (fun _ => by kernel_rfl)
    [(7, lo42_7 k)] (fun c hP hm hg => (LInv.of (code := (bodyOf Try.f42)) (bs := [(lpAt (bodyOf Try.f42) [0])]) (by kernel_rfl) (LInv.cons (b := (lpAt (bodyOf Try.f42) [0])) (by kernel_rfl) (lp42_7 k hP hm hg) LInv.nil))) (ev42 k)
def c96 (k : Nat) : Con := ⟨96, [((.int .i64), false)], [T_Line], (.own true), fun x => spec_LineNew k x.1⟩
def F96 (k : Nat) : List Con := [c42 k]
theorem okF96 (k : Nat) : ∀ cn ∈ F96 k, ConOk Try.prog cn := (conCons (ok42 k) conNil)
theorem ev96 (k : Nat) (x) : evF Try.prog (F96 k) (inlN Try.prog (F96 k) 4) [] Try.f96 (bodyOf Try.f96) (c96 k).ps (c96 k).rs (c96 k).rm x = (c96 k).m x := by kernel_rfl
theorem ok96 (k : Nat) : ConOk Try.prog (c96 k) :=
  fn_at (okF96 k) (cn := c96 k) (fn := Try.f96) (code := bodyOf Try.f96) (m := ⟨10, []⟩) (gs := []) (by kernel_rfl) (by kernel_rfl) (by kernel_rfl) (by kernel_rfl) (by kernel_rfl) (fun _ => by kernel_rfl)
    [] (fun c hP hm hg => (LInv.of (code := (bodyOf Try.f96)) (bs := []) (by kernel_rfl) LInv.nil)) (ev96 k)
def c115 (k : Nat) : Con := ⟨115, [((.int .i64), false)], [.bool], (.own true), fun x => spec_l13Delta x.1⟩
def F115 (k : Nat) : List Con := []
theorem okF115 (k : Nat) : ∀ cn ∈ F115 k, ConOk Try.prog cn := conNil
theorem ev115 (k : Nat) (x) : evF Try.prog (F115 k) (inlN Try.prog (F115 k) 4) [] Try.f115 (bodyOf Try.f115) (c115 k).ps (c115 k).rs (c115 k).rm x = (c115 k).m x := by kernel_rfl
theorem ok115 (k : Nat) : ConOk Try.prog (c115 k) :=
  fn_at (okF115 k) (cn := c115 k) (fn := Try.f115) (code := bodyOf Try.f115) (m := ⟨9, []⟩) (gs := []) (by kernel_rfl) (by kernel_rfl) (by kernel_rfl) (by kernel_rfl) (by kernel_rfl) (fun _ => by kernel_rfl)
    [] (fun c hP hm hg => (LInv.of (code := (bodyOf Try.f115)) (bs := []) (by kernel_rfl) LInv.nil)) (ev115 k)
def c116 (k : Nat) : Con := ⟨116, [(T_Limits, false)], [.bool], (.own true), fun x => spec_LimitsOk x.1⟩
def F116 (k : Nat) : List Con := []
theorem okF116 (k : Nat) : ∀ cn ∈ F116 k, ConOk Try.prog cn := conNil
theorem ev116 (k : Nat) (x) : evF Try.prog (F116 k) (inlN Try.prog (F116 k) 4) [] Try.f116 (bodyOf Try.f116) (c116 k).ps (c116 k).rs (c116 k).rm x = (c116 k).m x := by kernel_rfl
theorem ok116 (k : Nat) : ConOk Try.prog (c116 k) :=
  fn_at (okF116 k) (cn := c116 k) (fn := Try.f116) (code := bodyOf Try.f116) (m := ⟨39, []⟩) (gs := []) (by kernel_rfl) (by kernel_rfl) (by kernel_rfl) (by kernel_rfl) (by kernel_rfl) (fun _ => by kernel_rfl)
    [] (fun c hP hm hg => (LInv.of (code := (bodyOf Try.f116)) (bs := []) (by kernel_rfl) LInv.nil)) (ev116 k)
def c147 (k : Nat) : Con := ⟨147, [(T_Vec, false), ((.int .i64), false), ((.int .i64), false)], [.bool], (.own true), fun x => spec_l13All x.1 x.2.1 x.2.2.1⟩
def F147 (k : Nat) : List Con := []
theorem okF147 (k : Nat) : ∀ cn ∈ F147 k, ConOk Try.prog cn := conNil
theorem ev147 (k : Nat) (x) : evF Try.prog (F147 k) (inlN Try.prog (F147 k) 4) [] Try.f147 (bodyOf Try.f147) (c147 k).ps (c147 k).rs (c147 k).rm x = (c147 k).m x := by kernel_rfl
theorem ok147 (k : Nat) : ConOk Try.prog (c147 k) :=
  fn_at (okF147 k) (cn := c147 k) (fn := Try.f147) (code := bodyOf Try.f147) (m := ⟨41, []⟩) (gs := []) (by kernel_rfl) (by kernel_rfl) (by kernel_rfl) (by kernel_rfl) (by kernel_rfl) (fun _ => by kernel_rfl)
    [] (fun c hP hm hg => (LInv.of (code := (bodyOf Try.f147)) (bs := []) (by kernel_rfl) LInv.nil)) (ev147 k)
def c117 (k : Nat) : Con := ⟨117, [(T_Prof, false)], [.bool], (.own true), fun x => spec_ProfOk x.1⟩
def F117 (k : Nat) : List Con := [c147 k]
theorem okF117 (k : Nat) : ∀ cn ∈ F117 k, ConOk Try.prog cn := (conCons (ok147 k) conNil)
theorem ev117 (k : Nat) (x) : evF Try.prog (F117 k) (inlN Try.prog (F117 k) 4) [] Try.f117 (bodyOf Try.f117) (c117 k).ps (c117 k).rs (c117 k).rm x = (c117 k).m x := by kernel_rfl
theorem ok117 (k : Nat) : ConOk Try.prog (c117 k) :=
  fn_at (okF117 k) (cn := c117 k) (fn := Try.f117) (code := bodyOf Try.f117) (m := ⟨11, []⟩) (gs := []) (by kernel_rfl) (by kernel_rfl) (by kernel_rfl) (by kernel_rfl) (by kernel_rfl) (fun _ => by kernel_rfl)
    [] (fun c hP hm hg => (LInv.of (code := (bodyOf Try.f117)) (bs := []) (by kernel_rfl) LInv.nil)) (ev117 k)
def c66 (k : Nat) : Con := ⟨66, [(T_Conf, false)], [.bool], (.own true), fun x => spec_ConfOk k x.1⟩
def F66 (k : Nat) : List Con := [c114 k, c96 k, c115 k, c116 k, c117 k]
theorem okF66 (k : Nat) : ∀ cn ∈ F66 k, ConOk Try.prog cn := (conCons (ok114 k) (conCons (ok96 k) (conCons (ok115 k) (conCons (ok116 k) (conCons (ok117 k) conNil)))))
abbrev S66_6 : Shape := [(1, .boxv T_Conf), (3, .v (.int .i64))]
abbrev X66_6 : Exit × Shape := (Exit.ret, [(2, .v .bool)])
abbrev R66_6 : List (Exit × Shape) := [(Exit.exit 0, [])]
def lo66_6 (k : Nat) : LO := loopO [] [] [] S66_6 X66_6 R66_6 (iter (spec_ConfOk_s6) k)
theorem st66_6 (k : Nat) (rec v) : evC Try.prog ⟨56, []⟩ (F66 k) (inlN Try.prog (F66 k) 4) [] (lpAt (bodyOf Try.f66) [0]) (Kb [] [] [] S66_6 X66_6 R66_6 rec) (mkSt [] [] S66_6 v.1 v.2) = (spec_ConfOk_s6) rec v := by kernel_rfl
theorem lp66_6 (k : Nat) {c : Cx} (hP : c.P = Try.prog) (hm : c.m = ⟨56, []⟩) (hg : c.gs = []) : LoopOk c (lo66_6 k) (lpAt (bodyOf Try.f66) [0]) :=
  loop_at hP hm hg (okF66 k) (LInv.of (code := (lpAt (bodyOf Try.f66) [0])) (bs := []) (by kernel_rfl) LInv.nil) (fun rec v => st66_6 k rec v) k
theorem ev66 (k : Nat) (x) : evF Try.prog (F66 k) (inlN Try.prog (F66 k) 4) [(6, lo66_6 k)] Try.f66 (bodyOf Try.f66) (c66 k).ps (c66 k).rs (c66 k).rm x = (c66 k).m x := by kernel_rfl
theorem ok66 (k : Nat) : ConOk Try.prog (c66 k) :=
  fn_at (okF66 k) (cn := c66 k) (fn := Try.f66) (code := bodyOf Try.f66) (m := ⟨56, []⟩) (gs := []) (by kernel_rfl) (by kernel_rfl) (by kernel_rfl) (by kernel_rfl) (by kernel_rfl) (fun _ => by kernel_rfl)
    [(6, lo66_6 k)] (fun c hP hm hg => (LInv.of (code := (bodyOf Try.f66)) (bs := [(lpAt (bodyOf Try.f66) [0])]) (by kernel_rfl) (LInv.cons (b := (lpAt (bodyOf Try.f66) [0])) (by kernel_rfl) (lp66_6 k hP hm hg) LInv.nil))) (ev66 k)
def c76 (k : Nat) : Con := ⟨76, [((.int .i64), false), ((.int .i64), false), ((.int .i64), false)], [.bool], (.own true), fun x => impl_within x.1 x.2.1 x.2.2.1⟩
def F76 (k : Nat) : List Con := []
theorem okF76 (k : Nat) : ∀ cn ∈ F76 k, ConOk Try.prog cn := conNil
theorem ev76 (k : Nat) (x) : evF Try.prog (F76 k) (inlN Try.prog (F76 k) 4) [] Try.f76 (bodyOf Try.f76) (c76 k).ps (c76 k).rs (c76 k).rm x = (c76 k).m x := by kernel_rfl
theorem ok76 (k : Nat) : ConOk Try.prog (c76 k) :=
  fn_at (okF76 k) (cn := c76 k) (fn := Try.f76) (code := bodyOf Try.f76) (m := ⟨15, []⟩) (gs := []) (by kernel_rfl) (by kernel_rfl) (by kernel_rfl) (by kernel_rfl) (by kernel_rfl) (fun _ => by kernel_rfl)
    [] (fun c hP hm hg => (LInv.of (code := (bodyOf Try.f76)) (bs := []) (by kernel_rfl) LInv.nil)) (ev76 k)
def c120 (k : Nat) : Con := ⟨120, [((.int .i64), false)], [.bool], (.own true), fun x => impl_isCells x.1⟩
def F120 (k : Nat) : List Con := []
theorem okF120 (k : Nat) : ∀ cn ∈ F120 k, ConOk Try.prog cn := conNil
theorem ev120 (k : Nat) (x) : evF Try.prog (F120 k) (inlN Try.prog (F120 k) 4) [] Try.f120 (bodyOf Try.f120) (c120 k).ps (c120 k).rs (c120 k).rm x = (c120 k).m x := by kernel_rfl
theorem ok120 (k : Nat) : ConOk Try.prog (c120 k) :=
  fn_at (okF120 k) (cn := c120 k) (fn := Try.f120) (code := bodyOf Try.f120) (m := ⟨21, []⟩) (gs := []) (by kernel_rfl) (by kernel_rfl) (by kernel_rfl) (by kernel_rfl) (by kernel_rfl) (fun _ => by kernel_rfl)
    [] (fun c hP hm hg => (LInv.of (code := (bodyOf Try.f120)) (bs := []) (by kernel_rfl) LInv.nil)) (ev120 k)
def c121 (k : Nat) : Con := ⟨121, [((.int .i64), false)], [.bool], (.own true), fun x => impl_isDelta x.1⟩
def F121 (k : Nat) : List Con := [c76 k]
theorem okF121 (k : Nat) : ∀ cn ∈ F121 k, ConOk Try.prog cn := (conCons (ok76 k) conNil)
theorem ev121 (k : Nat) (x) : evF Try.prog (F121 k) (inlN Try.prog (F121 k) 4) [] Try.f121 (bodyOf Try.f121) (c121 k).ps (c121 k).rs (c121 k).rm x = (c121 k).m x := by kernel_rfl
theorem ok121 (k : Nat) : ConOk Try.prog (c121 k) :=
  fn_at (okF121 k) (cn := c121 k) (fn := Try.f121) (code := bodyOf Try.f121) (m := ⟨5, []⟩) (gs := []) (by kernel_rfl) (by kernel_rfl) (by kernel_rfl) (by kernel_rfl) (by kernel_rfl) (fun _ => by kernel_rfl)
    [] (fun c hP hm hg => (LInv.of (code := (bodyOf Try.f121)) (bs := []) (by kernel_rfl) LInv.nil)) (ev121 k)
def c122 (k : Nat) : Con := ⟨122, [(T_Limits, false)], [.bool], (.own true), fun x => impl_LimitsOk x.1⟩
def F122 (k : Nat) : List Con := [c76 k]
theorem okF122 (k : Nat) : ∀ cn ∈ F122 k, ConOk Try.prog cn := (conCons (ok76 k) conNil)
theorem ev122 (k : Nat) (x) : evF Try.prog (F122 k) (inlN Try.prog (F122 k) 4) [] Try.f122 (bodyOf Try.f122) (c122 k).ps (c122 k).rs (c122 k).rm x = (c122 k).m x := by kernel_rfl
theorem ok122 (k : Nat) : ConOk Try.prog (c122 k) :=
  fn_at (okF122 k) (cn := c122 k) (fn := Try.f122) (code := bodyOf Try.f122) (m := ⟨21, []⟩) (gs := []) (by kernel_rfl) (by kernel_rfl) (by kernel_rfl) (by kernel_rfl) (by kernel_rfl) (fun _ => by kernel_rfl)
    [] (fun c hP hm hg => (LInv.of (code := (bodyOf Try.f122)) (bs := []) (by kernel_rfl) LInv.nil)) (ev122 k)
def c138 (k : Nat) : Con := ⟨138, [(T_Vec, false), ((.int .i64), false), ((.int .i64), false)], [.bool], (.own true), fun x => impl_Vec_isFrom x.1 x.2.1 x.2.2.1⟩
def F138 (k : Nat) : List Con := [c76 k]
theorem okF138 (k : Nat) : ∀ cn ∈ F138 k, ConOk Try.prog cn := (conCons (ok76 k) conNil)
theorem ev138 (k : Nat) (x) : evF Try.prog (F138 k) (inlN Try.prog (F138 k) 4) [] Try.f138 (bodyOf Try.f138) (c138 k).ps (c138 k).rs (c138 k).rm x = (c138 k).m x := by kernel_rfl
theorem ok138 (k : Nat) : ConOk Try.prog (c138 k) :=
  fn_at (okF138 k) (cn := c138 k) (fn := Try.f138) (code := bodyOf Try.f138) (m := ⟨26, []⟩) (gs := []) (by kernel_rfl) (by kernel_rfl) (by kernel_rfl) (by kernel_rfl) (by kernel_rfl) (fun _ => by kernel_rfl)
    [] (fun c hP hm hg => (LInv.of (code := (bodyOf Try.f138)) (bs := []) (by kernel_rfl) LInv.nil)) (ev138 k)
def c151 (k : Nat) : Con := ⟨151, [(T_Prof, false)], [.bool], (.own true), fun x => impl_ProfOk x.1⟩
def F151 (k : Nat) : List Con := [c138 k]
theorem okF151 (k : Nat) : ∀ cn ∈ F151 k, ConOk Try.prog cn := (conCons (ok138 k) conNil)
theorem ev151 (k : Nat) (x) : evF Try.prog (F151 k) (inlN Try.prog (F151 k) 4) [] Try.f151 (bodyOf Try.f151) (c151 k).ps (c151 k).rs (c151 k).rm x = (c151 k).m x := by kernel_rfl
theorem ok151 (k : Nat) : ConOk Try.prog (c151 k) :=
  fn_at (okF151 k) (cn := c151 k) (fn := Try.f151) (code := bodyOf Try.f151) (m := ⟨11, []⟩) (gs := []) (by kernel_rfl) (by kernel_rfl) (by kernel_rfl) (by kernel_rfl) (by kernel_rfl) (fun _ => by kernel_rfl)
    [] (fun c hP hm hg => (LInv.of (code := (bodyOf Try.f151)) (bs := []) (by kernel_rfl) LInv.nil)) (ev151 k)
def c150 (k : Nat) : Con := ⟨150, [(T_Prof, false)], [.bool], (.own true), fun x => impl_areProfs_1 x.1⟩
def F150 (k : Nat) : List Con := [c151 k]
theorem okF150 (k : Nat) : ∀ cn ∈ F150 k, ConOk Try.prog cn := (conCons (ok151 k) conNil)
theorem ev150 (k : Nat) (x) : evF Try.prog (F150 k) (inlN Try.prog (F150 k) 4) [] Try.f150 (bodyOf Try.f150) (c150 k).ps (c150 k).rs (c150 k).rm x = (c150 k).m x := by kernel_rfl
theorem ok150 (k : Nat) : ConOk Try.prog (c150 k) :=
  fn_at (okF150 k) (cn := c150 k) (fn := Try.f150) (code := bodyOf Try.f150) (m := ⟨6, []⟩) (gs := []) (by kernel_rfl) (by kernel_rfl) (by kernel_rfl) (by kernel_rfl) (by kernel_rfl) (fun _ => by kernel_rfl)
    [] (fun c hP hm hg => (LInv.of (code := (bodyOf Try.f150)) (bs := []) (by kernel_rfl) LInv.nil)) (ev150 k)
def c165 (k : Nat) : Con := ⟨165, [((.sl T_Prof), false), ((.cl 150 .un), false)], [(.int .i64)], (.own true), fun x => slices_IndexFunc_impl_Prof_impl_Prof k x.1 x.2.1⟩
def F165 (k : Nat) : List Con := [c150 k]
theorem okF165 (k : Nat) : ∀ cn ∈ F165 k, ConOk Try.prog cn := (conCons (ok150 k) conNil)
abbrev S165_2 : Shape := [(0, .v (.sl T_Prof)), (1, .v (.cl 150 .un)), (7, .v (.int .i64)), (8, .v (.int .i64))]
abbrev X165_2 : Exit × Shape := (Exit.ret, [(4, .v (.int .i64))])
abbrev R165_2 : List (Exit × Shape) := [(Exit.exit 0, [])]
def lo165_2 (k : Nat) : LO := loopO [] [] [] S165_2 X165_2 R165_2 (iter (slices_IndexFunc_impl_Prof_impl_Prof_s2) k)
theorem st165_2 (k : Nat) (rec v) : evC Try.prog ⟨19, []⟩ (F165 k) (inlN Try.prog (F165 k) 4) [] (lpAt (bodyOf Try.f165) [0]) (Kb [] [] [] S165_2 X165_2 R165_2 rec) (mkSt [] [] S165_2 v.1 v.2) = (slices_IndexFunc_impl_Prof_impl_Prof_s2) rec v := by kernel_rfl
theorem lp165_2 (k : Nat) {c : Cx} (hP : c.P = Try.prog) (hm : c.m = ⟨19, []⟩) (hg : c.gs = []) : LoopOk c (lo165_2 k) (lpAt (bodyOf Try.f165) [0]) :=
  loop_at hP hm hg (okF165 k) (LInv.of (code := (lpAt (bodyOf Try.f165) [0])) (bs := []) (by kernel_rfl) LInv.nil) (fun rec v => st165_2 k rec v) k
theorem ev165 (k : Nat) (x) : evF Try.prog (F165 k) (inlN Try.prog (F165 k) 4) [(2, lo165_2 k)] Try.f165 (bodyOf Try.f165) (c165 k).ps (c165 k).rs (c165 k).rm x = (c165 k).m x := by kernel_rfl
theorem ok165 (k : Nat) : ConOk Try.prog (c165 k) :=
  fn_at (okF165 k) (cn := c165 k) (fn := Try.f165) (code := bodyOf Try.f165) (m := ⟨19, []⟩) (gs := []) (by kernel_rfl) (by kernel_rfl) (by kernel_rfl) (by kernel_rfl) (by kernel_rfl) (fun _ => by kernel_rfl)
    [(2, lo165_2 k)] (fun c hP hm hg => (LInv.of (code := (bodyOf Try.f165)) (bs := [(lpAt (bodyOf Try.f165) [0])]) (by kernel_rfl) (LInv.cons (b := (lpAt (bodyOf Try.f165) [0])) (by kernel_rfl) (lp165_2 k hP hm hg) LInv.nil))) (ev165 k)
def c149 (k : Nat) : Con := ⟨149, [((.sl T_Prof), false), ((.cl 150 .un), false)], [.bool], (.own true), fun x => slices_ContainsFunc_impl_Prof_impl_Prof k x.1 x.2.1⟩
def F149 (k : Nat) : List Con := [c165 k]
theorem okF149 (k : Nat) : ∀ cn ∈ F149 k, ConOk Try.prog cn := (conCons (ok165 k) conNil)
theorem ev149 (k : Nat) (x) : evF Try.prog (F149 k) (inlN Try.prog (F149 k) 4) [] Try.f149 (bodyOf Try.f149) (c149 k).ps (c149 k).rs (c149 k).rm x = (c149 k).m x := by kernel_rfl
theorem ok149 (k : Nat) : ConOk Try.prog (c149 k) :=
  fn_at (okF149 k) (cn := c149 k) (fn := Try.f149) (code := bodyOf Try.f149) (m := ⟨9, []⟩) (gs := []) (by kernel_rfl) (by kernel_rfl) (by kernel_rfl) (by kernel_rfl) (by kernel_rfl) (fun _ => by kernel_rfl)
    [] (fun c hP hm hg => (LInv.of (code := (bodyOf Try.f149)) (bs := []) (by kernel_rfl) LInv.nil)) (ev149 k)
def c123 (k : Nat) : Con := ⟨123, [((.sl T_Prof), false)], [.bool], (.own true), fun x => impl_areProfs k x.1⟩
def F123 (k : Nat) : List Con := [c149 k]
theorem okF123 (k : Nat) : ∀ cn ∈ F123 k, ConOk Try.prog cn := (conCons (ok149 k) conNil)
theorem ev123 (k : Nat) (x) : evF Try.prog (F123 k) (inlN Try.prog (F123 k) 4) [] Try.f123 (bodyOf Try.f123) (c123 k).ps (c123 k).rs (c123 k).rm x = (c123 k).m x := by kernel_rfl
theorem ok123 (k : Nat) : ConOk Try.prog (c123 k) :=
  fn_at (okF123 k) (cn := c123 k) (fn := Try.f123) (code := bodyOf Try.f123) (m := ⟨11, []⟩) (gs := []) (by kernel_rfl) (by kernel_rfl) (by kernel_rfl) (by kernel_rfl) (by kernel_rfl) (fun _ => by kernel_rfl)
    [] (fun c hP hm hg => (LInv.of (code := (bodyOf Try.f123)) (bs := []) (by kernel_rfl) LInv.nil)) (ev123 k)
def c68 (k : Nat) : Con := ⟨68, [(T_Conf, false)], [.bool], (.own true), fun x => impl_ConfOk k x.1⟩
def F68 (k : Nat) : List Con := [c76 k, c120 k, c121 k, c122 k, c123 k]
theorem okF68 (k : Nat) : ∀ cn ∈ F68 k, ConOk Try.prog cn := (conCons (ok76 k) (conCons (ok120 k) (conCons (ok121 k) (conCons (ok122 k) (conCons (ok123 k) conNil)))))
theorem ev68 (k : Nat) (x) : evF Try.prog (F68 k) (inlN Try.prog (F68 k) 4) [] Try.f68 (bodyOf Try.f68) (c68 k).ps (c68 k).rs (c68 k).rm x = (c68 k).m x := by kernel_rfl
theorem ok68 (k : Nat) : ConOk Try.prog (c68 k) :=
  fn_at (okF68 k) (cn := c68 k) (fn := Try.f68) (code := bodyOf Try.f68) (m := ⟨36, []⟩) (gs := []) (by kernel_rfl) (by kernel_rfl) (by kernel_rfl) (by kernel_rfl) (by kernel_rfl) (fun _ => by kernel_rfl)
    [] (fun c hP hm hg => (LInv.of (code := (bodyOf Try.f68)) (bs := []) (by kernel_rfl) LInv.nil)) (ev68 k)
def c124 (k : Nat) : Con := ⟨124, [(T_Limits, false), (T_Limits, false)], [.bool], (.own true), fun x => laws_eqLimits x.1 x.2.1⟩
def F124 (k : Nat) : List Con := []
theorem okF124 (k : Nat) : ∀ cn ∈ F124 k, ConOk Try.prog cn := conNil
theorem ev124 (k : Nat) (x) : evF Try.prog (F124 k) (inlN Try.prog (F124 k) 4) [] Try.f124 (bodyOf Try.f124) (c124 k).ps (c124 k).rs (c124 k).rm x = (c124 k).m x := by kernel_rfl
theorem ok124 (k : Nat) : ConOk Try.prog (c124 k) :=
  fn_at (okF124 k) (cn := c124 k) (fn := Try.f124) (code := bodyOf Try.f124) (m := ⟨30, []⟩) (gs := []) (by kernel_rfl) (by kernel_rfl) (by kernel_rfl) (by kernel_rfl) (by kernel_rfl) (fun _ => by kernel_rfl)
    [] (fun c hP hm hg => (LInv.of (code := (bodyOf Try.f124)) (bs := []) (by kernel_rfl) LInv.nil)) (ev124 k)
def c145 (k : Nat) : Con := ⟨145, [(T_Vec, false), (T_Vec, false)], [.bool], (.own true), fun x => laws_eqVec x.1 x.2.1⟩
def F145 (k : Nat) : List Con := []
theorem okF145 (k : Nat) : ∀ cn ∈ F145 k, ConOk Try.prog cn := conNil
theorem ev145 (k : Nat) (x) : evF Try.prog (F145 k) (inlN Try.prog (F145 k) 4) [] Try.f145 (bodyOf Try.f145) (c145 k).ps (c145 k).rs (c145 k).rm x = (c145 k).m x := by kernel_rfl
theorem ok145 (k : Nat) : ConOk Try.prog (c145 k) :=
  fn_at (okF145 k) (cn := c145 k) (fn := Try.f145) (code := bodyOf Try.f145) (m := ⟨20, []⟩) (gs := []) (by kernel_rfl) (by kernel_rfl) (by kernel_rfl) (by kernel_rfl) (by kernel_rfl) (fun _ => by kernel_rfl)
    [] (fun c hP hm hg => (LInv.of (code := (bodyOf Try.f145)) (bs := []) (by kernel_rfl) LInv.nil)) (ev145 k)
def c152 (k : Nat) : Con := ⟨152, [(T_Prof, false), (T_Prof, false)], [.bool], (.own true), fun x => laws_eqProf x.1 x.2.1⟩
def F152 (k : Nat) : List Con := [c145 k]
theorem okF152 (k : Nat) : ∀ cn ∈ F152 k, ConOk Try.prog cn := (conCons (ok145 k) conNil)
theorem ev152 (k : Nat) (x) : evF Try.prog (F152 k) (inlN Try.prog (F152 k) 4) [] Try.f152 (bodyOf Try.f152) (c152 k).ps (c152 k).rs (c152 k).rm x = (c152 k).m x := by kernel_rfl
theorem ok152 (k : Nat) : ConOk Try.prog (c152 k) :=
  fn_at (okF152 k) (cn := c152 k) (fn := Try.f152) (code := bodyOf Try.f152) (m := ⟨17, []⟩) (gs := []) (by kernel_rfl) (by kernel_rfl) (by kernel_rfl) (by kernel_rfl) (by kernel_rfl) (fun _ => by kernel_rfl)
    [] (fun c hP hm hg => (LInv.of (code := (bodyOf Try.f152)) (bs := []) (by kernel_rfl) LInv.nil)) (ev152 k)
def c125 (k : Nat) : Con := ⟨125, [((.sl T_Prof), false), ((.sl T_Prof), false)], [.bool], (.own true), fun x => laws_eqProfS k x.1 x.2.1⟩
def F125 (k : Nat) : List Con := [c152 k]
theorem okF125 (k : Nat) : ∀ cn ∈ F125 k, ConOk Try.prog cn := (conCons (ok152 k) conNil)
abbrev S125_4 : Shape := [(0, .v (.sl T_Prof)), (1, .v (.sl T_Prof)), (5, .v (.int .i64))]
abbrev X125_4 : Exit × Shape := (Exit.ret, [(4, .v .bool)])
abbrev R125_4 : List (Exit × Shape) := [(Exit.exit 0, [])]
def lo125_4 (k : Nat) : LO := loopO [] [] [] S125_4 X125_4 R125_4 (iter (laws_eqProfS_s4) k)
theorem st125_4 (k : Nat) (rec v) : evC Try.prog ⟨27, []⟩ (F125 k) (inlN Try.prog (F125 k) 4) [] (lpAt (bodyOf Try.f125) [0]) (Kb [] [] [] S125_4 X125_4 R125_4 rec) (mkSt [] [] S125_4 v.1 v.2) = (laws_eqProfS_s4) rec v := by kernel_rfl
theorem lp125_4 (k : Nat) {c : Cx} (hP : c.P = Try.prog) (hm : c.m = ⟨27, []⟩) (hg : c.gs = []) : LoopOk c (lo125_4 k) (lpAt (bodyOf Try.f125) [0]) :=
  loop_at hP hm hg (okF125 k) (LInv.of (code := (lpAt (bodyOf Try.f125) [0])) (bs := []) (by kernel_rfl) LInv.nil) (fun rec v => st125_4 k rec v) k
theorem ev125 (k : Nat) (x) : evF Try.prog (F125 k) (inlN Try.prog (F125 k) 4) [(4, lo125_4 k)] Try.f125 (bodyOf Try.f125) (c125 k).ps (c125 k).rs (c125 k).rm x = (c125 k).m x := by kernel_rfl
theorem ok125 (k : Nat) : ConOk Try.prog (c125 k) :=
  fn_at (okF125 k) (cn := c125 k) (fn := Try.f125) (code := bodyOf Try.f125) (m := ⟨27, []⟩) (gs := []) (by kernel_rfl) (by kernel_rfl) (by kernel_rfl) (by kernel_rfl) (by kernel_rfl) (fun _ => by kernel_rfl)
    [(4, lo125_4 k)] (fun c hP hm hg => (LInv.of (code := (bodyOf Try.f125)) (bs := [(lpAt (bodyOf Try.f125) [0])]) (by kernel_rfl) (LInv.cons (b := (lpAt (bodyOf Try.f125) [0])) (by kernel_rfl) (lp125_4 k hP hm hg) LInv.nil))) (ev125 k)
def c69 (k : Nat) : Con := ⟨69, [(T_Conf, false), (T_Conf, false)], [.bool], (.own true), fun x => laws_eqConf k x.1 x.2.1⟩
def F69 (k : Nat) : List Con := [c124 k, c125 k]
theorem okF69 (k : Nat) : ∀ cn ∈ F69 k, ConOk Try.prog cn := (conCons (ok124 k) (conCons (ok125 k) conNil))
theorem ev69 (k : Nat) (x) : evF Try.prog (F69 k) (inlN Try.prog (F69 k) 4) [] Try.f69 (bodyOf Try.f69) (c69 k).ps (c69 k).rs (c69 k).rm x = (c69 k).m x := by kernel_rfl
theorem ok69 (k : Nat) : ConOk Try.prog (c69 k) :=
  fn_at (okF69 k) (cn := c69 k) (fn := Try.f69) (code := bodyOf Try.f69) (m := ⟨42, []⟩) (gs := []) (by kernel_rfl) (by kernel_rfl) (by kernel_rfl) (by kernel_rfl) (by kernel_rfl) (fun _ => by kernel_rfl)
    [] (fun c hP hm hg => (LInv.of (code := (bodyOf Try.f69)) (bs := []) (by kernel_rfl) LInv.nil)) (ev69 k)
def c14 (k : Nat) : Con := ⟨14, [(T_Conf, false)], [.bool], (.own true), fun x => laws_FnExactConfOk k x.1⟩
def F14 (k : Nat) : List Con := [c65 k, c67 k, c66 k, c68 k, c69 k]
theorem okF14 (k : Nat) : ∀ cn ∈ F14 k, ConOk Try.prog cn := (conCons (ok65 k) (conCons (ok67 k) (conCons (ok66 k) (conCons (ok68 k) (conCons (ok69 k) conNil)))))
theorem ev14 (k : Nat) (x) : evF Try.prog (F14 k) (inlN Try.prog (F14 k) 4) [] Try.f14 (bodyOf Try.f14) (c14 k).ps (c14 k).rs (c14 k).rm x = (c14 k).m x := by kernel_rfl
theorem ok14 (k : Nat) : ConOk Try.prog (c14 k) :=
  fn_at (okF14 k) (cn := c14 k) (fn := Try.f14) (code := bodyOf Try.f14) (m := ⟨27, []⟩) (gs := []) (by kernel_rfl) (by kernel_rfl) (by kernel_rfl) (by kernel_rfl) (by kernel_rfl) (fun _ => by kernel_rfl)
    [] (fun c hP hm hg => (LInv.of (code := (bodyOf Try.f14)) (bs := []) (by kernel_rfl) LInv.nil)) (ev14 k)
end Go.Tw
