/- Each function is proved to answer as its mirror does. -/
import Derived.Test.YtmjacadeccoclaaMd
import Derived.Test.YtmjacadeccoclaaRows
set_option linter.all false
namespace Go.Tw
open Go Go.RowKit Go.Proofs
def c159 (k : Nat) : Con := ⟨159, [((.sl T_Timer), false), ((.int .i64), false)], [(.int .i64)], (.own true), fun x => laws_szTimerS x.1 x.2.1⟩
def F159 (k : Nat) : List Con := []
theorem okF159 (k : Nat) : ∀ cn ∈ F159 k, ConOk Try.prog cn := conNil
theorem ev159 (k : Nat) (x) : evF Try.prog (F159 k) (inlN Try.prog (F159 k) 4) [] Try.f159 (bodyOf Try.f159) (c159 k).ps (c159 k).rs (c159 k).rm x = (c159 k).m x := by kernel_rfl
theorem ok159 (k : Nat) : ConOk Try.prog (c159 k) :=
  fn_at (okF159 k) (cn := c159 k) (fn := Try.f159) (code := bodyOf Try.f159) (m := ⟨12, []⟩) (gs := []) (by kernel_rfl) (by kernel_rfl) (by kernel_rfl) (by kernel_rfl) (by kernel_rfl) (fun _ => by kernel_rfl)
    [] (fun c hP hm hg => (LInv.of (code := (bodyOf Try.f159)) (bs := []) (by kernel_rfl) LInv.nil)) (ev159 k)
def c141 (k : Nat) : Con := ⟨141, [(T_Spoke, false), ((.int .i64), false)], [(.int .i64)], (.own true), fun x => laws_szSpoke x.1 x.2.1⟩
def F141 (k : Nat) : List Con := [c159 k]
theorem okF141 (k : Nat) : ∀ cn ∈ F141 k, ConOk Try.prog cn := (conCons (ok159 k) conNil)
theorem ev141 (k : Nat) (x) : evF Try.prog (F141 k) (inlN Try.prog (F141 k) 4) [] Try.f141 (bodyOf Try.f141) (c141 k).ps (c141 k).rs (c141 k).rm x = (c141 k).m x := by kernel_rfl
theorem ok141 (k : Nat) : ConOk Try.prog (c141 k) :=
  fn_at (okF141 k) (cn := c141 k) (fn := Try.f141) (code := bodyOf Try.f141) (m := ⟨12, []⟩) (gs := []) (by kernel_rfl) (by kernel_rfl) (by kernel_rfl) (by kernel_rfl) (by kernel_rfl) (fun _ => by kernel_rfl)
    [] (fun c hP hm hg => (LInv.of (code := (bodyOf Try.f141)) (bs := []) (by kernel_rfl) LInv.nil)) (ev141 k)
def c103 (k : Nat) : Con := ⟨103, [((.sl T_Spoke), false), ((.int .i64), false)], [(.int .i64)], (.own true), fun x => laws_szSpokeS k x.1 x.2.1⟩
def F103 (k : Nat) : List Con := [c141 k]
theorem okF103 (k : Nat) : ∀ cn ∈ F103 k, ConOk Try.prog cn := (conCons (ok141 k) conNil)
abbrev S103_5 : Shape := [(0, .v (.sl T_Spoke)), (1, .v (.int .i64)), (5, .v (.int .i64))]
abbrev X103_5 : Exit × Shape := (Exit.ret, [(4, .v (.int .i64))])
abbrev R103_5 : List (Exit × Shape) := [(Exit.exit 0, [(1, .v (.int .i64))])]
def lo103_5 (k : Nat) : LO := loopO [] [] [] S103_5 X103_5 R103_5 (iter (laws_szSpokeS_s5) k)
theorem st103_5 (k : Nat) (rec v) : evC Try.prog ⟨27, []⟩ (F103 k) (inlN Try.prog (F103 k) 4) [] (lpAt (bodyOf Try.f103) [0]) (Kb [] [] [] S103_5 X103_5 R103_5 rec) (mkSt [] [] S103_5 v.1 v.2) = (laws_szSpokeS_s5) rec v := by kernel_rfl
theorem lp103_5 (k : Nat) {c : Cx} (hP : c.P = Try.prog) (hm : c.m = ⟨27, []⟩) (hg : c.gs = []) : LoopOk c (lo103_5 k) (lpAt (bodyOf Try.f103) [0]) :=
  loop_at hP hm hg (okF103 k) (LInv.of (code := (lpAt (bodyOf Try.f103) [0])) (bs := []) (by kernel_rfl) LInv.nil) (fun rec v => st103_5 k rec v) k
theorem ev103 (k : Nat) (x) : evF Try.prog (F103 k) (inlN Try.prog (F103 k) 4) [(5, lo103_5 k)] Try.f103 (bodyOf Try.f103) (c103 k).ps (c103 k).rs (c103 k).rm x = (c103 k).m x := by kernel_rfl
theorem ok103 (k : Nat) : ConOk Try.prog (c103 k) :=
  fn_at (okF103 k) (cn := c103 k) (fn := Try.f103) (code := bodyOf Try.f103) (m := ⟨27, []⟩) (gs := []) (by kernel_rfl) (by kernel_rfl) (by kernel_rfl) (by kernel_rfl) (by kernel_rfl) (fun _ => by kernel_rfl)
    [(5, lo103_5 k)] (fun c hP hm hg => (LInv.of (code := (bodyOf Try.f103)) (bs := [(lpAt (bodyOf Try.f103) [0])]) (by kernel_rfl) (LInv.cons (b := (lpAt (bodyOf Try.f103) [0])) (by kernel_rfl) (lp103_5 k hP hm hg) LInv.nil))) (ev103 k)
def c44 (k : Nat) : Con := ⟨44, [(T_Wheel, false), ((.int .i64), false)], [(.int .i64)], (.own true), fun x => laws_szWheel k x.1 x.2.1⟩
def F44 (k : Nat) : List Con := [c103 k]
theorem okF44 (k : Nat) : ∀ cn ∈ F44 k, ConOk Try.prog cn := (conCons (ok103 k) conNil)
theorem ev44 (k : Nat) (x) : evF Try.prog (F44 k) (inlN Try.prog (F44 k) 4) [] Try.f44 (bodyOf Try.f44) (c44 k).ps (c44 k).rs (c44 k).rm x = (c44 k).m x := by kernel_rfl
theorem ok44 (k : Nat) : ConOk Try.prog (c44 k) :=
  fn_at (okF44 k) (cn := c44 k) (fn := Try.f44) (code := bodyOf Try.f44) (m := ⟨12, []⟩) (gs := []) (by kernel_rfl) (by kernel_rfl) (by kernel_rfl) (by kernel_rfl) (by kernel_rfl) (fun _ => by kernel_rfl)
    [] (fun c hP hm hg => (LInv.of (code := (bodyOf Try.f44)) (bs := []) (by kernel_rfl) LInv.nil)) (ev44 k)
def c166 (k : Nat) : Con := ⟨166, [(T_Timer, false)], [T_Timer], (.own true), fun x => laws_toTimer x.1⟩
def F166 (k : Nat) : List Con := []
theorem okF166 (k : Nat) : ∀ cn ∈ F166 k, ConOk Try.prog cn := conNil
theorem ev166 (k : Nat) (x) : evF Try.prog (F166 k) (inlN Try.prog (F166 k) 4) [] Try.f166 (bodyOf Try.f166) (c166 k).ps (c166 k).rs (c166 k).rm x = (c166 k).m x := by kernel_rfl
theorem ok166 (k : Nat) : ConOk Try.prog (c166 k) :=
  fn_at (okF166 k) (cn := c166 k) (fn := Try.f166) (code := bodyOf Try.f166) (m := ⟨11, []⟩) (gs := []) (by kernel_rfl) (by kernel_rfl) (by kernel_rfl) (by kernel_rfl) (by kernel_rfl) (fun _ => by kernel_rfl)
    [] (fun c hP hm hg => (LInv.of (code := (bodyOf Try.f166)) (bs := []) (by kernel_rfl) LInv.nil)) (ev166 k)
def c160 (k : Nat) : Con := ⟨160, [((.sl T_Timer), false)], [(.sl T_Timer)], (.own true), fun x => laws_toTimerS k x.1⟩
def F160 (k : Nat) : List Con := [c166 k]
theorem okF160 (k : Nat) : ∀ cn ∈ F160 k, ConOk Try.prog cn := (conCons (ok166 k) conNil)
abbrev S160_3 : Shape := [(0, .v (.sl T_Timer)), (3, .own true (.sl T_Timer)), (4, .v (.int .i64))]
abbrev X160_3 : Exit × Shape := (Exit.exit 0, [(3, .own true (.sl T_Timer))])
abbrev R160_3 : List (Exit × Shape) := []
def lo160_3 (k : Nat) : LO := loopO [] [] [] S160_3 X160_3 R160_3 (iter (laws_toTimerS_s3) k)
theorem st160_3 (k : Nat) (rec v) : evC Try.prog ⟨23, []⟩ (F160 k) (inlN Try.prog (F160 k) 4) [] (lpAt (bodyOf Try.f160) [0]) (Kb [] [] [] S160_3 X160_3 R160_3 rec) (mkSt [] [] S160_3 v.1 v.2) = (laws_toTimerS_s3) rec v := by kernel_rfl
theorem lp160_3 (k : Nat) {c : Cx} (hP : c.P = Try.prog) (hm : c.m = ⟨23, []⟩) (hg : c.gs = []) : LoopOk c (lo160_3 k) (lpAt (bodyOf Try.f160) [0]) :=
  loop_at hP hm hg (okF160 k) (LInv.of (code := (lpAt (bodyOf Try.f160) [0])) (bs := []) (by kernel_rfl) LInv.nil) (fun rec v => st160_3 k rec v) k
theorem ev160 (k : Nat) (x) : evF Try.prog (F160 k) (inlN Try.prog (F160 k) 4) [(3, lo160_3 k)] Try.f160 (bodyOf Try.f160) (c160 k).ps (c160 k).rs (c160 k).rm x = (c160 k).m x := by kernel_rfl
theorem ok160 (k : Nat) : ConOk Try.prog (c160 k) :=
  fn_at (okF160 k) (cn := c160 k) (fn := Try.f160) (code := bodyOf Try.f160) (m := ⟨23, []⟩) (gs := []) (by kernel_rfl) (by kernel_rfl) (by kernel_rfl) (by kernel_rfl) (by kernel_rfl) (fun _ => by kernel_rfl)
    [(3, lo160_3 k)] (fun c hP hm hg => (LInv.of (code := (bodyOf Try.f160)) (bs := [(lpAt (bodyOf Try.f160) [0])]) (by kernel_rfl) (LInv.cons (b := (lpAt (bodyOf Try.f160) [0])) (by kernel_rfl) (lp160_3 k hP hm hg) LInv.nil))) (ev160 k)
def c142 (k : Nat) : Con := ⟨142, [(T_Spoke, false)], [T_Spoke], (.own true), fun x => laws_toSpoke k x.1⟩
def F142 (k : Nat) : List Con := [c160 k]
theorem okF142 (k : Nat) : ∀ cn ∈ F142 k, ConOk Try.prog cn := (conCons (ok160 k) conNil)
theorem ev142 (k : Nat) (x) : evF Try.prog (F142 k) (inlN Try.prog (F142 k) 4) [] Try.f142 (bodyOf Try.f142) (c142 k).ps (c142 k).rs (c142 k).rm x = (c142 k).m x := by kernel_rfl
theorem ok142 (k : Nat) : ConOk Try.prog (c142 k) :=
  fn_at (okF142 k) (cn := c142 k) (fn := Try.f142) (code := bodyOf Try.f142) (m := ⟨9, []⟩) (gs := []) (by kernel_rfl) (by kernel_rfl) (by kernel_rfl) (by kernel_rfl) (by kernel_rfl) (fun _ => by kernel_rfl)
    [] (fun c hP hm hg => (LInv.of (code := (bodyOf Try.f142)) (bs := []) (by kernel_rfl) LInv.nil)) (ev142 k)
def c104 (k : Nat) : Con := ⟨104, [((.sl T_Spoke), false)], [(.sl T_Spoke)], (.own true), fun x => laws_toSpokeS k x.1⟩
def F104 (k : Nat) : List Con := [c142 k]
theorem okF104 (k : Nat) : ∀ cn ∈ F104 k, ConOk Try.prog cn := (conCons (ok142 k) conNil)
abbrev S104_3 : Shape := [(0, .v (.sl T_Spoke)), (3, .own true (.sl T_Spoke)), (4, .v (.int .i64))]
abbrev X104_3 : Exit × Shape := (Exit.exit 0, [(3, .own true (.sl T_Spoke))])
abbrev R104_3 : List (Exit × Shape) := []
def lo104_3 (k : Nat) : LO := loopO [] [] [] S104_3 X104_3 R104_3 (iter (laws_toSpokeS_s3 k) k)
theorem st104_3 (k : Nat) (rec v) : evC Try.prog ⟨23, []⟩ (F104 k) (inlN Try.prog (F104 k) 4) [] (lpAt (bodyOf Try.f104) [0]) (Kb [] [] [] S104_3 X104_3 R104_3 rec) (mkSt [] [] S104_3 v.1 v.2) = (laws_toSpokeS_s3 k) rec v := by kernel_rfl
theorem lp104_3 (k : Nat) {c : Cx} (hP : c.P = Try.prog) (hm : c.m = ⟨23, []⟩) (hg : c.gs = []) : LoopOk c (lo104_3 k) (lpAt (bodyOf Try.f104) [0]) :=
  loop_at hP hm hg (okF104 k) (LInv.of (code := (lpAt (bodyOf Try.f104) [0])) (bs := []) (by kernel_rfl) LInv.nil) (fun rec v => st104_3 k rec v) k
theorem ev104 (k : Nat) (x) : evF Try.prog (F104 k) (inlN Try.prog (F104 k) 4) [(3, lo104_3 k)] Try.f104 (bodyOf Try.f104) (c104 k).ps (c104 k).rs (c104 k).rm x = (c104 k).m x := by kernel_rfl
theorem ok104 (k : Nat) : ConOk Try.prog (c104 k) :=
  fn_at (okF104 k) (cn := c104 k) (fn := Try.f104) (code := bodyOf Try.f104) (m := ⟨23, []⟩) (gs := []) (by kernel_rfl) (by kernel_rfl) (by kernel_rfl) (by kernel_rfl) (by kernel_rfl) (fun _ => by kernel_rfl)
    [(3, lo104_3 k)] (fun c hP hm hg => (LInv.of (code := (bodyOf Try.f104)) (bs := [(lpAt (bodyOf Try.f104) [0])]) (by kernel_rfl) (LInv.cons (b := (lpAt (bodyOf Try.f104) [0])) (by kernel_rfl) (lp104_3 k hP hm hg) LInv.nil))) (ev104 k)
def c45 (k : Nat) : Con := ⟨45, [(T_Wheel, false)], [T_Wheel], (.own true), fun x => laws_toWheel k x.1⟩
def F45 (k : Nat) : List Con := [c104 k]
theorem okF45 (k : Nat) : ∀ cn ∈ F45 k, ConOk Try.prog cn := (conCons (ok104 k) conNil)
theorem ev45 (k : Nat) (x) : evF Try.prog (F45 k) (inlN Try.prog (F45 k) 4) [] Try.f45 (bodyOf Try.f45) (c45 k).ps (c45 k).rs (c45 k).rm x = (c45 k).m x := by kernel_rfl
theorem ok45 (k : Nat) : ConOk Try.prog (c45 k) :=
  fn_at (okF45 k) (cn := c45 k) (fn := Try.f45) (code := bodyOf Try.f45) (m := ⟨12, []⟩) (gs := []) (by kernel_rfl) (by kernel_rfl) (by kernel_rfl) (by kernel_rfl) (by kernel_rfl) (fun _ => by kernel_rfl)
    [] (fun c hP hm hg => (LInv.of (code := (bodyOf Try.f45)) (bs := []) (by kernel_rfl) LInv.nil)) (ev45 k)
def c74 (k : Nat) : Con := ⟨74, [(T_Wheel, false)], [(.sl T_Timer)], (.own true), fun x => spec_l12All k x.1⟩
def F74 (k : Nat) : List Con := []
theorem okF74 (k : Nat) : ∀ cn ∈ F74 k, ConOk Try.prog cn := conNil
abbrev S74_3 : Shape := [(1, .boxv T_Wheel), (3, .own true (.sl T_Timer)), (4, .v (.int .i64))]
abbrev X74_3 : Exit × Shape := (Exit.exit 0, [(3, .own true (.sl T_Timer))])
abbrev R74_3 : List (Exit × Shape) := []
def lo74_3 (k : Nat) : LO := loopO [] [] [] S74_3 X74_3 R74_3 (iter (spec_l12All_s3) k)
theorem st74_3 (k : Nat) (rec v) : evC Try.prog ⟨22, []⟩ (F74 k) (inlN Try.prog (F74 k) 4) [] (lpAt (bodyOf Try.f74) [0]) (Kb [] [] [] S74_3 X74_3 R74_3 rec) (mkSt [] [] S74_3 v.1 v.2) = (spec_l12All_s3) rec v := by kernel_rfl
theorem lp74_3 (k : Nat) {c : Cx} (hP : c.P = Try.prog) (hm : c.m = ⟨22, []⟩) (hg : c.gs = []) : LoopOk c (lo74_3 k) (lpAt (bodyOf Try.f74) [0]) :=
  loop_at hP hm hg (okF74 k) (LInv.of (code := (lpAt (bodyOf Try.f74) [0])) (bs := []) (by kernel_rfl) LInv.nil) (fun rec v => st74_3 k rec v) k
theorem ev74 (k : Nat) (x) : evF Try.prog (F74 k) (inlN Try.prog (F74 k) 4) [(3, lo74_3 k)] Try.f74 (bodyOf Try.f74) (c74 k).ps (c74 k).rs (c74 k).rm x = (c74 k).m x := by kernel_rfl
theorem ok74 (k : Nat) : ConOk Try.prog (c74 k) :=
  fn_at (okF74 k) (cn := c74 k) (fn := Try.f74) (code := bodyOf Try.f74) (m := ⟨22, []⟩) (gs := []) (by kernel_rfl) (by kernel_rfl) (by kernel_rfl) (by kernel_rfl) (by kernel_rfl) (fun _ => by kernel_rfl)
    [(3, lo74_3 k)] (fun c hP hm hg => (LInv.of (code := (bodyOf Try.f74)) (bs := [(lpAt (bodyOf Try.f74) [0])]) (by kernel_rfl) (LInv.cons (b := (lpAt (bodyOf Try.f74) [0])) (by kernel_rfl) (lp74_3 k hP hm hg) LInv.nil))) (ev74 k)
def c19 (k : Nat) : Con := ⟨19, [(T_Wheel, false)], [.bool], (.own true), fun x => spec_WheelOk k x.1⟩
def F19 (k : Nat) : List Con := [c74 k]
theorem okF19 (k : Nat) : ∀ cn ∈ F19 k, ConOk Try.prog cn := (conCons (ok74 k) conNil)
abbrev S19_5 : Shape := [(1, .boxv T_Wheel), (3, .v (.int .i64)), (4, .v (.int .i64))]
abbrev X19_5 : Exit × Shape := (Exit.ret, [(2, .v .bool)])
abbrev R19_5 : List (Exit × Shape) := [(Exit.exit 0, [(1, .boxv T_Wheel), (3, .v (.int .i64))])]
def lo19_5 (k : Nat) : LO := loopO [] [] [] S19_5 X19_5 R19_5 (iter (spec_WheelOk_s5) k)
theorem st19_5 (k : Nat) (rec v) : evC Try.prog ⟨134, []⟩ (F19 k) (inlN Try.prog (F19 k) 4) [] (lpAt (bodyOf Try.f19) [0]) (Kb [] [] [] S19_5 X19_5 R19_5 rec) (mkSt [] [] S19_5 v.1 v.2) = (spec_WheelOk_s5) rec v := by kernel_rfl
theorem lp19_5 (k : Nat) {c : Cx} (hP : c.P = Try.prog) (hm : c.m = ⟨134, []⟩) (hg : c.gs = []) : LoopOk c (lo19_5 k) (lpAt (bodyOf Try.f19) [0]) :=
  loop_at hP hm hg (okF19 k) (LInv.of (code := (lpAt (bodyOf Try.f19) [0])) (bs := []) (by kernel_rfl) LInv.nil) (fun rec v => st19_5 k rec v) k
abbrev S19_19 : Shape := [(1, .boxv T_Wheel), (5, .own true (.sl T_Timer)), (6, .v (.int .i64)), (7, .v (.int .i64))]
abbrev X19_19 : Exit × Shape := (Exit.ret, [(2, .v .bool)])
abbrev R19_19 : List (Exit × Shape) := [(Exit.exit 4, [(1, .boxv T_Wheel), (5, .own true (.sl T_Timer)), (6, .v (.int .i64))])]
def lo19_19 (k : Nat) : LO := loopO [] [] [] S19_19 X19_19 R19_19 (iter (spec_WheelOk_s19) k)
theorem st19_19 (k : Nat) (rec v) : evC Try.prog ⟨134, []⟩ (F19 k) (inlN Try.prog (F19 k) 4) [] (lpAt (bodyOf Try.f19) [1, 0]) (Kb [] [] [] S19_19 X19_19 R19_19 rec) (mkSt [] [] S19_19 v.1 v.2) = (spec_WheelOk_s19) rec v := by kernel_rfl
theorem lp19_19 (k : Nat) {c : Cx} (hP : c.P = Try.prog) (hm : c.m = ⟨134, []⟩) (hg : c.gs = []) : LoopOk c (lo19_19 k) (lpAt (bodyOf Try.f19) [1, 0]) :=
  loop_at hP hm hg (okF19 k) (LInv.of (code := (lpAt (bodyOf Try.f19) [1, 0])) (bs := []) (by kernel_rfl) LInv.nil) (fun rec v => st19_19 k rec v) k
abbrev S19_14 : Shape := [(1, .boxv T_Wheel), (5, .own true (.sl T_Timer)), (6, .v (.int .i64))]
abbrev X19_14 : Exit × Shape := (Exit.ret, [(2, .v .bool)])
abbrev R19_14 : List (Exit × Shape) := [(Exit.exit 2, [(1, .boxv T_Wheel)])]
def lo19_14 (k : Nat) : LO := loopO [] [] [] S19_14 X19_14 R19_14 (iter (spec_WheelOk_s14 k) k)
theorem st19_14 (k : Nat) (rec v) : evC Try.prog ⟨134, []⟩ (F19 k) (inlN Try.prog (F19 k) 4) [(19, lo19_19 k)] (lpAt (bodyOf Try.f19) [1]) (Kb [] [] [] S19_14 X19_14 R19_14 rec) (mkSt [] [] S19_14 v.1 v.2) = (spec_WheelOk_s14 k) rec v := by kernel_rfl
theorem lp19_14 (k : Nat) {c : Cx} (hP : c.P = Try.prog) (hm : c.m = ⟨134, []⟩) (hg : c.gs = []) : LoopOk c (lo19_14 k) (lpAt (bodyOf Try.f19) [1]) :=
  loop_at hP hm hg (okF19 k) (LInv.of (code := (lpAt (bodyOf Try.f19) [1])) (bs := [(lpAt (bodyOf Try.f19) [1, 0])]) (by kernel_rfl) (LInv.cons (b := (lpAt (bodyOf Try.f19) [1, 0])) (by kernel_rfl) (lp19_19 k hP hm hg) LInv.nil)) (fun rec v => st19_14 k rec v) k
abbrev S19_27 : Shape := [(1, .boxv T_Wheel), (8, .v (.int .i64)), (9, .v (.int .i64))]
abbrev X19_27 : Exit × Shape := (Exit.ret, [(2, .v .bool)])
abbrev R19_27 : List (Exit × Shape) := [(Exit.exit 8, [(1, .boxv T_Wheel), (8, .v (.int .i64))])]
def lo19_27 (k : Nat) : LO := loopO [] [] [] S19_27 X19_27 R19_27 (iter (spec_WheelOk_s27) k)
theorem st19_27 (k : Nat) (rec v) : evC Try.prog ⟨134, []⟩ (F19 k) (inlN Try.prog (F19 k) 4) [] (lpAt (bodyOf Try.f19) [2, 0]) (Kb [] [] [] S19_27 X19_27 R19_27 rec) (mkSt [] [] S19_27 v.1 v.2) = (spec_WheelOk_s27) rec v := by kernel_rfl
theorem lp19_27 (k : Nat) {c : Cx} (hP : c.P = Try.prog) (hm : c.m = ⟨134, []⟩) (hg : c.gs = []) : LoopOk c (lo19_27 k) (lpAt (bodyOf Try.f19) [2, 0]) :=
  loop_at hP hm hg (okF19 k) (LInv.of (code := (lpAt (bodyOf Try.f19) [2, 0])) (bs := []) (by kernel_rfl) LInv.nil) (fun rec v => st19_27 k rec v) k
abbrev S19_24 : Shape := [(1, .boxv T_Wheel), (8, .v (.int .i64))]
abbrev X19_24 : Exit × Shape := (Exit.ret, [(2, .v .bool)])
abbrev R19_24 : List (Exit × Shape) := [(Exit.exit 6, [])]
def lo19_24 (k : Nat) : LO := loopO [] [] [] S19_24 X19_24 R19_24 (iter (spec_WheelOk_s24 k) k)
theorem st19_24 (k : Nat) (rec v) : evC Try.prog ⟨134, []⟩ (F19 k) (inlN Try.prog (F19 k) 4) [(27, lo19_27 k)] (lpAt (bodyOf Try.f19) [2]) (Kb [] [] [] S19_24 X19_24 R19_24 rec) (mkSt [] [] S19_24 v.1 v.2) = (spec_WheelOk_s24 k) rec v := by kernel_rfl
theorem lp19_24 (k : Nat) {c : Cx} (hP : c.P = Try.prog) (hm : c.m = ⟨134, []⟩) (hg : c.gs = []) : LoopOk c (lo19_24 k) (lpAt (bodyOf Try.f19) [2]) :=
  loop_at hP hm hg (okF19 k) (LInv.of (code := (lpAt (bodyOf Try.f19) [2])) (bs := [(lpAt (bodyOf Try.f19) [2, 0])]) (by kernel_rfl) (LInv.cons (b := (lpAt (bodyOf Try.f19) [2, 0])) (by kernel_rfl) (lp19_27 k hP hm hg) LInv.nil)) (fun rec v => st19_24 k rec v) k
theorem ev19 (k : Nat) (x) : evF Try.prog (F19 k) (inlN Try.prog (F19 k) 4) [(5, lo19_5 k), (14, lo19_14 k), (24, lo19_24 k)] Try.f19 (bodyOf Try.f19) (c19 k).ps (c19 k).rs (c19 k).rm x = (c19 k).m x := by kernel_rfl
theorem ok19 (k : Nat) : ConOk Try.prog (c19 k) :=
  fn_at (okF19 k) (cn := c19 k) (fn := Try.f19) (code := bodyOf Try.f19) (m := ⟨134, []⟩) (gs := []) (by kernel_rfl) (by kernel_rfl) (by kernel_rfl) (by kernel_rfl) (by kernel_rfl) (fun _ => by kernel_rfl)
    [(5, lo19_5 k), (14, lo19_14 k), (24, lo19_24 k)] (fun c hP hm hg => (LInv.of (code := (bodyOf Try.f19)) (bs := [(lpAt (bodyOf Try.f19) [0]), (lpAt (bodyOf Try.f19) [1]), (lpAt (bodyOf Try.f19) [2])]) (by kernel_rfl) (LInv.cons (b := (lpAt (bodyOf Try.f19) [0])) (by kernel_rfl) (lp19_5 k hP hm hg) (LInv.cons (b := (lpAt (bodyOf Try.f19) [1])) (by kernel_rfl) (lp19_14 k hP hm hg) (LInv.cons (b := (lpAt (bodyOf Try.f19) [2])) (by kernel_rfl) (lp19_24 k hP hm hg) LInv.nil))))) (ev19 k)
def c75 (k : Nat) : Con := ⟨75, [(T_Wheel, false), ((.int .i64), false), ((.int .i64), false), ((.int .i64), false)], [T_Wheel], (.own true), fun x => spec_l12Without k x.1 x.2.1 x.2.2.1 x.2.2.2.1⟩
def F75 (k : Nat) : List Con := []
theorem okF75 (k : Nat) : ∀ cn ∈ F75 k, ConOk Try.prog cn := conNil
abbrev S75_7 : Shape := [(2, .v (.int .i64)), (3, .v (.int .i64)), (4, .boxv T_Wheel), (8, .box true T_Wheel), (9, .box true T_Wheel), (10, .v (.int .i64)), (11, .own true (.sl T_Timer)), (12, .v (.int .i64))]
abbrev X75_7 : Exit × Shape := (Exit.exit 2, [(2, .v (.int .i64)), (3, .v (.int .i64)), (4, .boxv T_Wheel), (8, .box true T_Wheel), (9, .box true T_Wheel), (10, .v (.int .i64)), (11, .own true (.sl T_Timer))])
abbrev R75_7 : List (Exit × Shape) := []
def lo75_7 (k : Nat) : LO := loopO [] [] [] S75_7 X75_7 R75_7 (iter (spec_l12Without_s7) k)
theorem st75_7 (k : Nat) (rec v) : evC Try.prog ⟨63, []⟩ (F75 k) (inlN Try.prog (F75 k) 4) [] (lpAt (bodyOf Try.f75) [0, 0]) (Kb [] [] [] S75_7 X75_7 R75_7 rec) (mkSt [] [] S75_7 v.1 v.2) = (spec_l12Without_s7) rec v := by kernel_rfl
theorem lp75_7 (k : Nat) {c : Cx} (hP : c.P = Try.prog) (hm : c.m = ⟨63, []⟩) (hg : c.gs = []) : LoopOk c (lo75_7 k) (lpAt (bodyOf Try.f75) [0, 0]) :=
  loop_at hP hm hg (okF75 k) (LInv.of (code := (lpAt (bodyOf Try.f75) [0, 0])) (bs := []) (by kernel_rfl) LInv.nil) (fun rec v => st75_7 k rec v) k
abbrev S75_3 : Shape := [(2, .v (.int .i64)), (3, .v (.int .i64)), (4, .boxv T_Wheel), (8, .box true T_Wheel), (9, .box true T_Wheel), (10, .v (.int .i64))]
abbrev X75_3 : Exit × Shape := (Exit.exit 0, [(8, .box true T_Wheel), (9, .box true T_Wheel)])
abbrev R75_3 : List (Exit × Shape) := []
def lo75_3 (k : Nat) : LO := loopO [] [] [] S75_3 X75_3 R75_3 (iter (spec_l12Without_s3 k) k)
theorem st75_3 (k : Nat) (rec v) : evC Try.prog ⟨63, []⟩ (F75 k) (inlN Try.prog (F75 k) 4) [(7, lo75_7 k)] (lpAt (bodyOf Try.f75) [0]) (Kb [] [] [] S75_3 X75_3 R75_3 rec) (mkSt [] [] S75_3 v.1 v.2) = (spec_l12Without_s3 k) rec v := by kernel_rfl
theorem lp75_3 (k : Nat) {c : Cx} (hP : c.P = Try.prog) (hm : c.m = ⟨63, []⟩) (hg : c.gs = []) : LoopOk c (lo75_3 k) (lpAt (bodyOf Try.f75) [0]) :=
  loop_at hP hm hg (okF75 k) (LInv.of (code := (lpAt (bodyOf Try.f75) [0])) (bs := [(lpAt (bodyOf Try.f75) [0, 0])]) (by kernel_rfl) (LInv.cons (b := (lpAt (bodyOf Try.f75) [0, 0])) (by kernel_rfl) (lp75_7 k hP hm hg) LInv.nil)) (fun rec v => st75_3 k rec v) k
theorem ev75 (k : Nat) (x) : evF Try.prog (F75 k) (inlN Try.prog (F75 k) 4) [(3, lo75_3 k)] Try.f75 (bodyOf Try.f75) (c75 k).ps (c75 k).rs (c75 k).rm x = (c75 k).m x := by kernel_rfl
theorem ok75 (k : Nat) : ConOk Try.prog (c75 k) :=
  fn_at (okF75 k) (cn := c75 k) (fn := Try.f75) (code := bodyOf Try.f75) (m := ⟨63, []⟩) (gs := []) (by kernel_rfl) (by kernel_rfl) (by kernel_rfl) (by kernel_rfl) (by kernel_rfl) (fun _ => by kernel_rfl)
    [(3, lo75_3 k)] (fun c hP hm hg => (LInv.of (code := (bodyOf Try.f75)) (bs := [(lpAt (bodyOf Try.f75) [0])]) (by kernel_rfl) (LInv.cons (b := (lpAt (bodyOf Try.f75) [0])) (by kernel_rfl) (lp75_3 k hP hm hg) LInv.nil))) (ev75 k)
def c17 (k : Nat) : Con := ⟨17, [(T_Wheel, false), ((.int .i64), false)], [T_Wheel, (.sl T_Timer)], (.own true), fun x => spec_WheelRun k x.1 x.2.1⟩
def F17 (k : Nat) : List Con := [c19 k, c74 k, c75 k]
theorem okF17 (k : Nat) : ∀ cn ∈ F17 k, ConOk Try.prog cn := (conCons (ok19 k) (conCons (ok74 k) (conCons (ok75 k) conNil)))
abbrev S17_10 : Shape := [(1, .v (.int .i64)), (2, .boxv T_Wheel), (4, .box true T_Wheel), (6, .own true (.sl T_Timer)), (7, .own true (.sl T_Timer)), (8, .box true T_Wheel), (9, .v (.int .i64)), (10, .v (.int .i64))]
abbrev X17_10 : Exit × Shape := (Exit.exit 2, [(1, .v (.int .i64)), (2, .boxv T_Wheel), (4, .box true T_Wheel), (6, .own true (.sl T_Timer)), (7, .own true (.sl T_Timer)), (8, .box true T_Wheel), (9, .v (.int .i64))])
abbrev R17_10 : List (Exit × Shape) := []
def lo17_10 (k : Nat) : LO := loopO [] [] [] S17_10 X17_10 R17_10 (iter (spec_WheelRun_s10) k)
theorem st17_10 (k : Nat) (rec v) : evC Try.prog ⟨74, []⟩ (F17 k) (inlN Try.prog (F17 k) 4) [] (lpAt (bodyOf Try.f17) [0, 0]) (Kb [] [] [] S17_10 X17_10 R17_10 rec) (mkSt [] [] S17_10 v.1 v.2) = (spec_WheelRun_s10) rec v := by kernel_rfl
theorem lp17_10 (k : Nat) {c : Cx} (hP : c.P = Try.prog) (hm : c.m = ⟨74, []⟩) (hg : c.gs = []) : LoopOk c (lo17_10 k) (lpAt (bodyOf Try.f17) [0, 0]) :=
  loop_at hP hm hg (okF17 k) (LInv.of (code := (lpAt (bodyOf Try.f17) [0, 0])) (bs := []) (by kernel_rfl) LInv.nil) (fun rec v => st17_10 k rec v) k
abbrev S17_7 : Shape := [(1, .v (.int .i64)), (2, .boxv T_Wheel), (4, .box true T_Wheel), (6, .own true (.sl T_Timer)), (7, .own true (.sl T_Timer)), (8, .box true T_Wheel), (9, .v (.int .i64))]
abbrev X17_7 : Exit × Shape := (Exit.exit 0, [(4, .box true T_Wheel), (7, .own true (.sl T_Timer)), (8, .box true T_Wheel)])
abbrev R17_7 : List (Exit × Shape) := []
def lo17_7 (k : Nat) : LO := loopO [] [] [] S17_7 X17_7 R17_7 (iter (spec_WheelRun_s7 k) k)
theorem st17_7 (k : Nat) (rec v) : evC Try.prog ⟨74, []⟩ (F17 k) (inlN Try.prog (F17 k) 4) [(10, lo17_10 k)] (lpAt (bodyOf Try.f17) [0]) (Kb [] [] [] S17_7 X17_7 R17_7 rec) (mkSt [] [] S17_7 v.1 v.2) = (spec_WheelRun_s7 k) rec v := by kernel_rfl
theorem lp17_7 (k : Nat) {c : Cx} (hP : c.P = Try.prog) (hm : c.m = ⟨74, []⟩) (hg : c.gs = []) : LoopOk c (lo17_7 k) (lpAt (bodyOf Try.f17) [0]) :=
  loop_at hP hm hg (okF17 k) (LInv.of (code := (lpAt (bodyOf Try.f17) [0])) (bs := [(lpAt (bodyOf Try.f17) [0, 0])]) (by kernel_rfl) (LInv.cons (b := (lpAt (bodyOf Try.f17) [0, 0])) (by kernel_rfl) (lp17_10 k hP hm hg) LInv.nil)) (fun rec v => st17_7 k rec v) k
theorem ev17 (k : Nat) (x) : evF Try.prog (F17 k) (inlN Try.prog (F17 k) 4) [(7, lo17_7 k)] Try.f17 (bodyOf Try.f17) (c17 k).ps (c17 k).rs (c17 k).rm x = (c17 k).m x := by kernel_rfl
theorem ok17 (k : Nat) : ConOk Try.prog (c17 k) :=
  fn_at (okF17 k) (cn := c17 k) (fn := Try.f17) (code := bodyOf Try.f17) (m := ⟨74, []⟩) (gs := []) (by kernel_rfl) (by kernel_rfl) (by kernel_rfl) (by kernel_rfl) (by kernel_rfl) (fun _ => by kernel_rfl)
    [(7, lo17_7 k)] (fun c hP hm hg => (LInv.of (code := (bodyOf Try.f17)) (bs := [(lpAt (bodyOf Try.f17) [0])]) (by kernel_rfl) (LInv.cons (b := (lpAt (bodyOf Try.f17) [0])) (by kernel_rfl) (lp17_7 k hP hm hg) LInv.nil))) (ev17 k)
def c76 (k : Nat) : Con := ⟨76, [((.int .i64), false), ((.int .i64), false), ((.int .i64), false)], [.bool], (.own true), fun x => impl_within x.1 x.2.1 x.2.2.1⟩
def F76 (k : Nat) : List Con := []
theorem okF76 (k : Nat) : ∀ cn ∈ F76 k, ConOk Try.prog cn := conNil
theorem ev76 (k : Nat) (x) : evF Try.prog (F76 k) (inlN Try.prog (F76 k) 4) [] Try.f76 (bodyOf Try.f76) (c76 k).ps (c76 k).rs (c76 k).rm x = (c76 k).m x := by kernel_rfl
theorem ok76 (k : Nat) : ConOk Try.prog (c76 k) :=
  fn_at (okF76 k) (cn := c76 k) (fn := Try.f76) (code := bodyOf Try.f76) (m := ⟨15, []⟩) (gs := []) (by kernel_rfl) (by kernel_rfl) (by kernel_rfl) (by kernel_rfl) (by kernel_rfl) (fun _ => by kernel_rfl)
    [] (fun c hP hm hg => (LInv.of (code := (bodyOf Try.f76)) (bs := []) (by kernel_rfl) LInv.nil)) (ev76 k)
def c85 (k : Nat) : Con := ⟨85, [((.int .i64), false)], [.bool], (.own true), fun x => impl_isNow x.1⟩
def F85 (k : Nat) : List Con := [c76 k]
theorem okF85 (k : Nat) : ∀ cn ∈ F85 k, ConOk Try.prog cn := (conCons (ok76 k) conNil)
theorem ev85 (k : Nat) (x) : evF Try.prog (F85 k) (inlN Try.prog (F85 k) 4) [] Try.f85 (bodyOf Try.f85) (c85 k).ps (c85 k).rs (c85 k).rm x = (c85 k).m x := by kernel_rfl
theorem ok85 (k : Nat) : ConOk Try.prog (c85 k) :=
  fn_at (okF85 k) (cn := c85 k) (fn := Try.f85) (code := bodyOf Try.f85) (m := ⟨5, []⟩) (gs := []) (by kernel_rfl) (by kernel_rfl) (by kernel_rfl) (by kernel_rfl) (by kernel_rfl) (fun _ => by kernel_rfl)
    [] (fun c hP hm hg => (LInv.of (code := (bodyOf Try.f85)) (bs := []) (by kernel_rfl) LInv.nil)) (ev85 k)
def c86 (k : Nat) : Con := ⟨86, [(T_Wheel, false), ((.int .i64), false)], [.bool], (.own true), fun x => impl_Wheel_isAhead x.1 x.2.1⟩
def F86 (k : Nat) : List Con := [c76 k]
theorem okF86 (k : Nat) : ∀ cn ∈ F86 k, ConOk Try.prog cn := (conCons (ok76 k) conNil)
theorem ev86 (k : Nat) (x) : evF Try.prog (F86 k) (inlN Try.prog (F86 k) 4) [] Try.f86 (bodyOf Try.f86) (c86 k).ps (c86 k).rs (c86 k).rm x = (c86 k).m x := by kernel_rfl
theorem ok86 (k : Nat) : ConOk Try.prog (c86 k) :=
  fn_at (okF86 k) (cn := c86 k) (fn := Try.f86) (code := bodyOf Try.f86) (m := ⟨13, []⟩) (gs := []) (by kernel_rfl) (by kernel_rfl) (by kernel_rfl) (by kernel_rfl) (by kernel_rfl) (fun _ => by kernel_rfl)
    [] (fun c hP hm hg => (LInv.of (code := (bodyOf Try.f86)) (bs := []) (by kernel_rfl) LInv.nil)) (ev86 k)
def c26 (k : Nat) : Con := ⟨26, [(T_Wheel, false)], [.bool], (.own true), fun x => impl_WheelOk k x.1⟩
def F26 (k : Nat) : List Con := [c85 k, c76 k, c86 k]
theorem okF26 (k : Nat) : ∀ cn ∈ F26 k, ConOk Try.prog cn := (conCons (ok85 k) (conCons (ok76 k) (conCons (ok86 k) conNil)))
abbrev S26_8 : Shape := [(1, .boxv T_Wheel), (3, .mp .i64), (4, .v (.int .i64)), (20, .v (.sl T_Spoke)), (21, .v (.int .i64)), (22, .v (.int .i64)), (28, .v (.sl T_Timer)), (29, .v (.int .i64)), (30, .v (.int .i64))]
abbrev X26_8 : Exit × Shape := (Exit.ret, [(2, .v .bool)])
abbrev R26_8 : List (Exit × Shape) := [(Exit.exit 2, [(1, .boxv T_Wheel), (3, .mp .i64), (20, .v (.sl T_Spoke)), (21, .v (.int .i64)), (22, .v (.int .i64))])]
def lo26_8 (k : Nat) : LO := loopO [] [] [] S26_8 X26_8 R26_8 (iter (impl_WheelOk_s8) k)
theorem st26_8 (k : Nat) (rec v) : evC Try.prog ⟨66, []⟩ (F26 k) (inlN Try.prog (F26 k) 4) [] (lpAt (bodyOf Try.f26) [0, 0]) (Kb [] [] [] S26_8 X26_8 R26_8 rec) (mkSt [] [] S26_8 v.1 v.2) = (impl_WheelOk_s8) rec v := by kernel_rfl
theorem lp26_8 (k : Nat) {c : Cx} (hP : c.P = Try.prog) (hm : c.m = ⟨66, []⟩) (hg : c.gs = []) : LoopOk c (lo26_8 k) (lpAt (bodyOf Try.f26) [0, 0]) :=
  loop_at hP hm hg (okF26 k) (LInv.of (code := (lpAt (bodyOf Try.f26) [0, 0])) (bs := []) (by kernel_rfl) LInv.nil) (fun rec v => st26_8 k rec v) k
abbrev S26_5 : Shape := [(1, .boxv T_Wheel), (3, .mp .i64), (20, .v (.sl T_Spoke)), (21, .v (.int .i64)), (22, .v (.int .i64))]
abbrev X26_5 : Exit × Shape := (Exit.ret, [(2, .v .bool)])
abbrev R26_5 : List (Exit × Shape) := [(Exit.exit 0, [(3, .mp .i64)])]
def lo26_5 (k : Nat) : LO := loopO [] [] [] S26_5 X26_5 R26_5 (iter (impl_WheelOk_s5 k) k)
theorem st26_5 (k : Nat) (rec v) : evC Try.prog ⟨66, []⟩ (F26 k) (inlN Try.prog (F26 k) 4) [(8, lo26_8 k)] (lpAt (bodyOf Try.f26) [0]) (Kb [] [] [] S26_5 X26_5 R26_5 rec) (mkSt [] [] S26_5 v.1 v.2) = (impl_WheelOk_s5 k) rec v := by kernel_rfl
theorem lp26_5 (k : Nat) {c : Cx} (hP : c.P = Try.prog) (hm : c.m = ⟨66, []⟩) (hg : c.gs = []) : LoopOk c (lo26_5 k) (lpAt (bodyOf Try.f26) [0]) :=
  loop_at hP hm hg (okF26 k) (LInv.of (code := (lpAt (bodyOf Try.f26) [0])) (bs := [(lpAt (bodyOf Try.f26) [0, 0])]) (by kernel_rfl) (LInv.cons (b := (lpAt (bodyOf Try.f26) [0, 0])) (by kernel_rfl) (lp26_8 k hP hm hg) LInv.nil)) (fun rec v => st26_5 k rec v) k
theorem ev26 (k : Nat) (x) : evF Try.prog (F26 k) (inlN Try.prog (F26 k) 4) [(5, lo26_5 k)] Try.f26 (bodyOf Try.f26) (c26 k).ps (c26 k).rs (c26 k).rm x = (c26 k).m x := by kernel_rfl
theorem ok26 (k : Nat) : ConOk Try.prog (c26 k) :=
  fn_at (okF26 k) (cn := c26 k) (fn := Try.f26) (code := bodyOf Try.f26) (m := ⟨66, []⟩) (gs := []) (by kernel_rfl) (by kernel_rfl) (by kernel_rfl) (by kernel_rfl) (by kernel_rfl) (fun _ => by kernel_rfl)
    [(5, lo26_5 k)] (fun c hP hm hg => (LInv.of (code := (bodyOf Try.f26)) (bs := [(lpAt (bodyOf Try.f26) [0])]) (by kernel_rfl) (LInv.cons (b := (lpAt (bodyOf Try.f26) [0])) (by kernel_rfl) (lp26_5 k hP hm hg) LInv.nil))) (ev26 k)
def c128 (k : Nat) : Con := ⟨128, [((.sl T_Timer), false)], [(.sl T_Timer)], (.own true), fun x => slices_Clone_impl_Timer_impl_Timer x.1⟩
theorem ok128 (k : Nat) : ConOk Try.prog (c128 k) :=
  fn_nil conNil (fn := Try.f128) (code := bodyOf Try.f128) (by kernel_rfl) (by kernel_rfl) (by kernel_rfl) (by kernel_rfl) (by kernel_rfl) (fun e l => by kernel_rfl) (by kernel_rfl) (fun A cap => by kernel_rfl)
def c78 (k : Nat) : Con := ⟨78, [(T_Timer, false)], [.bool], (.own true), fun x => impl_WheelRun_1 x.1⟩
def F78 (k : Nat) : List Con := []
theorem okF78 (k : Nat) : ∀ cn ∈ F78 k, ConOk Try.prog cn := conNil
theorem ev78 (k : Nat) (x) : evF Try.prog (F78 k) (inlN Try.prog (F78 k) 4) [] Try.f78 (bodyOf Try.f78) (c78 k).ps (c78 k).rs (c78 k).rm x = (c78 k).m x := by kernel_rfl
theorem ok78 (k : Nat) : ConOk Try.prog (c78 k) :=
  fn_at (okF78 k) (cn := c78 k) (fn := Try.f78) (code := bodyOf Try.f78) (m := ⟨3, []⟩) (gs := []) (by kernel_rfl) (by kernel_rfl) (by kernel_rfl) (by kernel_rfl) (by kernel_rfl) (fun _ => by kernel_rfl)
    [] (fun c hP hm hg => (LInv.of (code := (bodyOf Try.f78)) (bs := []) (by kernel_rfl) LInv.nil)) (ev78 k)
def c129 (k : Nat) : Con := ⟨129, [(T_Timer, false), ((.ref (.int .i64)), false)], [.bool], (.own true), fun x => impl_Wheel_tick_1 x.1 x.2.1⟩
def F129 (k : Nat) : List Con := []
theorem okF129 (k : Nat) : ∀ cn ∈ F129 k, ConOk Try.prog cn := conNil
theorem ev129 (k : Nat) (x) : evF Try.prog (F129 k) (inlN Try.prog (F129 k) 4) [] Try.f129 (bodyOf Try.f129) (c129 k).ps (c129 k).rs (c129 k).rm x = (c129 k).m x := by kernel_rfl
theorem ok129 (k : Nat) : ConOk Try.prog (c129 k) :=
  fn_at (okF129 k) (cn := c129 k) (fn := Try.f129) (code := bodyOf Try.f129) (m := ⟨8, []⟩) (gs := []) (by kernel_rfl) (by kernel_rfl) (by kernel_rfl) (by kernel_rfl) (by kernel_rfl) (fun _ => by kernel_rfl)
    [] (fun c hP hm hg => (LInv.of (code := (bodyOf Try.f129)) (bs := []) (by kernel_rfl) LInv.nil)) (ev129 k)
def c156 (k : Nat) : Con := ⟨156, [((.sl T_Timer), false), ((.cl 129 (.pr (.ref (.int .i64)) .un)), false)], [(.int .i64)], (.own true), fun x => slices_IndexFunc_impl_Timer_impl_Timer k x.1 x.2.1⟩
def F156 (k : Nat) : List Con := [c129 k]
theorem okF156 (k : Nat) : ∀ cn ∈ F156 k, ConOk Try.prog cn := (conCons (ok129 k) conNil)
abbrev S156_2 : Shape := [(0, .v (.sl T_Timer)), (1, .v (.cl 129 (.pr (.ref (.int .i64)) .un))), (7, .v (.int .i64)), (8, .v (.int .i64))]
abbrev X156_2 : Exit × Shape := (Exit.ret, [(4, .v (.int .i64))])
abbrev R156_2 : List (Exit × Shape) := [(Exit.exit 0, [])]
def lo156_2 (k : Nat) : LO := loopO [] [] [] S156_2 X156_2 R156_2 (iter (slices_IndexFunc_impl_Timer_impl_Timer_s2) k)
theorem st156_2 (k : Nat) (rec v) : evC Try.prog ⟨19, []⟩ (F156 k) (inlN Try.prog (F156 k) 4) [] (lpAt (bodyOf Try.f156) [0]) (Kb [] [] [] S156_2 X156_2 R156_2 rec) (mkSt [] [] S156_2 v.1 v.2) = (slices_IndexFunc_impl_Timer_impl_Timer_s2) rec v := by kernel_rfl
theorem lp156_2 (k : Nat) {c : Cx} (hP : c.P = Try.prog) (hm : c.m = ⟨19, []⟩) (hg : c.gs = []) : LoopOk c (lo156_2 k) (lpAt (bodyOf Try.f156) [0]) :=
  loop_at hP hm hg (okF156 k) (LInv.of (code := (lpAt (bodyOf Try.f156) [0])) (bs := []) (by kernel_rfl) LInv.nil) (fun rec v => st156_2 k rec v) k
theorem ev156 (k : Nat) (x) : evF Try.prog (F156 k) (inlN Try.prog (F156 k) 4) [(2, lo156_2 k)] Try.f156 (bodyOf Try.f156) (c156 k).ps (c156 k).rs (c156 k).rm x = (c156 k).m x := by kernel_rfl
theorem ok156 (k : Nat) : ConOk Try.prog (c156 k) :=
  fn_at (okF156 k) (cn := c156 k) (fn := Try.f156) (code := bodyOf Try.f156) (m := ⟨19, []⟩) (gs := []) (by kernel_rfl) (by kernel_rfl) (by kernel_rfl) (by kernel_rfl) (by kernel_rfl) (fun _ => by kernel_rfl)
    [(2, lo156_2 k)] (fun c hP hm hg => (LInv.of (code := (bodyOf Try.f156)) (bs := [(lpAt (bodyOf Try.f156) [0])]) (by kernel_rfl) (LInv.cons (b := (lpAt (bodyOf Try.f156) [0])) (by kernel_rfl) (lp156_2 k hP hm hg) LInv.nil))) (ev156 k)
def c127 (k : Nat) : Con := ⟨127, [((.sl T_Timer), true), ((.cl 129 (.pr (.ref (.int .i64)) .un)), false)], [(.sl T_Timer)], .mv, fun x => slices_DeleteFunc_impl_Timer_impl_Timer k x.1 x.2.1⟩
def F127 (k : Nat) : List Con := [c156 k, c129 k]
theorem okF127 (k : Nat) : ∀ cn ∈ F127 k, ConOk Try.prog cn := (conCons (ok156 k) (conCons (ok129 k) conNil))
abbrev S127_5 : Shape := [(0, .own true (.sl T_Timer)), (1, .v (.cl 129 (.pr (.ref (.int .i64)) .un))), (5, .v (.int .i64)), (6, .v (.int .i64))]
abbrev X127_5 : Exit × Shape := (Exit.exit 0, [(0, .own true (.sl T_Timer)), (5, .v (.int .i64))])
abbrev R127_5 : List (Exit × Shape) := []
def lo127_5 (k : Nat) : LO := loopO [] [] [] S127_5 X127_5 R127_5 (iter (slices_DeleteFunc_impl_Timer_impl_Timer_s5) k)
theorem st127_5 (k : Nat) (rec v) : evC Try.prog ⟨42, []⟩ (F127 k) (inlN Try.prog (F127 k) 4) [] (lpAt (bodyOf Try.f127) [0]) (Kb [] [] [] S127_5 X127_5 R127_5 rec) (mkSt [] [] S127_5 v.1 v.2) = (slices_DeleteFunc_impl_Timer_impl_Timer_s5) rec v := by kernel_rfl
theorem lp127_5 (k : Nat) {c : Cx} (hP : c.P = Try.prog) (hm : c.m = ⟨42, []⟩) (hg : c.gs = []) : LoopOk c (lo127_5 k) (lpAt (bodyOf Try.f127) [0]) :=
  loop_at hP hm hg (okF127 k) (LInv.of (code := (lpAt (bodyOf Try.f127) [0])) (bs := []) (by kernel_rfl) LInv.nil) (fun rec v => st127_5 k rec v) k
theorem ev127 (k : Nat) (x) : evFm Try.prog (F127 k) (inlN Try.prog (F127 k) 4) [(5, lo127_5 k)] Try.f127 (bodyOf Try.f127) (c127 k).ps (c127 k).rs x = (c127 k).m x := by kernel_rfl
theorem ok127 (k : Nat) : ConOk Try.prog (c127 k) :=
  fn_mv (okF127 k) (cn := c127 k) (fn := Try.f127) (code := bodyOf Try.f127) (m := ⟨42, []⟩) (gs := []) (by kernel_rfl) (by kernel_rfl) (by kernel_rfl) (by kernel_rfl) (by kernel_rfl) rfl
    [(5, lo127_5 k)] (fun c hP hm hg => (LInv.of (code := (bodyOf Try.f127)) (bs := [(lpAt (bodyOf Try.f127) [0])]) (by kernel_rfl) (LInv.cons (b := (lpAt (bodyOf Try.f127) [0])) (by kernel_rfl) (lp127_5 k hP hm hg) LInv.nil))) (ev127 k)
def c77 (k : Nat) : Con := ⟨77, [(T_Wheel, false), ((.cl 129 (.pr (.ref (.int .i64)) .un)), false)], [T_Wheel], (.own true), fun x => impl_copyWheel k x.1 x.2.1⟩
def F77 (k : Nat) : List Con := [c128 k, c127 k]
theorem okF77 (k : Nat) : ∀ cn ∈ F77 k, ConOk Try.prog cn := (conCons (ok128 k) (conCons (ok127 k) conNil))
abbrev S77_3 : Shape := [(1, .v (.cl 129 (.pr (.ref (.int .i64)) .un))), (2, .boxv T_Wheel), (4, .box true T_Wheel), (5, .own true (.sl T_Spoke)), (10, .v (.sl T_Spoke)), (11, .v (.int .i64)), (12, .v (.int .i64))]
abbrev X77_3 : Exit × Shape := (Exit.exit 0, [(2, .boxv T_Wheel), (4, .box true T_Wheel), (5, .own true (.sl T_Spoke))])
abbrev R77_3 : List (Exit × Shape) := []
def lo77_3 (k : Nat) : LO := loopO [] [] [] S77_3 X77_3 R77_3 (iter (impl_copyWheel_s3 k) k)
theorem st77_3 (k : Nat) (rec v) : evC Try.prog ⟨30, []⟩ (F77 k) (inlN Try.prog (F77 k) 4) [] (lpAt (bodyOf Try.f77) [0]) (Kb [] [] [] S77_3 X77_3 R77_3 rec) (mkSt [] [] S77_3 v.1 v.2) = (impl_copyWheel_s3 k) rec v := by kernel_rfl
theorem lp77_3 (k : Nat) {c : Cx} (hP : c.P = Try.prog) (hm : c.m = ⟨30, []⟩) (hg : c.gs = []) : LoopOk c (lo77_3 k) (lpAt (bodyOf Try.f77) [0]) :=
  loop_at hP hm hg (okF77 k) (LInv.of (code := (lpAt (bodyOf Try.f77) [0])) (bs := []) (by kernel_rfl) LInv.nil) (fun rec v => st77_3 k rec v) k
theorem ev77 (k : Nat) (x) : evF Try.prog (F77 k) (inlN Try.prog (F77 k) 4) [(3, lo77_3 k)] Try.f77 (bodyOf Try.f77) (c77 k).ps (c77 k).rs (c77 k).rm x = (c77 k).m x := by kernel_rfl
theorem ok77 (k : Nat) : ConOk Try.prog (c77 k) :=
  fn_at (okF77 k) (cn := c77 k) (fn := Try.f77) (code := bodyOf Try.f77) (m := ⟨30, []⟩) (gs := []) (by kernel_rfl) (by kernel_rfl) (by kernel_rfl) (by kernel_rfl) (by kernel_rfl) (fun _ => by kernel_rfl)
    [(3, lo77_3 k)] (fun c hP hm hg => (LInv.of (code := (bodyOf Try.f77)) (bs := [(lpAt (bodyOf Try.f77) [0])]) (by kernel_rfl) (LInv.cons (b := (lpAt (bodyOf Try.f77) [0])) (by kernel_rfl) (lp77_3 k hP hm hg) LInv.nil))) (ev77 k)
def c79 (k : Nat) : Con := ⟨79, [(T_Wheel, false)], [T_Wheel, (.sl T_Timer)], (.own true), fun x => impl_Wheel_tick k x.1⟩
def F79 (k : Nat) : List Con := [c77 k]
theorem okF79 (k : Nat) : ∀ cn ∈ F79 k, ConOk Try.prog cn := (conCons (ok77 k) conNil)
abbrev S79_3 : Shape := [(1, .boxv T_Wheel), (2, .box true T_Wheel), (4, .box true (.int .i64)), (5, .own true (.sl T_Timer)), (19, .v (.sl T_Timer)), (20, .v (.int .i64)), (21, .v (.int .i64))]
abbrev X79_3 : Exit × Shape := (Exit.exit 0, [(1, .boxv T_Wheel), (2, .box true T_Wheel), (4, .box true (.int .i64)), (5, .own true (.sl T_Timer))])
abbrev R79_3 : List (Exit × Shape) := []
def lo79_3 (k : Nat) : LO := loopO [] [] [] S79_3 X79_3 R79_3 (iter (impl_Wheel_tick_s3) k)
theorem st79_3 (k : Nat) (rec v) : evC Try.prog ⟨41, []⟩ (F79 k) (inlN Try.prog (F79 k) 4) [] (lpAt (bodyOf Try.f79) [0]) (Kb [] [] [] S79_3 X79_3 R79_3 rec) (mkSt [] [] S79_3 v.1 v.2) = (impl_Wheel_tick_s3) rec v := by kernel_rfl
theorem lp79_3 (k : Nat) {c : Cx} (hP : c.P = Try.prog) (hm : c.m = ⟨41, []⟩) (hg : c.gs = []) : LoopOk c (lo79_3 k) (lpAt (bodyOf Try.f79) [0]) :=
  loop_at hP hm hg (okF79 k) (LInv.of (code := (lpAt (bodyOf Try.f79) [0])) (bs := []) (by kernel_rfl) LInv.nil) (fun rec v => st79_3 k rec v) k
theorem ev79 (k : Nat) (x) : evF Try.prog (F79 k) (inlN Try.prog (F79 k) 4) [(3, lo79_3 k)] Try.f79 (bodyOf Try.f79) (c79 k).ps (c79 k).rs (c79 k).rm x = (c79 k).m x := by kernel_rfl
theorem ok79 (k : Nat) : ConOk Try.prog (c79 k) :=
  fn_at (okF79 k) (cn := c79 k) (fn := Try.f79) (code := bodyOf Try.f79) (m := ⟨41, []⟩) (gs := []) (by kernel_rfl) (by kernel_rfl) (by kernel_rfl) (by kernel_rfl) (by kernel_rfl) (fun _ => by kernel_rfl)
    [(3, lo79_3 k)] (fun c hP hm hg => (LInv.of (code := (bodyOf Try.f79)) (bs := [(lpAt (bodyOf Try.f79) [0])]) (by kernel_rfl) (LInv.cons (b := (lpAt (bodyOf Try.f79) [0])) (by kernel_rfl) (lp79_3 k hP hm hg) LInv.nil))) (ev79 k)
def c156_1 (k : Nat) : Con := ⟨156, [((.sl T_Timer), false), ((.cl 78 .un), false)], [(.int .i64)], (.own true), fun x => slices_IndexFunc_impl_Timer_impl_Timer_1 k x.1 x.2.1⟩
def F156_1 (k : Nat) : List Con := [c78 k]
theorem okF156_1 (k : Nat) : ∀ cn ∈ F156_1 k, ConOk Try.prog cn := (conCons (ok78 k) conNil)
abbrev S156_1_2 : Shape := [(0, .v (.sl T_Timer)), (1, .v (.cl 78 .un)), (7, .v (.int .i64)), (8, .v (.int .i64))]
abbrev X156_1_2 : Exit × Shape := (Exit.ret, [(4, .v (.int .i64))])
abbrev R156_1_2 : List (Exit × Shape) := [(Exit.exit 0, [])]
def lo156_1_2 (k : Nat) : LO := loopO [] [] [] S156_1_2 X156_1_2 R156_1_2 (iter (slices_IndexFunc_impl_Timer_impl_Timer_1_s2) k)
theorem st156_1_2 (k : Nat) (rec v) : evC Try.prog ⟨19, []⟩ (F156_1 k) (inlN Try.prog (F156_1 k) 4) [] (lpAt (bodyOf Try.f156) [0]) (Kb [] [] [] S156_1_2 X156_1_2 R156_1_2 rec) (mkSt [] [] S156_1_2 v.1 v.2) = (slices_IndexFunc_impl_Timer_impl_Timer_1_s2) rec v := by kernel_rfl
theorem lp156_1_2 (k : Nat) {c : Cx} (hP : c.P = Try.prog) (hm : c.m = ⟨19, []⟩) (hg : c.gs = []) : LoopOk c (lo156_1_2 k) (lpAt (bodyOf Try.f156) [0]) :=
  loop_at hP hm hg (okF156_1 k) (LInv.of (code := (lpAt (bodyOf Try.f156) [0])) (bs := []) (by kernel_rfl) LInv.nil) (fun rec v => st156_1_2 k rec v) k
theorem ev156_1 (k : Nat) (x) : evF Try.prog (F156_1 k) (inlN Try.prog (F156_1 k) 4) [(2, lo156_1_2 k)] Try.f156 (bodyOf Try.f156) (c156_1 k).ps (c156_1 k).rs (c156_1 k).rm x = (c156_1 k).m x := by kernel_rfl
theorem ok156_1 (k : Nat) : ConOk Try.prog (c156_1 k) :=
  fn_at (okF156_1 k) (cn := c156_1 k) (fn := Try.f156) (code := bodyOf Try.f156) (m := ⟨19, []⟩) (gs := []) (by kernel_rfl) (by kernel_rfl) (by kernel_rfl) (by kernel_rfl) (by kernel_rfl) (fun _ => by kernel_rfl)
    [(2, lo156_1_2 k)] (fun c hP hm hg => (LInv.of (code := (bodyOf Try.f156)) (bs := [(lpAt (bodyOf Try.f156) [0])]) (by kernel_rfl) (LInv.cons (b := (lpAt (bodyOf Try.f156) [0])) (by kernel_rfl) (lp156_1_2 k hP hm hg) LInv.nil))) (ev156_1 k)
def c127_1 (k : Nat) : Con := ⟨127, [((.sl T_Timer), true), ((.cl 78 .un), false)], [(.sl T_Timer)], .mv, fun x => slices_DeleteFunc_impl_Timer_impl_Timer_1 k x.1 x.2.1⟩
def F127_1 (k : Nat) : List Con := [c156_1 k, c78 k]
theorem okF127_1 (k : Nat) : ∀ cn ∈ F127_1 k, ConOk Try.prog cn := (conCons (ok156_1 k) (conCons (ok78 k) conNil))
abbrev S127_1_5 : Shape := [(0, .own true (.sl T_Timer)), (1, .v (.cl 78 .un)), (5, .v (.int .i64)), (6, .v (.int .i64))]
abbrev X127_1_5 : Exit × Shape := (Exit.exit 0, [(0, .own true (.sl T_Timer)), (5, .v (.int .i64))])
abbrev R127_1_5 : List (Exit × Shape) := []
def lo127_1_5 (k : Nat) : LO := loopO [] [] [] S127_1_5 X127_1_5 R127_1_5 (iter (slices_DeleteFunc_impl_Timer_impl_Timer_1_s5) k)
theorem st127_1_5 (k : Nat) (rec v) : evC Try.prog ⟨42, []⟩ (F127_1 k) (inlN Try.prog (F127_1 k) 4) [] (lpAt (bodyOf Try.f127) [0]) (Kb [] [] [] S127_1_5 X127_1_5 R127_1_5 rec) (mkSt [] [] S127_1_5 v.1 v.2) = (slices_DeleteFunc_impl_Timer_impl_Timer_1_s5) rec v := by kernel_rfl
theorem lp127_1_5 (k : Nat) {c : Cx} (hP : c.P = Try.prog) (hm : c.m = ⟨42, []⟩) (hg : c.gs = []) : LoopOk c (lo127_1_5 k) (lpAt (bodyOf Try.f127) [0]) :=
  loop_at hP hm hg (okF127_1 k) (LInv.of (code := (lpAt (bodyOf Try.f127) [0])) (bs := []) (by kernel_rfl) LInv.nil) (fun rec v => st127_1_5 k rec v) k
theorem ev127_1 (k : Nat) (x) : evFm Try.prog (F127_1 k) (inlN Try.prog (F127_1 k) 4) [(5, lo127_1_5 k)] Try.f127 (bodyOf Try.f127) (c127_1 k).ps (c127_1 k).rs x = (c127_1 k).m x := by kernel_rfl
theorem ok127_1 (k : Nat) : ConOk Try.prog (c127_1 k) :=
  fn_mv (okF127_1 k) (cn := c127_1 k) (fn := Try.f127) (code := bodyOf Try.f127) (m := ⟨42, []⟩) (gs := []) (by kernel_rfl) (by kernel_rfl) (by kernel_rfl) (by kernel_rfl) (by kernel_rfl) rfl
    [(5, lo127_1_5 k)] (fun c hP hm hg => (LInv.of (code := (bodyOf Try.f127)) (bs := [(lpAt (bodyOf Try.f127) [0])]) (by kernel_rfl) (LInv.cons (b := (lpAt (bodyOf Try.f127) [0])) (by kernel_rfl) (lp127_1_5 k hP hm hg) LInv.nil))) (ev127_1 k)
def c77_1 (k : Nat) : Con := ⟨77, [(T_Wheel, false), ((.cl 78 .un), false)], [T_Wheel], (.own true), fun x => impl_copyWheel_1 k x.1 x.2.1⟩
def F77_1 (k : Nat) : List Con := [c128 k, c127_1 k]
theorem okF77_1 (k : Nat) : ∀ cn ∈ F77_1 k, ConOk Try.prog cn := (conCons (ok128 k) (conCons (ok127_1 k) conNil))
abbrev S77_1_3 : Shape := [(1, .v (.cl 78 .un)), (2, .boxv T_Wheel), (4, .box true T_Wheel), (5, .own true (.sl T_Spoke)), (10, .v (.sl T_Spoke)), (11, .v (.int .i64)), (12, .v (.int .i64))]
abbrev X77_1_3 : Exit × Shape := (Exit.exit 0, [(2, .boxv T_Wheel), (4, .box true T_Wheel), (5, .own true (.sl T_Spoke))])
abbrev R77_1_3 : List (Exit × Shape) := []
def lo77_1_3 (k : Nat) : LO := loopO [] [] [] S77_1_3 X77_1_3 R77_1_3 (iter (impl_copyWheel_1_s3 k) k)
theorem st77_1_3 (k : Nat) (rec v) : evC Try.prog ⟨30, []⟩ (F77_1 k) (inlN Try.prog (F77_1 k) 4) [] (lpAt (bodyOf Try.f77) [0]) (Kb [] [] [] S77_1_3 X77_1_3 R77_1_3 rec) (mkSt [] [] S77_1_3 v.1 v.2) = (impl_copyWheel_1_s3 k) rec v := by kernel_rfl
theorem lp77_1_3 (k : Nat) {c : Cx} (hP : c.P = Try.prog) (hm : c.m = ⟨30, []⟩) (hg : c.gs = []) : LoopOk c (lo77_1_3 k) (lpAt (bodyOf Try.f77) [0]) :=
  loop_at hP hm hg (okF77_1 k) (LInv.of (code := (lpAt (bodyOf Try.f77) [0])) (bs := []) (by kernel_rfl) LInv.nil) (fun rec v => st77_1_3 k rec v) k
theorem ev77_1 (k : Nat) (x) : evF Try.prog (F77_1 k) (inlN Try.prog (F77_1 k) 4) [(3, lo77_1_3 k)] Try.f77 (bodyOf Try.f77) (c77_1 k).ps (c77_1 k).rs (c77_1 k).rm x = (c77_1 k).m x := by kernel_rfl
theorem ok77_1 (k : Nat) : ConOk Try.prog (c77_1 k) :=
  fn_at (okF77_1 k) (cn := c77_1 k) (fn := Try.f77) (code := bodyOf Try.f77) (m := ⟨30, []⟩) (gs := []) (by kernel_rfl) (by kernel_rfl) (by kernel_rfl) (by kernel_rfl) (by kernel_rfl) (fun _ => by kernel_rfl)
    [(3, lo77_1_3 k)] (fun c hP hm hg => (LInv.of (code := (bodyOf Try.f77)) (bs := [(lpAt (bodyOf Try.f77) [0])]) (by kernel_rfl) (LInv.cons (b := (lpAt (bodyOf Try.f77) [0])) (by kernel_rfl) (lp77_1_3 k hP hm hg) LInv.nil))) (ev77_1 k)
def c18 (k : Nat) : Con := ⟨18, [(T_Wheel, false), ((.int .i64), false)], [T_Wheel, (.sl T_Timer)], (.own true), fun x => impl_WheelRun k x.1 x.2.1⟩
def F18 (k : Nat) : List Con := [c26 k, c76 k, c77_1 k, c79 k]
theorem okF18 (k : Nat) : ∀ cn ∈ F18 k, ConOk Try.prog cn := (conCons (ok26 k) (conCons (ok76 k) (conCons (ok77_1 k) (conCons (ok79 k) conNil))))
abbrev S18_5 : Shape := [(4, .box true T_Wheel), (6, .box true T_Wheel), (7, .own true (.sl T_Timer)), (29, .v (.int .i64)), (30, .v (.int .i64))]
abbrev X18_5 : Exit × Shape := (Exit.exit 0, [(4, .box true T_Wheel), (6, .box true T_Wheel), (7, .own true (.sl T_Timer))])
abbrev R18_5 : List (Exit × Shape) := []
def lo18_5 (k : Nat) : LO := loopO [] [] [] S18_5 X18_5 R18_5 (iter (impl_WheelRun_s5 k) k)
theorem st18_5 (k : Nat) (rec v) : evC Try.prog ⟨44, []⟩ (F18 k) (inlN Try.prog (F18 k) 4) [] (lpAt (bodyOf Try.f18) [0]) (Kb [] [] [] S18_5 X18_5 R18_5 rec) (mkSt [] [] S18_5 v.1 v.2) = (impl_WheelRun_s5 k) rec v := by kernel_rfl
theorem lp18_5 (k : Nat) {c : Cx} (hP : c.P = Try.prog) (hm : c.m = ⟨44, []⟩) (hg : c.gs = []) : LoopOk c (lo18_5 k) (lpAt (bodyOf Try.f18) [0]) :=
  loop_at hP hm hg (okF18 k) (LInv.of (code := (lpAt (bodyOf Try.f18) [0])) (bs := []) (by kernel_rfl) LInv.nil) (fun rec v => st18_5 k rec v) k
theorem ev18 (k : Nat) (x) : evF Try.prog (F18 k) (inlN Try.prog (F18 k) 4) [(5, lo18_5 k)] Try.f18 (bodyOf Try.f18) (c18 k).ps (c18 k).rs (c18 k).rm x = (c18 k).m x := by kernel_rfl
theorem ok18 (k : Nat) : ConOk Try.prog (c18 k) :=
  fn_at (okF18 k) (cn := c18 k) (fn := Try.f18) (code := bodyOf Try.f18) (m := ⟨44, []⟩) (gs := []) (by kernel_rfl) (by kernel_rfl) (by kernel_rfl) (by kernel_rfl) (by kernel_rfl) (fun _ => by kernel_rfl)
    [(5, lo18_5 k)] (fun c hP hm hg => (LInv.of (code := (bodyOf Try.f18)) (bs := [(lpAt (bodyOf Try.f18) [0])]) (by kernel_rfl) (LInv.cons (b := (lpAt (bodyOf Try.f18) [0])) (by kernel_rfl) (lp18_5 k hP hm hg) LInv.nil))) (ev18 k)
def c106 (k : Nat) : Con := ⟨106, [(T_Timer, false), (T_Timer, false)], [.bool], (.own true), fun x => laws_eqTimer x.1 x.2.1⟩
def F106 (k : Nat) : List Con := []
theorem okF106 (k : Nat) : ∀ cn ∈ F106 k, ConOk Try.prog cn := conNil
theorem ev106 (k : Nat) (x) : evF Try.prog (F106 k) (inlN Try.prog (F106 k) 4) [] Try.f106 (bodyOf Try.f106) (c106 k).ps (c106 k).rs (c106 k).rm x = (c106 k).m x := by kernel_rfl
theorem ok106 (k : Nat) : ConOk Try.prog (c106 k) :=
  fn_at (okF106 k) (cn := c106 k) (fn := Try.f106) (code := bodyOf Try.f106) (m := ⟨15, []⟩) (gs := []) (by kernel_rfl) (by kernel_rfl) (by kernel_rfl) (by kernel_rfl) (by kernel_rfl) (fun _ => by kernel_rfl)
    [] (fun c hP hm hg => (LInv.of (code := (bodyOf Try.f106)) (bs := []) (by kernel_rfl) LInv.nil)) (ev106 k)
def c47 (k : Nat) : Con := ⟨47, [((.sl T_Timer), false), ((.sl T_Timer), false)], [.bool], (.own true), fun x => laws_eqTimerS k x.1 x.2.1⟩
def F47 (k : Nat) : List Con := [c106 k]
theorem okF47 (k : Nat) : ∀ cn ∈ F47 k, ConOk Try.prog cn := (conCons (ok106 k) conNil)
abbrev S47_4 : Shape := [(0, .v (.sl T_Timer)), (1, .v (.sl T_Timer)), (5, .v (.int .i64))]
abbrev X47_4 : Exit × Shape := (Exit.ret, [(4, .v .bool)])
abbrev R47_4 : List (Exit × Shape) := [(Exit.exit 0, [])]
def lo47_4 (k : Nat) : LO := loopO [] [] [] S47_4 X47_4 R47_4 (iter (laws_eqTimerS_s4) k)
theorem st47_4 (k : Nat) (rec v) : evC Try.prog ⟨27, []⟩ (F47 k) (inlN Try.prog (F47 k) 4) [] (lpAt (bodyOf Try.f47) [0]) (Kb [] [] [] S47_4 X47_4 R47_4 rec) (mkSt [] [] S47_4 v.1 v.2) = (laws_eqTimerS_s4) rec v := by kernel_rfl
theorem lp47_4 (k : Nat) {c : Cx} (hP : c.P = Try.prog) (hm : c.m = ⟨27, []⟩) (hg : c.gs = []) : LoopOk c (lo47_4 k) (lpAt (bodyOf Try.f47) [0]) :=
  loop_at hP hm hg (okF47 k) (LInv.of (code := (lpAt (bodyOf Try.f47) [0])) (bs := []) (by kernel_rfl) LInv.nil) (fun rec v => st47_4 k rec v) k
theorem ev47 (k : Nat) (x) : evF Try.prog (F47 k) (inlN Try.prog (F47 k) 4) [(4, lo47_4 k)] Try.f47 (bodyOf Try.f47) (c47 k).ps (c47 k).rs (c47 k).rm x = (c47 k).m x := by kernel_rfl
theorem ok47 (k : Nat) : ConOk Try.prog (c47 k) :=
  fn_at (okF47 k) (cn := c47 k) (fn := Try.f47) (code := bodyOf Try.f47) (m := ⟨27, []⟩) (gs := []) (by kernel_rfl) (by kernel_rfl) (by kernel_rfl) (by kernel_rfl) (by kernel_rfl) (fun _ => by kernel_rfl)
    [(4, lo47_4 k)] (fun c hP hm hg => (LInv.of (code := (bodyOf Try.f47)) (bs := [(lpAt (bodyOf Try.f47) [0])]) (by kernel_rfl) (LInv.cons (b := (lpAt (bodyOf Try.f47) [0])) (by kernel_rfl) (lp47_4 k hP hm hg) LInv.nil))) (ev47 k)
def c143 (k : Nat) : Con := ⟨143, [(T_Spoke, false), (T_Spoke, false)], [.bool], (.own true), fun x => laws_eqSpoke k x.1 x.2.1⟩
def F143 (k : Nat) : List Con := [c47 k]
theorem okF143 (k : Nat) : ∀ cn ∈ F143 k, ConOk Try.prog cn := (conCons (ok47 k) conNil)
theorem ev143 (k : Nat) (x) : evF Try.prog (F143 k) (inlN Try.prog (F143 k) 4) [] Try.f143 (bodyOf Try.f143) (c143 k).ps (c143 k).rs (c143 k).rm x = (c143 k).m x := by kernel_rfl
theorem ok143 (k : Nat) : ConOk Try.prog (c143 k) :=
  fn_at (okF143 k) (cn := c143 k) (fn := Try.f143) (code := bodyOf Try.f143) (m := ⟨11, []⟩) (gs := []) (by kernel_rfl) (by kernel_rfl) (by kernel_rfl) (by kernel_rfl) (by kernel_rfl) (fun _ => by kernel_rfl)
    [] (fun c hP hm hg => (LInv.of (code := (bodyOf Try.f143)) (bs := []) (by kernel_rfl) LInv.nil)) (ev143 k)
def c105 (k : Nat) : Con := ⟨105, [((.sl T_Spoke), false), ((.sl T_Spoke), false)], [.bool], (.own true), fun x => laws_eqSpokeS k x.1 x.2.1⟩
def F105 (k : Nat) : List Con := [c143 k]
theorem okF105 (k : Nat) : ∀ cn ∈ F105 k, ConOk Try.prog cn := (conCons (ok143 k) conNil)
abbrev S105_4 : Shape := [(0, .v (.sl T_Spoke)), (1, .v (.sl T_Spoke)), (5, .v (.int .i64))]
abbrev X105_4 : Exit × Shape := (Exit.ret, [(4, .v .bool)])
abbrev R105_4 : List (Exit × Shape) := [(Exit.exit 0, [])]
def lo105_4 (k : Nat) : LO := loopO [] [] [] S105_4 X105_4 R105_4 (iter (laws_eqSpokeS_s4 k) k)
theorem st105_4 (k : Nat) (rec v) : evC Try.prog ⟨27, []⟩ (F105 k) (inlN Try.prog (F105 k) 4) [] (lpAt (bodyOf Try.f105) [0]) (Kb [] [] [] S105_4 X105_4 R105_4 rec) (mkSt [] [] S105_4 v.1 v.2) = (laws_eqSpokeS_s4 k) rec v := by kernel_rfl
theorem lp105_4 (k : Nat) {c : Cx} (hP : c.P = Try.prog) (hm : c.m = ⟨27, []⟩) (hg : c.gs = []) : LoopOk c (lo105_4 k) (lpAt (bodyOf Try.f105) [0]) :=
  loop_at hP hm hg (okF105 k) (LInv.of (code := (lpAt (bodyOf Try.f105) [0])) (bs := []) (by kernel_rfl) LInv.nil) (fun rec v => st105_4 k rec v) k
theorem ev105 (k : Nat) (x) : evF Try.prog (F105 k) (inlN Try.prog (F105 k) 4) [(4, lo105_4 k)] Try.f105 (bodyOf Try.f105) (c105 k).ps (c105 k).rs (c105 k).rm x = (c105 k).m x := by kernel_rfl
theorem ok105 (k : Nat) : ConOk Try.prog (c105 k) :=
  fn_at (okF105 k) (cn := c105 k) (fn := Try.f105) (code := bodyOf Try.f105) (m := ⟨27, []⟩) (gs := []) (by kernel_rfl) (by kernel_rfl) (by kernel_rfl) (by kernel_rfl) (by kernel_rfl) (fun _ => by kernel_rfl)
    [(4, lo105_4 k)] (fun c hP hm hg => (LInv.of (code := (bodyOf Try.f105)) (bs := [(lpAt (bodyOf Try.f105) [0])]) (by kernel_rfl) (LInv.cons (b := (lpAt (bodyOf Try.f105) [0])) (by kernel_rfl) (lp105_4 k hP hm hg) LInv.nil))) (ev105 k)
def c46 (k : Nat) : Con := ⟨46, [(T_Wheel, false), (T_Wheel, false)], [.bool], (.own true), fun x => laws_eqWheel k x.1 x.2.1⟩
def F46 (k : Nat) : List Con := [c105 k]
theorem okF46 (k : Nat) : ∀ cn ∈ F46 k, ConOk Try.prog cn := (conCons (ok105 k) conNil)
theorem ev46 (k : Nat) (x) : evF Try.prog (F46 k) (inlN Try.prog (F46 k) 4) [] Try.f46 (bodyOf Try.f46) (c46 k).ps (c46 k).rs (c46 k).rm x = (c46 k).m x := by kernel_rfl
theorem ok46 (k : Nat) : ConOk Try.prog (c46 k) :=
  fn_at (okF46 k) (cn := c46 k) (fn := Try.f46) (code := bodyOf Try.f46) (m := ⟨16, []⟩) (gs := []) (by kernel_rfl) (by kernel_rfl) (by kernel_rfl) (by kernel_rfl) (by kernel_rfl) (fun _ => by kernel_rfl)
    [] (fun c hP hm hg => (LInv.of (code := (bodyOf Try.f46)) (bs := []) (by kernel_rfl) LInv.nil)) (ev46 k)
def c49 (k : Nat) : Con := ⟨49, [((.sl T_Timer), true), ((.int .i64), false)], [(.int .i64)], (.own true), fun x => laws_markTimerS k x.1 x.2.1⟩
def F49 (k : Nat) : List Con := []
theorem okF49 (k : Nat) : ∀ cn ∈ F49 k, ConOk Try.prog cn := conNil
abbrev S49_2 : Shape := [(0, .arg 0), (1, .v (.int .i64)), (5, .v (.int .i64))]
abbrev X49_2 : Exit × Shape := (Exit.exit 0, [(1, .v (.int .i64))])
abbrev R49_2 : List (Exit × Shape) := []
def lo49_2 (k : Nat) : LO := loopO [(0, 0)] [.full 0] [(.sl T_Timer)] S49_2 X49_2 R49_2 (iter (laws_markTimerS_s2) k)
theorem st49_2 (k : Nat) (rec v) : evC Try.prog ⟨27, [(0, 0)]⟩ (F49 k) (inlN Try.prog (F49 k) 4) [] (lpAt (bodyOf Try.f49) [0]) (Kb [(0, 0)] [.full 0] [(.sl T_Timer)] S49_2 X49_2 R49_2 rec) (mkSt [.full 0] [(.sl T_Timer)] S49_2 v.1 v.2) = (laws_markTimerS_s2) rec v := by kernel_rfl
theorem lp49_2 (k : Nat) {c : Cx} (hP : c.P = Try.prog) (hm : c.m = ⟨27, [(0, 0)]⟩) (hg : c.gs = [.full 0]) : LoopOk c (lo49_2 k) (lpAt (bodyOf Try.f49) [0]) :=
  loop_at hP hm hg (okF49 k) (LInv.of (code := (lpAt (bodyOf Try.f49) [0])) (bs := []) (by kernel_rfl) LInv.nil) (fun rec v => st49_2 k rec v) k
theorem ev49 (k : Nat) (x) : evF Try.prog (F49 k) (inlN Try.prog (F49 k) 4) [(2, lo49_2 k)] Try.f49 (bodyOf Try.f49) (c49 k).ps (c49 k).rs (c49 k).rm x = (c49 k).m x := by kernel_rfl
theorem ok49 (k : Nat) : ConOk Try.prog (c49 k) :=
  fn_at (okF49 k) (cn := c49 k) (fn := Try.f49) (code := bodyOf Try.f49) (m := ⟨27, [(0, 0)]⟩) (gs := [.full 0]) (by kernel_rfl) (by kernel_rfl) (by kernel_rfl) (by kernel_rfl) (by kernel_rfl) (fun _ => by kernel_rfl)
    [(2, lo49_2 k)] (fun c hP hm hg => (LInv.of (code := (bodyOf Try.f49)) (bs := [(lpAt (bodyOf Try.f49) [0])]) (by kernel_rfl) (LInv.cons (b := (lpAt (bodyOf Try.f49) [0])) (by kernel_rfl) (lp49_2 k hP hm hg) LInv.nil))) (ev49 k)
def c107 (k : Nat) : Con := ⟨107, [((.sl T_Spoke), true), ((.int .i64), false)], [(.int .i64)], (.own true), fun x => laws_markSpokeS k x.1 x.2.1⟩
def F107 (k : Nat) : List Con := [c49 k]
theorem okF107 (k : Nat) : ∀ cn ∈ F107 k, ConOk Try.prog cn := (conCons (ok49 k) conNil)
abbrev S107_2 : Shape := [(0, .arg 0), (1, .v (.int .i64)), (5, .v (.int .i64))]
abbrev X107_2 : Exit × Shape := (Exit.exit 0, [(1, .v (.int .i64))])
abbrev R107_2 : List (Exit × Shape) := []
def lo107_2 (k : Nat) : LO := loopO [(0, 0)] [.full 0] [(.sl T_Spoke)] S107_2 X107_2 R107_2 (iter (laws_markSpokeS_s2 k) k)
theorem st107_2 (k : Nat) (rec v) : evC Try.prog ⟨20, [(0, 0)]⟩ (F107 k) (inlN Try.prog (F107 k) 4) [] (lpAt (bodyOf Try.f107) [0]) (Kb [(0, 0)] [.full 0] [(.sl T_Spoke)] S107_2 X107_2 R107_2 rec) (mkSt [.full 0] [(.sl T_Spoke)] S107_2 v.1 v.2) = (laws_markSpokeS_s2 k) rec v := by kernel_rfl
theorem lp107_2 (k : Nat) {c : Cx} (hP : c.P = Try.prog) (hm : c.m = ⟨20, [(0, 0)]⟩) (hg : c.gs = [.full 0]) : LoopOk c (lo107_2 k) (lpAt (bodyOf Try.f107) [0]) :=
  loop_at hP hm hg (okF107 k) (LInv.of (code := (lpAt (bodyOf Try.f107) [0])) (bs := []) (by kernel_rfl) LInv.nil) (fun rec v => st107_2 k rec v) k
theorem ev107 (k : Nat) (x) : evF Try.prog (F107 k) (inlN Try.prog (F107 k) 4) [(2, lo107_2 k)] Try.f107 (bodyOf Try.f107) (c107 k).ps (c107 k).rs (c107 k).rm x = (c107 k).m x := by kernel_rfl
theorem ok107 (k : Nat) : ConOk Try.prog (c107 k) :=
  fn_at (okF107 k) (cn := c107 k) (fn := Try.f107) (code := bodyOf Try.f107) (m := ⟨20, [(0, 0)]⟩) (gs := [.full 0]) (by kernel_rfl) (by kernel_rfl) (by kernel_rfl) (by kernel_rfl) (by kernel_rfl) (fun _ => by kernel_rfl)
    [(2, lo107_2 k)] (fun c hP hm hg => (LInv.of (code := (bodyOf Try.f107)) (bs := [(lpAt (bodyOf Try.f107) [0])]) (by kernel_rfl) (LInv.cons (b := (lpAt (bodyOf Try.f107) [0])) (by kernel_rfl) (lp107_2 k hP hm hg) LInv.nil))) (ev107 k)
def c51 (k : Nat) : Con := ⟨51, [((.sl T_Timer), false), ((.int .i64), false)], [(.int .i64)], (.own true), fun x => laws_heldTimerS k x.1 x.2.1⟩
def F51 (k : Nat) : List Con := []
theorem okF51 (k : Nat) : ∀ cn ∈ F51 k, ConOk Try.prog cn := conNil
abbrev S51_2 : Shape := [(0, .v (.sl T_Timer)), (1, .v (.int .i64)), (5, .v (.int .i64))]
abbrev X51_2 : Exit × Shape := (Exit.ret, [(4, .v (.int .i64))])
abbrev R51_2 : List (Exit × Shape) := [(Exit.exit 0, [(1, .v (.int .i64))])]
def lo51_2 (k : Nat) : LO := loopO [] [] [] S51_2 X51_2 R51_2 (iter (laws_heldTimerS_s2) k)
theorem st51_2 (k : Nat) (rec v) : evC Try.prog ⟨31, []⟩ (F51 k) (inlN Try.prog (F51 k) 4) [] (lpAt (bodyOf Try.f51) [0]) (Kb [] [] [] S51_2 X51_2 R51_2 rec) (mkSt [] [] S51_2 v.1 v.2) = (laws_heldTimerS_s2) rec v := by kernel_rfl
theorem lp51_2 (k : Nat) {c : Cx} (hP : c.P = Try.prog) (hm : c.m = ⟨31, []⟩) (hg : c.gs = []) : LoopOk c (lo51_2 k) (lpAt (bodyOf Try.f51) [0]) :=
  loop_at hP hm hg (okF51 k) (LInv.of (code := (lpAt (bodyOf Try.f51) [0])) (bs := []) (by kernel_rfl) LInv.nil) (fun rec v => st51_2 k rec v) k
theorem ev51 (k : Nat) (x) : evF Try.prog (F51 k) (inlN Try.prog (F51 k) 4) [(2, lo51_2 k)] Try.f51 (bodyOf Try.f51) (c51 k).ps (c51 k).rs (c51 k).rm x = (c51 k).m x := by kernel_rfl
theorem ok51 (k : Nat) : ConOk Try.prog (c51 k) :=
  fn_at (okF51 k) (cn := c51 k) (fn := Try.f51) (code := bodyOf Try.f51) (m := ⟨31, []⟩) (gs := []) (by kernel_rfl) (by kernel_rfl) (by kernel_rfl) (by kernel_rfl) (by kernel_rfl) (fun _ => by kernel_rfl)
    [(2, lo51_2 k)] (fun c hP hm hg => (LInv.of (code := (bodyOf Try.f51)) (bs := [(lpAt (bodyOf Try.f51) [0])]) (by kernel_rfl) (LInv.cons (b := (lpAt (bodyOf Try.f51) [0])) (by kernel_rfl) (lp51_2 k hP hm hg) LInv.nil))) (ev51 k)
def c108 (k : Nat) : Con := ⟨108, [((.sl T_Spoke), false), ((.int .i64), false)], [(.int .i64)], (.own true), fun x => laws_heldSpokeS k x.1 x.2.1⟩
def F108 (k : Nat) : List Con := [c51 k]
theorem okF108 (k : Nat) : ∀ cn ∈ F108 k, ConOk Try.prog cn := (conCons (ok51 k) conNil)
abbrev S108_2 : Shape := [(0, .v (.sl T_Spoke)), (1, .v (.int .i64)), (5, .v (.int .i64))]
abbrev X108_2 : Exit × Shape := (Exit.ret, [(4, .v (.int .i64))])
abbrev R108_2 : List (Exit × Shape) := [(Exit.exit 0, [(1, .v (.int .i64))])]
def lo108_2 (k : Nat) : LO := loopO [] [] [] S108_2 X108_2 R108_2 (iter (laws_heldSpokeS_s2 k) k)
theorem st108_2 (k : Nat) (rec v) : evC Try.prog ⟨22, []⟩ (F108 k) (inlN Try.prog (F108 k) 4) [] (lpAt (bodyOf Try.f108) [0]) (Kb [] [] [] S108_2 X108_2 R108_2 rec) (mkSt [] [] S108_2 v.1 v.2) = (laws_heldSpokeS_s2 k) rec v := by kernel_rfl
theorem lp108_2 (k : Nat) {c : Cx} (hP : c.P = Try.prog) (hm : c.m = ⟨22, []⟩) (hg : c.gs = []) : LoopOk c (lo108_2 k) (lpAt (bodyOf Try.f108) [0]) :=
  loop_at hP hm hg (okF108 k) (LInv.of (code := (lpAt (bodyOf Try.f108) [0])) (bs := []) (by kernel_rfl) LInv.nil) (fun rec v => st108_2 k rec v) k
theorem ev108 (k : Nat) (x) : evF Try.prog (F108 k) (inlN Try.prog (F108 k) 4) [(2, lo108_2 k)] Try.f108 (bodyOf Try.f108) (c108 k).ps (c108 k).rs (c108 k).rm x = (c108 k).m x := by kernel_rfl
theorem ok108 (k : Nat) : ConOk Try.prog (c108 k) :=
  fn_at (okF108 k) (cn := c108 k) (fn := Try.f108) (code := bodyOf Try.f108) (m := ⟨22, []⟩) (gs := []) (by kernel_rfl) (by kernel_rfl) (by kernel_rfl) (by kernel_rfl) (by kernel_rfl) (fun _ => by kernel_rfl)
    [(2, lo108_2 k)] (fun c hP hm hg => (LInv.of (code := (bodyOf Try.f108)) (bs := [(lpAt (bodyOf Try.f108) [0])]) (by kernel_rfl) (LInv.cons (b := (lpAt (bodyOf Try.f108) [0])) (by kernel_rfl) (lp108_2 k hP hm hg) LInv.nil))) (ev108 k)
def c50 (k : Nat) : Con := ⟨50, [(T_Wheel, false), ((.int .i64), false)], [(.int .i64)], (.own true), fun x => laws_heldWheel k x.1 x.2.1⟩
def F50 (k : Nat) : List Con := [c108 k]
theorem okF50 (k : Nat) : ∀ cn ∈ F50 k, ConOk Try.prog cn := (conCons (ok108 k) conNil)
theorem ev50 (k : Nat) (x) : evF Try.prog (F50 k) (inlN Try.prog (F50 k) 4) [] Try.f50 (bodyOf Try.f50) (c50 k).ps (c50 k).rs (c50 k).rm x = (c50 k).m x := by kernel_rfl
theorem ok50 (k : Nat) : ConOk Try.prog (c50 k) :=
  fn_at (okF50 k) (cn := c50 k) (fn := Try.f50) (code := bodyOf Try.f50) (m := ⟨12, []⟩) (gs := []) (by kernel_rfl) (by kernel_rfl) (by kernel_rfl) (by kernel_rfl) (by kernel_rfl) (fun _ => by kernel_rfl)
    [] (fun c hP hm hg => (LInv.of (code := (bodyOf Try.f50)) (bs := []) (by kernel_rfl) LInv.nil)) (ev50 k)
def c9 (k : Nat) : Con := ⟨9, [(T_Wheel, false), ((.int .i64), false)], [.bool], (.own true), fun x => laws_FnExactWheelRun k x.1 x.2.1⟩
def F9 (k : Nat) : List Con := [c44 k, c45 k, c17 k, c18 k, c46 k, c47 k, c107 k, c49 k, c50 k, c51 k]
theorem okF9 (k : Nat) : ∀ cn ∈ F9 k, ConOk Try.prog cn := (conCons (ok44 k) (conCons (ok45 k) (conCons (ok17 k) (conCons (ok18 k) (conCons (ok46 k) (conCons (ok47 k) (conCons (ok107 k) (conCons (ok49 k) (conCons (ok50 k) (conCons (ok51 k) conNil))))))))))
theorem ev9 (k : Nat) (x) : evF Try.prog (F9 k) (inlN Try.prog (F9 k) 4) [] Try.f9 (bodyOf Try.f9) (c9 k).ps (c9 k).rs (c9 k).rm x = (c9 k).m x := by kernel_rfl
theorem ok9 (k : Nat) : ConOk Try.prog (c9 k) :=
  fn_at (okF9 k) (cn := c9 k) (fn := Try.f9) (code := bodyOf Try.f9) (m := ⟨117, []⟩) (gs := []) (by kernel_rfl) (by kernel_rfl) (by kernel_rfl) (by kernel_rfl) (by kernel_rfl) (fun _ => by kernel_rfl)
    [] (fun c hP hm hg => (LInv.of (code := (bodyOf Try.f9)) (bs := []) (by kernel_rfl) LInv.nil)) (ev9 k)
def c64 (k : Nat) : Con := ⟨64, [(T_Wheel, false)], [T_Wheel, (.sl (.int .i64))], (.own true), fun x => spec_WheelTick k x.1⟩
def F64 (k : Nat) : List Con := [c19 k, c74 k, c75 k]
theorem okF64 (k : Nat) : ∀ cn ∈ F64 k, ConOk Try.prog cn := (conCons (ok19 k) (conCons (ok74 k) (conCons (ok75 k) conNil)))
abbrev S64_6 : Shape := [(1, .boxv T_Wheel), (2, .box true T_Wheel), (4, .own true (.sl (.int .i64))), (5, .own true (.sl T_Timer)), (6, .v (.int .i64))]
abbrev X64_6 : Exit × Shape := (Exit.exit 0, [(1, .boxv T_Wheel), (2, .box true T_Wheel), (4, .own true (.sl (.int .i64)))])
abbrev R64_6 : List (Exit × Shape) := []
def lo64_6 (k : Nat) : LO := loopO [] [] [] S64_6 X64_6 R64_6 (iter (spec_WheelTick_s6) k)
theorem st64_6 (k : Nat) (rec v) : evC Try.prog ⟨51, []⟩ (F64 k) (inlN Try.prog (F64 k) 4) [] (lpAt (bodyOf Try.f64) [0]) (Kb [] [] [] S64_6 X64_6 R64_6 rec) (mkSt [] [] S64_6 v.1 v.2) = (spec_WheelTick_s6) rec v := by kernel_rfl
theorem lp64_6 (k : Nat) {c : Cx} (hP : c.P = Try.prog) (hm : c.m = ⟨51, []⟩) (hg : c.gs = []) : LoopOk c (lo64_6 k) (lpAt (bodyOf Try.f64) [0]) :=
  loop_at hP hm hg (okF64 k) (LInv.of (code := (lpAt (bodyOf Try.f64) [0])) (bs := []) (by kernel_rfl) LInv.nil) (fun rec v => st64_6 k rec v) k
theorem ev64 (k : Nat) (x) : evF Try.prog (F64 k) (inlN Try.prog (F64 k) 4) [(6, lo64_6 k)] Try.f64 (bodyOf Try.f64) (c64 k).ps (c64 k).rs (c64 k).rm x = (c64 k).m x := by kernel_rfl
theorem ok64 (k : Nat) : ConOk Try.prog (c64 k) :=
  fn_at (okF64 k) (cn := c64 k) (fn := Try.f64) (code := bodyOf Try.f64) (m := ⟨51, []⟩) (gs := []) (by kernel_rfl) (by kernel_rfl) (by kernel_rfl) (by kernel_rfl) (by kernel_rfl) (fun _ => by kernel_rfl)
    [(6, lo64_6 k)] (fun c hP hm hg => (LInv.of (code := (bodyOf Try.f64)) (bs := [(lpAt (bodyOf Try.f64) [0])]) (by kernel_rfl) (LInv.cons (b := (lpAt (bodyOf Try.f64) [0])) (by kernel_rfl) (lp64_6 k hP hm hg) LInv.nil))) (ev64 k)
def c27 (k : Nat) : Con := ⟨27, [(T_Wheel, false)], [T_Wheel, (.sl (.int .i64))], (.own true), fun x => impl_WheelTick k x.1⟩
def F27 (k : Nat) : List Con := [c26 k, c79 k]
theorem okF27 (k : Nat) : ∀ cn ∈ F27 k, ConOk Try.prog cn := (conCons (ok26 k) (conCons (ok79 k) conNil))
abbrev S27_6 : Shape := [(2, .box true T_Wheel), (4, .box true T_Wheel), (6, .own true (.sl (.int .i64))), (24, .own true (.sl T_Timer)), (25, .v (.int .i64)), (26, .v (.int .i64))]
abbrev X27_6 : Exit × Shape := (Exit.exit 0, [(2, .box true T_Wheel), (4, .box true T_Wheel), (6, .own true (.sl (.int .i64)))])
abbrev R27_6 : List (Exit × Shape) := []
def lo27_6 (k : Nat) : LO := loopO [] [] [] S27_6 X27_6 R27_6 (iter (impl_WheelTick_s6) k)
theorem st27_6 (k : Nat) (rec v) : evC Try.prog ⟨38, []⟩ (F27 k) (inlN Try.prog (F27 k) 4) [] (lpAt (bodyOf Try.f27) [0]) (Kb [] [] [] S27_6 X27_6 R27_6 rec) (mkSt [] [] S27_6 v.1 v.2) = (impl_WheelTick_s6) rec v := by kernel_rfl
theorem lp27_6 (k : Nat) {c : Cx} (hP : c.P = Try.prog) (hm : c.m = ⟨38, []⟩) (hg : c.gs = []) : LoopOk c (lo27_6 k) (lpAt (bodyOf Try.f27) [0]) :=
  loop_at hP hm hg (okF27 k) (LInv.of (code := (lpAt (bodyOf Try.f27) [0])) (bs := []) (by kernel_rfl) LInv.nil) (fun rec v => st27_6 k rec v) k
theorem ev27 (k : Nat) (x) : evF Try.prog (F27 k) (inlN Try.prog (F27 k) 4) [(6, lo27_6 k)] Try.f27 (bodyOf Try.f27) (c27 k).ps (c27 k).rs (c27 k).rm x = (c27 k).m x := by kernel_rfl
theorem ok27 (k : Nat) : ConOk Try.prog (c27 k) :=
  fn_at (okF27 k) (cn := c27 k) (fn := Try.f27) (code := bodyOf Try.f27) (m := ⟨38, []⟩) (gs := []) (by kernel_rfl) (by kernel_rfl) (by kernel_rfl) (by kernel_rfl) (by kernel_rfl) (fun _ => by kernel_rfl)
    [(6, lo27_6 k)] (fun c hP hm hg => (LInv.of (code := (bodyOf Try.f27)) (bs := [(lpAt (bodyOf Try.f27) [0])]) (by kernel_rfl) (LInv.cons (b := (lpAt (bodyOf Try.f27) [0])) (by kernel_rfl) (lp27_6 k hP hm hg) LInv.nil))) (ev27 k)
def c59 (k : Nat) : Con := ⟨59, [((.sl (.int .i64)), false), ((.sl (.int .i64)), false)], [.bool], (.own true), fun x => laws_eqIntS k x.1 x.2.1⟩
def F59 (k : Nat) : List Con := []
theorem okF59 (k : Nat) : ∀ cn ∈ F59 k, ConOk Try.prog cn := conNil
abbrev S59_4 : Shape := [(0, .v (.sl (.int .i64))), (1, .v (.sl (.int .i64))), (5, .v (.int .i64))]
abbrev X59_4 : Exit × Shape := (Exit.ret, [(4, .v .bool)])
abbrev R59_4 : List (Exit × Shape) := [(Exit.exit 0, [])]
def lo59_4 (k : Nat) : LO := loopO [] [] [] S59_4 X59_4 R59_4 (iter (laws_eqIntS_s4) k)
theorem st59_4 (k : Nat) (rec v) : evC Try.prog ⟨26, []⟩ (F59 k) (inlN Try.prog (F59 k) 4) [] (lpAt (bodyOf Try.f59) [0]) (Kb [] [] [] S59_4 X59_4 R59_4 rec) (mkSt [] [] S59_4 v.1 v.2) = (laws_eqIntS_s4) rec v := by kernel_rfl
theorem lp59_4 (k : Nat) {c : Cx} (hP : c.P = Try.prog) (hm : c.m = ⟨26, []⟩) (hg : c.gs = []) : LoopOk c (lo59_4 k) (lpAt (bodyOf Try.f59) [0]) :=
  loop_at hP hm hg (okF59 k) (LInv.of (code := (lpAt (bodyOf Try.f59) [0])) (bs := []) (by kernel_rfl) LInv.nil) (fun rec v => st59_4 k rec v) k
theorem ev59 (k : Nat) (x) : evF Try.prog (F59 k) (inlN Try.prog (F59 k) 4) [(4, lo59_4 k)] Try.f59 (bodyOf Try.f59) (c59 k).ps (c59 k).rs (c59 k).rm x = (c59 k).m x := by kernel_rfl
theorem ok59 (k : Nat) : ConOk Try.prog (c59 k) :=
  fn_at (okF59 k) (cn := c59 k) (fn := Try.f59) (code := bodyOf Try.f59) (m := ⟨26, []⟩) (gs := []) (by kernel_rfl) (by kernel_rfl) (by kernel_rfl) (by kernel_rfl) (by kernel_rfl) (fun _ => by kernel_rfl)
    [(4, lo59_4 k)] (fun c hP hm hg => (LInv.of (code := (bodyOf Try.f59)) (bs := [(lpAt (bodyOf Try.f59) [0])]) (by kernel_rfl) (LInv.cons (b := (lpAt (bodyOf Try.f59) [0])) (by kernel_rfl) (lp59_4 k hP hm hg) LInv.nil))) (ev59 k)
def c62 (k : Nat) : Con := ⟨62, [((.sl (.int .i64)), true), ((.int .i64), false)], [(.int .i64)], (.own true), fun x => laws_markIntS k x.1 x.2.1⟩
def F62 (k : Nat) : List Con := []
theorem okF62 (k : Nat) : ∀ cn ∈ F62 k, ConOk Try.prog cn := conNil
abbrev S62_2 : Shape := [(0, .arg 0), (1, .v (.int .i64)), (5, .v (.int .i64))]
abbrev X62_2 : Exit × Shape := (Exit.exit 0, [(1, .v (.int .i64))])
abbrev R62_2 : List (Exit × Shape) := []
def lo62_2 (k : Nat) : LO := loopO [(0, 0)] [.full 0] [(.sl (.int .i64))] S62_2 X62_2 R62_2 (iter (laws_markIntS_s2) k)
theorem st62_2 (k : Nat) (rec v) : evC Try.prog ⟨19, [(0, 0)]⟩ (F62 k) (inlN Try.prog (F62 k) 4) [] (lpAt (bodyOf Try.f62) [0]) (Kb [(0, 0)] [.full 0] [(.sl (.int .i64))] S62_2 X62_2 R62_2 rec) (mkSt [.full 0] [(.sl (.int .i64))] S62_2 v.1 v.2) = (laws_markIntS_s2) rec v := by kernel_rfl
theorem lp62_2 (k : Nat) {c : Cx} (hP : c.P = Try.prog) (hm : c.m = ⟨19, [(0, 0)]⟩) (hg : c.gs = [.full 0]) : LoopOk c (lo62_2 k) (lpAt (bodyOf Try.f62) [0]) :=
  loop_at hP hm hg (okF62 k) (LInv.of (code := (lpAt (bodyOf Try.f62) [0])) (bs := []) (by kernel_rfl) LInv.nil) (fun rec v => st62_2 k rec v) k
theorem ev62 (k : Nat) (x) : evF Try.prog (F62 k) (inlN Try.prog (F62 k) 4) [(2, lo62_2 k)] Try.f62 (bodyOf Try.f62) (c62 k).ps (c62 k).rs (c62 k).rm x = (c62 k).m x := by kernel_rfl
theorem ok62 (k : Nat) : ConOk Try.prog (c62 k) :=
  fn_at (okF62 k) (cn := c62 k) (fn := Try.f62) (code := bodyOf Try.f62) (m := ⟨19, [(0, 0)]⟩) (gs := [.full 0]) (by kernel_rfl) (by kernel_rfl) (by kernel_rfl) (by kernel_rfl) (by kernel_rfl) (fun _ => by kernel_rfl)
    [(2, lo62_2 k)] (fun c hP hm hg => (LInv.of (code := (bodyOf Try.f62)) (bs := [(lpAt (bodyOf Try.f62) [0])]) (by kernel_rfl) (LInv.cons (b := (lpAt (bodyOf Try.f62) [0])) (by kernel_rfl) (lp62_2 k hP hm hg) LInv.nil))) (ev62 k)
def c63 (k : Nat) : Con := ⟨63, [((.sl (.int .i64)), false), ((.int .i64), false)], [(.int .i64)], (.own true), fun x => laws_heldIntS k x.1 x.2.1⟩
def F63 (k : Nat) : List Con := []
theorem okF63 (k : Nat) : ∀ cn ∈ F63 k, ConOk Try.prog cn := conNil
abbrev S63_2 : Shape := [(0, .v (.sl (.int .i64))), (1, .v (.int .i64)), (5, .v (.int .i64))]
abbrev X63_2 : Exit × Shape := (Exit.ret, [(4, .v (.int .i64))])
abbrev R63_2 : List (Exit × Shape) := [(Exit.exit 0, [(1, .v (.int .i64))])]
def lo63_2 (k : Nat) : LO := loopO [] [] [] S63_2 X63_2 R63_2 (iter (laws_heldIntS_s2) k)
theorem st63_2 (k : Nat) (rec v) : evC Try.prog ⟨21, []⟩ (F63 k) (inlN Try.prog (F63 k) 4) [] (lpAt (bodyOf Try.f63) [0]) (Kb [] [] [] S63_2 X63_2 R63_2 rec) (mkSt [] [] S63_2 v.1 v.2) = (laws_heldIntS_s2) rec v := by kernel_rfl
theorem lp63_2 (k : Nat) {c : Cx} (hP : c.P = Try.prog) (hm : c.m = ⟨21, []⟩) (hg : c.gs = []) : LoopOk c (lo63_2 k) (lpAt (bodyOf Try.f63) [0]) :=
  loop_at hP hm hg (okF63 k) (LInv.of (code := (lpAt (bodyOf Try.f63) [0])) (bs := []) (by kernel_rfl) LInv.nil) (fun rec v => st63_2 k rec v) k
theorem ev63 (k : Nat) (x) : evF Try.prog (F63 k) (inlN Try.prog (F63 k) 4) [(2, lo63_2 k)] Try.f63 (bodyOf Try.f63) (c63 k).ps (c63 k).rs (c63 k).rm x = (c63 k).m x := by kernel_rfl
theorem ok63 (k : Nat) : ConOk Try.prog (c63 k) :=
  fn_at (okF63 k) (cn := c63 k) (fn := Try.f63) (code := bodyOf Try.f63) (m := ⟨21, []⟩) (gs := []) (by kernel_rfl) (by kernel_rfl) (by kernel_rfl) (by kernel_rfl) (by kernel_rfl) (fun _ => by kernel_rfl)
    [(2, lo63_2 k)] (fun c hP hm hg => (LInv.of (code := (bodyOf Try.f63)) (bs := [(lpAt (bodyOf Try.f63) [0])]) (by kernel_rfl) (LInv.cons (b := (lpAt (bodyOf Try.f63) [0])) (by kernel_rfl) (lp63_2 k hP hm hg) LInv.nil))) (ev63 k)
def c13 (k : Nat) : Con := ⟨13, [(T_Wheel, false)], [.bool], (.own true), fun x => laws_FnExactWheelTick k x.1⟩
def F13 (k : Nat) : List Con := [c44 k, c45 k, c64 k, c27 k, c46 k, c59 k, c107 k, c62 k, c50 k, c63 k]
theorem okF13 (k : Nat) : ∀ cn ∈ F13 k, ConOk Try.prog cn := (conCons (ok44 k) (conCons (ok45 k) (conCons (ok64 k) (conCons (ok27 k) (conCons (ok46 k) (conCons (ok59 k) (conCons (ok107 k) (conCons (ok62 k) (conCons (ok50 k) (conCons (ok63 k) conNil))))))))))
theorem ev13 (k : Nat) (x) : evF Try.prog (F13 k) (inlN Try.prog (F13 k) 4) [] Try.f13 (bodyOf Try.f13) (c13 k).ps (c13 k).rs (c13 k).rm x = (c13 k).m x := by kernel_rfl
theorem ok13 (k : Nat) : ConOk Try.prog (c13 k) :=
  fn_at (okF13 k) (cn := c13 k) (fn := Try.f13) (code := bodyOf Try.f13) (m := ⟨112, []⟩) (gs := []) (by kernel_rfl) (by kernel_rfl) (by kernel_rfl) (by kernel_rfl) (by kernel_rfl) (fun _ => by kernel_rfl)
    [] (fun c hP hm hg => (LInv.of (code := (bodyOf Try.f13)) (bs := []) (by kernel_rfl) LInv.nil)) (ev13 k)
def c15 (k : Nat) : Con := ⟨15, [((.sl (.int .u8)), false)], [.bool], (.own true), fun x => laws_big x.1⟩
def F15 (k : Nat) : List Con := []
theorem okF15 (k : Nat) : ∀ cn ∈ F15 k, ConOk Try.prog cn := conNil
theorem ev15 (k : Nat) (x) : evF Try.prog (F15 k) (inlN Try.prog (F15 k) 4) [] Try.f15 (bodyOf Try.f15) (c15 k).ps (c15 k).rs (c15 k).rm x = (c15 k).m x := by kernel_rfl
theorem ok15 (k : Nat) : ConOk Try.prog (c15 k) :=
  fn_at (okF15 k) (cn := c15 k) (fn := Try.f15) (code := bodyOf Try.f15) (m := ⟨6, []⟩) (gs := []) (by kernel_rfl) (by kernel_rfl) (by kernel_rfl) (by kernel_rfl) (by kernel_rfl) (fun _ => by kernel_rfl)
    [] (fun c hP hm hg => (LInv.of (code := (bodyOf Try.f15)) (bs := []) (by kernel_rfl) LInv.nil)) (ev15 k)
def c153 (k : Nat) : Con := ⟨153, [((.int .i64), false)], [T_Wheel], (.own true), fun x => spec_WheelNew k x.1⟩
def F153 (k : Nat) : List Con := [c19 k]
theorem okF153 (k : Nat) : ∀ cn ∈ F153 k, ConOk Try.prog cn := (conCons (ok19 k) conNil)
theorem ev153 (k : Nat) (x) : evF Try.prog (F153 k) (inlN Try.prog (F153 k) 4) [] Try.f153 (bodyOf Try.f153) (c153 k).ps (c153 k).rs (c153 k).rm x = (c153 k).m x := by kernel_rfl
theorem ok153 (k : Nat) : ConOk Try.prog (c153 k) :=
  fn_at (okF153 k) (cn := c153 k) (fn := Try.f153) (code := bodyOf Try.f153) (m := ⟨12, []⟩) (gs := []) (by kernel_rfl) (by kernel_rfl) (by kernel_rfl) (by kernel_rfl) (by kernel_rfl) (fun _ => by kernel_rfl)
    [] (fun c hP hm hg => (LInv.of (code := (bodyOf Try.f153)) (bs := []) (by kernel_rfl) LInv.nil)) (ev153 k)
def c90 (k : Nat) : Con := ⟨90, [(T_Wheel, false), ((.int .i64), false)], [.bool], (.own true), fun x => spec_l12Has k x.1 x.2.1⟩
def F90 (k : Nat) : List Con := [c74 k]
theorem okF90 (k : Nat) : ∀ cn ∈ F90 k, ConOk Try.prog cn := (conCons (ok74 k) conNil)
abbrev S90_3 : Shape := [(1, .v (.int .i64)), (5, .own true (.sl T_Timer)), (6, .v (.int .i64))]
abbrev X90_3 : Exit × Shape := (Exit.ret, [(4, .v .bool)])
abbrev R90_3 : List (Exit × Shape) := [(Exit.exit 0, [])]
def lo90_3 (k : Nat) : LO := loopO [] [] [] S90_3 X90_3 R90_3 (iter (spec_l12Has_s3) k)
theorem st90_3 (k : Nat) (rec v) : evC Try.prog ⟨22, []⟩ (F90 k) (inlN Try.prog (F90 k) 4) [] (lpAt (bodyOf Try.f90) [0]) (Kb [] [] [] S90_3 X90_3 R90_3 rec) (mkSt [] [] S90_3 v.1 v.2) = (spec_l12Has_s3) rec v := by kernel_rfl
theorem lp90_3 (k : Nat) {c : Cx} (hP : c.P = Try.prog) (hm : c.m = ⟨22, []⟩) (hg : c.gs = []) : LoopOk c (lo90_3 k) (lpAt (bodyOf Try.f90) [0]) :=
  loop_at hP hm hg (okF90 k) (LInv.of (code := (lpAt (bodyOf Try.f90) [0])) (bs := []) (by kernel_rfl) LInv.nil) (fun rec v => st90_3 k rec v) k
theorem ev90 (k : Nat) (x) : evF Try.prog (F90 k) (inlN Try.prog (F90 k) 4) [(3, lo90_3 k)] Try.f90 (bodyOf Try.f90) (c90 k).ps (c90 k).rs (c90 k).rm x = (c90 k).m x := by kernel_rfl
theorem ok90 (k : Nat) : ConOk Try.prog (c90 k) :=
  fn_at (okF90 k) (cn := c90 k) (fn := Try.f90) (code := bodyOf Try.f90) (m := ⟨22, []⟩) (gs := []) (by kernel_rfl) (by kernel_rfl) (by kernel_rfl) (by kernel_rfl) (by kernel_rfl) (fun _ => by kernel_rfl)
    [(3, lo90_3 k)] (fun c hP hm hg => (LInv.of (code := (bodyOf Try.f90)) (bs := [(lpAt (bodyOf Try.f90) [0])]) (by kernel_rfl) (LInv.cons (b := (lpAt (bodyOf Try.f90) [0])) (by kernel_rfl) (lp90_3 k hP hm hg) LInv.nil))) (ev90 k)
def c31 (k : Nat) : Con := ⟨31, [(T_Wheel, false), ((.int .i64), false), ((.int .i64), false)], [T_Wheel, (.int .i64)], (.own true), fun x => spec_WheelSet k x.1 x.2.1 x.2.2.1⟩
def F31 (k : Nat) : List Con := [c19 k, c90 k, c74 k, c75 k]
theorem okF31 (k : Nat) : ∀ cn ∈ F31 k, ConOk Try.prog cn := (conCons (ok19 k) (conCons (ok90 k) (conCons (ok74 k) (conCons (ok75 k) conNil))))
theorem ev31 (k : Nat) (x) : evF Try.prog (F31 k) (inlN Try.prog (F31 k) 4) [] Try.f31 (bodyOf Try.f31) (c31 k).ps (c31 k).rs (c31 k).rm x = (c31 k).m x := by kernel_rfl
theorem ok31 (k : Nat) : ConOk Try.prog (c31 k) :=
  fn_at (okF31 k) (cn := c31 k) (fn := Try.f31) (code := bodyOf Try.f31) (m := ⟨69, []⟩) (gs := []) (by kernel_rfl) (by kernel_rfl) (by kernel_rfl) (by kernel_rfl) (by kernel_rfl) (fun _ => by kernel_rfl)
    [] (fun c hP hm hg => (LInv.of (code := (bodyOf Try.f31)) (bs := []) (by kernel_rfl) LInv.nil)) (ev31 k)
def c72 (k : Nat) : Con := ⟨72, [((.ref T_l01Cur), true), ((.int .i64), false)], [(.int .i64)], (.own true), fun x => spec_l01Cur_pick x.1 x.2.1⟩
def F72 (k : Nat) : List Con := []
theorem okF72 (k : Nat) : ∀ cn ∈ F72 k, ConOk Try.prog cn := conNil
theorem ev72 (k : Nat) (x) : evF Try.prog (F72 k) (inlN Try.prog (F72 k) 4) [] Try.f72 (bodyOf Try.f72) (c72 k).ps (c72 k).rs (c72 k).rm x = (c72 k).m x := by kernel_rfl
theorem ok72 (k : Nat) : ConOk Try.prog (c72 k) :=
  fn_at (okF72 k) (cn := c72 k) (fn := Try.f72) (code := bodyOf Try.f72) (m := ⟨78, [(0, 0)]⟩) (gs := [.ptr 0 0 0]) (by kernel_rfl) (by kernel_rfl) (by kernel_rfl) (by kernel_rfl) (by kernel_rfl) (fun _ => by kernel_rfl)
    [] (fun c hP hm hg => (LInv.of (code := (bodyOf Try.f72)) (bs := []) (by kernel_rfl) LInv.nil)) (ev72 k)
def c154 (k : Nat) : Con := ⟨154, [((.ref T_l01Cur), true), ((.int .i64), false)], [(.int .i64)], (.own true), fun x => spec_l01Cur_wide x.1 x.2.1⟩
def F154 (k : Nat) : List Con := [c72 k]
theorem okF154 (k : Nat) : ∀ cn ∈ F154 k, ConOk Try.prog cn := (conCons (ok72 k) conNil)
theorem ev154 (k : Nat) (x) : evF Try.prog (F154 k) (inlN Try.prog (F154 k) 4) [] Try.f154 (bodyOf Try.f154) (c154 k).ps (c154 k).rs (c154 k).rm x = (c154 k).m x := by kernel_rfl
theorem ok154 (k : Nat) : ConOk Try.prog (c154 k) :=
  fn_at (okF154 k) (cn := c154 k) (fn := Try.f154) (code := bodyOf Try.f154) (m := ⟨17, [(0, 0)]⟩) (gs := [.ptr 0 0 0]) (by kernel_rfl) (by kernel_rfl) (by kernel_rfl) (by kernel_rfl) (by kernel_rfl) (fun _ => by kernel_rfl)
    [] (fun c hP hm hg => (LInv.of (code := (bodyOf Try.f154)) (bs := []) (by kernel_rfl) LInv.nil)) (ev154 k)
def c155 (k : Nat) : Con := ⟨155, [((.ref T_l01Cur), true), ((.int .i64), false)], [(.int .i64)], (.own true), fun x => spec_l01Cur_size x.1 x.2.1⟩
def F155 (k : Nat) : List Con := [c72 k]
theorem okF155 (k : Nat) : ∀ cn ∈ F155 k, ConOk Try.prog cn := (conCons (ok72 k) conNil)
theorem ev155 (k : Nat) (x) : evF Try.prog (F155 k) (inlN Try.prog (F155 k) 4) [] Try.f155 (bodyOf Try.f155) (c155 k).ps (c155 k).rs (c155 k).rm x = (c155 k).m x := by kernel_rfl
theorem ok155 (k : Nat) : ConOk Try.prog (c155 k) :=
  fn_at (okF155 k) (cn := c155 k) (fn := Try.f155) (code := bodyOf Try.f155) (m := ⟨17, [(0, 0)]⟩) (gs := [.ptr 0 0 0]) (by kernel_rfl) (by kernel_rfl) (by kernel_rfl) (by kernel_rfl) (by kernel_rfl) (fun _ => by kernel_rfl)
    [] (fun c hP hm hg => (LInv.of (code := (bodyOf Try.f155)) (bs := []) (by kernel_rfl) LInv.nil)) (ev155 k)
def c126 (k : Nat) : Con := ⟨126, [((.ref T_l01Cur), true)], [T_Wheel], (.own true), fun x => spec_l01Cur_wheel k x.1⟩
def F126 (k : Nat) : List Con := [c72 k, c154 k, c153 k, c155 k, c31 k]
theorem okF126 (k : Nat) : ∀ cn ∈ F126 k, ConOk Try.prog cn := (conCons (ok72 k) (conCons (ok154 k) (conCons (ok153 k) (conCons (ok155 k) (conCons (ok31 k) conNil)))))
abbrev S126_3 : Shape := [(0, .arg 0), (2, .box true T_Wheel), (3, .box true T_Wheel), (4, .v (.int .i64))]
abbrev X126_3 : Exit × Shape := (Exit.exit 0, [(2, .box true T_Wheel), (3, .box true T_Wheel)])
abbrev R126_3 : List (Exit × Shape) := []
def lo126_3 (k : Nat) : LO := loopO [(0, 0)] [.ptr 0 0 0] [(.ref T_l01Cur)] S126_3 X126_3 R126_3 (iter (spec_l01Cur_wheel_s3 k) k)
theorem st126_3 (k : Nat) (rec v) : evC Try.prog ⟨57, [(0, 0)]⟩ (F126 k) (inlN Try.prog (F126 k) 4) [] (lpAt (bodyOf Try.f126) [0]) (Kb [(0, 0)] [.ptr 0 0 0] [(.ref T_l01Cur)] S126_3 X126_3 R126_3 rec) (mkSt [.ptr 0 0 0] [(.ref T_l01Cur)] S126_3 v.1 v.2) = (spec_l01Cur_wheel_s3 k) rec v := by kernel_rfl
theorem lp126_3 (k : Nat) {c : Cx} (hP : c.P = Try.prog) (hm : c.m = ⟨57, [(0, 0)]⟩) (hg : c.gs = [.ptr 0 0 0]) : LoopOk c (lo126_3 k) (lpAt (bodyOf Try.f126) [0]) :=
  loop_at hP hm hg (okF126 k) (LInv.of (code := (lpAt (bodyOf Try.f126) [0])) (bs := []) (by kernel_rfl) LInv.nil) (fun rec v => st126_3 k rec v) k
theorem ev126 (k : Nat) (x) : evF Try.prog (F126 k) (inlN Try.prog (F126 k) 4) [(3, lo126_3 k)] Try.f126 (bodyOf Try.f126) (c126 k).ps (c126 k).rs (c126 k).rm x = (c126 k).m x := by kernel_rfl
theorem ok126 (k : Nat) : ConOk Try.prog (c126 k) :=
  fn_at (okF126 k) (cn := c126 k) (fn := Try.f126) (code := bodyOf Try.f126) (m := ⟨57, [(0, 0)]⟩) (gs := [.ptr 0 0 0]) (by kernel_rfl) (by kernel_rfl) (by kernel_rfl) (by kernel_rfl) (by kernel_rfl) (fun _ => by kernel_rfl)
    [(3, lo126_3 k)] (fun c hP hm hg => (LInv.of (code := (bodyOf Try.f126)) (bs := [(lpAt (bodyOf Try.f126) [0])]) (by kernel_rfl) (LInv.cons (b := (lpAt (bodyOf Try.f126) [0])) (by kernel_rfl) (lp126_3 k hP hm hg) LInv.nil))) (ev126 k)
def c73 (k : Nat) : Con := ⟨73, [((.ref T_l01Cur), true)], [(.int .i64)], (.own true), fun x => spec_l01Cur_raw x.1⟩
def F73 (k : Nat) : List Con := [c72 k]
theorem okF73 (k : Nat) : ∀ cn ∈ F73 k, ConOk Try.prog cn := (conCons (ok72 k) conNil)
theorem ev73 (k : Nat) (x) : evF Try.prog (F73 k) (inlN Try.prog (F73 k) 4) [] Try.f73 (bodyOf Try.f73) (c73 k).ps (c73 k).rs (c73 k).rm x = (c73 k).m x := by kernel_rfl
theorem ok73 (k : Nat) : ConOk Try.prog (c73 k) :=
  fn_at (okF73 k) (cn := c73 k) (fn := Try.f73) (code := bodyOf Try.f73) (m := ⟨20, [(0, 0)]⟩) (gs := [.ptr 0 0 0]) (by kernel_rfl) (by kernel_rfl) (by kernel_rfl) (by kernel_rfl) (by kernel_rfl) (fun _ => by kernel_rfl)
    [] (fun c hP hm hg => (LInv.of (code := (bodyOf Try.f73)) (bs := []) (by kernel_rfl) LInv.nil)) (ev73 k)
def c71 (k : Nat) : Con := ⟨71, [((.ref T_l01Cur), true)], [T_Wheel], (.own true), fun x => spec_l01Cur_badWheel k x.1⟩
def F71 (k : Nat) : List Con := [c126 k, c72 k, c73 k, c74 k]
theorem okF71 (k : Nat) : ∀ cn ∈ F71 k, ConOk Try.prog cn := (conCons (ok126 k) (conCons (ok72 k) (conCons (ok73 k) (conCons (ok74 k) conNil))))
abbrev S71_14 : Shape := [(0, .arg 0), (2, .box true T_Wheel), (3, .box true T_Wheel), (5, .v (.int .i64))]
abbrev X71_14 : Exit × Shape := (Exit.exit 1, [(2, .box true T_Wheel), (3, .box true T_Wheel)])
abbrev R71_14 : List (Exit × Shape) := []
def lo71_14 (k : Nat) : LO := loopO [(0, 0)] [.ptr 0 0 0] [(.ref T_l01Cur)] S71_14 X71_14 R71_14 (iter (spec_l01Cur_badWheel_s14 k) k)
theorem st71_14 (k : Nat) (rec v) : evC Try.prog ⟨113, [(0, 0)]⟩ (F71 k) (inlN Try.prog (F71 k) 4) [] (lpAt (bodyOf Try.f71) [0]) (Kb [(0, 0)] [.ptr 0 0 0] [(.ref T_l01Cur)] S71_14 X71_14 R71_14 rec) (mkSt [.ptr 0 0 0] [(.ref T_l01Cur)] S71_14 v.1 v.2) = (spec_l01Cur_badWheel_s14 k) rec v := by kernel_rfl
theorem lp71_14 (k : Nat) {c : Cx} (hP : c.P = Try.prog) (hm : c.m = ⟨113, [(0, 0)]⟩) (hg : c.gs = [.ptr 0 0 0]) : LoopOk c (lo71_14 k) (lpAt (bodyOf Try.f71) [0]) :=
  loop_at hP hm hg (okF71 k) (LInv.of (code := (lpAt (bodyOf Try.f71) [0])) (bs := []) (by kernel_rfl) LInv.nil) (fun rec v => st71_14 k rec v) k
theorem ev71 (k : Nat) (x) : evF Try.prog (F71 k) (inlN Try.prog (F71 k) 4) [(14, lo71_14 k)] Try.f71 (bodyOf Try.f71) (c71 k).ps (c71 k).rs (c71 k).rm x = (c71 k).m x := by kernel_rfl
theorem ok71 (k : Nat) : ConOk Try.prog (c71 k) :=
  fn_at (okF71 k) (cn := c71 k) (fn := Try.f71) (code := bodyOf Try.f71) (m := ⟨113, [(0, 0)]⟩) (gs := [.ptr 0 0 0]) (by kernel_rfl) (by kernel_rfl) (by kernel_rfl) (by kernel_rfl) (by kernel_rfl) (fun _ => by kernel_rfl)
    [(14, lo71_14 k)] (fun c hP hm hg => (LInv.of (code := (bodyOf Try.f71)) (bs := [(lpAt (bodyOf Try.f71) [0])]) (by kernel_rfl) (LInv.cons (b := (lpAt (bodyOf Try.f71) [0])) (by kernel_rfl) (lp71_14 k hP hm hg) LInv.nil))) (ev71 k)
def c16 (k : Nat) : Con := ⟨16, [((.sl (.int .u8)), false)], [T_Wheel, (.int .i64)], (.own true), fun x => spec_DrawWheelRun k x.1⟩
def F16 (k : Nat) : List Con := [c71 k, c72 k, c73 k]
theorem okF16 (k : Nat) : ∀ cn ∈ F16 k, ConOk Try.prog cn := (conCons (ok71 k) (conCons (ok72 k) (conCons (ok73 k) conNil)))
theorem ev16 (k : Nat) (x) : evF Try.prog (F16 k) (inlN Try.prog (F16 k) 4) [] Try.f16 (bodyOf Try.f16) (c16 k).ps (c16 k).rs (c16 k).rm x = (c16 k).m x := by kernel_rfl
theorem ok16 (k : Nat) : ConOk Try.prog (c16 k) :=
  fn_at (okF16 k) (cn := c16 k) (fn := Try.f16) (code := bodyOf Try.f16) (m := ⟨20, []⟩) (gs := []) (by kernel_rfl) (by kernel_rfl) (by kernel_rfl) (by kernel_rfl) (by kernel_rfl) (fun _ => by kernel_rfl)
    [] (fun c hP hm hg => (LInv.of (code := (bodyOf Try.f16)) (bs := []) (by kernel_rfl) LInv.nil)) (ev16 k)
def c87 (k : Nat) : Con := ⟨87, [(T_Wheel, false)], [(.sl T_Timer)], (.own true), fun x => impl_Wheel_timers k x.1⟩
def F87 (k : Nat) : List Con := []
theorem okF87 (k : Nat) : ∀ cn ∈ F87 k, ConOk Try.prog cn := conNil
abbrev S87_3 : Shape := [(3, .own true (.sl T_Timer)), (8, .v (.sl T_Spoke)), (9, .v (.int .i64)), (10, .v (.int .i64))]
abbrev X87_3 : Exit × Shape := (Exit.exit 0, [(3, .own true (.sl T_Timer))])
abbrev R87_3 : List (Exit × Shape) := []
def lo87_3 (k : Nat) : LO := loopO [] [] [] S87_3 X87_3 R87_3 (iter (impl_Wheel_timers_s3) k)
theorem st87_3 (k : Nat) (rec v) : evC Try.prog ⟨20, []⟩ (F87 k) (inlN Try.prog (F87 k) 4) [] (lpAt (bodyOf Try.f87) [0]) (Kb [] [] [] S87_3 X87_3 R87_3 rec) (mkSt [] [] S87_3 v.1 v.2) = (impl_Wheel_timers_s3) rec v := by kernel_rfl
theorem lp87_3 (k : Nat) {c : Cx} (hP : c.P = Try.prog) (hm : c.m = ⟨20, []⟩) (hg : c.gs = []) : LoopOk c (lo87_3 k) (lpAt (bodyOf Try.f87) [0]) :=
  loop_at hP hm hg (okF87 k) (LInv.of (code := (lpAt (bodyOf Try.f87) [0])) (bs := []) (by kernel_rfl) LInv.nil) (fun rec v => st87_3 k rec v) k
theorem ev87 (k : Nat) (x) : evF Try.prog (F87 k) (inlN Try.prog (F87 k) 4) [(3, lo87_3 k)] Try.f87 (bodyOf Try.f87) (c87 k).ps (c87 k).rs (c87 k).rm x = (c87 k).m x := by kernel_rfl
theorem ok87 (k : Nat) : ConOk Try.prog (c87 k) :=
  fn_at (okF87 k) (cn := c87 k) (fn := Try.f87) (code := bodyOf Try.f87) (m := ⟨20, []⟩) (gs := []) (by kernel_rfl) (by kernel_rfl) (by kernel_rfl) (by kernel_rfl) (by kernel_rfl) (fun _ => by kernel_rfl)
    [(3, lo87_3 k)] (fun c hP hm hg => (LInv.of (code := (bodyOf Try.f87)) (bs := [(lpAt (bodyOf Try.f87) [0])]) (by kernel_rfl) (LInv.cons (b := (lpAt (bodyOf Try.f87) [0])) (by kernel_rfl) (lp87_3 k hP hm hg) LInv.nil))) (ev87 k)
def c28 (k : Nat) : Con := ⟨28, [(T_Wheel, false)], [(.int .i64)], (.own true), fun x => impl_WheelNext k x.1⟩
def F28 (k : Nat) : List Con := [c26 k, c87 k]
theorem okF28 (k : Nat) : ∀ cn ∈ F28 k, ConOk Try.prog cn := (conCons (ok26 k) (conCons (ok87 k) conNil))
abbrev S28_5 : Shape := [(3, .v (.int .i64)), (10, .own true (.sl T_Timer)), (11, .v (.int .i64)), (12, .v (.int .i64))]
abbrev X28_5 : Exit × Shape := (Exit.exit 0, [(3, .v (.int .i64))])
abbrev R28_5 : List (Exit × Shape) := []
def lo28_5 (k : Nat) : LO := loopO [] [] [] S28_5 X28_5 R28_5 (iter (impl_WheelNext_s5) k)
theorem st28_5 (k : Nat) (rec v) : evC Try.prog ⟨28, []⟩ (F28 k) (inlN Try.prog (F28 k) 4) [] (lpAt (bodyOf Try.f28) [0]) (Kb [] [] [] S28_5 X28_5 R28_5 rec) (mkSt [] [] S28_5 v.1 v.2) = (impl_WheelNext_s5) rec v := by kernel_rfl
theorem lp28_5 (k : Nat) {c : Cx} (hP : c.P = Try.prog) (hm : c.m = ⟨28, []⟩) (hg : c.gs = []) : LoopOk c (lo28_5 k) (lpAt (bodyOf Try.f28) [0]) :=
  loop_at hP hm hg (okF28 k) (LInv.of (code := (lpAt (bodyOf Try.f28) [0])) (bs := []) (by kernel_rfl) LInv.nil) (fun rec v => st28_5 k rec v) k
theorem ev28 (k : Nat) (x) : evF Try.prog (F28 k) (inlN Try.prog (F28 k) 4) [(5, lo28_5 k)] Try.f28 (bodyOf Try.f28) (c28 k).ps (c28 k).rs (c28 k).rm x = (c28 k).m x := by kernel_rfl
theorem ok28 (k : Nat) : ConOk Try.prog (c28 k) :=
  fn_at (okF28 k) (cn := c28 k) (fn := Try.f28) (code := bodyOf Try.f28) (m := ⟨28, []⟩) (gs := []) (by kernel_rfl) (by kernel_rfl) (by kernel_rfl) (by kernel_rfl) (by kernel_rfl) (fun _ => by kernel_rfl)
    [(5, lo28_5 k)] (fun c hP hm hg => (LInv.of (code := (bodyOf Try.f28)) (bs := [(lpAt (bodyOf Try.f28) [0])]) (by kernel_rfl) (LInv.cons (b := (lpAt (bodyOf Try.f28) [0])) (by kernel_rfl) (lp28_5 k hP hm hg) LInv.nil))) (ev28 k)
def c29 (k : Nat) : Con := ⟨29, [(T_Wheel, false)], [(.int .i64)], (.own true), fun x => spec_WheelNext k x.1⟩
def F29 (k : Nat) : List Con := [c19 k, c74 k]
theorem okF29 (k : Nat) : ∀ cn ∈ F29 k, ConOk Try.prog cn := (conCons (ok19 k) (conCons (ok74 k) conNil))
abbrev S29_6 : Shape := [(3, .own true (.sl T_Timer)), (4, .v (.int .i64)), (5, .v (.int .i64))]
abbrev X29_6 : Exit × Shape := (Exit.exit 0, [(4, .v (.int .i64))])
abbrev R29_6 : List (Exit × Shape) := []
def lo29_6 (k : Nat) : LO := loopO [] [] [] S29_6 X29_6 R29_6 (iter (spec_WheelNext_s6) k)
theorem st29_6 (k : Nat) (rec v) : evC Try.prog ⟨34, []⟩ (F29 k) (inlN Try.prog (F29 k) 4) [] (lpAt (bodyOf Try.f29) [0]) (Kb [] [] [] S29_6 X29_6 R29_6 rec) (mkSt [] [] S29_6 v.1 v.2) = (spec_WheelNext_s6) rec v := by kernel_rfl
theorem lp29_6 (k : Nat) {c : Cx} (hP : c.P = Try.prog) (hm : c.m = ⟨34, []⟩) (hg : c.gs = []) : LoopOk c (lo29_6 k) (lpAt (bodyOf Try.f29) [0]) :=
  loop_at hP hm hg (okF29 k) (LInv.of (code := (lpAt (bodyOf Try.f29) [0])) (bs := []) (by kernel_rfl) LInv.nil) (fun rec v => st29_6 k rec v) k
theorem ev29 (k : Nat) (x) : evF Try.prog (F29 k) (inlN Try.prog (F29 k) 4) [(6, lo29_6 k)] Try.f29 (bodyOf Try.f29) (c29 k).ps (c29 k).rs (c29 k).rm x = (c29 k).m x := by kernel_rfl
theorem ok29 (k : Nat) : ConOk Try.prog (c29 k) :=
  fn_at (okF29 k) (cn := c29 k) (fn := Try.f29) (code := bodyOf Try.f29) (m := ⟨34, []⟩) (gs := []) (by kernel_rfl) (by kernel_rfl) (by kernel_rfl) (by kernel_rfl) (by kernel_rfl) (fun _ => by kernel_rfl)
    [(6, lo29_6 k)] (fun c hP hm hg => (LInv.of (code := (bodyOf Try.f29)) (bs := [(lpAt (bodyOf Try.f29) [0])]) (by kernel_rfl) (LInv.cons (b := (lpAt (bodyOf Try.f29) [0])) (by kernel_rfl) (lp29_6 k hP hm hg) LInv.nil))) (ev29 k)
def c5 (k : Nat) : Con := ⟨5, [((.sl (.int .u8)), false)], [.bool], (.own true), fun x => laws_FnWheelTicks k x.1⟩
def F5 (k : Nat) : List Con := [c15 k, c16 k, c26 k, c19 k, c18 k, c27 k, c28 k, c29 k]
theorem okF5 (k : Nat) : ∀ cn ∈ F5 k, ConOk Try.prog cn := (conCons (ok15 k) (conCons (ok16 k) (conCons (ok26 k) (conCons (ok19 k) (conCons (ok18 k) (conCons (ok27 k) (conCons (ok28 k) (conCons (ok29 k) conNil))))))))
abbrev S5_18 : Shape := [(3, .box true T_Wheel), (4, .v (.int .i64)), (7, .box true T_Wheel), (8, .own true (.sl T_Timer)), (9, .v (.int .i64)), (10, .v (.int .i64)), (11, .box true T_Wheel), (12, .own true (.sl (.int .i64))), (13, .v (.int .i64))]
abbrev X5_18 : Exit × Shape := (Exit.ret, [(2, .v .bool)])
abbrev R5_18 : List (Exit × Shape) := [(Exit.exit 2, [(3, .box true T_Wheel), (4, .v (.int .i64)), (7, .box true T_Wheel), (8, .own true (.sl T_Timer)), (9, .v (.int .i64)), (10, .v (.int .i64)), (11, .box true T_Wheel)])]
def lo5_18 (k : Nat) : LO := loopO [] [] [] S5_18 X5_18 R5_18 (iter (laws_FnWheelTicks_s18) k)
theorem st5_18 (k : Nat) (rec v) : evC Try.prog ⟨131, []⟩ (F5 k) (inlN Try.prog (F5 k) 4) [] (lpAt (bodyOf Try.f5) [0, 0]) (Kb [] [] [] S5_18 X5_18 R5_18 rec) (mkSt [] [] S5_18 v.1 v.2) = (laws_FnWheelTicks_s18) rec v := by kernel_rfl
theorem lp5_18 (k : Nat) {c : Cx} (hP : c.P = Try.prog) (hm : c.m = ⟨131, []⟩) (hg : c.gs = []) : LoopOk c (lo5_18 k) (lpAt (bodyOf Try.f5) [0, 0]) :=
  loop_at hP hm hg (okF5 k) (LInv.of (code := (lpAt (bodyOf Try.f5) [0, 0])) (bs := []) (by kernel_rfl) LInv.nil) (fun rec v => st5_18 k rec v) k
abbrev S5_12 : Shape := [(3, .box true T_Wheel), (4, .v (.int .i64)), (7, .box true T_Wheel), (8, .own true (.sl T_Timer)), (9, .v (.int .i64)), (10, .v (.int .i64))]
abbrev X5_12 : Exit × Shape := (Exit.ret, [(2, .v .bool)])
abbrev R5_12 : List (Exit × Shape) := [(Exit.exit 0, [(3, .box true T_Wheel), (7, .box true T_Wheel), (8, .own true (.sl T_Timer)), (9, .v (.int .i64))])]
def lo5_12 (k : Nat) : LO := loopO [] [] [] S5_12 X5_12 R5_12 (iter (laws_FnWheelTicks_s12 k) k)
theorem st5_12 (k : Nat) (rec v) : evC Try.prog ⟨131, []⟩ (F5 k) (inlN Try.prog (F5 k) 4) [(18, lo5_18 k)] (lpAt (bodyOf Try.f5) [0]) (Kb [] [] [] S5_12 X5_12 R5_12 rec) (mkSt [] [] S5_12 v.1 v.2) = (laws_FnWheelTicks_s12 k) rec v := by kernel_rfl
theorem lp5_12 (k : Nat) {c : Cx} (hP : c.P = Try.prog) (hm : c.m = ⟨131, []⟩) (hg : c.gs = []) : LoopOk c (lo5_12 k) (lpAt (bodyOf Try.f5) [0]) :=
  loop_at hP hm hg (okF5 k) (LInv.of (code := (lpAt (bodyOf Try.f5) [0])) (bs := [(lpAt (bodyOf Try.f5) [0, 0])]) (by kernel_rfl) (LInv.cons (b := (lpAt (bodyOf Try.f5) [0, 0])) (by kernel_rfl) (lp5_18 k hP hm hg) LInv.nil)) (fun rec v => st5_12 k rec v) k
theorem ev5 (k : Nat) (x) : evF Try.prog (F5 k) (inlN Try.prog (F5 k) 4) [(12, lo5_12 k)] Try.f5 (bodyOf Try.f5) (c5 k).ps (c5 k).rs (c5 k).rm x = (c5 k).m x := by kernel_rfl
theorem ok5 (k : Nat) : ConOk Try.prog (c5 k) :=
  fn_at (okF5 k) (cn := c5 k) (fn := Try.f5) (code := bodyOf Try.f5) (m := ⟨131, []⟩) (gs := []) (by kernel_rfl) (by kernel_rfl) (by kernel_rfl) (by kernel_rfl) (by kernel_rfl) (fun _ => by kernel_rfl)
    [(12, lo5_12 k)] (fun c hP hm hg => (LInv.of (code := (bodyOf Try.f5)) (bs := [(lpAt (bodyOf Try.f5) [0])]) (by kernel_rfl) (LInv.cons (b := (lpAt (bodyOf Try.f5) [0])) (by kernel_rfl) (lp5_12 k hP hm hg) LInv.nil))) (ev5 k)
def c89 (k : Nat) : Con := ⟨89, [((.int .i64), false), ((.int .i64), false), ((.int .i64), false)], [(.int .i64)], (.own true), fun x => spec_Clip x.1 x.2.1 x.2.2.1⟩
def F89 (k : Nat) : List Con := []
theorem okF89 (k : Nat) : ∀ cn ∈ F89 k, ConOk Try.prog cn := conNil
theorem ev89 (k : Nat) (x) : evF Try.prog (F89 k) (inlN Try.prog (F89 k) 4) [] Try.f89 (bodyOf Try.f89) (c89 k).ps (c89 k).rs (c89 k).rm x = (c89 k).m x := by kernel_rfl
theorem ok89 (k : Nat) : ConOk Try.prog (c89 k) :=
  fn_at (okF89 k) (cn := c89 k) (fn := Try.f89) (code := bodyOf Try.f89) (m := ⟨16, []⟩) (gs := []) (by kernel_rfl) (by kernel_rfl) (by kernel_rfl) (by kernel_rfl) (by kernel_rfl) (fun _ => by kernel_rfl)
    [] (fun c hP hm hg => (LInv.of (code := (bodyOf Try.f89)) (bs := []) (by kernel_rfl) LInv.nil)) (ev89 k)
def c88 (k : Nat) : Con := ⟨88, [((.ref T_l01Cur), true), ((.int .i64), false)], [.bool], (.own true), fun x => spec_l01Cur_once x.1 x.2.1⟩
def F88 (k : Nat) : List Con := [c72 k]
theorem okF88 (k : Nat) : ∀ cn ∈ F88 k, ConOk Try.prog cn := (conCons (ok72 k) conNil)
theorem ev88 (k : Nat) (x) : evF Try.prog (F88 k) (inlN Try.prog (F88 k) 4) [] Try.f88 (bodyOf Try.f88) (c88 k).ps (c88 k).rs (c88 k).rm x = (c88 k).m x := by kernel_rfl
theorem ok88 (k : Nat) : ConOk Try.prog (c88 k) :=
  fn_at (okF88 k) (cn := c88 k) (fn := Try.f88) (code := bodyOf Try.f88) (m := ⟨11, [(0, 0)]⟩) (gs := [.ptr 0 0 0]) (by kernel_rfl) (by kernel_rfl) (by kernel_rfl) (by kernel_rfl) (by kernel_rfl) (fun _ => by kernel_rfl)
    [] (fun c hP hm hg => (LInv.of (code := (bodyOf Try.f88)) (bs := []) (by kernel_rfl) LInv.nil)) (ev88 k)
def c30 (k : Nat) : Con := ⟨30, [((.sl (.int .u8)), false)], [T_Wheel, (.int .i64), (.int .i64)], (.own true), fun x => spec_DrawWheelSet k x.1⟩
def F30 (k : Nat) : List Con := [c71 k, c73 k, c88 k, c89 k, c72 k]
theorem okF30 (k : Nat) : ∀ cn ∈ F30 k, ConOk Try.prog cn := (conCons (ok71 k) (conCons (ok73 k) (conCons (ok88 k) (conCons (ok89 k) (conCons (ok72 k) conNil)))))
theorem ev30 (k : Nat) (x) : evF Try.prog (F30 k) (inlN Try.prog (F30 k) 4) [] Try.f30 (bodyOf Try.f30) (c30 k).ps (c30 k).rs (c30 k).rm x = (c30 k).m x := by kernel_rfl
theorem ok30 (k : Nat) : ConOk Try.prog (c30 k) :=
  fn_at (okF30 k) (cn := c30 k) (fn := Try.f30) (code := bodyOf Try.f30) (m := ⟨42, []⟩) (gs := []) (by kernel_rfl) (by kernel_rfl) (by kernel_rfl) (by kernel_rfl) (by kernel_rfl) (fun _ => by kernel_rfl)
    [] (fun c hP hm hg => (LInv.of (code := (bodyOf Try.f30)) (bs := []) (by kernel_rfl) LInv.nil)) (ev30 k)
def c134 (k : Nat) : Con := ⟨134, [(T_Timer, false), ((.ref (.int .i64)), false)], [.bool], (.own true), fun x => impl_Wheel_hasTimer_1 x.1 x.2.1⟩
def F134 (k : Nat) : List Con := []
theorem okF134 (k : Nat) : ∀ cn ∈ F134 k, ConOk Try.prog cn := conNil
theorem ev134 (k : Nat) (x) : evF Try.prog (F134 k) (inlN Try.prog (F134 k) 4) [] Try.f134 (bodyOf Try.f134) (c134 k).ps (c134 k).rs (c134 k).rm x = (c134 k).m x := by kernel_rfl
theorem ok134 (k : Nat) : ConOk Try.prog (c134 k) :=
  fn_at (okF134 k) (cn := c134 k) (fn := Try.f134) (code := bodyOf Try.f134) (m := ⟨8, []⟩) (gs := []) (by kernel_rfl) (by kernel_rfl) (by kernel_rfl) (by kernel_rfl) (by kernel_rfl) (fun _ => by kernel_rfl)
    [] (fun c hP hm hg => (LInv.of (code := (bodyOf Try.f134)) (bs := []) (by kernel_rfl) LInv.nil)) (ev134 k)
def c156_2 (k : Nat) : Con := ⟨156, [((.sl T_Timer), false), ((.cl 134 (.pr (.ref (.int .i64)) .un)), false)], [(.int .i64)], (.own true), fun x => slices_IndexFunc_impl_Timer_impl_Timer_2 k x.1 x.2.1⟩
def F156_2 (k : Nat) : List Con := [c134 k]
theorem okF156_2 (k : Nat) : ∀ cn ∈ F156_2 k, ConOk Try.prog cn := (conCons (ok134 k) conNil)
abbrev S156_2_2 : Shape := [(0, .v (.sl T_Timer)), (1, .v (.cl 134 (.pr (.ref (.int .i64)) .un))), (7, .v (.int .i64)), (8, .v (.int .i64))]
abbrev X156_2_2 : Exit × Shape := (Exit.ret, [(4, .v (.int .i64))])
abbrev R156_2_2 : List (Exit × Shape) := [(Exit.exit 0, [])]
def lo156_2_2 (k : Nat) : LO := loopO [] [] [] S156_2_2 X156_2_2 R156_2_2 (iter (slices_IndexFunc_impl_Timer_impl_Timer_2_s2) k)
theorem st156_2_2 (k : Nat) (rec v) : evC Try.prog ⟨19, []⟩ (F156_2 k) (inlN Try.prog (F156_2 k) 4) [] (lpAt (bodyOf Try.f156) [0]) (Kb [] [] [] S156_2_2 X156_2_2 R156_2_2 rec) (mkSt [] [] S156_2_2 v.1 v.2) = (slices_IndexFunc_impl_Timer_impl_Timer_2_s2) rec v := by kernel_rfl
theorem lp156_2_2 (k : Nat) {c : Cx} (hP : c.P = Try.prog) (hm : c.m = ⟨19, []⟩) (hg : c.gs = []) : LoopOk c (lo156_2_2 k) (lpAt (bodyOf Try.f156) [0]) :=
  loop_at hP hm hg (okF156_2 k) (LInv.of (code := (lpAt (bodyOf Try.f156) [0])) (bs := []) (by kernel_rfl) LInv.nil) (fun rec v => st156_2_2 k rec v) k
theorem ev156_2 (k : Nat) (x) : evF Try.prog (F156_2 k) (inlN Try.prog (F156_2 k) 4) [(2, lo156_2_2 k)] Try.f156 (bodyOf Try.f156) (c156_2 k).ps (c156_2 k).rs (c156_2 k).rm x = (c156_2 k).m x := by kernel_rfl
theorem ok156_2 (k : Nat) : ConOk Try.prog (c156_2 k) :=
  fn_at (okF156_2 k) (cn := c156_2 k) (fn := Try.f156) (code := bodyOf Try.f156) (m := ⟨19, []⟩) (gs := []) (by kernel_rfl) (by kernel_rfl) (by kernel_rfl) (by kernel_rfl) (by kernel_rfl) (fun _ => by kernel_rfl)
    [(2, lo156_2_2 k)] (fun c hP hm hg => (LInv.of (code := (bodyOf Try.f156)) (bs := [(lpAt (bodyOf Try.f156) [0])]) (by kernel_rfl) (LInv.cons (b := (lpAt (bodyOf Try.f156) [0])) (by kernel_rfl) (lp156_2_2 k hP hm hg) LInv.nil))) (ev156_2 k)
def c133 (k : Nat) : Con := ⟨133, [((.sl T_Timer), false), ((.cl 134 (.pr (.ref (.int .i64)) .un)), false)], [.bool], (.own true), fun x => slices_ContainsFunc_impl_Timer_impl_Timer k x.1 x.2.1⟩
def F133 (k : Nat) : List Con := [c156_2 k]
theorem okF133 (k : Nat) : ∀ cn ∈ F133 k, ConOk Try.prog cn := (conCons (ok156_2 k) conNil)
theorem ev133 (k : Nat) (x) : evF Try.prog (F133 k) (inlN Try.prog (F133 k) 4) [] Try.f133 (bodyOf Try.f133) (c133 k).ps (c133 k).rs (c133 k).rm x = (c133 k).m x := by kernel_rfl
theorem ok133 (k : Nat) : ConOk Try.prog (c133 k) :=
  fn_at (okF133 k) (cn := c133 k) (fn := Try.f133) (code := bodyOf Try.f133) (m := ⟨9, []⟩) (gs := []) (by kernel_rfl) (by kernel_rfl) (by kernel_rfl) (by kernel_rfl) (by kernel_rfl) (fun _ => by kernel_rfl)
    [] (fun c hP hm hg => (LInv.of (code := (bodyOf Try.f133)) (bs := []) (by kernel_rfl) LInv.nil)) (ev133 k)
def c91 (k : Nat) : Con := ⟨91, [(T_Wheel, false), ((.int .i64), false)], [.bool], (.own true), fun x => impl_Wheel_hasTimer k x.1 x.2.1⟩
def F91 (k : Nat) : List Con := [c87 k, c133 k]
theorem okF91 (k : Nat) : ∀ cn ∈ F91 k, ConOk Try.prog cn := (conCons (ok87 k) (conCons (ok133 k) conNil))
theorem ev91 (k : Nat) (x) : evF Try.prog (F91 k) (inlN Try.prog (F91 k) 4) [] Try.f91 (bodyOf Try.f91) (c91 k).ps (c91 k).rs (c91 k).rm x = (c91 k).m x := by kernel_rfl
theorem ok91 (k : Nat) : ConOk Try.prog (c91 k) :=
  fn_at (okF91 k) (cn := c91 k) (fn := Try.f91) (code := bodyOf Try.f91) (m := ⟨9, []⟩) (gs := []) (by kernel_rfl) (by kernel_rfl) (by kernel_rfl) (by kernel_rfl) (by kernel_rfl) (fun _ => by kernel_rfl)
    [] (fun c hP hm hg => (LInv.of (code := (bodyOf Try.f91)) (bs := []) (by kernel_rfl) LInv.nil)) (ev91 k)
def c92 (k : Nat) : Con := ⟨92, [(T_Timer, false), ((.ref (.int .i64)), false)], [.bool], (.own true), fun x => impl_WheelSet_1 x.1 x.2.1⟩
def F92 (k : Nat) : List Con := []
theorem okF92 (k : Nat) : ∀ cn ∈ F92 k, ConOk Try.prog cn := conNil
theorem ev92 (k : Nat) (x) : evF Try.prog (F92 k) (inlN Try.prog (F92 k) 4) [] Try.f92 (bodyOf Try.f92) (c92 k).ps (c92 k).rs (c92 k).rm x = (c92 k).m x := by kernel_rfl
theorem ok92 (k : Nat) : ConOk Try.prog (c92 k) :=
  fn_at (okF92 k) (cn := c92 k) (fn := Try.f92) (code := bodyOf Try.f92) (m := ⟨8, []⟩) (gs := []) (by kernel_rfl) (by kernel_rfl) (by kernel_rfl) (by kernel_rfl) (by kernel_rfl) (fun _ => by kernel_rfl)
    [] (fun c hP hm hg => (LInv.of (code := (bodyOf Try.f92)) (bs := []) (by kernel_rfl) LInv.nil)) (ev92 k)
def c156_3 (k : Nat) : Con := ⟨156, [((.sl T_Timer), false), ((.cl 92 (.pr (.ref (.int .i64)) .un)), false)], [(.int .i64)], (.own true), fun x => slices_IndexFunc_impl_Timer_impl_Timer_3 k x.1 x.2.1⟩
def F156_3 (k : Nat) : List Con := [c92 k]
theorem okF156_3 (k : Nat) : ∀ cn ∈ F156_3 k, ConOk Try.prog cn := (conCons (ok92 k) conNil)
abbrev S156_3_2 : Shape := [(0, .v (.sl T_Timer)), (1, .v (.cl 92 (.pr (.ref (.int .i64)) .un))), (7, .v (.int .i64)), (8, .v (.int .i64))]
abbrev X156_3_2 : Exit × Shape := (Exit.ret, [(4, .v (.int .i64))])
abbrev R156_3_2 : List (Exit × Shape) := [(Exit.exit 0, [])]
def lo156_3_2 (k : Nat) : LO := loopO [] [] [] S156_3_2 X156_3_2 R156_3_2 (iter (slices_IndexFunc_impl_Timer_impl_Timer_3_s2) k)
theorem st156_3_2 (k : Nat) (rec v) : evC Try.prog ⟨19, []⟩ (F156_3 k) (inlN Try.prog (F156_3 k) 4) [] (lpAt (bodyOf Try.f156) [0]) (Kb [] [] [] S156_3_2 X156_3_2 R156_3_2 rec) (mkSt [] [] S156_3_2 v.1 v.2) = (slices_IndexFunc_impl_Timer_impl_Timer_3_s2) rec v := by kernel_rfl
theorem lp156_3_2 (k : Nat) {c : Cx} (hP : c.P = Try.prog) (hm : c.m = ⟨19, []⟩) (hg : c.gs = []) : LoopOk c (lo156_3_2 k) (lpAt (bodyOf Try.f156) [0]) :=
  loop_at hP hm hg (okF156_3 k) (LInv.of (code := (lpAt (bodyOf Try.f156) [0])) (bs := []) (by kernel_rfl) LInv.nil) (fun rec v => st156_3_2 k rec v) k
theorem ev156_3 (k : Nat) (x) : evF Try.prog (F156_3 k) (inlN Try.prog (F156_3 k) 4) [(2, lo156_3_2 k)] Try.f156 (bodyOf Try.f156) (c156_3 k).ps (c156_3 k).rs (c156_3 k).rm x = (c156_3 k).m x := by kernel_rfl
theorem ok156_3 (k : Nat) : ConOk Try.prog (c156_3 k) :=
  fn_at (okF156_3 k) (cn := c156_3 k) (fn := Try.f156) (code := bodyOf Try.f156) (m := ⟨19, []⟩) (gs := []) (by kernel_rfl) (by kernel_rfl) (by kernel_rfl) (by kernel_rfl) (by kernel_rfl) (fun _ => by kernel_rfl)
    [(2, lo156_3_2 k)] (fun c hP hm hg => (LInv.of (code := (bodyOf Try.f156)) (bs := [(lpAt (bodyOf Try.f156) [0])]) (by kernel_rfl) (LInv.cons (b := (lpAt (bodyOf Try.f156) [0])) (by kernel_rfl) (lp156_3_2 k hP hm hg) LInv.nil))) (ev156_3 k)
def c127_2 (k : Nat) : Con := ⟨127, [((.sl T_Timer), true), ((.cl 92 (.pr (.ref (.int .i64)) .un)), false)], [(.sl T_Timer)], .mv, fun x => slices_DeleteFunc_impl_Timer_impl_Timer_2 k x.1 x.2.1⟩
def F127_2 (k : Nat) : List Con := [c156_3 k, c92 k]
theorem okF127_2 (k : Nat) : ∀ cn ∈ F127_2 k, ConOk Try.prog cn := (conCons (ok156_3 k) (conCons (ok92 k) conNil))
abbrev S127_2_5 : Shape := [(0, .own true (.sl T_Timer)), (1, .v (.cl 92 (.pr (.ref (.int .i64)) .un))), (5, .v (.int .i64)), (6, .v (.int .i64))]
abbrev X127_2_5 : Exit × Shape := (Exit.exit 0, [(0, .own true (.sl T_Timer)), (5, .v (.int .i64))])
abbrev R127_2_5 : List (Exit × Shape) := []
def lo127_2_5 (k : Nat) : LO := loopO [] [] [] S127_2_5 X127_2_5 R127_2_5 (iter (slices_DeleteFunc_impl_Timer_impl_Timer_2_s5) k)
theorem st127_2_5 (k : Nat) (rec v) : evC Try.prog ⟨42, []⟩ (F127_2 k) (inlN Try.prog (F127_2 k) 4) [] (lpAt (bodyOf Try.f127) [0]) (Kb [] [] [] S127_2_5 X127_2_5 R127_2_5 rec) (mkSt [] [] S127_2_5 v.1 v.2) = (slices_DeleteFunc_impl_Timer_impl_Timer_2_s5) rec v := by kernel_rfl
theorem lp127_2_5 (k : Nat) {c : Cx} (hP : c.P = Try.prog) (hm : c.m = ⟨42, []⟩) (hg : c.gs = []) : LoopOk c (lo127_2_5 k) (lpAt (bodyOf Try.f127) [0]) :=
  loop_at hP hm hg (okF127_2 k) (LInv.of (code := (lpAt (bodyOf Try.f127) [0])) (bs := []) (by kernel_rfl) LInv.nil) (fun rec v => st127_2_5 k rec v) k
theorem ev127_2 (k : Nat) (x) : evFm Try.prog (F127_2 k) (inlN Try.prog (F127_2 k) 4) [(5, lo127_2_5 k)] Try.f127 (bodyOf Try.f127) (c127_2 k).ps (c127_2 k).rs x = (c127_2 k).m x := by kernel_rfl
theorem ok127_2 (k : Nat) : ConOk Try.prog (c127_2 k) :=
  fn_mv (okF127_2 k) (cn := c127_2 k) (fn := Try.f127) (code := bodyOf Try.f127) (m := ⟨42, []⟩) (gs := []) (by kernel_rfl) (by kernel_rfl) (by kernel_rfl) (by kernel_rfl) (by kernel_rfl) rfl
    [(5, lo127_2_5 k)] (fun c hP hm hg => (LInv.of (code := (bodyOf Try.f127)) (bs := [(lpAt (bodyOf Try.f127) [0])]) (by kernel_rfl) (LInv.cons (b := (lpAt (bodyOf Try.f127) [0])) (by kernel_rfl) (lp127_2_5 k hP hm hg) LInv.nil))) (ev127_2 k)
def c77_2 (k : Nat) : Con := ⟨77, [(T_Wheel, false), ((.cl 92 (.pr (.ref (.int .i64)) .un)), false)], [T_Wheel], (.own true), fun x => impl_copyWheel_2 k x.1 x.2.1⟩
def F77_2 (k : Nat) : List Con := [c128 k, c127_2 k]
theorem okF77_2 (k : Nat) : ∀ cn ∈ F77_2 k, ConOk Try.prog cn := (conCons (ok128 k) (conCons (ok127_2 k) conNil))
abbrev S77_2_3 : Shape := [(1, .v (.cl 92 (.pr (.ref (.int .i64)) .un))), (2, .boxv T_Wheel), (4, .box true T_Wheel), (5, .own true (.sl T_Spoke)), (10, .v (.sl T_Spoke)), (11, .v (.int .i64)), (12, .v (.int .i64))]
abbrev X77_2_3 : Exit × Shape := (Exit.exit 0, [(2, .boxv T_Wheel), (4, .box true T_Wheel), (5, .own true (.sl T_Spoke))])
abbrev R77_2_3 : List (Exit × Shape) := []
def lo77_2_3 (k : Nat) : LO := loopO [] [] [] S77_2_3 X77_2_3 R77_2_3 (iter (impl_copyWheel_2_s3 k) k)
theorem st77_2_3 (k : Nat) (rec v) : evC Try.prog ⟨30, []⟩ (F77_2 k) (inlN Try.prog (F77_2 k) 4) [] (lpAt (bodyOf Try.f77) [0]) (Kb [] [] [] S77_2_3 X77_2_3 R77_2_3 rec) (mkSt [] [] S77_2_3 v.1 v.2) = (impl_copyWheel_2_s3 k) rec v := by kernel_rfl
theorem lp77_2_3 (k : Nat) {c : Cx} (hP : c.P = Try.prog) (hm : c.m = ⟨30, []⟩) (hg : c.gs = []) : LoopOk c (lo77_2_3 k) (lpAt (bodyOf Try.f77) [0]) :=
  loop_at hP hm hg (okF77_2 k) (LInv.of (code := (lpAt (bodyOf Try.f77) [0])) (bs := []) (by kernel_rfl) LInv.nil) (fun rec v => st77_2_3 k rec v) k
theorem ev77_2 (k : Nat) (x) : evF Try.prog (F77_2 k) (inlN Try.prog (F77_2 k) 4) [(3, lo77_2_3 k)] Try.f77 (bodyOf Try.f77) (c77_2 k).ps (c77_2 k).rs (c77_2 k).rm x = (c77_2 k).m x := by kernel_rfl
theorem ok77_2 (k : Nat) : ConOk Try.prog (c77_2 k) :=
  fn_at (okF77_2 k) (cn := c77_2 k) (fn := Try.f77) (code := bodyOf Try.f77) (m := ⟨30, []⟩) (gs := []) (by kernel_rfl) (by kernel_rfl) (by kernel_rfl) (by kernel_rfl) (by kernel_rfl) (fun _ => by kernel_rfl)
    [(3, lo77_2_3 k)] (fun c hP hm hg => (LInv.of (code := (bodyOf Try.f77)) (bs := [(lpAt (bodyOf Try.f77) [0])]) (by kernel_rfl) (LInv.cons (b := (lpAt (bodyOf Try.f77) [0])) (by kernel_rfl) (lp77_2_3 k hP hm hg) LInv.nil))) (ev77_2 k)
def c32 (k : Nat) : Con := ⟨32, [(T_Wheel, false), ((.int .i64), false), ((.int .i64), false)], [T_Wheel, (.int .i64)], (.own true), fun x => impl_WheelSet k x.1 x.2.1 x.2.2.1⟩
def F32 (k : Nat) : List Con := [c26 k, c76 k, c86 k, c91 k, c87 k, c77_2 k]
theorem okF32 (k : Nat) : ∀ cn ∈ F32 k, ConOk Try.prog cn := (conCons (ok26 k) (conCons (ok76 k) (conCons (ok86 k) (conCons (ok91 k) (conCons (ok87 k) (conCons (ok77_2 k) conNil))))))
theorem ev32 (k : Nat) (x) : evF Try.prog (F32 k) (inlN Try.prog (F32 k) 4) [] Try.f32 (bodyOf Try.f32) (c32 k).ps (c32 k).rs (c32 k).rm x = (c32 k).m x := by kernel_rfl
theorem ok32 (k : Nat) : ConOk Try.prog (c32 k) :=
  fn_at (okF32 k) (cn := c32 k) (fn := Try.f32) (code := bodyOf Try.f32) (m := ⟨59, []⟩) (gs := []) (by kernel_rfl) (by kernel_rfl) (by kernel_rfl) (by kernel_rfl) (by kernel_rfl) (fun _ => by kernel_rfl)
    [] (fun c hP hm hg => (LInv.of (code := (bodyOf Try.f32)) (bs := []) (by kernel_rfl) LInv.nil)) (ev32 k)
def c33 (k : Nat) : Con := ⟨33, [((.sl (.int .u8)), false), ((.int .i64), false), ((.int .i64), false)], [(.int .i64)], (.own true), fun x => laws_pick k x.1 x.2.1 x.2.2.1⟩
def F33 (k : Nat) : List Con := []
theorem okF33 (k : Nat) : ∀ cn ∈ F33 k, ConOk Try.prog cn := conNil
abbrev S33_5 : Shape := [(0, .v (.sl (.int .u8))), (1, .v (.int .i64)), (2, .v (.int .i64)), (7, .v (.int .i64)), (8, .v (.int .i64))]
abbrev X33_5 : Exit × Shape := (Exit.exit 0, [(1, .v (.int .i64)), (2, .v (.int .i64)), (7, .v (.int .i64))])
abbrev R33_5 : List (Exit × Shape) := []
def lo33_5 (k : Nat) : LO := loopO [] [] [] S33_5 X33_5 R33_5 (iter (laws_pick_s5) k)
theorem st33_5 (k : Nat) (rec v) : evC Try.prog ⟨38, []⟩ (F33 k) (inlN Try.prog (F33 k) 4) [] (lpAt (bodyOf Try.f33) [0]) (Kb [] [] [] S33_5 X33_5 R33_5 rec) (mkSt [] [] S33_5 v.1 v.2) = (laws_pick_s5) rec v := by kernel_rfl
theorem lp33_5 (k : Nat) {c : Cx} (hP : c.P = Try.prog) (hm : c.m = ⟨38, []⟩) (hg : c.gs = []) : LoopOk c (lo33_5 k) (lpAt (bodyOf Try.f33) [0]) :=
  loop_at hP hm hg (okF33 k) (LInv.of (code := (lpAt (bodyOf Try.f33) [0])) (bs := []) (by kernel_rfl) LInv.nil) (fun rec v => st33_5 k rec v) k
theorem ev33 (k : Nat) (x) : evF Try.prog (F33 k) (inlN Try.prog (F33 k) 4) [(5, lo33_5 k)] Try.f33 (bodyOf Try.f33) (c33 k).ps (c33 k).rs (c33 k).rm x = (c33 k).m x := by kernel_rfl
theorem ok33 (k : Nat) : ConOk Try.prog (c33 k) :=
  fn_at (okF33 k) (cn := c33 k) (fn := Try.f33) (code := bodyOf Try.f33) (m := ⟨38, []⟩) (gs := []) (by kernel_rfl) (by kernel_rfl) (by kernel_rfl) (by kernel_rfl) (by kernel_rfl) (fun _ => by kernel_rfl)
    [(5, lo33_5 k)] (fun c hP hm hg => (LInv.of (code := (bodyOf Try.f33)) (bs := [(lpAt (bodyOf Try.f33) [0])]) (by kernel_rfl) (LInv.cons (b := (lpAt (bodyOf Try.f33) [0])) (by kernel_rfl) (lp33_5 k hP hm hg) LInv.nil))) (ev33 k)
def c93 (k : Nat) : Con := ⟨93, [(T_Timer, false), ((.ref (.int .i64)), false)], [.bool], (.own true), fun x => impl_WheelDrop_1 x.1 x.2.1⟩
def F93 (k : Nat) : List Con := []
theorem okF93 (k : Nat) : ∀ cn ∈ F93 k, ConOk Try.prog cn := conNil
theorem ev93 (k : Nat) (x) : evF Try.prog (F93 k) (inlN Try.prog (F93 k) 4) [] Try.f93 (bodyOf Try.f93) (c93 k).ps (c93 k).rs (c93 k).rm x = (c93 k).m x := by kernel_rfl
theorem ok93 (k : Nat) : ConOk Try.prog (c93 k) :=
  fn_at (okF93 k) (cn := c93 k) (fn := Try.f93) (code := bodyOf Try.f93) (m := ⟨8, []⟩) (gs := []) (by kernel_rfl) (by kernel_rfl) (by kernel_rfl) (by kernel_rfl) (by kernel_rfl) (fun _ => by kernel_rfl)
    [] (fun c hP hm hg => (LInv.of (code := (bodyOf Try.f93)) (bs := []) (by kernel_rfl) LInv.nil)) (ev93 k)
def c156_4 (k : Nat) : Con := ⟨156, [((.sl T_Timer), false), ((.cl 93 (.pr (.ref (.int .i64)) .un)), false)], [(.int .i64)], (.own true), fun x => slices_IndexFunc_impl_Timer_impl_Timer_4 k x.1 x.2.1⟩
def F156_4 (k : Nat) : List Con := [c93 k]
theorem okF156_4 (k : Nat) : ∀ cn ∈ F156_4 k, ConOk Try.prog cn := (conCons (ok93 k) conNil)
abbrev S156_4_2 : Shape := [(0, .v (.sl T_Timer)), (1, .v (.cl 93 (.pr (.ref (.int .i64)) .un))), (7, .v (.int .i64)), (8, .v (.int .i64))]
abbrev X156_4_2 : Exit × Shape := (Exit.ret, [(4, .v (.int .i64))])
abbrev R156_4_2 : List (Exit × Shape) := [(Exit.exit 0, [])]
def lo156_4_2 (k : Nat) : LO := loopO [] [] [] S156_4_2 X156_4_2 R156_4_2 (iter (slices_IndexFunc_impl_Timer_impl_Timer_4_s2) k)
theorem st156_4_2 (k : Nat) (rec v) : evC Try.prog ⟨19, []⟩ (F156_4 k) (inlN Try.prog (F156_4 k) 4) [] (lpAt (bodyOf Try.f156) [0]) (Kb [] [] [] S156_4_2 X156_4_2 R156_4_2 rec) (mkSt [] [] S156_4_2 v.1 v.2) = (slices_IndexFunc_impl_Timer_impl_Timer_4_s2) rec v := by kernel_rfl
theorem lp156_4_2 (k : Nat) {c : Cx} (hP : c.P = Try.prog) (hm : c.m = ⟨19, []⟩) (hg : c.gs = []) : LoopOk c (lo156_4_2 k) (lpAt (bodyOf Try.f156) [0]) :=
  loop_at hP hm hg (okF156_4 k) (LInv.of (code := (lpAt (bodyOf Try.f156) [0])) (bs := []) (by kernel_rfl) LInv.nil) (fun rec v => st156_4_2 k rec v) k
theorem ev156_4 (k : Nat) (x) : evF Try.prog (F156_4 k) (inlN Try.prog (F156_4 k) 4) [(2, lo156_4_2 k)] Try.f156 (bodyOf Try.f156) (c156_4 k).ps (c156_4 k).rs (c156_4 k).rm x = (c156_4 k).m x := by kernel_rfl
theorem ok156_4 (k : Nat) : ConOk Try.prog (c156_4 k) :=
  fn_at (okF156_4 k) (cn := c156_4 k) (fn := Try.f156) (code := bodyOf Try.f156) (m := ⟨19, []⟩) (gs := []) (by kernel_rfl) (by kernel_rfl) (by kernel_rfl) (by kernel_rfl) (by kernel_rfl) (fun _ => by kernel_rfl)
    [(2, lo156_4_2 k)] (fun c hP hm hg => (LInv.of (code := (bodyOf Try.f156)) (bs := [(lpAt (bodyOf Try.f156) [0])]) (by kernel_rfl) (LInv.cons (b := (lpAt (bodyOf Try.f156) [0])) (by kernel_rfl) (lp156_4_2 k hP hm hg) LInv.nil))) (ev156_4 k)
def c127_3 (k : Nat) : Con := ⟨127, [((.sl T_Timer), true), ((.cl 93 (.pr (.ref (.int .i64)) .un)), false)], [(.sl T_Timer)], .mv, fun x => slices_DeleteFunc_impl_Timer_impl_Timer_3 k x.1 x.2.1⟩
def F127_3 (k : Nat) : List Con := [c156_4 k, c93 k]
theorem okF127_3 (k : Nat) : ∀ cn ∈ F127_3 k, ConOk Try.prog cn := (conCons (ok156_4 k) (conCons (ok93 k) conNil))
abbrev S127_3_5 : Shape := [(0, .own true (.sl T_Timer)), (1, .v (.cl 93 (.pr (.ref (.int .i64)) .un))), (5, .v (.int .i64)), (6, .v (.int .i64))]
abbrev X127_3_5 : Exit × Shape := (Exit.exit 0, [(0, .own true (.sl T_Timer)), (5, .v (.int .i64))])
abbrev R127_3_5 : List (Exit × Shape) := []
def lo127_3_5 (k : Nat) : LO := loopO [] [] [] S127_3_5 X127_3_5 R127_3_5 (iter (slices_DeleteFunc_impl_Timer_impl_Timer_3_s5) k)
theorem st127_3_5 (k : Nat) (rec v) : evC Try.prog ⟨42, []⟩ (F127_3 k) (inlN Try.prog (F127_3 k) 4) [] (lpAt (bodyOf Try.f127) [0]) (Kb [] [] [] S127_3_5 X127_3_5 R127_3_5 rec) (mkSt [] [] S127_3_5 v.1 v.2) = (slices_DeleteFunc_impl_Timer_impl_Timer_3_s5) rec v := by kernel_rfl
theorem lp127_3_5 (k : Nat) {c : Cx} (hP : c.P = Try.prog) (hm : c.m = ⟨42, []⟩) (hg : c.gs = []) : LoopOk c (lo127_3_5 k) (lpAt (bodyOf Try.f127) [0]) :=
  loop_at hP hm hg (okF127_3 k) (LInv.of (code := (lpAt (bodyOf Try.f127) [0])) (bs := []) (by kernel_rfl) LInv.nil) (fun rec v => st127_3_5 k rec v) k
theorem ev127_3 (k : Nat) (x) : evFm Try.prog (F127_3 k) (inlN Try.prog (F127_3 k) 4) [(5, lo127_3_5 k)] Try.f127 (bodyOf Try.f127) (c127_3 k).ps (c127_3 k).rs x = (c127_3 k).m x := by kernel_rfl
theorem ok127_3 (k : Nat) : ConOk Try.prog (c127_3 k) :=
  fn_mv (okF127_3 k) (cn := c127_3 k) (fn := Try.f127) (code := bodyOf Try.f127) (m := ⟨42, []⟩) (gs := []) (by kernel_rfl) (by kernel_rfl) (by kernel_rfl) (by kernel_rfl) (by kernel_rfl) rfl
    [(5, lo127_3_5 k)] (fun c hP hm hg => (LInv.of (code := (bodyOf Try.f127)) (bs := [(lpAt (bodyOf Try.f127) [0])]) (by kernel_rfl) (LInv.cons (b := (lpAt (bodyOf Try.f127) [0])) (by kernel_rfl) (lp127_3_5 k hP hm hg) LInv.nil))) (ev127_3 k)
def c77_3 (k : Nat) : Con := ⟨77, [(T_Wheel, false), ((.cl 93 (.pr (.ref (.int .i64)) .un)), false)], [T_Wheel], (.own true), fun x => impl_copyWheel_3 k x.1 x.2.1⟩
def F77_3 (k : Nat) : List Con := [c128 k, c127_3 k]
theorem okF77_3 (k : Nat) : ∀ cn ∈ F77_3 k, ConOk Try.prog cn := (conCons (ok128 k) (conCons (ok127_3 k) conNil))
abbrev S77_3_3 : Shape := [(1, .v (.cl 93 (.pr (.ref (.int .i64)) .un))), (2, .boxv T_Wheel), (4, .box true T_Wheel), (5, .own true (.sl T_Spoke)), (10, .v (.sl T_Spoke)), (11, .v (.int .i64)), (12, .v (.int .i64))]
abbrev X77_3_3 : Exit × Shape := (Exit.exit 0, [(2, .boxv T_Wheel), (4, .box true T_Wheel), (5, .own true (.sl T_Spoke))])
abbrev R77_3_3 : List (Exit × Shape) := []
def lo77_3_3 (k : Nat) : LO := loopO [] [] [] S77_3_3 X77_3_3 R77_3_3 (iter (impl_copyWheel_3_s3 k) k)
theorem st77_3_3 (k : Nat) (rec v) : evC Try.prog ⟨30, []⟩ (F77_3 k) (inlN Try.prog (F77_3 k) 4) [] (lpAt (bodyOf Try.f77) [0]) (Kb [] [] [] S77_3_3 X77_3_3 R77_3_3 rec) (mkSt [] [] S77_3_3 v.1 v.2) = (impl_copyWheel_3_s3 k) rec v := by kernel_rfl
theorem lp77_3_3 (k : Nat) {c : Cx} (hP : c.P = Try.prog) (hm : c.m = ⟨30, []⟩) (hg : c.gs = []) : LoopOk c (lo77_3_3 k) (lpAt (bodyOf Try.f77) [0]) :=
  loop_at hP hm hg (okF77_3 k) (LInv.of (code := (lpAt (bodyOf Try.f77) [0])) (bs := []) (by kernel_rfl) LInv.nil) (fun rec v => st77_3_3 k rec v) k
theorem ev77_3 (k : Nat) (x) : evF Try.prog (F77_3 k) (inlN Try.prog (F77_3 k) 4) [(3, lo77_3_3 k)] Try.f77 (bodyOf Try.f77) (c77_3 k).ps (c77_3 k).rs (c77_3 k).rm x = (c77_3 k).m x := by kernel_rfl
theorem ok77_3 (k : Nat) : ConOk Try.prog (c77_3 k) :=
  fn_at (okF77_3 k) (cn := c77_3 k) (fn := Try.f77) (code := bodyOf Try.f77) (m := ⟨30, []⟩) (gs := []) (by kernel_rfl) (by kernel_rfl) (by kernel_rfl) (by kernel_rfl) (by kernel_rfl) (fun _ => by kernel_rfl)
    [(3, lo77_3_3 k)] (fun c hP hm hg => (LInv.of (code := (bodyOf Try.f77)) (bs := [(lpAt (bodyOf Try.f77) [0])]) (by kernel_rfl) (LInv.cons (b := (lpAt (bodyOf Try.f77) [0])) (by kernel_rfl) (lp77_3_3 k hP hm hg) LInv.nil))) (ev77_3 k)
def c34 (k : Nat) : Con := ⟨34, [(T_Wheel, false), ((.int .i64), false)], [T_Wheel, (.int .i64)], (.own true), fun x => impl_WheelDrop k x.1 x.2.1⟩
def F34 (k : Nat) : List Con := [c26 k, c91 k, c77_3 k]
theorem okF34 (k : Nat) : ∀ cn ∈ F34 k, ConOk Try.prog cn := (conCons (ok26 k) (conCons (ok91 k) (conCons (ok77_3 k) conNil)))
theorem ev34 (k : Nat) (x) : evF Try.prog (F34 k) (inlN Try.prog (F34 k) 4) [] Try.f34 (bodyOf Try.f34) (c34 k).ps (c34 k).rs (c34 k).rm x = (c34 k).m x := by kernel_rfl
theorem ok34 (k : Nat) : ConOk Try.prog (c34 k) :=
  fn_at (okF34 k) (cn := c34 k) (fn := Try.f34) (code := bodyOf Try.f34) (m := ⟨20, []⟩) (gs := []) (by kernel_rfl) (by kernel_rfl) (by kernel_rfl) (by kernel_rfl) (by kernel_rfl) (fun _ => by kernel_rfl)
    [] (fun c hP hm hg => (LInv.of (code := (bodyOf Try.f34)) (bs := []) (by kernel_rfl) LInv.nil)) (ev34 k)
def c6 (k : Nat) : Con := ⟨6, [((.sl (.int .u8)), false)], [.bool], (.own true), fun x => laws_FnWheelLast k x.1⟩
def F6 (k : Nat) : List Con := [c15 k, c30 k, c31 k, c32 k, c33 k, c18 k, c34 k]
theorem okF6 (k : Nat) : ∀ cn ∈ F6 k, ConOk Try.prog cn := (conCons (ok15 k) (conCons (ok30 k) (conCons (ok31 k) (conCons (ok32 k) (conCons (ok33 k) (conCons (ok18 k) (conCons (ok34 k) conNil)))))))
abbrev S6_15 : Shape := [(3, .box true T_Wheel), (4, .v (.int .i64)), (10, .v (.int .i64)), (11, .box true T_Wheel), (14, .own true (.sl T_Timer)), (15, .v (.int .i64)), (16, .v (.int .i64))]
abbrev X6_15 : Exit × Shape := (Exit.ret, [(2, .v .bool)])
abbrev R6_15 : List (Exit × Shape) := [(Exit.exit 0, [(3, .box true T_Wheel), (4, .v (.int .i64)), (10, .v (.int .i64)), (11, .box true T_Wheel), (15, .v (.int .i64))])]
def lo6_15 (k : Nat) : LO := loopO [] [] [] S6_15 X6_15 R6_15 (iter (laws_FnWheelLast_s15) k)
theorem st6_15 (k : Nat) (rec v) : evC Try.prog ⟨138, []⟩ (F6 k) (inlN Try.prog (F6 k) 4) [] (lpAt (bodyOf Try.f6) [0]) (Kb [] [] [] S6_15 X6_15 R6_15 rec) (mkSt [] [] S6_15 v.1 v.2) = (laws_FnWheelLast_s15) rec v := by kernel_rfl
theorem lp6_15 (k : Nat) {c : Cx} (hP : c.P = Try.prog) (hm : c.m = ⟨138, []⟩) (hg : c.gs = []) : LoopOk c (lo6_15 k) (lpAt (bodyOf Try.f6) [0]) :=
  loop_at hP hm hg (okF6 k) (LInv.of (code := (lpAt (bodyOf Try.f6) [0])) (bs := []) (by kernel_rfl) LInv.nil) (fun rec v => st6_15 k rec v) k
abbrev S6_26 : Shape := [(4, .v (.int .i64)), (14, .own true (.sl T_Timer)), (19, .v (.int .i64))]
abbrev X6_26 : Exit × Shape := (Exit.ret, [(2, .v .bool)])
abbrev R6_26 : List (Exit × Shape) := [(Exit.exit 2, [])]
def lo6_26 (k : Nat) : LO := loopO [] [] [] S6_26 X6_26 R6_26 (iter (laws_FnWheelLast_s26) k)
theorem st6_26 (k : Nat) (rec v) : evC Try.prog ⟨138, []⟩ (F6 k) (inlN Try.prog (F6 k) 4) [] (lpAt (bodyOf Try.f6) [1]) (Kb [] [] [] S6_26 X6_26 R6_26 rec) (mkSt [] [] S6_26 v.1 v.2) = (laws_FnWheelLast_s26) rec v := by kernel_rfl
theorem lp6_26 (k : Nat) {c : Cx} (hP : c.P = Try.prog) (hm : c.m = ⟨138, []⟩) (hg : c.gs = []) : LoopOk c (lo6_26 k) (lpAt (bodyOf Try.f6) [1]) :=
  loop_at hP hm hg (okF6 k) (LInv.of (code := (lpAt (bodyOf Try.f6) [1])) (bs := []) (by kernel_rfl) LInv.nil) (fun rec v => st6_26 k rec v) k
theorem ev6 (k : Nat) (x) : evF Try.prog (F6 k) (inlN Try.prog (F6 k) 4) [(15, lo6_15 k), (26, lo6_26 k)] Try.f6 (bodyOf Try.f6) (c6 k).ps (c6 k).rs (c6 k).rm x = (c6 k).m x := by kernel_rfl
theorem ok6 (k : Nat) : ConOk Try.prog (c6 k) :=
  fn_at (okF6 k) (cn := c6 k) (fn := Try.f6) (code := bodyOf Try.f6) (m := ⟨138, []⟩) (gs := []) (by kernel_rfl) (by kernel_rfl) (by kernel_rfl) (by kernel_rfl) (by kernel_rfl) (fun _ => by kernel_rfl)
    [(15, lo6_15 k), (26, lo6_26 k)] (fun c hP hm hg => (LInv.of (code := (bodyOf Try.f6)) (bs := [(lpAt (bodyOf Try.f6) [0]), (lpAt (bodyOf Try.f6) [1])]) (by kernel_rfl) (LInv.cons (b := (lpAt (bodyOf Try.f6) [0])) (by kernel_rfl) (lp6_15 k hP hm hg) (LInv.cons (b := (lpAt (bodyOf Try.f6) [1])) (by kernel_rfl) (lp6_26 k hP hm hg) LInv.nil)))) (ev6 k)
def c20 (k : Nat) : Con := ⟨20, [(T_Wheel, false)], [(.sl T_Timer)], (.own true), fun x => laws_timers k x.1⟩
def F20 (k : Nat) : List Con := []
theorem okF20 (k : Nat) : ∀ cn ∈ F20 k, ConOk Try.prog cn := conNil
abbrev S20_3 : Shape := [(1, .boxv T_Wheel), (3, .own true (.sl T_Timer)), (4, .v (.int .i64))]
abbrev X20_3 : Exit × Shape := (Exit.exit 0, [(3, .own true (.sl T_Timer))])
abbrev R20_3 : List (Exit × Shape) := []
def lo20_3 (k : Nat) : LO := loopO [] [] [] S20_3 X20_3 R20_3 (iter (laws_timers_s3) k)
theorem st20_3 (k : Nat) (rec v) : evC Try.prog ⟨22, []⟩ (F20 k) (inlN Try.prog (F20 k) 4) [] (lpAt (bodyOf Try.f20) [0]) (Kb [] [] [] S20_3 X20_3 R20_3 rec) (mkSt [] [] S20_3 v.1 v.2) = (laws_timers_s3) rec v := by kernel_rfl
theorem lp20_3 (k : Nat) {c : Cx} (hP : c.P = Try.prog) (hm : c.m = ⟨22, []⟩) (hg : c.gs = []) : LoopOk c (lo20_3 k) (lpAt (bodyOf Try.f20) [0]) :=
  loop_at hP hm hg (okF20 k) (LInv.of (code := (lpAt (bodyOf Try.f20) [0])) (bs := []) (by kernel_rfl) LInv.nil) (fun rec v => st20_3 k rec v) k
theorem ev20 (k : Nat) (x) : evF Try.prog (F20 k) (inlN Try.prog (F20 k) 4) [(3, lo20_3 k)] Try.f20 (bodyOf Try.f20) (c20 k).ps (c20 k).rs (c20 k).rm x = (c20 k).m x := by kernel_rfl
theorem ok20 (k : Nat) : ConOk Try.prog (c20 k) :=
  fn_at (okF20 k) (cn := c20 k) (fn := Try.f20) (code := bodyOf Try.f20) (m := ⟨22, []⟩) (gs := []) (by kernel_rfl) (by kernel_rfl) (by kernel_rfl) (by kernel_rfl) (by kernel_rfl) (fun _ => by kernel_rfl)
    [(3, lo20_3 k)] (fun c hP hm hg => (LInv.of (code := (bodyOf Try.f20)) (bs := [(lpAt (bodyOf Try.f20) [0])]) (by kernel_rfl) (LInv.cons (b := (lpAt (bodyOf Try.f20) [0])) (by kernel_rfl) (lp20_3 k hP hm hg) LInv.nil))) (ev20 k)
def c3 (k : Nat) : Con := ⟨3, [((.sl (.int .u8)), false)], [.bool], (.own true), fun x => laws_FnWheelOnce k x.1⟩
def F3 (k : Nat) : List Con := [c15 k, c16 k, c17 k, c18 k, c19 k, c20 k]
theorem okF3 (k : Nat) : ∀ cn ∈ F3 k, ConOk Try.prog cn := (conCons (ok15 k) (conCons (ok16 k) (conCons (ok17 k) (conCons (ok18 k) (conCons (ok19 k) (conCons (ok20 k) conNil))))))
abbrev S3_23 : Shape := [(3, .v (.ref T_Wheel)), (4, .v (.int .i64)), (10, .v (.sl T_Timer)), (11, .v (.sl T_Timer)), (12, .v (.sl T_Timer)), (13, .v (.int .i64)), (14, .v (.int .i64)), (15, .v (.sl T_Timer)), (16, .v (.int .i64))]
abbrev X3_23 : Exit × Shape := (Exit.exit 2, [(14, .v (.int .i64))])
abbrev R3_23 : List (Exit × Shape) := []
def lo3_23in (k : Nat) : LO := loopO [(2, 0), (3, 1), (4, 2), (10, 3), (11, 4), (12, 5), (13, 6)] [] [] S3_23 X3_23 R3_23 (iter (laws_FnWheelOnce_s23) k)
theorem st3_23 (k : Nat) (rec v) : evC Try.prog ⟨134, [(2, 0), (3, 1), (4, 2), (10, 3), (11, 4), (12, 5), (13, 6)]⟩ (F3 k) (inlN Try.prog (F3 k) 4) [] (lpAt (bodyOf Try.f3) [0, 0]) (Kb [(2, 0), (3, 1), (4, 2), (10, 3), (11, 4), (12, 5), (13, 6)] [] [] S3_23 X3_23 R3_23 rec) (mkSt [] [] S3_23 v.1 v.2) = (laws_FnWheelOnce_s23) rec v := by kernel_rfl
theorem lp3_23in (k : Nat) {c : Cx} (hP : c.P = Try.prog) (hm : c.m = ⟨134, [(2, 0), (3, 1), (4, 2), (10, 3), (11, 4), (12, 5), (13, 6)]⟩) (hg : c.gs = []) : LoopOk c (lo3_23in k) (lpAt (bodyOf Try.f3) [0, 0]) :=
  loop_at hP hm hg (okF3 k) (LInv.of (code := (lpAt (bodyOf Try.f3) [0, 0])) (bs := []) (by kernel_rfl) LInv.nil) (fun rec v => st3_23 k rec v) k
def lo3_23 (k : Nat) : LO := loopRd [2, 3, 4, 10, 11, 12, 13] S3_23 (lo3_23in k)
theorem lp3_23 (k : Nat) {c : Cx} (hP : c.P = Try.prog) (hm : c.m = ⟨134, []⟩) (hg : c.gs = []) : LoopOk c (lo3_23 k) (lpAt (bodyOf Try.f3) [0, 0]) :=
  loop_rd hP hm (keep := [2, 3, 4, 10, 11, 12, 13]) (by kernel_rfl) (fun c2 h1 h2 h3 => lp3_23in k h1 h2 h3)
abbrev S3_16 : Shape := [(3, .box true T_Wheel), (4, .v (.int .i64)), (10, .own true (.sl T_Timer)), (11, .own true (.sl T_Timer)), (12, .own true (.sl T_Timer)), (13, .v (.int .i64))]
abbrev X3_16 : Exit × Shape := (Exit.ret, [(2, .v .bool)])
abbrev R3_16 : List (Exit × Shape) := [(Exit.exit 0, [(10, .own true (.sl T_Timer))])]
def lo3_16 (k : Nat) : LO := loopO [] [] [] S3_16 X3_16 R3_16 (iter (laws_FnWheelOnce_s16 k) k)
theorem st3_16 (k : Nat) (rec v) : evC Try.prog ⟨134, []⟩ (F3 k) (inlN Try.prog (F3 k) 4) [(23, lo3_23 k)] (lpAt (bodyOf Try.f3) [0]) (Kb [] [] [] S3_16 X3_16 R3_16 rec) (mkSt [] [] S3_16 v.1 v.2) = (laws_FnWheelOnce_s16 k) rec v := by kernel_rfl
theorem lp3_16 (k : Nat) {c : Cx} (hP : c.P = Try.prog) (hm : c.m = ⟨134, []⟩) (hg : c.gs = []) : LoopOk c (lo3_16 k) (lpAt (bodyOf Try.f3) [0]) :=
  loop_at hP hm hg (okF3 k) (LInv.of (code := (lpAt (bodyOf Try.f3) [0])) (bs := [(lpAt (bodyOf Try.f3) [0, 0])]) (by kernel_rfl) (LInv.cons (b := (lpAt (bodyOf Try.f3) [0, 0])) (by kernel_rfl) (lp3_23 k hP hm hg) LInv.nil)) (fun rec v => st3_16 k rec v) k
abbrev S3_30 : Shape := [(10, .own true (.sl T_Timer)), (17, .v (.int .i64))]
abbrev X3_30 : Exit × Shape := (Exit.ret, [(2, .v .bool)])
abbrev R3_30 : List (Exit × Shape) := [(Exit.exit 4, [])]
def lo3_30 (k : Nat) : LO := loopO [] [] [] S3_30 X3_30 R3_30 (iter (laws_FnWheelOnce_s30) k)
theorem st3_30 (k : Nat) (rec v) : evC Try.prog ⟨134, []⟩ (F3 k) (inlN Try.prog (F3 k) 4) [] (lpAt (bodyOf Try.f3) [1]) (Kb [] [] [] S3_30 X3_30 R3_30 rec) (mkSt [] [] S3_30 v.1 v.2) = (laws_FnWheelOnce_s30) rec v := by kernel_rfl
theorem lp3_30 (k : Nat) {c : Cx} (hP : c.P = Try.prog) (hm : c.m = ⟨134, []⟩) (hg : c.gs = []) : LoopOk c (lo3_30 k) (lpAt (bodyOf Try.f3) [1]) :=
  loop_at hP hm hg (okF3 k) (LInv.of (code := (lpAt (bodyOf Try.f3) [1])) (bs := []) (by kernel_rfl) LInv.nil) (fun rec v => st3_30 k rec v) k
theorem ev3 (k : Nat) (x) : evF Try.prog (F3 k) (inlN Try.prog (F3 k) 4) [(16, lo3_16 k), (30, lo3_30 k)] Try.f3 (bodyOf Try.f3) (c3 k).ps (c3 k).rs (c3 k).rm x = (c3 k).m x := by kernel_rfl
theorem ok3 (k : Nat) : ConOk Try.prog (c3 k) :=
  fn_at (okF3 k) (cn := c3 k) (fn := Try.f3) (code := bodyOf Try.f3) (m := ⟨134, []⟩) (gs := []) (by kernel_rfl) (by kernel_rfl) (by kernel_rfl) (by kernel_rfl) (by kernel_rfl) (fun _ => by kernel_rfl)
    [(16, lo3_16 k), (30, lo3_30 k)] (fun c hP hm hg => (LInv.of (code := (bodyOf Try.f3)) (bs := [(lpAt (bodyOf Try.f3) [0]), (lpAt (bodyOf Try.f3) [1])]) (by kernel_rfl) (LInv.cons (b := (lpAt (bodyOf Try.f3) [0])) (by kernel_rfl) (lp3_16 k hP hm hg) (LInv.cons (b := (lpAt (bodyOf Try.f3) [1])) (by kernel_rfl) (lp3_30 k hP hm hg) LInv.nil)))) (ev3 k)
end Go.Tw
