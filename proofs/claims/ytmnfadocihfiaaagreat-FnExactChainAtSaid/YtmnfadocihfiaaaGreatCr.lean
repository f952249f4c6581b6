/- Each function is proved to answer as its mirror does. -/
import Derived.Test.YtmnfadocihfiaaaGreatMr
import Derived.Test.YtmnfadocihfiaaaGreatPrc
import Derived.Test.YtmnfadocihfiaaaGreatRows
set_option linter.all false
namespace Go.Tw
open Go Go.RowKit Go.Proofs
def c158 (k : Nat) : Con := ⟨158, [((.sl (.int .u8)), false), ((.int .i64), false)], [(.int .i64)], (.own true), fun x => laws_szByteS x.1 x.2.1⟩
def F158 (k : Nat) : List Con := []
theorem okF158 (k : Nat) : ∀ cn ∈ F158 k, ConOk Tryz.prog cn := conNil
theorem ev158 (k : Nat) (x) : evF Tryz.prog (F158 k) (inlN Tryz.prog (F158 k) 4) [] Tryz.f158 (bodyOf Tryz.f158) (c158 k).ps (c158 k).rs (c158 k).rm x = (c158 k).m x := by kernel_rfl
theorem ok158 (k : Nat) : ConOk Tryz.prog (c158 k) :=
  fn_at (okF158 k) (cn := c158 k) (fn := Tryz.f158) (code := bodyOf Tryz.f158) (m := ⟨12, []⟩) (gs := []) (by kernel_rfl) (by kernel_rfl) (by kernel_rfl) (by kernel_rfl) (by kernel_rfl) (fun _ => by kernel_rfl)
    [] (fun c hP hm hg => (LInv.of (code := (bodyOf Tryz.f158)) (bs := []) (by kernel_rfl) LInv.nil)) (ev158 k)
def c66 (k : Nat) : Con := ⟨66, [(T_Event, false), ((.int .i64), false)], [(.int .i64)], (.own true), fun x => laws_szEvent x.1 x.2.1⟩
def F66 (k : Nat) : List Con := [c158 k]
theorem okF66 (k : Nat) : ∀ cn ∈ F66 k, ConOk Tryz.prog cn := (conCons (ok158 k) conNil)
theorem ev66 (k : Nat) (x) : evF Tryz.prog (F66 k) (inlN Tryz.prog (F66 k) 4) [] Tryz.f66 (bodyOf Tryz.f66) (c66 k).ps (c66 k).rs (c66 k).rm x = (c66 k).m x := by kernel_rfl
theorem ok66 (k : Nat) : ConOk Tryz.prog (c66 k) :=
  fn_at (okF66 k) (cn := c66 k) (fn := Tryz.f66) (code := bodyOf Tryz.f66) (m := ⟨12, []⟩) (gs := []) (by kernel_rfl) (by kernel_rfl) (by kernel_rfl) (by kernel_rfl) (by kernel_rfl) (fun _ => by kernel_rfl)
    [] (fun c hP hm hg => (LInv.of (code := (bodyOf Tryz.f66)) (bs := []) (by kernel_rfl) LInv.nil)) (ev66 k)
def c11 (k : Nat) : Con := ⟨11, [((.sl T_Event), false), ((.int .i64), false)], [(.int .i64)], (.own true), fun x => laws_szEventS k x.1 x.2.1⟩
def F11 (k : Nat) : List Con := [c66 k]
theorem okF11 (k : Nat) : ∀ cn ∈ F11 k, ConOk Tryz.prog cn := (conCons (ok66 k) conNil)
abbrev S11_5 : Shape := [(0, .v (.sl T_Event)), (1, .v (.int .i64)), (5, .v (.int .i64))]
abbrev X11_5 : Exit × Shape := (Exit.ret, [(4, .v (.int .i64))])
abbrev R11_5 : List (Exit × Shape) := [(Exit.exit 0, [(1, .v (.int .i64))])]
def lo11_5 (k : Nat) : LO := loopO [] [] [] S11_5 X11_5 R11_5 (iter (laws_szEventS_s5) k)
theorem st11_5 (k : Nat) (rec v) : evC Tryz.prog ⟨27, []⟩ (F11 k) (inlN Tryz.prog (F11 k) 4) [] (lpAt (bodyOf Tryz.f11) [0]) (Kb [] [] [] S11_5 X11_5 R11_5 rec) (mkSt [] [] S11_5 v.1 v.2) = (laws_szEventS_s5) rec v := by kernel_rfl
theorem lp11_5 (k : Nat) {c : Cx} (hP : c.P = Tryz.prog) (hm : c.m = ⟨27, []⟩) (hg : c.gs = []) : LoopOk c (lo11_5 k) (lpAt (bodyOf Tryz.f11) [0]) :=
  loop_at hP hm hg (okF11 k) (LInv.of (code := (lpAt (bodyOf Tryz.f11) [0])) (bs := []) (by kernel_rfl) LInv.nil) (fun rec v => st11_5 k rec v) k
theorem ev11 (k : Nat) (x) : evF Tryz.prog (F11 k) (inlN Tryz.prog (F11 k) 4) [(5, lo11_5 k)] Tryz.f11 (bodyOf Tryz.f11) (c11 k).ps (c11 k).rs (c11 k).rm x = (c11 k).m x := by kernel_rfl
theorem ok11 (k : Nat) : ConOk Tryz.prog (c11 k) :=
  fn_at (okF11 k) (cn := c11 k) (fn := Tryz.f11) (code := bodyOf Tryz.f11) (m := ⟨27, []⟩) (gs := []) (by kernel_rfl) (by kernel_rfl) (by kernel_rfl) (by kernel_rfl) (by kernel_rfl) (fun _ => by kernel_rfl)
    [(5, lo11_5 k)] (fun c hP hm hg => (LInv.of (code := (bodyOf Tryz.f11)) (bs := [(lpAt (bodyOf Tryz.f11) [0])]) (by kernel_rfl) (LInv.cons (b := (lpAt (bodyOf Tryz.f11) [0])) (by kernel_rfl) (lp11_5 k hP hm hg) LInv.nil))) (ev11 k)
def c39 (k : Nat) : Con := ⟨39, [((.sl (.int .u8)), false)], [(.sl (.int .u8))], (.own true), fun x => laws_toByteS k x.1⟩
def F39 (k : Nat) : List Con := []
theorem okF39 (k : Nat) : ∀ cn ∈ F39 k, ConOk Tryz.prog cn := conNil
abbrev S39_3 : Shape := [(0, .v (.sl (.int .u8))), (3, .own true (.sl (.int .u8))), (4, .v (.int .i64))]
abbrev X39_3 : Exit × Shape := (Exit.exit 0, [(3, .own true (.sl (.int .u8)))])
abbrev R39_3 : List (Exit × Shape) := []
def lo39_3 (k : Nat) : LO := loopO [] [] [] S39_3 X39_3 R39_3 (iter (laws_toByteS_s3) k)
theorem st39_3 (k : Nat) (rec v) : evC Tryz.prog ⟨22, []⟩ (F39 k) (inlN Tryz.prog (F39 k) 4) [] (lpAt (bodyOf Tryz.f39) [0]) (Kb [] [] [] S39_3 X39_3 R39_3 rec) (mkSt [] [] S39_3 v.1 v.2) = (laws_toByteS_s3) rec v := by kernel_rfl
theorem lp39_3 (k : Nat) {c : Cx} (hP : c.P = Tryz.prog) (hm : c.m = ⟨22, []⟩) (hg : c.gs = []) : LoopOk c (lo39_3 k) (lpAt (bodyOf Tryz.f39) [0]) :=
  loop_at hP hm hg (okF39 k) (LInv.of (code := (lpAt (bodyOf Tryz.f39) [0])) (bs := []) (by kernel_rfl) LInv.nil) (fun rec v => st39_3 k rec v) k
theorem ev39 (k : Nat) (x) : evF Tryz.prog (F39 k) (inlN Tryz.prog (F39 k) 4) [(3, lo39_3 k)] Tryz.f39 (bodyOf Tryz.f39) (c39 k).ps (c39 k).rs (c39 k).rm x = (c39 k).m x := by kernel_rfl
theorem ok39 (k : Nat) : ConOk Tryz.prog (c39 k) :=
  fn_at (okF39 k) (cn := c39 k) (fn := Tryz.f39) (code := bodyOf Tryz.f39) (m := ⟨22, []⟩) (gs := []) (by kernel_rfl) (by kernel_rfl) (by kernel_rfl) (by kernel_rfl) (by kernel_rfl) (fun _ => by kernel_rfl)
    [(3, lo39_3 k)] (fun c hP hm hg => (LInv.of (code := (bodyOf Tryz.f39)) (bs := [(lpAt (bodyOf Tryz.f39) [0])]) (by kernel_rfl) (LInv.cons (b := (lpAt (bodyOf Tryz.f39) [0])) (by kernel_rfl) (lp39_3 k hP hm hg) LInv.nil))) (ev39 k)
def c168 (k : Nat) : Con := ⟨168, [(T_Vec, false)], [T_Vec], (.own true), fun x => laws_toVec x.1⟩
def F168 (k : Nat) : List Con := []
theorem okF168 (k : Nat) : ∀ cn ∈ F168 k, ConOk Tryz.prog cn := conNil
theorem ev168 (k : Nat) (x) : evF Tryz.prog (F168 k) (inlN Tryz.prog (F168 k) 4) [] Tryz.f168 (bodyOf Tryz.f168) (c168 k).ps (c168 k).rs (c168 k).rm x = (c168 k).m x := by kernel_rfl
theorem ok168 (k : Nat) : ConOk Tryz.prog (c168 k) :=
  fn_at (okF168 k) (cn := c168 k) (fn := Tryz.f168) (code := bodyOf Tryz.f168) (m := ⟨14, []⟩) (gs := []) (by kernel_rfl) (by kernel_rfl) (by kernel_rfl) (by kernel_rfl) (by kernel_rfl) (fun _ => by kernel_rfl)
    [] (fun c hP hm hg => (LInv.of (code := (bodyOf Tryz.f168)) (bs := []) (by kernel_rfl) LInv.nil)) (ev168 k)
def c69 (k : Nat) : Con := ⟨69, [(T_Event, false)], [T_Event], (.own true), fun x => laws_toEvent k x.1⟩
def F69 (k : Nat) : List Con := [c39 k, c168 k]
theorem okF69 (k : Nat) : ∀ cn ∈ F69 k, ConOk Tryz.prog cn := (conCons (ok39 k) (conCons (ok168 k) conNil))
theorem ev69 (k : Nat) (x) : evF Tryz.prog (F69 k) (inlN Tryz.prog (F69 k) 4) [] Tryz.f69 (bodyOf Tryz.f69) (c69 k).ps (c69 k).rs (c69 k).rm x = (c69 k).m x := by kernel_rfl
theorem ok69 (k : Nat) : ConOk Tryz.prog (c69 k) :=
  fn_at (okF69 k) (cn := c69 k) (fn := Tryz.f69) (code := bodyOf Tryz.f69) (m := ⟨19, []⟩) (gs := []) (by kernel_rfl) (by kernel_rfl) (by kernel_rfl) (by kernel_rfl) (by kernel_rfl) (fun _ => by kernel_rfl)
    [] (fun c hP hm hg => (LInv.of (code := (bodyOf Tryz.f69)) (bs := []) (by kernel_rfl) LInv.nil)) (ev69 k)
def c13 (k : Nat) : Con := ⟨13, [((.sl T_Event), false)], [(.sl T_Event)], (.own true), fun x => laws_toEventS k x.1⟩
def F13 (k : Nat) : List Con := [c69 k]
theorem okF13 (k : Nat) : ∀ cn ∈ F13 k, ConOk Tryz.prog cn := (conCons (ok69 k) conNil)
abbrev S13_3 : Shape := [(0, .v (.sl T_Event)), (3, .own true (.sl T_Event)), (4, .v (.int .i64))]
abbrev X13_3 : Exit × Shape := (Exit.exit 0, [(3, .own true (.sl T_Event))])
abbrev R13_3 : List (Exit × Shape) := []
def lo13_3 (k : Nat) : LO := loopO [] [] [] S13_3 X13_3 R13_3 (iter (laws_toEventS_s3 k) k)
theorem st13_3 (k : Nat) (rec v) : evC Tryz.prog ⟨23, []⟩ (F13 k) (inlN Tryz.prog (F13 k) 4) [] (lpAt (bodyOf Tryz.f13) [0]) (Kb [] [] [] S13_3 X13_3 R13_3 rec) (mkSt [] [] S13_3 v.1 v.2) = (laws_toEventS_s3 k) rec v := by kernel_rfl
theorem lp13_3 (k : Nat) {c : Cx} (hP : c.P = Tryz.prog) (hm : c.m = ⟨23, []⟩) (hg : c.gs = []) : LoopOk c (lo13_3 k) (lpAt (bodyOf Tryz.f13) [0]) :=
  loop_at hP hm hg (okF13 k) (LInv.of (code := (lpAt (bodyOf Tryz.f13) [0])) (bs := []) (by kernel_rfl) LInv.nil) (fun rec v => st13_3 k rec v) k
theorem ev13 (k : Nat) (x) : evF Tryz.prog (F13 k) (inlN Tryz.prog (F13 k) 4) [(3, lo13_3 k)] Tryz.f13 (bodyOf Tryz.f13) (c13 k).ps (c13 k).rs (c13 k).rm x = (c13 k).m x := by kernel_rfl
theorem ok13 (k : Nat) : ConOk Tryz.prog (c13 k) :=
  fn_at (okF13 k) (cn := c13 k) (fn := Tryz.f13) (code := bodyOf Tryz.f13) (m := ⟨23, []⟩) (gs := []) (by kernel_rfl) (by kernel_rfl) (by kernel_rfl) (by kernel_rfl) (by kernel_rfl) (fun _ => by kernel_rfl)
    [(3, lo13_3 k)] (fun c hP hm hg => (LInv.of (code := (bodyOf Tryz.f13)) (bs := [(lpAt (bodyOf Tryz.f13) [0])]) (by kernel_rfl) (LInv.cons (b := (lpAt (bodyOf Tryz.f13) [0])) (by kernel_rfl) (lp13_3 k hP hm hg) LInv.nil))) (ev13 k)
def c67 (k : Nat) : Con := ⟨67, [((.sl T_Event), false)], [.bool], (.own true), fun x => spec_EventsOk k x.1⟩
def F67 (k : Nat) : List Con := []
theorem okF67 (k : Nat) : ∀ cn ∈ F67 k, ConOk Tryz.prog cn := conNil
abbrev S67_5 : Shape := [(0, .v (.sl T_Event)), (3, .v (.int .i64)), (4, .v (.int .i64))]
abbrev X67_5 : Exit × Shape := (Exit.ret, [(2, .v .bool)])
abbrev R67_5 : List (Exit × Shape) := [(Exit.exit 0, [])]
def lo67_5 (k : Nat) : LO := loopO [] [] [] S67_5 X67_5 R67_5 (iter (spec_EventsOk_s5) k)
theorem st67_5 (k : Nat) (rec v) : evC Tryz.prog ⟨86, []⟩ (F67 k) (inlN Tryz.prog (F67 k) 4) [] (lpAt (bodyOf Tryz.f67) [0]) (Kb [] [] [] S67_5 X67_5 R67_5 rec) (mkSt [] [] S67_5 v.1 v.2) = (spec_EventsOk_s5) rec v := by kernel_rfl
theorem lp67_5 (k : Nat) {c : Cx} (hP : c.P = Tryz.prog) (hm : c.m = ⟨86, []⟩) (hg : c.gs = []) : LoopOk c (lo67_5 k) (lpAt (bodyOf Tryz.f67) [0]) :=
  loop_at hP hm hg (okF67 k) (LInv.of (code := (lpAt (bodyOf Tryz.f67) [0])) (bs := []) (by kernel_rfl) LInv.nil) (fun rec v => st67_5 k rec v) k
theorem ev67 (k : Nat) (x) : evF Tryz.prog (F67 k) (inlN Tryz.prog (F67 k) 4) [(5, lo67_5 k)] Tryz.f67 (bodyOf Tryz.f67) (c67 k).ps (c67 k).rs (c67 k).rm x = (c67 k).m x := by kernel_rfl
theorem ok67 (k : Nat) : ConOk Tryz.prog (c67 k) :=
  fn_at (okF67 k) (cn := c67 k) (fn := Tryz.f67) (code := bodyOf Tryz.f67) (m := ⟨86, []⟩) (gs := []) (by kernel_rfl) (by kernel_rfl) (by kernel_rfl) (by kernel_rfl) (by kernel_rfl) (fun _ => by kernel_rfl)
    [(5, lo67_5 k)] (fun c hP hm hg => (LInv.of (code := (bodyOf Tryz.f67)) (bs := [(lpAt (bodyOf Tryz.f67) [0])]) (by kernel_rfl) (LInv.cons (b := (lpAt (bodyOf Tryz.f67) [0])) (by kernel_rfl) (lp67_5 k hP hm hg) LInv.nil))) (ev67 k)
def c159 (k : Nat) : Con := ⟨159, [((.sl (.int .u8)), false), ((.int .i64), false)], [(.int .i64), .bool], (.own true), fun x => spec_Be16 x.1 x.2.1⟩
def F159 (k : Nat) : List Con := []
theorem okF159 (k : Nat) : ∀ cn ∈ F159 k, ConOk Tryz.prog cn := conNil
theorem ev159 (k : Nat) (x) : evF Tryz.prog (F159 k) (inlN Tryz.prog (F159 k) 4) [] Tryz.f159 (bodyOf Tryz.f159) (c159 k).ps (c159 k).rs (c159 k).rm x = (c159 k).m x := by kernel_rfl
theorem ok159 (k : Nat) : ConOk Tryz.prog (c159 k) :=
  fn_at (okF159 k) (cn := c159 k) (fn := Tryz.f159) (code := bodyOf Tryz.f159) (m := ⟨28, []⟩) (gs := []) (by kernel_rfl) (by kernel_rfl) (by kernel_rfl) (by kernel_rfl) (by kernel_rfl) (fun _ => by kernel_rfl)
    [] (fun c hP hm hg => (LInv.of (code := (bodyOf Tryz.f159)) (bs := []) (by kernel_rfl) LInv.nil)) (ev159 k)
def c320 (k : Nat) : Con := ⟨320, [((.int .i64), false)], [.bool], (.own true), fun x => spec_l02Word x.1⟩
def F320 (k : Nat) : List Con := []
theorem okF320 (k : Nat) : ∀ cn ∈ F320 k, ConOk Tryz.prog cn := conNil
theorem ev320 (k : Nat) (x) : evF Tryz.prog (F320 k) (inlN Tryz.prog (F320 k) 4) [] Tryz.f320 (bodyOf Tryz.f320) (c320 k).ps (c320 k).rs (c320 k).rm x = (c320 k).m x := by kernel_rfl
theorem ok320 (k : Nat) : ConOk Tryz.prog (c320 k) :=
  fn_at (okF320 k) (cn := c320 k) (fn := Tryz.f320) (code := bodyOf Tryz.f320) (m := ⟨9, []⟩) (gs := []) (by kernel_rfl) (by kernel_rfl) (by kernel_rfl) (by kernel_rfl) (by kernel_rfl) (fun _ => by kernel_rfl)
    [] (fun c hP hm hg => (LInv.of (code := (bodyOf Tryz.f320)) (bs := []) (by kernel_rfl) LInv.nil)) (ev320 k)
def c277 (k : Nat) : Con := ⟨277, [((.int .i64), false), ((.int .i64), false)], [(.int .i64)], (.own true), fun x => spec_SumAdd x.1 x.2.1⟩
def F277 (k : Nat) : List Con := [c320 k]
theorem okF277 (k : Nat) : ∀ cn ∈ F277 k, ConOk Tryz.prog cn := (conCons (ok320 k) conNil)
theorem ev277 (k : Nat) (x) : evF Tryz.prog (F277 k) (inlN Tryz.prog (F277 k) 4) [] Tryz.f277 (bodyOf Tryz.f277) (c277 k).ps (c277 k).rs (c277 k).rm x = (c277 k).m x := by kernel_rfl
theorem ok277 (k : Nat) : ConOk Tryz.prog (c277 k) :=
  fn_at (okF277 k) (cn := c277 k) (fn := Tryz.f277) (code := bodyOf Tryz.f277) (m := ⟨24, []⟩) (gs := []) (by kernel_rfl) (by kernel_rfl) (by kernel_rfl) (by kernel_rfl) (by kernel_rfl) (fun _ => by kernel_rfl)
    [] (fun c hP hm hg => (LInv.of (code := (bodyOf Tryz.f277)) (bs := []) (by kernel_rfl) LInv.nil)) (ev277 k)
def c258 (k : Nat) : Con := ⟨258, [((.sl (.int .u8)), false)], [(.int .i64)], (.own true), fun x => spec_OnesSum k x.1⟩
def F258 (k : Nat) : List Con := [c277 k]
theorem okF258 (k : Nat) : ∀ cn ∈ F258 k, ConOk Tryz.prog cn := (conCons (ok277 k) conNil)
abbrev S258_5 : Shape := [(0, .v (.sl (.int .u8))), (3, .v (.int .i64)), (4, .v (.int .i64))]
abbrev X258_5 : Exit × Shape := (Exit.exit 0, [(3, .v (.int .i64))])
abbrev R258_5 : List (Exit × Shape) := []
def lo258_5 (k : Nat) : LO := loopO [] [] [] S258_5 X258_5 R258_5 (iter (spec_OnesSum_s5) k)
theorem st258_5 (k : Nat) (rec v) : evC Tryz.prog ⟨38, []⟩ (F258 k) (inlN Tryz.prog (F258 k) 4) [] (lpAt (bodyOf Tryz.f258) [0]) (Kb [] [] [] S258_5 X258_5 R258_5 rec) (mkSt [] [] S258_5 v.1 v.2) = (spec_OnesSum_s5) rec v := by kernel_rfl
theorem lp258_5 (k : Nat) {c : Cx} (hP : c.P = Tryz.prog) (hm : c.m = ⟨38, []⟩) (hg : c.gs = []) : LoopOk c (lo258_5 k) (lpAt (bodyOf Tryz.f258) [0]) :=
  loop_at hP hm hg (okF258 k) (LInv.of (code := (lpAt (bodyOf Tryz.f258) [0])) (bs := []) (by kernel_rfl) LInv.nil) (fun rec v => st258_5 k rec v) k
theorem ev258 (k : Nat) (x) : evF Tryz.prog (F258 k) (inlN Tryz.prog (F258 k) 4) [(5, lo258_5 k)] Tryz.f258 (bodyOf Tryz.f258) (c258 k).ps (c258 k).rs (c258 k).rm x = (c258 k).m x := by kernel_rfl
theorem ok258 (k : Nat) : ConOk Tryz.prog (c258 k) :=
  fn_at (okF258 k) (cn := c258 k) (fn := Tryz.f258) (code := bodyOf Tryz.f258) (m := ⟨38, []⟩) (gs := []) (by kernel_rfl) (by kernel_rfl) (by kernel_rfl) (by kernel_rfl) (by kernel_rfl) (fun _ => by kernel_rfl)
    [(5, lo258_5 k)] (fun c hP hm hg => (LInv.of (code := (bodyOf Tryz.f258)) (bs := [(lpAt (bodyOf Tryz.f258) [0])]) (by kernel_rfl) (LInv.cons (b := (lpAt (bodyOf Tryz.f258) [0])) (by kernel_rfl) (lp258_5 k hP hm hg) LInv.nil))) (ev258 k)
def c160 (k : Nat) : Con := ⟨160, [((.sl (.int .u8)), false)], [(.int .i64)], (.own true), fun x => spec_Checksum k x.1⟩
def F160 (k : Nat) : List Con := [c258 k]
theorem okF160 (k : Nat) : ∀ cn ∈ F160 k, ConOk Tryz.prog cn := (conCons (ok258 k) conNil)
theorem ev160 (k : Nat) (x) : evF Tryz.prog (F160 k) (inlN Tryz.prog (F160 k) 4) [] Tryz.f160 (bodyOf Tryz.f160) (c160 k).ps (c160 k).rs (c160 k).rm x = (c160 k).m x := by kernel_rfl
theorem ok160 (k : Nat) : ConOk Tryz.prog (c160 k) :=
  fn_at (okF160 k) (cn := c160 k) (fn := Tryz.f160) (code := bodyOf Tryz.f160) (m := ⟨10, []⟩) (gs := []) (by kernel_rfl) (by kernel_rfl) (by kernel_rfl) (by kernel_rfl) (by kernel_rfl) (fun _ => by kernel_rfl)
    [] (fun c hP hm hg => (LInv.of (code := (bodyOf Tryz.f160)) (bs := []) (by kernel_rfl) LInv.nil)) (ev160 k)
def c193 (k : Nat) : Con := ⟨193, [((.sl (.int .u8)), false), ((.int .i64), false)], [(.int .i64), .bool], (.own true), fun x => spec_Be32 k x.1 x.2.1⟩
def F193 (k : Nat) : List Con := []
theorem okF193 (k : Nat) : ∀ cn ∈ F193 k, ConOk Tryz.prog cn := conNil
abbrev S193_5 : Shape := [(0, .v (.sl (.int .u8))), (1, .v (.int .i64)), (6, .v (.int .i64)), (7, .v (.int .i64))]
abbrev X193_5 : Exit × Shape := (Exit.exit 0, [(6, .v (.int .i64))])
abbrev R193_5 : List (Exit × Shape) := []
def lo193_5 (k : Nat) : LO := loopO [] [] [] S193_5 X193_5 R193_5 (iter (spec_Be32_s5) k)
theorem st193_5 (k : Nat) (rec v) : evC Tryz.prog ⟨32, []⟩ (F193 k) (inlN Tryz.prog (F193 k) 4) [] (lpAt (bodyOf Tryz.f193) [0]) (Kb [] [] [] S193_5 X193_5 R193_5 rec) (mkSt [] [] S193_5 v.1 v.2) = (spec_Be32_s5) rec v := by kernel_rfl
theorem lp193_5 (k : Nat) {c : Cx} (hP : c.P = Tryz.prog) (hm : c.m = ⟨32, []⟩) (hg : c.gs = []) : LoopOk c (lo193_5 k) (lpAt (bodyOf Tryz.f193) [0]) :=
  loop_at hP hm hg (okF193 k) (LInv.of (code := (lpAt (bodyOf Tryz.f193) [0])) (bs := []) (by kernel_rfl) LInv.nil) (fun rec v => st193_5 k rec v) k
theorem ev193 (k : Nat) (x) : evF Tryz.prog (F193 k) (inlN Tryz.prog (F193 k) 4) [(5, lo193_5 k)] Tryz.f193 (bodyOf Tryz.f193) (c193 k).ps (c193 k).rs (c193 k).rm x = (c193 k).m x := by kernel_rfl
theorem ok193 (k : Nat) : ConOk Tryz.prog (c193 k) :=
  fn_at (okF193 k) (cn := c193 k) (fn := Tryz.f193) (code := bodyOf Tryz.f193) (m := ⟨32, []⟩) (gs := []) (by kernel_rfl) (by kernel_rfl) (by kernel_rfl) (by kernel_rfl) (by kernel_rfl) (fun _ => by kernel_rfl)
    [(5, lo193_5 k)] (fun c hP hm hg => (LInv.of (code := (bodyOf Tryz.f193)) (bs := [(lpAt (bodyOf Tryz.f193) [0])]) (by kernel_rfl) (LInv.cons (b := (lpAt (bodyOf Tryz.f193) [0])) (by kernel_rfl) (lp193_5 k hP hm hg) LInv.nil))) (ev193 k)
def c87 (k : Nat) : Con := ⟨87, [((.sl (.int .u8)), false)], [T_Addr, .bool], (.own true), fun x => spec_AddrOf k x.1⟩
def F87 (k : Nat) : List Con := [c193 k]
theorem okF87 (k : Nat) : ∀ cn ∈ F87 k, ConOk Tryz.prog cn := (conCons (ok193 k) conNil)
theorem ev87 (k : Nat) (x) : evF Tryz.prog (F87 k) (inlN Tryz.prog (F87 k) 4) [] Tryz.f87 (bodyOf Tryz.f87) (c87 k).ps (c87 k).rs (c87 k).rm x = (c87 k).m x := by kernel_rfl
theorem ok87 (k : Nat) : ConOk Tryz.prog (c87 k) :=
  fn_at (okF87 k) (cn := c87 k) (fn := Tryz.f87) (code := bodyOf Tryz.f87) (m := ⟨53, []⟩) (gs := []) (by kernel_rfl) (by kernel_rfl) (by kernel_rfl) (by kernel_rfl) (by kernel_rfl) (fun _ => by kernel_rfl)
    [] (fun c hP hm hg => (LInv.of (code := (bodyOf Tryz.f87)) (bs := []) (by kernel_rfl) LInv.nil)) (ev87 k)
def c261 (k : Nat) : Con := ⟨261, [(T_Cmd, false), (.bool, false), (.bool, false), (.bool, false), (.bool, false), (.bool, false)], [.bool], (.own true), fun x => spec_l22None x.1 x.2.1 x.2.2.1 x.2.2.2.1 x.2.2.2.2.1 x.2.2.2.2.2.1⟩
def F261 (k : Nat) : List Con := []
theorem okF261 (k : Nat) : ∀ cn ∈ F261 k, ConOk Tryz.prog cn := conNil
theorem ev261 (k : Nat) (x) : evF Tryz.prog (F261 k) (inlN Tryz.prog (F261 k) 4) [] Tryz.f261 (bodyOf Tryz.f261) (c261 k).ps (c261 k).rs (c261 k).rm x = (c261 k).m x := by kernel_rfl
theorem ok261 (k : Nat) : ConOk Tryz.prog (c261 k) :=
  fn_at (okF261 k) (cn := c261 k) (fn := Tryz.f261) (code := bodyOf Tryz.f261) (m := ⟨55, []⟩) (gs := []) (by kernel_rfl) (by kernel_rfl) (by kernel_rfl) (by kernel_rfl) (by kernel_rfl) (fun _ => by kernel_rfl)
    [] (fun c hP hm hg => (LInv.of (code := (bodyOf Tryz.f261)) (bs := []) (by kernel_rfl) LInv.nil)) (ev261 k)
def c246 (k : Nat) : Con := ⟨246, [(T_Prefix, false)], [.bool], (.own true), fun x => spec_l03Any x.1⟩
def F246 (k : Nat) : List Con := []
theorem okF246 (k : Nat) : ∀ cn ∈ F246 k, ConOk Tryz.prog cn := conNil
theorem ev246 (k : Nat) (x) : evF Tryz.prog (F246 k) (inlN Tryz.prog (F246 k) 4) [] Tryz.f246 (bodyOf Tryz.f246) (c246 k).ps (c246 k).rs (c246 k).rm x = (c246 k).m x := by kernel_rfl
theorem ok246 (k : Nat) : ConOk Tryz.prog (c246 k) :=
  fn_at (okF246 k) (cn := c246 k) (fn := Tryz.f246) (code := bodyOf Tryz.f246) (m := ⟨6, []⟩) (gs := []) (by kernel_rfl) (by kernel_rfl) (by kernel_rfl) (by kernel_rfl) (by kernel_rfl) (fun _ => by kernel_rfl)
    [] (fun c hP hm hg => (LInv.of (code := (bodyOf Tryz.f246)) (bs := []) (by kernel_rfl) LInv.nil)) (ev246 k)
def c85 (k : Nat) : Con := ⟨85, [((.int .i64), false)], [.bool], (.own true), fun x => spec_l03Half x.1⟩
def F85 (k : Nat) : List Con := []
theorem okF85 (k : Nat) : ∀ cn ∈ F85 k, ConOk Tryz.prog cn := conNil
theorem ev85 (k : Nat) (x) : evF Tryz.prog (F85 k) (inlN Tryz.prog (F85 k) 4) [] Tryz.f85 (bodyOf Tryz.f85) (c85 k).ps (c85 k).rs (c85 k).rm x = (c85 k).m x := by kernel_rfl
theorem ok85 (k : Nat) : ConOk Tryz.prog (c85 k) :=
  fn_at (okF85 k) (cn := c85 k) (fn := Tryz.f85) (code := bodyOf Tryz.f85) (m := ⟨9, []⟩) (gs := []) (by kernel_rfl) (by kernel_rfl) (by kernel_rfl) (by kernel_rfl) (by kernel_rfl) (fun _ => by kernel_rfl)
    [] (fun c hP hm hg => (LInv.of (code := (bodyOf Tryz.f85)) (bs := []) (by kernel_rfl) LInv.nil)) (ev85 k)
def c26 (k : Nat) : Con := ⟨26, [(T_Addr, false)], [.bool], (.own true), fun x => spec_AddrOk x.1⟩
def F26 (k : Nat) : List Con := [c85 k]
theorem okF26 (k : Nat) : ∀ cn ∈ F26 k, ConOk Tryz.prog cn := (conCons (ok85 k) conNil)
theorem ev26 (k : Nat) (x) : evF Tryz.prog (F26 k) (inlN Tryz.prog (F26 k) 4) [] Tryz.f26 (bodyOf Tryz.f26) (c26 k).ps (c26 k).rs (c26 k).rm x = (c26 k).m x := by kernel_rfl
theorem ok26 (k : Nat) : ConOk Tryz.prog (c26 k) :=
  fn_at (okF26 k) (cn := c26 k) (fn := Tryz.f26) (code := bodyOf Tryz.f26) (m := ⟨47, []⟩) (gs := []) (by kernel_rfl) (by kernel_rfl) (by kernel_rfl) (by kernel_rfl) (by kernel_rfl) (fun _ => by kernel_rfl)
    [] (fun c hP hm hg => (LInv.of (code := (bodyOf Tryz.f26)) (bs := []) (by kernel_rfl) LInv.nil)) (ev26 k)
def c82 (k : Nat) : Con := ⟨82, [(T_Addr, false)], [(.int .i64)], (.own true), fun x => spec_l03Bits x.1⟩
def F82 (k : Nat) : List Con := []
theorem okF82 (k : Nat) : ∀ cn ∈ F82 k, ConOk Tryz.prog cn := conNil
theorem ev82 (k : Nat) (x) : evF Tryz.prog (F82 k) (inlN Tryz.prog (F82 k) 4) [] Tryz.f82 (bodyOf Tryz.f82) (c82 k).ps (c82 k).rs (c82 k).rm x = (c82 k).m x := by kernel_rfl
theorem ok82 (k : Nat) : ConOk Tryz.prog (c82 k) :=
  fn_at (okF82 k) (cn := c82 k) (fn := Tryz.f82) (code := bodyOf Tryz.f82) (m := ⟨6, []⟩) (gs := []) (by kernel_rfl) (by kernel_rfl) (by kernel_rfl) (by kernel_rfl) (by kernel_rfl) (fun _ => by kernel_rfl)
    [] (fun c hP hm hg => (LInv.of (code := (bodyOf Tryz.f82)) (bs := []) (by kernel_rfl) LInv.nil)) (ev82 k)
def c282 (k : Nat) : Con := ⟨282, [((.int .i64), false), ((.int .i64), false)], [(.int .i64)], (.own true), fun x => spec_l01Low x.1 x.2.1⟩
def F282 (k : Nat) : List Con := []
theorem okF282 (k : Nat) : ∀ cn ∈ F282 k, ConOk Tryz.prog cn := conNil
theorem ev282 (k : Nat) (x) : evF Tryz.prog (F282 k) (inlN Tryz.prog (F282 k) 4) [] Tryz.f282 (bodyOf Tryz.f282) (c282 k).ps (c282 k).rs (c282 k).rm x = (c282 k).m x := by kernel_rfl
theorem ok282 (k : Nat) : ConOk Tryz.prog (c282 k) :=
  fn_at (okF282 k) (cn := c282 k) (fn := Tryz.f282) (code := bodyOf Tryz.f282) (m := ⟨15, []⟩) (gs := []) (by kernel_rfl) (by kernel_rfl) (by kernel_rfl) (by kernel_rfl) (by kernel_rfl) (fun _ => by kernel_rfl)
    [] (fun c hP hm hg => (LInv.of (code := (bodyOf Tryz.f282)) (bs := []) (by kernel_rfl) LInv.nil)) (ev282 k)
def c195 (k : Nat) : Con := ⟨195, [((.int .i64), false)], [(.sl (.int .u8))], (.own true), fun x => spec_Put16 x.1⟩
def F195 (k : Nat) : List Con := [c282 k]
theorem okF195 (k : Nat) : ∀ cn ∈ F195 k, ConOk Tryz.prog cn := (conCons (ok282 k) conNil)
theorem ev195 (k : Nat) (x) : evF Tryz.prog (F195 k) (inlN Tryz.prog (F195 k) 4) [] Tryz.f195 (bodyOf Tryz.f195) (c195 k).ps (c195 k).rs (c195 k).rm x = (c195 k).m x := by kernel_rfl
theorem ok195 (k : Nat) : ConOk Tryz.prog (c195 k) :=
  fn_at (okF195 k) (cn := c195 k) (fn := Tryz.f195) (code := bodyOf Tryz.f195) (m := ⟨13, []⟩) (gs := []) (by kernel_rfl) (by kernel_rfl) (by kernel_rfl) (by kernel_rfl) (by kernel_rfl) (fun _ => by kernel_rfl)
    [] (fun c hP hm hg => (LInv.of (code := (bodyOf Tryz.f195)) (bs := []) (by kernel_rfl) LInv.nil)) (ev195 k)
def c192 (k : Nat) : Con := ⟨192, [((.int .i64), false)], [(.sl (.int .u8))], (.own true), fun x => spec_Put32 x.1⟩
def F192 (k : Nat) : List Con := [c282 k, c195 k]
theorem okF192 (k : Nat) : ∀ cn ∈ F192 k, ConOk Tryz.prog cn := (conCons (ok282 k) (conCons (ok195 k) conNil))
theorem ev192 (k : Nat) (x) : evF Tryz.prog (F192 k) (inlN Tryz.prog (F192 k) 4) [] Tryz.f192 (bodyOf Tryz.f192) (c192 k).ps (c192 k).rs (c192 k).rm x = (c192 k).m x := by kernel_rfl
theorem ok192 (k : Nat) : ConOk Tryz.prog (c192 k) :=
  fn_at (okF192 k) (cn := c192 k) (fn := Tryz.f192) (code := bodyOf Tryz.f192) (m := ⟨13, []⟩) (gs := []) (by kernel_rfl) (by kernel_rfl) (by kernel_rfl) (by kernel_rfl) (by kernel_rfl) (fun _ => by kernel_rfl)
    [] (fun c hP hm hg => (LInv.of (code := (bodyOf Tryz.f192)) (bs := []) (by kernel_rfl) LInv.nil)) (ev192 k)
def c86 (k : Nat) : Con := ⟨86, [(T_Addr, false)], [(.sl (.int .u8))], (.own true), fun x => spec_AddrBytes x.1⟩
def F86 (k : Nat) : List Con := [c26 k, c192 k]
theorem okF86 (k : Nat) : ∀ cn ∈ F86 k, ConOk Tryz.prog cn := (conCons (ok26 k) (conCons (ok192 k) conNil))
theorem ev86 (k : Nat) (x) : evF Tryz.prog (F86 k) (inlN Tryz.prog (F86 k) 4) [] Tryz.f86 (bodyOf Tryz.f86) (c86 k).ps (c86 k).rs (c86 k).rm x = (c86 k).m x := by kernel_rfl
theorem ok86 (k : Nat) : ConOk Tryz.prog (c86 k) :=
  fn_at (okF86 k) (cn := c86 k) (fn := Tryz.f86) (code := bodyOf Tryz.f86) (m := ⟨29, []⟩) (gs := []) (by kernel_rfl) (by kernel_rfl) (by kernel_rfl) (by kernel_rfl) (by kernel_rfl) (fun _ => by kernel_rfl)
    [] (fun c hP hm hg => (LInv.of (code := (bodyOf Tryz.f86)) (bs := []) (by kernel_rfl) LInv.nil)) (ev86 k)
def c27 (k : Nat) : Con := ⟨27, [(T_Addr, false), ((.int .i64), false)], [T_Addr], (.own true), fun x => spec_Cut k x.1 x.2.1⟩
def F27 (k : Nat) : List Con := [c26 k, c82 k, c86 k, c87 k]
theorem okF27 (k : Nat) : ∀ cn ∈ F27 k, ConOk Tryz.prog cn := (conCons (ok26 k) (conCons (ok82 k) (conCons (ok86 k) (conCons (ok87 k) conNil))))
abbrev S27_9 : Shape := [(2, .box true T_Addr), (4, .box true T_Addr), (5, .own true (.sl (.int .u8))), (6, .v (.int .i64)), (7, .v (.int .i64)), (8, .v (.int .i64))]
abbrev X27_9 : Exit × Shape := (Exit.exit 2, [(2, .box true T_Addr), (4, .box true T_Addr), (5, .own true (.sl (.int .u8))), (6, .v (.int .i64)), (7, .v (.int .i64))])
abbrev R27_9 : List (Exit × Shape) := []
def lo27_9 (k : Nat) : LO := loopO [] [] [] S27_9 X27_9 R27_9 (iter (spec_Cut_s9) k)
theorem st27_9 (k : Nat) (rec v) : evC Tryz.prog ⟨70, []⟩ (F27 k) (inlN Tryz.prog (F27 k) 4) [] (lpAt (bodyOf Tryz.f27) [0, 0]) (Kb [] [] [] S27_9 X27_9 R27_9 rec) (mkSt [] [] S27_9 v.1 v.2) = (spec_Cut_s9) rec v := by kernel_rfl
theorem lp27_9 (k : Nat) {c : Cx} (hP : c.P = Tryz.prog) (hm : c.m = ⟨70, []⟩) (hg : c.gs = []) : LoopOk c (lo27_9 k) (lpAt (bodyOf Tryz.f27) [0, 0]) :=
  loop_at hP hm hg (okF27 k) (LInv.of (code := (lpAt (bodyOf Tryz.f27) [0, 0])) (bs := []) (by kernel_rfl) LInv.nil) (fun rec v => st27_9 k rec v) k
abbrev S27_5 : Shape := [(2, .box true T_Addr), (4, .box true T_Addr), (5, .own true (.sl (.int .u8))), (6, .v (.int .i64))]
abbrev X27_5 : Exit × Shape := (Exit.exit 0, [(4, .box true T_Addr), (5, .own true (.sl (.int .u8)))])
abbrev R27_5 : List (Exit × Shape) := []
def lo27_5 (k : Nat) : LO := loopO [] [] [] S27_5 X27_5 R27_5 (iter (spec_Cut_s5 k) k)
theorem st27_5 (k : Nat) (rec v) : evC Tryz.prog ⟨70, []⟩ (F27 k) (inlN Tryz.prog (F27 k) 4) [(9, lo27_9 k)] (lpAt (bodyOf Tryz.f27) [0]) (Kb [] [] [] S27_5 X27_5 R27_5 rec) (mkSt [] [] S27_5 v.1 v.2) = (spec_Cut_s5 k) rec v := by kernel_rfl
theorem lp27_5 (k : Nat) {c : Cx} (hP : c.P = Tryz.prog) (hm : c.m = ⟨70, []⟩) (hg : c.gs = []) : LoopOk c (lo27_5 k) (lpAt (bodyOf Tryz.f27) [0]) :=
  loop_at hP hm hg (okF27 k) (LInv.of (code := (lpAt (bodyOf Tryz.f27) [0])) (bs := [(lpAt (bodyOf Tryz.f27) [0, 0])]) (by kernel_rfl) (LInv.cons (b := (lpAt (bodyOf Tryz.f27) [0, 0])) (by kernel_rfl) (lp27_9 k hP hm hg) LInv.nil)) (fun rec v => st27_5 k rec v) k
theorem ev27 (k : Nat) (x) : evF Tryz.prog (F27 k) (inlN Tryz.prog (F27 k) 4) [(5, lo27_5 k)] Tryz.f27 (bodyOf Tryz.f27) (c27 k).ps (c27 k).rs (c27 k).rm x = (c27 k).m x := by kernel_rfl
theorem ok27 (k : Nat) : ConOk Tryz.prog (c27 k) :=
  fn_at (okF27 k) (cn := c27 k) (fn := Tryz.f27) (code := bodyOf Tryz.f27) (m := ⟨70, []⟩) (gs := []) (by kernel_rfl) (by kernel_rfl) (by kernel_rfl) (by kernel_rfl) (by kernel_rfl) (fun _ => by kernel_rfl)
    [(5, lo27_5 k)] (fun c hP hm hg => (LInv.of (code := (bodyOf Tryz.f27)) (bs := [(lpAt (bodyOf Tryz.f27) [0])]) (by kernel_rfl) (LInv.cons (b := (lpAt (bodyOf Tryz.f27) [0])) (by kernel_rfl) (lp27_5 k hP hm hg) LInv.nil))) (ev27 k)
def c245 (k : Nat) : Con := ⟨245, [(T_Prefix, false)], [.bool], (.own true), fun x => spec_PrefixOk k x.1⟩
def F245 (k : Nat) : List Con := [c246 k, c26 k, c82 k, c27 k]
theorem okF245 (k : Nat) : ∀ cn ∈ F245 k, ConOk Tryz.prog cn := (conCons (ok246 k) (conCons (ok26 k) (conCons (ok82 k) (conCons (ok27 k) conNil))))
theorem ev245 (k : Nat) (x) : evF Tryz.prog (F245 k) (inlN Tryz.prog (F245 k) 4) [] Tryz.f245 (bodyOf Tryz.f245) (c245 k).ps (c245 k).rs (c245 k).rm x = (c245 k).m x := by kernel_rfl
theorem ok245 (k : Nat) : ConOk Tryz.prog (c245 k) :=
  fn_at (okF245 k) (cn := c245 k) (fn := Tryz.f245) (code := bodyOf Tryz.f245) (m := ⟨33, []⟩) (gs := []) (by kernel_rfl) (by kernel_rfl) (by kernel_rfl) (by kernel_rfl) (by kernel_rfl) (fun _ => by kernel_rfl)
    [] (fun c hP hm hg => (LInv.of (code := (bodyOf Tryz.f245)) (bs := []) (by kernel_rfl) LInv.nil)) (ev245 k)
def c250 (k : Nat) : Con := ⟨250, [((.int .i64), false), ((.int .i64), false)], [.bool], (.own true), fun x => spec_l09Range x.1 x.2.1⟩
def F250 (k : Nat) : List Con := []
theorem okF250 (k : Nat) : ∀ cn ∈ F250 k, ConOk Tryz.prog cn := conNil
theorem ev250 (k : Nat) (x) : evF Tryz.prog (F250 k) (inlN Tryz.prog (F250 k) 4) [] Tryz.f250 (bodyOf Tryz.f250) (c250 k).ps (c250 k).rs (c250 k).rm x = (c250 k).m x := by kernel_rfl
theorem ok250 (k : Nat) : ConOk Tryz.prog (c250 k) :=
  fn_at (okF250 k) (cn := c250 k) (fn := Tryz.f250) (code := bodyOf Tryz.f250) (m := ⟨16, []⟩) (gs := []) (by kernel_rfl) (by kernel_rfl) (by kernel_rfl) (by kernel_rfl) (by kernel_rfl) (fun _ => by kernel_rfl)
    [] (fun c hP hm hg => (LInv.of (code := (bodyOf Tryz.f250)) (bs := []) (by kernel_rfl) LInv.nil)) (ev250 k)
def c208 (k : Nat) : Con := ⟨208, [(T_Rule, false)], [.bool], (.own true), fun x => spec_RuleOk k x.1⟩
def F208 (k : Nat) : List Con := [c245 k, c250 k]
theorem okF208 (k : Nat) : ∀ cn ∈ F208 k, ConOk Tryz.prog cn := (conCons (ok245 k) (conCons (ok250 k) conNil))
theorem ev208 (k : Nat) (x) : evF Tryz.prog (F208 k) (inlN Tryz.prog (F208 k) 4) [] Tryz.f208 (bodyOf Tryz.f208) (c208 k).ps (c208 k).rs (c208 k).rm x = (c208 k).m x := by kernel_rfl
theorem ok208 (k : Nat) : ConOk Tryz.prog (c208 k) :=
  fn_at (okF208 k) (cn := c208 k) (fn := Tryz.f208) (code := bodyOf Tryz.f208) (m := ⟨75, []⟩) (gs := []) (by kernel_rfl) (by kernel_rfl) (by kernel_rfl) (by kernel_rfl) (by kernel_rfl) (fun _ => by kernel_rfl)
    [] (fun c hP hm hg => (LInv.of (code := (bodyOf Tryz.f208)) (bs := []) (by kernel_rfl) LInv.nil)) (ev208 k)
def c262 (k : Nat) : Con := ⟨262, [(T_Limits, false)], [.bool], (.own true), fun x => spec_LimitsOk x.1⟩
def F262 (k : Nat) : List Con := []
theorem okF262 (k : Nat) : ∀ cn ∈ F262 k, ConOk Tryz.prog cn := conNil
theorem ev262 (k : Nat) (x) : evF Tryz.prog (F262 k) (inlN Tryz.prog (F262 k) 4) [] Tryz.f262 (bodyOf Tryz.f262) (c262 k).ps (c262 k).rs (c262 k).rm x = (c262 k).m x := by kernel_rfl
theorem ok262 (k : Nat) : ConOk Tryz.prog (c262 k) :=
  fn_at (okF262 k) (cn := c262 k) (fn := Tryz.f262) (code := bodyOf Tryz.f262) (m := ⟨39, []⟩) (gs := []) (by kernel_rfl) (by kernel_rfl) (by kernel_rfl) (by kernel_rfl) (by kernel_rfl) (fun _ => by kernel_rfl)
    [] (fun c hP hm hg => (LInv.of (code := (bodyOf Tryz.f262)) (bs := []) (by kernel_rfl) LInv.nil)) (ev262 k)
def c216 (k : Nat) : Con := ⟨216, [((.int .i64), false), ((.int .i64), false)], [.bool], (.own true), fun x => spec_l05In x.1 x.2.1⟩
def F216 (k : Nat) : List Con := []
theorem okF216 (k : Nat) : ∀ cn ∈ F216 k, ConOk Tryz.prog cn := conNil
theorem ev216 (k : Nat) (x) : evF Tryz.prog (F216 k) (inlN Tryz.prog (F216 k) 4) [] Tryz.f216 (bodyOf Tryz.f216) (c216 k).ps (c216 k).rs (c216 k).rm x = (c216 k).m x := by kernel_rfl
theorem ok216 (k : Nat) : ConOk Tryz.prog (c216 k) :=
  fn_at (okF216 k) (cn := c216 k) (fn := Tryz.f216) (code := bodyOf Tryz.f216) (m := ⟨12, []⟩) (gs := []) (by kernel_rfl) (by kernel_rfl) (by kernel_rfl) (by kernel_rfl) (by kernel_rfl) (fun _ => by kernel_rfl)
    [] (fun c hP hm hg => (LInv.of (code := (bodyOf Tryz.f216)) (bs := []) (by kernel_rfl) LInv.nil)) (ev216 k)
def c251 (k : Nat) : Con := ⟨251, [(T_Prefix, false), (T_Prefix, false)], [.bool], (.own true), fun x => spec_l10Twins k x.1 x.2.1⟩
def F251 (k : Nat) : List Con := [c245 k, c246 k]
theorem okF251 (k : Nat) : ∀ cn ∈ F251 k, ConOk Tryz.prog cn := (conCons (ok245 k) (conCons (ok246 k) conNil))
theorem ev251 (k : Nat) (x) : evF Tryz.prog (F251 k) (inlN Tryz.prog (F251 k) 4) [] Tryz.f251 (bodyOf Tryz.f251) (c251 k).ps (c251 k).rs (c251 k).rm x = (c251 k).m x := by kernel_rfl
theorem ok251 (k : Nat) : ConOk Tryz.prog (c251 k) :=
  fn_at (okF251 k) (cn := c251 k) (fn := Tryz.f251) (code := bodyOf Tryz.f251) (m := ⟨37, []⟩) (gs := []) (by kernel_rfl) (by kernel_rfl) (by kernel_rfl) (by kernel_rfl) (by kernel_rfl) (fun _ => by kernel_rfl)
    [] (fun c hP hm hg => (LInv.of (code := (bodyOf Tryz.f251)) (bs := []) (by kernel_rfl) LInv.nil)) (ev251 k)
def c143 (k : Nat) : Con := ⟨143, [(T_Module, false)], [.bool], (.own true), fun x => spec_ModuleOk k x.1⟩
def F143 (k : Nat) : List Con := [c246 k, c245 k, c250 k, c251 k, c216 k]
theorem okF143 (k : Nat) : ∀ cn ∈ F143 k, ConOk Tryz.prog cn := (conCons (ok246 k) (conCons (ok245 k) (conCons (ok250 k) (conCons (ok251 k) (conCons (ok216 k) conNil)))))
theorem ev143 (k : Nat) (x) : evF Tryz.prog (F143 k) (inlN Tryz.prog (F143 k) 4) [] Tryz.f143 (bodyOf Tryz.f143) (c143 k).ps (c143 k).rs (c143 k).rm x = (c143 k).m x := by kernel_rfl
theorem ok143 (k : Nat) : ConOk Tryz.prog (c143 k) :=
  fn_at (okF143 k) (cn := c143 k) (fn := Tryz.f143) (code := bodyOf Tryz.f143) (m := ⟨131, []⟩) (gs := []) (by kernel_rfl) (by kernel_rfl) (by kernel_rfl) (by kernel_rfl) (by kernel_rfl) (fun _ => by kernel_rfl)
    [] (fun c hP hm hg => (LInv.of (code := (bodyOf Tryz.f143)) (bs := []) (by kernel_rfl) LInv.nil)) (ev143 k)
def c55 (k : Nat) : Con := ⟨55, [((.sl T_Module), false)], [.bool], (.own true), fun x => spec_ChainOk k x.1⟩
def F55 (k : Nat) : List Con := [c143 k]
theorem okF55 (k : Nat) : ∀ cn ∈ F55 k, ConOk Tryz.prog cn := (conCons (ok143 k) conNil)
abbrev S55_4 : Shape := [(0, .v (.sl T_Module)), (3, .v (.int .i64))]
abbrev X55_4 : Exit × Shape := (Exit.ret, [(2, .v .bool)])
abbrev R55_4 : List (Exit × Shape) := [(Exit.exit 0, [])]
def lo55_4 (k : Nat) : LO := loopO [] [] [] S55_4 X55_4 R55_4 (iter (spec_ChainOk_s4 k) k)
theorem st55_4 (k : Nat) (rec v) : evC Tryz.prog ⟨19, []⟩ (F55 k) (inlN Tryz.prog (F55 k) 4) [] (lpAt (bodyOf Tryz.f55) [0]) (Kb [] [] [] S55_4 X55_4 R55_4 rec) (mkSt [] [] S55_4 v.1 v.2) = (spec_ChainOk_s4 k) rec v := by kernel_rfl
theorem lp55_4 (k : Nat) {c : Cx} (hP : c.P = Tryz.prog) (hm : c.m = ⟨19, []⟩) (hg : c.gs = []) : LoopOk c (lo55_4 k) (lpAt (bodyOf Tryz.f55) [0]) :=
  loop_at hP hm hg (okF55 k) (LInv.of (code := (lpAt (bodyOf Tryz.f55) [0])) (bs := []) (by kernel_rfl) LInv.nil) (fun rec v => st55_4 k rec v) k
theorem ev55 (k : Nat) (x) : evF Tryz.prog (F55 k) (inlN Tryz.prog (F55 k) 4) [(4, lo55_4 k)] Tryz.f55 (bodyOf Tryz.f55) (c55 k).ps (c55 k).rs (c55 k).rm x = (c55 k).m x := by kernel_rfl
theorem ok55 (k : Nat) : ConOk Tryz.prog (c55 k) :=
  fn_at (okF55 k) (cn := c55 k) (fn := Tryz.f55) (code := bodyOf Tryz.f55) (m := ⟨19, []⟩) (gs := []) (by kernel_rfl) (by kernel_rfl) (by kernel_rfl) (by kernel_rfl) (by kernel_rfl) (fun _ => by kernel_rfl)
    [(4, lo55_4 k)] (fun c hP hm hg => (LInv.of (code := (bodyOf Tryz.f55)) (bs := [(lpAt (bodyOf Tryz.f55) [0])]) (by kernel_rfl) (LInv.cons (b := (lpAt (bodyOf Tryz.f55) [0])) (by kernel_rfl) (lp55_4 k hP hm hg) LInv.nil))) (ev55 k)
def c167 (k : Nat) : Con := ⟨167, [(T_Cmd, false)], [.bool], (.own true), fun x => spec_CmdOk k x.1⟩
def F167 (k : Nat) : List Con := [c261 k, c208 k, c262 k, c216 k, c55 k]
theorem okF167 (k : Nat) : ∀ cn ∈ F167 k, ConOk Tryz.prog cn := (conCons (ok261 k) (conCons (ok208 k) (conCons (ok262 k) (conCons (ok216 k) (conCons (ok55 k) conNil)))))
theorem ev167 (k : Nat) (x) : evF Tryz.prog (F167 k) (inlN Tryz.prog (F167 k) 4) [] Tryz.f167 (bodyOf Tryz.f167) (c167 k).ps (c167 k).rs (c167 k).rm x = (c167 k).m x := by kernel_rfl
theorem ok167 (k : Nat) : ConOk Tryz.prog (c167 k) :=
  fn_at (okF167 k) (cn := c167 k) (fn := Tryz.f167) (code := bodyOf Tryz.f167) (m := ⟨117, []⟩) (gs := []) (by kernel_rfl) (by kernel_rfl) (by kernel_rfl) (by kernel_rfl) (by kernel_rfl) (fun _ => by kernel_rfl)
    [] (fun c hP hm hg => (LInv.of (code := (bodyOf Tryz.f167)) (bs := []) (by kernel_rfl) LInv.nil)) (ev167 k)
def c259 (k : Nat) : Con := ⟨259, [(T_Prefix, false)], [(.sl (.int .u8))], (.own true), fun x => spec_PrefixBytes k x.1⟩
def F259 (k : Nat) : List Con := [c245 k, c246 k, c86 k]
theorem okF259 (k : Nat) : ∀ cn ∈ F259 k, ConOk Tryz.prog cn := (conCons (ok245 k) (conCons (ok246 k) (conCons (ok86 k) conNil)))
theorem ev259 (k : Nat) (x) : evF Tryz.prog (F259 k) (inlN Tryz.prog (F259 k) 4) [] Tryz.f259 (bodyOf Tryz.f259) (c259 k).ps (c259 k).rs (c259 k).rm x = (c259 k).m x := by kernel_rfl
theorem ok259 (k : Nat) : ConOk Tryz.prog (c259 k) :=
  fn_at (okF259 k) (cn := c259 k) (fn := Tryz.f259) (code := bodyOf Tryz.f259) (m := ⟨23, []⟩) (gs := []) (by kernel_rfl) (by kernel_rfl) (by kernel_rfl) (by kernel_rfl) (by kernel_rfl) (fun _ => by kernel_rfl)
    [] (fun c hP hm hg => (LInv.of (code := (bodyOf Tryz.f259)) (bs := []) (by kernel_rfl) LInv.nil)) (ev259 k)
def c260 (k : Nat) : Con := ⟨260, [((.sl (.int .u8)), true), ((.sl (.int .i64)), false)], [(.sl (.int .u8))], .mv, fun x => spec_l22Twos k x.1 x.2.1⟩
def F260 (k : Nat) : List Con := [c195 k]
theorem okF260 (k : Nat) : ∀ cn ∈ F260 k, ConOk Tryz.prog cn := (conCons (ok195 k) conNil)
abbrev S260_2 : Shape := [(0, .own true (.sl (.int .u8))), (1, .v (.sl (.int .i64))), (5, .v (.int .i64))]
abbrev X260_2 : Exit × Shape := (Exit.exit 0, [(0, .own true (.sl (.int .u8)))])
abbrev R260_2 : List (Exit × Shape) := []
def lo260_2 (k : Nat) : LO := loopO [] [] [] S260_2 X260_2 R260_2 (iter (spec_l22Twos_s2) k)
theorem st260_2 (k : Nat) (rec v) : evC Tryz.prog ⟨20, []⟩ (F260 k) (inlN Tryz.prog (F260 k) 4) [] (lpAt (bodyOf Tryz.f260) [0]) (Kb [] [] [] S260_2 X260_2 R260_2 rec) (mkSt [] [] S260_2 v.1 v.2) = (spec_l22Twos_s2) rec v := by kernel_rfl
theorem lp260_2 (k : Nat) {c : Cx} (hP : c.P = Tryz.prog) (hm : c.m = ⟨20, []⟩) (hg : c.gs = []) : LoopOk c (lo260_2 k) (lpAt (bodyOf Tryz.f260) [0]) :=
  loop_at hP hm hg (okF260 k) (LInv.of (code := (lpAt (bodyOf Tryz.f260) [0])) (bs := []) (by kernel_rfl) LInv.nil) (fun rec v => st260_2 k rec v) k
theorem ev260 (k : Nat) (x) : evFm Tryz.prog (F260 k) (inlN Tryz.prog (F260 k) 4) [(2, lo260_2 k)] Tryz.f260 (bodyOf Tryz.f260) (c260 k).ps (c260 k).rs x = (c260 k).m x := by kernel_rfl
theorem ok260 (k : Nat) : ConOk Tryz.prog (c260 k) :=
  fn_mv (okF260 k) (cn := c260 k) (fn := Tryz.f260) (code := bodyOf Tryz.f260) (m := ⟨20, []⟩) (gs := []) (by kernel_rfl) (by kernel_rfl) (by kernel_rfl) (by kernel_rfl) (by kernel_rfl) rfl
    [(2, lo260_2 k)] (fun c hP hm hg => (LInv.of (code := (bodyOf Tryz.f260)) (bs := [(lpAt (bodyOf Tryz.f260) [0])]) (by kernel_rfl) (LInv.cons (b := (lpAt (bodyOf Tryz.f260) [0])) (by kernel_rfl) (lp260_2 k hP hm hg) LInv.nil))) (ev260 k)
def c166 (k : Nat) : Con := ⟨166, [(T_Cmd, false)], [(.sl (.int .u8))], (.own true), fun x => spec_CmdBytes k x.1⟩
def F166 (k : Nat) : List Con := [c167 k, c160 k, c195 k, c259 k, c260 k, c192 k]
theorem okF166 (k : Nat) : ∀ cn ∈ F166 k, ConOk Tryz.prog cn := (conCons (ok167 k) (conCons (ok160 k) (conCons (ok195 k) (conCons (ok259 k) (conCons (ok260 k) (conCons (ok192 k) conNil))))))
abbrev S166_29 : Shape := [(1, .boxv T_Cmd), (3, .own true (.sl (.int .u8))), (6, .v (.int .i64))]
abbrev X166_29 : Exit × Shape := (Exit.exit 1, [(3, .own true (.sl (.int .u8)))])
abbrev R166_29 : List (Exit × Shape) := []
def lo166_29 (k : Nat) : LO := loopO [] [] [] S166_29 X166_29 R166_29 (iter (spec_CmdBytes_s29 k) k)
theorem st166_29 (k : Nat) (rec v) : evC Tryz.prog ⟨177, []⟩ (F166 k) (inlN Tryz.prog (F166 k) 4) [] (lpAt (bodyOf Tryz.f166) [0]) (Kb [] [] [] S166_29 X166_29 R166_29 rec) (mkSt [] [] S166_29 v.1 v.2) = (spec_CmdBytes_s29 k) rec v := by kernel_rfl
theorem lp166_29 (k : Nat) {c : Cx} (hP : c.P = Tryz.prog) (hm : c.m = ⟨177, []⟩) (hg : c.gs = []) : LoopOk c (lo166_29 k) (lpAt (bodyOf Tryz.f166) [0]) :=
  loop_at hP hm hg (okF166 k) (LInv.of (code := (lpAt (bodyOf Tryz.f166) [0])) (bs := []) (by kernel_rfl) LInv.nil) (fun rec v => st166_29 k rec v) k
theorem ev166 (k : Nat) (x) : evF Tryz.prog (F166 k) (inlN Tryz.prog (F166 k) 4) [(29, lo166_29 k)] Tryz.f166 (bodyOf Tryz.f166) (c166 k).ps (c166 k).rs (c166 k).rm x = (c166 k).m x := by kernel_rfl
theorem ok166 (k : Nat) : ConOk Tryz.prog (c166 k) :=
  fn_at (okF166 k) (cn := c166 k) (fn := Tryz.f166) (code := bodyOf Tryz.f166) (m := ⟨177, []⟩) (gs := []) (by kernel_rfl) (by kernel_rfl) (by kernel_rfl) (by kernel_rfl) (by kernel_rfl) (fun _ => by kernel_rfl)
    [(29, lo166_29 k)] (fun c hP hm hg => (LInv.of (code := (bodyOf Tryz.f166)) (bs := [(lpAt (bodyOf Tryz.f166) [0])]) (by kernel_rfl) (LInv.cons (b := (lpAt (bodyOf Tryz.f166) [0])) (by kernel_rfl) (lp166_29 k hP hm hg) LInv.nil))) (ev166 k)
def c161 (k : Nat) : Con := ⟨161, [((.ref T_l22Read), true)], [(.int .i64)], (.own true), fun x => spec_l22Read_one x.1⟩
def F161 (k : Nat) : List Con := []
theorem okF161 (k : Nat) : ∀ cn ∈ F161 k, ConOk Tryz.prog cn := conNil
theorem ev161 (k : Nat) (x) : evF Tryz.prog (F161 k) (inlN Tryz.prog (F161 k) 4) [] Tryz.f161 (bodyOf Tryz.f161) (c161 k).ps (c161 k).rs (c161 k).rm x = (c161 k).m x := by kernel_rfl
theorem ok161 (k : Nat) : ConOk Tryz.prog (c161 k) :=
  fn_at (okF161 k) (cn := c161 k) (fn := Tryz.f161) (code := bodyOf Tryz.f161) (m := ⟨35, [(0, 0)]⟩) (gs := [.ptr 0 0 0]) (by kernel_rfl) (by kernel_rfl) (by kernel_rfl) (by kernel_rfl) (by kernel_rfl) (fun _ => by kernel_rfl)
    [] (fun c hP hm hg => (LInv.of (code := (bodyOf Tryz.f161)) (bs := []) (by kernel_rfl) LInv.nil)) (ev161 k)
def c162 (k : Nat) : Con := ⟨162, [((.ref T_l22Read), true)], [(.int .i64)], (.own true), fun x => spec_l22Read_two x.1⟩
def F162 (k : Nat) : List Con := [c161 k]
theorem okF162 (k : Nat) : ∀ cn ∈ F162 k, ConOk Tryz.prog cn := (conCons (ok161 k) conNil)
theorem ev162 (k : Nat) (x) : evF Tryz.prog (F162 k) (inlN Tryz.prog (F162 k) 4) [] Tryz.f162 (bodyOf Tryz.f162) (c162 k).ps (c162 k).rs (c162 k).rm x = (c162 k).m x := by kernel_rfl
theorem ok162 (k : Nat) : ConOk Tryz.prog (c162 k) :=
  fn_at (okF162 k) (cn := c162 k) (fn := Tryz.f162) (code := bodyOf Tryz.f162) (m := ⟨11, [(0, 0)]⟩) (gs := [.ptr 0 0 0]) (by kernel_rfl) (by kernel_rfl) (by kernel_rfl) (by kernel_rfl) (by kernel_rfl) (fun _ => by kernel_rfl)
    [] (fun c hP hm hg => (LInv.of (code := (bodyOf Tryz.f162)) (bs := []) (by kernel_rfl) LInv.nil)) (ev162 k)
def c163 (k : Nat) : Con := ⟨163, [((.ref T_l22Read), true)], [T_Prefix], (.own true), fun x => spec_l22Read_prefix k x.1⟩
def F163 (k : Nat) : List Con := [c161 k, c87 k]
theorem okF163 (k : Nat) : ∀ cn ∈ F163 k, ConOk Tryz.prog cn := (conCons (ok161 k) (conCons (ok87 k) conNil))
theorem ev163 (k : Nat) (x) : evF Tryz.prog (F163 k) (inlN Tryz.prog (F163 k) 4) [] Tryz.f163 (bodyOf Tryz.f163) (c163 k).ps (c163 k).rs (c163 k).rm x = (c163 k).m x := by kernel_rfl
theorem ok163 (k : Nat) : ConOk Tryz.prog (c163 k) :=
  fn_at (okF163 k) (cn := c163 k) (fn := Tryz.f163) (code := bodyOf Tryz.f163) (m := ⟨79, [(0, 0)]⟩) (gs := [.ptr 0 0 0]) (by kernel_rfl) (by kernel_rfl) (by kernel_rfl) (by kernel_rfl) (by kernel_rfl) (fun _ => by kernel_rfl)
    [] (fun c hP hm hg => (LInv.of (code := (bodyOf Tryz.f163)) (bs := []) (by kernel_rfl) LInv.nil)) (ev163 k)
def c164 (k : Nat) : Con := ⟨164, [((.ref T_l22Read), true)], [(.int .i64)], (.own true), fun x => spec_l22Read_proto x.1⟩
def F164 (k : Nat) : List Con := [c162 k]
theorem okF164 (k : Nat) : ∀ cn ∈ F164 k, ConOk Tryz.prog cn := (conCons (ok162 k) conNil)
theorem ev164 (k : Nat) (x) : evF Tryz.prog (F164 k) (inlN Tryz.prog (F164 k) 4) [] Tryz.f164 (bodyOf Tryz.f164) (c164 k).ps (c164 k).rs (c164 k).rm x = (c164 k).m x := by kernel_rfl
theorem ok164 (k : Nat) : ConOk Tryz.prog (c164 k) :=
  fn_at (okF164 k) (cn := c164 k) (fn := Tryz.f164) (code := bodyOf Tryz.f164) (m := ⟨9, [(0, 0)]⟩) (gs := [.ptr 0 0 0]) (by kernel_rfl) (by kernel_rfl) (by kernel_rfl) (by kernel_rfl) (by kernel_rfl) (fun _ => by kernel_rfl)
    [] (fun c hP hm hg => (LInv.of (code := (bodyOf Tryz.f164)) (bs := []) (by kernel_rfl) LInv.nil)) (ev164 k)
def c165 (k : Nat) : Con := ⟨165, [((.ref T_l22Read), true)], [(.int .i64)], (.own true), fun x => spec_l22Read_four x.1⟩
def F165 (k : Nat) : List Con := [c162 k]
theorem okF165 (k : Nat) : ∀ cn ∈ F165 k, ConOk Tryz.prog cn := (conCons (ok162 k) conNil)
theorem ev165 (k : Nat) (x) : evF Tryz.prog (F165 k) (inlN Tryz.prog (F165 k) 4) [] Tryz.f165 (bodyOf Tryz.f165) (c165 k).ps (c165 k).rs (c165 k).rm x = (c165 k).m x := by kernel_rfl
theorem ok165 (k : Nat) : ConOk Tryz.prog (c165 k) :=
  fn_at (okF165 k) (cn := c165 k) (fn := Tryz.f165) (code := bodyOf Tryz.f165) (m := ⟨11, [(0, 0)]⟩) (gs := [.ptr 0 0 0]) (by kernel_rfl) (by kernel_rfl) (by kernel_rfl) (by kernel_rfl) (by kernel_rfl) (fun _ => by kernel_rfl)
    [] (fun c hP hm hg => (LInv.of (code := (bodyOf Tryz.f165)) (bs := []) (by kernel_rfl) LInv.nil)) (ev165 k)
def c68 (k : Nat) : Con := ⟨68, [((.sl (.int .u8)), false)], [T_Cmd, (.int .i64)], (.own true), fun x => spec_CmdRead k x.1⟩
def F68 (k : Nat) : List Con := [c159 k, c160 k, c161 k, c166 k, c167 k, c162 k, c163 k, c164 k, c165 k]
theorem okF68 (k : Nat) : ∀ cn ∈ F68 k, ConOk Tryz.prog cn := (conCons (ok159 k) (conCons (ok160 k) (conCons (ok161 k) (conCons (ok166 k) (conCons (ok167 k) (conCons (ok162 k) (conCons (ok163 k) (conCons (ok164 k) (conCons (ok165 k) conNil)))))))))
abbrev S68_42 : Shape := [(0, .v (.sl (.int .u8))), (2, .box true T_Cmd), (7, .boxv T_l22Read), (8, .box true T_Cmd), (9, .v (.int .i64))]
abbrev X68_42 : Exit × Shape := (Exit.exit 1, [(0, .v (.sl (.int .u8))), (2, .box true T_Cmd), (7, .boxv T_l22Read), (8, .box true T_Cmd)])
abbrev R68_42 : List (Exit × Shape) := []
def lo68_42 (k : Nat) : LO := loopO [] [] [] S68_42 X68_42 R68_42 (iter (spec_CmdRead_s42 k) k)
theorem st68_42 (k : Nat) (rec v) : evC Tryz.prog ⟨194, []⟩ (F68 k) (inlN Tryz.prog (F68 k) 4) [] (lpAt (bodyOf Tryz.f68) [0]) (Kb [] [] [] S68_42 X68_42 R68_42 rec) (mkSt [] [] S68_42 v.1 v.2) = (spec_CmdRead_s42 k) rec v := by kernel_rfl
theorem lp68_42 (k : Nat) {c : Cx} (hP : c.P = Tryz.prog) (hm : c.m = ⟨194, []⟩) (hg : c.gs = []) : LoopOk c (lo68_42 k) (lpAt (bodyOf Tryz.f68) [0]) :=
  loop_at hP hm hg (okF68 k) (LInv.of (code := (lpAt (bodyOf Tryz.f68) [0])) (bs := []) (by kernel_rfl) LInv.nil) (fun rec v => st68_42 k rec v) k
theorem ev68 (k : Nat) (x) : evF Tryz.prog (F68 k) (inlN Tryz.prog (F68 k) 4) [(42, lo68_42 k)] Tryz.f68 (bodyOf Tryz.f68) (c68 k).ps (c68 k).rs (c68 k).rm x = (c68 k).m x := by kernel_rfl
theorem ok68 (k : Nat) : ConOk Tryz.prog (c68 k) :=
  fn_at (okF68 k) (cn := c68 k) (fn := Tryz.f68) (code := bodyOf Tryz.f68) (m := ⟨194, []⟩) (gs := []) (by kernel_rfl) (by kernel_rfl) (by kernel_rfl) (by kernel_rfl) (by kernel_rfl) (fun _ => by kernel_rfl)
    [(42, lo68_42 k)] (fun c hP hm hg => (LInv.of (code := (bodyOf Tryz.f68)) (bs := [(lpAt (bodyOf Tryz.f68) [0])]) (by kernel_rfl) (LInv.cons (b := (lpAt (bodyOf Tryz.f68) [0])) (by kernel_rfl) (lp68_42 k hP hm hg) LInv.nil))) (ev68 k)
def c12 (k : Nat) : Con := ⟨12, [((.sl T_Event), false), ((.int .i64), false), ((.int .i64), false)], [(.sl T_Module)], (.own true), fun x => spec_ChainAt k x.1 x.2.1 x.2.2.1⟩
def F12 (k : Nat) : List Con := [c67 k, c68 k]
theorem okF12 (k : Nat) : ∀ cn ∈ F12 k, ConOk Tryz.prog cn := (conCons (ok67 k) (conCons (ok68 k) conNil))
abbrev S12_5 : Shape := [(0, .v (.sl T_Event)), (1, .v (.int .i64)), (2, .v (.int .i64)), (7, .own true (.sl T_Module)), (8, .v (.int .i64))]
abbrev X12_5 : Exit × Shape := (Exit.exit 0, [(7, .own true (.sl T_Module))])
abbrev R12_5 : List (Exit × Shape) := []
def lo12_5 (k : Nat) : LO := loopO [] [] [] S12_5 X12_5 R12_5 (iter (spec_ChainAt_s5 k) k)
theorem st12_5 (k : Nat) (rec v) : evC Tryz.prog ⟨66, []⟩ (F12 k) (inlN Tryz.prog (F12 k) 4) [] (lpAt (bodyOf Tryz.f12) [0]) (Kb [] [] [] S12_5 X12_5 R12_5 rec) (mkSt [] [] S12_5 v.1 v.2) = (spec_ChainAt_s5 k) rec v := by kernel_rfl
theorem lp12_5 (k : Nat) {c : Cx} (hP : c.P = Tryz.prog) (hm : c.m = ⟨66, []⟩) (hg : c.gs = []) : LoopOk c (lo12_5 k) (lpAt (bodyOf Tryz.f12) [0]) :=
  loop_at hP hm hg (okF12 k) (LInv.of (code := (lpAt (bodyOf Tryz.f12) [0])) (bs := []) (by kernel_rfl) LInv.nil) (fun rec v => st12_5 k rec v) k
theorem ev12 (k : Nat) (x) : evF Tryz.prog (F12 k) (inlN Tryz.prog (F12 k) 4) [(5, lo12_5 k)] Tryz.f12 (bodyOf Tryz.f12) (c12 k).ps (c12 k).rs (c12 k).rm x = (c12 k).m x := by kernel_rfl
theorem ok12 (k : Nat) : ConOk Tryz.prog (c12 k) :=
  fn_at (okF12 k) (cn := c12 k) (fn := Tryz.f12) (code := bodyOf Tryz.f12) (m := ⟨66, []⟩) (gs := []) (by kernel_rfl) (by kernel_rfl) (by kernel_rfl) (by kernel_rfl) (by kernel_rfl) (fun _ => by kernel_rfl)
    [(5, lo12_5 k)] (fun c hP hm hg => (LInv.of (code := (bodyOf Tryz.f12)) (bs := [(lpAt (bodyOf Tryz.f12) [0])]) (by kernel_rfl) (LInv.cons (b := (lpAt (bodyOf Tryz.f12) [0])) (by kernel_rfl) (lp12_5 k hP hm hg) LInv.nil))) (ev12 k)
def c71 (k : Nat) : Con := ⟨71, [((.int .i64), false), ((.int .i64), false), ((.int .i64), false)], [.bool], (.own true), fun x => impl_within x.1 x.2.1 x.2.2.1⟩
def F71 (k : Nat) : List Con := []
theorem okF71 (k : Nat) : ∀ cn ∈ F71 k, ConOk Tryz.prog cn := conNil
theorem ev71 (k : Nat) (x) : evF Tryz.prog (F71 k) (inlN Tryz.prog (F71 k) 4) [] Tryz.f71 (bodyOf Tryz.f71) (c71 k).ps (c71 k).rs (c71 k).rm x = (c71 k).m x := by kernel_rfl
theorem ok71 (k : Nat) : ConOk Tryz.prog (c71 k) :=
  fn_at (okF71 k) (cn := c71 k) (fn := Tryz.f71) (code := bodyOf Tryz.f71) (m := ⟨15, []⟩) (gs := []) (by kernel_rfl) (by kernel_rfl) (by kernel_rfl) (by kernel_rfl) (by kernel_rfl) (fun _ => by kernel_rfl)
    [] (fun c hP hm hg => (LInv.of (code := (bodyOf Tryz.f71)) (bs := []) (by kernel_rfl) LInv.nil)) (ev71 k)
def c235 (k : Nat) : Con := ⟨235, [(T_Event, false)], [.bool], (.own true), fun x => impl_eventOk x.1⟩
def F235 (k : Nat) : List Con := [c71 k]
theorem okF235 (k : Nat) : ∀ cn ∈ F235 k, ConOk Tryz.prog cn := (conCons (ok71 k) conNil)
theorem ev235 (k : Nat) (x) : evF Tryz.prog (F235 k) (inlN Tryz.prog (F235 k) 4) [] Tryz.f235 (bodyOf Tryz.f235) (c235 k).ps (c235 k).rs (c235 k).rm x = (c235 k).m x := by kernel_rfl
theorem ok235 (k : Nat) : ConOk Tryz.prog (c235 k) :=
  fn_at (okF235 k) (cn := c235 k) (fn := Tryz.f235) (code := bodyOf Tryz.f235) (m := ⟨67, []⟩) (gs := []) (by kernel_rfl) (by kernel_rfl) (by kernel_rfl) (by kernel_rfl) (by kernel_rfl) (fun _ => by kernel_rfl)
    [] (fun c hP hm hg => (LInv.of (code := (bodyOf Tryz.f235)) (bs := []) (by kernel_rfl) LInv.nil)) (ev235 k)
def c131 (k : Nat) : Con := ⟨131, [((.sl T_Event), false)], [.bool], (.own true), fun x => impl_EventsOk k x.1⟩
def F131 (k : Nat) : List Con := [c235 k]
theorem okF131 (k : Nat) : ∀ cn ∈ F131 k, ConOk Tryz.prog cn := (conCons (ok235 k) conNil)
abbrev S131_3 : Shape := [(0, .v (.sl T_Event)), (3, .v (.int .i64)), (6, .v (.sl T_Event)), (7, .v (.int .i64)), (8, .v (.int .i64))]
abbrev X131_3 : Exit × Shape := (Exit.ret, [(2, .v .bool)])
abbrev R131_3 : List (Exit × Shape) := [(Exit.exit 0, [(0, .v (.sl T_Event)), (3, .v (.int .i64))])]
def lo131_3 (k : Nat) : LO := loopO [] [] [] S131_3 X131_3 R131_3 (iter (impl_EventsOk_s3) k)
theorem st131_3 (k : Nat) (rec v) : evC Tryz.prog ⟨27, []⟩ (F131 k) (inlN Tryz.prog (F131 k) 4) [] (lpAt (bodyOf Tryz.f131) [0]) (Kb [] [] [] S131_3 X131_3 R131_3 rec) (mkSt [] [] S131_3 v.1 v.2) = (impl_EventsOk_s3) rec v := by kernel_rfl
theorem lp131_3 (k : Nat) {c : Cx} (hP : c.P = Tryz.prog) (hm : c.m = ⟨27, []⟩) (hg : c.gs = []) : LoopOk c (lo131_3 k) (lpAt (bodyOf Tryz.f131) [0]) :=
  loop_at hP hm hg (okF131 k) (LInv.of (code := (lpAt (bodyOf Tryz.f131) [0])) (bs := []) (by kernel_rfl) LInv.nil) (fun rec v => st131_3 k rec v) k
theorem ev131 (k : Nat) (x) : evF Tryz.prog (F131 k) (inlN Tryz.prog (F131 k) 4) [(3, lo131_3 k)] Tryz.f131 (bodyOf Tryz.f131) (c131 k).ps (c131 k).rs (c131 k).rm x = (c131 k).m x := by kernel_rfl
theorem ok131 (k : Nat) : ConOk Tryz.prog (c131 k) :=
  fn_at (okF131 k) (cn := c131 k) (fn := Tryz.f131) (code := bodyOf Tryz.f131) (m := ⟨27, []⟩) (gs := []) (by kernel_rfl) (by kernel_rfl) (by kernel_rfl) (by kernel_rfl) (by kernel_rfl) (fun _ => by kernel_rfl)
    [(3, lo131_3 k)] (fun c hP hm hg => (LInv.of (code := (bodyOf Tryz.f131)) (bs := [(lpAt (bodyOf Tryz.f131) [0])]) (by kernel_rfl) (LInv.cons (b := (lpAt (bodyOf Tryz.f131) [0])) (by kernel_rfl) (lp131_3 k hP hm hg) LInv.nil))) (ev131 k)
def c217 (k : Nat) : Con := ⟨217, [((.sl (.int .u8)), false)], [(.int .i64)], (.own true), fun x => impl_beOf k x.1⟩
def F217 (k : Nat) : List Con := []
theorem okF217 (k : Nat) : ∀ cn ∈ F217 k, ConOk Tryz.prog cn := conNil
abbrev S217_3 : Shape := [(3, .v (.int .i64)), (6, .v (.sl (.int .u8))), (7, .v (.int .i64)), (8, .v (.int .i64))]
abbrev X217_3 : Exit × Shape := (Exit.exit 0, [(3, .v (.int .i64))])
abbrev R217_3 : List (Exit × Shape) := []
def lo217_3 (k : Nat) : LO := loopO [] [] [] S217_3 X217_3 R217_3 (iter (impl_beOf_s3) k)
theorem st217_3 (k : Nat) (rec v) : evC Tryz.prog ⟨19, []⟩ (F217 k) (inlN Tryz.prog (F217 k) 4) [] (lpAt (bodyOf Tryz.f217) [0]) (Kb [] [] [] S217_3 X217_3 R217_3 rec) (mkSt [] [] S217_3 v.1 v.2) = (impl_beOf_s3) rec v := by kernel_rfl
theorem lp217_3 (k : Nat) {c : Cx} (hP : c.P = Tryz.prog) (hm : c.m = ⟨19, []⟩) (hg : c.gs = []) : LoopOk c (lo217_3 k) (lpAt (bodyOf Tryz.f217) [0]) :=
  loop_at hP hm hg (okF217 k) (LInv.of (code := (lpAt (bodyOf Tryz.f217) [0])) (bs := []) (by kernel_rfl) LInv.nil) (fun rec v => st217_3 k rec v) k
theorem ev217 (k : Nat) (x) : evF Tryz.prog (F217 k) (inlN Tryz.prog (F217 k) 4) [(3, lo217_3 k)] Tryz.f217 (bodyOf Tryz.f217) (c217 k).ps (c217 k).rs (c217 k).rm x = (c217 k).m x := by kernel_rfl
theorem ok217 (k : Nat) : ConOk Tryz.prog (c217 k) :=
  fn_at (okF217 k) (cn := c217 k) (fn := Tryz.f217) (code := bodyOf Tryz.f217) (m := ⟨19, []⟩) (gs := []) (by kernel_rfl) (by kernel_rfl) (by kernel_rfl) (by kernel_rfl) (by kernel_rfl) (fun _ => by kernel_rfl)
    [(3, lo217_3 k)] (fun c hP hm hg => (LInv.of (code := (bodyOf Tryz.f217)) (bs := [(lpAt (bodyOf Tryz.f217) [0])]) (by kernel_rfl) (LInv.cons (b := (lpAt (bodyOf Tryz.f217) [0])) (by kernel_rfl) (lp217_3 k hP hm hg) LInv.nil))) (ev217 k)
def c206 (k : Nat) : Con := ⟨206, [((.int .i64), false), ((.int .i64), false)], [(.int .i64)], (.own true), fun x => impl_sum x.1 x.2.1⟩
def F206 (k : Nat) : List Con := []
theorem okF206 (k : Nat) : ∀ cn ∈ F206 k, ConOk Tryz.prog cn := conNil
theorem ev206 (k : Nat) (x) : evF Tryz.prog (F206 k) (inlN Tryz.prog (F206 k) 4) [] Tryz.f206 (bodyOf Tryz.f206) (c206 k).ps (c206 k).rs (c206 k).rm x = (c206 k).m x := by kernel_rfl
theorem ok206 (k : Nat) : ConOk Tryz.prog (c206 k) :=
  fn_at (okF206 k) (cn := c206 k) (fn := Tryz.f206) (code := bodyOf Tryz.f206) (m := ⟨16, []⟩) (gs := []) (by kernel_rfl) (by kernel_rfl) (by kernel_rfl) (by kernel_rfl) (by kernel_rfl) (fun _ => by kernel_rfl)
    [] (fun c hP hm hg => (LInv.of (code := (bodyOf Tryz.f206)) (bs := []) (by kernel_rfl) LInv.nil)) (ev206 k)
def c301 (k : Nat) : Con := ⟨301, [((.sl (.int .u8)), false)], [(.int .i64)], (.own true), fun x => impl_onesSum k x.1⟩
def F301 (k : Nat) : List Con := [c206 k]
theorem okF301 (k : Nat) : ∀ cn ∈ F301 k, ConOk Tryz.prog cn := (conCons (ok206 k) conNil)
abbrev S301_3 : Shape := [(0, .v (.sl (.int .u8))), (3, .v (.int .i64)), (4, .v (.int .i64))]
abbrev X301_3 : Exit × Shape := (Exit.exit 0, [(3, .v (.int .i64))])
abbrev R301_3 : List (Exit × Shape) := []
def lo301_3 (k : Nat) : LO := loopO [] [] [] S301_3 X301_3 R301_3 (iter (impl_onesSum_s3) k)
theorem st301_3 (k : Nat) (rec v) : evC Tryz.prog ⟨35, []⟩ (F301 k) (inlN Tryz.prog (F301 k) 4) [] (lpAt (bodyOf Tryz.f301) [0]) (Kb [] [] [] S301_3 X301_3 R301_3 rec) (mkSt [] [] S301_3 v.1 v.2) = (impl_onesSum_s3) rec v := by kernel_rfl
theorem lp301_3 (k : Nat) {c : Cx} (hP : c.P = Tryz.prog) (hm : c.m = ⟨35, []⟩) (hg : c.gs = []) : LoopOk c (lo301_3 k) (lpAt (bodyOf Tryz.f301) [0]) :=
  loop_at hP hm hg (okF301 k) (LInv.of (code := (lpAt (bodyOf Tryz.f301) [0])) (bs := []) (by kernel_rfl) LInv.nil) (fun rec v => st301_3 k rec v) k
theorem ev301 (k : Nat) (x) : evF Tryz.prog (F301 k) (inlN Tryz.prog (F301 k) 4) [(3, lo301_3 k)] Tryz.f301 (bodyOf Tryz.f301) (c301 k).ps (c301 k).rs (c301 k).rm x = (c301 k).m x := by kernel_rfl
theorem ok301 (k : Nat) : ConOk Tryz.prog (c301 k) :=
  fn_at (okF301 k) (cn := c301 k) (fn := Tryz.f301) (code := bodyOf Tryz.f301) (m := ⟨35, []⟩) (gs := []) (by kernel_rfl) (by kernel_rfl) (by kernel_rfl) (by kernel_rfl) (by kernel_rfl) (fun _ => by kernel_rfl)
    [(3, lo301_3 k)] (fun c hP hm hg => (LInv.of (code := (bodyOf Tryz.f301)) (bs := [(lpAt (bodyOf Tryz.f301) [0])]) (by kernel_rfl) (LInv.cons (b := (lpAt (bodyOf Tryz.f301) [0])) (by kernel_rfl) (lp301_3 k hP hm hg) LInv.nil))) (ev301 k)
def c263 (k : Nat) : Con := ⟨263, [((.sl (.int .u8)), false)], [(.int .i64)], (.own true), fun x => impl_Checksum k x.1⟩
def F263 (k : Nat) : List Con := [c301 k]
theorem okF263 (k : Nat) : ∀ cn ∈ F263 k, ConOk Tryz.prog cn := (conCons (ok301 k) conNil)
theorem ev263 (k : Nat) (x) : evF Tryz.prog (F263 k) (inlN Tryz.prog (F263 k) 4) [] Tryz.f263 (bodyOf Tryz.f263) (c263 k).ps (c263 k).rs (c263 k).rm x = (c263 k).m x := by kernel_rfl
theorem ok263 (k : Nat) : ConOk Tryz.prog (c263 k) :=
  fn_at (okF263 k) (cn := c263 k) (fn := Tryz.f263) (code := bodyOf Tryz.f263) (m := ⟨9, []⟩) (gs := []) (by kernel_rfl) (by kernel_rfl) (by kernel_rfl) (by kernel_rfl) (by kernel_rfl) (fun _ => by kernel_rfl)
    [] (fun c hP hm hg => (LInv.of (code := (bodyOf Tryz.f263)) (bs := []) (by kernel_rfl) LInv.nil)) (ev263 k)
def c324 (k : Nat) : Con := ⟨324, [((.int .i64), false)], [.bool], (.own true), fun x => impl_isWeight x.1⟩
def F324 (k : Nat) : List Con := [c71 k]
theorem okF324 (k : Nat) : ∀ cn ∈ F324 k, ConOk Tryz.prog cn := (conCons (ok71 k) conNil)
theorem ev324 (k : Nat) (x) : evF Tryz.prog (F324 k) (inlN Tryz.prog (F324 k) 4) [] Tryz.f324 (bodyOf Tryz.f324) (c324 k).ps (c324 k).rs (c324 k).rm x = (c324 k).m x := by kernel_rfl
theorem ok324 (k : Nat) : ConOk Tryz.prog (c324 k) :=
  fn_at (okF324 k) (cn := c324 k) (fn := Tryz.f324) (code := bodyOf Tryz.f324) (m := ⟨5, []⟩) (gs := []) (by kernel_rfl) (by kernel_rfl) (by kernel_rfl) (by kernel_rfl) (by kernel_rfl) (fun _ => by kernel_rfl)
    [] (fun c hP hm hg => (LInv.of (code := (bodyOf Tryz.f324)) (bs := []) (by kernel_rfl) LInv.nil)) (ev324 k)
def c268 (k : Nat) : Con := ⟨268, [((.int .i64), false)], [.bool], (.own true), fun x => impl_areZero_1 x.1⟩
def F268 (k : Nat) : List Con := []
theorem okF268 (k : Nat) : ∀ cn ∈ F268 k, ConOk Tryz.prog cn := conNil
theorem ev268 (k : Nat) (x) : evF Tryz.prog (F268 k) (inlN Tryz.prog (F268 k) 4) [] Tryz.f268 (bodyOf Tryz.f268) (c268 k).ps (c268 k).rs (c268 k).rm x = (c268 k).m x := by kernel_rfl
theorem ok268 (k : Nat) : ConOk Tryz.prog (c268 k) :=
  fn_at (okF268 k) (cn := c268 k) (fn := Tryz.f268) (code := bodyOf Tryz.f268) (m := ⟨5, []⟩) (gs := []) (by kernel_rfl) (by kernel_rfl) (by kernel_rfl) (by kernel_rfl) (by kernel_rfl) (fun _ => by kernel_rfl)
    [] (fun c hP hm hg => (LInv.of (code := (bodyOf Tryz.f268)) (bs := []) (by kernel_rfl) LInv.nil)) (ev268 k)
def c306 (k : Nat) : Con := ⟨306, [((.sl (.int .i64)), false), ((.cl 268 .un), false)], [(.int .i64)], (.own true), fun x => slices_IndexFunc_int k x.1 x.2.1⟩
def F306 (k : Nat) : List Con := [c268 k]
theorem okF306 (k : Nat) : ∀ cn ∈ F306 k, ConOk Tryz.prog cn := (conCons (ok268 k) conNil)
abbrev S306_2 : Shape := [(0, .v (.sl (.int .i64))), (1, .v (.cl 268 .un)), (7, .v (.int .i64)), (8, .v (.int .i64))]
abbrev X306_2 : Exit × Shape := (Exit.ret, [(4, .v (.int .i64))])
abbrev R306_2 : List (Exit × Shape) := [(Exit.exit 0, [])]
def lo306_2 (k : Nat) : LO := loopO [] [] [] S306_2 X306_2 R306_2 (iter (slices_IndexFunc_int_s2) k)
theorem st306_2 (k : Nat) (rec v) : evC Tryz.prog ⟨19, []⟩ (F306 k) (inlN Tryz.prog (F306 k) 4) [] (lpAt (bodyOf Tryz.f306) [0]) (Kb [] [] [] S306_2 X306_2 R306_2 rec) (mkSt [] [] S306_2 v.1 v.2) = (slices_IndexFunc_int_s2) rec v := by kernel_rfl
theorem lp306_2 (k : Nat) {c : Cx} (hP : c.P = Tryz.prog) (hm : c.m = ⟨19, []⟩) (hg : c.gs = []) : LoopOk c (lo306_2 k) (lpAt (bodyOf Tryz.f306) [0]) :=
  loop_at hP hm hg (okF306 k) (LInv.of (code := (lpAt (bodyOf Tryz.f306) [0])) (bs := []) (by kernel_rfl) LInv.nil) (fun rec v => st306_2 k rec v) k
theorem ev306 (k : Nat) (x) : evF Tryz.prog (F306 k) (inlN Tryz.prog (F306 k) 4) [(2, lo306_2 k)] Tryz.f306 (bodyOf Tryz.f306) (c306 k).ps (c306 k).rs (c306 k).rm x = (c306 k).m x := by kernel_rfl
theorem ok306 (k : Nat) : ConOk Tryz.prog (c306 k) :=
  fn_at (okF306 k) (cn := c306 k) (fn := Tryz.f306) (code := bodyOf Tryz.f306) (m := ⟨19, []⟩) (gs := []) (by kernel_rfl) (by kernel_rfl) (by kernel_rfl) (by kernel_rfl) (by kernel_rfl) (fun _ => by kernel_rfl)
    [(2, lo306_2 k)] (fun c hP hm hg => (LInv.of (code := (bodyOf Tryz.f306)) (bs := [(lpAt (bodyOf Tryz.f306) [0])]) (by kernel_rfl) (LInv.cons (b := (lpAt (bodyOf Tryz.f306) [0])) (by kernel_rfl) (lp306_2 k hP hm hg) LInv.nil))) (ev306 k)
def c254 (k : Nat) : Con := ⟨254, [((.sl (.int .i64)), false), ((.cl 268 .un), false)], [.bool], (.own true), fun x => slices_ContainsFunc_int k x.1 x.2.1⟩
def F254 (k : Nat) : List Con := [c306 k]
theorem okF254 (k : Nat) : ∀ cn ∈ F254 k, ConOk Tryz.prog cn := (conCons (ok306 k) conNil)
theorem ev254 (k : Nat) (x) : evF Tryz.prog (F254 k) (inlN Tryz.prog (F254 k) 4) [] Tryz.f254 (bodyOf Tryz.f254) (c254 k).ps (c254 k).rs (c254 k).rm x = (c254 k).m x := by kernel_rfl
theorem ok254 (k : Nat) : ConOk Tryz.prog (c254 k) :=
  fn_at (okF254 k) (cn := c254 k) (fn := Tryz.f254) (code := bodyOf Tryz.f254) (m := ⟨9, []⟩) (gs := []) (by kernel_rfl) (by kernel_rfl) (by kernel_rfl) (by kernel_rfl) (by kernel_rfl) (fun _ => by kernel_rfl)
    [] (fun c hP hm hg => (LInv.of (code := (bodyOf Tryz.f254)) (bs := []) (by kernel_rfl) LInv.nil)) (ev254 k)
def c176 (k : Nat) : Con := ⟨176, [((.sl (.int .i64)), false)], [.bool], (.own true), fun x => impl_areZero k x.1⟩
def F176 (k : Nat) : List Con := [c254 k]
theorem okF176 (k : Nat) : ∀ cn ∈ F176 k, ConOk Tryz.prog cn := (conCons (ok254 k) conNil)
theorem ev176 (k : Nat) (x) : evF Tryz.prog (F176 k) (inlN Tryz.prog (F176 k) 4) [] Tryz.f176 (bodyOf Tryz.f176) (c176 k).ps (c176 k).rs (c176 k).rm x = (c176 k).m x := by kernel_rfl
theorem ok176 (k : Nat) : ConOk Tryz.prog (c176 k) :=
  fn_at (okF176 k) (cn := c176 k) (fn := Tryz.f176) (code := bodyOf Tryz.f176) (m := ⟨6, []⟩) (gs := []) (by kernel_rfl) (by kernel_rfl) (by kernel_rfl) (by kernel_rfl) (by kernel_rfl) (fun _ => by kernel_rfl)
    [] (fun c hP hm hg => (LInv.of (code := (bodyOf Tryz.f176)) (bs := []) (by kernel_rfl) LInv.nil)) (ev176 k)
def c283 (k : Nat) : Con := ⟨283, [(T_Prefix, false)], [.bool], (.own true), fun x => impl_isAny x.1⟩
def F283 (k : Nat) : List Con := []
theorem okF283 (k : Nat) : ∀ cn ∈ F283 k, ConOk Tryz.prog cn := conNil
theorem ev283 (k : Nat) (x) : evF Tryz.prog (F283 k) (inlN Tryz.prog (F283 k) 4) [] Tryz.f283 (bodyOf Tryz.f283) (c283 k).ps (c283 k).rs (c283 k).rm x = (c283 k).m x := by kernel_rfl
theorem ok283 (k : Nat) : ConOk Tryz.prog (c283 k) :=
  fn_at (okF283 k) (cn := c283 k) (fn := Tryz.f283) (code := bodyOf Tryz.f283) (m := ⟨6, []⟩) (gs := []) (by kernel_rfl) (by kernel_rfl) (by kernel_rfl) (by kernel_rfl) (by kernel_rfl) (fun _ => by kernel_rfl)
    [] (fun c hP hm hg => (LInv.of (code := (bodyOf Tryz.f283)) (bs := []) (by kernel_rfl) LInv.nil)) (ev283 k)
def c321 (k : Nat) : Con := ⟨321, [((.int .i64), false)], [.bool], (.own true), fun x => impl_isLong x.1⟩
def F321 (k : Nat) : List Con := [c71 k]
theorem okF321 (k : Nat) : ∀ cn ∈ F321 k, ConOk Tryz.prog cn := (conCons (ok71 k) conNil)
theorem ev321 (k : Nat) (x) : evF Tryz.prog (F321 k) (inlN Tryz.prog (F321 k) 4) [] Tryz.f321 (bodyOf Tryz.f321) (c321 k).ps (c321 k).rs (c321 k).rm x = (c321 k).m x := by kernel_rfl
theorem ok321 (k : Nat) : ConOk Tryz.prog (c321 k) :=
  fn_at (okF321 k) (cn := c321 k) (fn := Tryz.f321) (code := bodyOf Tryz.f321) (m := ⟨5, []⟩) (gs := []) (by kernel_rfl) (by kernel_rfl) (by kernel_rfl) (by kernel_rfl) (by kernel_rfl) (fun _ => by kernel_rfl)
    [] (fun c hP hm hg => (LInv.of (code := (bodyOf Tryz.f321)) (bs := []) (by kernel_rfl) LInv.nil)) (ev321 k)
def c284 (k : Nat) : Con := ⟨284, [(T_Addr, false)], [.bool], (.own true), fun x => impl_AddrOk x.1⟩
def F284 (k : Nat) : List Con := [c321 k]
theorem okF284 (k : Nat) : ∀ cn ∈ F284 k, ConOk Tryz.prog cn := (conCons (ok321 k) conNil)
theorem ev284 (k : Nat) (x) : evF Tryz.prog (F284 k) (inlN Tryz.prog (F284 k) 4) [] Tryz.f284 (bodyOf Tryz.f284) (c284 k).ps (c284 k).rs (c284 k).rm x = (c284 k).m x := by kernel_rfl
theorem ok284 (k : Nat) : ConOk Tryz.prog (c284 k) :=
  fn_at (okF284 k) (cn := c284 k) (fn := Tryz.f284) (code := bodyOf Tryz.f284) (m := ⟨45, []⟩) (gs := []) (by kernel_rfl) (by kernel_rfl) (by kernel_rfl) (by kernel_rfl) (by kernel_rfl) (fun _ => by kernel_rfl)
    [] (fun c hP hm hg => (LInv.of (code := (bodyOf Tryz.f284)) (bs := []) (by kernel_rfl) LInv.nil)) (ev284 k)
def c285 (k : Nat) : Con := ⟨285, [(T_Addr, false)], [(.int .i64)], (.own true), fun x => impl_bitsOf x.1⟩
def F285 (k : Nat) : List Con := []
theorem okF285 (k : Nat) : ∀ cn ∈ F285 k, ConOk Tryz.prog cn := conNil
theorem ev285 (k : Nat) (x) : evF Tryz.prog (F285 k) (inlN Tryz.prog (F285 k) 4) [] Tryz.f285 (bodyOf Tryz.f285) (c285 k).ps (c285 k).rs (c285 k).rm x = (c285 k).m x := by kernel_rfl
theorem ok285 (k : Nat) : ConOk Tryz.prog (c285 k) :=
  fn_at (okF285 k) (cn := c285 k) (fn := Tryz.f285) (code := bodyOf Tryz.f285) (m := ⟨6, []⟩) (gs := []) (by kernel_rfl) (by kernel_rfl) (by kernel_rfl) (by kernel_rfl) (by kernel_rfl) (fun _ => by kernel_rfl)
    [] (fun c hP hm hg => (LInv.of (code := (bodyOf Tryz.f285)) (bs := []) (by kernel_rfl) LInv.nil)) (ev285 k)
def c205 (k : Nat) : Con := ⟨205, [((.int .i64), false), ((.int .i64), false)], [(.sl (.int .u8))], (.own true), fun x => impl_put k x.1 x.2.1⟩
def F205 (k : Nat) : List Con := []
theorem okF205 (k : Nat) : ∀ cn ∈ F205 k, ConOk Tryz.prog cn := conNil
abbrev S205_3 : Shape := [(0, .v (.int .i64)), (1, .v (.int .i64)), (5, .own true (.sl (.int .u8))), (10, .v (.int .i64)), (11, .v (.int .i64))]
abbrev X205_3 : Exit × Shape := (Exit.exit 0, [(5, .own true (.sl (.int .u8)))])
abbrev R205_3 : List (Exit × Shape) := []
def lo205_3 (k : Nat) : LO := loopO [] [] [] S205_3 X205_3 R205_3 (iter (impl_put_s3) k)
theorem st205_3 (k : Nat) (rec v) : evC Tryz.prog ⟨27, []⟩ (F205 k) (inlN Tryz.prog (F205 k) 4) [] (lpAt (bodyOf Tryz.f205) [0]) (Kb [] [] [] S205_3 X205_3 R205_3 rec) (mkSt [] [] S205_3 v.1 v.2) = (impl_put_s3) rec v := by kernel_rfl
theorem lp205_3 (k : Nat) {c : Cx} (hP : c.P = Tryz.prog) (hm : c.m = ⟨27, []⟩) (hg : c.gs = []) : LoopOk c (lo205_3 k) (lpAt (bodyOf Tryz.f205) [0]) :=
  loop_at hP hm hg (okF205 k) (LInv.of (code := (lpAt (bodyOf Tryz.f205) [0])) (bs := []) (by kernel_rfl) LInv.nil) (fun rec v => st205_3 k rec v) k
theorem ev205 (k : Nat) (x) : evF Tryz.prog (F205 k) (inlN Tryz.prog (F205 k) 4) [(3, lo205_3 k)] Tryz.f205 (bodyOf Tryz.f205) (c205 k).ps (c205 k).rs (c205 k).rm x = (c205 k).m x := by kernel_rfl
theorem ok205 (k : Nat) : ConOk Tryz.prog (c205 k) :=
  fn_at (okF205 k) (cn := c205 k) (fn := Tryz.f205) (code := bodyOf Tryz.f205) (m := ⟨27, []⟩) (gs := []) (by kernel_rfl) (by kernel_rfl) (by kernel_rfl) (by kernel_rfl) (by kernel_rfl) (fun _ => by kernel_rfl)
    [(3, lo205_3 k)] (fun c hP hm hg => (LInv.of (code := (bodyOf Tryz.f205)) (bs := [(lpAt (bodyOf Tryz.f205) [0])]) (by kernel_rfl) (LInv.cons (b := (lpAt (bodyOf Tryz.f205) [0])) (by kernel_rfl) (lp205_3 k hP hm hg) LInv.nil))) (ev205 k)
def c316 (k : Nat) : Con := ⟨316, [((.int .i64), false)], [(.sl (.int .u8))], (.own true), fun x => impl_Put32 k x.1⟩
def F316 (k : Nat) : List Con := [c205 k]
theorem okF316 (k : Nat) : ∀ cn ∈ F316 k, ConOk Tryz.prog cn := (conCons (ok205 k) conNil)
theorem ev316 (k : Nat) (x) : evF Tryz.prog (F316 k) (inlN Tryz.prog (F316 k) 4) [] Tryz.f316 (bodyOf Tryz.f316) (c316 k).ps (c316 k).rs (c316 k).rm x = (c316 k).m x := by kernel_rfl
theorem ok316 (k : Nat) : ConOk Tryz.prog (c316 k) :=
  fn_at (okF316 k) (cn := c316 k) (fn := Tryz.f316) (code := bodyOf Tryz.f316) (m := ⟨5, []⟩) (gs := []) (by kernel_rfl) (by kernel_rfl) (by kernel_rfl) (by kernel_rfl) (by kernel_rfl) (fun _ => by kernel_rfl)
    [] (fun c hP hm hg => (LInv.of (code := (bodyOf Tryz.f316)) (bs := []) (by kernel_rfl) LInv.nil)) (ev316 k)
def c178 (k : Nat) : Con := ⟨178, [((.sl (.sl (.int .u8))), false)], [(.sl (.int .u8))], (.own true), fun x => slices_Concat_byte_byte k x.1⟩
def F178 (k : Nat) : List Con := []
theorem okF178 (k : Nat) : ∀ cn ∈ F178 k, ConOk Tryz.prog cn := conNil
abbrev S178_3 : Shape := [(0, .v (.sl (.sl (.int .u8)))), (3, .v (.int .i64)), (9, .v (.sl (.sl (.int .u8)))), (10, .v (.int .i64)), (11, .v (.int .i64))]
abbrev X178_3 : Exit × Shape := (Exit.exit 0, [(0, .v (.sl (.sl (.int .u8)))), (3, .v (.int .i64))])
abbrev R178_3 : List (Exit × Shape) := []
def lo178_3 (k : Nat) : LO := loopO [] [] [] S178_3 X178_3 R178_3 (iter (slices_Concat_byte_byte_s3) k)
theorem st178_3 (k : Nat) (rec v) : evC Tryz.prog ⟨36, []⟩ (F178 k) (inlN Tryz.prog (F178 k) 4) [] (lpAt (bodyOf Tryz.f178) [0]) (Kb [] [] [] S178_3 X178_3 R178_3 rec) (mkSt [] [] S178_3 v.1 v.2) = (slices_Concat_byte_byte_s3) rec v := by kernel_rfl
theorem lp178_3 (k : Nat) {c : Cx} (hP : c.P = Tryz.prog) (hm : c.m = ⟨36, []⟩) (hg : c.gs = []) : LoopOk c (lo178_3 k) (lpAt (bodyOf Tryz.f178) [0]) :=
  loop_at hP hm hg (okF178 k) (LInv.of (code := (lpAt (bodyOf Tryz.f178) [0])) (bs := []) (by kernel_rfl) LInv.nil) (fun rec v => st178_3 k rec v) k
abbrev S178_11 : Shape := [(6, .own true (.sl (.int .u8))), (25, .v (.sl (.sl (.int .u8)))), (26, .v (.int .i64)), (27, .v (.int .i64))]
abbrev X178_11 : Exit × Shape := (Exit.exit 2, [(6, .own true (.sl (.int .u8)))])
abbrev R178_11 : List (Exit × Shape) := []
def lo178_11 (k : Nat) : LO := loopO [] [] [] S178_11 X178_11 R178_11 (iter (slices_Concat_byte_byte_s11) k)
theorem st178_11 (k : Nat) (rec v) : evC Tryz.prog ⟨36, []⟩ (F178 k) (inlN Tryz.prog (F178 k) 4) [] (lpAt (bodyOf Tryz.f178) [1]) (Kb [] [] [] S178_11 X178_11 R178_11 rec) (mkSt [] [] S178_11 v.1 v.2) = (slices_Concat_byte_byte_s11) rec v := by kernel_rfl
theorem lp178_11 (k : Nat) {c : Cx} (hP : c.P = Tryz.prog) (hm : c.m = ⟨36, []⟩) (hg : c.gs = []) : LoopOk c (lo178_11 k) (lpAt (bodyOf Tryz.f178) [1]) :=
  loop_at hP hm hg (okF178 k) (LInv.of (code := (lpAt (bodyOf Tryz.f178) [1])) (bs := []) (by kernel_rfl) LInv.nil) (fun rec v => st178_11 k rec v) k
theorem ev178 (k : Nat) (x) : evF Tryz.prog (F178 k) (inlN Tryz.prog (F178 k) 4) [(3, lo178_3 k), (11, lo178_11 k)] Tryz.f178 (bodyOf Tryz.f178) (c178 k).ps (c178 k).rs (c178 k).rm x = (c178 k).m x := by kernel_rfl
theorem ok178 (k : Nat) : ConOk Tryz.prog (c178 k) :=
  fn_at (okF178 k) (cn := c178 k) (fn := Tryz.f178) (code := bodyOf Tryz.f178) (m := ⟨36, []⟩) (gs := []) (by kernel_rfl) (by kernel_rfl) (by kernel_rfl) (by kernel_rfl) (by kernel_rfl) (fun _ => by kernel_rfl)
    [(3, lo178_3 k), (11, lo178_11 k)] (fun c hP hm hg => (LInv.of (code := (bodyOf Tryz.f178)) (bs := [(lpAt (bodyOf Tryz.f178) [0]), (lpAt (bodyOf Tryz.f178) [1])]) (by kernel_rfl) (LInv.cons (b := (lpAt (bodyOf Tryz.f178) [0])) (by kernel_rfl) (lp178_3 k hP hm hg) (LInv.cons (b := (lpAt (bodyOf Tryz.f178) [1])) (by kernel_rfl) (lp178_11 k hP hm hg) LInv.nil)))) (ev178 k)
def c317 (k : Nat) : Con := ⟨317, [(T_Addr, false)], [(.sl (.int .u8))], (.own true), fun x => impl_AddrBytes k x.1⟩
def F317 (k : Nat) : List Con := [c284 k, c316 k, c178 k]
theorem okF317 (k : Nat) : ∀ cn ∈ F317 k, ConOk Tryz.prog cn := (conCons (ok284 k) (conCons (ok316 k) (conCons (ok178 k) conNil)))
theorem ev317 (k : Nat) (x) : evF Tryz.prog (F317 k) (inlN Tryz.prog (F317 k) 4) [] Tryz.f317 (bodyOf Tryz.f317) (c317 k).ps (c317 k).rs (c317 k).rm x = (c317 k).m x := by kernel_rfl
theorem ok317 (k : Nat) : ConOk Tryz.prog (c317 k) :=
  fn_at (okF317 k) (cn := c317 k) (fn := Tryz.f317) (code := bodyOf Tryz.f317) (m := ⟨28, []⟩) (gs := []) (by kernel_rfl) (by kernel_rfl) (by kernel_rfl) (by kernel_rfl) (by kernel_rfl) (fun _ => by kernel_rfl)
    [] (fun c hP hm hg => (LInv.of (code := (bodyOf Tryz.f317)) (bs := []) (by kernel_rfl) LInv.nil)) (ev317 k)
def c322 (k : Nat) : Con := ⟨322, [((.int .i64), false), ((.int .i64), false), ((.int .i64), false)], [(.int .i64)], (.own true), fun x => impl_Clip x.1 x.2.1 x.2.2.1⟩
def F322 (k : Nat) : List Con := []
theorem okF322 (k : Nat) : ∀ cn ∈ F322 k, ConOk Tryz.prog cn := conNil
theorem ev322 (k : Nat) (x) : evF Tryz.prog (F322 k) (inlN Tryz.prog (F322 k) 4) [] Tryz.f322 (bodyOf Tryz.f322) (c322 k).ps (c322 k).rs (c322 k).rm x = (c322 k).m x := by kernel_rfl
theorem ok322 (k : Nat) : ConOk Tryz.prog (c322 k) :=
  fn_at (okF322 k) (cn := c322 k) (fn := Tryz.f322) (code := bodyOf Tryz.f322) (m := ⟨18, []⟩) (gs := []) (by kernel_rfl) (by kernel_rfl) (by kernel_rfl) (by kernel_rfl) (by kernel_rfl) (fun _ => by kernel_rfl)
    [] (fun c hP hm hg => (LInv.of (code := (bodyOf Tryz.f322)) (bs := []) (by kernel_rfl) LInv.nil)) (ev322 k)
def c295 (k : Nat) : Con := ⟨295, [((.sl (.int .u8)), false)], [T_Addr, .bool], (.own true), fun x => impl_AddrOf k x.1⟩
def F295 (k : Nat) : List Con := [c217 k]
theorem okF295 (k : Nat) : ∀ cn ∈ F295 k, ConOk Tryz.prog cn := (conCons (ok217 k) conNil)
theorem ev295 (k : Nat) (x) : evF Tryz.prog (F295 k) (inlN Tryz.prog (F295 k) 4) [] Tryz.f295 (bodyOf Tryz.f295) (c295 k).ps (c295 k).rs (c295 k).rm x = (c295 k).m x := by kernel_rfl
theorem ok295 (k : Nat) : ConOk Tryz.prog (c295 k) :=
  fn_at (okF295 k) (cn := c295 k) (fn := Tryz.f295) (code := bodyOf Tryz.f295) (m := ⟨27, []⟩) (gs := []) (by kernel_rfl) (by kernel_rfl) (by kernel_rfl) (by kernel_rfl) (by kernel_rfl) (fun _ => by kernel_rfl)
    [] (fun c hP hm hg => (LInv.of (code := (bodyOf Tryz.f295)) (bs := []) (by kernel_rfl) LInv.nil)) (ev295 k)
def c286 (k : Nat) : Con := ⟨286, [(T_Addr, false), ((.int .i64), false)], [T_Addr], (.own true), fun x => impl_Cut k x.1 x.2.1⟩
def F286 (k : Nat) : List Con := [c284 k, c285 k, c71 k, c317 k, c322 k, c295 k]
theorem okF286 (k : Nat) : ∀ cn ∈ F286 k, ConOk Tryz.prog cn := (conCons (ok284 k) (conCons (ok285 k) (conCons (ok71 k) (conCons (ok317 k) (conCons (ok322 k) (conCons (ok295 k) conNil))))))
abbrev S286_5 : Shape := [(1, .v (.int .i64)), (4, .box true T_Addr), (5, .own true (.sl (.int .u8))), (24, .v (.int .i64)), (25, .v (.int .i64))]
abbrev X286_5 : Exit × Shape := (Exit.exit 0, [(4, .box true T_Addr), (5, .own true (.sl (.int .u8)))])
abbrev R286_5 : List (Exit × Shape) := []
def lo286_5 (k : Nat) : LO := loopO [] [] [] S286_5 X286_5 R286_5 (iter (impl_Cut_s5) k)
theorem st286_5 (k : Nat) (rec v) : evC Tryz.prog ⟨49, []⟩ (F286 k) (inlN Tryz.prog (F286 k) 4) [] (lpAt (bodyOf Tryz.f286) [0]) (Kb [] [] [] S286_5 X286_5 R286_5 rec) (mkSt [] [] S286_5 v.1 v.2) = (impl_Cut_s5) rec v := by kernel_rfl
theorem lp286_5 (k : Nat) {c : Cx} (hP : c.P = Tryz.prog) (hm : c.m = ⟨49, []⟩) (hg : c.gs = []) : LoopOk c (lo286_5 k) (lpAt (bodyOf Tryz.f286) [0]) :=
  loop_at hP hm hg (okF286 k) (LInv.of (code := (lpAt (bodyOf Tryz.f286) [0])) (bs := []) (by kernel_rfl) LInv.nil) (fun rec v => st286_5 k rec v) k
theorem ev286 (k : Nat) (x) : evF Tryz.prog (F286 k) (inlN Tryz.prog (F286 k) 4) [(5, lo286_5 k)] Tryz.f286 (bodyOf Tryz.f286) (c286 k).ps (c286 k).rs (c286 k).rm x = (c286 k).m x := by kernel_rfl
theorem ok286 (k : Nat) : ConOk Tryz.prog (c286 k) :=
  fn_at (okF286 k) (cn := c286 k) (fn := Tryz.f286) (code := bodyOf Tryz.f286) (m := ⟨49, []⟩) (gs := []) (by kernel_rfl) (by kernel_rfl) (by kernel_rfl) (by kernel_rfl) (by kernel_rfl) (fun _ => by kernel_rfl)
    [(5, lo286_5 k)] (fun c hP hm hg => (LInv.of (code := (bodyOf Tryz.f286)) (bs := [(lpAt (bodyOf Tryz.f286) [0])]) (by kernel_rfl) (LInv.cons (b := (lpAt (bodyOf Tryz.f286) [0])) (by kernel_rfl) (lp286_5 k hP hm hg) LInv.nil))) (ev286 k)
def c196 (k : Nat) : Con := ⟨196, [(T_Prefix, false)], [.bool], (.own true), fun x => impl_PrefixOk k x.1⟩
def F196 (k : Nat) : List Con := [c283 k, c284 k, c285 k, c71 k, c286 k]
theorem okF196 (k : Nat) : ∀ cn ∈ F196 k, ConOk Tryz.prog cn := (conCons (ok283 k) (conCons (ok284 k) (conCons (ok285 k) (conCons (ok71 k) (conCons (ok286 k) conNil)))))
theorem ev196 (k : Nat) (x) : evF Tryz.prog (F196 k) (inlN Tryz.prog (F196 k) 4) [] Tryz.f196 (bodyOf Tryz.f196) (c196 k).ps (c196 k).rs (c196 k).rm x = (c196 k).m x := by kernel_rfl
theorem ok196 (k : Nat) : ConOk Tryz.prog (c196 k) :=
  fn_at (okF196 k) (cn := c196 k) (fn := Tryz.f196) (code := bodyOf Tryz.f196) (m := ⟨28, []⟩) (gs := []) (by kernel_rfl) (by kernel_rfl) (by kernel_rfl) (by kernel_rfl) (by kernel_rfl) (fun _ => by kernel_rfl)
    [] (fun c hP hm hg => (LInv.of (code := (bodyOf Tryz.f196)) (bs := []) (by kernel_rfl) LInv.nil)) (ev196 k)
def c197 (k : Nat) : Con := ⟨197, [((.int .i64), false), ((.int .i64), false)], [.bool], (.own true), fun x => impl_isRange x.1 x.2.1⟩
def F197 (k : Nat) : List Con := []
theorem okF197 (k : Nat) : ∀ cn ∈ F197 k, ConOk Tryz.prog cn := conNil
theorem ev197 (k : Nat) (x) : evF Tryz.prog (F197 k) (inlN Tryz.prog (F197 k) 4) [] Tryz.f197 (bodyOf Tryz.f197) (c197 k).ps (c197 k).rs (c197 k).rm x = (c197 k).m x := by kernel_rfl
theorem ok197 (k : Nat) : ConOk Tryz.prog (c197 k) :=
  fn_at (okF197 k) (cn := c197 k) (fn := Tryz.f197) (code := bodyOf Tryz.f197) (m := ⟨16, []⟩) (gs := []) (by kernel_rfl) (by kernel_rfl) (by kernel_rfl) (by kernel_rfl) (by kernel_rfl) (fun _ => by kernel_rfl)
    [] (fun c hP hm hg => (LInv.of (code := (bodyOf Tryz.f197)) (bs := []) (by kernel_rfl) LInv.nil)) (ev197 k)
def c210 (k : Nat) : Con := ⟨210, [(T_Rule, false)], [.bool], (.own true), fun x => impl_RuleOk k x.1⟩
def F210 (k : Nat) : List Con := [c71 k, c196 k, c197 k]
theorem okF210 (k : Nat) : ∀ cn ∈ F210 k, ConOk Tryz.prog cn := (conCons (ok71 k) (conCons (ok196 k) (conCons (ok197 k) conNil)))
theorem ev210 (k : Nat) (x) : evF Tryz.prog (F210 k) (inlN Tryz.prog (F210 k) 4) [] Tryz.f210 (bodyOf Tryz.f210) (c210 k).ps (c210 k).rs (c210 k).rm x = (c210 k).m x := by kernel_rfl
theorem ok210 (k : Nat) : ConOk Tryz.prog (c210 k) :=
  fn_at (okF210 k) (cn := c210 k) (fn := Tryz.f210) (code := bodyOf Tryz.f210) (m := ⟨54, []⟩) (gs := []) (by kernel_rfl) (by kernel_rfl) (by kernel_rfl) (by kernel_rfl) (by kernel_rfl) (fun _ => by kernel_rfl)
    [] (fun c hP hm hg => (LInv.of (code := (bodyOf Tryz.f210)) (bs := []) (by kernel_rfl) LInv.nil)) (ev210 k)
def c325 (k : Nat) : Con := ⟨325, [(T_Limits, false)], [.bool], (.own true), fun x => impl_LimitsOk x.1⟩
def F325 (k : Nat) : List Con := [c71 k]
theorem okF325 (k : Nat) : ∀ cn ∈ F325 k, ConOk Tryz.prog cn := (conCons (ok71 k) conNil)
theorem ev325 (k : Nat) (x) : evF Tryz.prog (F325 k) (inlN Tryz.prog (F325 k) 4) [] Tryz.f325 (bodyOf Tryz.f325) (c325 k).ps (c325 k).rs (c325 k).rm x = (c325 k).m x := by kernel_rfl
theorem ok325 (k : Nat) : ConOk Tryz.prog (c325 k) :=
  fn_at (okF325 k) (cn := c325 k) (fn := Tryz.f325) (code := bodyOf Tryz.f325) (m := ⟨21, []⟩) (gs := []) (by kernel_rfl) (by kernel_rfl) (by kernel_rfl) (by kernel_rfl) (by kernel_rfl) (fun _ => by kernel_rfl)
    [] (fun c hP hm hg => (LInv.of (code := (bodyOf Tryz.f325)) (bs := []) (by kernel_rfl) LInv.nil)) (ev325 k)
def c198 (k : Nat) : Con := ⟨198, [(T_Prefix, false), (T_Prefix, false)], [.bool], (.own true), fun x => impl_arePairOf k x.1 x.2.1⟩
def F198 (k : Nat) : List Con := [c196 k, c283 k]
theorem okF198 (k : Nat) : ∀ cn ∈ F198 k, ConOk Tryz.prog cn := (conCons (ok196 k) (conCons (ok283 k) conNil))
theorem ev198 (k : Nat) (x) : evF Tryz.prog (F198 k) (inlN Tryz.prog (F198 k) 4) [] Tryz.f198 (bodyOf Tryz.f198) (c198 k).ps (c198 k).rs (c198 k).rm x = (c198 k).m x := by kernel_rfl
theorem ok198 (k : Nat) : ConOk Tryz.prog (c198 k) :=
  fn_at (okF198 k) (cn := c198 k) (fn := Tryz.f198) (code := bodyOf Tryz.f198) (m := ⟨37, []⟩) (gs := []) (by kernel_rfl) (by kernel_rfl) (by kernel_rfl) (by kernel_rfl) (by kernel_rfl) (fun _ => by kernel_rfl)
    [] (fun c hP hm hg => (LInv.of (code := (bodyOf Tryz.f198)) (bs := []) (by kernel_rfl) LInv.nil)) (ev198 k)
def c89 (k : Nat) : Con := ⟨89, [(T_Module, false)], [.bool], (.own true), fun x => impl_ModuleOk k x.1⟩
def F89 (k : Nat) : List Con := [c196 k, c71 k, c197 k, c198 k]
theorem okF89 (k : Nat) : ∀ cn ∈ F89 k, ConOk Tryz.prog cn := (conCons (ok196 k) (conCons (ok71 k) (conCons (ok197 k) (conCons (ok198 k) conNil))))
theorem ev89 (k : Nat) (x) : evF Tryz.prog (F89 k) (inlN Tryz.prog (F89 k) 4) [] Tryz.f89 (bodyOf Tryz.f89) (c89 k).ps (c89 k).rs (c89 k).rm x = (c89 k).m x := by kernel_rfl
theorem ok89 (k : Nat) : ConOk Tryz.prog (c89 k) :=
  fn_at (okF89 k) (cn := c89 k) (fn := Tryz.f89) (code := bodyOf Tryz.f89) (m := ⟨87, []⟩) (gs := []) (by kernel_rfl) (by kernel_rfl) (by kernel_rfl) (by kernel_rfl) (by kernel_rfl) (fun _ => by kernel_rfl)
    [] (fun c hP hm hg => (LInv.of (code := (bodyOf Tryz.f89)) (bs := []) (by kernel_rfl) LInv.nil)) (ev89 k)
def c253 (k : Nat) : Con := ⟨253, [(T_Module, false)], [.bool], (.own true), fun x => impl_ChainOk_1 k x.1⟩
def F253 (k : Nat) : List Con := [c89 k]
theorem okF253 (k : Nat) : ∀ cn ∈ F253 k, ConOk Tryz.prog cn := (conCons (ok89 k) conNil)
theorem ev253 (k : Nat) (x) : evF Tryz.prog (F253 k) (inlN Tryz.prog (F253 k) 4) [] Tryz.f253 (bodyOf Tryz.f253) (c253 k).ps (c253 k).rs (c253 k).rm x = (c253 k).m x := by kernel_rfl
theorem ok253 (k : Nat) : ConOk Tryz.prog (c253 k) :=
  fn_at (okF253 k) (cn := c253 k) (fn := Tryz.f253) (code := bodyOf Tryz.f253) (m := ⟨6, []⟩) (gs := []) (by kernel_rfl) (by kernel_rfl) (by kernel_rfl) (by kernel_rfl) (by kernel_rfl) (fun _ => by kernel_rfl)
    [] (fun c hP hm hg => (LInv.of (code := (bodyOf Tryz.f253)) (bs := []) (by kernel_rfl) LInv.nil)) (ev253 k)
def c305 (k : Nat) : Con := ⟨305, [((.sl T_Module), false), ((.cl 253 .un), false)], [(.int .i64)], (.own true), fun x => slices_IndexFunc_impl_Module_impl_Module k x.1 x.2.1⟩
def F305 (k : Nat) : List Con := [c253 k]
theorem okF305 (k : Nat) : ∀ cn ∈ F305 k, ConOk Tryz.prog cn := (conCons (ok253 k) conNil)
abbrev S305_2 : Shape := [(0, .v (.sl T_Module)), (1, .v (.cl 253 .un)), (7, .v (.int .i64)), (8, .v (.int .i64))]
abbrev X305_2 : Exit × Shape := (Exit.ret, [(4, .v (.int .i64))])
abbrev R305_2 : List (Exit × Shape) := [(Exit.exit 0, [])]
def lo305_2 (k : Nat) : LO := loopO [] [] [] S305_2 X305_2 R305_2 (iter (slices_IndexFunc_impl_Module_impl_Module_s2 k) k)
theorem st305_2 (k : Nat) (rec v) : evC Tryz.prog ⟨19, []⟩ (F305 k) (inlN Tryz.prog (F305 k) 4) [] (lpAt (bodyOf Tryz.f305) [0]) (Kb [] [] [] S305_2 X305_2 R305_2 rec) (mkSt [] [] S305_2 v.1 v.2) = (slices_IndexFunc_impl_Module_impl_Module_s2 k) rec v := by kernel_rfl
theorem lp305_2 (k : Nat) {c : Cx} (hP : c.P = Tryz.prog) (hm : c.m = ⟨19, []⟩) (hg : c.gs = []) : LoopOk c (lo305_2 k) (lpAt (bodyOf Tryz.f305) [0]) :=
  loop_at hP hm hg (okF305 k) (LInv.of (code := (lpAt (bodyOf Tryz.f305) [0])) (bs := []) (by kernel_rfl) LInv.nil) (fun rec v => st305_2 k rec v) k
theorem ev305 (k : Nat) (x) : evF Tryz.prog (F305 k) (inlN Tryz.prog (F305 k) 4) [(2, lo305_2 k)] Tryz.f305 (bodyOf Tryz.f305) (c305 k).ps (c305 k).rs (c305 k).rm x = (c305 k).m x := by kernel_rfl
theorem ok305 (k : Nat) : ConOk Tryz.prog (c305 k) :=
  fn_at (okF305 k) (cn := c305 k) (fn := Tryz.f305) (code := bodyOf Tryz.f305) (m := ⟨19, []⟩) (gs := []) (by kernel_rfl) (by kernel_rfl) (by kernel_rfl) (by kernel_rfl) (by kernel_rfl) (fun _ => by kernel_rfl)
    [(2, lo305_2 k)] (fun c hP hm hg => (LInv.of (code := (bodyOf Tryz.f305)) (bs := [(lpAt (bodyOf Tryz.f305) [0])]) (by kernel_rfl) (LInv.cons (b := (lpAt (bodyOf Tryz.f305) [0])) (by kernel_rfl) (lp305_2 k hP hm hg) LInv.nil))) (ev305 k)
def c252 (k : Nat) : Con := ⟨252, [((.sl T_Module), false), ((.cl 253 .un), false)], [.bool], (.own true), fun x => slices_ContainsFunc_impl_Module_impl_Module k x.1 x.2.1⟩
def F252 (k : Nat) : List Con := [c305 k]
theorem okF252 (k : Nat) : ∀ cn ∈ F252 k, ConOk Tryz.prog cn := (conCons (ok305 k) conNil)
theorem ev252 (k : Nat) (x) : evF Tryz.prog (F252 k) (inlN Tryz.prog (F252 k) 4) [] Tryz.f252 (bodyOf Tryz.f252) (c252 k).ps (c252 k).rs (c252 k).rm x = (c252 k).m x := by kernel_rfl
theorem ok252 (k : Nat) : ConOk Tryz.prog (c252 k) :=
  fn_at (okF252 k) (cn := c252 k) (fn := Tryz.f252) (code := bodyOf Tryz.f252) (m := ⟨9, []⟩) (gs := []) (by kernel_rfl) (by kernel_rfl) (by kernel_rfl) (by kernel_rfl) (by kernel_rfl) (fun _ => by kernel_rfl)
    [] (fun c hP hm hg => (LInv.of (code := (bodyOf Tryz.f252)) (bs := []) (by kernel_rfl) LInv.nil)) (ev252 k)
def c144 (k : Nat) : Con := ⟨144, [((.sl T_Module), false)], [.bool], (.own true), fun x => impl_ChainOk k x.1⟩
def F144 (k : Nat) : List Con := [c252 k]
theorem okF144 (k : Nat) : ∀ cn ∈ F144 k, ConOk Tryz.prog cn := (conCons (ok252 k) conNil)
theorem ev144 (k : Nat) (x) : evF Tryz.prog (F144 k) (inlN Tryz.prog (F144 k) 4) [] Tryz.f144 (bodyOf Tryz.f144) (c144 k).ps (c144 k).rs (c144 k).rm x = (c144 k).m x := by kernel_rfl
theorem ok144 (k : Nat) : ConOk Tryz.prog (c144 k) :=
  fn_at (okF144 k) (cn := c144 k) (fn := Tryz.f144) (code := bodyOf Tryz.f144) (m := ⟨11, []⟩) (gs := []) (by kernel_rfl) (by kernel_rfl) (by kernel_rfl) (by kernel_rfl) (by kernel_rfl) (fun _ => by kernel_rfl)
    [] (fun c hP hm hg => (LInv.of (code := (bodyOf Tryz.f144)) (bs := []) (by kernel_rfl) LInv.nil)) (ev144 k)
def c311 (k : Nat) : Con := ⟨311, [(T_Cmd, false)], [.bool], (.own true), fun x => impl_CmdOk k x.1⟩
def F311 (k : Nat) : List Con := [c71 k, c324 k, c176 k, c210 k, c325 k, c144 k]
theorem okF311 (k : Nat) : ∀ cn ∈ F311 k, ConOk Tryz.prog cn := (conCons (ok71 k) (conCons (ok324 k) (conCons (ok176 k) (conCons (ok210 k) (conCons (ok325 k) (conCons (ok144 k) conNil))))))
theorem ev311 (k : Nat) (x) : evF Tryz.prog (F311 k) (inlN Tryz.prog (F311 k) 4) [] Tryz.f311 (bodyOf Tryz.f311) (c311 k).ps (c311 k).rs (c311 k).rm x = (c311 k).m x := by kernel_rfl
theorem ok311 (k : Nat) : ConOk Tryz.prog (c311 k) :=
  fn_at (okF311 k) (cn := c311 k) (fn := Tryz.f311) (code := bodyOf Tryz.f311) (m := ⟨158, []⟩) (gs := []) (by kernel_rfl) (by kernel_rfl) (by kernel_rfl) (by kernel_rfl) (by kernel_rfl) (fun _ => by kernel_rfl)
    [] (fun c hP hm hg => (LInv.of (code := (bodyOf Tryz.f311)) (bs := []) (by kernel_rfl) LInv.nil)) (ev311 k)
def c204 (k : Nat) : Con := ⟨204, [((.int .i64), false)], [(.sl (.int .u8))], (.own true), fun x => impl_Put16 k x.1⟩
def F204 (k : Nat) : List Con := [c205 k]
theorem okF204 (k : Nat) : ∀ cn ∈ F204 k, ConOk Tryz.prog cn := (conCons (ok205 k) conNil)
theorem ev204 (k : Nat) (x) : evF Tryz.prog (F204 k) (inlN Tryz.prog (F204 k) 4) [] Tryz.f204 (bodyOf Tryz.f204) (c204 k).ps (c204 k).rs (c204 k).rm x = (c204 k).m x := by kernel_rfl
theorem ok204 (k : Nat) : ConOk Tryz.prog (c204 k) :=
  fn_at (okF204 k) (cn := c204 k) (fn := Tryz.f204) (code := bodyOf Tryz.f204) (m := ⟨5, []⟩) (gs := []) (by kernel_rfl) (by kernel_rfl) (by kernel_rfl) (by kernel_rfl) (by kernel_rfl) (fun _ => by kernel_rfl)
    [] (fun c hP hm hg => (LInv.of (code := (bodyOf Tryz.f204)) (bs := []) (by kernel_rfl) LInv.nil)) (ev204 k)
def c326 (k : Nat) : Con := ⟨326, [((.sl (.int .i64)), false)], [(.sl (.int .u8))], (.own true), fun x => impl_put16s k x.1⟩
def F326 (k : Nat) : List Con := [c204 k]
theorem okF326 (k : Nat) : ∀ cn ∈ F326 k, ConOk Tryz.prog cn := (conCons (ok204 k) conNil)
abbrev S326_3 : Shape := [(3, .own true (.sl (.int .u8))), (7, .v (.sl (.int .i64))), (8, .v (.int .i64)), (9, .v (.int .i64))]
abbrev X326_3 : Exit × Shape := (Exit.exit 0, [(3, .own true (.sl (.int .u8)))])
abbrev R326_3 : List (Exit × Shape) := []
def lo326_3 (k : Nat) : LO := loopO [] [] [] S326_3 X326_3 R326_3 (iter (impl_put16s_s3 k) k)
theorem st326_3 (k : Nat) (rec v) : evC Tryz.prog ⟨19, []⟩ (F326 k) (inlN Tryz.prog (F326 k) 4) [] (lpAt (bodyOf Tryz.f326) [0]) (Kb [] [] [] S326_3 X326_3 R326_3 rec) (mkSt [] [] S326_3 v.1 v.2) = (impl_put16s_s3 k) rec v := by kernel_rfl
theorem lp326_3 (k : Nat) {c : Cx} (hP : c.P = Tryz.prog) (hm : c.m = ⟨19, []⟩) (hg : c.gs = []) : LoopOk c (lo326_3 k) (lpAt (bodyOf Tryz.f326) [0]) :=
  loop_at hP hm hg (okF326 k) (LInv.of (code := (lpAt (bodyOf Tryz.f326) [0])) (bs := []) (by kernel_rfl) LInv.nil) (fun rec v => st326_3 k rec v) k
theorem ev326 (k : Nat) (x) : evF Tryz.prog (F326 k) (inlN Tryz.prog (F326 k) 4) [(3, lo326_3 k)] Tryz.f326 (bodyOf Tryz.f326) (c326 k).ps (c326 k).rs (c326 k).rm x = (c326 k).m x := by kernel_rfl
theorem ok326 (k : Nat) : ConOk Tryz.prog (c326 k) :=
  fn_at (okF326 k) (cn := c326 k) (fn := Tryz.f326) (code := bodyOf Tryz.f326) (m := ⟨19, []⟩) (gs := []) (by kernel_rfl) (by kernel_rfl) (by kernel_rfl) (by kernel_rfl) (by kernel_rfl) (fun _ => by kernel_rfl)
    [(3, lo326_3 k)] (fun c hP hm hg => (LInv.of (code := (bodyOf Tryz.f326)) (bs := [(lpAt (bodyOf Tryz.f326) [0])]) (by kernel_rfl) (LInv.cons (b := (lpAt (bodyOf Tryz.f326) [0])) (by kernel_rfl) (lp326_3 k hP hm hg) LInv.nil))) (ev326 k)
def c327 (k : Nat) : Con := ⟨327, [(T_Prefix, false)], [(.sl (.int .u8))], (.own true), fun x => impl_PrefixBytes k x.1⟩
def F327 (k : Nat) : List Con := [c196 k, c283 k, c317 k, c178 k]
theorem okF327 (k : Nat) : ∀ cn ∈ F327 k, ConOk Tryz.prog cn := (conCons (ok196 k) (conCons (ok283 k) (conCons (ok317 k) (conCons (ok178 k) conNil))))
theorem ev327 (k : Nat) (x) : evF Tryz.prog (F327 k) (inlN Tryz.prog (F327 k) 4) [] Tryz.f327 (bodyOf Tryz.f327) (c327 k).ps (c327 k).rs (c327 k).rm x = (c327 k).m x := by kernel_rfl
theorem ok327 (k : Nat) : ConOk Tryz.prog (c327 k) :=
  fn_at (okF327 k) (cn := c327 k) (fn := Tryz.f327) (code := bodyOf Tryz.f327) (m := ⟨25, []⟩) (gs := []) (by kernel_rfl) (by kernel_rfl) (by kernel_rfl) (by kernel_rfl) (by kernel_rfl) (fun _ => by kernel_rfl)
    [] (fun c hP hm hg => (LInv.of (code := (bodyOf Tryz.f327)) (bs := []) (by kernel_rfl) LInv.nil)) (ev327 k)
def c312 (k : Nat) : Con := ⟨312, [(T_Cmd, false)], [(.sl (.int .u8))], (.own true), fun x => impl_bodyOf k x.1⟩
def F312 (k : Nat) : List Con := [c204 k, c326 k, c327 k, c178 k, c316 k]
theorem okF312 (k : Nat) : ∀ cn ∈ F312 k, ConOk Tryz.prog cn := (conCons (ok204 k) (conCons (ok326 k) (conCons (ok327 k) (conCons (ok178 k) (conCons (ok316 k) conNil)))))
abbrev S312_19 : Shape := [(7, .own true (.sl (.int .u8))), (99, .v (.sl T_Module)), (100, .v (.int .i64)), (101, .v (.int .i64))]
abbrev X312_19 : Exit × Shape := (Exit.exit 1, [(7, .own true (.sl (.int .u8)))])
abbrev R312_19 : List (Exit × Shape) := []
def lo312_19 (k : Nat) : LO := loopO [] [] [] S312_19 X312_19 R312_19 (iter (impl_bodyOf_s19 k) k)
theorem st312_19 (k : Nat) (rec v) : evC Tryz.prog ⟨136, []⟩ (F312 k) (inlN Tryz.prog (F312 k) 4) [] (lpAt (bodyOf Tryz.f312) [0]) (Kb [] [] [] S312_19 X312_19 R312_19 rec) (mkSt [] [] S312_19 v.1 v.2) = (impl_bodyOf_s19 k) rec v := by kernel_rfl
theorem lp312_19 (k : Nat) {c : Cx} (hP : c.P = Tryz.prog) (hm : c.m = ⟨136, []⟩) (hg : c.gs = []) : LoopOk c (lo312_19 k) (lpAt (bodyOf Tryz.f312) [0]) :=
  loop_at hP hm hg (okF312 k) (LInv.of (code := (lpAt (bodyOf Tryz.f312) [0])) (bs := []) (by kernel_rfl) LInv.nil) (fun rec v => st312_19 k rec v) k
theorem ev312 (k : Nat) (x) : evF Tryz.prog (F312 k) (inlN Tryz.prog (F312 k) 4) [(19, lo312_19 k)] Tryz.f312 (bodyOf Tryz.f312) (c312 k).ps (c312 k).rs (c312 k).rm x = (c312 k).m x := by kernel_rfl
theorem ok312 (k : Nat) : ConOk Tryz.prog (c312 k) :=
  fn_at (okF312 k) (cn := c312 k) (fn := Tryz.f312) (code := bodyOf Tryz.f312) (m := ⟨136, []⟩) (gs := []) (by kernel_rfl) (by kernel_rfl) (by kernel_rfl) (by kernel_rfl) (by kernel_rfl) (fun _ => by kernel_rfl)
    [(19, lo312_19 k)] (fun c hP hm hg => (LInv.of (code := (bodyOf Tryz.f312)) (bs := [(lpAt (bodyOf Tryz.f312) [0])]) (by kernel_rfl) (LInv.cons (b := (lpAt (bodyOf Tryz.f312) [0])) (by kernel_rfl) (lp312_19 k hP hm hg) LInv.nil))) (ev312 k)
def c266 (k : Nat) : Con := ⟨266, [(T_Cmd, false)], [(.sl (.int .u8))], (.own true), fun x => impl_CmdBytes k x.1⟩
def F266 (k : Nat) : List Con := [c311 k, c312 k, c263 k, c204 k]
theorem okF266 (k : Nat) : ∀ cn ∈ F266 k, ConOk Tryz.prog cn := (conCons (ok311 k) (conCons (ok312 k) (conCons (ok263 k) (conCons (ok204 k) conNil))))
theorem ev266 (k : Nat) (x) : evF Tryz.prog (F266 k) (inlN Tryz.prog (F266 k) 4) [] Tryz.f266 (bodyOf Tryz.f266) (c266 k).ps (c266 k).rs (c266 k).rm x = (c266 k).m x := by kernel_rfl
theorem ok266 (k : Nat) : ConOk Tryz.prog (c266 k) :=
  fn_at (okF266 k) (cn := c266 k) (fn := Tryz.f266) (code := bodyOf Tryz.f266) (m := ⟨19, []⟩) (gs := []) (by kernel_rfl) (by kernel_rfl) (by kernel_rfl) (by kernel_rfl) (by kernel_rfl) (fun _ => by kernel_rfl)
    [] (fun c hP hm hg => (LInv.of (code := (bodyOf Tryz.f266)) (bs := []) (by kernel_rfl) LInv.nil)) (ev266 k)
def c265 (k : Nat) : Con := ⟨265, [((.sl (.int .u8)), false), ((.sl (.int .u8)), false)], [.bool], (.own true), fun x => slices_Equal_byte_byte k x.1 x.2.1⟩
def F265 (k : Nat) : List Con := []
theorem okF265 (k : Nat) : ∀ cn ∈ F265 k, ConOk Tryz.prog cn := conNil
abbrev S265_4 : Shape := [(0, .v (.sl (.int .u8))), (1, .v (.sl (.int .u8))), (12, .v (.int .i64)), (13, .v (.int .i64))]
abbrev X265_4 : Exit × Shape := (Exit.ret, [(4, .v .bool)])
abbrev R265_4 : List (Exit × Shape) := [(Exit.exit 0, [])]
def lo265_4 (k : Nat) : LO := loopO [] [] [] S265_4 X265_4 R265_4 (iter (slices_Equal_byte_byte_s4) k)
theorem st265_4 (k : Nat) (rec v) : evC Tryz.prog ⟨26, []⟩ (F265 k) (inlN Tryz.prog (F265 k) 4) [] (lpAt (bodyOf Tryz.f265) [0]) (Kb [] [] [] S265_4 X265_4 R265_4 rec) (mkSt [] [] S265_4 v.1 v.2) = (slices_Equal_byte_byte_s4) rec v := by kernel_rfl
theorem lp265_4 (k : Nat) {c : Cx} (hP : c.P = Tryz.prog) (hm : c.m = ⟨26, []⟩) (hg : c.gs = []) : LoopOk c (lo265_4 k) (lpAt (bodyOf Tryz.f265) [0]) :=
  loop_at hP hm hg (okF265 k) (LInv.of (code := (lpAt (bodyOf Tryz.f265) [0])) (bs := []) (by kernel_rfl) LInv.nil) (fun rec v => st265_4 k rec v) k
theorem ev265 (k : Nat) (x) : evF Tryz.prog (F265 k) (inlN Tryz.prog (F265 k) 4) [(4, lo265_4 k)] Tryz.f265 (bodyOf Tryz.f265) (c265 k).ps (c265 k).rs (c265 k).rm x = (c265 k).m x := by kernel_rfl
theorem ok265 (k : Nat) : ConOk Tryz.prog (c265 k) :=
  fn_at (okF265 k) (cn := c265 k) (fn := Tryz.f265) (code := bodyOf Tryz.f265) (m := ⟨26, []⟩) (gs := []) (by kernel_rfl) (by kernel_rfl) (by kernel_rfl) (by kernel_rfl) (by kernel_rfl) (fun _ => by kernel_rfl)
    [(4, lo265_4 k)] (fun c hP hm hg => (LInv.of (code := (bodyOf Tryz.f265)) (bs := [(lpAt (bodyOf Tryz.f265) [0])]) (by kernel_rfl) (LInv.cons (b := (lpAt (bodyOf Tryz.f265) [0])) (by kernel_rfl) (lp265_4 k hP hm hg) LInv.nil))) (ev265 k)
def c307 (k : Nat) : Con := ⟨307, [((.ref T_cursor), true), ((.int .i64), false)], [(.int .i64)], (.own true), fun x => impl_cursor_take k x.1 x.2.1⟩
def F307 (k : Nat) : List Con := [c217 k]
theorem okF307 (k : Nat) : ∀ cn ∈ F307 k, ConOk Tryz.prog cn := (conCons (ok217 k) conNil)
theorem ev307 (k : Nat) (x) : evF Tryz.prog (F307 k) (inlN Tryz.prog (F307 k) 4) [] Tryz.f307 (bodyOf Tryz.f307) (c307 k).ps (c307 k).rs (c307 k).rm x = (c307 k).m x := by kernel_rfl
theorem ok307 (k : Nat) : ConOk Tryz.prog (c307 k) :=
  fn_at (okF307 k) (cn := c307 k) (fn := Tryz.f307) (code := bodyOf Tryz.f307) (m := ⟨33, [(0, 0)]⟩) (gs := [.ptr 0 0 0]) (by kernel_rfl) (by kernel_rfl) (by kernel_rfl) (by kernel_rfl) (by kernel_rfl) (fun _ => by kernel_rfl)
    [] (fun c hP hm hg => (LInv.of (code := (bodyOf Tryz.f307)) (bs := []) (by kernel_rfl) LInv.nil)) (ev307 k)
def c308 (k : Nat) : Con := ⟨308, [((.ref T_cursor), true)], [T_Prefix], (.own true), fun x => impl_cursor_prefix k x.1⟩
def F308 (k : Nat) : List Con := [c307 k]
theorem okF308 (k : Nat) : ∀ cn ∈ F308 k, ConOk Tryz.prog cn := (conCons (ok307 k) conNil)
theorem ev308 (k : Nat) (x) : evF Tryz.prog (F308 k) (inlN Tryz.prog (F308 k) 4) [] Tryz.f308 (bodyOf Tryz.f308) (c308 k).ps (c308 k).rs (c308 k).rm x = (c308 k).m x := by kernel_rfl
theorem ok308 (k : Nat) : ConOk Tryz.prog (c308 k) :=
  fn_at (okF308 k) (cn := c308 k) (fn := Tryz.f308) (code := bodyOf Tryz.f308) (m := ⟨36, [(0, 0)]⟩) (gs := [.ptr 0 0 0]) (by kernel_rfl) (by kernel_rfl) (by kernel_rfl) (by kernel_rfl) (by kernel_rfl) (fun _ => by kernel_rfl)
    [] (fun c hP hm hg => (LInv.of (code := (bodyOf Tryz.f308)) (bs := []) (by kernel_rfl) LInv.nil)) (ev308 k)
def c309 (k : Nat) : Con := ⟨309, [((.ref T_cursor), true)], [(.int .i64)], (.own true), fun x => impl_cursor_proto k x.1⟩
def F309 (k : Nat) : List Con := [c307 k]
theorem okF309 (k : Nat) : ∀ cn ∈ F309 k, ConOk Tryz.prog cn := (conCons (ok307 k) conNil)
theorem ev309 (k : Nat) (x) : evF Tryz.prog (F309 k) (inlN Tryz.prog (F309 k) 4) [] Tryz.f309 (bodyOf Tryz.f309) (c309 k).ps (c309 k).rs (c309 k).rm x = (c309 k).m x := by kernel_rfl
theorem ok309 (k : Nat) : ConOk Tryz.prog (c309 k) :=
  fn_at (okF309 k) (cn := c309 k) (fn := Tryz.f309) (code := bodyOf Tryz.f309) (m := ⟨9, [(0, 0)]⟩) (gs := [.ptr 0 0 0]) (by kernel_rfl) (by kernel_rfl) (by kernel_rfl) (by kernel_rfl) (by kernel_rfl) (fun _ => by kernel_rfl)
    [] (fun c hP hm hg => (LInv.of (code := (bodyOf Tryz.f309)) (bs := []) (by kernel_rfl) LInv.nil)) (ev309 k)
def c310 (k : Nat) : Con := ⟨310, [((.ref T_cursor), true)], [T_Module], (.own true), fun x => impl_cursor_module k x.1⟩
def F310 (k : Nat) : List Con := [c307 k, c308 k, c309 k]
theorem okF310 (k : Nat) : ∀ cn ∈ F310 k, ConOk Tryz.prog cn := (conCons (ok307 k) (conCons (ok308 k) (conCons (ok309 k) conNil)))
theorem ev310 (k : Nat) (x) : evF Tryz.prog (F310 k) (inlN Tryz.prog (F310 k) 4) [] Tryz.f310 (bodyOf Tryz.f310) (c310 k).ps (c310 k).rs (c310 k).rm x = (c310 k).m x := by kernel_rfl
theorem ok310 (k : Nat) : ConOk Tryz.prog (c310 k) :=
  fn_at (okF310 k) (cn := c310 k) (fn := Tryz.f310) (code := bodyOf Tryz.f310) (m := ⟨26, [(0, 0)]⟩) (gs := [.ptr 0 0 0]) (by kernel_rfl) (by kernel_rfl) (by kernel_rfl) (by kernel_rfl) (by kernel_rfl) (fun _ => by kernel_rfl)
    [] (fun c hP hm hg => (LInv.of (code := (bodyOf Tryz.f310)) (bs := []) (by kernel_rfl) LInv.nil)) (ev310 k)
def c264 (k : Nat) : Con := ⟨264, [((.ref T_cursor), true)], [T_Cmd], (.own true), fun x => impl_cursor_cmd k x.1⟩
def F264 (k : Nat) : List Con := [c307 k, c308 k, c309 k, c310 k]
theorem okF264 (k : Nat) : ∀ cn ∈ F264 k, ConOk Tryz.prog cn := (conCons (ok307 k) (conCons (ok308 k) (conCons (ok309 k) (conCons (ok310 k) conNil))))
abbrev S264_22 : Shape := [(0, .arg 0), (2, .box true T_Cmd), (3, .box true T_Cmd), (109, .v (.int .i64)), (110, .v (.int .i64))]
abbrev X264_22 : Exit × Shape := (Exit.exit 1, [(2, .box true T_Cmd), (3, .box true T_Cmd)])
abbrev R264_22 : List (Exit × Shape) := []
def lo264_22 (k : Nat) : LO := loopO [(0, 0)] [.ptr 0 0 0] [(.ref T_cursor)] S264_22 X264_22 R264_22 (iter (impl_cursor_cmd_s22 k) k)
theorem st264_22 (k : Nat) (rec v) : evC Tryz.prog ⟨121, [(0, 0)]⟩ (F264 k) (inlN Tryz.prog (F264 k) 4) [] (lpAt (bodyOf Tryz.f264) [0]) (Kb [(0, 0)] [.ptr 0 0 0] [(.ref T_cursor)] S264_22 X264_22 R264_22 rec) (mkSt [.ptr 0 0 0] [(.ref T_cursor)] S264_22 v.1 v.2) = (impl_cursor_cmd_s22 k) rec v := by kernel_rfl
theorem lp264_22 (k : Nat) {c : Cx} (hP : c.P = Tryz.prog) (hm : c.m = ⟨121, [(0, 0)]⟩) (hg : c.gs = [.ptr 0 0 0]) : LoopOk c (lo264_22 k) (lpAt (bodyOf Tryz.f264) [0]) :=
  loop_at hP hm hg (okF264 k) (LInv.of (code := (lpAt (bodyOf Tryz.f264) [0])) (bs := []) (by kernel_rfl) LInv.nil) (fun rec v => st264_22 k rec v) k
theorem ev264 (k : Nat) (x) : evF Tryz.prog (F264 k) (inlN Tryz.prog (F264 k) 4) [(22, lo264_22 k)] Tryz.f264 (bodyOf Tryz.f264) (c264 k).ps (c264 k).rs (c264 k).rm x = (c264 k).m x := by kernel_rfl
theorem ok264 (k : Nat) : ConOk Tryz.prog (c264 k) :=
  fn_at (okF264 k) (cn := c264 k) (fn := Tryz.f264) (code := bodyOf Tryz.f264) (m := ⟨121, [(0, 0)]⟩) (gs := [.ptr 0 0 0]) (by kernel_rfl) (by kernel_rfl) (by kernel_rfl) (by kernel_rfl) (by kernel_rfl) (fun _ => by kernel_rfl)
    [(22, lo264_22 k)] (fun c hP hm hg => (LInv.of (code := (bodyOf Tryz.f264)) (bs := [(lpAt (bodyOf Tryz.f264) [0])]) (by kernel_rfl) (LInv.cons (b := (lpAt (bodyOf Tryz.f264) [0])) (by kernel_rfl) (lp264_22 k hP hm hg) LInv.nil))) (ev264 k)
def c169 (k : Nat) : Con := ⟨169, [((.sl (.int .u8)), false)], [T_Cmd, (.int .i64)], (.own true), fun x => impl_CmdRead k x.1⟩
def F169 (k : Nat) : List Con := [c217 k, c263 k, c264 k, c266 k, c265 k]
theorem okF169 (k : Nat) : ∀ cn ∈ F169 k, ConOk Tryz.prog cn := (conCons (ok217 k) (conCons (ok263 k) (conCons (ok264 k) (conCons (ok266 k) (conCons (ok265 k) conNil)))))
theorem ev169 (k : Nat) (x) : evF Tryz.prog (F169 k) (inlN Tryz.prog (F169 k) 4) [] Tryz.f169 (bodyOf Tryz.f169) (c169 k).ps (c169 k).rs (c169 k).rm x = (c169 k).m x := by kernel_rfl
theorem ok169 (k : Nat) : ConOk Tryz.prog (c169 k) :=
  fn_at (okF169 k) (cn := c169 k) (fn := Tryz.f169) (code := bodyOf Tryz.f169) (m := ⟨44, []⟩) (gs := []) (by kernel_rfl) (by kernel_rfl) (by kernel_rfl) (by kernel_rfl) (by kernel_rfl) (fun _ => by kernel_rfl)
    [] (fun c hP hm hg => (LInv.of (code := (bodyOf Tryz.f169)) (bs := []) (by kernel_rfl) LInv.nil)) (ev169 k)
def c70 (k : Nat) : Con := ⟨70, [((.sl T_Event), false), ((.int .i64), false)], [(.sl T_Cmd), .bool], (.own true), fun x => impl_commandsOf k x.1 x.2.1⟩
def F70 (k : Nat) : List Con := [c131 k, c71 k, c169 k]
theorem okF70 (k : Nat) : ∀ cn ∈ F70 k, ConOk Tryz.prog cn := (conCons (ok131 k) (conCons (ok71 k) (conCons (ok169 k) conNil)))
abbrev S70_5 : Shape := [(6, .own true (.sl T_Cmd)), (24, .v (.sl T_Event)), (25, .v (.int .i64)), (26, .v (.int .i64))]
abbrev X70_5 : Exit × Shape := (Exit.exit 0, [(6, .own true (.sl T_Cmd))])
abbrev R70_5 : List (Exit × Shape) := []
def lo70_5 (k : Nat) : LO := loopO [] [] [] S70_5 X70_5 R70_5 (iter (impl_commandsOf_s5 k) k)
theorem st70_5 (k : Nat) (rec v) : evC Tryz.prog ⟨49, []⟩ (F70 k) (inlN Tryz.prog (F70 k) 4) [] (lpAt (bodyOf Tryz.f70) [0]) (Kb [] [] [] S70_5 X70_5 R70_5 rec) (mkSt [] [] S70_5 v.1 v.2) = (impl_commandsOf_s5 k) rec v := by kernel_rfl
theorem lp70_5 (k : Nat) {c : Cx} (hP : c.P = Tryz.prog) (hm : c.m = ⟨49, []⟩) (hg : c.gs = []) : LoopOk c (lo70_5 k) (lpAt (bodyOf Tryz.f70) [0]) :=
  loop_at hP hm hg (okF70 k) (LInv.of (code := (lpAt (bodyOf Tryz.f70) [0])) (bs := []) (by kernel_rfl) LInv.nil) (fun rec v => st70_5 k rec v) k
theorem ev70 (k : Nat) (x) : evF Tryz.prog (F70 k) (inlN Tryz.prog (F70 k) 4) [(5, lo70_5 k)] Tryz.f70 (bodyOf Tryz.f70) (c70 k).ps (c70 k).rs (c70 k).rm x = (c70 k).m x := by kernel_rfl
theorem ok70 (k : Nat) : ConOk Tryz.prog (c70 k) :=
  fn_at (okF70 k) (cn := c70 k) (fn := Tryz.f70) (code := bodyOf Tryz.f70) (m := ⟨49, []⟩) (gs := []) (by kernel_rfl) (by kernel_rfl) (by kernel_rfl) (by kernel_rfl) (by kernel_rfl) (fun _ => by kernel_rfl)
    [(5, lo70_5 k)] (fun c hP hm hg => (LInv.of (code := (bodyOf Tryz.f70)) (bs := [(lpAt (bodyOf Tryz.f70) [0])]) (by kernel_rfl) (LInv.cons (b := (lpAt (bodyOf Tryz.f70) [0])) (by kernel_rfl) (lp70_5 k hP hm hg) LInv.nil))) (ev70 k)
def c14 (k : Nat) : Con := ⟨14, [((.sl T_Event), false), ((.int .i64), false), ((.int .i64), false)], [(.sl T_Module)], (.own true), fun x => impl_ChainAt k x.1 x.2.1 x.2.2.1⟩
theorem ok14 (k : Nat) : ConOk Tryz.prog (c14 k) := chainAt_ok (ok70 k)
def c229 (k : Nat) : Con := ⟨229, [(T_Addr, false), (T_Addr, false)], [.bool], (.own true), fun x => laws_eqAddr x.1 x.2.1⟩
def F229 (k : Nat) : List Con := []
theorem okF229 (k : Nat) : ∀ cn ∈ F229 k, ConOk Tryz.prog cn := conNil
theorem ev229 (k : Nat) (x) : evF Tryz.prog (F229 k) (inlN Tryz.prog (F229 k) 4) [] Tryz.f229 (bodyOf Tryz.f229) (c229 k).ps (c229 k).rs (c229 k).rm x = (c229 k).m x := by kernel_rfl
theorem ok229 (k : Nat) : ConOk Tryz.prog (c229 k) :=
  fn_at (okF229 k) (cn := c229 k) (fn := Tryz.f229) (code := bodyOf Tryz.f229) (m := ⟨30, []⟩) (gs := []) (by kernel_rfl) (by kernel_rfl) (by kernel_rfl) (by kernel_rfl) (by kernel_rfl) (fun _ => by kernel_rfl)
    [] (fun c hP hm hg => (LInv.of (code := (bodyOf Tryz.f229)) (bs := []) (by kernel_rfl) LInv.nil)) (ev229 k)
def c171 (k : Nat) : Con := ⟨171, [(T_Prefix, false), (T_Prefix, false)], [.bool], (.own true), fun x => laws_eqPrefix x.1 x.2.1⟩
def F171 (k : Nat) : List Con := [c229 k]
theorem okF171 (k : Nat) : ∀ cn ∈ F171 k, ConOk Tryz.prog cn := (conCons (ok229 k) conNil)
theorem ev171 (k : Nat) (x) : evF Tryz.prog (F171 k) (inlN Tryz.prog (F171 k) 4) [] Tryz.f171 (bodyOf Tryz.f171) (c171 k).ps (c171 k).rs (c171 k).rm x = (c171 k).m x := by kernel_rfl
theorem ok171 (k : Nat) : ConOk Tryz.prog (c171 k) :=
  fn_at (okF171 k) (cn := c171 k) (fn := Tryz.f171) (code := bodyOf Tryz.f171) (m := ⟨16, []⟩) (gs := []) (by kernel_rfl) (by kernel_rfl) (by kernel_rfl) (by kernel_rfl) (by kernel_rfl) (fun _ => by kernel_rfl)
    [] (fun c hP hm hg => (LInv.of (code := (bodyOf Tryz.f171)) (bs := []) (by kernel_rfl) LInv.nil)) (ev171 k)
def c73 (k : Nat) : Con := ⟨73, [(T_Module, false), (T_Module, false)], [.bool], (.own true), fun x => laws_eqModule x.1 x.2.1⟩
def F73 (k : Nat) : List Con := [c171 k]
theorem okF73 (k : Nat) : ∀ cn ∈ F73 k, ConOk Tryz.prog cn := (conCons (ok171 k) conNil)
theorem ev73 (k : Nat) (x) : evF Tryz.prog (F73 k) (inlN Tryz.prog (F73 k) 4) [] Tryz.f73 (bodyOf Tryz.f73) (c73 k).ps (c73 k).rs (c73 k).rm x = (c73 k).m x := by kernel_rfl
theorem ok73 (k : Nat) : ConOk Tryz.prog (c73 k) :=
  fn_at (okF73 k) (cn := c73 k) (fn := Tryz.f73) (code := bodyOf Tryz.f73) (m := ⟨42, []⟩) (gs := []) (by kernel_rfl) (by kernel_rfl) (by kernel_rfl) (by kernel_rfl) (by kernel_rfl) (fun _ => by kernel_rfl)
    [] (fun c hP hm hg => (LInv.of (code := (bodyOf Tryz.f73)) (bs := []) (by kernel_rfl) LInv.nil)) (ev73 k)
def c15 (k : Nat) : Con := ⟨15, [((.sl T_Module), false), ((.sl T_Module), false)], [.bool], (.own true), fun x => laws_eqModuleS k x.1 x.2.1⟩
def F15 (k : Nat) : List Con := [c73 k]
theorem okF15 (k : Nat) : ∀ cn ∈ F15 k, ConOk Tryz.prog cn := (conCons (ok73 k) conNil)
abbrev S15_4 : Shape := [(0, .v (.sl T_Module)), (1, .v (.sl T_Module)), (5, .v (.int .i64))]
abbrev X15_4 : Exit × Shape := (Exit.ret, [(4, .v .bool)])
abbrev R15_4 : List (Exit × Shape) := [(Exit.exit 0, [])]
def lo15_4 (k : Nat) : LO := loopO [] [] [] S15_4 X15_4 R15_4 (iter (laws_eqModuleS_s4) k)
theorem st15_4 (k : Nat) (rec v) : evC Tryz.prog ⟨27, []⟩ (F15 k) (inlN Tryz.prog (F15 k) 4) [] (lpAt (bodyOf Tryz.f15) [0]) (Kb [] [] [] S15_4 X15_4 R15_4 rec) (mkSt [] [] S15_4 v.1 v.2) = (laws_eqModuleS_s4) rec v := by kernel_rfl
theorem lp15_4 (k : Nat) {c : Cx} (hP : c.P = Tryz.prog) (hm : c.m = ⟨27, []⟩) (hg : c.gs = []) : LoopOk c (lo15_4 k) (lpAt (bodyOf Tryz.f15) [0]) :=
  loop_at hP hm hg (okF15 k) (LInv.of (code := (lpAt (bodyOf Tryz.f15) [0])) (bs := []) (by kernel_rfl) LInv.nil) (fun rec v => st15_4 k rec v) k
theorem ev15 (k : Nat) (x) : evF Tryz.prog (F15 k) (inlN Tryz.prog (F15 k) 4) [(4, lo15_4 k)] Tryz.f15 (bodyOf Tryz.f15) (c15 k).ps (c15 k).rs (c15 k).rm x = (c15 k).m x := by kernel_rfl
theorem ok15 (k : Nat) : ConOk Tryz.prog (c15 k) :=
  fn_at (okF15 k) (cn := c15 k) (fn := Tryz.f15) (code := bodyOf Tryz.f15) (m := ⟨27, []⟩) (gs := []) (by kernel_rfl) (by kernel_rfl) (by kernel_rfl) (by kernel_rfl) (by kernel_rfl) (fun _ => by kernel_rfl)
    [(4, lo15_4 k)] (fun c hP hm hg => (LInv.of (code := (bodyOf Tryz.f15)) (bs := [(lpAt (bodyOf Tryz.f15) [0])]) (by kernel_rfl) (LInv.cons (b := (lpAt (bodyOf Tryz.f15) [0])) (by kernel_rfl) (lp15_4 k hP hm hg) LInv.nil))) (ev15 k)
def c42 (k : Nat) : Con := ⟨42, [((.sl (.int .u8)), false), ((.sl (.int .u8)), false)], [.bool], (.own true), fun x => laws_eqByteS k x.1 x.2.1⟩
def F42 (k : Nat) : List Con := []
theorem okF42 (k : Nat) : ∀ cn ∈ F42 k, ConOk Tryz.prog cn := conNil
abbrev S42_4 : Shape := [(0, .v (.sl (.int .u8))), (1, .v (.sl (.int .u8))), (5, .v (.int .i64))]
abbrev X42_4 : Exit × Shape := (Exit.ret, [(4, .v .bool)])
abbrev R42_4 : List (Exit × Shape) := [(Exit.exit 0, [])]
def lo42_4 (k : Nat) : LO := loopO [] [] [] S42_4 X42_4 R42_4 (iter (laws_eqByteS_s4) k)
theorem st42_4 (k : Nat) (rec v) : evC Tryz.prog ⟨26, []⟩ (F42 k) (inlN Tryz.prog (F42 k) 4) [] (lpAt (bodyOf Tryz.f42) [0]) (Kb [] [] [] S42_4 X42_4 R42_4 rec) (mkSt [] [] S42_4 v.1 v.2) = (laws_eqByteS_s4) rec v := by kernel_rfl
theorem lp42_4 (k : Nat) {c : Cx} (hP : c.P = Tryz.prog) (hm : c.m = ⟨26, []⟩) (hg : c.gs = []) : LoopOk c (lo42_4 k) (lpAt (bodyOf Tryz.f42) [0]) :=
  loop_at hP hm hg (okF42 k) (LInv.of (code := (lpAt (bodyOf Tryz.f42) [0])) (bs := []) (by kernel_rfl) LInv.nil) (fun rec v => st42_4 k rec v) k
theorem ev42 (k : Nat) (x) : evF Tryz.prog (F42 k) (inlN Tryz.prog (F42 k) 4) [(4, lo42_4 k)] Tryz.f42 (bodyOf Tryz.f42) (c42 k).ps (c42 k).rs (c42 k).rm x = (c42 k).m x := by kernel_rfl
theorem ok42 (k : Nat) : ConOk Tryz.prog (c42 k) :=
  fn_at (okF42 k) (cn := c42 k) (fn := Tryz.f42) (code := bodyOf Tryz.f42) (m := ⟨26, []⟩) (gs := []) (by kernel_rfl) (by kernel_rfl) (by kernel_rfl) (by kernel_rfl) (by kernel_rfl) (fun _ => by kernel_rfl)
    [(4, lo42_4 k)] (fun c hP hm hg => (LInv.of (code := (bodyOf Tryz.f42)) (bs := [(lpAt (bodyOf Tryz.f42) [0])]) (by kernel_rfl) (LInv.cons (b := (lpAt (bodyOf Tryz.f42) [0])) (by kernel_rfl) (lp42_4 k hP hm hg) LInv.nil))) (ev42 k)
def c172 (k : Nat) : Con := ⟨172, [(T_Vec, false), (T_Vec, false)], [.bool], (.own true), fun x => laws_eqVec x.1 x.2.1⟩
def F172 (k : Nat) : List Con := []
theorem okF172 (k : Nat) : ∀ cn ∈ F172 k, ConOk Tryz.prog cn := conNil
theorem ev172 (k : Nat) (x) : evF Tryz.prog (F172 k) (inlN Tryz.prog (F172 k) 4) [] Tryz.f172 (bodyOf Tryz.f172) (c172 k).ps (c172 k).rs (c172 k).rm x = (c172 k).m x := by kernel_rfl
theorem ok172 (k : Nat) : ConOk Tryz.prog (c172 k) :=
  fn_at (okF172 k) (cn := c172 k) (fn := Tryz.f172) (code := bodyOf Tryz.f172) (m := ⟨20, []⟩) (gs := []) (by kernel_rfl) (by kernel_rfl) (by kernel_rfl) (by kernel_rfl) (by kernel_rfl) (fun _ => by kernel_rfl)
    [] (fun c hP hm hg => (LInv.of (code := (bodyOf Tryz.f172)) (bs := []) (by kernel_rfl) LInv.nil)) (ev172 k)
def c74 (k : Nat) : Con := ⟨74, [(T_Event, false), (T_Event, false)], [.bool], (.own true), fun x => laws_eqEvent k x.1 x.2.1⟩
def F74 (k : Nat) : List Con := [c42 k, c172 k]
theorem okF74 (k : Nat) : ∀ cn ∈ F74 k, ConOk Tryz.prog cn := (conCons (ok42 k) (conCons (ok172 k) conNil))
theorem ev74 (k : Nat) (x) : evF Tryz.prog (F74 k) (inlN Tryz.prog (F74 k) 4) [] Tryz.f74 (bodyOf Tryz.f74) (c74 k).ps (c74 k).rs (c74 k).rm x = (c74 k).m x := by kernel_rfl
theorem ok74 (k : Nat) : ConOk Tryz.prog (c74 k) :=
  fn_at (okF74 k) (cn := c74 k) (fn := Tryz.f74) (code := bodyOf Tryz.f74) (m := ⟨27, []⟩) (gs := []) (by kernel_rfl) (by kernel_rfl) (by kernel_rfl) (by kernel_rfl) (by kernel_rfl) (fun _ => by kernel_rfl)
    [] (fun c hP hm hg => (LInv.of (code := (bodyOf Tryz.f74)) (bs := []) (by kernel_rfl) LInv.nil)) (ev74 k)
def c16 (k : Nat) : Con := ⟨16, [((.sl T_Event), false), ((.sl T_Event), false)], [.bool], (.own true), fun x => laws_eqEventS k x.1 x.2.1⟩
def F16 (k : Nat) : List Con := [c74 k]
theorem okF16 (k : Nat) : ∀ cn ∈ F16 k, ConOk Tryz.prog cn := (conCons (ok74 k) conNil)
abbrev S16_4 : Shape := [(0, .v (.sl T_Event)), (1, .v (.sl T_Event)), (5, .v (.int .i64))]
abbrev X16_4 : Exit × Shape := (Exit.ret, [(4, .v .bool)])
abbrev R16_4 : List (Exit × Shape) := [(Exit.exit 0, [])]
def lo16_4 (k : Nat) : LO := loopO [] [] [] S16_4 X16_4 R16_4 (iter (laws_eqEventS_s4 k) k)
theorem st16_4 (k : Nat) (rec v) : evC Tryz.prog ⟨27, []⟩ (F16 k) (inlN Tryz.prog (F16 k) 4) [] (lpAt (bodyOf Tryz.f16) [0]) (Kb [] [] [] S16_4 X16_4 R16_4 rec) (mkSt [] [] S16_4 v.1 v.2) = (laws_eqEventS_s4 k) rec v := by kernel_rfl
theorem lp16_4 (k : Nat) {c : Cx} (hP : c.P = Tryz.prog) (hm : c.m = ⟨27, []⟩) (hg : c.gs = []) : LoopOk c (lo16_4 k) (lpAt (bodyOf Tryz.f16) [0]) :=
  loop_at hP hm hg (okF16 k) (LInv.of (code := (lpAt (bodyOf Tryz.f16) [0])) (bs := []) (by kernel_rfl) LInv.nil) (fun rec v => st16_4 k rec v) k
theorem ev16 (k : Nat) (x) : evF Tryz.prog (F16 k) (inlN Tryz.prog (F16 k) 4) [(4, lo16_4 k)] Tryz.f16 (bodyOf Tryz.f16) (c16 k).ps (c16 k).rs (c16 k).rm x = (c16 k).m x := by kernel_rfl
theorem ok16 (k : Nat) : ConOk Tryz.prog (c16 k) :=
  fn_at (okF16 k) (cn := c16 k) (fn := Tryz.f16) (code := bodyOf Tryz.f16) (m := ⟨27, []⟩) (gs := []) (by kernel_rfl) (by kernel_rfl) (by kernel_rfl) (by kernel_rfl) (by kernel_rfl) (fun _ => by kernel_rfl)
    [(4, lo16_4 k)] (fun c hP hm hg => (LInv.of (code := (bodyOf Tryz.f16)) (bs := [(lpAt (bodyOf Tryz.f16) [0])]) (by kernel_rfl) (LInv.cons (b := (lpAt (bodyOf Tryz.f16) [0])) (by kernel_rfl) (lp16_4 k hP hm hg) LInv.nil))) (ev16 k)
def c43 (k : Nat) : Con := ⟨43, [((.sl (.int .u8)), true), ((.int .i64), false)], [(.int .i64)], (.own true), fun x => laws_markByteS k x.1 x.2.1⟩
def F43 (k : Nat) : List Con := []
theorem okF43 (k : Nat) : ∀ cn ∈ F43 k, ConOk Tryz.prog cn := conNil
abbrev S43_2 : Shape := [(0, .arg 0), (1, .v (.int .i64)), (5, .v (.int .i64))]
abbrev X43_2 : Exit × Shape := (Exit.exit 0, [(1, .v (.int .i64))])
abbrev R43_2 : List (Exit × Shape) := []
def lo43_2 (k : Nat) : LO := loopO [(0, 0)] [.full 0] [(.sl (.int .u8))] S43_2 X43_2 R43_2 (iter (laws_markByteS_s2) k)
theorem st43_2 (k : Nat) (rec v) : evC Tryz.prog ⟨20, [(0, 0)]⟩ (F43 k) (inlN Tryz.prog (F43 k) 4) [] (lpAt (bodyOf Tryz.f43) [0]) (Kb [(0, 0)] [.full 0] [(.sl (.int .u8))] S43_2 X43_2 R43_2 rec) (mkSt [.full 0] [(.sl (.int .u8))] S43_2 v.1 v.2) = (laws_markByteS_s2) rec v := by kernel_rfl
theorem lp43_2 (k : Nat) {c : Cx} (hP : c.P = Tryz.prog) (hm : c.m = ⟨20, [(0, 0)]⟩) (hg : c.gs = [.full 0]) : LoopOk c (lo43_2 k) (lpAt (bodyOf Tryz.f43) [0]) :=
  loop_at hP hm hg (okF43 k) (LInv.of (code := (lpAt (bodyOf Tryz.f43) [0])) (bs := []) (by kernel_rfl) LInv.nil) (fun rec v => st43_2 k rec v) k
theorem ev43 (k : Nat) (x) : evF Tryz.prog (F43 k) (inlN Tryz.prog (F43 k) 4) [(2, lo43_2 k)] Tryz.f43 (bodyOf Tryz.f43) (c43 k).ps (c43 k).rs (c43 k).rm x = (c43 k).m x := by kernel_rfl
theorem ok43 (k : Nat) : ConOk Tryz.prog (c43 k) :=
  fn_at (okF43 k) (cn := c43 k) (fn := Tryz.f43) (code := bodyOf Tryz.f43) (m := ⟨20, [(0, 0)]⟩) (gs := [.full 0]) (by kernel_rfl) (by kernel_rfl) (by kernel_rfl) (by kernel_rfl) (by kernel_rfl) (fun _ => by kernel_rfl)
    [(2, lo43_2 k)] (fun c hP hm hg => (LInv.of (code := (bodyOf Tryz.f43)) (bs := [(lpAt (bodyOf Tryz.f43) [0])]) (by kernel_rfl) (LInv.cons (b := (lpAt (bodyOf Tryz.f43) [0])) (by kernel_rfl) (lp43_2 k hP hm hg) LInv.nil))) (ev43 k)
def c17 (k : Nat) : Con := ⟨17, [((.sl T_Event), true), ((.int .i64), false)], [(.int .i64)], (.own true), fun x => laws_markEventS k x.1 x.2.1⟩
def F17 (k : Nat) : List Con := [c43 k]
theorem okF17 (k : Nat) : ∀ cn ∈ F17 k, ConOk Tryz.prog cn := (conCons (ok43 k) conNil)
abbrev S17_2 : Shape := [(0, .arg 0), (1, .v (.int .i64)), (5, .v (.int .i64))]
abbrev X17_2 : Exit × Shape := (Exit.exit 0, [(1, .v (.int .i64))])
abbrev R17_2 : List (Exit × Shape) := []
def lo17_2 (k : Nat) : LO := loopO [(0, 0)] [.full 0] [(.sl T_Event)] S17_2 X17_2 R17_2 (iter (laws_markEventS_s2 k) k)
theorem st17_2 (k : Nat) (rec v) : evC Tryz.prog ⟨58, [(0, 0)]⟩ (F17 k) (inlN Tryz.prog (F17 k) 4) [] (lpAt (bodyOf Tryz.f17) [0]) (Kb [(0, 0)] [.full 0] [(.sl T_Event)] S17_2 X17_2 R17_2 rec) (mkSt [.full 0] [(.sl T_Event)] S17_2 v.1 v.2) = (laws_markEventS_s2 k) rec v := by kernel_rfl
theorem lp17_2 (k : Nat) {c : Cx} (hP : c.P = Tryz.prog) (hm : c.m = ⟨58, [(0, 0)]⟩) (hg : c.gs = [.full 0]) : LoopOk c (lo17_2 k) (lpAt (bodyOf Tryz.f17) [0]) :=
  loop_at hP hm hg (okF17 k) (LInv.of (code := (lpAt (bodyOf Tryz.f17) [0])) (bs := []) (by kernel_rfl) LInv.nil) (fun rec v => st17_2 k rec v) k
theorem ev17 (k : Nat) (x) : evF Tryz.prog (F17 k) (inlN Tryz.prog (F17 k) 4) [(2, lo17_2 k)] Tryz.f17 (bodyOf Tryz.f17) (c17 k).ps (c17 k).rs (c17 k).rm x = (c17 k).m x := by kernel_rfl
theorem ok17 (k : Nat) : ConOk Tryz.prog (c17 k) :=
  fn_at (okF17 k) (cn := c17 k) (fn := Tryz.f17) (code := bodyOf Tryz.f17) (m := ⟨58, [(0, 0)]⟩) (gs := [.full 0]) (by kernel_rfl) (by kernel_rfl) (by kernel_rfl) (by kernel_rfl) (by kernel_rfl) (fun _ => by kernel_rfl)
    [(2, lo17_2 k)] (fun c hP hm hg => (LInv.of (code := (bodyOf Tryz.f17)) (bs := [(lpAt (bodyOf Tryz.f17) [0])]) (by kernel_rfl) (LInv.cons (b := (lpAt (bodyOf Tryz.f17) [0])) (by kernel_rfl) (lp17_2 k hP hm hg) LInv.nil))) (ev17 k)
def c18 (k : Nat) : Con := ⟨18, [((.sl T_Module), true), ((.int .i64), false)], [(.int .i64)], (.own true), fun x => laws_markModuleS k x.1 x.2.1⟩
def F18 (k : Nat) : List Con := []
theorem okF18 (k : Nat) : ∀ cn ∈ F18 k, ConOk Tryz.prog cn := conNil
abbrev S18_2 : Shape := [(0, .arg 0), (1, .v (.int .i64)), (5, .v (.int .i64))]
abbrev X18_2 : Exit × Shape := (Exit.exit 0, [(1, .v (.int .i64))])
abbrev R18_2 : List (Exit × Shape) := []
def lo18_2 (k : Nat) : LO := loopO [(0, 0)] [.full 0] [(.sl T_Module)] S18_2 X18_2 R18_2 (iter (laws_markModuleS_s2) k)
theorem st18_2 (k : Nat) (rec v) : evC Tryz.prog ⟨154, [(0, 0)]⟩ (F18 k) (inlN Tryz.prog (F18 k) 4) [] (lpAt (bodyOf Tryz.f18) [0]) (Kb [(0, 0)] [.full 0] [(.sl T_Module)] S18_2 X18_2 R18_2 rec) (mkSt [.full 0] [(.sl T_Module)] S18_2 v.1 v.2) = (laws_markModuleS_s2) rec v := by kernel_rfl
theorem lp18_2 (k : Nat) {c : Cx} (hP : c.P = Tryz.prog) (hm : c.m = ⟨154, [(0, 0)]⟩) (hg : c.gs = [.full 0]) : LoopOk c (lo18_2 k) (lpAt (bodyOf Tryz.f18) [0]) :=
  loop_at hP hm hg (okF18 k) (LInv.of (code := (lpAt (bodyOf Tryz.f18) [0])) (bs := []) (by kernel_rfl) LInv.nil) (fun rec v => st18_2 k rec v) k
theorem ev18 (k : Nat) (x) : evF Tryz.prog (F18 k) (inlN Tryz.prog (F18 k) 4) [(2, lo18_2 k)] Tryz.f18 (bodyOf Tryz.f18) (c18 k).ps (c18 k).rs (c18 k).rm x = (c18 k).m x := by kernel_rfl
theorem ok18 (k : Nat) : ConOk Tryz.prog (c18 k) :=
  fn_at (okF18 k) (cn := c18 k) (fn := Tryz.f18) (code := bodyOf Tryz.f18) (m := ⟨154, [(0, 0)]⟩) (gs := [.full 0]) (by kernel_rfl) (by kernel_rfl) (by kernel_rfl) (by kernel_rfl) (by kernel_rfl) (fun _ => by kernel_rfl)
    [(2, lo18_2 k)] (fun c hP hm hg => (LInv.of (code := (bodyOf Tryz.f18)) (bs := [(lpAt (bodyOf Tryz.f18) [0])]) (by kernel_rfl) (LInv.cons (b := (lpAt (bodyOf Tryz.f18) [0])) (by kernel_rfl) (lp18_2 k hP hm hg) LInv.nil))) (ev18 k)
def c19 (k : Nat) : Con := ⟨19, [((.sl T_Module), false), ((.int .i64), false)], [(.int .i64)], (.own true), fun x => laws_heldModuleS k x.1 x.2.1⟩
def F19 (k : Nat) : List Con := []
theorem okF19 (k : Nat) : ∀ cn ∈ F19 k, ConOk Tryz.prog cn := conNil
abbrev S19_2 : Shape := [(0, .v (.sl T_Module)), (1, .v (.int .i64)), (5, .v (.int .i64))]
abbrev X19_2 : Exit × Shape := (Exit.ret, [(4, .v (.int .i64))])
abbrev R19_2 : List (Exit × Shape) := [(Exit.exit 0, [(1, .v (.int .i64))])]
def lo19_2 (k : Nat) : LO := loopO [] [] [] S19_2 X19_2 R19_2 (iter (laws_heldModuleS_s2) k)
theorem st19_2 (k : Nat) (rec v) : evC Tryz.prog ⟨188, []⟩ (F19 k) (inlN Tryz.prog (F19 k) 4) [] (lpAt (bodyOf Tryz.f19) [0]) (Kb [] [] [] S19_2 X19_2 R19_2 rec) (mkSt [] [] S19_2 v.1 v.2) = (laws_heldModuleS_s2) rec v := by kernel_rfl
theorem lp19_2 (k : Nat) {c : Cx} (hP : c.P = Tryz.prog) (hm : c.m = ⟨188, []⟩) (hg : c.gs = []) : LoopOk c (lo19_2 k) (lpAt (bodyOf Tryz.f19) [0]) :=
  loop_at hP hm hg (okF19 k) (LInv.of (code := (lpAt (bodyOf Tryz.f19) [0])) (bs := []) (by kernel_rfl) LInv.nil) (fun rec v => st19_2 k rec v) k
theorem ev19 (k : Nat) (x) : evF Tryz.prog (F19 k) (inlN Tryz.prog (F19 k) 4) [(2, lo19_2 k)] Tryz.f19 (bodyOf Tryz.f19) (c19 k).ps (c19 k).rs (c19 k).rm x = (c19 k).m x := by kernel_rfl
theorem ok19 (k : Nat) : ConOk Tryz.prog (c19 k) :=
  fn_at (okF19 k) (cn := c19 k) (fn := Tryz.f19) (code := bodyOf Tryz.f19) (m := ⟨188, []⟩) (gs := []) (by kernel_rfl) (by kernel_rfl) (by kernel_rfl) (by kernel_rfl) (by kernel_rfl) (fun _ => by kernel_rfl)
    [(2, lo19_2 k)] (fun c hP hm hg => (LInv.of (code := (bodyOf Tryz.f19)) (bs := [(lpAt (bodyOf Tryz.f19) [0])]) (by kernel_rfl) (LInv.cons (b := (lpAt (bodyOf Tryz.f19) [0])) (by kernel_rfl) (lp19_2 k hP hm hg) LInv.nil))) (ev19 k)
def c3 (k : Nat) : Con := ⟨3, [((.sl T_Event), false), ((.int .i64), false), ((.int .i64), false)], [.bool], (.own true), fun x => laws_FnExactChainAt k x.1 x.2.1 x.2.2.1⟩
def F3 (k : Nat) : List Con := [c11 k, c13 k, c12 k, c14 k, c15 k, c16 k, c17 k, c18 k, c19 k]
theorem okF3 (k : Nat) : ∀ cn ∈ F3 k, ConOk Tryz.prog cn := (conCons (ok11 k) (conCons (ok13 k) (conCons (ok12 k) (conCons (ok14 k) (conCons (ok15 k) (conCons (ok16 k) (conCons (ok17 k) (conCons (ok18 k) (conCons (ok19 k) conNil)))))))))
theorem ev3 (k : Nat) (x) : evF Tryz.prog (F3 k) (inlN Tryz.prog (F3 k) 4) [] Tryz.f3 (bodyOf Tryz.f3) (c3 k).ps (c3 k).rs (c3 k).rm x = (c3 k).m x := by kernel_rfl
theorem ok3 (k : Nat) : ConOk Tryz.prog (c3 k) :=
  fn_at (okF3 k) (cn := c3 k) (fn := Tryz.f3) (code := bodyOf Tryz.f3) (m := ⟨79, []⟩) (gs := []) (by kernel_rfl) (by kernel_rfl) (by kernel_rfl) (by kernel_rfl) (by kernel_rfl) (fun _ => by kernel_rfl)
    [] (fun c hP hm hg => (LInv.of (code := (bodyOf Tryz.f3)) (bs := []) (by kernel_rfl) LInv.nil)) (ev3 k)
end Go.Tw
