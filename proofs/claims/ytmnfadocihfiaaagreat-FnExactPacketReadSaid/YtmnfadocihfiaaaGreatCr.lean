/- Each function is proved to answer as its mirror does. -/
import Derived.Test.YtmnfadocihfiaaaGreatMr
import Derived.Test.YtmnfadocihfiaaaGreatRows
set_option linter.all false
namespace Go.Tw
open Go Go.RowKit Go.Proofs
def c39 (k : Nat) : Con := ⟨39, [((.sl (.int .u8)), false)], [(.sl (.int .u8))], (.own true), fun x => laws_toByteS k x.1⟩
def F39 (k : Nat) : List Con := []
theorem okF39 (k : Nat) : ∀ cn ∈ F39 k, ConOk Tryz.prog cn := conNil
abbrev S39_3 : Shape := [(0, .v (.sl (.int .u8))), (3, .own true (.sl (.int .u8))), (4, .v (.int .i64))]
abbrev X39_3 : Exit × Shape := (Exit.exit 0, [(3, .own true (.sl (.int .u8)))])
abbrev R39_3 : List (Exit × Shape) := []
def lo39_3 (k : Nat) : LO := loopO [] [] [] S39_3 X39_3 R39_3 (iter (laws_toByteS_s3) k)
theorem st39_3 (k : Nat) (rec v) : evC Tryz.prog ⟨22, []⟩ (F39 k) (inlN Tryz.prog (F39 k) 4) [] (lpAt (bodyOf Tryz.f39) [0]) (Kb [] [] [] S39_3 X39_3 R39_3 rec) (mkSt [] [] S39_3 v.1 v.2) = (laws_toByteS_s3) rec v := by kernel_rfl
theorem lp39_3 (k : Nat) {c : Cx} (hP : c.P = Tryz.prog) (hm : c.m = ⟨22, []⟩) (hg : c.gs = []) : LoopOk c (lo39_3 k) (lpAt (bodyOf Tryz.f39) [0]) :=
  loop_at hP hm hg (okF39 k) (LInv.of (code := (lpAt (bodyOf Tryz.f39) [0])) (bs := []) (by kernel_rfl) LInv.nil) (fun rec v => st39_3 k rec v) k
theorem ev39 (k : Nat) (x) : evF Tryz.prog (F39 k) (inlN Tryz.prog (F39 k) 4) [(3, lo39_3 k)] Tryz.f39 (bodyOf Tryz.f39) (c39 k).ps (c39 k).rs (c39 k).rm x = (c39 k).m x := by kernel_rfl
theorem ok39 (k : Nat) : ConOk Tryz.prog (c39 k) :=
  fn_at (okF39 k) (cn := c39 k) (fn := Tryz.f39) (code := bodyOf Tryz.f39) (m := ⟨22, []⟩) (gs := []) (by kernel_rfl) (by kernel_rfl) (by kernel_rfl) (by kernel_rfl) (by kernel_rfl) (fun _ => by kernel_rfl)
    [(3, lo39_3 k)] (fun c hP hm hg => (LInv.of (code := (bodyOf Tryz.f39)) (bs := [(lpAt (bodyOf Tryz.f39) [0])]) (by kernel_rfl) (LInv.cons (b := (lpAt (bodyOf Tryz.f39) [0])) (by kernel_rfl) (lp39_3 k hP hm hg) LInv.nil))) (ev39 k)
def c159 (k : Nat) : Con := ⟨159, [((.sl (.int .u8)), false), ((.int .i64), false)], [(.int .i64), .bool], (.own true), fun x => spec_Be16 x.1 x.2.1⟩
def F159 (k : Nat) : List Con := []
theorem okF159 (k : Nat) : ∀ cn ∈ F159 k, ConOk Tryz.prog cn := conNil
theorem ev159 (k : Nat) (x) : evF Tryz.prog (F159 k) (inlN Tryz.prog (F159 k) 4) [] Tryz.f159 (bodyOf Tryz.f159) (c159 k).ps (c159 k).rs (c159 k).rm x = (c159 k).m x := by kernel_rfl
theorem ok159 (k : Nat) : ConOk Tryz.prog (c159 k) :=
  fn_at (okF159 k) (cn := c159 k) (fn := Tryz.f159) (code := bodyOf Tryz.f159) (m := ⟨28, []⟩) (gs := []) (by kernel_rfl) (by kernel_rfl) (by kernel_rfl) (by kernel_rfl) (by kernel_rfl) (fun _ => by kernel_rfl)
    [] (fun c hP hm hg => (LInv.of (code := (bodyOf Tryz.f159)) (bs := []) (by kernel_rfl) LInv.nil)) (ev159 k)
def c193 (k : Nat) : Con := ⟨193, [((.sl (.int .u8)), false), ((.int .i64), false)], [(.int .i64), .bool], (.own true), fun x => spec_Be32 k x.1 x.2.1⟩
def F193 (k : Nat) : List Con := []
theorem okF193 (k : Nat) : ∀ cn ∈ F193 k, ConOk Tryz.prog cn := conNil
abbrev S193_5 : Shape := [(0, .v (.sl (.int .u8))), (1, .v (.int .i64)), (6, .v (.int .i64)), (7, .v (.int .i64))]
abbrev X193_5 : Exit × Shape := (Exit.exit 0, [(6, .v (.int .i64))])
abbrev R193_5 : List (Exit × Shape) := []
def lo193_5 (k : Nat) : LO := loopO [] [] [] S193_5 X193_5 R193_5 (iter (spec_Be32_s5) k)
theorem st193_5 (k : Nat) (rec v) : evC Tryz.prog ⟨32, []⟩ (F193 k) (inlN Tryz.prog (F193 k) 4) [] (lpAt (bodyOf Tryz.f193) [0]) (Kb [] [] [] S193_5 X193_5 R193_5 rec) (mkSt [] [] S193_5 v.1 v.2) = (spec_Be32_s5) rec v := by kernel_rfl
theorem lp193_5 (k : Nat) {c : Cx} (hP : c.P = Tryz.prog) (hm : c.m = ⟨32, []⟩) (hg : c.gs = []) : LoopOk c (lo193_5 k) (lpAt (bodyOf Tryz.f193) [0]) :=
  loop_at hP hm hg (okF193 k) (LInv.of (code := (lpAt (bodyOf Tryz.f193) [0])) (bs := []) (by kernel_rfl) LInv.nil) (fun rec v => st193_5 k rec v) k
theorem ev193 (k : Nat) (x) : evF Tryz.prog (F193 k) (inlN Tryz.prog (F193 k) 4) [(5, lo193_5 k)] Tryz.f193 (bodyOf Tryz.f193) (c193 k).ps (c193 k).rs (c193 k).rm x = (c193 k).m x := by kernel_rfl
theorem ok193 (k : Nat) : ConOk Tryz.prog (c193 k) :=
  fn_at (okF193 k) (cn := c193 k) (fn := Tryz.f193) (code := bodyOf Tryz.f193) (m := ⟨32, []⟩) (gs := []) (by kernel_rfl) (by kernel_rfl) (by kernel_rfl) (by kernel_rfl) (by kernel_rfl) (fun _ => by kernel_rfl)
    [(5, lo193_5 k)] (fun c hP hm hg => (LInv.of (code := (bodyOf Tryz.f193)) (bs := [(lpAt (bodyOf Tryz.f193) [0])]) (by kernel_rfl) (LInv.cons (b := (lpAt (bodyOf Tryz.f193) [0])) (by kernel_rfl) (lp193_5 k hP hm hg) LInv.nil))) (ev193 k)
def c100 (k : Nat) : Con := ⟨100, [((.sl (.int .u8)), false)], [T_Ether, (.int .i64)], (.own true), fun x => spec_EtherRead k x.1⟩
def F100 (k : Nat) : List Con := [c159 k, c193 k]
theorem okF100 (k : Nat) : ∀ cn ∈ F100 k, ConOk Tryz.prog cn := (conCons (ok159 k) (conCons (ok193 k) conNil))
theorem ev100 (k : Nat) (x) : evF Tryz.prog (F100 k) (inlN Tryz.prog (F100 k) 4) [] Tryz.f100 (bodyOf Tryz.f100) (c100 k).ps (c100 k).rs (c100 k).rm x = (c100 k).m x := by kernel_rfl
theorem ok100 (k : Nat) : ConOk Tryz.prog (c100 k) :=
  fn_at (okF100 k) (cn := c100 k) (fn := Tryz.f100) (code := bodyOf Tryz.f100) (m := ⟨89, []⟩) (gs := []) (by kernel_rfl) (by kernel_rfl) (by kernel_rfl) (by kernel_rfl) (by kernel_rfl) (fun _ => by kernel_rfl)
    [] (fun c hP hm hg => (LInv.of (code := (bodyOf Tryz.f100)) (bs := []) (by kernel_rfl) LInv.nil)) (ev100 k)
def c87 (k : Nat) : Con := ⟨87, [((.sl (.int .u8)), false)], [T_Addr, .bool], (.own true), fun x => spec_AddrOf k x.1⟩
def F87 (k : Nat) : List Con := [c193 k]
theorem okF87 (k : Nat) : ∀ cn ∈ F87 k, ConOk Tryz.prog cn := (conCons (ok193 k) conNil)
theorem ev87 (k : Nat) (x) : evF Tryz.prog (F87 k) (inlN Tryz.prog (F87 k) 4) [] Tryz.f87 (bodyOf Tryz.f87) (c87 k).ps (c87 k).rs (c87 k).rm x = (c87 k).m x := by kernel_rfl
theorem ok87 (k : Nat) : ConOk Tryz.prog (c87 k) :=
  fn_at (okF87 k) (cn := c87 k) (fn := Tryz.f87) (code := bodyOf Tryz.f87) (m := ⟨53, []⟩) (gs := []) (by kernel_rfl) (by kernel_rfl) (by kernel_rfl) (by kernel_rfl) (by kernel_rfl) (fun _ => by kernel_rfl)
    [] (fun c hP hm hg => (LInv.of (code := (bodyOf Tryz.f87)) (bs := []) (by kernel_rfl) LInv.nil)) (ev87 k)
def c216 (k : Nat) : Con := ⟨216, [((.int .i64), false), ((.int .i64), false)], [.bool], (.own true), fun x => spec_l05In x.1 x.2.1⟩
def F216 (k : Nat) : List Con := []
theorem okF216 (k : Nat) : ∀ cn ∈ F216 k, ConOk Tryz.prog cn := conNil
theorem ev216 (k : Nat) (x) : evF Tryz.prog (F216 k) (inlN Tryz.prog (F216 k) 4) [] Tryz.f216 (bodyOf Tryz.f216) (c216 k).ps (c216 k).rs (c216 k).rm x = (c216 k).m x := by kernel_rfl
theorem ok216 (k : Nat) : ConOk Tryz.prog (c216 k) :=
  fn_at (okF216 k) (cn := c216 k) (fn := Tryz.f216) (code := bodyOf Tryz.f216) (m := ⟨12, []⟩) (gs := []) (by kernel_rfl) (by kernel_rfl) (by kernel_rfl) (by kernel_rfl) (by kernel_rfl) (fun _ => by kernel_rfl)
    [] (fun c hP hm hg => (LInv.of (code := (bodyOf Tryz.f216)) (bs := []) (by kernel_rfl) LInv.nil)) (ev216 k)
def c85 (k : Nat) : Con := ⟨85, [((.int .i64), false)], [.bool], (.own true), fun x => spec_l03Half x.1⟩
def F85 (k : Nat) : List Con := []
theorem okF85 (k : Nat) : ∀ cn ∈ F85 k, ConOk Tryz.prog cn := conNil
theorem ev85 (k : Nat) (x) : evF Tryz.prog (F85 k) (inlN Tryz.prog (F85 k) 4) [] Tryz.f85 (bodyOf Tryz.f85) (c85 k).ps (c85 k).rs (c85 k).rm x = (c85 k).m x := by kernel_rfl
theorem ok85 (k : Nat) : ConOk Tryz.prog (c85 k) :=
  fn_at (okF85 k) (cn := c85 k) (fn := Tryz.f85) (code := bodyOf Tryz.f85) (m := ⟨9, []⟩) (gs := []) (by kernel_rfl) (by kernel_rfl) (by kernel_rfl) (by kernel_rfl) (by kernel_rfl) (fun _ => by kernel_rfl)
    [] (fun c hP hm hg => (LInv.of (code := (bodyOf Tryz.f85)) (bs := []) (by kernel_rfl) LInv.nil)) (ev85 k)
def c26 (k : Nat) : Con := ⟨26, [(T_Addr, false)], [.bool], (.own true), fun x => spec_AddrOk x.1⟩
def F26 (k : Nat) : List Con := [c85 k]
theorem okF26 (k : Nat) : ∀ cn ∈ F26 k, ConOk Tryz.prog cn := (conCons (ok85 k) conNil)
theorem ev26 (k : Nat) (x) : evF Tryz.prog (F26 k) (inlN Tryz.prog (F26 k) 4) [] Tryz.f26 (bodyOf Tryz.f26) (c26 k).ps (c26 k).rs (c26 k).rm x = (c26 k).m x := by kernel_rfl
theorem ok26 (k : Nat) : ConOk Tryz.prog (c26 k) :=
  fn_at (okF26 k) (cn := c26 k) (fn := Tryz.f26) (code := bodyOf Tryz.f26) (m := ⟨47, []⟩) (gs := []) (by kernel_rfl) (by kernel_rfl) (by kernel_rfl) (by kernel_rfl) (by kernel_rfl) (fun _ => by kernel_rfl)
    [] (fun c hP hm hg => (LInv.of (code := (bodyOf Tryz.f26)) (bs := []) (by kernel_rfl) LInv.nil)) (ev26 k)
def c184 (k : Nat) : Con := ⟨184, [(T_Four, false)], [.bool], (.own true), fun x => spec_FourOk x.1⟩
def F184 (k : Nat) : List Con := [c216 k, c26 k]
theorem okF184 (k : Nat) : ∀ cn ∈ F184 k, ConOk Tryz.prog cn := (conCons (ok216 k) (conCons (ok26 k) conNil))
theorem ev184 (k : Nat) (x) : evF Tryz.prog (F184 k) (inlN Tryz.prog (F184 k) 4) [] Tryz.f184 (bodyOf Tryz.f184) (c184 k).ps (c184 k).rs (c184 k).rm x = (c184 k).m x := by kernel_rfl
theorem ok184 (k : Nat) : ConOk Tryz.prog (c184 k) :=
  fn_at (okF184 k) (cn := c184 k) (fn := Tryz.f184) (code := bodyOf Tryz.f184) (m := ⟨84, []⟩) (gs := []) (by kernel_rfl) (by kernel_rfl) (by kernel_rfl) (by kernel_rfl) (by kernel_rfl) (fun _ => by kernel_rfl)
    [] (fun c hP hm hg => (LInv.of (code := (bodyOf Tryz.f184)) (bs := []) (by kernel_rfl) LInv.nil)) (ev184 k)
def c282 (k : Nat) : Con := ⟨282, [((.int .i64), false), ((.int .i64), false)], [(.int .i64)], (.own true), fun x => spec_l01Low x.1 x.2.1⟩
def F282 (k : Nat) : List Con := []
theorem okF282 (k : Nat) : ∀ cn ∈ F282 k, ConOk Tryz.prog cn := conNil
theorem ev282 (k : Nat) (x) : evF Tryz.prog (F282 k) (inlN Tryz.prog (F282 k) 4) [] Tryz.f282 (bodyOf Tryz.f282) (c282 k).ps (c282 k).rs (c282 k).rm x = (c282 k).m x := by kernel_rfl
theorem ok282 (k : Nat) : ConOk Tryz.prog (c282 k) :=
  fn_at (okF282 k) (cn := c282 k) (fn := Tryz.f282) (code := bodyOf Tryz.f282) (m := ⟨15, []⟩) (gs := []) (by kernel_rfl) (by kernel_rfl) (by kernel_rfl) (by kernel_rfl) (by kernel_rfl) (fun _ => by kernel_rfl)
    [] (fun c hP hm hg => (LInv.of (code := (bodyOf Tryz.f282)) (bs := []) (by kernel_rfl) LInv.nil)) (ev282 k)
def c195 (k : Nat) : Con := ⟨195, [((.int .i64), false)], [(.sl (.int .u8))], (.own true), fun x => spec_Put16 x.1⟩
def F195 (k : Nat) : List Con := [c282 k]
theorem okF195 (k : Nat) : ∀ cn ∈ F195 k, ConOk Tryz.prog cn := (conCons (ok282 k) conNil)
theorem ev195 (k : Nat) (x) : evF Tryz.prog (F195 k) (inlN Tryz.prog (F195 k) 4) [] Tryz.f195 (bodyOf Tryz.f195) (c195 k).ps (c195 k).rs (c195 k).rm x = (c195 k).m x := by kernel_rfl
theorem ok195 (k : Nat) : ConOk Tryz.prog (c195 k) :=
  fn_at (okF195 k) (cn := c195 k) (fn := Tryz.f195) (code := bodyOf Tryz.f195) (m := ⟨13, []⟩) (gs := []) (by kernel_rfl) (by kernel_rfl) (by kernel_rfl) (by kernel_rfl) (by kernel_rfl) (fun _ => by kernel_rfl)
    [] (fun c hP hm hg => (LInv.of (code := (bodyOf Tryz.f195)) (bs := []) (by kernel_rfl) LInv.nil)) (ev195 k)
def c192 (k : Nat) : Con := ⟨192, [((.int .i64), false)], [(.sl (.int .u8))], (.own true), fun x => spec_Put32 x.1⟩
def F192 (k : Nat) : List Con := [c282 k, c195 k]
theorem okF192 (k : Nat) : ∀ cn ∈ F192 k, ConOk Tryz.prog cn := (conCons (ok282 k) (conCons (ok195 k) conNil))
theorem ev192 (k : Nat) (x) : evF Tryz.prog (F192 k) (inlN Tryz.prog (F192 k) 4) [] Tryz.f192 (bodyOf Tryz.f192) (c192 k).ps (c192 k).rs (c192 k).rm x = (c192 k).m x := by kernel_rfl
theorem ok192 (k : Nat) : ConOk Tryz.prog (c192 k) :=
  fn_at (okF192 k) (cn := c192 k) (fn := Tryz.f192) (code := bodyOf Tryz.f192) (m := ⟨13, []⟩) (gs := []) (by kernel_rfl) (by kernel_rfl) (by kernel_rfl) (by kernel_rfl) (by kernel_rfl) (fun _ => by kernel_rfl)
    [] (fun c hP hm hg => (LInv.of (code := (bodyOf Tryz.f192)) (bs := []) (by kernel_rfl) LInv.nil)) (ev192 k)
def c86 (k : Nat) : Con := ⟨86, [(T_Addr, false)], [(.sl (.int .u8))], (.own true), fun x => spec_AddrBytes x.1⟩
def F86 (k : Nat) : List Con := [c26 k, c192 k]
theorem okF86 (k : Nat) : ∀ cn ∈ F86 k, ConOk Tryz.prog cn := (conCons (ok26 k) (conCons (ok192 k) conNil))
theorem ev86 (k : Nat) (x) : evF Tryz.prog (F86 k) (inlN Tryz.prog (F86 k) 4) [] Tryz.f86 (bodyOf Tryz.f86) (c86 k).ps (c86 k).rs (c86 k).rm x = (c86 k).m x := by kernel_rfl
theorem ok86 (k : Nat) : ConOk Tryz.prog (c86 k) :=
  fn_at (okF86 k) (cn := c86 k) (fn := Tryz.f86) (code := bodyOf Tryz.f86) (m := ⟨29, []⟩) (gs := []) (by kernel_rfl) (by kernel_rfl) (by kernel_rfl) (by kernel_rfl) (by kernel_rfl) (fun _ => by kernel_rfl)
    [] (fun c hP hm hg => (LInv.of (code := (bodyOf Tryz.f86)) (bs := []) (by kernel_rfl) LInv.nil)) (ev86 k)
def c279 (k : Nat) : Con := ⟨279, [(T_Four, false), ((.int .i64), false)], [(.sl (.int .u8))], (.own true), fun x => spec_l05Head x.1 x.2.1⟩
def F279 (k : Nat) : List Con := [c195 k, c86 k]
theorem okF279 (k : Nat) : ∀ cn ∈ F279 k, ConOk Tryz.prog cn := (conCons (ok195 k) (conCons (ok86 k) conNil))
theorem ev279 (k : Nat) (x) : evF Tryz.prog (F279 k) (inlN Tryz.prog (F279 k) 4) [] Tryz.f279 (bodyOf Tryz.f279) (c279 k).ps (c279 k).rs (c279 k).rm x = (c279 k).m x := by kernel_rfl
theorem ok279 (k : Nat) : ConOk Tryz.prog (c279 k) :=
  fn_at (okF279 k) (cn := c279 k) (fn := Tryz.f279) (code := bodyOf Tryz.f279) (m := ⟨72, []⟩) (gs := []) (by kernel_rfl) (by kernel_rfl) (by kernel_rfl) (by kernel_rfl) (by kernel_rfl) (fun _ => by kernel_rfl)
    [] (fun c hP hm hg => (LInv.of (code := (bodyOf Tryz.f279)) (bs := []) (by kernel_rfl) LInv.nil)) (ev279 k)
def c320 (k : Nat) : Con := ⟨320, [((.int .i64), false)], [.bool], (.own true), fun x => spec_l02Word x.1⟩
def F320 (k : Nat) : List Con := []
theorem okF320 (k : Nat) : ∀ cn ∈ F320 k, ConOk Tryz.prog cn := conNil
theorem ev320 (k : Nat) (x) : evF Tryz.prog (F320 k) (inlN Tryz.prog (F320 k) 4) [] Tryz.f320 (bodyOf Tryz.f320) (c320 k).ps (c320 k).rs (c320 k).rm x = (c320 k).m x := by kernel_rfl
theorem ok320 (k : Nat) : ConOk Tryz.prog (c320 k) :=
  fn_at (okF320 k) (cn := c320 k) (fn := Tryz.f320) (code := bodyOf Tryz.f320) (m := ⟨9, []⟩) (gs := []) (by kernel_rfl) (by kernel_rfl) (by kernel_rfl) (by kernel_rfl) (by kernel_rfl) (fun _ => by kernel_rfl)
    [] (fun c hP hm hg => (LInv.of (code := (bodyOf Tryz.f320)) (bs := []) (by kernel_rfl) LInv.nil)) (ev320 k)
def c277 (k : Nat) : Con := ⟨277, [((.int .i64), false), ((.int .i64), false)], [(.int .i64)], (.own true), fun x => spec_SumAdd x.1 x.2.1⟩
def F277 (k : Nat) : List Con := [c320 k]
theorem okF277 (k : Nat) : ∀ cn ∈ F277 k, ConOk Tryz.prog cn := (conCons (ok320 k) conNil)
theorem ev277 (k : Nat) (x) : evF Tryz.prog (F277 k) (inlN Tryz.prog (F277 k) 4) [] Tryz.f277 (bodyOf Tryz.f277) (c277 k).ps (c277 k).rs (c277 k).rm x = (c277 k).m x := by kernel_rfl
theorem ok277 (k : Nat) : ConOk Tryz.prog (c277 k) :=
  fn_at (okF277 k) (cn := c277 k) (fn := Tryz.f277) (code := bodyOf Tryz.f277) (m := ⟨24, []⟩) (gs := []) (by kernel_rfl) (by kernel_rfl) (by kernel_rfl) (by kernel_rfl) (by kernel_rfl) (fun _ => by kernel_rfl)
    [] (fun c hP hm hg => (LInv.of (code := (bodyOf Tryz.f277)) (bs := []) (by kernel_rfl) LInv.nil)) (ev277 k)
def c258 (k : Nat) : Con := ⟨258, [((.sl (.int .u8)), false)], [(.int .i64)], (.own true), fun x => spec_OnesSum k x.1⟩
def F258 (k : Nat) : List Con := [c277 k]
theorem okF258 (k : Nat) : ∀ cn ∈ F258 k, ConOk Tryz.prog cn := (conCons (ok277 k) conNil)
abbrev S258_5 : Shape := [(0, .v (.sl (.int .u8))), (3, .v (.int .i64)), (4, .v (.int .i64))]
abbrev X258_5 : Exit × Shape := (Exit.exit 0, [(3, .v (.int .i64))])
abbrev R258_5 : List (Exit × Shape) := []
def lo258_5 (k : Nat) : LO := loopO [] [] [] S258_5 X258_5 R258_5 (iter (spec_OnesSum_s5) k)
theorem st258_5 (k : Nat) (rec v) : evC Tryz.prog ⟨38, []⟩ (F258 k) (inlN Tryz.prog (F258 k) 4) [] (lpAt (bodyOf Tryz.f258) [0]) (Kb [] [] [] S258_5 X258_5 R258_5 rec) (mkSt [] [] S258_5 v.1 v.2) = (spec_OnesSum_s5) rec v := by kernel_rfl
theorem lp258_5 (k : Nat) {c : Cx} (hP : c.P = Tryz.prog) (hm : c.m = ⟨38, []⟩) (hg : c.gs = []) : LoopOk c (lo258_5 k) (lpAt (bodyOf Tryz.f258) [0]) :=
  loop_at hP hm hg (okF258 k) (LInv.of (code := (lpAt (bodyOf Tryz.f258) [0])) (bs := []) (by kernel_rfl) LInv.nil) (fun rec v => st258_5 k rec v) k
theorem ev258 (k : Nat) (x) : evF Tryz.prog (F258 k) (inlN Tryz.prog (F258 k) 4) [(5, lo258_5 k)] Tryz.f258 (bodyOf Tryz.f258) (c258 k).ps (c258 k).rs (c258 k).rm x = (c258 k).m x := by kernel_rfl
theorem ok258 (k : Nat) : ConOk Tryz.prog (c258 k) :=
  fn_at (okF258 k) (cn := c258 k) (fn := Tryz.f258) (code := bodyOf Tryz.f258) (m := ⟨38, []⟩) (gs := []) (by kernel_rfl) (by kernel_rfl) (by kernel_rfl) (by kernel_rfl) (by kernel_rfl) (fun _ => by kernel_rfl)
    [(5, lo258_5 k)] (fun c hP hm hg => (LInv.of (code := (bodyOf Tryz.f258)) (bs := [(lpAt (bodyOf Tryz.f258) [0])]) (by kernel_rfl) (LInv.cons (b := (lpAt (bodyOf Tryz.f258) [0])) (by kernel_rfl) (lp258_5 k hP hm hg) LInv.nil))) (ev258 k)
def c160 (k : Nat) : Con := ⟨160, [((.sl (.int .u8)), false)], [(.int .i64)], (.own true), fun x => spec_Checksum k x.1⟩
def F160 (k : Nat) : List Con := [c258 k]
theorem okF160 (k : Nat) : ∀ cn ∈ F160 k, ConOk Tryz.prog cn := (conCons (ok258 k) conNil)
theorem ev160 (k : Nat) (x) : evF Tryz.prog (F160 k) (inlN Tryz.prog (F160 k) 4) [] Tryz.f160 (bodyOf Tryz.f160) (c160 k).ps (c160 k).rs (c160 k).rm x = (c160 k).m x := by kernel_rfl
theorem ok160 (k : Nat) : ConOk Tryz.prog (c160 k) :=
  fn_at (okF160 k) (cn := c160 k) (fn := Tryz.f160) (code := bodyOf Tryz.f160) (m := ⟨10, []⟩) (gs := []) (by kernel_rfl) (by kernel_rfl) (by kernel_rfl) (by kernel_rfl) (by kernel_rfl) (fun _ => by kernel_rfl)
    [] (fun c hP hm hg => (LInv.of (code := (bodyOf Tryz.f160)) (bs := []) (by kernel_rfl) LInv.nil)) (ev160 k)
def c213 (k : Nat) : Con := ⟨213, [(T_Four, false)], [(.int .i64)], (.own true), fun x => spec_HeadSum k x.1⟩
def F213 (k : Nat) : List Con := [c184 k, c279 k, c160 k]
theorem okF213 (k : Nat) : ∀ cn ∈ F213 k, ConOk Tryz.prog cn := (conCons (ok184 k) (conCons (ok279 k) (conCons (ok160 k) conNil)))
theorem ev213 (k : Nat) (x) : evF Tryz.prog (F213 k) (inlN Tryz.prog (F213 k) 4) [] Tryz.f213 (bodyOf Tryz.f213) (c213 k).ps (c213 k).rs (c213 k).rm x = (c213 k).m x := by kernel_rfl
theorem ok213 (k : Nat) : ConOk Tryz.prog (c213 k) :=
  fn_at (okF213 k) (cn := c213 k) (fn := Tryz.f213) (code := bodyOf Tryz.f213) (m := ⟨9, []⟩) (gs := []) (by kernel_rfl) (by kernel_rfl) (by kernel_rfl) (by kernel_rfl) (by kernel_rfl) (fun _ => by kernel_rfl)
    [] (fun c hP hm hg => (LInv.of (code := (bodyOf Tryz.f213)) (bs := []) (by kernel_rfl) LInv.nil)) (ev213 k)
def c101 (k : Nat) : Con := ⟨101, [((.sl (.int .u8)), false)], [T_Four, (.sl (.int .u8)), (.int .i64)], (.own true), fun x => spec_FourRead k x.1⟩
def F101 (k : Nat) : List Con := [c159 k, c87 k, c213 k]
theorem okF101 (k : Nat) : ∀ cn ∈ F101 k, ConOk Tryz.prog cn := (conCons (ok159 k) (conCons (ok87 k) (conCons (ok213 k) conNil)))
theorem ev101 (k : Nat) (x) : evF Tryz.prog (F101 k) (inlN Tryz.prog (F101 k) 4) [] Tryz.f101 (bodyOf Tryz.f101) (c101 k).ps (c101 k).rs (c101 k).rm x = (c101 k).m x := by kernel_rfl
theorem ok101 (k : Nat) : ConOk Tryz.prog (c101 k) :=
  fn_at (okF101 k) (cn := c101 k) (fn := Tryz.f101) (code := bodyOf Tryz.f101) (m := ⟨140, []⟩) (gs := []) (by kernel_rfl) (by kernel_rfl) (by kernel_rfl) (by kernel_rfl) (by kernel_rfl) (fun _ => by kernel_rfl)
    [] (fun c hP hm hg => (LInv.of (code := (bodyOf Tryz.f101)) (bs := []) (by kernel_rfl) LInv.nil)) (ev101 k)
def c102 (k : Nat) : Con := ⟨102, [(T_Four, false)], [.bool], (.own true), fun x => spec_FourPiece x.1⟩
def F102 (k : Nat) : List Con := [c184 k]
theorem okF102 (k : Nat) : ∀ cn ∈ F102 k, ConOk Tryz.prog cn := (conCons (ok184 k) conNil)
theorem ev102 (k : Nat) (x) : evF Tryz.prog (F102 k) (inlN Tryz.prog (F102 k) 4) [] Tryz.f102 (bodyOf Tryz.f102) (c102 k).ps (c102 k).rs (c102 k).rm x = (c102 k).m x := by kernel_rfl
theorem ok102 (k : Nat) : ConOk Tryz.prog (c102 k) :=
  fn_at (okF102 k) (cn := c102 k) (fn := Tryz.f102) (code := bodyOf Tryz.f102) (m := ⟨16, []⟩) (gs := []) (by kernel_rfl) (by kernel_rfl) (by kernel_rfl) (by kernel_rfl) (by kernel_rfl) (fun _ => by kernel_rfl)
    [] (fun c hP hm hg => (LInv.of (code := (bodyOf Tryz.f102)) (bs := []) (by kernel_rfl) LInv.nil)) (ev102 k)
def c214 (k : Nat) : Con := ⟨214, [((.int .i64), false)], [.bool], (.own true), fun x => spec_l06Inner x.1⟩
def F214 (k : Nat) : List Con := []
theorem okF214 (k : Nat) : ∀ cn ∈ F214 k, ConOk Tryz.prog cn := conNil
theorem ev214 (k : Nat) (x) : evF Tryz.prog (F214 k) (inlN Tryz.prog (F214 k) 4) [] Tryz.f214 (bodyOf Tryz.f214) (c214 k).ps (c214 k).rs (c214 k).rm x = (c214 k).m x := by kernel_rfl
theorem ok214 (k : Nat) : ConOk Tryz.prog (c214 k) :=
  fn_at (okF214 k) (cn := c214 k) (fn := Tryz.f214) (code := bodyOf Tryz.f214) (m := ⟨13, []⟩) (gs := []) (by kernel_rfl) (by kernel_rfl) (by kernel_rfl) (by kernel_rfl) (by kernel_rfl) (fun _ => by kernel_rfl)
    [] (fun c hP hm hg => (LInv.of (code := (bodyOf Tryz.f214)) (bs := []) (by kernel_rfl) LInv.nil)) (ev214 k)
def c103 (k : Nat) : Con := ⟨103, [((.sl (.int .u8)), false)], [T_Six, (.sl (.int .u8)), (.int .i64)], (.own true), fun x => spec_SixRead k x.1⟩
def F103 (k : Nat) : List Con := [c159 k, c193 k, c87 k, c214 k]
theorem okF103 (k : Nat) : ∀ cn ∈ F103 k, ConOk Tryz.prog cn := (conCons (ok159 k) (conCons (ok193 k) (conCons (ok87 k) (conCons (ok214 k) conNil))))
abbrev S103_17 : Shape := [(0, .v (.sl (.int .u8))), (2, .box true T_Six), (7, .v (.int .i64)), (10, .box true T_Six), (11, .v (.int .i64)), (12, .v (.int .i64))]
abbrev X103_17 : Exit × Shape := (Exit.ret, [(2, .box true T_Six), (3, .own true (.sl (.int .u8))), (4, .v (.int .i64))])
abbrev R103_17 : List (Exit × Shape) := [(Exit.exit 0, [(0, .v (.sl (.int .u8))), (2, .box true T_Six), (7, .v (.int .i64)), (10, .box true T_Six), (11, .v (.int .i64)), (12, .v (.int .i64))])]
def lo103_17 (k : Nat) : LO := loopO [] [] [] S103_17 X103_17 R103_17 (iter (spec_SixRead_s17) k)
theorem st103_17 (k : Nat) (rec v) : evC Tryz.prog ⟨167, []⟩ (F103 k) (inlN Tryz.prog (F103 k) 4) [] (lpAt (bodyOf Tryz.f103) [0]) (Kb [] [] [] S103_17 X103_17 R103_17 rec) (mkSt [] [] S103_17 v.1 v.2) = (spec_SixRead_s17) rec v := by kernel_rfl
theorem lp103_17 (k : Nat) {c : Cx} (hP : c.P = Tryz.prog) (hm : c.m = ⟨167, []⟩) (hg : c.gs = []) : LoopOk c (lo103_17 k) (lpAt (bodyOf Tryz.f103) [0]) :=
  loop_at hP hm hg (okF103 k) (LInv.of (code := (lpAt (bodyOf Tryz.f103) [0])) (bs := []) (by kernel_rfl) LInv.nil) (fun rec v => st103_17 k rec v) k
theorem ev103 (k : Nat) (x) : evF Tryz.prog (F103 k) (inlN Tryz.prog (F103 k) 4) [(17, lo103_17 k)] Tryz.f103 (bodyOf Tryz.f103) (c103 k).ps (c103 k).rs (c103 k).rm x = (c103 k).m x := by kernel_rfl
theorem ok103 (k : Nat) : ConOk Tryz.prog (c103 k) :=
  fn_at (okF103 k) (cn := c103 k) (fn := Tryz.f103) (code := bodyOf Tryz.f103) (m := ⟨167, []⟩) (gs := []) (by kernel_rfl) (by kernel_rfl) (by kernel_rfl) (by kernel_rfl) (by kernel_rfl) (fun _ => by kernel_rfl)
    [(17, lo103_17 k)] (fun c hP hm hg => (LInv.of (code := (bodyOf Tryz.f103)) (bs := [(lpAt (bodyOf Tryz.f103) [0])]) (by kernel_rfl) (LInv.cons (b := (lpAt (bodyOf Tryz.f103) [0])) (by kernel_rfl) (lp103_17 k hP hm hg) LInv.nil))) (ev103 k)
def c105 (k : Nat) : Con := ⟨105, [(T_Packet, false)], [T_Addr], (.own true), fun x => spec_l08Src x.1⟩
def F105 (k : Nat) : List Con := []
theorem okF105 (k : Nat) : ∀ cn ∈ F105 k, ConOk Tryz.prog cn := conNil
theorem ev105 (k : Nat) (x) : evF Tryz.prog (F105 k) (inlN Tryz.prog (F105 k) 4) [] Tryz.f105 (bodyOf Tryz.f105) (c105 k).ps (c105 k).rs (c105 k).rm x = (c105 k).m x := by kernel_rfl
theorem ok105 (k : Nat) : ConOk Tryz.prog (c105 k) :=
  fn_at (okF105 k) (cn := c105 k) (fn := Tryz.f105) (code := bodyOf Tryz.f105) (m := ⟨12, []⟩) (gs := []) (by kernel_rfl) (by kernel_rfl) (by kernel_rfl) (by kernel_rfl) (by kernel_rfl) (fun _ => by kernel_rfl)
    [] (fun c hP hm hg => (LInv.of (code := (bodyOf Tryz.f105)) (bs := []) (by kernel_rfl) LInv.nil)) (ev105 k)
def c106 (k : Nat) : Con := ⟨106, [(T_Packet, false)], [T_Addr], (.own true), fun x => spec_l08Dst x.1⟩
def F106 (k : Nat) : List Con := []
theorem okF106 (k : Nat) : ∀ cn ∈ F106 k, ConOk Tryz.prog cn := conNil
theorem ev106 (k : Nat) (x) : evF Tryz.prog (F106 k) (inlN Tryz.prog (F106 k) 4) [] Tryz.f106 (bodyOf Tryz.f106) (c106 k).ps (c106 k).rs (c106 k).rm x = (c106 k).m x := by kernel_rfl
theorem ok106 (k : Nat) : ConOk Tryz.prog (c106 k) :=
  fn_at (okF106 k) (cn := c106 k) (fn := Tryz.f106) (code := bodyOf Tryz.f106) (m := ⟨12, []⟩) (gs := []) (by kernel_rfl) (by kernel_rfl) (by kernel_rfl) (by kernel_rfl) (by kernel_rfl) (fun _ => by kernel_rfl)
    [] (fun c hP hm hg => (LInv.of (code := (bodyOf Tryz.f106)) (bs := []) (by kernel_rfl) LInv.nil)) (ev106 k)
def c215 (k : Nat) : Con := ⟨215, [(T_Addr, false), (T_Addr, false)], [.bool], (.own true), fun x => spec_l07Pair x.1 x.2.1⟩
def F215 (k : Nat) : List Con := [c26 k]
theorem okF215 (k : Nat) : ∀ cn ∈ F215 k, ConOk Tryz.prog cn := (conCons (ok26 k) conNil)
theorem ev215 (k : Nat) (x) : evF Tryz.prog (F215 k) (inlN Tryz.prog (F215 k) 4) [] Tryz.f215 (bodyOf Tryz.f215) (c215 k).ps (c215 k).rs (c215 k).rm x = (c215 k).m x := by kernel_rfl
theorem ok215 (k : Nat) : ConOk Tryz.prog (c215 k) :=
  fn_at (okF215 k) (cn := c215 k) (fn := Tryz.f215) (code := bodyOf Tryz.f215) (m := ⟨18, []⟩) (gs := []) (by kernel_rfl) (by kernel_rfl) (by kernel_rfl) (by kernel_rfl) (by kernel_rfl) (fun _ => by kernel_rfl)
    [] (fun c hP hm hg => (LInv.of (code := (bodyOf Tryz.f215)) (bs := []) (by kernel_rfl) LInv.nil)) (ev215 k)
def c182 (k : Nat) : Con := ⟨182, [((.int .i64), false), ((.int .i64), false)], [(.int .i64)], (.own true), fun x => spec_UpperKind x.1 x.2.1⟩
def F182 (k : Nat) : List Con := [c216 k]
theorem okF182 (k : Nat) : ∀ cn ∈ F182 k, ConOk Tryz.prog cn := (conCons (ok216 k) conNil)
theorem ev182 (k : Nat) (x) : evF Tryz.prog (F182 k) (inlN Tryz.prog (F182 k) 4) [] Tryz.f182 (bodyOf Tryz.f182) (c182 k).ps (c182 k).rs (c182 k).rm x = (c182 k).m x := by kernel_rfl
theorem ok182 (k : Nat) : ConOk Tryz.prog (c182 k) :=
  fn_at (okF182 k) (cn := c182 k) (fn := Tryz.f182) (code := bodyOf Tryz.f182) (m := ⟨34, []⟩) (gs := []) (by kernel_rfl) (by kernel_rfl) (by kernel_rfl) (by kernel_rfl) (by kernel_rfl) (fun _ => by kernel_rfl)
    [] (fun c hP hm hg => (LInv.of (code := (bodyOf Tryz.f182)) (bs := []) (by kernel_rfl) LInv.nil)) (ev182 k)
def c276 (k : Nat) : Con := ⟨276, [(T_Upper, false)], [(.int .i64)], (.own true), fun x => spec_UpperSize x.1⟩
def F276 (k : Nat) : List Con := []
theorem okF276 (k : Nat) : ∀ cn ∈ F276 k, ConOk Tryz.prog cn := conNil
theorem ev276 (k : Nat) (x) : evF Tryz.prog (F276 k) (inlN Tryz.prog (F276 k) 4) [] Tryz.f276 (bodyOf Tryz.f276) (c276 k).ps (c276 k).rs (c276 k).rm x = (c276 k).m x := by kernel_rfl
theorem ok276 (k : Nat) : ConOk Tryz.prog (c276 k) :=
  fn_at (okF276 k) (cn := c276 k) (fn := Tryz.f276) (code := bodyOf Tryz.f276) (m := ⟨27, []⟩) (gs := []) (by kernel_rfl) (by kernel_rfl) (by kernel_rfl) (by kernel_rfl) (by kernel_rfl) (fun _ => by kernel_rfl)
    [] (fun c hP hm hg => (LInv.of (code := (bodyOf Tryz.f276)) (bs := []) (by kernel_rfl) LInv.nil)) (ev276 k)
def c274 (k : Nat) : Con := ⟨274, [(T_Upper, false), ((.int .i64), false)], [.bool], (.own true), fun x => spec_UpperOk x.1 x.2.1⟩
def F274 (k : Nat) : List Con := [c216 k, c85 k, c276 k]
theorem okF274 (k : Nat) : ∀ cn ∈ F274 k, ConOk Tryz.prog cn := (conCons (ok216 k) (conCons (ok85 k) (conCons (ok276 k) conNil)))
theorem ev274 (k : Nat) (x) : evF Tryz.prog (F274 k) (inlN Tryz.prog (F274 k) 4) [] Tryz.f274 (bodyOf Tryz.f274) (c274 k).ps (c274 k).rs (c274 k).rm x = (c274 k).m x := by kernel_rfl
theorem ok274 (k : Nat) : ConOk Tryz.prog (c274 k) :=
  fn_at (okF274 k) (cn := c274 k) (fn := Tryz.f274) (code := bodyOf Tryz.f274) (m := ⟨169, []⟩) (gs := []) (by kernel_rfl) (by kernel_rfl) (by kernel_rfl) (by kernel_rfl) (by kernel_rfl) (fun _ => by kernel_rfl)
    [] (fun c hP hm hg => (LInv.of (code := (bodyOf Tryz.f274)) (bs := []) (by kernel_rfl) LInv.nil)) (ev274 k)
def c275 (k : Nat) : Con := ⟨275, [(T_Addr, false), (T_Addr, false), ((.int .i64), false), ((.int .i64), false)], [(.int .i64)], (.own true), fun x => spec_PseudoSum k x.1 x.2.1 x.2.2.1 x.2.2.2.1⟩
def F275 (k : Nat) : List Con := [c215 k, c216 k, c86 k, c195 k, c258 k, c192 k]
theorem okF275 (k : Nat) : ∀ cn ∈ F275 k, ConOk Tryz.prog cn := (conCons (ok215 k) (conCons (ok216 k) (conCons (ok86 k) (conCons (ok195 k) (conCons (ok258 k) (conCons (ok192 k) conNil))))))
theorem ev275 (k : Nat) (x) : evF Tryz.prog (F275 k) (inlN Tryz.prog (F275 k) 4) [] Tryz.f275 (bodyOf Tryz.f275) (c275 k).ps (c275 k).rs (c275 k).rm x = (c275 k).m x := by kernel_rfl
theorem ok275 (k : Nat) : ConOk Tryz.prog (c275 k) :=
  fn_at (okF275 k) (cn := c275 k) (fn := Tryz.f275) (code := bodyOf Tryz.f275) (m := ⟨52, []⟩) (gs := []) (by kernel_rfl) (by kernel_rfl) (by kernel_rfl) (by kernel_rfl) (by kernel_rfl) (fun _ => by kernel_rfl)
    [] (fun c hP hm hg => (LInv.of (code := (bodyOf Tryz.f275)) (bs := []) (by kernel_rfl) LInv.nil)) (ev275 k)
def c278 (k : Nat) : Con := ⟨278, [(T_Upper, false), ((.int .i64), false)], [(.sl (.int .u8))], (.own true), fun x => spec_l07Bytes x.1 x.2.1⟩
def F278 (k : Nat) : List Con := [c195 k, c192 k, c276 k]
theorem okF278 (k : Nat) : ∀ cn ∈ F278 k, ConOk Tryz.prog cn := (conCons (ok195 k) (conCons (ok192 k) (conCons (ok276 k) conNil)))
theorem ev278 (k : Nat) (x) : evF Tryz.prog (F278 k) (inlN Tryz.prog (F278 k) 4) [] Tryz.f278 (bodyOf Tryz.f278) (c278 k).ps (c278 k).rs (c278 k).rm x = (c278 k).m x := by kernel_rfl
theorem ok278 (k : Nat) : ConOk Tryz.prog (c278 k) :=
  fn_at (okF278 k) (cn := c278 k) (fn := Tryz.f278) (code := bodyOf Tryz.f278) (m := ⟨96, []⟩) (gs := []) (by kernel_rfl) (by kernel_rfl) (by kernel_rfl) (by kernel_rfl) (by kernel_rfl) (fun _ => by kernel_rfl)
    [] (fun c hP hm hg => (LInv.of (code := (bodyOf Tryz.f278)) (bs := []) (by kernel_rfl) LInv.nil)) (ev278 k)
def c180 (k : Nat) : Con := ⟨180, [(T_Upper, false), (T_Addr, false), (T_Addr, false)], [(.int .i64)], (.own true), fun x => spec_UpperSum k x.1 x.2.1 x.2.2.1⟩
def F180 (k : Nat) : List Con := [c215 k, c274 k, c276 k, c275 k, c278 k, c258 k, c277 k]
theorem okF180 (k : Nat) : ∀ cn ∈ F180 k, ConOk Tryz.prog cn := (conCons (ok215 k) (conCons (ok274 k) (conCons (ok276 k) (conCons (ok275 k) (conCons (ok278 k) (conCons (ok258 k) (conCons (ok277 k) conNil)))))))
theorem ev180 (k : Nat) (x) : evF Tryz.prog (F180 k) (inlN Tryz.prog (F180 k) 4) [] Tryz.f180 (bodyOf Tryz.f180) (c180 k).ps (c180 k).rs (c180 k).rm x = (c180 k).m x := by kernel_rfl
theorem ok180 (k : Nat) : ConOk Tryz.prog (c180 k) :=
  fn_at (okF180 k) (cn := c180 k) (fn := Tryz.f180) (code := bodyOf Tryz.f180) (m := ⟨68, []⟩) (gs := []) (by kernel_rfl) (by kernel_rfl) (by kernel_rfl) (by kernel_rfl) (by kernel_rfl) (fun _ => by kernel_rfl)
    [] (fun c hP hm hg => (LInv.of (code := (bodyOf Tryz.f180)) (bs := []) (by kernel_rfl) LInv.nil)) (ev180 k)
def c104 (k : Nat) : Con := ⟨104, [((.sl (.int .u8)), false), ((.int .i64), false), (T_Addr, false), (T_Addr, false)], [T_Upper, (.int .i64)], (.own true), fun x => spec_UpperRead k x.1 x.2.1 x.2.2.1 x.2.2.2.1⟩
def F104 (k : Nat) : List Con := [c215 k, c216 k, c182 k, c159 k, c193 k, c180 k]
theorem okF104 (k : Nat) : ∀ cn ∈ F104 k, ConOk Tryz.prog cn := (conCons (ok215 k) (conCons (ok216 k) (conCons (ok182 k) (conCons (ok159 k) (conCons (ok193 k) (conCons (ok180 k) conNil))))))
theorem ev104 (k : Nat) (x) : evF Tryz.prog (F104 k) (inlN Tryz.prog (F104 k) 4) [] Tryz.f104 (bodyOf Tryz.f104) (c104 k).ps (c104 k).rs (c104 k).rm x = (c104 k).m x := by kernel_rfl
theorem ok104 (k : Nat) : ConOk Tryz.prog (c104 k) :=
  fn_at (okF104 k) (cn := c104 k) (fn := Tryz.f104) (code := bodyOf Tryz.f104) (m := ⟨206, []⟩) (gs := []) (by kernel_rfl) (by kernel_rfl) (by kernel_rfl) (by kernel_rfl) (by kernel_rfl) (fun _ => by kernel_rfl)
    [] (fun c hP hm hg => (LInv.of (code := (bodyOf Tryz.f104)) (bs := []) (by kernel_rfl) LInv.nil)) (ev104 k)
def c38 (k : Nat) : Con := ⟨38, [((.sl (.int .u8)), false)], [T_Packet, (.int .i64)], (.own true), fun x => spec_PacketRead k x.1⟩
def F38 (k : Nat) : List Con := [c100 k, c101 k, c102 k, c105 k, c106 k, c104 k, c103 k]
theorem okF38 (k : Nat) : ∀ cn ∈ F38 k, ConOk Tryz.prog cn := (conCons (ok100 k) (conCons (ok101 k) (conCons (ok102 k) (conCons (ok105 k) (conCons (ok106 k) (conCons (ok104 k) (conCons (ok103 k) conNil)))))))
theorem ev38 (k : Nat) (x) : evF Tryz.prog (F38 k) (inlN Tryz.prog (F38 k) 4) [] Tryz.f38 (bodyOf Tryz.f38) (c38 k).ps (c38 k).rs (c38 k).rm x = (c38 k).m x := by kernel_rfl
theorem ok38 (k : Nat) : ConOk Tryz.prog (c38 k) :=
  fn_at (okF38 k) (cn := c38 k) (fn := Tryz.f38) (code := bodyOf Tryz.f38) (m := ⟨109, []⟩) (gs := []) (by kernel_rfl) (by kernel_rfl) (by kernel_rfl) (by kernel_rfl) (by kernel_rfl) (fun _ => by kernel_rfl)
    [] (fun c hP hm hg => (LInv.of (code := (bodyOf Tryz.f38)) (bs := []) (by kernel_rfl) LInv.nil)) (ev38 k)
def c217 (k : Nat) : Con := ⟨217, [((.sl (.int .u8)), false)], [(.int .i64)], (.own true), fun x => impl_beOf k x.1⟩
def F217 (k : Nat) : List Con := []
theorem okF217 (k : Nat) : ∀ cn ∈ F217 k, ConOk Tryz.prog cn := conNil
abbrev S217_3 : Shape := [(3, .v (.int .i64)), (6, .v (.sl (.int .u8))), (7, .v (.int .i64)), (8, .v (.int .i64))]
abbrev X217_3 : Exit × Shape := (Exit.exit 0, [(3, .v (.int .i64))])
abbrev R217_3 : List (Exit × Shape) := []
def lo217_3 (k : Nat) : LO := loopO [] [] [] S217_3 X217_3 R217_3 (iter (impl_beOf_s3) k)
theorem st217_3 (k : Nat) (rec v) : evC Tryz.prog ⟨19, []⟩ (F217 k) (inlN Tryz.prog (F217 k) 4) [] (lpAt (bodyOf Tryz.f217) [0]) (Kb [] [] [] S217_3 X217_3 R217_3 rec) (mkSt [] [] S217_3 v.1 v.2) = (impl_beOf_s3) rec v := by kernel_rfl
theorem lp217_3 (k : Nat) {c : Cx} (hP : c.P = Tryz.prog) (hm : c.m = ⟨19, []⟩) (hg : c.gs = []) : LoopOk c (lo217_3 k) (lpAt (bodyOf Tryz.f217) [0]) :=
  loop_at hP hm hg (okF217 k) (LInv.of (code := (lpAt (bodyOf Tryz.f217) [0])) (bs := []) (by kernel_rfl) LInv.nil) (fun rec v => st217_3 k rec v) k
theorem ev217 (k : Nat) (x) : evF Tryz.prog (F217 k) (inlN Tryz.prog (F217 k) 4) [(3, lo217_3 k)] Tryz.f217 (bodyOf Tryz.f217) (c217 k).ps (c217 k).rs (c217 k).rm x = (c217 k).m x := by kernel_rfl
theorem ok217 (k : Nat) : ConOk Tryz.prog (c217 k) :=
  fn_at (okF217 k) (cn := c217 k) (fn := Tryz.f217) (code := bodyOf Tryz.f217) (m := ⟨19, []⟩) (gs := []) (by kernel_rfl) (by kernel_rfl) (by kernel_rfl) (by kernel_rfl) (by kernel_rfl) (fun _ => by kernel_rfl)
    [(3, lo217_3 k)] (fun c hP hm hg => (LInv.of (code := (bodyOf Tryz.f217)) (bs := [(lpAt (bodyOf Tryz.f217) [0])]) (by kernel_rfl) (LInv.cons (b := (lpAt (bodyOf Tryz.f217) [0])) (by kernel_rfl) (lp217_3 k hP hm hg) LInv.nil))) (ev217 k)
def c71 (k : Nat) : Con := ⟨71, [((.int .i64), false), ((.int .i64), false), ((.int .i64), false)], [.bool], (.own true), fun x => impl_within x.1 x.2.1 x.2.2.1⟩
def F71 (k : Nat) : List Con := []
theorem okF71 (k : Nat) : ∀ cn ∈ F71 k, ConOk Tryz.prog cn := conNil
theorem ev71 (k : Nat) (x) : evF Tryz.prog (F71 k) (inlN Tryz.prog (F71 k) 4) [] Tryz.f71 (bodyOf Tryz.f71) (c71 k).ps (c71 k).rs (c71 k).rm x = (c71 k).m x := by kernel_rfl
theorem ok71 (k : Nat) : ConOk Tryz.prog (c71 k) :=
  fn_at (okF71 k) (cn := c71 k) (fn := Tryz.f71) (code := bodyOf Tryz.f71) (m := ⟨15, []⟩) (gs := []) (by kernel_rfl) (by kernel_rfl) (by kernel_rfl) (by kernel_rfl) (by kernel_rfl) (fun _ => by kernel_rfl)
    [] (fun c hP hm hg => (LInv.of (code := (bodyOf Tryz.f71)) (bs := []) (by kernel_rfl) LInv.nil)) (ev71 k)
def c218 (k : Nat) : Con := ⟨218, [((.int .i64), false)], [.bool], (.own true), fun x => impl_isKind x.1⟩
def F218 (k : Nat) : List Con := [c71 k]
theorem okF218 (k : Nat) : ∀ cn ∈ F218 k, ConOk Tryz.prog cn := (conCons (ok71 k) conNil)
theorem ev218 (k : Nat) (x) : evF Tryz.prog (F218 k) (inlN Tryz.prog (F218 k) 4) [] Tryz.f218 (bodyOf Tryz.f218) (c218 k).ps (c218 k).rs (c218 k).rm x = (c218 k).m x := by kernel_rfl
theorem ok218 (k : Nat) : ConOk Tryz.prog (c218 k) :=
  fn_at (okF218 k) (cn := c218 k) (fn := Tryz.f218) (code := bodyOf Tryz.f218) (m := ⟨9, []⟩) (gs := []) (by kernel_rfl) (by kernel_rfl) (by kernel_rfl) (by kernel_rfl) (by kernel_rfl) (fun _ => by kernel_rfl)
    [] (fun c hP hm hg => (LInv.of (code := (bodyOf Tryz.f218)) (bs := []) (by kernel_rfl) LInv.nil)) (ev218 k)
def c153 (k : Nat) : Con := ⟨153, [(T_Ether, false)], [(.int .i64)], (.own true), fun x => impl_headOf x.1⟩
def F153 (k : Nat) : List Con := []
theorem okF153 (k : Nat) : ∀ cn ∈ F153 k, ConOk Tryz.prog cn := conNil
theorem ev153 (k : Nat) (x) : evF Tryz.prog (F153 k) (inlN Tryz.prog (F153 k) 4) [] Tryz.f153 (bodyOf Tryz.f153) (c153 k).ps (c153 k).rs (c153 k).rm x = (c153 k).m x := by kernel_rfl
theorem ok153 (k : Nat) : ConOk Tryz.prog (c153 k) :=
  fn_at (okF153 k) (cn := c153 k) (fn := Tryz.f153) (code := bodyOf Tryz.f153) (m := ⟨6, []⟩) (gs := []) (by kernel_rfl) (by kernel_rfl) (by kernel_rfl) (by kernel_rfl) (by kernel_rfl) (fun _ => by kernel_rfl)
    [] (fun c hP hm hg => (LInv.of (code := (bodyOf Tryz.f153)) (bs := []) (by kernel_rfl) LInv.nil)) (ev153 k)
def c219 (k : Nat) : Con := ⟨219, [((.sl (.int .u8)), false)], [(.sl (.int .u8))], (.own true), fun x => slices_Clone_byte_byte x.1⟩
theorem ok219 (k : Nat) : ConOk Tryz.prog (c219 k) :=
  fn_nil conNil (fn := Tryz.f219) (code := bodyOf Tryz.f219) (by kernel_rfl) (by kernel_rfl) (by kernel_rfl) (by kernel_rfl) (by kernel_rfl) (fun e l => by kernel_rfl) (by kernel_rfl) (fun A cap => by kernel_rfl)
def c107 (k : Nat) : Con := ⟨107, [((.sl (.int .u8)), false)], [T_Ether, (.int .i64)], (.own true), fun x => impl_EtherRead k x.1⟩
def F107 (k : Nat) : List Con := [c217 k, c218 k, c153 k, c219 k]
theorem okF107 (k : Nat) : ∀ cn ∈ F107 k, ConOk Tryz.prog cn := (conCons (ok217 k) (conCons (ok218 k) (conCons (ok153 k) (conCons (ok219 k) conNil))))
theorem ev107 (k : Nat) (x) : evF Tryz.prog (F107 k) (inlN Tryz.prog (F107 k) 4) [] Tryz.f107 (bodyOf Tryz.f107) (c107 k).ps (c107 k).rs (c107 k).rm x = (c107 k).m x := by kernel_rfl
theorem ok107 (k : Nat) : ConOk Tryz.prog (c107 k) :=
  fn_at (okF107 k) (cn := c107 k) (fn := Tryz.f107) (code := bodyOf Tryz.f107) (m := ⟨52, []⟩) (gs := []) (by kernel_rfl) (by kernel_rfl) (by kernel_rfl) (by kernel_rfl) (by kernel_rfl) (fun _ => by kernel_rfl)
    [] (fun c hP hm hg => (LInv.of (code := (bodyOf Tryz.f107)) (bs := []) (by kernel_rfl) LInv.nil)) (ev107 k)
def c295 (k : Nat) : Con := ⟨295, [((.sl (.int .u8)), false)], [T_Addr, .bool], (.own true), fun x => impl_AddrOf k x.1⟩
def F295 (k : Nat) : List Con := [c217 k]
theorem okF295 (k : Nat) : ∀ cn ∈ F295 k, ConOk Tryz.prog cn := (conCons (ok217 k) conNil)
theorem ev295 (k : Nat) (x) : evF Tryz.prog (F295 k) (inlN Tryz.prog (F295 k) 4) [] Tryz.f295 (bodyOf Tryz.f295) (c295 k).ps (c295 k).rs (c295 k).rm x = (c295 k).m x := by kernel_rfl
theorem ok295 (k : Nat) : ConOk Tryz.prog (c295 k) :=
  fn_at (okF295 k) (cn := c295 k) (fn := Tryz.f295) (code := bodyOf Tryz.f295) (m := ⟨27, []⟩) (gs := []) (by kernel_rfl) (by kernel_rfl) (by kernel_rfl) (by kernel_rfl) (by kernel_rfl) (fun _ => by kernel_rfl)
    [] (fun c hP hm hg => (LInv.of (code := (bodyOf Tryz.f295)) (bs := []) (by kernel_rfl) LInv.nil)) (ev295 k)
def c292 (k : Nat) : Con := ⟨292, [((.sl (.int .u8)), false), ((.int .i64), false)], [T_Four], (.own true), fun x => impl_fourOf k x.1 x.2.1⟩
def F292 (k : Nat) : List Con := [c217 k, c219 k, c295 k]
theorem okF292 (k : Nat) : ∀ cn ∈ F292 k, ConOk Tryz.prog cn := (conCons (ok217 k) (conCons (ok219 k) (conCons (ok295 k) conNil)))
theorem ev292 (k : Nat) (x) : evF Tryz.prog (F292 k) (inlN Tryz.prog (F292 k) 4) [] Tryz.f292 (bodyOf Tryz.f292) (c292 k).ps (c292 k).rs (c292 k).rm x = (c292 k).m x := by kernel_rfl
theorem ok292 (k : Nat) : ConOk Tryz.prog (c292 k) :=
  fn_at (okF292 k) (cn := c292 k) (fn := Tryz.f292) (code := bodyOf Tryz.f292) (m := ⟨59, []⟩) (gs := []) (by kernel_rfl) (by kernel_rfl) (by kernel_rfl) (by kernel_rfl) (by kernel_rfl) (fun _ => by kernel_rfl)
    [] (fun c hP hm hg => (LInv.of (code := (bodyOf Tryz.f292)) (bs := []) (by kernel_rfl) LInv.nil)) (ev292 k)
def c92 (k : Nat) : Con := ⟨92, [((.int .i64), false)], [.bool], (.own true), fun x => impl_isWord x.1⟩
def F92 (k : Nat) : List Con := [c71 k]
theorem okF92 (k : Nat) : ∀ cn ∈ F92 k, ConOk Tryz.prog cn := (conCons (ok71 k) conNil)
theorem ev92 (k : Nat) (x) : evF Tryz.prog (F92 k) (inlN Tryz.prog (F92 k) 4) [] Tryz.f92 (bodyOf Tryz.f92) (c92 k).ps (c92 k).rs (c92 k).rm x = (c92 k).m x := by kernel_rfl
theorem ok92 (k : Nat) : ConOk Tryz.prog (c92 k) :=
  fn_at (okF92 k) (cn := c92 k) (fn := Tryz.f92) (code := bodyOf Tryz.f92) (m := ⟨5, []⟩) (gs := []) (by kernel_rfl) (by kernel_rfl) (by kernel_rfl) (by kernel_rfl) (by kernel_rfl) (fun _ => by kernel_rfl)
    [] (fun c hP hm hg => (LInv.of (code := (bodyOf Tryz.f92)) (bs := []) (by kernel_rfl) LInv.nil)) (ev92 k)
def c224 (k : Nat) : Con := ⟨224, [((.int .i64), false)], [.bool], (.own true), fun x => impl_isByte x.1⟩
def F224 (k : Nat) : List Con := [c71 k]
theorem okF224 (k : Nat) : ∀ cn ∈ F224 k, ConOk Tryz.prog cn := (conCons (ok71 k) conNil)
theorem ev224 (k : Nat) (x) : evF Tryz.prog (F224 k) (inlN Tryz.prog (F224 k) 4) [] Tryz.f224 (bodyOf Tryz.f224) (c224 k).ps (c224 k).rs (c224 k).rm x = (c224 k).m x := by kernel_rfl
theorem ok224 (k : Nat) : ConOk Tryz.prog (c224 k) :=
  fn_at (okF224 k) (cn := c224 k) (fn := Tryz.f224) (code := bodyOf Tryz.f224) (m := ⟨5, []⟩) (gs := []) (by kernel_rfl) (by kernel_rfl) (by kernel_rfl) (by kernel_rfl) (by kernel_rfl) (fun _ => by kernel_rfl)
    [] (fun c hP hm hg => (LInv.of (code := (bodyOf Tryz.f224)) (bs := []) (by kernel_rfl) LInv.nil)) (ev224 k)
def c321 (k : Nat) : Con := ⟨321, [((.int .i64), false)], [.bool], (.own true), fun x => impl_isLong x.1⟩
def F321 (k : Nat) : List Con := [c71 k]
theorem okF321 (k : Nat) : ∀ cn ∈ F321 k, ConOk Tryz.prog cn := (conCons (ok71 k) conNil)
theorem ev321 (k : Nat) (x) : evF Tryz.prog (F321 k) (inlN Tryz.prog (F321 k) 4) [] Tryz.f321 (bodyOf Tryz.f321) (c321 k).ps (c321 k).rs (c321 k).rm x = (c321 k).m x := by kernel_rfl
theorem ok321 (k : Nat) : ConOk Tryz.prog (c321 k) :=
  fn_at (okF321 k) (cn := c321 k) (fn := Tryz.f321) (code := bodyOf Tryz.f321) (m := ⟨5, []⟩) (gs := []) (by kernel_rfl) (by kernel_rfl) (by kernel_rfl) (by kernel_rfl) (by kernel_rfl) (fun _ => by kernel_rfl)
    [] (fun c hP hm hg => (LInv.of (code := (bodyOf Tryz.f321)) (bs := []) (by kernel_rfl) LInv.nil)) (ev321 k)
def c284 (k : Nat) : Con := ⟨284, [(T_Addr, false)], [.bool], (.own true), fun x => impl_AddrOk x.1⟩
def F284 (k : Nat) : List Con := [c321 k]
theorem okF284 (k : Nat) : ∀ cn ∈ F284 k, ConOk Tryz.prog cn := (conCons (ok321 k) conNil)
theorem ev284 (k : Nat) (x) : evF Tryz.prog (F284 k) (inlN Tryz.prog (F284 k) 4) [] Tryz.f284 (bodyOf Tryz.f284) (c284 k).ps (c284 k).rs (c284 k).rm x = (c284 k).m x := by kernel_rfl
theorem ok284 (k : Nat) : ConOk Tryz.prog (c284 k) :=
  fn_at (okF284 k) (cn := c284 k) (fn := Tryz.f284) (code := bodyOf Tryz.f284) (m := ⟨45, []⟩) (gs := []) (by kernel_rfl) (by kernel_rfl) (by kernel_rfl) (by kernel_rfl) (by kernel_rfl) (fun _ => by kernel_rfl)
    [] (fun c hP hm hg => (LInv.of (code := (bodyOf Tryz.f284)) (bs := []) (by kernel_rfl) LInv.nil)) (ev284 k)
def c296 (k : Nat) : Con := ⟨296, [(T_Addr, false), ((.int .i64), false)], [.bool], (.own true), fun x => impl_isAddrOf x.1 x.2.1⟩
def F296 (k : Nat) : List Con := [c284 k]
theorem okF296 (k : Nat) : ∀ cn ∈ F296 k, ConOk Tryz.prog cn := (conCons (ok284 k) conNil)
theorem ev296 (k : Nat) (x) : evF Tryz.prog (F296 k) (inlN Tryz.prog (F296 k) 4) [] Tryz.f296 (bodyOf Tryz.f296) (c296 k).ps (c296 k).rs (c296 k).rm x = (c296 k).m x := by kernel_rfl
theorem ok296 (k : Nat) : ConOk Tryz.prog (c296 k) :=
  fn_at (okF296 k) (cn := c296 k) (fn := Tryz.f296) (code := bodyOf Tryz.f296) (m := ⟨13, []⟩) (gs := []) (by kernel_rfl) (by kernel_rfl) (by kernel_rfl) (by kernel_rfl) (by kernel_rfl) (fun _ => by kernel_rfl)
    [] (fun c hP hm hg => (LInv.of (code := (bodyOf Tryz.f296)) (bs := []) (by kernel_rfl) LInv.nil)) (ev296 k)
def c323 (k : Nat) : Con := ⟨323, [(T_Four, false)], [(.int .i64)], (.own true), fun x => impl_fourHead x.1⟩
def F323 (k : Nat) : List Con := []
theorem okF323 (k : Nat) : ∀ cn ∈ F323 k, ConOk Tryz.prog cn := conNil
theorem ev323 (k : Nat) (x) : evF Tryz.prog (F323 k) (inlN Tryz.prog (F323 k) 4) [] Tryz.f323 (bodyOf Tryz.f323) (c323 k).ps (c323 k).rs (c323 k).rm x = (c323 k).m x := by kernel_rfl
theorem ok323 (k : Nat) : ConOk Tryz.prog (c323 k) :=
  fn_at (okF323 k) (cn := c323 k) (fn := Tryz.f323) (code := bodyOf Tryz.f323) (m := ⟨7, []⟩) (gs := []) (by kernel_rfl) (by kernel_rfl) (by kernel_rfl) (by kernel_rfl) (by kernel_rfl) (fun _ => by kernel_rfl)
    [] (fun c hP hm hg => (LInv.of (code := (bodyOf Tryz.f323)) (bs := []) (by kernel_rfl) LInv.nil)) (ev323 k)
def c297 (k : Nat) : Con := ⟨297, [(T_Four, false)], [(.int .i64)], (.own true), fun x => impl_fourSize x.1⟩
def F297 (k : Nat) : List Con := [c323 k]
theorem okF297 (k : Nat) : ∀ cn ∈ F297 k, ConOk Tryz.prog cn := (conCons (ok323 k) conNil)
theorem ev297 (k : Nat) (x) : evF Tryz.prog (F297 k) (inlN Tryz.prog (F297 k) 4) [] Tryz.f297 (bodyOf Tryz.f297) (c297 k).ps (c297 k).rs (c297 k).rm x = (c297 k).m x := by kernel_rfl
theorem ok297 (k : Nat) : ConOk Tryz.prog (c297 k) :=
  fn_at (okF297 k) (cn := c297 k) (fn := Tryz.f297) (code := bodyOf Tryz.f297) (m := ⟨9, []⟩) (gs := []) (by kernel_rfl) (by kernel_rfl) (by kernel_rfl) (by kernel_rfl) (by kernel_rfl) (fun _ => by kernel_rfl)
    [] (fun c hP hm hg => (LInv.of (code := (bodyOf Tryz.f297)) (bs := []) (by kernel_rfl) LInv.nil)) (ev297 k)
def c222 (k : Nat) : Con := ⟨222, [(T_Four, false)], [.bool], (.own true), fun x => impl_FourOk x.1⟩
def F222 (k : Nat) : List Con := [c71 k, c92 k, c224 k, c296 k, c297 k]
theorem okF222 (k : Nat) : ∀ cn ∈ F222 k, ConOk Tryz.prog cn := (conCons (ok71 k) (conCons (ok92 k) (conCons (ok224 k) (conCons (ok296 k) (conCons (ok297 k) conNil)))))
theorem ev222 (k : Nat) (x) : evF Tryz.prog (F222 k) (inlN Tryz.prog (F222 k) 4) [] Tryz.f222 (bodyOf Tryz.f222) (c222 k).ps (c222 k).rs (c222 k).rm x = (c222 k).m x := by kernel_rfl
theorem ok222 (k : Nat) : ConOk Tryz.prog (c222 k) :=
  fn_at (okF222 k) (cn := c222 k) (fn := Tryz.f222) (code := bodyOf Tryz.f222) (m := ⟨69, []⟩) (gs := []) (by kernel_rfl) (by kernel_rfl) (by kernel_rfl) (by kernel_rfl) (by kernel_rfl) (fun _ => by kernel_rfl)
    [] (fun c hP hm hg => (LInv.of (code := (bodyOf Tryz.f222)) (bs := []) (by kernel_rfl) LInv.nil)) (ev222 k)
def c205 (k : Nat) : Con := ⟨205, [((.int .i64), false), ((.int .i64), false)], [(.sl (.int .u8))], (.own true), fun x => impl_put k x.1 x.2.1⟩
def F205 (k : Nat) : List Con := []
theorem okF205 (k : Nat) : ∀ cn ∈ F205 k, ConOk Tryz.prog cn := conNil
abbrev S205_3 : Shape := [(0, .v (.int .i64)), (1, .v (.int .i64)), (5, .own true (.sl (.int .u8))), (10, .v (.int .i64)), (11, .v (.int .i64))]
abbrev X205_3 : Exit × Shape := (Exit.exit 0, [(5, .own true (.sl (.int .u8)))])
abbrev R205_3 : List (Exit × Shape) := []
def lo205_3 (k : Nat) : LO := loopO [] [] [] S205_3 X205_3 R205_3 (iter (impl_put_s3) k)
theorem st205_3 (k : Nat) (rec v) : evC Tryz.prog ⟨27, []⟩ (F205 k) (inlN Tryz.prog (F205 k) 4) [] (lpAt (bodyOf Tryz.f205) [0]) (Kb [] [] [] S205_3 X205_3 R205_3 rec) (mkSt [] [] S205_3 v.1 v.2) = (impl_put_s3) rec v := by kernel_rfl
theorem lp205_3 (k : Nat) {c : Cx} (hP : c.P = Tryz.prog) (hm : c.m = ⟨27, []⟩) (hg : c.gs = []) : LoopOk c (lo205_3 k) (lpAt (bodyOf Tryz.f205) [0]) :=
  loop_at hP hm hg (okF205 k) (LInv.of (code := (lpAt (bodyOf Tryz.f205) [0])) (bs := []) (by kernel_rfl) LInv.nil) (fun rec v => st205_3 k rec v) k
theorem ev205 (k : Nat) (x) : evF Tryz.prog (F205 k) (inlN Tryz.prog (F205 k) 4) [(3, lo205_3 k)] Tryz.f205 (bodyOf Tryz.f205) (c205 k).ps (c205 k).rs (c205 k).rm x = (c205 k).m x := by kernel_rfl
theorem ok205 (k : Nat) : ConOk Tryz.prog (c205 k) :=
  fn_at (okF205 k) (cn := c205 k) (fn := Tryz.f205) (code := bodyOf Tryz.f205) (m := ⟨27, []⟩) (gs := []) (by kernel_rfl) (by kernel_rfl) (by kernel_rfl) (by kernel_rfl) (by kernel_rfl) (fun _ => by kernel_rfl)
    [(3, lo205_3 k)] (fun c hP hm hg => (LInv.of (code := (bodyOf Tryz.f205)) (bs := [(lpAt (bodyOf Tryz.f205) [0])]) (by kernel_rfl) (LInv.cons (b := (lpAt (bodyOf Tryz.f205) [0])) (by kernel_rfl) (lp205_3 k hP hm hg) LInv.nil))) (ev205 k)
def c204 (k : Nat) : Con := ⟨204, [((.int .i64), false)], [(.sl (.int .u8))], (.own true), fun x => impl_Put16 k x.1⟩
def F204 (k : Nat) : List Con := [c205 k]
theorem okF204 (k : Nat) : ∀ cn ∈ F204 k, ConOk Tryz.prog cn := (conCons (ok205 k) conNil)
theorem ev204 (k : Nat) (x) : evF Tryz.prog (F204 k) (inlN Tryz.prog (F204 k) 4) [] Tryz.f204 (bodyOf Tryz.f204) (c204 k).ps (c204 k).rs (c204 k).rm x = (c204 k).m x := by kernel_rfl
theorem ok204 (k : Nat) : ConOk Tryz.prog (c204 k) :=
  fn_at (okF204 k) (cn := c204 k) (fn := Tryz.f204) (code := bodyOf Tryz.f204) (m := ⟨5, []⟩) (gs := []) (by kernel_rfl) (by kernel_rfl) (by kernel_rfl) (by kernel_rfl) (by kernel_rfl) (fun _ => by kernel_rfl)
    [] (fun c hP hm hg => (LInv.of (code := (bodyOf Tryz.f204)) (bs := []) (by kernel_rfl) LInv.nil)) (ev204 k)
def c316 (k : Nat) : Con := ⟨316, [((.int .i64), false)], [(.sl (.int .u8))], (.own true), fun x => impl_Put32 k x.1⟩
def F316 (k : Nat) : List Con := [c205 k]
theorem okF316 (k : Nat) : ∀ cn ∈ F316 k, ConOk Tryz.prog cn := (conCons (ok205 k) conNil)
theorem ev316 (k : Nat) (x) : evF Tryz.prog (F316 k) (inlN Tryz.prog (F316 k) 4) [] Tryz.f316 (bodyOf Tryz.f316) (c316 k).ps (c316 k).rs (c316 k).rm x = (c316 k).m x := by kernel_rfl
theorem ok316 (k : Nat) : ConOk Tryz.prog (c316 k) :=
  fn_at (okF316 k) (cn := c316 k) (fn := Tryz.f316) (code := bodyOf Tryz.f316) (m := ⟨5, []⟩) (gs := []) (by kernel_rfl) (by kernel_rfl) (by kernel_rfl) (by kernel_rfl) (by kernel_rfl) (fun _ => by kernel_rfl)
    [] (fun c hP hm hg => (LInv.of (code := (bodyOf Tryz.f316)) (bs := []) (by kernel_rfl) LInv.nil)) (ev316 k)
def c178 (k : Nat) : Con := ⟨178, [((.sl (.sl (.int .u8))), false)], [(.sl (.int .u8))], (.own true), fun x => slices_Concat_byte_byte k x.1⟩
def F178 (k : Nat) : List Con := []
theorem okF178 (k : Nat) : ∀ cn ∈ F178 k, ConOk Tryz.prog cn := conNil
abbrev S178_3 : Shape := [(0, .v (.sl (.sl (.int .u8)))), (3, .v (.int .i64)), (9, .v (.sl (.sl (.int .u8)))), (10, .v (.int .i64)), (11, .v (.int .i64))]
abbrev X178_3 : Exit × Shape := (Exit.exit 0, [(0, .v (.sl (.sl (.int .u8)))), (3, .v (.int .i64))])
abbrev R178_3 : List (Exit × Shape) := []
def lo178_3 (k : Nat) : LO := loopO [] [] [] S178_3 X178_3 R178_3 (iter (slices_Concat_byte_byte_s3) k)
theorem st178_3 (k : Nat) (rec v) : evC Tryz.prog ⟨36, []⟩ (F178 k) (inlN Tryz.prog (F178 k) 4) [] (lpAt (bodyOf Tryz.f178) [0]) (Kb [] [] [] S178_3 X178_3 R178_3 rec) (mkSt [] [] S178_3 v.1 v.2) = (slices_Concat_byte_byte_s3) rec v := by kernel_rfl
theorem lp178_3 (k : Nat) {c : Cx} (hP : c.P = Tryz.prog) (hm : c.m = ⟨36, []⟩) (hg : c.gs = []) : LoopOk c (lo178_3 k) (lpAt (bodyOf Tryz.f178) [0]) :=
  loop_at hP hm hg (okF178 k) (LInv.of (code := (lpAt (bodyOf Tryz.f178) [0])) (bs := []) (by kernel_rfl) LInv.nil) (fun rec v => st178_3 k rec v) k
abbrev S178_11 : Shape := [(6, .own true (.sl (.int .u8))), (25, .v (.sl (.sl (.int .u8)))), (26, .v (.int .i64)), (27, .v (.int .i64))]
abbrev X178_11 : Exit × Shape := (Exit.exit 2, [(6, .own true (.sl (.int .u8)))])
abbrev R178_11 : List (Exit × Shape) := []
def lo178_11 (k : Nat) : LO := loopO [] [] [] S178_11 X178_11 R178_11 (iter (slices_Concat_byte_byte_s11) k)
theorem st178_11 (k : Nat) (rec v) : evC Tryz.prog ⟨36, []⟩ (F178 k) (inlN Tryz.prog (F178 k) 4) [] (lpAt (bodyOf Tryz.f178) [1]) (Kb [] [] [] S178_11 X178_11 R178_11 rec) (mkSt [] [] S178_11 v.1 v.2) = (slices_Concat_byte_byte_s11) rec v := by kernel_rfl
theorem lp178_11 (k : Nat) {c : Cx} (hP : c.P = Tryz.prog) (hm : c.m = ⟨36, []⟩) (hg : c.gs = []) : LoopOk c (lo178_11 k) (lpAt (bodyOf Tryz.f178) [1]) :=
  loop_at hP hm hg (okF178 k) (LInv.of (code := (lpAt (bodyOf Tryz.f178) [1])) (bs := []) (by kernel_rfl) LInv.nil) (fun rec v => st178_11 k rec v) k
theorem ev178 (k : Nat) (x) : evF Tryz.prog (F178 k) (inlN Tryz.prog (F178 k) 4) [(3, lo178_3 k), (11, lo178_11 k)] Tryz.f178 (bodyOf Tryz.f178) (c178 k).ps (c178 k).rs (c178 k).rm x = (c178 k).m x := by kernel_rfl
theorem ok178 (k : Nat) : ConOk Tryz.prog (c178 k) :=
  fn_at (okF178 k) (cn := c178 k) (fn := Tryz.f178) (code := bodyOf Tryz.f178) (m := ⟨36, []⟩) (gs := []) (by kernel_rfl) (by kernel_rfl) (by kernel_rfl) (by kernel_rfl) (by kernel_rfl) (fun _ => by kernel_rfl)
    [(3, lo178_3 k), (11, lo178_11 k)] (fun c hP hm hg => (LInv.of (code := (bodyOf Tryz.f178)) (bs := [(lpAt (bodyOf Tryz.f178) [0]), (lpAt (bodyOf Tryz.f178) [1])]) (by kernel_rfl) (LInv.cons (b := (lpAt (bodyOf Tryz.f178) [0])) (by kernel_rfl) (lp178_3 k hP hm hg) (LInv.cons (b := (lpAt (bodyOf Tryz.f178) [1])) (by kernel_rfl) (lp178_11 k hP hm hg) LInv.nil)))) (ev178 k)
def c317 (k : Nat) : Con := ⟨317, [(T_Addr, false)], [(.sl (.int .u8))], (.own true), fun x => impl_AddrBytes k x.1⟩
def F317 (k : Nat) : List Con := [c284 k, c316 k, c178 k]
theorem okF317 (k : Nat) : ∀ cn ∈ F317 k, ConOk Tryz.prog cn := (conCons (ok284 k) (conCons (ok316 k) (conCons (ok178 k) conNil)))
theorem ev317 (k : Nat) (x) : evF Tryz.prog (F317 k) (inlN Tryz.prog (F317 k) 4) [] Tryz.f317 (bodyOf Tryz.f317) (c317 k).ps (c317 k).rs (c317 k).rm x = (c317 k).m x := by kernel_rfl
theorem ok317 (k : Nat) : ConOk Tryz.prog (c317 k) :=
  fn_at (okF317 k) (cn := c317 k) (fn := Tryz.f317) (code := bodyOf Tryz.f317) (m := ⟨28, []⟩) (gs := []) (by kernel_rfl) (by kernel_rfl) (by kernel_rfl) (by kernel_rfl) (by kernel_rfl) (fun _ => by kernel_rfl)
    [] (fun c hP hm hg => (LInv.of (code := (bodyOf Tryz.f317)) (bs := []) (by kernel_rfl) LInv.nil)) (ev317 k)
def c313 (k : Nat) : Con := ⟨313, [(T_Four, false), ((.int .i64), false)], [(.sl (.int .u8))], (.own true), fun x => impl_Four_head k x.1 x.2.1⟩
def F313 (k : Nat) : List Con := [c323 k, c204 k, c297 k, c317 k, c178 k]
theorem okF313 (k : Nat) : ∀ cn ∈ F313 k, ConOk Tryz.prog cn := (conCons (ok323 k) (conCons (ok204 k) (conCons (ok297 k) (conCons (ok317 k) (conCons (ok178 k) conNil)))))
theorem ev313 (k : Nat) (x) : evF Tryz.prog (F313 k) (inlN Tryz.prog (F313 k) 4) [] Tryz.f313 (bodyOf Tryz.f313) (c313 k).ps (c313 k).rs (c313 k).rm x = (c313 k).m x := by kernel_rfl
theorem ok313 (k : Nat) : ConOk Tryz.prog (c313 k) :=
  fn_at (okF313 k) (cn := c313 k) (fn := Tryz.f313) (code := bodyOf Tryz.f313) (m := ⟨54, []⟩) (gs := []) (by kernel_rfl) (by kernel_rfl) (by kernel_rfl) (by kernel_rfl) (by kernel_rfl) (fun _ => by kernel_rfl)
    [] (fun c hP hm hg => (LInv.of (code := (bodyOf Tryz.f313)) (bs := []) (by kernel_rfl) LInv.nil)) (ev313 k)
def c206 (k : Nat) : Con := ⟨206, [((.int .i64), false), ((.int .i64), false)], [(.int .i64)], (.own true), fun x => impl_sum x.1 x.2.1⟩
def F206 (k : Nat) : List Con := []
theorem okF206 (k : Nat) : ∀ cn ∈ F206 k, ConOk Tryz.prog cn := conNil
theorem ev206 (k : Nat) (x) : evF Tryz.prog (F206 k) (inlN Tryz.prog (F206 k) 4) [] Tryz.f206 (bodyOf Tryz.f206) (c206 k).ps (c206 k).rs (c206 k).rm x = (c206 k).m x := by kernel_rfl
theorem ok206 (k : Nat) : ConOk Tryz.prog (c206 k) :=
  fn_at (okF206 k) (cn := c206 k) (fn := Tryz.f206) (code := bodyOf Tryz.f206) (m := ⟨16, []⟩) (gs := []) (by kernel_rfl) (by kernel_rfl) (by kernel_rfl) (by kernel_rfl) (by kernel_rfl) (fun _ => by kernel_rfl)
    [] (fun c hP hm hg => (LInv.of (code := (bodyOf Tryz.f206)) (bs := []) (by kernel_rfl) LInv.nil)) (ev206 k)
def c301 (k : Nat) : Con := ⟨301, [((.sl (.int .u8)), false)], [(.int .i64)], (.own true), fun x => impl_onesSum k x.1⟩
def F301 (k : Nat) : List Con := [c206 k]
theorem okF301 (k : Nat) : ∀ cn ∈ F301 k, ConOk Tryz.prog cn := (conCons (ok206 k) conNil)
abbrev S301_3 : Shape := [(0, .v (.sl (.int .u8))), (3, .v (.int .i64)), (4, .v (.int .i64))]
abbrev X301_3 : Exit × Shape := (Exit.exit 0, [(3, .v (.int .i64))])
abbrev R301_3 : List (Exit × Shape) := []
def lo301_3 (k : Nat) : LO := loopO [] [] [] S301_3 X301_3 R301_3 (iter (impl_onesSum_s3) k)
theorem st301_3 (k : Nat) (rec v) : evC Tryz.prog ⟨35, []⟩ (F301 k) (inlN Tryz.prog (F301 k) 4) [] (lpAt (bodyOf Tryz.f301) [0]) (Kb [] [] [] S301_3 X301_3 R301_3 rec) (mkSt [] [] S301_3 v.1 v.2) = (impl_onesSum_s3) rec v := by kernel_rfl
theorem lp301_3 (k : Nat) {c : Cx} (hP : c.P = Tryz.prog) (hm : c.m = ⟨35, []⟩) (hg : c.gs = []) : LoopOk c (lo301_3 k) (lpAt (bodyOf Tryz.f301) [0]) :=
  loop_at hP hm hg (okF301 k) (LInv.of (code := (lpAt (bodyOf Tryz.f301) [0])) (bs := []) (by kernel_rfl) LInv.nil) (fun rec v => st301_3 k rec v) k
theorem ev301 (k : Nat) (x) : evF Tryz.prog (F301 k) (inlN Tryz.prog (F301 k) 4) [(3, lo301_3 k)] Tryz.f301 (bodyOf Tryz.f301) (c301 k).ps (c301 k).rs (c301 k).rm x = (c301 k).m x := by kernel_rfl
theorem ok301 (k : Nat) : ConOk Tryz.prog (c301 k) :=
  fn_at (okF301 k) (cn := c301 k) (fn := Tryz.f301) (code := bodyOf Tryz.f301) (m := ⟨35, []⟩) (gs := []) (by kernel_rfl) (by kernel_rfl) (by kernel_rfl) (by kernel_rfl) (by kernel_rfl) (fun _ => by kernel_rfl)
    [(3, lo301_3 k)] (fun c hP hm hg => (LInv.of (code := (bodyOf Tryz.f301)) (bs := [(lpAt (bodyOf Tryz.f301) [0])]) (by kernel_rfl) (LInv.cons (b := (lpAt (bodyOf Tryz.f301) [0])) (by kernel_rfl) (lp301_3 k hP hm hg) LInv.nil))) (ev301 k)
def c263 (k : Nat) : Con := ⟨263, [((.sl (.int .u8)), false)], [(.int .i64)], (.own true), fun x => impl_Checksum k x.1⟩
def F263 (k : Nat) : List Con := [c301 k]
theorem okF263 (k : Nat) : ∀ cn ∈ F263 k, ConOk Tryz.prog cn := (conCons (ok301 k) conNil)
theorem ev263 (k : Nat) (x) : evF Tryz.prog (F263 k) (inlN Tryz.prog (F263 k) 4) [] Tryz.f263 (bodyOf Tryz.f263) (c263 k).ps (c263 k).rs (c263 k).rm x = (c263 k).m x := by kernel_rfl
theorem ok263 (k : Nat) : ConOk Tryz.prog (c263 k) :=
  fn_at (okF263 k) (cn := c263 k) (fn := Tryz.f263) (code := bodyOf Tryz.f263) (m := ⟨9, []⟩) (gs := []) (by kernel_rfl) (by kernel_rfl) (by kernel_rfl) (by kernel_rfl) (by kernel_rfl) (fun _ => by kernel_rfl)
    [] (fun c hP hm hg => (LInv.of (code := (bodyOf Tryz.f263)) (bs := []) (by kernel_rfl) LInv.nil)) (ev263 k)
def c293 (k : Nat) : Con := ⟨293, [(T_Four, false)], [(.int .i64)], (.own true), fun x => impl_HeadSum k x.1⟩
def F293 (k : Nat) : List Con := [c222 k, c313 k, c263 k]
theorem okF293 (k : Nat) : ∀ cn ∈ F293 k, ConOk Tryz.prog cn := (conCons (ok222 k) (conCons (ok313 k) (conCons (ok263 k) conNil)))
theorem ev293 (k : Nat) (x) : evF Tryz.prog (F293 k) (inlN Tryz.prog (F293 k) 4) [] Tryz.f293 (bodyOf Tryz.f293) (c293 k).ps (c293 k).rs (c293 k).rm x = (c293 k).m x := by kernel_rfl
theorem ok293 (k : Nat) : ConOk Tryz.prog (c293 k) :=
  fn_at (okF293 k) (cn := c293 k) (fn := Tryz.f293) (code := bodyOf Tryz.f293) (m := ⟨9, []⟩) (gs := []) (by kernel_rfl) (by kernel_rfl) (by kernel_rfl) (by kernel_rfl) (by kernel_rfl) (fun _ => by kernel_rfl)
    [] (fun c hP hm hg => (LInv.of (code := (bodyOf Tryz.f293)) (bs := []) (by kernel_rfl) LInv.nil)) (ev293 k)
def c220 (k : Nat) : Con := ⟨220, [((.sl (.int .u8)), false)], [T_Four, (.sl (.int .u8)), (.int .i64)], (.own true), fun x => impl_FourRead k x.1⟩
def F220 (k : Nat) : List Con := [c217 k, c292 k, c293 k, c219 k]
theorem okF220 (k : Nat) : ∀ cn ∈ F220 k, ConOk Tryz.prog cn := (conCons (ok217 k) (conCons (ok292 k) (conCons (ok293 k) (conCons (ok219 k) conNil))))
theorem ev220 (k : Nat) (x) : evF Tryz.prog (F220 k) (inlN Tryz.prog (F220 k) 4) [] Tryz.f220 (bodyOf Tryz.f220) (c220 k).ps (c220 k).rs (c220 k).rm x = (c220 k).m x := by kernel_rfl
theorem ok220 (k : Nat) : ConOk Tryz.prog (c220 k) :=
  fn_at (okF220 k) (cn := c220 k) (fn := Tryz.f220) (code := bodyOf Tryz.f220) (m := ⟨76, []⟩) (gs := []) (by kernel_rfl) (by kernel_rfl) (by kernel_rfl) (by kernel_rfl) (by kernel_rfl) (fun _ => by kernel_rfl)
    [] (fun c hP hm hg => (LInv.of (code := (bodyOf Tryz.f220)) (bs := []) (by kernel_rfl) LInv.nil)) (ev220 k)
def c318 (k : Nat) : Con := ⟨318, [((.int .i64), false)], [.bool], (.own true), fun x => impl_isExtKind x.1⟩
def F318 (k : Nat) : List Con := []
theorem okF318 (k : Nat) : ∀ cn ∈ F318 k, ConOk Tryz.prog cn := conNil
theorem ev318 (k : Nat) (x) : evF Tryz.prog (F318 k) (inlN Tryz.prog (F318 k) 4) [] Tryz.f318 (bodyOf Tryz.f318) (c318 k).ps (c318 k).rs (c318 k).rm x = (c318 k).m x := by kernel_rfl
theorem ok318 (k : Nat) : ConOk Tryz.prog (c318 k) :=
  fn_at (okF318 k) (cn := c318 k) (fn := Tryz.f318) (code := bodyOf Tryz.f318) (m := ⟨13, []⟩) (gs := []) (by kernel_rfl) (by kernel_rfl) (by kernel_rfl) (by kernel_rfl) (by kernel_rfl) (fun _ => by kernel_rfl)
    [] (fun c hP hm hg => (LInv.of (code := (bodyOf Tryz.f318)) (bs := []) (by kernel_rfl) LInv.nil)) (ev318 k)
def c294 (k : Nat) : Con := ⟨294, [((.int .i64), false), ((.sl (.int .u8)), false)], [(.sl T_Ext), (.int .i64), (.sl (.int .u8)), .bool], (.mix [true, true, false, true]), fun x => impl_extsRead k x.1 x.2.1⟩
def F294 (k : Nat) : List Con := [c318 k, c219 k]
theorem okF294 (k : Nat) : ∀ cn ∈ F294 k, ConOk Tryz.prog cn := (conCons (ok318 k) (conCons (ok219 k) conNil))
abbrev S294_2 : Shape := [(0, .v (.int .i64)), (1, .v (.sl (.int .u8))), (8, .own true (.sl T_Ext))]
abbrev X294_2 : Exit × Shape := (Exit.ret, [(4, .own true (.sl T_Ext)), (5, .v (.int .i64)), (6, .v (.sl (.int .u8))), (7, .v .bool)])
abbrev R294_2 : List (Exit × Shape) := [(Exit.exit 0, [(0, .v (.int .i64)), (1, .v (.sl (.int .u8))), (8, .own true (.sl T_Ext))])]
def lo294_2 (k : Nat) : LO := loopO [] [] [] S294_2 X294_2 R294_2 (iter (impl_extsRead_s2) k)
theorem st294_2 (k : Nat) (rec v) : evC Tryz.prog ⟨65, []⟩ (F294 k) (inlN Tryz.prog (F294 k) 4) [] (lpAt (bodyOf Tryz.f294) [0]) (Kb [] [] [] S294_2 X294_2 R294_2 rec) (mkSt [] [] S294_2 v.1 v.2) = (impl_extsRead_s2) rec v := by kernel_rfl
theorem lp294_2 (k : Nat) {c : Cx} (hP : c.P = Tryz.prog) (hm : c.m = ⟨65, []⟩) (hg : c.gs = []) : LoopOk c (lo294_2 k) (lpAt (bodyOf Tryz.f294) [0]) :=
  loop_at hP hm hg (okF294 k) (LInv.of (code := (lpAt (bodyOf Tryz.f294) [0])) (bs := []) (by kernel_rfl) LInv.nil) (fun rec v => st294_2 k rec v) k
theorem ev294 (k : Nat) (x) : evF Tryz.prog (F294 k) (inlN Tryz.prog (F294 k) 4) [(2, lo294_2 k)] Tryz.f294 (bodyOf Tryz.f294) (c294 k).ps (c294 k).rs (c294 k).rm x = (c294 k).m x := by kernel_rfl
theorem ok294 (k : Nat) : ConOk Tryz.prog (c294 k) :=
  fn_at (okF294 k) (cn := c294 k) (fn := Tryz.f294) (code := bodyOf Tryz.f294) (m := ⟨65, []⟩) (gs := []) (by kernel_rfl) (by kernel_rfl) (by kernel_rfl) (by kernel_rfl) (by kernel_rfl) (fun _ => by kernel_rfl)
    [(2, lo294_2 k)] (fun c hP hm hg => (LInv.of (code := (bodyOf Tryz.f294)) (bs := [(lpAt (bodyOf Tryz.f294) [0])]) (by kernel_rfl) (LInv.cons (b := (lpAt (bodyOf Tryz.f294) [0])) (by kernel_rfl) (lp294_2 k hP hm hg) LInv.nil))) (ev294 k)
def c221 (k : Nat) : Con := ⟨221, [((.sl (.int .u8)), false)], [T_Six, (.sl (.int .u8)), (.int .i64)], (.own true), fun x => impl_SixRead k x.1⟩
def F221 (k : Nat) : List Con := [c217 k, c294 k, c219 k, c295 k]
theorem okF221 (k : Nat) : ∀ cn ∈ F221 k, ConOk Tryz.prog cn := (conCons (ok217 k) (conCons (ok294 k) (conCons (ok219 k) (conCons (ok295 k) conNil))))
theorem ev221 (k : Nat) (x) : evF Tryz.prog (F221 k) (inlN Tryz.prog (F221 k) 4) [] Tryz.f221 (bodyOf Tryz.f221) (c221 k).ps (c221 k).rs (c221 k).rm x = (c221 k).m x := by kernel_rfl
theorem ok221 (k : Nat) : ConOk Tryz.prog (c221 k) :=
  fn_at (okF221 k) (cn := c221 k) (fn := Tryz.f221) (code := bodyOf Tryz.f221) (m := ⟨94, []⟩) (gs := []) (by kernel_rfl) (by kernel_rfl) (by kernel_rfl) (by kernel_rfl) (by kernel_rfl) (fun _ => by kernel_rfl)
    [] (fun c hP hm hg => (LInv.of (code := (bodyOf Tryz.f221)) (bs := []) (by kernel_rfl) LInv.nil)) (ev221 k)
def c109 (k : Nat) : Con := ⟨109, [(T_Four, false)], [.bool], (.own true), fun x => impl_FourPiece x.1⟩
def F109 (k : Nat) : List Con := [c222 k]
theorem okF109 (k : Nat) : ∀ cn ∈ F109 k, ConOk Tryz.prog cn := (conCons (ok222 k) conNil)
theorem ev109 (k : Nat) (x) : evF Tryz.prog (F109 k) (inlN Tryz.prog (F109 k) 4) [] Tryz.f109 (bodyOf Tryz.f109) (c109 k).ps (c109 k).rs (c109 k).rm x = (c109 k).m x := by kernel_rfl
theorem ok109 (k : Nat) : ConOk Tryz.prog (c109 k) :=
  fn_at (okF109 k) (cn := c109 k) (fn := Tryz.f109) (code := bodyOf Tryz.f109) (m := ⟨16, []⟩) (gs := []) (by kernel_rfl) (by kernel_rfl) (by kernel_rfl) (by kernel_rfl) (by kernel_rfl) (fun _ => by kernel_rfl)
    [] (fun c hP hm hg => (LInv.of (code := (bodyOf Tryz.f109)) (bs := []) (by kernel_rfl) LInv.nil)) (ev109 k)
def c110 (k : Nat) : Con := ⟨110, [(T_Packet, false)], [T_Addr, T_Addr], (.own true), fun x => impl_Packet_ends x.1⟩
def F110 (k : Nat) : List Con := []
theorem okF110 (k : Nat) : ∀ cn ∈ F110 k, ConOk Tryz.prog cn := conNil
theorem ev110 (k : Nat) (x) : evF Tryz.prog (F110 k) (inlN Tryz.prog (F110 k) 4) [] Tryz.f110 (bodyOf Tryz.f110) (c110 k).ps (c110 k).rs (c110 k).rm x = (c110 k).m x := by kernel_rfl
theorem ok110 (k : Nat) : ConOk Tryz.prog (c110 k) :=
  fn_at (okF110 k) (cn := c110 k) (fn := Tryz.f110) (code := bodyOf Tryz.f110) (m := ⟨19, []⟩) (gs := []) (by kernel_rfl) (by kernel_rfl) (by kernel_rfl) (by kernel_rfl) (by kernel_rfl) (fun _ => by kernel_rfl)
    [] (fun c hP hm hg => (LInv.of (code := (bodyOf Tryz.f110)) (bs := []) (by kernel_rfl) LInv.nil)) (ev110 k)
def c112 (k : Nat) : Con := ⟨112, [(T_Packet, false)], [(.int .i64)], (.own true), fun x => impl_Packet_proto x.1⟩
def F112 (k : Nat) : List Con := []
theorem okF112 (k : Nat) : ∀ cn ∈ F112 k, ConOk Tryz.prog cn := conNil
theorem ev112 (k : Nat) (x) : evF Tryz.prog (F112 k) (inlN Tryz.prog (F112 k) 4) [] Tryz.f112 (bodyOf Tryz.f112) (c112 k).ps (c112 k).rs (c112 k).rm x = (c112 k).m x := by kernel_rfl
theorem ok112 (k : Nat) : ConOk Tryz.prog (c112 k) :=
  fn_at (okF112 k) (cn := c112 k) (fn := Tryz.f112) (code := bodyOf Tryz.f112) (m := ⟨12, []⟩) (gs := []) (by kernel_rfl) (by kernel_rfl) (by kernel_rfl) (by kernel_rfl) (by kernel_rfl) (fun _ => by kernel_rfl)
    [] (fun c hP hm hg => (LInv.of (code := (bodyOf Tryz.f112)) (bs := []) (by kernel_rfl) LInv.nil)) (ev112 k)
def c223 (k : Nat) : Con := ⟨223, [(T_Addr, false), (T_Addr, false)], [.bool], (.own true), fun x => impl_areBoth x.1 x.2.1⟩
def F223 (k : Nat) : List Con := [c284 k]
theorem okF223 (k : Nat) : ∀ cn ∈ F223 k, ConOk Tryz.prog cn := (conCons (ok284 k) conNil)
theorem ev223 (k : Nat) (x) : evF Tryz.prog (F223 k) (inlN Tryz.prog (F223 k) 4) [] Tryz.f223 (bodyOf Tryz.f223) (c223 k).ps (c223 k).rs (c223 k).rm x = (c223 k).m x := by kernel_rfl
theorem ok223 (k : Nat) : ConOk Tryz.prog (c223 k) :=
  fn_at (okF223 k) (cn := c223 k) (fn := Tryz.f223) (code := bodyOf Tryz.f223) (m := ⟨18, []⟩) (gs := []) (by kernel_rfl) (by kernel_rfl) (by kernel_rfl) (by kernel_rfl) (by kernel_rfl) (fun _ => by kernel_rfl)
    [] (fun c hP hm hg => (LInv.of (code := (bodyOf Tryz.f223)) (bs := []) (by kernel_rfl) LInv.nil)) (ev223 k)
def c225 (k : Nat) : Con := ⟨225, [((.int .i64), false), ((.int .i64), false)], [(.int .i64)], (.own true), fun x => impl_UpperKind x.1 x.2.1⟩
def F225 (k : Nat) : List Con := [c224 k]
theorem okF225 (k : Nat) : ∀ cn ∈ F225 k, ConOk Tryz.prog cn := (conCons (ok224 k) conNil)
theorem ev225 (k : Nat) (x) : evF Tryz.prog (F225 k) (inlN Tryz.prog (F225 k) 4) [] Tryz.f225 (bodyOf Tryz.f225) (c225 k).ps (c225 k).rs (c225 k).rm x = (c225 k).m x := by kernel_rfl
theorem ok225 (k : Nat) : ConOk Tryz.prog (c225 k) :=
  fn_at (okF225 k) (cn := c225 k) (fn := Tryz.f225) (code := bodyOf Tryz.f225) (m := ⟨38, []⟩) (gs := []) (by kernel_rfl) (by kernel_rfl) (by kernel_rfl) (by kernel_rfl) (by kernel_rfl) (fun _ => by kernel_rfl)
    [] (fun c hP hm hg => (LInv.of (code := (bodyOf Tryz.f225)) (bs := []) (by kernel_rfl) LInv.nil)) (ev225 k)
def c226 (k : Nat) : Con := ⟨226, [((.int .i64), false)], [(.int .i64)], (.own true), fun x => impl_upperHead x.1⟩
def F226 (k : Nat) : List Con := []
theorem okF226 (k : Nat) : ∀ cn ∈ F226 k, ConOk Tryz.prog cn := conNil
theorem ev226 (k : Nat) (x) : evF Tryz.prog (F226 k) (inlN Tryz.prog (F226 k) 4) [] Tryz.f226 (bodyOf Tryz.f226) (c226 k).ps (c226 k).rs (c226 k).rm x = (c226 k).m x := by kernel_rfl
theorem ok226 (k : Nat) : ConOk Tryz.prog (c226 k) :=
  fn_at (okF226 k) (cn := c226 k) (fn := Tryz.f226) (code := bodyOf Tryz.f226) (m := ⟨11, []⟩) (gs := []) (by kernel_rfl) (by kernel_rfl) (by kernel_rfl) (by kernel_rfl) (by kernel_rfl) (fun _ => by kernel_rfl)
    [] (fun c hP hm hg => (LInv.of (code := (bodyOf Tryz.f226)) (bs := []) (by kernel_rfl) LInv.nil)) (ev226 k)
def c227 (k : Nat) : Con := ⟨227, [((.sl (.int .u8)), false), ((.int .i64), false), ((.int .i64), false)], [T_Upper, (.int .i64)], (.own true), fun x => impl_upperOf k x.1 x.2.1 x.2.2.1⟩
def F227 (k : Nat) : List Con := [c219 k, c217 k]
theorem okF227 (k : Nat) : ∀ cn ∈ F227 k, ConOk Tryz.prog cn := (conCons (ok219 k) (conCons (ok217 k) conNil))
theorem ev227 (k : Nat) (x) : evF Tryz.prog (F227 k) (inlN Tryz.prog (F227 k) 4) [] Tryz.f227 (bodyOf Tryz.f227) (c227 k).ps (c227 k).rs (c227 k).rm x = (c227 k).m x := by kernel_rfl
theorem ok227 (k : Nat) : ConOk Tryz.prog (c227 k) :=
  fn_at (okF227 k) (cn := c227 k) (fn := Tryz.f227) (code := bodyOf Tryz.f227) (m := ⟨88, []⟩) (gs := []) (by kernel_rfl) (by kernel_rfl) (by kernel_rfl) (by kernel_rfl) (by kernel_rfl) (fun _ => by kernel_rfl)
    [] (fun c hP hm hg => (LInv.of (code := (bodyOf Tryz.f227)) (bs := []) (by kernel_rfl) LInv.nil)) (ev227 k)
def c300 (k : Nat) : Con := ⟨300, [(T_Upper, false)], [(.int .i64)], (.own true), fun x => impl_UpperSize x.1⟩
def F300 (k : Nat) : List Con := [c226 k]
theorem okF300 (k : Nat) : ∀ cn ∈ F300 k, ConOk Tryz.prog cn := (conCons (ok226 k) conNil)
theorem ev300 (k : Nat) (x) : evF Tryz.prog (F300 k) (inlN Tryz.prog (F300 k) 4) [] Tryz.f300 (bodyOf Tryz.f300) (c300 k).ps (c300 k).rs (c300 k).rm x = (c300 k).m x := by kernel_rfl
theorem ok300 (k : Nat) : ConOk Tryz.prog (c300 k) :=
  fn_at (okF300 k) (cn := c300 k) (fn := Tryz.f300) (code := bodyOf Tryz.f300) (m := ⟨22, []⟩) (gs := []) (by kernel_rfl) (by kernel_rfl) (by kernel_rfl) (by kernel_rfl) (by kernel_rfl) (fun _ => by kernel_rfl)
    [] (fun c hP hm hg => (LInv.of (code := (bodyOf Tryz.f300)) (bs := []) (by kernel_rfl) LInv.nil)) (ev300 k)
def c93 (k : Nat) : Con := ⟨93, [((.sl (.int .i64)), false)], [.bool], (.own true), fun x => impl_areWords k x.1⟩
def F93 (k : Nat) : List Con := [c92 k]
theorem okF93 (k : Nat) : ∀ cn ∈ F93 k, ConOk Tryz.prog cn := (conCons (ok92 k) conNil)
abbrev S93_2 : Shape := [(5, .v (.sl (.int .i64))), (6, .v (.int .i64)), (7, .v (.int .i64))]
abbrev X93_2 : Exit × Shape := (Exit.ret, [(2, .v .bool)])
abbrev R93_2 : List (Exit × Shape) := [(Exit.exit 0, [])]
def lo93_2 (k : Nat) : LO := loopO [] [] [] S93_2 X93_2 R93_2 (iter (impl_areWords_s2) k)
theorem st93_2 (k : Nat) (rec v) : evC Tryz.prog ⟨15, []⟩ (F93 k) (inlN Tryz.prog (F93 k) 4) [] (lpAt (bodyOf Tryz.f93) [0]) (Kb [] [] [] S93_2 X93_2 R93_2 rec) (mkSt [] [] S93_2 v.1 v.2) = (impl_areWords_s2) rec v := by kernel_rfl
theorem lp93_2 (k : Nat) {c : Cx} (hP : c.P = Tryz.prog) (hm : c.m = ⟨15, []⟩) (hg : c.gs = []) : LoopOk c (lo93_2 k) (lpAt (bodyOf Tryz.f93) [0]) :=
  loop_at hP hm hg (okF93 k) (LInv.of (code := (lpAt (bodyOf Tryz.f93) [0])) (bs := []) (by kernel_rfl) LInv.nil) (fun rec v => st93_2 k rec v) k
theorem ev93 (k : Nat) (x) : evF Tryz.prog (F93 k) (inlN Tryz.prog (F93 k) 4) [(2, lo93_2 k)] Tryz.f93 (bodyOf Tryz.f93) (c93 k).ps (c93 k).rs (c93 k).rm x = (c93 k).m x := by kernel_rfl
theorem ok93 (k : Nat) : ConOk Tryz.prog (c93 k) :=
  fn_at (okF93 k) (cn := c93 k) (fn := Tryz.f93) (code := bodyOf Tryz.f93) (m := ⟨15, []⟩) (gs := []) (by kernel_rfl) (by kernel_rfl) (by kernel_rfl) (by kernel_rfl) (by kernel_rfl) (fun _ => by kernel_rfl)
    [(2, lo93_2 k)] (fun c hP hm hg => (LInv.of (code := (bodyOf Tryz.f93)) (bs := [(lpAt (bodyOf Tryz.f93) [0])]) (by kernel_rfl) (LInv.cons (b := (lpAt (bodyOf Tryz.f93) [0])) (by kernel_rfl) (lp93_2 k hP hm hg) LInv.nil))) (ev93 k)
def c268 (k : Nat) : Con := ⟨268, [((.int .i64), false)], [.bool], (.own true), fun x => impl_areZero_1 x.1⟩
def F268 (k : Nat) : List Con := []
theorem okF268 (k : Nat) : ∀ cn ∈ F268 k, ConOk Tryz.prog cn := conNil
theorem ev268 (k : Nat) (x) : evF Tryz.prog (F268 k) (inlN Tryz.prog (F268 k) 4) [] Tryz.f268 (bodyOf Tryz.f268) (c268 k).ps (c268 k).rs (c268 k).rm x = (c268 k).m x := by kernel_rfl
theorem ok268 (k : Nat) : ConOk Tryz.prog (c268 k) :=
  fn_at (okF268 k) (cn := c268 k) (fn := Tryz.f268) (code := bodyOf Tryz.f268) (m := ⟨5, []⟩) (gs := []) (by kernel_rfl) (by kernel_rfl) (by kernel_rfl) (by kernel_rfl) (by kernel_rfl) (fun _ => by kernel_rfl)
    [] (fun c hP hm hg => (LInv.of (code := (bodyOf Tryz.f268)) (bs := []) (by kernel_rfl) LInv.nil)) (ev268 k)
def c306 (k : Nat) : Con := ⟨306, [((.sl (.int .i64)), false), ((.cl 268 .un), false)], [(.int .i64)], (.own true), fun x => slices_IndexFunc_int k x.1 x.2.1⟩
def F306 (k : Nat) : List Con := [c268 k]
theorem okF306 (k : Nat) : ∀ cn ∈ F306 k, ConOk Tryz.prog cn := (conCons (ok268 k) conNil)
abbrev S306_2 : Shape := [(0, .v (.sl (.int .i64))), (1, .v (.cl 268 .un)), (7, .v (.int .i64)), (8, .v (.int .i64))]
abbrev X306_2 : Exit × Shape := (Exit.ret, [(4, .v (.int .i64))])
abbrev R306_2 : List (Exit × Shape) := [(Exit.exit 0, [])]
def lo306_2 (k : Nat) : LO := loopO [] [] [] S306_2 X306_2 R306_2 (iter (slices_IndexFunc_int_s2) k)
theorem st306_2 (k : Nat) (rec v) : evC Tryz.prog ⟨19, []⟩ (F306 k) (inlN Tryz.prog (F306 k) 4) [] (lpAt (bodyOf Tryz.f306) [0]) (Kb [] [] [] S306_2 X306_2 R306_2 rec) (mkSt [] [] S306_2 v.1 v.2) = (slices_IndexFunc_int_s2) rec v := by kernel_rfl
theorem lp306_2 (k : Nat) {c : Cx} (hP : c.P = Tryz.prog) (hm : c.m = ⟨19, []⟩) (hg : c.gs = []) : LoopOk c (lo306_2 k) (lpAt (bodyOf Tryz.f306) [0]) :=
  loop_at hP hm hg (okF306 k) (LInv.of (code := (lpAt (bodyOf Tryz.f306) [0])) (bs := []) (by kernel_rfl) LInv.nil) (fun rec v => st306_2 k rec v) k
theorem ev306 (k : Nat) (x) : evF Tryz.prog (F306 k) (inlN Tryz.prog (F306 k) 4) [(2, lo306_2 k)] Tryz.f306 (bodyOf Tryz.f306) (c306 k).ps (c306 k).rs (c306 k).rm x = (c306 k).m x := by kernel_rfl
theorem ok306 (k : Nat) : ConOk Tryz.prog (c306 k) :=
  fn_at (okF306 k) (cn := c306 k) (fn := Tryz.f306) (code := bodyOf Tryz.f306) (m := ⟨19, []⟩) (gs := []) (by kernel_rfl) (by kernel_rfl) (by kernel_rfl) (by kernel_rfl) (by kernel_rfl) (fun _ => by kernel_rfl)
    [(2, lo306_2 k)] (fun c hP hm hg => (LInv.of (code := (bodyOf Tryz.f306)) (bs := [(lpAt (bodyOf Tryz.f306) [0])]) (by kernel_rfl) (LInv.cons (b := (lpAt (bodyOf Tryz.f306) [0])) (by kernel_rfl) (lp306_2 k hP hm hg) LInv.nil))) (ev306 k)
def c254 (k : Nat) : Con := ⟨254, [((.sl (.int .i64)), false), ((.cl 268 .un), false)], [.bool], (.own true), fun x => slices_ContainsFunc_int k x.1 x.2.1⟩
def F254 (k : Nat) : List Con := [c306 k]
theorem okF254 (k : Nat) : ∀ cn ∈ F254 k, ConOk Tryz.prog cn := (conCons (ok306 k) conNil)
theorem ev254 (k : Nat) (x) : evF Tryz.prog (F254 k) (inlN Tryz.prog (F254 k) 4) [] Tryz.f254 (bodyOf Tryz.f254) (c254 k).ps (c254 k).rs (c254 k).rm x = (c254 k).m x := by kernel_rfl
theorem ok254 (k : Nat) : ConOk Tryz.prog (c254 k) :=
  fn_at (okF254 k) (cn := c254 k) (fn := Tryz.f254) (code := bodyOf Tryz.f254) (m := ⟨9, []⟩) (gs := []) (by kernel_rfl) (by kernel_rfl) (by kernel_rfl) (by kernel_rfl) (by kernel_rfl) (fun _ => by kernel_rfl)
    [] (fun c hP hm hg => (LInv.of (code := (bodyOf Tryz.f254)) (bs := []) (by kernel_rfl) LInv.nil)) (ev254 k)
def c176 (k : Nat) : Con := ⟨176, [((.sl (.int .i64)), false)], [.bool], (.own true), fun x => impl_areZero k x.1⟩
def F176 (k : Nat) : List Con := [c254 k]
theorem okF176 (k : Nat) : ∀ cn ∈ F176 k, ConOk Tryz.prog cn := (conCons (ok254 k) conNil)
theorem ev176 (k : Nat) (x) : evF Tryz.prog (F176 k) (inlN Tryz.prog (F176 k) 4) [] Tryz.f176 (bodyOf Tryz.f176) (c176 k).ps (c176 k).rs (c176 k).rm x = (c176 k).m x := by kernel_rfl
theorem ok176 (k : Nat) : ConOk Tryz.prog (c176 k) :=
  fn_at (okF176 k) (cn := c176 k) (fn := Tryz.f176) (code := bodyOf Tryz.f176) (m := ⟨6, []⟩) (gs := []) (by kernel_rfl) (by kernel_rfl) (by kernel_rfl) (by kernel_rfl) (by kernel_rfl) (fun _ => by kernel_rfl)
    [] (fun c hP hm hg => (LInv.of (code := (bodyOf Tryz.f176)) (bs := []) (by kernel_rfl) LInv.nil)) (ev176 k)
def c298 (k : Nat) : Con := ⟨298, [(T_Upper, false), ((.int .i64), false)], [.bool], (.own true), fun x => impl_UpperOk k x.1 x.2.1⟩
def F298 (k : Nat) : List Con := [c300 k, c93 k, c321 k, c71 k, c224 k, c176 k]
theorem okF298 (k : Nat) : ∀ cn ∈ F298 k, ConOk Tryz.prog cn := (conCons (ok300 k) (conCons (ok93 k) (conCons (ok321 k) (conCons (ok71 k) (conCons (ok224 k) (conCons (ok176 k) conNil))))))
theorem ev298 (k : Nat) (x) : evF Tryz.prog (F298 k) (inlN Tryz.prog (F298 k) 4) [] Tryz.f298 (bodyOf Tryz.f298) (c298 k).ps (c298 k).rs (c298 k).rm x = (c298 k).m x := by kernel_rfl
theorem ok298 (k : Nat) : ConOk Tryz.prog (c298 k) :=
  fn_at (okF298 k) (cn := c298 k) (fn := Tryz.f298) (code := bodyOf Tryz.f298) (m := ⟨194, []⟩) (gs := []) (by kernel_rfl) (by kernel_rfl) (by kernel_rfl) (by kernel_rfl) (by kernel_rfl) (fun _ => by kernel_rfl)
    [] (fun c hP hm hg => (LInv.of (code := (bodyOf Tryz.f298)) (bs := []) (by kernel_rfl) LInv.nil)) (ev298 k)
def c299 (k : Nat) : Con := ⟨299, [(T_Addr, false), (T_Addr, false), ((.int .i64), false), ((.int .i64), false)], [(.int .i64)], (.own true), fun x => impl_pseudoSum k x.1 x.2.1 x.2.2.1 x.2.2.2.1⟩
def F299 (k : Nat) : List Con := [c204 k, c178 k, c316 k, c317 k, c301 k]
theorem okF299 (k : Nat) : ∀ cn ∈ F299 k, ConOk Tryz.prog cn := (conCons (ok204 k) (conCons (ok178 k) (conCons (ok316 k) (conCons (ok317 k) (conCons (ok301 k) conNil)))))
theorem ev299 (k : Nat) (x) : evF Tryz.prog (F299 k) (inlN Tryz.prog (F299 k) 4) [] Tryz.f299 (bodyOf Tryz.f299) (c299 k).ps (c299 k).rs (c299 k).rm x = (c299 k).m x := by kernel_rfl
theorem ok299 (k : Nat) : ConOk Tryz.prog (c299 k) :=
  fn_at (okF299 k) (cn := c299 k) (fn := Tryz.f299) (code := bodyOf Tryz.f299) (m := ⟨35, []⟩) (gs := []) (by kernel_rfl) (by kernel_rfl) (by kernel_rfl) (by kernel_rfl) (by kernel_rfl) (fun _ => by kernel_rfl)
    [] (fun c hP hm hg => (LInv.of (code := (bodyOf Tryz.f299)) (bs := []) (by kernel_rfl) LInv.nil)) (ev299 k)
def c302 (k : Nat) : Con := ⟨302, [(T_Upper, false), ((.int .i64), false)], [(.sl (.int .u8))], (.own true), fun x => impl_Upper_encoded k x.1 x.2.1⟩
def F302 (k : Nat) : List Con := [c204 k, c178 k, c316 k, c300 k, c219 k]
theorem okF302 (k : Nat) : ∀ cn ∈ F302 k, ConOk Tryz.prog cn := (conCons (ok204 k) (conCons (ok178 k) (conCons (ok316 k) (conCons (ok300 k) (conCons (ok219 k) conNil)))))
theorem ev302 (k : Nat) (x) : evF Tryz.prog (F302 k) (inlN Tryz.prog (F302 k) 4) [] Tryz.f302 (bodyOf Tryz.f302) (c302 k).ps (c302 k).rs (c302 k).rm x = (c302 k).m x := by kernel_rfl
theorem ok302 (k : Nat) : ConOk Tryz.prog (c302 k) :=
  fn_at (okF302 k) (cn := c302 k) (fn := Tryz.f302) (code := bodyOf Tryz.f302) (m := ⟨84, []⟩) (gs := []) (by kernel_rfl) (by kernel_rfl) (by kernel_rfl) (by kernel_rfl) (by kernel_rfl) (fun _ => by kernel_rfl)
    [] (fun c hP hm hg => (LInv.of (code := (bodyOf Tryz.f302)) (bs := []) (by kernel_rfl) LInv.nil)) (ev302 k)
def c228 (k : Nat) : Con := ⟨228, [(T_Upper, false), (T_Addr, false), (T_Addr, false)], [(.int .i64)], (.own true), fun x => impl_UpperSum k x.1 x.2.1 x.2.2.1⟩
def F228 (k : Nat) : List Con := [c223 k, c298 k, c300 k, c299 k, c302 k, c301 k, c206 k]
theorem okF228 (k : Nat) : ∀ cn ∈ F228 k, ConOk Tryz.prog cn := (conCons (ok223 k) (conCons (ok298 k) (conCons (ok300 k) (conCons (ok299 k) (conCons (ok302 k) (conCons (ok301 k) (conCons (ok206 k) conNil)))))))
theorem ev228 (k : Nat) (x) : evF Tryz.prog (F228 k) (inlN Tryz.prog (F228 k) 4) [] Tryz.f228 (bodyOf Tryz.f228) (c228 k).ps (c228 k).rs (c228 k).rm x = (c228 k).m x := by kernel_rfl
theorem ok228 (k : Nat) : ConOk Tryz.prog (c228 k) :=
  fn_at (okF228 k) (cn := c228 k) (fn := Tryz.f228) (code := bodyOf Tryz.f228) (m := ⟨61, []⟩) (gs := []) (by kernel_rfl) (by kernel_rfl) (by kernel_rfl) (by kernel_rfl) (by kernel_rfl) (fun _ => by kernel_rfl)
    [] (fun c hP hm hg => (LInv.of (code := (bodyOf Tryz.f228)) (bs := []) (by kernel_rfl) LInv.nil)) (ev228 k)
def c111 (k : Nat) : Con := ⟨111, [((.sl (.int .u8)), false), ((.int .i64), false), (T_Addr, false), (T_Addr, false)], [T_Upper, (.int .i64)], (.own true), fun x => impl_UpperRead k x.1 x.2.1 x.2.2.1 x.2.2.2.1⟩
def F111 (k : Nat) : List Con := [c223 k, c224 k, c225 k, c226 k, c217 k, c227 k, c228 k]
theorem okF111 (k : Nat) : ∀ cn ∈ F111 k, ConOk Tryz.prog cn := (conCons (ok223 k) (conCons (ok224 k) (conCons (ok225 k) (conCons (ok226 k) (conCons (ok217 k) (conCons (ok227 k) (conCons (ok228 k) conNil)))))))
theorem ev111 (k : Nat) (x) : evF Tryz.prog (F111 k) (inlN Tryz.prog (F111 k) 4) [] Tryz.f111 (bodyOf Tryz.f111) (c111 k).ps (c111 k).rs (c111 k).rm x = (c111 k).m x := by kernel_rfl
theorem ok111 (k : Nat) : ConOk Tryz.prog (c111 k) :=
  fn_at (okF111 k) (cn := c111 k) (fn := Tryz.f111) (code := bodyOf Tryz.f111) (m := ⟨96, []⟩) (gs := []) (by kernel_rfl) (by kernel_rfl) (by kernel_rfl) (by kernel_rfl) (by kernel_rfl) (fun _ => by kernel_rfl)
    [] (fun c hP hm hg => (LInv.of (code := (bodyOf Tryz.f111)) (bs := []) (by kernel_rfl) LInv.nil)) (ev111 k)
def c40 (k : Nat) : Con := ⟨40, [((.sl (.int .u8)), false)], [T_Packet, (.int .i64)], (.own true), fun x => impl_PacketRead k x.1⟩
def F40 (k : Nat) : List Con := [c107 k, c220 k, c109 k, c110 k, c112 k, c111 k, c221 k]
theorem okF40 (k : Nat) : ∀ cn ∈ F40 k, ConOk Tryz.prog cn := (conCons (ok107 k) (conCons (ok220 k) (conCons (ok109 k) (conCons (ok110 k) (conCons (ok112 k) (conCons (ok111 k) (conCons (ok221 k) conNil)))))))
theorem ev40 (k : Nat) (x) : evF Tryz.prog (F40 k) (inlN Tryz.prog (F40 k) 4) [] Tryz.f40 (bodyOf Tryz.f40) (c40 k).ps (c40 k).rs (c40 k).rm x = (c40 k).m x := by kernel_rfl
theorem ok40 (k : Nat) : ConOk Tryz.prog (c40 k) :=
  fn_at (okF40 k) (cn := c40 k) (fn := Tryz.f40) (code := bodyOf Tryz.f40) (m := ⟨81, []⟩) (gs := []) (by kernel_rfl) (by kernel_rfl) (by kernel_rfl) (by kernel_rfl) (by kernel_rfl) (fun _ => by kernel_rfl)
    [] (fun c hP hm hg => (LInv.of (code := (bodyOf Tryz.f40)) (bs := []) (by kernel_rfl) LInv.nil)) (ev40 k)
def c42 (k : Nat) : Con := ⟨42, [((.sl (.int .u8)), false), ((.sl (.int .u8)), false)], [.bool], (.own true), fun x => laws_eqByteS k x.1 x.2.1⟩
def F42 (k : Nat) : List Con := []
theorem okF42 (k : Nat) : ∀ cn ∈ F42 k, ConOk Tryz.prog cn := conNil
abbrev S42_4 : Shape := [(0, .v (.sl (.int .u8))), (1, .v (.sl (.int .u8))), (5, .v (.int .i64))]
abbrev X42_4 : Exit × Shape := (Exit.ret, [(4, .v .bool)])
abbrev R42_4 : List (Exit × Shape) := [(Exit.exit 0, [])]
def lo42_4 (k : Nat) : LO := loopO [] [] [] S42_4 X42_4 R42_4 (iter (laws_eqByteS_s4) k)
theorem st42_4 (k : Nat) (rec v) : evC Tryz.prog ⟨26, []⟩ (F42 k) (inlN Tryz.prog (F42 k) 4) [] (lpAt (bodyOf Tryz.f42) [0]) (Kb [] [] [] S42_4 X42_4 R42_4 rec) (mkSt [] [] S42_4 v.1 v.2) = (laws_eqByteS_s4) rec v := by kernel_rfl
theorem lp42_4 (k : Nat) {c : Cx} (hP : c.P = Tryz.prog) (hm : c.m = ⟨26, []⟩) (hg : c.gs = []) : LoopOk c (lo42_4 k) (lpAt (bodyOf Tryz.f42) [0]) :=
  loop_at hP hm hg (okF42 k) (LInv.of (code := (lpAt (bodyOf Tryz.f42) [0])) (bs := []) (by kernel_rfl) LInv.nil) (fun rec v => st42_4 k rec v) k
theorem ev42 (k : Nat) (x) : evF Tryz.prog (F42 k) (inlN Tryz.prog (F42 k) 4) [(4, lo42_4 k)] Tryz.f42 (bodyOf Tryz.f42) (c42 k).ps (c42 k).rs (c42 k).rm x = (c42 k).m x := by kernel_rfl
theorem ok42 (k : Nat) : ConOk Tryz.prog (c42 k) :=
  fn_at (okF42 k) (cn := c42 k) (fn := Tryz.f42) (code := bodyOf Tryz.f42) (m := ⟨26, []⟩) (gs := []) (by kernel_rfl) (by kernel_rfl) (by kernel_rfl) (by kernel_rfl) (by kernel_rfl) (fun _ => by kernel_rfl)
    [(4, lo42_4 k)] (fun c hP hm hg => (LInv.of (code := (bodyOf Tryz.f42)) (bs := [(lpAt (bodyOf Tryz.f42) [0])]) (by kernel_rfl) (LInv.cons (b := (lpAt (bodyOf Tryz.f42) [0])) (by kernel_rfl) (lp42_4 k hP hm hg) LInv.nil))) (ev42 k)
def c113 (k : Nat) : Con := ⟨113, [(T_Ether, false), (T_Ether, false)], [.bool], (.own true), fun x => laws_eqEther k x.1 x.2.1⟩
def F113 (k : Nat) : List Con := [c42 k]
theorem okF113 (k : Nat) : ∀ cn ∈ F113 k, ConOk Tryz.prog cn := (conCons (ok42 k) conNil)
theorem ev113 (k : Nat) (x) : evF Tryz.prog (F113 k) (inlN Tryz.prog (F113 k) 4) [] Tryz.f113 (bodyOf Tryz.f113) (c113 k).ps (c113 k).rs (c113 k).rm x = (c113 k).m x := by kernel_rfl
theorem ok113 (k : Nat) : ConOk Tryz.prog (c113 k) :=
  fn_at (okF113 k) (cn := c113 k) (fn := Tryz.f113) (code := bodyOf Tryz.f113) (m := ⟨31, []⟩) (gs := []) (by kernel_rfl) (by kernel_rfl) (by kernel_rfl) (by kernel_rfl) (by kernel_rfl) (fun _ => by kernel_rfl)
    [] (fun c hP hm hg => (LInv.of (code := (bodyOf Tryz.f113)) (bs := []) (by kernel_rfl) LInv.nil)) (ev113 k)
def c229 (k : Nat) : Con := ⟨229, [(T_Addr, false), (T_Addr, false)], [.bool], (.own true), fun x => laws_eqAddr x.1 x.2.1⟩
def F229 (k : Nat) : List Con := []
theorem okF229 (k : Nat) : ∀ cn ∈ F229 k, ConOk Tryz.prog cn := conNil
theorem ev229 (k : Nat) (x) : evF Tryz.prog (F229 k) (inlN Tryz.prog (F229 k) 4) [] Tryz.f229 (bodyOf Tryz.f229) (c229 k).ps (c229 k).rs (c229 k).rm x = (c229 k).m x := by kernel_rfl
theorem ok229 (k : Nat) : ConOk Tryz.prog (c229 k) :=
  fn_at (okF229 k) (cn := c229 k) (fn := Tryz.f229) (code := bodyOf Tryz.f229) (m := ⟨30, []⟩) (gs := []) (by kernel_rfl) (by kernel_rfl) (by kernel_rfl) (by kernel_rfl) (by kernel_rfl) (fun _ => by kernel_rfl)
    [] (fun c hP hm hg => (LInv.of (code := (bodyOf Tryz.f229)) (bs := []) (by kernel_rfl) LInv.nil)) (ev229 k)
def c114 (k : Nat) : Con := ⟨114, [(T_Four, false), (T_Four, false)], [.bool], (.own true), fun x => laws_eqFour k x.1 x.2.1⟩
def F114 (k : Nat) : List Con := [c229 k, c42 k]
theorem okF114 (k : Nat) : ∀ cn ∈ F114 k, ConOk Tryz.prog cn := (conCons (ok229 k) (conCons (ok42 k) conNil))
theorem ev114 (k : Nat) (x) : evF Tryz.prog (F114 k) (inlN Tryz.prog (F114 k) 4) [] Tryz.f114 (bodyOf Tryz.f114) (c114 k).ps (c114 k).rs (c114 k).rm x = (c114 k).m x := by kernel_rfl
theorem ok114 (k : Nat) : ConOk Tryz.prog (c114 k) :=
  fn_at (okF114 k) (cn := c114 k) (fn := Tryz.f114) (code := bodyOf Tryz.f114) (m := ⟨64, []⟩) (gs := []) (by kernel_rfl) (by kernel_rfl) (by kernel_rfl) (by kernel_rfl) (by kernel_rfl) (fun _ => by kernel_rfl)
    [] (fun c hP hm hg => (LInv.of (code := (bodyOf Tryz.f114)) (bs := []) (by kernel_rfl) LInv.nil)) (ev114 k)
def c303 (k : Nat) : Con := ⟨303, [(T_Ext, false), (T_Ext, false)], [.bool], (.own true), fun x => laws_eqExt k x.1 x.2.1⟩
def F303 (k : Nat) : List Con := [c42 k]
theorem okF303 (k : Nat) : ∀ cn ∈ F303 k, ConOk Tryz.prog cn := (conCons (ok42 k) conNil)
theorem ev303 (k : Nat) (x) : evF Tryz.prog (F303 k) (inlN Tryz.prog (F303 k) 4) [] Tryz.f303 (bodyOf Tryz.f303) (c303 k).ps (c303 k).rs (c303 k).rm x = (c303 k).m x := by kernel_rfl
theorem ok303 (k : Nat) : ConOk Tryz.prog (c303 k) :=
  fn_at (okF303 k) (cn := c303 k) (fn := Tryz.f303) (code := bodyOf Tryz.f303) (m := ⟨16, []⟩) (gs := []) (by kernel_rfl) (by kernel_rfl) (by kernel_rfl) (by kernel_rfl) (by kernel_rfl) (fun _ => by kernel_rfl)
    [] (fun c hP hm hg => (LInv.of (code := (bodyOf Tryz.f303)) (bs := []) (by kernel_rfl) LInv.nil)) (ev303 k)
def c230 (k : Nat) : Con := ⟨230, [((.sl T_Ext), false), ((.sl T_Ext), false)], [.bool], (.own true), fun x => laws_eqExtS k x.1 x.2.1⟩
def F230 (k : Nat) : List Con := [c303 k]
theorem okF230 (k : Nat) : ∀ cn ∈ F230 k, ConOk Tryz.prog cn := (conCons (ok303 k) conNil)
abbrev S230_4 : Shape := [(0, .v (.sl T_Ext)), (1, .v (.sl T_Ext)), (5, .v (.int .i64))]
abbrev X230_4 : Exit × Shape := (Exit.ret, [(4, .v .bool)])
abbrev R230_4 : List (Exit × Shape) := [(Exit.exit 0, [])]
def lo230_4 (k : Nat) : LO := loopO [] [] [] S230_4 X230_4 R230_4 (iter (laws_eqExtS_s4 k) k)
theorem st230_4 (k : Nat) (rec v) : evC Tryz.prog ⟨27, []⟩ (F230 k) (inlN Tryz.prog (F230 k) 4) [] (lpAt (bodyOf Tryz.f230) [0]) (Kb [] [] [] S230_4 X230_4 R230_4 rec) (mkSt [] [] S230_4 v.1 v.2) = (laws_eqExtS_s4 k) rec v := by kernel_rfl
theorem lp230_4 (k : Nat) {c : Cx} (hP : c.P = Tryz.prog) (hm : c.m = ⟨27, []⟩) (hg : c.gs = []) : LoopOk c (lo230_4 k) (lpAt (bodyOf Tryz.f230) [0]) :=
  loop_at hP hm hg (okF230 k) (LInv.of (code := (lpAt (bodyOf Tryz.f230) [0])) (bs := []) (by kernel_rfl) LInv.nil) (fun rec v => st230_4 k rec v) k
theorem ev230 (k : Nat) (x) : evF Tryz.prog (F230 k) (inlN Tryz.prog (F230 k) 4) [(4, lo230_4 k)] Tryz.f230 (bodyOf Tryz.f230) (c230 k).ps (c230 k).rs (c230 k).rm x = (c230 k).m x := by kernel_rfl
theorem ok230 (k : Nat) : ConOk Tryz.prog (c230 k) :=
  fn_at (okF230 k) (cn := c230 k) (fn := Tryz.f230) (code := bodyOf Tryz.f230) (m := ⟨27, []⟩) (gs := []) (by kernel_rfl) (by kernel_rfl) (by kernel_rfl) (by kernel_rfl) (by kernel_rfl) (fun _ => by kernel_rfl)
    [(4, lo230_4 k)] (fun c hP hm hg => (LInv.of (code := (bodyOf Tryz.f230)) (bs := [(lpAt (bodyOf Tryz.f230) [0])]) (by kernel_rfl) (LInv.cons (b := (lpAt (bodyOf Tryz.f230) [0])) (by kernel_rfl) (lp230_4 k hP hm hg) LInv.nil))) (ev230 k)
def c115 (k : Nat) : Con := ⟨115, [(T_Six, false), (T_Six, false)], [.bool], (.own true), fun x => laws_eqSix k x.1 x.2.1⟩
def F115 (k : Nat) : List Con := [c229 k, c230 k, c42 k]
theorem okF115 (k : Nat) : ∀ cn ∈ F115 k, ConOk Tryz.prog cn := (conCons (ok229 k) (conCons (ok230 k) (conCons (ok42 k) conNil)))
theorem ev115 (k : Nat) (x) : evF Tryz.prog (F115 k) (inlN Tryz.prog (F115 k) 4) [] Tryz.f115 (bodyOf Tryz.f115) (c115 k).ps (c115 k).rs (c115 k).rm x = (c115 k).m x := by kernel_rfl
theorem ok115 (k : Nat) : ConOk Tryz.prog (c115 k) :=
  fn_at (okF115 k) (cn := c115 k) (fn := Tryz.f115) (code := bodyOf Tryz.f115) (m := ⟨49, []⟩) (gs := []) (by kernel_rfl) (by kernel_rfl) (by kernel_rfl) (by kernel_rfl) (by kernel_rfl) (fun _ => by kernel_rfl)
    [] (fun c hP hm hg => (LInv.of (code := (bodyOf Tryz.f115)) (bs := []) (by kernel_rfl) LInv.nil)) (ev115 k)
def c116 (k : Nat) : Con := ⟨116, [(T_Upper, false), (T_Upper, false)], [.bool], (.own true), fun x => laws_eqUpper k x.1 x.2.1⟩
def F116 (k : Nat) : List Con := [c42 k]
theorem okF116 (k : Nat) : ∀ cn ∈ F116 k, ConOk Tryz.prog cn := (conCons (ok42 k) conNil)
theorem ev116 (k : Nat) (x) : evF Tryz.prog (F116 k) (inlN Tryz.prog (F116 k) 4) [] Tryz.f116 (bodyOf Tryz.f116) (c116 k).ps (c116 k).rs (c116 k).rm x = (c116 k).m x := by kernel_rfl
theorem ok116 (k : Nat) : ConOk Tryz.prog (c116 k) :=
  fn_at (okF116 k) (cn := c116 k) (fn := Tryz.f116) (code := bodyOf Tryz.f116) (m := ⟨77, []⟩) (gs := []) (by kernel_rfl) (by kernel_rfl) (by kernel_rfl) (by kernel_rfl) (by kernel_rfl) (fun _ => by kernel_rfl)
    [] (fun c hP hm hg => (LInv.of (code := (bodyOf Tryz.f116)) (bs := []) (by kernel_rfl) LInv.nil)) (ev116 k)
def c41 (k : Nat) : Con := ⟨41, [(T_Packet, false), (T_Packet, false)], [.bool], (.own true), fun x => laws_eqPacket k x.1 x.2.1⟩
def F41 (k : Nat) : List Con := [c113 k, c114 k, c115 k, c116 k, c42 k]
theorem okF41 (k : Nat) : ∀ cn ∈ F41 k, ConOk Tryz.prog cn := (conCons (ok113 k) (conCons (ok114 k) (conCons (ok115 k) (conCons (ok116 k) (conCons (ok42 k) conNil)))))
theorem ev41 (k : Nat) (x) : evF Tryz.prog (F41 k) (inlN Tryz.prog (F41 k) 4) [] Tryz.f41 (bodyOf Tryz.f41) (c41 k).ps (c41 k).rs (c41 k).rm x = (c41 k).m x := by kernel_rfl
theorem ok41 (k : Nat) : ConOk Tryz.prog (c41 k) :=
  fn_at (okF41 k) (cn := c41 k) (fn := Tryz.f41) (code := bodyOf Tryz.f41) (m := ⟨40, []⟩) (gs := []) (by kernel_rfl) (by kernel_rfl) (by kernel_rfl) (by kernel_rfl) (by kernel_rfl) (fun _ => by kernel_rfl)
    [] (fun c hP hm hg => (LInv.of (code := (bodyOf Tryz.f41)) (bs := []) (by kernel_rfl) LInv.nil)) (ev41 k)
def c43 (k : Nat) : Con := ⟨43, [((.sl (.int .u8)), true), ((.int .i64), false)], [(.int .i64)], (.own true), fun x => laws_markByteS k x.1 x.2.1⟩
def F43 (k : Nat) : List Con := []
theorem okF43 (k : Nat) : ∀ cn ∈ F43 k, ConOk Tryz.prog cn := conNil
abbrev S43_2 : Shape := [(0, .arg 0), (1, .v (.int .i64)), (5, .v (.int .i64))]
abbrev X43_2 : Exit × Shape := (Exit.exit 0, [(1, .v (.int .i64))])
abbrev R43_2 : List (Exit × Shape) := []
def lo43_2 (k : Nat) : LO := loopO [(0, 0)] [.full 0] [(.sl (.int .u8))] S43_2 X43_2 R43_2 (iter (laws_markByteS_s2) k)
theorem st43_2 (k : Nat) (rec v) : evC Tryz.prog ⟨20, [(0, 0)]⟩ (F43 k) (inlN Tryz.prog (F43 k) 4) [] (lpAt (bodyOf Tryz.f43) [0]) (Kb [(0, 0)] [.full 0] [(.sl (.int .u8))] S43_2 X43_2 R43_2 rec) (mkSt [.full 0] [(.sl (.int .u8))] S43_2 v.1 v.2) = (laws_markByteS_s2) rec v := by kernel_rfl
theorem lp43_2 (k : Nat) {c : Cx} (hP : c.P = Tryz.prog) (hm : c.m = ⟨20, [(0, 0)]⟩) (hg : c.gs = [.full 0]) : LoopOk c (lo43_2 k) (lpAt (bodyOf Tryz.f43) [0]) :=
  loop_at hP hm hg (okF43 k) (LInv.of (code := (lpAt (bodyOf Tryz.f43) [0])) (bs := []) (by kernel_rfl) LInv.nil) (fun rec v => st43_2 k rec v) k
theorem ev43 (k : Nat) (x) : evF Tryz.prog (F43 k) (inlN Tryz.prog (F43 k) 4) [(2, lo43_2 k)] Tryz.f43 (bodyOf Tryz.f43) (c43 k).ps (c43 k).rs (c43 k).rm x = (c43 k).m x := by kernel_rfl
theorem ok43 (k : Nat) : ConOk Tryz.prog (c43 k) :=
  fn_at (okF43 k) (cn := c43 k) (fn := Tryz.f43) (code := bodyOf Tryz.f43) (m := ⟨20, [(0, 0)]⟩) (gs := [.full 0]) (by kernel_rfl) (by kernel_rfl) (by kernel_rfl) (by kernel_rfl) (by kernel_rfl) (fun _ => by kernel_rfl)
    [(2, lo43_2 k)] (fun c hP hm hg => (LInv.of (code := (bodyOf Tryz.f43)) (bs := [(lpAt (bodyOf Tryz.f43) [0])]) (by kernel_rfl) (LInv.cons (b := (lpAt (bodyOf Tryz.f43) [0])) (by kernel_rfl) (lp43_2 k hP hm hg) LInv.nil))) (ev43 k)
def c231 (k : Nat) : Con := ⟨231, [((.sl T_Ext), true), ((.int .i64), false)], [(.int .i64)], (.own true), fun x => laws_markExtS k x.1 x.2.1⟩
def F231 (k : Nat) : List Con := [c43 k]
theorem okF231 (k : Nat) : ∀ cn ∈ F231 k, ConOk Tryz.prog cn := (conCons (ok43 k) conNil)
abbrev S231_2 : Shape := [(0, .arg 0), (1, .v (.int .i64)), (5, .v (.int .i64))]
abbrev X231_2 : Exit × Shape := (Exit.exit 0, [(1, .v (.int .i64))])
abbrev R231_2 : List (Exit × Shape) := []
def lo231_2 (k : Nat) : LO := loopO [(0, 0)] [.full 0] [(.sl T_Ext)] S231_2 X231_2 R231_2 (iter (laws_markExtS_s2 k) k)
theorem st231_2 (k : Nat) (rec v) : evC Tryz.prog ⟨27, [(0, 0)]⟩ (F231 k) (inlN Tryz.prog (F231 k) 4) [] (lpAt (bodyOf Tryz.f231) [0]) (Kb [(0, 0)] [.full 0] [(.sl T_Ext)] S231_2 X231_2 R231_2 rec) (mkSt [.full 0] [(.sl T_Ext)] S231_2 v.1 v.2) = (laws_markExtS_s2 k) rec v := by kernel_rfl
theorem lp231_2 (k : Nat) {c : Cx} (hP : c.P = Tryz.prog) (hm : c.m = ⟨27, [(0, 0)]⟩) (hg : c.gs = [.full 0]) : LoopOk c (lo231_2 k) (lpAt (bodyOf Tryz.f231) [0]) :=
  loop_at hP hm hg (okF231 k) (LInv.of (code := (lpAt (bodyOf Tryz.f231) [0])) (bs := []) (by kernel_rfl) LInv.nil) (fun rec v => st231_2 k rec v) k
theorem ev231 (k : Nat) (x) : evF Tryz.prog (F231 k) (inlN Tryz.prog (F231 k) 4) [(2, lo231_2 k)] Tryz.f231 (bodyOf Tryz.f231) (c231 k).ps (c231 k).rs (c231 k).rm x = (c231 k).m x := by kernel_rfl
theorem ok231 (k : Nat) : ConOk Tryz.prog (c231 k) :=
  fn_at (okF231 k) (cn := c231 k) (fn := Tryz.f231) (code := bodyOf Tryz.f231) (m := ⟨27, [(0, 0)]⟩) (gs := [.full 0]) (by kernel_rfl) (by kernel_rfl) (by kernel_rfl) (by kernel_rfl) (by kernel_rfl) (fun _ => by kernel_rfl)
    [(2, lo231_2 k)] (fun c hP hm hg => (LInv.of (code := (bodyOf Tryz.f231)) (bs := [(lpAt (bodyOf Tryz.f231) [0])]) (by kernel_rfl) (LInv.cons (b := (lpAt (bodyOf Tryz.f231) [0])) (by kernel_rfl) (lp231_2 k hP hm hg) LInv.nil))) (ev231 k)
def c125 (k : Nat) : Con := ⟨125, [((.sl (.int .u8)), false), ((.int .i64), false)], [(.int .i64)], (.own true), fun x => laws_heldByteS k x.1 x.2.1⟩
def F125 (k : Nat) : List Con := []
theorem okF125 (k : Nat) : ∀ cn ∈ F125 k, ConOk Tryz.prog cn := conNil
abbrev S125_2 : Shape := [(0, .v (.sl (.int .u8))), (1, .v (.int .i64)), (5, .v (.int .i64))]
abbrev X125_2 : Exit × Shape := (Exit.ret, [(4, .v (.int .i64))])
abbrev R125_2 : List (Exit × Shape) := [(Exit.exit 0, [(1, .v (.int .i64))])]
def lo125_2 (k : Nat) : LO := loopO [] [] [] S125_2 X125_2 R125_2 (iter (laws_heldByteS_s2) k)
theorem st125_2 (k : Nat) (rec v) : evC Tryz.prog ⟨22, []⟩ (F125 k) (inlN Tryz.prog (F125 k) 4) [] (lpAt (bodyOf Tryz.f125) [0]) (Kb [] [] [] S125_2 X125_2 R125_2 rec) (mkSt [] [] S125_2 v.1 v.2) = (laws_heldByteS_s2) rec v := by kernel_rfl
theorem lp125_2 (k : Nat) {c : Cx} (hP : c.P = Tryz.prog) (hm : c.m = ⟨22, []⟩) (hg : c.gs = []) : LoopOk c (lo125_2 k) (lpAt (bodyOf Tryz.f125) [0]) :=
  loop_at hP hm hg (okF125 k) (LInv.of (code := (lpAt (bodyOf Tryz.f125) [0])) (bs := []) (by kernel_rfl) LInv.nil) (fun rec v => st125_2 k rec v) k
theorem ev125 (k : Nat) (x) : evF Tryz.prog (F125 k) (inlN Tryz.prog (F125 k) 4) [(2, lo125_2 k)] Tryz.f125 (bodyOf Tryz.f125) (c125 k).ps (c125 k).rs (c125 k).rm x = (c125 k).m x := by kernel_rfl
theorem ok125 (k : Nat) : ConOk Tryz.prog (c125 k) :=
  fn_at (okF125 k) (cn := c125 k) (fn := Tryz.f125) (code := bodyOf Tryz.f125) (m := ⟨22, []⟩) (gs := []) (by kernel_rfl) (by kernel_rfl) (by kernel_rfl) (by kernel_rfl) (by kernel_rfl) (fun _ => by kernel_rfl)
    [(2, lo125_2 k)] (fun c hP hm hg => (LInv.of (code := (bodyOf Tryz.f125)) (bs := [(lpAt (bodyOf Tryz.f125) [0])]) (by kernel_rfl) (LInv.cons (b := (lpAt (bodyOf Tryz.f125) [0])) (by kernel_rfl) (lp125_2 k hP hm hg) LInv.nil))) (ev125 k)
def c121 (k : Nat) : Con := ⟨121, [(T_Ether, false), ((.int .i64), false)], [(.int .i64)], (.own true), fun x => laws_heldEther k x.1 x.2.1⟩
def F121 (k : Nat) : List Con := [c125 k]
theorem okF121 (k : Nat) : ∀ cn ∈ F121 k, ConOk Tryz.prog cn := (conCons (ok125 k) conNil)
theorem ev121 (k : Nat) (x) : evF Tryz.prog (F121 k) (inlN Tryz.prog (F121 k) 4) [] Tryz.f121 (bodyOf Tryz.f121) (c121 k).ps (c121 k).rs (c121 k).rm x = (c121 k).m x := by kernel_rfl
theorem ok121 (k : Nat) : ConOk Tryz.prog (c121 k) :=
  fn_at (okF121 k) (cn := c121 k) (fn := Tryz.f121) (code := bodyOf Tryz.f121) (m := ⟨12, []⟩) (gs := []) (by kernel_rfl) (by kernel_rfl) (by kernel_rfl) (by kernel_rfl) (by kernel_rfl) (fun _ => by kernel_rfl)
    [] (fun c hP hm hg => (LInv.of (code := (bodyOf Tryz.f121)) (bs := []) (by kernel_rfl) LInv.nil)) (ev121 k)
def c122 (k : Nat) : Con := ⟨122, [(T_Four, false), ((.int .i64), false)], [(.int .i64)], (.own true), fun x => laws_heldFour k x.1 x.2.1⟩
def F122 (k : Nat) : List Con := [c125 k]
theorem okF122 (k : Nat) : ∀ cn ∈ F122 k, ConOk Tryz.prog cn := (conCons (ok125 k) conNil)
theorem ev122 (k : Nat) (x) : evF Tryz.prog (F122 k) (inlN Tryz.prog (F122 k) 4) [] Tryz.f122 (bodyOf Tryz.f122) (c122 k).ps (c122 k).rs (c122 k).rm x = (c122 k).m x := by kernel_rfl
theorem ok122 (k : Nat) : ConOk Tryz.prog (c122 k) :=
  fn_at (okF122 k) (cn := c122 k) (fn := Tryz.f122) (code := bodyOf Tryz.f122) (m := ⟨18, []⟩) (gs := []) (by kernel_rfl) (by kernel_rfl) (by kernel_rfl) (by kernel_rfl) (by kernel_rfl) (fun _ => by kernel_rfl)
    [] (fun c hP hm hg => (LInv.of (code := (bodyOf Tryz.f122)) (bs := []) (by kernel_rfl) LInv.nil)) (ev122 k)
def c232 (k : Nat) : Con := ⟨232, [((.sl T_Ext), false), ((.int .i64), false)], [(.int .i64)], (.own true), fun x => laws_heldExtS k x.1 x.2.1⟩
def F232 (k : Nat) : List Con := [c125 k]
theorem okF232 (k : Nat) : ∀ cn ∈ F232 k, ConOk Tryz.prog cn := (conCons (ok125 k) conNil)
abbrev S232_2 : Shape := [(0, .v (.sl T_Ext)), (1, .v (.int .i64)), (5, .v (.int .i64))]
abbrev X232_2 : Exit × Shape := (Exit.ret, [(4, .v (.int .i64))])
abbrev R232_2 : List (Exit × Shape) := [(Exit.exit 0, [(1, .v (.int .i64))])]
def lo232_2 (k : Nat) : LO := loopO [] [] [] S232_2 X232_2 R232_2 (iter (laws_heldExtS_s2 k) k)
theorem st232_2 (k : Nat) (rec v) : evC Tryz.prog ⟨31, []⟩ (F232 k) (inlN Tryz.prog (F232 k) 4) [] (lpAt (bodyOf Tryz.f232) [0]) (Kb [] [] [] S232_2 X232_2 R232_2 rec) (mkSt [] [] S232_2 v.1 v.2) = (laws_heldExtS_s2 k) rec v := by kernel_rfl
theorem lp232_2 (k : Nat) {c : Cx} (hP : c.P = Tryz.prog) (hm : c.m = ⟨31, []⟩) (hg : c.gs = []) : LoopOk c (lo232_2 k) (lpAt (bodyOf Tryz.f232) [0]) :=
  loop_at hP hm hg (okF232 k) (LInv.of (code := (lpAt (bodyOf Tryz.f232) [0])) (bs := []) (by kernel_rfl) LInv.nil) (fun rec v => st232_2 k rec v) k
theorem ev232 (k : Nat) (x) : evF Tryz.prog (F232 k) (inlN Tryz.prog (F232 k) 4) [(2, lo232_2 k)] Tryz.f232 (bodyOf Tryz.f232) (c232 k).ps (c232 k).rs (c232 k).rm x = (c232 k).m x := by kernel_rfl
theorem ok232 (k : Nat) : ConOk Tryz.prog (c232 k) :=
  fn_at (okF232 k) (cn := c232 k) (fn := Tryz.f232) (code := bodyOf Tryz.f232) (m := ⟨31, []⟩) (gs := []) (by kernel_rfl) (by kernel_rfl) (by kernel_rfl) (by kernel_rfl) (by kernel_rfl) (fun _ => by kernel_rfl)
    [(2, lo232_2 k)] (fun c hP hm hg => (LInv.of (code := (bodyOf Tryz.f232)) (bs := [(lpAt (bodyOf Tryz.f232) [0])]) (by kernel_rfl) (LInv.cons (b := (lpAt (bodyOf Tryz.f232) [0])) (by kernel_rfl) (lp232_2 k hP hm hg) LInv.nil))) (ev232 k)
def c123 (k : Nat) : Con := ⟨123, [(T_Six, false), ((.int .i64), false)], [(.int .i64)], (.own true), fun x => laws_heldSix k x.1 x.2.1⟩
def F123 (k : Nat) : List Con := [c232 k, c125 k]
theorem okF123 (k : Nat) : ∀ cn ∈ F123 k, ConOk Tryz.prog cn := (conCons (ok232 k) (conCons (ok125 k) conNil))
theorem ev123 (k : Nat) (x) : evF Tryz.prog (F123 k) (inlN Tryz.prog (F123 k) 4) [] Tryz.f123 (bodyOf Tryz.f123) (c123 k).ps (c123 k).rs (c123 k).rm x = (c123 k).m x := by kernel_rfl
theorem ok123 (k : Nat) : ConOk Tryz.prog (c123 k) :=
  fn_at (okF123 k) (cn := c123 k) (fn := Tryz.f123) (code := bodyOf Tryz.f123) (m := ⟨18, []⟩) (gs := []) (by kernel_rfl) (by kernel_rfl) (by kernel_rfl) (by kernel_rfl) (by kernel_rfl) (fun _ => by kernel_rfl)
    [] (fun c hP hm hg => (LInv.of (code := (bodyOf Tryz.f123)) (bs := []) (by kernel_rfl) LInv.nil)) (ev123 k)
def c124 (k : Nat) : Con := ⟨124, [(T_Upper, false), ((.int .i64), false)], [(.int .i64)], (.own true), fun x => laws_heldUpper k x.1 x.2.1⟩
def F124 (k : Nat) : List Con := [c125 k]
theorem okF124 (k : Nat) : ∀ cn ∈ F124 k, ConOk Tryz.prog cn := (conCons (ok125 k) conNil)
theorem ev124 (k : Nat) (x) : evF Tryz.prog (F124 k) (inlN Tryz.prog (F124 k) 4) [] Tryz.f124 (bodyOf Tryz.f124) (c124 k).ps (c124 k).rs (c124 k).rm x = (c124 k).m x := by kernel_rfl
theorem ok124 (k : Nat) : ConOk Tryz.prog (c124 k) :=
  fn_at (okF124 k) (cn := c124 k) (fn := Tryz.f124) (code := bodyOf Tryz.f124) (m := ⟨18, []⟩) (gs := []) (by kernel_rfl) (by kernel_rfl) (by kernel_rfl) (by kernel_rfl) (by kernel_rfl) (fun _ => by kernel_rfl)
    [] (fun c hP hm hg => (LInv.of (code := (bodyOf Tryz.f124)) (bs := []) (by kernel_rfl) LInv.nil)) (ev124 k)
def c45 (k : Nat) : Con := ⟨45, [(T_Packet, false), ((.int .i64), false)], [(.int .i64)], (.own true), fun x => laws_heldPacket k x.1 x.2.1⟩
def F45 (k : Nat) : List Con := [c121 k, c122 k, c123 k, c124 k, c125 k]
theorem okF45 (k : Nat) : ∀ cn ∈ F45 k, ConOk Tryz.prog cn := (conCons (ok121 k) (conCons (ok122 k) (conCons (ok123 k) (conCons (ok124 k) (conCons (ok125 k) conNil)))))
theorem ev45 (k : Nat) (x) : evF Tryz.prog (F45 k) (inlN Tryz.prog (F45 k) 4) [] Tryz.f45 (bodyOf Tryz.f45) (c45 k).ps (c45 k).rs (c45 k).rm x = (c45 k).m x := by kernel_rfl
theorem ok45 (k : Nat) : ConOk Tryz.prog (c45 k) :=
  fn_at (okF45 k) (cn := c45 k) (fn := Tryz.f45) (code := bodyOf Tryz.f45) (m := ⟨36, []⟩) (gs := []) (by kernel_rfl) (by kernel_rfl) (by kernel_rfl) (by kernel_rfl) (by kernel_rfl) (fun _ => by kernel_rfl)
    [] (fun c hP hm hg => (LInv.of (code := (bodyOf Tryz.f45)) (bs := []) (by kernel_rfl) LInv.nil)) (ev45 k)
def c6 (k : Nat) : Con := ⟨6, [((.sl (.int .u8)), false)], [.bool], (.own true), fun x => laws_FnExactPacketRead k x.1⟩
def F6 (k : Nat) : List Con := [c39 k, c38 k, c40 k, c41 k, c42 k, c43 k, c231 k, c45 k]
theorem okF6 (k : Nat) : ∀ cn ∈ F6 k, ConOk Tryz.prog cn := (conCons (ok39 k) (conCons (ok38 k) (conCons (ok40 k) (conCons (ok41 k) (conCons (ok42 k) (conCons (ok43 k) (conCons (ok231 k) (conCons (ok45 k) conNil))))))))
theorem ev6 (k : Nat) (x) : evF Tryz.prog (F6 k) (inlN Tryz.prog (F6 k) 4) [] Tryz.f6 (bodyOf Tryz.f6) (c6 k).ps (c6 k).rs (c6 k).rm x = (c6 k).m x := by kernel_rfl
theorem ok6 (k : Nat) : ConOk Tryz.prog (c6 k) :=
  fn_at (okF6 k) (cn := c6 k) (fn := Tryz.f6) (code := bodyOf Tryz.f6) (m := ⟨93, []⟩) (gs := []) (by kernel_rfl) (by kernel_rfl) (by kernel_rfl) (by kernel_rfl) (by kernel_rfl) (fun _ => by kernel_rfl)
    [] (fun c hP hm hg => (LInv.of (code := (bodyOf Tryz.f6)) (bs := []) (by kernel_rfl) LInv.nil)) (ev6 k)
end Go.Tw
