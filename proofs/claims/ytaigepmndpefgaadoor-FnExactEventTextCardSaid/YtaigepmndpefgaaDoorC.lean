/- Each function is proved to answer as its mirror does. -/
import Derived.Test.YtaigepmndpefgaaDoorM
import Derived.Test.YtaigepmndpefgaaDoorRows
set_option linter.all false
namespace Go.Tw
open Go Go.RowKit Go.Proofs
def c27 (k : Nat) : Con := ⟨27, [((.sl (.int .u8)), false), ((.int .i64), false)], [(.int .i64)], (.own true), fun x => laws_szByteS x.1 x.2.1⟩
def F27 (k : Nat) : List Con := []
theorem okF27 (k : Nat) : ∀ cn ∈ F27 k, ConOk Tryd.prog cn := conNil
theorem ev27 (k : Nat) (x) : evF Tryd.prog (F27 k) (inlN Tryd.prog (F27 k) 4) [] Tryd.f27 (bodyOf Tryd.f27) (c27 k).ps (c27 k).rs (c27 k).rm x = (c27 k).m x := by kernel_rfl
theorem ok27 (k : Nat) : ConOk Tryd.prog (c27 k) :=
  fn_at (okF27 k) (cn := c27 k) (fn := Tryd.f27) (code := bodyOf Tryd.f27) (m := ⟨12, []⟩) (gs := []) (by kernel_rfl) (by kernel_rfl) (by kernel_rfl) (by kernel_rfl) (by kernel_rfl) (fun _ => by kernel_rfl)
    [] (fun c hP hm hg => (LInv.of (code := (bodyOf Tryd.f27)) (bs := []) (by kernel_rfl) LInv.nil)) (ev27 k)
def c28 (k : Nat) : Con := ⟨28, [((.sl (.int .i64)), false), ((.int .i64), false)], [(.int .i64)], (.own true), fun x => laws_szIntS x.1 x.2.1⟩
def F28 (k : Nat) : List Con := []
theorem okF28 (k : Nat) : ∀ cn ∈ F28 k, ConOk Tryd.prog cn := conNil
theorem ev28 (k : Nat) (x) : evF Tryd.prog (F28 k) (inlN Tryd.prog (F28 k) 4) [] Tryd.f28 (bodyOf Tryd.f28) (c28 k).ps (c28 k).rs (c28 k).rm x = (c28 k).m x := by kernel_rfl
theorem ok28 (k : Nat) : ConOk Tryd.prog (c28 k) :=
  fn_at (okF28 k) (cn := c28 k) (fn := Tryd.f28) (code := bodyOf Tryd.f28) (m := ⟨12, []⟩) (gs := []) (by kernel_rfl) (by kernel_rfl) (by kernel_rfl) (by kernel_rfl) (by kernel_rfl) (fun _ => by kernel_rfl)
    [] (fun c hP hm hg => (LInv.of (code := (bodyOf Tryd.f28)) (bs := []) (by kernel_rfl) LInv.nil)) (ev28 k)
def c7 (k : Nat) : Con := ⟨7, [(T_Out, false), ((.int .i64), false)], [(.int .i64)], (.own true), fun x => laws_szOut x.1 x.2.1⟩
def F7 (k : Nat) : List Con := [c27 k, c28 k]
theorem okF7 (k : Nat) : ∀ cn ∈ F7 k, ConOk Tryd.prog cn := (conCons (ok27 k) (conCons (ok28 k) conNil))
theorem ev7 (k : Nat) (x) : evF Tryd.prog (F7 k) (inlN Tryd.prog (F7 k) 4) [] Tryd.f7 (bodyOf Tryd.f7) (c7 k).ps (c7 k).rs (c7 k).rm x = (c7 k).m x := by kernel_rfl
theorem ok7 (k : Nat) : ConOk Tryd.prog (c7 k) :=
  fn_at (okF7 k) (cn := c7 k) (fn := Tryd.f7) (code := bodyOf Tryd.f7) (m := ⟨18, []⟩) (gs := []) (by kernel_rfl) (by kernel_rfl) (by kernel_rfl) (by kernel_rfl) (by kernel_rfl) (fun _ => by kernel_rfl)
    [] (fun c hP hm hg => (LInv.of (code := (bodyOf Tryd.f7)) (bs := []) (by kernel_rfl) LInv.nil)) (ev7 k)
def c31 (k : Nat) : Con := ⟨31, [((.sl (.int .u8)), false)], [(.sl (.int .u8))], (.own true), fun x => laws_toByteS k x.1⟩
def F31 (k : Nat) : List Con := []
theorem okF31 (k : Nat) : ∀ cn ∈ F31 k, ConOk Tryd.prog cn := conNil
abbrev S31_3 : Shape := [(0, .v (.sl (.int .u8))), (3, .own true (.sl (.int .u8))), (4, .v (.int .i64))]
abbrev X31_3 : Exit × Shape := (Exit.exit 0, [(3, .own true (.sl (.int .u8)))])
abbrev R31_3 : List (Exit × Shape) := []
def lo31_3 (k : Nat) : LO := loopO [] [] [] S31_3 X31_3 R31_3 (iter (laws_toByteS_s3) k)
theorem st31_3 (k : Nat) (rec v) : evC Tryd.prog ⟨22, []⟩ (F31 k) (inlN Tryd.prog (F31 k) 4) [] (lpAt (bodyOf Tryd.f31) [0]) (Kb [] [] [] S31_3 X31_3 R31_3 rec) (mkSt [] [] S31_3 v.1 v.2) = (laws_toByteS_s3) rec v := by kernel_rfl
theorem lp31_3 (k : Nat) {c : Cx} (hP : c.P = Tryd.prog) (hm : c.m = ⟨22, []⟩) (hg : c.gs = []) : LoopOk c (lo31_3 k) (lpAt (bodyOf Tryd.f31) [0]) :=
  loop_at hP hm hg (okF31 k) (LInv.of (code := (lpAt (bodyOf Tryd.f31) [0])) (bs := []) (by kernel_rfl) LInv.nil) (fun rec v => st31_3 k rec v) k
theorem ev31 (k : Nat) (x) : evF Tryd.prog (F31 k) (inlN Tryd.prog (F31 k) 4) [(3, lo31_3 k)] Tryd.f31 (bodyOf Tryd.f31) (c31 k).ps (c31 k).rs (c31 k).rm x = (c31 k).m x := by kernel_rfl
theorem ok31 (k : Nat) : ConOk Tryd.prog (c31 k) :=
  fn_at (okF31 k) (cn := c31 k) (fn := Tryd.f31) (code := bodyOf Tryd.f31) (m := ⟨22, []⟩) (gs := []) (by kernel_rfl) (by kernel_rfl) (by kernel_rfl) (by kernel_rfl) (by kernel_rfl) (fun _ => by kernel_rfl)
    [(3, lo31_3 k)] (fun c hP hm hg => (LInv.of (code := (bodyOf Tryd.f31)) (bs := [(lpAt (bodyOf Tryd.f31) [0])]) (by kernel_rfl) (LInv.cons (b := (lpAt (bodyOf Tryd.f31) [0])) (by kernel_rfl) (lp31_3 k hP hm hg) LInv.nil))) (ev31 k)
def c32 (k : Nat) : Con := ⟨32, [((.sl (.int .i64)), false)], [(.sl (.int .i64))], (.own true), fun x => laws_toIntS k x.1⟩
def F32 (k : Nat) : List Con := []
theorem okF32 (k : Nat) : ∀ cn ∈ F32 k, ConOk Tryd.prog cn := conNil
abbrev S32_3 : Shape := [(0, .v (.sl (.int .i64))), (3, .own true (.sl (.int .i64))), (4, .v (.int .i64))]
abbrev X32_3 : Exit × Shape := (Exit.exit 0, [(3, .own true (.sl (.int .i64)))])
abbrev R32_3 : List (Exit × Shape) := []
def lo32_3 (k : Nat) : LO := loopO [] [] [] S32_3 X32_3 R32_3 (iter (laws_toIntS_s3) k)
theorem st32_3 (k : Nat) (rec v) : evC Tryd.prog ⟨22, []⟩ (F32 k) (inlN Tryd.prog (F32 k) 4) [] (lpAt (bodyOf Tryd.f32) [0]) (Kb [] [] [] S32_3 X32_3 R32_3 rec) (mkSt [] [] S32_3 v.1 v.2) = (laws_toIntS_s3) rec v := by kernel_rfl
theorem lp32_3 (k : Nat) {c : Cx} (hP : c.P = Tryd.prog) (hm : c.m = ⟨22, []⟩) (hg : c.gs = []) : LoopOk c (lo32_3 k) (lpAt (bodyOf Tryd.f32) [0]) :=
  loop_at hP hm hg (okF32 k) (LInv.of (code := (lpAt (bodyOf Tryd.f32) [0])) (bs := []) (by kernel_rfl) LInv.nil) (fun rec v => st32_3 k rec v) k
theorem ev32 (k : Nat) (x) : evF Tryd.prog (F32 k) (inlN Tryd.prog (F32 k) 4) [(3, lo32_3 k)] Tryd.f32 (bodyOf Tryd.f32) (c32 k).ps (c32 k).rs (c32 k).rm x = (c32 k).m x := by kernel_rfl
theorem ok32 (k : Nat) : ConOk Tryd.prog (c32 k) :=
  fn_at (okF32 k) (cn := c32 k) (fn := Tryd.f32) (code := bodyOf Tryd.f32) (m := ⟨22, []⟩) (gs := []) (by kernel_rfl) (by kernel_rfl) (by kernel_rfl) (by kernel_rfl) (by kernel_rfl) (fun _ => by kernel_rfl)
    [(3, lo32_3 k)] (fun c hP hm hg => (LInv.of (code := (bodyOf Tryd.f32)) (bs := [(lpAt (bodyOf Tryd.f32) [0])]) (by kernel_rfl) (LInv.cons (b := (lpAt (bodyOf Tryd.f32) [0])) (by kernel_rfl) (lp32_3 k hP hm hg) LInv.nil))) (ev32 k)
def c9 (k : Nat) : Con := ⟨9, [(T_Out, false)], [T_Out], (.own true), fun x => laws_toOut k x.1⟩
def F9 (k : Nat) : List Con := [c31 k, c32 k]
theorem okF9 (k : Nat) : ∀ cn ∈ F9 k, ConOk Tryd.prog cn := (conCons (ok31 k) (conCons (ok32 k) conNil))
theorem ev9 (k : Nat) (x) : evF Tryd.prog (F9 k) (inlN Tryd.prog (F9 k) 4) [] Tryd.f9 (bodyOf Tryd.f9) (c9 k).ps (c9 k).rs (c9 k).rm x = (c9 k).m x := by kernel_rfl
theorem ok9 (k : Nat) : ConOk Tryd.prog (c9 k) :=
  fn_at (okF9 k) (cn := c9 k) (fn := Tryd.f9) (code := bodyOf Tryd.f9) (m := ⟨22, []⟩) (gs := []) (by kernel_rfl) (by kernel_rfl) (by kernel_rfl) (by kernel_rfl) (by kernel_rfl) (fun _ => by kernel_rfl)
    [] (fun c hP hm hg => (LInv.of (code := (bodyOf Tryd.f9)) (bs := []) (by kernel_rfl) LInv.nil)) (ev9 k)
def c29 (k : Nat) : Con := ⟨29, [((.int .i64), false)], [.str], (.own true), fun x => spec_NumText k x.1⟩
def F29 (k : Nat) : List Con := []
theorem okF29 (k : Nat) : ∀ cn ∈ F29 k, ConOk Tryd.prog cn := conNil
abbrev S29_5 : Shape := [(0, .v (.int .i64)), (3, .own true (.sl (.int .u8))), (4, .v (.int .i64))]
abbrev X29_5 : Exit × Shape := (Exit.exit 0, [(0, .v (.int .i64)), (3, .own true (.sl (.int .u8)))])
abbrev R29_5 : List (Exit × Shape) := []
def lo29_5 (k : Nat) : LO := loopO [] [] [] S29_5 X29_5 R29_5 (iter (spec_NumText_s5) k)
theorem st29_5 (k : Nat) (rec v) : evC Tryd.prog ⟨33, []⟩ (F29 k) (inlN Tryd.prog (F29 k) 4) [] (lpAt (bodyOf Tryd.f29) [0]) (Kb [] [] [] S29_5 X29_5 R29_5 rec) (mkSt [] [] S29_5 v.1 v.2) = (spec_NumText_s5) rec v := by kernel_rfl
theorem lp29_5 (k : Nat) {c : Cx} (hP : c.P = Tryd.prog) (hm : c.m = ⟨33, []⟩) (hg : c.gs = []) : LoopOk c (lo29_5 k) (lpAt (bodyOf Tryd.f29) [0]) :=
  loop_at hP hm hg (okF29 k) (LInv.of (code := (lpAt (bodyOf Tryd.f29) [0])) (bs := []) (by kernel_rfl) LInv.nil) (fun rec v => st29_5 k rec v) k
theorem ev29 (k : Nat) (x) : evF Tryd.prog (F29 k) (inlN Tryd.prog (F29 k) 4) [(5, lo29_5 k)] Tryd.f29 (bodyOf Tryd.f29) (c29 k).ps (c29 k).rs (c29 k).rm x = (c29 k).m x := by kernel_rfl
theorem ok29 (k : Nat) : ConOk Tryd.prog (c29 k) :=
  fn_at (okF29 k) (cn := c29 k) (fn := Tryd.f29) (code := bodyOf Tryd.f29) (m := ⟨33, []⟩) (gs := []) (by kernel_rfl) (by kernel_rfl) (by kernel_rfl) (by kernel_rfl) (by kernel_rfl) (fun _ => by kernel_rfl)
    [(5, lo29_5 k)] (fun c hP hm hg => (LInv.of (code := (bodyOf Tryd.f29)) (bs := [(lpAt (bodyOf Tryd.f29) [0])]) (by kernel_rfl) (LInv.cons (b := (lpAt (bodyOf Tryd.f29) [0])) (by kernel_rfl) (lp29_5 k hP hm hg) LInv.nil))) (ev29 k)
def c55 (k : Nat) : Con := ⟨55, [((.int .i64), false)], [(.int .u8)], (.own true), fun x => spec_l01Digit x.1⟩
def F55 (k : Nat) : List Con := []
theorem okF55 (k : Nat) : ∀ cn ∈ F55 k, ConOk Tryd.prog cn := conNil
theorem ev55 (k : Nat) (x) : evF Tryd.prog (F55 k) (inlN Tryd.prog (F55 k) 4) [] Tryd.f55 (bodyOf Tryd.f55) (c55 k).ps (c55 k).rs (c55 k).rm x = (c55 k).m x := by kernel_rfl
theorem ok55 (k : Nat) : ConOk Tryd.prog (c55 k) :=
  fn_at (okF55 k) (cn := c55 k) (fn := Tryd.f55) (code := bodyOf Tryd.f55) (m := ⟨11, []⟩) (gs := []) (by kernel_rfl) (by kernel_rfl) (by kernel_rfl) (by kernel_rfl) (by kernel_rfl) (fun _ => by kernel_rfl)
    [] (fun c hP hm hg => (LInv.of (code := (bodyOf Tryd.f55)) (bs := []) (by kernel_rfl) LInv.nil)) (ev55 k)
def c30 (k : Nat) : Con := ⟨30, [((.sl (.int .u8)), false)], [.str], (.own true), fun x => spec_HexText k x.1⟩
def F30 (k : Nat) : List Con := [c55 k]
theorem okF30 (k : Nat) : ∀ cn ∈ F30 k, ConOk Tryd.prog cn := (conCons (ok55 k) conNil)
abbrev S30_5 : Shape := [(0, .v (.sl (.int .u8))), (3, .own true (.sl (.int .u8))), (4, .v (.int .i64))]
abbrev X30_5 : Exit × Shape := (Exit.exit 0, [(3, .own true (.sl (.int .u8)))])
abbrev R30_5 : List (Exit × Shape) := []
def lo30_5 (k : Nat) : LO := loopO [] [] [] S30_5 X30_5 R30_5 (iter (spec_HexText_s5) k)
theorem st30_5 (k : Nat) (rec v) : evC Tryd.prog ⟨34, []⟩ (F30 k) (inlN Tryd.prog (F30 k) 4) [] (lpAt (bodyOf Tryd.f30) [0]) (Kb [] [] [] S30_5 X30_5 R30_5 rec) (mkSt [] [] S30_5 v.1 v.2) = (spec_HexText_s5) rec v := by kernel_rfl
theorem lp30_5 (k : Nat) {c : Cx} (hP : c.P = Tryd.prog) (hm : c.m = ⟨34, []⟩) (hg : c.gs = []) : LoopOk c (lo30_5 k) (lpAt (bodyOf Tryd.f30) [0]) :=
  loop_at hP hm hg (okF30 k) (LInv.of (code := (lpAt (bodyOf Tryd.f30) [0])) (bs := []) (by kernel_rfl) LInv.nil) (fun rec v => st30_5 k rec v) k
theorem ev30 (k : Nat) (x) : evF Tryd.prog (F30 k) (inlN Tryd.prog (F30 k) 4) [(5, lo30_5 k)] Tryd.f30 (bodyOf Tryd.f30) (c30 k).ps (c30 k).rs (c30 k).rm x = (c30 k).m x := by kernel_rfl
theorem ok30 (k : Nat) : ConOk Tryd.prog (c30 k) :=
  fn_at (okF30 k) (cn := c30 k) (fn := Tryd.f30) (code := bodyOf Tryd.f30) (m := ⟨34, []⟩) (gs := []) (by kernel_rfl) (by kernel_rfl) (by kernel_rfl) (by kernel_rfl) (by kernel_rfl) (fun _ => by kernel_rfl)
    [(5, lo30_5 k)] (fun c hP hm hg => (LInv.of (code := (bodyOf Tryd.f30)) (bs := [(lpAt (bodyOf Tryd.f30) [0])]) (by kernel_rfl) (LInv.cons (b := (lpAt (bodyOf Tryd.f30) [0])) (by kernel_rfl) (lp30_5 k hP hm hg) LInv.nil))) (ev30 k)
def c8 (k : Nat) : Con := ⟨8, [(T_Out, false)], [.str], (.own true), fun x => spec_OutText k x.1⟩
def F8 (k : Nat) : List Con := [c29 k, c30 k]
theorem okF8 (k : Nat) : ∀ cn ∈ F8 k, ConOk Tryd.prog cn := (conCons (ok29 k) (conCons (ok30 k) conNil))
abbrev S8_13 : Shape := [(1, .boxv T_Out), (3, .v .str), (4, .v (.int .i64))]
abbrev X8_13 : Exit × Shape := (Exit.exit 1, [(3, .v .str)])
abbrev R8_13 : List (Exit × Shape) := []
def lo8_13 (k : Nat) : LO := loopO [] [] [] S8_13 X8_13 R8_13 (iter (spec_OutText_s13 k) k)
theorem st8_13 (k : Nat) (rec v) : evC Tryd.prog ⟨64, []⟩ (F8 k) (inlN Tryd.prog (F8 k) 4) [] (lpAt (bodyOf Tryd.f8) [0]) (Kb [] [] [] S8_13 X8_13 R8_13 rec) (mkSt [] [] S8_13 v.1 v.2) = (spec_OutText_s13 k) rec v := by kernel_rfl
theorem lp8_13 (k : Nat) {c : Cx} (hP : c.P = Tryd.prog) (hm : c.m = ⟨64, []⟩) (hg : c.gs = []) : LoopOk c (lo8_13 k) (lpAt (bodyOf Tryd.f8) [0]) :=
  loop_at hP hm hg (okF8 k) (LInv.of (code := (lpAt (bodyOf Tryd.f8) [0])) (bs := []) (by kernel_rfl) LInv.nil) (fun rec v => st8_13 k rec v) k
theorem ev8 (k : Nat) (x) : evF Tryd.prog (F8 k) (inlN Tryd.prog (F8 k) 4) [(13, lo8_13 k)] Tryd.f8 (bodyOf Tryd.f8) (c8 k).ps (c8 k).rs (c8 k).rm x = (c8 k).m x := by kernel_rfl
theorem ok8 (k : Nat) : ConOk Tryd.prog (c8 k) :=
  fn_at (okF8 k) (cn := c8 k) (fn := Tryd.f8) (code := bodyOf Tryd.f8) (m := ⟨64, []⟩) (gs := []) (by kernel_rfl) (by kernel_rfl) (by kernel_rfl) (by kernel_rfl) (by kernel_rfl) (fun _ => by kernel_rfl)
    [(13, lo8_13 k)] (fun c hP hm hg => (LInv.of (code := (bodyOf Tryd.f8)) (bs := [(lpAt (bodyOf Tryd.f8) [0])]) (by kernel_rfl) (LInv.cons (b := (lpAt (bodyOf Tryd.f8) [0])) (by kernel_rfl) (lp8_13 k hP hm hg) LInv.nil))) (ev8 k)
def c56 (k : Nat) : Con := ⟨56, [((.int .i64), false)], [.str], (.own true), fun x => itoaC x.1⟩
theorem ok56 (k : Nat) : ConOk Tryd.prog (c56 k) := itoa_ok
def c33 (k : Nat) : Con := ⟨33, [((.int .i64), false)], [.str], (.own true), fun x => impl_NumText x.1⟩
def F33 (k : Nat) : List Con := [c56 k]
theorem okF33 (k : Nat) : ∀ cn ∈ F33 k, ConOk Tryd.prog cn := (conCons (ok56 k) conNil)
theorem ev33 (k : Nat) (x) : evF Tryd.prog (F33 k) (inlN Tryd.prog (F33 k) 4) [] Tryd.f33 (bodyOf Tryd.f33) (c33 k).ps (c33 k).rs (c33 k).rm x = (c33 k).m x := by kernel_rfl
theorem ok33 (k : Nat) : ConOk Tryd.prog (c33 k) :=
  fn_at (okF33 k) (cn := c33 k) (fn := Tryd.f33) (code := bodyOf Tryd.f33) (m := ⟨5, []⟩) (gs := []) (by kernel_rfl) (by kernel_rfl) (by kernel_rfl) (by kernel_rfl) (by kernel_rfl) (fun _ => by kernel_rfl)
    [] (fun c hP hm hg => (LInv.of (code := (bodyOf Tryd.f33)) (bs := []) (by kernel_rfl) LInv.nil)) (ev33 k)
def c34 (k : Nat) : Con := ⟨34, [((.sl (.int .u8)), false)], [.str], (.own true), fun x => impl_HexText k x.1⟩
def F34 (k : Nat) : List Con := []
theorem okF34 (k : Nat) : ∀ cn ∈ F34 k, ConOk Tryd.prog cn := conNil
abbrev S34_5 : Shape := [(3, .own true (.sl (.int .u8))), (10, .v (.sl (.int .u8))), (11, .v (.int .i64)), (12, .v (.int .i64))]
abbrev X34_5 : Exit × Shape := (Exit.exit 0, [(3, .own true (.sl (.int .u8)))])
abbrev R34_5 : List (Exit × Shape) := []
def lo34_5 (k : Nat) : LO := loopO [] [] [] S34_5 X34_5 R34_5 (iter (impl_HexText_s5) k)
theorem st34_5 (k : Nat) (rec v) : evC Tryd.prog ⟨28, []⟩ (F34 k) (inlN Tryd.prog (F34 k) 4) [] (lpAt (bodyOf Tryd.f34) [0]) (Kb [] [] [] S34_5 X34_5 R34_5 rec) (mkSt [] [] S34_5 v.1 v.2) = (impl_HexText_s5) rec v := by kernel_rfl
theorem lp34_5 (k : Nat) {c : Cx} (hP : c.P = Tryd.prog) (hm : c.m = ⟨28, []⟩) (hg : c.gs = []) : LoopOk c (lo34_5 k) (lpAt (bodyOf Tryd.f34) [0]) :=
  loop_at hP hm hg (okF34 k) (LInv.of (code := (lpAt (bodyOf Tryd.f34) [0])) (bs := []) (by kernel_rfl) LInv.nil) (fun rec v => st34_5 k rec v) k
theorem ev34 (k : Nat) (x) : evF Tryd.prog (F34 k) (inlN Tryd.prog (F34 k) 4) [(5, lo34_5 k)] Tryd.f34 (bodyOf Tryd.f34) (c34 k).ps (c34 k).rs (c34 k).rm x = (c34 k).m x := by kernel_rfl
theorem ok34 (k : Nat) : ConOk Tryd.prog (c34 k) :=
  fn_at (okF34 k) (cn := c34 k) (fn := Tryd.f34) (code := bodyOf Tryd.f34) (m := ⟨28, []⟩) (gs := []) (by kernel_rfl) (by kernel_rfl) (by kernel_rfl) (by kernel_rfl) (by kernel_rfl) (fun _ => by kernel_rfl)
    [(5, lo34_5 k)] (fun c hP hm hg => (LInv.of (code := (bodyOf Tryd.f34)) (bs := [(lpAt (bodyOf Tryd.f34) [0])]) (by kernel_rfl) (LInv.cons (b := (lpAt (bodyOf Tryd.f34) [0])) (by kernel_rfl) (lp34_5 k hP hm hg) LInv.nil))) (ev34 k)
def c10 (k : Nat) : Con := ⟨10, [(T_Out, false)], [.str], (.own true), fun x => impl_OutText k x.1⟩
def F10 (k : Nat) : List Con := [c33 k, c34 k]
theorem okF10 (k : Nat) : ∀ cn ∈ F10 k, ConOk Tryd.prog cn := (conCons (ok33 k) (conCons (ok34 k) conNil))
abbrev S10_13 : Shape := [(3, .v .str), (49, .v (.sl (.int .i64))), (50, .v (.int .i64)), (51, .v (.int .i64))]
abbrev X10_13 : Exit × Shape := (Exit.exit 1, [(3, .v .str)])
abbrev R10_13 : List (Exit × Shape) := []
def lo10_13 (k : Nat) : LO := loopO [] [] [] S10_13 X10_13 R10_13 (iter (impl_OutText_s13) k)
theorem st10_13 (k : Nat) (rec v) : evC Tryd.prog ⟨62, []⟩ (F10 k) (inlN Tryd.prog (F10 k) 4) [] (lpAt (bodyOf Tryd.f10) [0]) (Kb [] [] [] S10_13 X10_13 R10_13 rec) (mkSt [] [] S10_13 v.1 v.2) = (impl_OutText_s13) rec v := by kernel_rfl
theorem lp10_13 (k : Nat) {c : Cx} (hP : c.P = Tryd.prog) (hm : c.m = ⟨62, []⟩) (hg : c.gs = []) : LoopOk c (lo10_13 k) (lpAt (bodyOf Tryd.f10) [0]) :=
  loop_at hP hm hg (okF10 k) (LInv.of (code := (lpAt (bodyOf Tryd.f10) [0])) (bs := []) (by kernel_rfl) LInv.nil) (fun rec v => st10_13 k rec v) k
theorem ev10 (k : Nat) (x) : evF Tryd.prog (F10 k) (inlN Tryd.prog (F10 k) 4) [(13, lo10_13 k)] Tryd.f10 (bodyOf Tryd.f10) (c10 k).ps (c10 k).rs (c10 k).rm x = (c10 k).m x := by kernel_rfl
theorem ok10 (k : Nat) : ConOk Tryd.prog (c10 k) :=
  fn_at (okF10 k) (cn := c10 k) (fn := Tryd.f10) (code := bodyOf Tryd.f10) (m := ⟨62, []⟩) (gs := []) (by kernel_rfl) (by kernel_rfl) (by kernel_rfl) (by kernel_rfl) (by kernel_rfl) (fun _ => by kernel_rfl)
    [(13, lo10_13 k)] (fun c hP hm hg => (LInv.of (code := (bodyOf Tryd.f10)) (bs := [(lpAt (bodyOf Tryd.f10) [0])]) (by kernel_rfl) (LInv.cons (b := (lpAt (bodyOf Tryd.f10) [0])) (by kernel_rfl) (lp10_13 k hP hm hg) LInv.nil))) (ev10 k)
def c35 (k : Nat) : Con := ⟨35, [((.sl (.int .u8)), false), ((.sl (.int .u8)), false)], [.bool], (.own true), fun x => laws_eqByteS k x.1 x.2.1⟩
def F35 (k : Nat) : List Con := []
theorem okF35 (k : Nat) : ∀ cn ∈ F35 k, ConOk Tryd.prog cn := conNil
abbrev S35_4 : Shape := [(0, .v (.sl (.int .u8))), (1, .v (.sl (.int .u8))), (5, .v (.int .i64))]
abbrev X35_4 : Exit × Shape := (Exit.ret, [(4, .v .bool)])
abbrev R35_4 : List (Exit × Shape) := [(Exit.exit 0, [])]
def lo35_4 (k : Nat) : LO := loopO [] [] [] S35_4 X35_4 R35_4 (iter (laws_eqByteS_s4) k)
theorem st35_4 (k : Nat) (rec v) : evC Tryd.prog ⟨26, []⟩ (F35 k) (inlN Tryd.prog (F35 k) 4) [] (lpAt (bodyOf Tryd.f35) [0]) (Kb [] [] [] S35_4 X35_4 R35_4 rec) (mkSt [] [] S35_4 v.1 v.2) = (laws_eqByteS_s4) rec v := by kernel_rfl
theorem lp35_4 (k : Nat) {c : Cx} (hP : c.P = Tryd.prog) (hm : c.m = ⟨26, []⟩) (hg : c.gs = []) : LoopOk c (lo35_4 k) (lpAt (bodyOf Tryd.f35) [0]) :=
  loop_at hP hm hg (okF35 k) (LInv.of (code := (lpAt (bodyOf Tryd.f35) [0])) (bs := []) (by kernel_rfl) LInv.nil) (fun rec v => st35_4 k rec v) k
theorem ev35 (k : Nat) (x) : evF Tryd.prog (F35 k) (inlN Tryd.prog (F35 k) 4) [(4, lo35_4 k)] Tryd.f35 (bodyOf Tryd.f35) (c35 k).ps (c35 k).rs (c35 k).rm x = (c35 k).m x := by kernel_rfl
theorem ok35 (k : Nat) : ConOk Tryd.prog (c35 k) :=
  fn_at (okF35 k) (cn := c35 k) (fn := Tryd.f35) (code := bodyOf Tryd.f35) (m := ⟨26, []⟩) (gs := []) (by kernel_rfl) (by kernel_rfl) (by kernel_rfl) (by kernel_rfl) (by kernel_rfl) (fun _ => by kernel_rfl)
    [(4, lo35_4 k)] (fun c hP hm hg => (LInv.of (code := (bodyOf Tryd.f35)) (bs := [(lpAt (bodyOf Tryd.f35) [0])]) (by kernel_rfl) (LInv.cons (b := (lpAt (bodyOf Tryd.f35) [0])) (by kernel_rfl) (lp35_4 k hP hm hg) LInv.nil))) (ev35 k)
def c36 (k : Nat) : Con := ⟨36, [((.sl (.int .i64)), false), ((.sl (.int .i64)), false)], [.bool], (.own true), fun x => laws_eqIntS k x.1 x.2.1⟩
def F36 (k : Nat) : List Con := []
theorem okF36 (k : Nat) : ∀ cn ∈ F36 k, ConOk Tryd.prog cn := conNil
abbrev S36_4 : Shape := [(0, .v (.sl (.int .i64))), (1, .v (.sl (.int .i64))), (5, .v (.int .i64))]
abbrev X36_4 : Exit × Shape := (Exit.ret, [(4, .v .bool)])
abbrev R36_4 : List (Exit × Shape) := [(Exit.exit 0, [])]
def lo36_4 (k : Nat) : LO := loopO [] [] [] S36_4 X36_4 R36_4 (iter (laws_eqIntS_s4) k)
theorem st36_4 (k : Nat) (rec v) : evC Tryd.prog ⟨26, []⟩ (F36 k) (inlN Tryd.prog (F36 k) 4) [] (lpAt (bodyOf Tryd.f36) [0]) (Kb [] [] [] S36_4 X36_4 R36_4 rec) (mkSt [] [] S36_4 v.1 v.2) = (laws_eqIntS_s4) rec v := by kernel_rfl
theorem lp36_4 (k : Nat) {c : Cx} (hP : c.P = Tryd.prog) (hm : c.m = ⟨26, []⟩) (hg : c.gs = []) : LoopOk c (lo36_4 k) (lpAt (bodyOf Tryd.f36) [0]) :=
  loop_at hP hm hg (okF36 k) (LInv.of (code := (lpAt (bodyOf Tryd.f36) [0])) (bs := []) (by kernel_rfl) LInv.nil) (fun rec v => st36_4 k rec v) k
theorem ev36 (k : Nat) (x) : evF Tryd.prog (F36 k) (inlN Tryd.prog (F36 k) 4) [(4, lo36_4 k)] Tryd.f36 (bodyOf Tryd.f36) (c36 k).ps (c36 k).rs (c36 k).rm x = (c36 k).m x := by kernel_rfl
theorem ok36 (k : Nat) : ConOk Tryd.prog (c36 k) :=
  fn_at (okF36 k) (cn := c36 k) (fn := Tryd.f36) (code := bodyOf Tryd.f36) (m := ⟨26, []⟩) (gs := []) (by kernel_rfl) (by kernel_rfl) (by kernel_rfl) (by kernel_rfl) (by kernel_rfl) (fun _ => by kernel_rfl)
    [(4, lo36_4 k)] (fun c hP hm hg => (LInv.of (code := (bodyOf Tryd.f36)) (bs := [(lpAt (bodyOf Tryd.f36) [0])]) (by kernel_rfl) (LInv.cons (b := (lpAt (bodyOf Tryd.f36) [0])) (by kernel_rfl) (lp36_4 k hP hm hg) LInv.nil))) (ev36 k)
def c11 (k : Nat) : Con := ⟨11, [(T_Out, false), (T_Out, false)], [.bool], (.own true), fun x => laws_eqOut k x.1 x.2.1⟩
def F11 (k : Nat) : List Con := [c35 k, c36 k]
theorem okF11 (k : Nat) : ∀ cn ∈ F11 k, ConOk Tryd.prog cn := (conCons (ok35 k) (conCons (ok36 k) conNil))
theorem ev11 (k : Nat) (x) : evF Tryd.prog (F11 k) (inlN Tryd.prog (F11 k) 4) [] Tryd.f11 (bodyOf Tryd.f11) (c11 k).ps (c11 k).rs (c11 k).rm x = (c11 k).m x := by kernel_rfl
theorem ok11 (k : Nat) : ConOk Tryd.prog (c11 k) :=
  fn_at (okF11 k) (cn := c11 k) (fn := Tryd.f11) (code := bodyOf Tryd.f11) (m := ⟨32, []⟩) (gs := []) (by kernel_rfl) (by kernel_rfl) (by kernel_rfl) (by kernel_rfl) (by kernel_rfl) (fun _ => by kernel_rfl)
    [] (fun c hP hm hg => (LInv.of (code := (bodyOf Tryd.f11)) (bs := []) (by kernel_rfl) LInv.nil)) (ev11 k)
def c3 (k : Nat) : Con := ⟨3, [(T_Out, false)], [.bool], (.own true), fun x => laws_FnExactOutText k x.1⟩
def F3 (k : Nat) : List Con := [c7 k, c9 k, c8 k, c10 k, c11 k]
theorem okF3 (k : Nat) : ∀ cn ∈ F3 k, ConOk Tryd.prog cn := (conCons (ok7 k) (conCons (ok9 k) (conCons (ok8 k) (conCons (ok10 k) (conCons (ok11 k) conNil)))))
theorem ev3 (k : Nat) (x) : evF Tryd.prog (F3 k) (inlN Tryd.prog (F3 k) 4) [] Tryd.f3 (bodyOf Tryd.f3) (c3 k).ps (c3 k).rs (c3 k).rm x = (c3 k).m x := by kernel_rfl
theorem ok3 (k : Nat) : ConOk Tryd.prog (c3 k) :=
  fn_at (okF3 k) (cn := c3 k) (fn := Tryd.f3) (code := bodyOf Tryd.f3) (m := ⟨27, []⟩) (gs := []) (by kernel_rfl) (by kernel_rfl) (by kernel_rfl) (by kernel_rfl) (by kernel_rfl) (fun _ => by kernel_rfl)
    [] (fun c hP hm hg => (LInv.of (code := (bodyOf Tryd.f3)) (bs := []) (by kernel_rfl) LInv.nil)) (ev3 k)
def c12 (k : Nat) : Con := ⟨12, [(T_Left, false), ((.int .i64), false)], [(.int .i64)], (.own true), fun x => laws_szLeft x.1 x.2.1⟩
def F12 (k : Nat) : List Con := [c28 k]
theorem okF12 (k : Nat) : ∀ cn ∈ F12 k, ConOk Tryd.prog cn := (conCons (ok28 k) conNil)
theorem ev12 (k : Nat) (x) : evF Tryd.prog (F12 k) (inlN Tryd.prog (F12 k) 4) [] Tryd.f12 (bodyOf Tryd.f12) (c12 k).ps (c12 k).rs (c12 k).rm x = (c12 k).m x := by kernel_rfl
theorem ok12 (k : Nat) : ConOk Tryd.prog (c12 k) :=
  fn_at (okF12 k) (cn := c12 k) (fn := Tryd.f12) (code := bodyOf Tryd.f12) (m := ⟨18, []⟩) (gs := []) (by kernel_rfl) (by kernel_rfl) (by kernel_rfl) (by kernel_rfl) (by kernel_rfl) (fun _ => by kernel_rfl)
    [] (fun c hP hm hg => (LInv.of (code := (bodyOf Tryd.f12)) (bs := []) (by kernel_rfl) LInv.nil)) (ev12 k)
def c14 (k : Nat) : Con := ⟨14, [(T_Left, false)], [T_Left], (.own true), fun x => laws_toLeft k x.1⟩
def F14 (k : Nat) : List Con := [c32 k]
theorem okF14 (k : Nat) : ∀ cn ∈ F14 k, ConOk Tryd.prog cn := (conCons (ok32 k) conNil)
theorem ev14 (k : Nat) (x) : evF Tryd.prog (F14 k) (inlN Tryd.prog (F14 k) 4) [] Tryd.f14 (bodyOf Tryd.f14) (c14 k).ps (c14 k).rs (c14 k).rm x = (c14 k).m x := by kernel_rfl
theorem ok14 (k : Nat) : ConOk Tryd.prog (c14 k) :=
  fn_at (okF14 k) (cn := c14 k) (fn := Tryd.f14) (code := bodyOf Tryd.f14) (m := ⟨22, []⟩) (gs := []) (by kernel_rfl) (by kernel_rfl) (by kernel_rfl) (by kernel_rfl) (by kernel_rfl) (fun _ => by kernel_rfl)
    [] (fun c hP hm hg => (LInv.of (code := (bodyOf Tryd.f14)) (bs := []) (by kernel_rfl) LInv.nil)) (ev14 k)
def c37 (k : Nat) : Con := ⟨37, [((.sl (.int .i64)), false)], [.str], (.own true), fun x => spec_l25List k x.1⟩
def F37 (k : Nat) : List Con := [c29 k]
theorem okF37 (k : Nat) : ∀ cn ∈ F37 k, ConOk Tryd.prog cn := (conCons (ok29 k) conNil)
abbrev S37_5 : Shape := [(0, .v (.sl (.int .i64))), (3, .v .str), (4, .v (.int .i64))]
abbrev X37_5 : Exit × Shape := (Exit.exit 0, [(3, .v .str)])
abbrev R37_5 : List (Exit × Shape) := []
def lo37_5 (k : Nat) : LO := loopO [] [] [] S37_5 X37_5 R37_5 (iter (spec_l25List_s5 k) k)
theorem st37_5 (k : Nat) (rec v) : evC Tryd.prog ⟨27, []⟩ (F37 k) (inlN Tryd.prog (F37 k) 4) [] (lpAt (bodyOf Tryd.f37) [0]) (Kb [] [] [] S37_5 X37_5 R37_5 rec) (mkSt [] [] S37_5 v.1 v.2) = (spec_l25List_s5 k) rec v := by kernel_rfl
theorem lp37_5 (k : Nat) {c : Cx} (hP : c.P = Tryd.prog) (hm : c.m = ⟨27, []⟩) (hg : c.gs = []) : LoopOk c (lo37_5 k) (lpAt (bodyOf Tryd.f37) [0]) :=
  loop_at hP hm hg (okF37 k) (LInv.of (code := (lpAt (bodyOf Tryd.f37) [0])) (bs := []) (by kernel_rfl) LInv.nil) (fun rec v => st37_5 k rec v) k
theorem ev37 (k : Nat) (x) : evF Tryd.prog (F37 k) (inlN Tryd.prog (F37 k) 4) [(5, lo37_5 k)] Tryd.f37 (bodyOf Tryd.f37) (c37 k).ps (c37 k).rs (c37 k).rm x = (c37 k).m x := by kernel_rfl
theorem ok37 (k : Nat) : ConOk Tryd.prog (c37 k) :=
  fn_at (okF37 k) (cn := c37 k) (fn := Tryd.f37) (code := bodyOf Tryd.f37) (m := ⟨27, []⟩) (gs := []) (by kernel_rfl) (by kernel_rfl) (by kernel_rfl) (by kernel_rfl) (by kernel_rfl) (fun _ => by kernel_rfl)
    [(5, lo37_5 k)] (fun c hP hm hg => (LInv.of (code := (bodyOf Tryd.f37)) (bs := [(lpAt (bodyOf Tryd.f37) [0])]) (by kernel_rfl) (LInv.cons (b := (lpAt (bodyOf Tryd.f37) [0])) (by kernel_rfl) (lp37_5 k hP hm hg) LInv.nil))) (ev37 k)
def c13 (k : Nat) : Con := ⟨13, [(T_Left, false)], [.str], (.own true), fun x => spec_LeftText k x.1⟩
def F13 (k : Nat) : List Con := [c29 k, c37 k]
theorem okF13 (k : Nat) : ∀ cn ∈ F13 k, ConOk Tryd.prog cn := (conCons (ok29 k) (conCons (ok37 k) conNil))
theorem ev13 (k : Nat) (x) : evF Tryd.prog (F13 k) (inlN Tryd.prog (F13 k) 4) [] Tryd.f13 (bodyOf Tryd.f13) (c13 k).ps (c13 k).rs (c13 k).rm x = (c13 k).m x := by kernel_rfl
theorem ok13 (k : Nat) : ConOk Tryd.prog (c13 k) :=
  fn_at (okF13 k) (cn := c13 k) (fn := Tryd.f13) (code := bodyOf Tryd.f13) (m := ⟨37, []⟩) (gs := []) (by kernel_rfl) (by kernel_rfl) (by kernel_rfl) (by kernel_rfl) (by kernel_rfl) (fun _ => by kernel_rfl)
    [] (fun c hP hm hg => (LInv.of (code := (bodyOf Tryd.f13)) (bs := []) (by kernel_rfl) LInv.nil)) (ev13 k)
def c38 (k : Nat) : Con := ⟨38, [((.sl .str), false), (.str, false)], [.str], (.own true), fun x => joinC x.1 x.2.1⟩
theorem ok38 (k : Nat) : ConOk Tryd.prog (c38 k) := join_ok
def c39 (k : Nat) : Con := ⟨39, [((.sl (.int .i64)), false)], [.str], (.own true), fun x => impl_listText k x.1⟩
def F39 (k : Nat) : List Con := [c33 k, c38 k]
theorem okF39 (k : Nat) : ∀ cn ∈ F39 k, ConOk Tryd.prog cn := (conCons (ok33 k) (conCons (ok38 k) conNil))
abbrev S39_3 : Shape := [(3, .own true (.sl .str)), (7, .v (.sl (.int .i64))), (8, .v (.int .i64)), (9, .v (.int .i64))]
abbrev X39_3 : Exit × Shape := (Exit.exit 0, [(3, .own true (.sl .str))])
abbrev R39_3 : List (Exit × Shape) := []
def lo39_3 (k : Nat) : LO := loopO [] [] [] S39_3 X39_3 R39_3 (iter (impl_listText_s3) k)
theorem st39_3 (k : Nat) (rec v) : evC Tryd.prog ⟨24, []⟩ (F39 k) (inlN Tryd.prog (F39 k) 4) [] (lpAt (bodyOf Tryd.f39) [0]) (Kb [] [] [] S39_3 X39_3 R39_3 rec) (mkSt [] [] S39_3 v.1 v.2) = (impl_listText_s3) rec v := by kernel_rfl
theorem lp39_3 (k : Nat) {c : Cx} (hP : c.P = Tryd.prog) (hm : c.m = ⟨24, []⟩) (hg : c.gs = []) : LoopOk c (lo39_3 k) (lpAt (bodyOf Tryd.f39) [0]) :=
  loop_at hP hm hg (okF39 k) (LInv.of (code := (lpAt (bodyOf Tryd.f39) [0])) (bs := []) (by kernel_rfl) LInv.nil) (fun rec v => st39_3 k rec v) k
theorem ev39 (k : Nat) (x) : evF Tryd.prog (F39 k) (inlN Tryd.prog (F39 k) 4) [(3, lo39_3 k)] Tryd.f39 (bodyOf Tryd.f39) (c39 k).ps (c39 k).rs (c39 k).rm x = (c39 k).m x := by kernel_rfl
theorem ok39 (k : Nat) : ConOk Tryd.prog (c39 k) :=
  fn_at (okF39 k) (cn := c39 k) (fn := Tryd.f39) (code := bodyOf Tryd.f39) (m := ⟨24, []⟩) (gs := []) (by kernel_rfl) (by kernel_rfl) (by kernel_rfl) (by kernel_rfl) (by kernel_rfl) (fun _ => by kernel_rfl)
    [(3, lo39_3 k)] (fun c hP hm hg => (LInv.of (code := (bodyOf Tryd.f39)) (bs := [(lpAt (bodyOf Tryd.f39) [0])]) (by kernel_rfl) (LInv.cons (b := (lpAt (bodyOf Tryd.f39) [0])) (by kernel_rfl) (lp39_3 k hP hm hg) LInv.nil))) (ev39 k)
def c15 (k : Nat) : Con := ⟨15, [(T_Left, false)], [.str], (.own true), fun x => impl_LeftText k x.1⟩
def F15 (k : Nat) : List Con := [c33 k, c39 k, c38 k]
theorem okF15 (k : Nat) : ∀ cn ∈ F15 k, ConOk Tryd.prog cn := (conCons (ok33 k) (conCons (ok39 k) (conCons (ok38 k) conNil)))
theorem ev15 (k : Nat) (x) : evF Tryd.prog (F15 k) (inlN Tryd.prog (F15 k) 4) [] Tryd.f15 (bodyOf Tryd.f15) (c15 k).ps (c15 k).rs (c15 k).rm x = (c15 k).m x := by kernel_rfl
theorem ok15 (k : Nat) : ConOk Tryd.prog (c15 k) :=
  fn_at (okF15 k) (cn := c15 k) (fn := Tryd.f15) (code := bodyOf Tryd.f15) (m := ⟨30, []⟩) (gs := []) (by kernel_rfl) (by kernel_rfl) (by kernel_rfl) (by kernel_rfl) (by kernel_rfl) (fun _ => by kernel_rfl)
    [] (fun c hP hm hg => (LInv.of (code := (bodyOf Tryd.f15)) (bs := []) (by kernel_rfl) LInv.nil)) (ev15 k)
def c16 (k : Nat) : Con := ⟨16, [(T_Left, false), (T_Left, false)], [.bool], (.own true), fun x => laws_eqLeft k x.1 x.2.1⟩
def F16 (k : Nat) : List Con := [c36 k]
theorem okF16 (k : Nat) : ∀ cn ∈ F16 k, ConOk Tryd.prog cn := (conCons (ok36 k) conNil)
theorem ev16 (k : Nat) (x) : evF Tryd.prog (F16 k) (inlN Tryd.prog (F16 k) 4) [] Tryd.f16 (bodyOf Tryd.f16) (c16 k).ps (c16 k).rs (c16 k).rm x = (c16 k).m x := by kernel_rfl
theorem ok16 (k : Nat) : ConOk Tryd.prog (c16 k) :=
  fn_at (okF16 k) (cn := c16 k) (fn := Tryd.f16) (code := bodyOf Tryd.f16) (m := ⟨32, []⟩) (gs := []) (by kernel_rfl) (by kernel_rfl) (by kernel_rfl) (by kernel_rfl) (by kernel_rfl) (fun _ => by kernel_rfl)
    [] (fun c hP hm hg => (LInv.of (code := (bodyOf Tryd.f16)) (bs := []) (by kernel_rfl) LInv.nil)) (ev16 k)
def c4 (k : Nat) : Con := ⟨4, [(T_Left, false)], [.bool], (.own true), fun x => laws_FnExactLeftText k x.1⟩
def F4 (k : Nat) : List Con := [c12 k, c14 k, c13 k, c15 k, c16 k]
theorem okF4 (k : Nat) : ∀ cn ∈ F4 k, ConOk Tryd.prog cn := (conCons (ok12 k) (conCons (ok14 k) (conCons (ok13 k) (conCons (ok15 k) (conCons (ok16 k) conNil)))))
theorem ev4 (k : Nat) (x) : evF Tryd.prog (F4 k) (inlN Tryd.prog (F4 k) 4) [] Tryd.f4 (bodyOf Tryd.f4) (c4 k).ps (c4 k).rs (c4 k).rm x = (c4 k).m x := by kernel_rfl
theorem ok4 (k : Nat) : ConOk Tryd.prog (c4 k) :=
  fn_at (okF4 k) (cn := c4 k) (fn := Tryd.f4) (code := bodyOf Tryd.f4) (m := ⟨27, []⟩) (gs := []) (by kernel_rfl) (by kernel_rfl) (by kernel_rfl) (by kernel_rfl) (by kernel_rfl) (fun _ => by kernel_rfl)
    [] (fun c hP hm hg => (LInv.of (code := (bodyOf Tryd.f4)) (bs := []) (by kernel_rfl) LInv.nil)) (ev4 k)
def c17 (k : Nat) : Con := ⟨17, [(T_Event, false), ((.int .i64), false)], [(.int .i64)], (.own true), fun x => laws_szEvent x.1 x.2.1⟩
def F17 (k : Nat) : List Con := [c27 k]
theorem okF17 (k : Nat) : ∀ cn ∈ F17 k, ConOk Tryd.prog cn := (conCons (ok27 k) conNil)
theorem ev17 (k : Nat) (x) : evF Tryd.prog (F17 k) (inlN Tryd.prog (F17 k) 4) [] Tryd.f17 (bodyOf Tryd.f17) (c17 k).ps (c17 k).rs (c17 k).rm x = (c17 k).m x := by kernel_rfl
theorem ok17 (k : Nat) : ConOk Tryd.prog (c17 k) :=
  fn_at (okF17 k) (cn := c17 k) (fn := Tryd.f17) (code := bodyOf Tryd.f17) (m := ⟨12, []⟩) (gs := []) (by kernel_rfl) (by kernel_rfl) (by kernel_rfl) (by kernel_rfl) (by kernel_rfl) (fun _ => by kernel_rfl)
    [] (fun c hP hm hg => (LInv.of (code := (bodyOf Tryd.f17)) (bs := []) (by kernel_rfl) LInv.nil)) (ev17 k)
def c43 (k : Nat) : Con := ⟨43, [(T_Vec, false)], [T_Vec], (.own true), fun x => laws_toVec x.1⟩
def F43 (k : Nat) : List Con := []
theorem okF43 (k : Nat) : ∀ cn ∈ F43 k, ConOk Tryd.prog cn := conNil
theorem ev43 (k : Nat) (x) : evF Tryd.prog (F43 k) (inlN Tryd.prog (F43 k) 4) [] Tryd.f43 (bodyOf Tryd.f43) (c43 k).ps (c43 k).rs (c43 k).rm x = (c43 k).m x := by kernel_rfl
theorem ok43 (k : Nat) : ConOk Tryd.prog (c43 k) :=
  fn_at (okF43 k) (cn := c43 k) (fn := Tryd.f43) (code := bodyOf Tryd.f43) (m := ⟨14, []⟩) (gs := []) (by kernel_rfl) (by kernel_rfl) (by kernel_rfl) (by kernel_rfl) (by kernel_rfl) (fun _ => by kernel_rfl)
    [] (fun c hP hm hg => (LInv.of (code := (bodyOf Tryd.f43)) (bs := []) (by kernel_rfl) LInv.nil)) (ev43 k)
def c19 (k : Nat) : Con := ⟨19, [(T_Event, false)], [T_Event], (.own true), fun x => laws_toEvent k x.1⟩
def F19 (k : Nat) : List Con := [c31 k, c43 k]
theorem okF19 (k : Nat) : ∀ cn ∈ F19 k, ConOk Tryd.prog cn := (conCons (ok31 k) (conCons (ok43 k) conNil))
theorem ev19 (k : Nat) (x) : evF Tryd.prog (F19 k) (inlN Tryd.prog (F19 k) 4) [] Tryd.f19 (bodyOf Tryd.f19) (c19 k).ps (c19 k).rs (c19 k).rm x = (c19 k).m x := by kernel_rfl
theorem ok19 (k : Nat) : ConOk Tryd.prog (c19 k) :=
  fn_at (okF19 k) (cn := c19 k) (fn := Tryd.f19) (code := bodyOf Tryd.f19) (m := ⟨19, []⟩) (gs := []) (by kernel_rfl) (by kernel_rfl) (by kernel_rfl) (by kernel_rfl) (by kernel_rfl) (fun _ => by kernel_rfl)
    [] (fun c hP hm hg => (LInv.of (code := (bodyOf Tryd.f19)) (bs := []) (by kernel_rfl) LInv.nil)) (ev19 k)
def c40 (k : Nat) : Con := ⟨40, [((.sl T_Event), false)], [.bool], (.own true), fun x => spec_EventsOk k x.1⟩
def F40 (k : Nat) : List Con := []
theorem okF40 (k : Nat) : ∀ cn ∈ F40 k, ConOk Tryd.prog cn := conNil
abbrev S40_5 : Shape := [(0, .v (.sl T_Event)), (3, .v (.int .i64)), (4, .v (.int .i64))]
abbrev X40_5 : Exit × Shape := (Exit.ret, [(2, .v .bool)])
abbrev R40_5 : List (Exit × Shape) := [(Exit.exit 0, [])]
def lo40_5 (k : Nat) : LO := loopO [] [] [] S40_5 X40_5 R40_5 (iter (spec_EventsOk_s5) k)
theorem st40_5 (k : Nat) (rec v) : evC Tryd.prog ⟨86, []⟩ (F40 k) (inlN Tryd.prog (F40 k) 4) [] (lpAt (bodyOf Tryd.f40) [0]) (Kb [] [] [] S40_5 X40_5 R40_5 rec) (mkSt [] [] S40_5 v.1 v.2) = (spec_EventsOk_s5) rec v := by kernel_rfl
theorem lp40_5 (k : Nat) {c : Cx} (hP : c.P = Tryd.prog) (hm : c.m = ⟨86, []⟩) (hg : c.gs = []) : LoopOk c (lo40_5 k) (lpAt (bodyOf Tryd.f40) [0]) :=
  loop_at hP hm hg (okF40 k) (LInv.of (code := (lpAt (bodyOf Tryd.f40) [0])) (bs := []) (by kernel_rfl) LInv.nil) (fun rec v => st40_5 k rec v) k
theorem ev40 (k : Nat) (x) : evF Tryd.prog (F40 k) (inlN Tryd.prog (F40 k) 4) [(5, lo40_5 k)] Tryd.f40 (bodyOf Tryd.f40) (c40 k).ps (c40 k).rs (c40 k).rm x = (c40 k).m x := by kernel_rfl
theorem ok40 (k : Nat) : ConOk Tryd.prog (c40 k) :=
  fn_at (okF40 k) (cn := c40 k) (fn := Tryd.f40) (code := bodyOf Tryd.f40) (m := ⟨86, []⟩) (gs := []) (by kernel_rfl) (by kernel_rfl) (by kernel_rfl) (by kernel_rfl) (by kernel_rfl) (fun _ => by kernel_rfl)
    [(5, lo40_5 k)] (fun c hP hm hg => (LInv.of (code := (bodyOf Tryd.f40)) (bs := [(lpAt (bodyOf Tryd.f40) [0])]) (by kernel_rfl) (LInv.cons (b := (lpAt (bodyOf Tryd.f40) [0])) (by kernel_rfl) (lp40_5 k hP hm hg) LInv.nil))) (ev40 k)
def c41 (k : Nat) : Con := ⟨41, [(T_Vec, false), ((.int .i64), false), ((.int .i64), false)], [.bool], (.own true), fun x => spec_l13All x.1 x.2.1 x.2.2.1⟩
def F41 (k : Nat) : List Con := []
theorem okF41 (k : Nat) : ∀ cn ∈ F41 k, ConOk Tryd.prog cn := conNil
theorem ev41 (k : Nat) (x) : evF Tryd.prog (F41 k) (inlN Tryd.prog (F41 k) 4) [] Tryd.f41 (bodyOf Tryd.f41) (c41 k).ps (c41 k).rs (c41 k).rm x = (c41 k).m x := by kernel_rfl
theorem ok41 (k : Nat) : ConOk Tryd.prog (c41 k) :=
  fn_at (okF41 k) (cn := c41 k) (fn := Tryd.f41) (code := bodyOf Tryd.f41) (m := ⟨41, []⟩) (gs := []) (by kernel_rfl) (by kernel_rfl) (by kernel_rfl) (by kernel_rfl) (by kernel_rfl) (fun _ => by kernel_rfl)
    [] (fun c hP hm hg => (LInv.of (code := (bodyOf Tryd.f41)) (bs := []) (by kernel_rfl) LInv.nil)) (ev41 k)
def c42 (k : Nat) : Con := ⟨42, [(T_Vec, false)], [.str], (.own true), fun x => spec_VecText k x.1⟩
def F42 (k : Nat) : List Con := [c29 k]
theorem okF42 (k : Nat) : ∀ cn ∈ F42 k, ConOk Tryd.prog cn := (conCons (ok29 k) conNil)
theorem ev42 (k : Nat) (x) : evF Tryd.prog (F42 k) (inlN Tryd.prog (F42 k) 4) [] Tryd.f42 (bodyOf Tryd.f42) (c42 k).ps (c42 k).rs (c42 k).rm x = (c42 k).m x := by kernel_rfl
theorem ok42 (k : Nat) : ConOk Tryd.prog (c42 k) :=
  fn_at (okF42 k) (cn := c42 k) (fn := Tryd.f42) (code := bodyOf Tryd.f42) (m := ⟨16, []⟩) (gs := []) (by kernel_rfl) (by kernel_rfl) (by kernel_rfl) (by kernel_rfl) (by kernel_rfl) (fun _ => by kernel_rfl)
    [] (fun c hP hm hg => (LInv.of (code := (bodyOf Tryd.f42)) (bs := []) (by kernel_rfl) LInv.nil)) (ev42 k)
def c18 (k : Nat) : Con := ⟨18, [(T_Event, false)], [.str], (.own true), fun x => spec_EventText k x.1⟩
def F18 (k : Nat) : List Con := [c40 k, c41 k, c42 k, c30 k, c29 k]
theorem okF18 (k : Nat) : ∀ cn ∈ F18 k, ConOk Tryd.prog cn := (conCons (ok40 k) (conCons (ok41 k) (conCons (ok42 k) (conCons (ok30 k) (conCons (ok29 k) conNil)))))
theorem ev18 (k : Nat) (x) : evF Tryd.prog (F18 k) (inlN Tryd.prog (F18 k) 4) [] Tryd.f18 (bodyOf Tryd.f18) (c18 k).ps (c18 k).rs (c18 k).rm x = (c18 k).m x := by kernel_rfl
theorem ok18 (k : Nat) : ConOk Tryd.prog (c18 k) :=
  fn_at (okF18 k) (cn := c18 k) (fn := Tryd.f18) (code := bodyOf Tryd.f18) (m := ⟨38, []⟩) (gs := []) (by kernel_rfl) (by kernel_rfl) (by kernel_rfl) (by kernel_rfl) (by kernel_rfl) (fun _ => by kernel_rfl)
    [] (fun c hP hm hg => (LInv.of (code := (bodyOf Tryd.f18)) (bs := []) (by kernel_rfl) LInv.nil)) (ev18 k)
def c61 (k : Nat) : Con := ⟨61, [((.int .i64), false), ((.int .i64), false), ((.int .i64), false)], [.bool], (.own true), fun x => impl_within x.1 x.2.1 x.2.2.1⟩
def F61 (k : Nat) : List Con := []
theorem okF61 (k : Nat) : ∀ cn ∈ F61 k, ConOk Tryd.prog cn := conNil
theorem ev61 (k : Nat) (x) : evF Tryd.prog (F61 k) (inlN Tryd.prog (F61 k) 4) [] Tryd.f61 (bodyOf Tryd.f61) (c61 k).ps (c61 k).rs (c61 k).rm x = (c61 k).m x := by kernel_rfl
theorem ok61 (k : Nat) : ConOk Tryd.prog (c61 k) :=
  fn_at (okF61 k) (cn := c61 k) (fn := Tryd.f61) (code := bodyOf Tryd.f61) (m := ⟨15, []⟩) (gs := []) (by kernel_rfl) (by kernel_rfl) (by kernel_rfl) (by kernel_rfl) (by kernel_rfl) (fun _ => by kernel_rfl)
    [] (fun c hP hm hg => (LInv.of (code := (bodyOf Tryd.f61)) (bs := []) (by kernel_rfl) LInv.nil)) (ev61 k)
def c60 (k : Nat) : Con := ⟨60, [(T_Event, false)], [.bool], (.own true), fun x => impl_eventOk x.1⟩
def F60 (k : Nat) : List Con := [c61 k]
theorem okF60 (k : Nat) : ∀ cn ∈ F60 k, ConOk Tryd.prog cn := (conCons (ok61 k) conNil)
theorem ev60 (k : Nat) (x) : evF Tryd.prog (F60 k) (inlN Tryd.prog (F60 k) 4) [] Tryd.f60 (bodyOf Tryd.f60) (c60 k).ps (c60 k).rs (c60 k).rm x = (c60 k).m x := by kernel_rfl
theorem ok60 (k : Nat) : ConOk Tryd.prog (c60 k) :=
  fn_at (okF60 k) (cn := c60 k) (fn := Tryd.f60) (code := bodyOf Tryd.f60) (m := ⟨67, []⟩) (gs := []) (by kernel_rfl) (by kernel_rfl) (by kernel_rfl) (by kernel_rfl) (by kernel_rfl) (fun _ => by kernel_rfl)
    [] (fun c hP hm hg => (LInv.of (code := (bodyOf Tryd.f60)) (bs := []) (by kernel_rfl) LInv.nil)) (ev60 k)
def c44 (k : Nat) : Con := ⟨44, [((.sl T_Event), false)], [.bool], (.own true), fun x => impl_EventsOk k x.1⟩
def F44 (k : Nat) : List Con := [c60 k]
theorem okF44 (k : Nat) : ∀ cn ∈ F44 k, ConOk Tryd.prog cn := (conCons (ok60 k) conNil)
abbrev S44_3 : Shape := [(0, .v (.sl T_Event)), (3, .v (.int .i64)), (6, .v (.sl T_Event)), (7, .v (.int .i64)), (8, .v (.int .i64))]
abbrev X44_3 : Exit × Shape := (Exit.ret, [(2, .v .bool)])
abbrev R44_3 : List (Exit × Shape) := [(Exit.exit 0, [(0, .v (.sl T_Event)), (3, .v (.int .i64))])]
def lo44_3 (k : Nat) : LO := loopO [] [] [] S44_3 X44_3 R44_3 (iter (impl_EventsOk_s3) k)
theorem st44_3 (k : Nat) (rec v) : evC Tryd.prog ⟨27, []⟩ (F44 k) (inlN Tryd.prog (F44 k) 4) [] (lpAt (bodyOf Tryd.f44) [0]) (Kb [] [] [] S44_3 X44_3 R44_3 rec) (mkSt [] [] S44_3 v.1 v.2) = (impl_EventsOk_s3) rec v := by kernel_rfl
theorem lp44_3 (k : Nat) {c : Cx} (hP : c.P = Tryd.prog) (hm : c.m = ⟨27, []⟩) (hg : c.gs = []) : LoopOk c (lo44_3 k) (lpAt (bodyOf Tryd.f44) [0]) :=
  loop_at hP hm hg (okF44 k) (LInv.of (code := (lpAt (bodyOf Tryd.f44) [0])) (bs := []) (by kernel_rfl) LInv.nil) (fun rec v => st44_3 k rec v) k
theorem ev44 (k : Nat) (x) : evF Tryd.prog (F44 k) (inlN Tryd.prog (F44 k) 4) [(3, lo44_3 k)] Tryd.f44 (bodyOf Tryd.f44) (c44 k).ps (c44 k).rs (c44 k).rm x = (c44 k).m x := by kernel_rfl
theorem ok44 (k : Nat) : ConOk Tryd.prog (c44 k) :=
  fn_at (okF44 k) (cn := c44 k) (fn := Tryd.f44) (code := bodyOf Tryd.f44) (m := ⟨27, []⟩) (gs := []) (by kernel_rfl) (by kernel_rfl) (by kernel_rfl) (by kernel_rfl) (by kernel_rfl) (fun _ => by kernel_rfl)
    [(3, lo44_3 k)] (fun c hP hm hg => (LInv.of (code := (bodyOf Tryd.f44)) (bs := [(lpAt (bodyOf Tryd.f44) [0])]) (by kernel_rfl) (LInv.cons (b := (lpAt (bodyOf Tryd.f44) [0])) (by kernel_rfl) (lp44_3 k hP hm hg) LInv.nil))) (ev44 k)
def c45 (k : Nat) : Con := ⟨45, [(T_Vec, false), ((.int .i64), false), ((.int .i64), false)], [.bool], (.own true), fun x => impl_Vec_isFrom x.1 x.2.1 x.2.2.1⟩
def F45 (k : Nat) : List Con := [c61 k]
theorem okF45 (k : Nat) : ∀ cn ∈ F45 k, ConOk Tryd.prog cn := (conCons (ok61 k) conNil)
theorem ev45 (k : Nat) (x) : evF Tryd.prog (F45 k) (inlN Tryd.prog (F45 k) 4) [] Tryd.f45 (bodyOf Tryd.f45) (c45 k).ps (c45 k).rs (c45 k).rm x = (c45 k).m x := by kernel_rfl
theorem ok45 (k : Nat) : ConOk Tryd.prog (c45 k) :=
  fn_at (okF45 k) (cn := c45 k) (fn := Tryd.f45) (code := bodyOf Tryd.f45) (m := ⟨26, []⟩) (gs := []) (by kernel_rfl) (by kernel_rfl) (by kernel_rfl) (by kernel_rfl) (by kernel_rfl) (fun _ => by kernel_rfl)
    [] (fun c hP hm hg => (LInv.of (code := (bodyOf Tryd.f45)) (bs := []) (by kernel_rfl) LInv.nil)) (ev45 k)
def c46 (k : Nat) : Con := ⟨46, [(T_Vec, false)], [.str], (.own true), fun x => impl_VecText x.1⟩
def F46 (k : Nat) : List Con := [c33 k]
theorem okF46 (k : Nat) : ∀ cn ∈ F46 k, ConOk Tryd.prog cn := (conCons (ok33 k) conNil)
theorem ev46 (k : Nat) (x) : evF Tryd.prog (F46 k) (inlN Tryd.prog (F46 k) 4) [] Tryd.f46 (bodyOf Tryd.f46) (c46 k).ps (c46 k).rs (c46 k).rm x = (c46 k).m x := by kernel_rfl
theorem ok46 (k : Nat) : ConOk Tryd.prog (c46 k) :=
  fn_at (okF46 k) (cn := c46 k) (fn := Tryd.f46) (code := bodyOf Tryd.f46) (m := ⟨16, []⟩) (gs := []) (by kernel_rfl) (by kernel_rfl) (by kernel_rfl) (by kernel_rfl) (by kernel_rfl) (fun _ => by kernel_rfl)
    [] (fun c hP hm hg => (LInv.of (code := (bodyOf Tryd.f46)) (bs := []) (by kernel_rfl) LInv.nil)) (ev46 k)
def c20 (k : Nat) : Con := ⟨20, [(T_Event, false)], [.str], (.own true), fun x => impl_EventText k x.1⟩
def F20 (k : Nat) : List Con := [c44 k, c45 k, c46 k, c34 k, c33 k]
theorem okF20 (k : Nat) : ∀ cn ∈ F20 k, ConOk Tryd.prog cn := (conCons (ok44 k) (conCons (ok45 k) (conCons (ok46 k) (conCons (ok34 k) (conCons (ok33 k) conNil)))))
theorem ev20 (k : Nat) (x) : evF Tryd.prog (F20 k) (inlN Tryd.prog (F20 k) 4) [] Tryd.f20 (bodyOf Tryd.f20) (c20 k).ps (c20 k).rs (c20 k).rm x = (c20 k).m x := by kernel_rfl
theorem ok20 (k : Nat) : ConOk Tryd.prog (c20 k) :=
  fn_at (okF20 k) (cn := c20 k) (fn := Tryd.f20) (code := bodyOf Tryd.f20) (m := ⟨38, []⟩) (gs := []) (by kernel_rfl) (by kernel_rfl) (by kernel_rfl) (by kernel_rfl) (by kernel_rfl) (fun _ => by kernel_rfl)
    [] (fun c hP hm hg => (LInv.of (code := (bodyOf Tryd.f20)) (bs := []) (by kernel_rfl) LInv.nil)) (ev20 k)
def c47 (k : Nat) : Con := ⟨47, [(T_Vec, false), (T_Vec, false)], [.bool], (.own true), fun x => laws_eqVec x.1 x.2.1⟩
def F47 (k : Nat) : List Con := []
theorem okF47 (k : Nat) : ∀ cn ∈ F47 k, ConOk Tryd.prog cn := conNil
theorem ev47 (k : Nat) (x) : evF Tryd.prog (F47 k) (inlN Tryd.prog (F47 k) 4) [] Tryd.f47 (bodyOf Tryd.f47) (c47 k).ps (c47 k).rs (c47 k).rm x = (c47 k).m x := by kernel_rfl
theorem ok47 (k : Nat) : ConOk Tryd.prog (c47 k) :=
  fn_at (okF47 k) (cn := c47 k) (fn := Tryd.f47) (code := bodyOf Tryd.f47) (m := ⟨20, []⟩) (gs := []) (by kernel_rfl) (by kernel_rfl) (by kernel_rfl) (by kernel_rfl) (by kernel_rfl) (fun _ => by kernel_rfl)
    [] (fun c hP hm hg => (LInv.of (code := (bodyOf Tryd.f47)) (bs := []) (by kernel_rfl) LInv.nil)) (ev47 k)
def c21 (k : Nat) : Con := ⟨21, [(T_Event, false), (T_Event, false)], [.bool], (.own true), fun x => laws_eqEvent k x.1 x.2.1⟩
def F21 (k : Nat) : List Con := [c35 k, c47 k]
theorem okF21 (k : Nat) : ∀ cn ∈ F21 k, ConOk Tryd.prog cn := (conCons (ok35 k) (conCons (ok47 k) conNil))
theorem ev21 (k : Nat) (x) : evF Tryd.prog (F21 k) (inlN Tryd.prog (F21 k) 4) [] Tryd.f21 (bodyOf Tryd.f21) (c21 k).ps (c21 k).rs (c21 k).rm x = (c21 k).m x := by kernel_rfl
theorem ok21 (k : Nat) : ConOk Tryd.prog (c21 k) :=
  fn_at (okF21 k) (cn := c21 k) (fn := Tryd.f21) (code := bodyOf Tryd.f21) (m := ⟨27, []⟩) (gs := []) (by kernel_rfl) (by kernel_rfl) (by kernel_rfl) (by kernel_rfl) (by kernel_rfl) (fun _ => by kernel_rfl)
    [] (fun c hP hm hg => (LInv.of (code := (bodyOf Tryd.f21)) (bs := []) (by kernel_rfl) LInv.nil)) (ev21 k)
def c5 (k : Nat) : Con := ⟨5, [(T_Event, false)], [.bool], (.own true), fun x => laws_FnExactEventText k x.1⟩
def F5 (k : Nat) : List Con := [c17 k, c19 k, c18 k, c20 k, c21 k]
theorem okF5 (k : Nat) : ∀ cn ∈ F5 k, ConOk Tryd.prog cn := (conCons (ok17 k) (conCons (ok19 k) (conCons (ok18 k) (conCons (ok20 k) (conCons (ok21 k) conNil)))))
theorem ev5 (k : Nat) (x) : evF Tryd.prog (F5 k) (inlN Tryd.prog (F5 k) 4) [] Tryd.f5 (bodyOf Tryd.f5) (c5 k).ps (c5 k).rs (c5 k).rm x = (c5 k).m x := by kernel_rfl
theorem ok5 (k : Nat) : ConOk Tryd.prog (c5 k) :=
  fn_at (okF5 k) (cn := c5 k) (fn := Tryd.f5) (code := bodyOf Tryd.f5) (m := ⟨27, []⟩) (gs := []) (by kernel_rfl) (by kernel_rfl) (by kernel_rfl) (by kernel_rfl) (by kernel_rfl) (fun _ => by kernel_rfl)
    [] (fun c hP hm hg => (LInv.of (code := (bodyOf Tryd.f5)) (bs := []) (by kernel_rfl) LInv.nil)) (ev5 k)
def c48 (k : Nat) : Con := ⟨48, [((.sl T_Prof), false), ((.int .i64), false)], [(.int .i64)], (.own true), fun x => laws_szProfS x.1 x.2.1⟩
def F48 (k : Nat) : List Con := []
theorem okF48 (k : Nat) : ∀ cn ∈ F48 k, ConOk Tryd.prog cn := conNil
theorem ev48 (k : Nat) (x) : evF Tryd.prog (F48 k) (inlN Tryd.prog (F48 k) 4) [] Tryd.f48 (bodyOf Tryd.f48) (c48 k).ps (c48 k).rs (c48 k).rm x = (c48 k).m x := by kernel_rfl
theorem ok48 (k : Nat) : ConOk Tryd.prog (c48 k) :=
  fn_at (okF48 k) (cn := c48 k) (fn := Tryd.f48) (code := bodyOf Tryd.f48) (m := ⟨12, []⟩) (gs := []) (by kernel_rfl) (by kernel_rfl) (by kernel_rfl) (by kernel_rfl) (by kernel_rfl) (fun _ => by kernel_rfl)
    [] (fun c hP hm hg => (LInv.of (code := (bodyOf Tryd.f48)) (bs := []) (by kernel_rfl) LInv.nil)) (ev48 k)
def c22 (k : Nat) : Con := ⟨22, [(T_Conf, false), ((.int .i64), false)], [(.int .i64)], (.own true), fun x => laws_szConf x.1 x.2.1⟩
def F22 (k : Nat) : List Con := [c48 k]
theorem okF22 (k : Nat) : ∀ cn ∈ F22 k, ConOk Tryd.prog cn := (conCons (ok48 k) conNil)
theorem ev22 (k : Nat) (x) : evF Tryd.prog (F22 k) (inlN Tryd.prog (F22 k) 4) [] Tryd.f22 (bodyOf Tryd.f22) (c22 k).ps (c22 k).rs (c22 k).rm x = (c22 k).m x := by kernel_rfl
theorem ok22 (k : Nat) : ConOk Tryd.prog (c22 k) :=
  fn_at (okF22 k) (cn := c22 k) (fn := Tryd.f22) (code := bodyOf Tryd.f22) (m := ⟨12, []⟩) (gs := []) (by kernel_rfl) (by kernel_rfl) (by kernel_rfl) (by kernel_rfl) (by kernel_rfl) (fun _ => by kernel_rfl)
    [] (fun c hP hm hg => (LInv.of (code := (bodyOf Tryd.f22)) (bs := []) (by kernel_rfl) LInv.nil)) (ev22 k)
def c50 (k : Nat) : Con := ⟨50, [(T_Limits, false)], [T_Limits], (.own true), fun x => laws_toLimits x.1⟩
def F50 (k : Nat) : List Con := []
theorem okF50 (k : Nat) : ∀ cn ∈ F50 k, ConOk Tryd.prog cn := conNil
theorem ev50 (k : Nat) (x) : evF Tryd.prog (F50 k) (inlN Tryd.prog (F50 k) 4) [] Tryd.f50 (bodyOf Tryd.f50) (c50 k).ps (c50 k).rs (c50 k).rm x = (c50 k).m x := by kernel_rfl
theorem ok50 (k : Nat) : ConOk Tryd.prog (c50 k) :=
  fn_at (okF50 k) (cn := c50 k) (fn := Tryd.f50) (code := bodyOf Tryd.f50) (m := ⟨20, []⟩) (gs := []) (by kernel_rfl) (by kernel_rfl) (by kernel_rfl) (by kernel_rfl) (by kernel_rfl) (fun _ => by kernel_rfl)
    [] (fun c hP hm hg => (LInv.of (code := (bodyOf Tryd.f50)) (bs := []) (by kernel_rfl) LInv.nil)) (ev50 k)
def c67 (k : Nat) : Con := ⟨67, [(T_Prof, false)], [T_Prof], (.own true), fun x => laws_toProf x.1⟩
def F67 (k : Nat) : List Con := [c43 k]
theorem okF67 (k : Nat) : ∀ cn ∈ F67 k, ConOk Tryd.prog cn := (conCons (ok43 k) conNil)
theorem ev67 (k : Nat) (x) : evF Tryd.prog (F67 k) (inlN Tryd.prog (F67 k) 4) [] Tryd.f67 (bodyOf Tryd.f67) (c67 k).ps (c67 k).rs (c67 k).rm x = (c67 k).m x := by kernel_rfl
theorem ok67 (k : Nat) : ConOk Tryd.prog (c67 k) :=
  fn_at (okF67 k) (cn := c67 k) (fn := Tryd.f67) (code := bodyOf Tryd.f67) (m := ⟨13, []⟩) (gs := []) (by kernel_rfl) (by kernel_rfl) (by kernel_rfl) (by kernel_rfl) (by kernel_rfl) (fun _ => by kernel_rfl)
    [] (fun c hP hm hg => (LInv.of (code := (bodyOf Tryd.f67)) (bs := []) (by kernel_rfl) LInv.nil)) (ev67 k)
def c51 (k : Nat) : Con := ⟨51, [((.sl T_Prof), false)], [(.sl T_Prof)], (.own true), fun x => laws_toProfS k x.1⟩
def F51 (k : Nat) : List Con := [c67 k]
theorem okF51 (k : Nat) : ∀ cn ∈ F51 k, ConOk Tryd.prog cn := (conCons (ok67 k) conNil)
abbrev S51_3 : Shape := [(0, .v (.sl T_Prof)), (3, .own true (.sl T_Prof)), (4, .v (.int .i64))]
abbrev X51_3 : Exit × Shape := (Exit.exit 0, [(3, .own true (.sl T_Prof))])
abbrev R51_3 : List (Exit × Shape) := []
def lo51_3 (k : Nat) : LO := loopO [] [] [] S51_3 X51_3 R51_3 (iter (laws_toProfS_s3) k)
theorem st51_3 (k : Nat) (rec v) : evC Tryd.prog ⟨23, []⟩ (F51 k) (inlN Tryd.prog (F51 k) 4) [] (lpAt (bodyOf Tryd.f51) [0]) (Kb [] [] [] S51_3 X51_3 R51_3 rec) (mkSt [] [] S51_3 v.1 v.2) = (laws_toProfS_s3) rec v := by kernel_rfl
theorem lp51_3 (k : Nat) {c : Cx} (hP : c.P = Tryd.prog) (hm : c.m = ⟨23, []⟩) (hg : c.gs = []) : LoopOk c (lo51_3 k) (lpAt (bodyOf Tryd.f51) [0]) :=
  loop_at hP hm hg (okF51 k) (LInv.of (code := (lpAt (bodyOf Tryd.f51) [0])) (bs := []) (by kernel_rfl) LInv.nil) (fun rec v => st51_3 k rec v) k
theorem ev51 (k : Nat) (x) : evF Tryd.prog (F51 k) (inlN Tryd.prog (F51 k) 4) [(3, lo51_3 k)] Tryd.f51 (bodyOf Tryd.f51) (c51 k).ps (c51 k).rs (c51 k).rm x = (c51 k).m x := by kernel_rfl
theorem ok51 (k : Nat) : ConOk Tryd.prog (c51 k) :=
  fn_at (okF51 k) (cn := c51 k) (fn := Tryd.f51) (code := bodyOf Tryd.f51) (m := ⟨23, []⟩) (gs := []) (by kernel_rfl) (by kernel_rfl) (by kernel_rfl) (by kernel_rfl) (by kernel_rfl) (fun _ => by kernel_rfl)
    [(3, lo51_3 k)] (fun c hP hm hg => (LInv.of (code := (bodyOf Tryd.f51)) (bs := [(lpAt (bodyOf Tryd.f51) [0])]) (by kernel_rfl) (LInv.cons (b := (lpAt (bodyOf Tryd.f51) [0])) (by kernel_rfl) (lp51_3 k hP hm hg) LInv.nil))) (ev51 k)
def c24 (k : Nat) : Con := ⟨24, [(T_Conf, false)], [T_Conf], (.own true), fun x => laws_toConf k x.1⟩
def F24 (k : Nat) : List Con := [c50 k, c51 k]
theorem okF24 (k : Nat) : ∀ cn ∈ F24 k, ConOk Tryd.prog cn := (conCons (ok50 k) (conCons (ok51 k) conNil))
theorem ev24 (k : Nat) (x) : evF Tryd.prog (F24 k) (inlN Tryd.prog (F24 k) 4) [] Tryd.f24 (bodyOf Tryd.f24) (c24 k).ps (c24 k).rs (c24 k).rm x = (c24 k).m x := by kernel_rfl
theorem ok24 (k : Nat) : ConOk Tryd.prog (c24 k) :=
  fn_at (okF24 k) (cn := c24 k) (fn := Tryd.f24) (code := bodyOf Tryd.f24) (m := ⟨28, []⟩) (gs := []) (by kernel_rfl) (by kernel_rfl) (by kernel_rfl) (by kernel_rfl) (by kernel_rfl) (fun _ => by kernel_rfl)
    [] (fun c hP hm hg => (LInv.of (code := (bodyOf Tryd.f24)) (bs := []) (by kernel_rfl) LInv.nil)) (ev24 k)
def c84 (k : Nat) : Con := ⟨84, [(T_Table, false)], [(.int .i64)], (.own true), fun x => spec_l11Count k x.1⟩
def F84 (k : Nat) : List Con := []
theorem okF84 (k : Nat) : ∀ cn ∈ F84 k, ConOk Tryd.prog cn := conNil
abbrev S84_3 : Shape := [(1, .boxv T_Table), (3, .v (.int .i64)), (4, .v (.int .i64))]
abbrev X84_3 : Exit × Shape := (Exit.exit 0, [(3, .v (.int .i64))])
abbrev R84_3 : List (Exit × Shape) := []
def lo84_3 (k : Nat) : LO := loopO [] [] [] S84_3 X84_3 R84_3 (iter (spec_l11Count_s3) k)
theorem st84_3 (k : Nat) (rec v) : evC Tryd.prog ⟨21, []⟩ (F84 k) (inlN Tryd.prog (F84 k) 4) [] (lpAt (bodyOf Tryd.f84) [0]) (Kb [] [] [] S84_3 X84_3 R84_3 rec) (mkSt [] [] S84_3 v.1 v.2) = (spec_l11Count_s3) rec v := by kernel_rfl
theorem lp84_3 (k : Nat) {c : Cx} (hP : c.P = Tryd.prog) (hm : c.m = ⟨21, []⟩) (hg : c.gs = []) : LoopOk c (lo84_3 k) (lpAt (bodyOf Tryd.f84) [0]) :=
  loop_at hP hm hg (okF84 k) (LInv.of (code := (lpAt (bodyOf Tryd.f84) [0])) (bs := []) (by kernel_rfl) LInv.nil) (fun rec v => st84_3 k rec v) k
theorem ev84 (k : Nat) (x) : evF Tryd.prog (F84 k) (inlN Tryd.prog (F84 k) 4) [(3, lo84_3 k)] Tryd.f84 (bodyOf Tryd.f84) (c84 k).ps (c84 k).rs (c84 k).rm x = (c84 k).m x := by kernel_rfl
theorem ok84 (k : Nat) : ConOk Tryd.prog (c84 k) :=
  fn_at (okF84 k) (cn := c84 k) (fn := Tryd.f84) (code := bodyOf Tryd.f84) (m := ⟨21, []⟩) (gs := []) (by kernel_rfl) (by kernel_rfl) (by kernel_rfl) (by kernel_rfl) (by kernel_rfl) (fun _ => by kernel_rfl)
    [(3, lo84_3 k)] (fun c hP hm hg => (LInv.of (code := (bodyOf Tryd.f84)) (bs := [(lpAt (bodyOf Tryd.f84) [0])]) (by kernel_rfl) (LInv.cons (b := (lpAt (bodyOf Tryd.f84) [0])) (by kernel_rfl) (lp84_3 k hP hm hg) LInv.nil))) (ev84 k)
def c109 (k : Nat) : Con := ⟨109, [((.int .i64), false)], [.bool], (.own true), fun x => spec_l03Half x.1⟩
def F109 (k : Nat) : List Con := []
theorem okF109 (k : Nat) : ∀ cn ∈ F109 k, ConOk Tryd.prog cn := conNil
theorem ev109 (k : Nat) (x) : evF Tryd.prog (F109 k) (inlN Tryd.prog (F109 k) 4) [] Tryd.f109 (bodyOf Tryd.f109) (c109 k).ps (c109 k).rs (c109 k).rm x = (c109 k).m x := by kernel_rfl
theorem ok109 (k : Nat) : ConOk Tryd.prog (c109 k) :=
  fn_at (okF109 k) (cn := c109 k) (fn := Tryd.f109) (code := bodyOf Tryd.f109) (m := ⟨9, []⟩) (gs := []) (by kernel_rfl) (by kernel_rfl) (by kernel_rfl) (by kernel_rfl) (by kernel_rfl) (fun _ => by kernel_rfl)
    [] (fun c hP hm hg => (LInv.of (code := (bodyOf Tryd.f109)) (bs := []) (by kernel_rfl) LInv.nil)) (ev109 k)
def c106 (k : Nat) : Con := ⟨106, [(T_Addr, false)], [.bool], (.own true), fun x => spec_AddrOk x.1⟩
def F106 (k : Nat) : List Con := [c109 k]
theorem okF106 (k : Nat) : ∀ cn ∈ F106 k, ConOk Tryd.prog cn := (conCons (ok109 k) conNil)
theorem ev106 (k : Nat) (x) : evF Tryd.prog (F106 k) (inlN Tryd.prog (F106 k) 4) [] Tryd.f106 (bodyOf Tryd.f106) (c106 k).ps (c106 k).rs (c106 k).rm x = (c106 k).m x := by kernel_rfl
theorem ok106 (k : Nat) : ConOk Tryd.prog (c106 k) :=
  fn_at (okF106 k) (cn := c106 k) (fn := Tryd.f106) (code := bodyOf Tryd.f106) (m := ⟨47, []⟩) (gs := []) (by kernel_rfl) (by kernel_rfl) (by kernel_rfl) (by kernel_rfl) (by kernel_rfl) (fun _ => by kernel_rfl)
    [] (fun c hP hm hg => (LInv.of (code := (bodyOf Tryd.f106)) (bs := []) (by kernel_rfl) LInv.nil)) (ev106 k)
def c101 (k : Nat) : Con := ⟨101, [(T_Addr, false), (T_Addr, false)], [.bool], (.own true), fun x => spec_l07Pair x.1 x.2.1⟩
def F101 (k : Nat) : List Con := [c106 k]
theorem okF101 (k : Nat) : ∀ cn ∈ F101 k, ConOk Tryd.prog cn := (conCons (ok106 k) conNil)
theorem ev101 (k : Nat) (x) : evF Tryd.prog (F101 k) (inlN Tryd.prog (F101 k) 4) [] Tryd.f101 (bodyOf Tryd.f101) (c101 k).ps (c101 k).rs (c101 k).rm x = (c101 k).m x := by kernel_rfl
theorem ok101 (k : Nat) : ConOk Tryd.prog (c101 k) :=
  fn_at (okF101 k) (cn := c101 k) (fn := Tryd.f101) (code := bodyOf Tryd.f101) (m := ⟨18, []⟩) (gs := []) (by kernel_rfl) (by kernel_rfl) (by kernel_rfl) (by kernel_rfl) (by kernel_rfl) (fun _ => by kernel_rfl)
    [] (fun c hP hm hg => (LInv.of (code := (bodyOf Tryd.f101)) (bs := []) (by kernel_rfl) LInv.nil)) (ev101 k)
def c102 (k : Nat) : Con := ⟨102, [((.int .i64), false), ((.int .i64), false)], [.bool], (.own true), fun x => spec_l05In x.1 x.2.1⟩
def F102 (k : Nat) : List Con := []
theorem okF102 (k : Nat) : ∀ cn ∈ F102 k, ConOk Tryd.prog cn := conNil
theorem ev102 (k : Nat) (x) : evF Tryd.prog (F102 k) (inlN Tryd.prog (F102 k) 4) [] Tryd.f102 (bodyOf Tryd.f102) (c102 k).ps (c102 k).rs (c102 k).rm x = (c102 k).m x := by kernel_rfl
theorem ok102 (k : Nat) : ConOk Tryd.prog (c102 k) :=
  fn_at (okF102 k) (cn := c102 k) (fn := Tryd.f102) (code := bodyOf Tryd.f102) (m := ⟨12, []⟩) (gs := []) (by kernel_rfl) (by kernel_rfl) (by kernel_rfl) (by kernel_rfl) (by kernel_rfl) (fun _ => by kernel_rfl)
    [] (fun c hP hm hg => (LInv.of (code := (bodyOf Tryd.f102)) (bs := []) (by kernel_rfl) LInv.nil)) (ev102 k)
def c94 (k : Nat) : Con := ⟨94, [(T_Key, false)], [.bool], (.own true), fun x => spec_KeyOk x.1⟩
def F94 (k : Nat) : List Con := [c101 k, c102 k]
theorem okF94 (k : Nat) : ∀ cn ∈ F94 k, ConOk Tryd.prog cn := (conCons (ok101 k) (conCons (ok102 k) conNil))
theorem ev94 (k : Nat) (x) : evF Tryd.prog (F94 k) (inlN Tryd.prog (F94 k) 4) [] Tryd.f94 (bodyOf Tryd.f94) (c94 k).ps (c94 k).rs (c94 k).rm x = (c94 k).m x := by kernel_rfl
theorem ok94 (k : Nat) : ConOk Tryd.prog (c94 k) :=
  fn_at (okF94 k) (cn := c94 k) (fn := Tryd.f94) (code := bodyOf Tryd.f94) (m := ⟨23, []⟩) (gs := []) (by kernel_rfl) (by kernel_rfl) (by kernel_rfl) (by kernel_rfl) (by kernel_rfl) (fun _ => by kernel_rfl)
    [] (fun c hP hm hg => (LInv.of (code := (bodyOf Tryd.f94)) (bs := []) (by kernel_rfl) LInv.nil)) (ev94 k)
def c85 (k : Nat) : Con := ⟨85, [(T_FlowKey, false)], [.bool], (.own true), fun x => spec_FlowKeyOk x.1⟩
def F85 (k : Nat) : List Con := [c94 k]
theorem okF85 (k : Nat) : ∀ cn ∈ F85 k, ConOk Tryd.prog cn := (conCons (ok94 k) conNil)
theorem ev85 (k : Nat) (x) : evF Tryd.prog (F85 k) (inlN Tryd.prog (F85 k) 4) [] Tryd.f85 (bodyOf Tryd.f85) (c85 k).ps (c85 k).rs (c85 k).rm x = (c85 k).m x := by kernel_rfl
theorem ok85 (k : Nat) : ConOk Tryd.prog (c85 k) :=
  fn_at (okF85 k) (cn := c85 k) (fn := Tryd.f85) (code := bodyOf Tryd.f85) (m := ⟨16, []⟩) (gs := []) (by kernel_rfl) (by kernel_rfl) (by kernel_rfl) (by kernel_rfl) (by kernel_rfl) (fun _ => by kernel_rfl)
    [] (fun c hP hm hg => (LInv.of (code := (bodyOf Tryd.f85)) (bs := []) (by kernel_rfl) LInv.nil)) (ev85 k)
def c86 (k : Nat) : Con := ⟨86, [(T_Table, false), (T_FlowKey, false)], [(.int .i64)], (.own true), fun x => spec_l11Place k x.1 x.2.1⟩
def F86 (k : Nat) : List Con := []
theorem okF86 (k : Nat) : ∀ cn ∈ F86 k, ConOk Tryd.prog cn := conNil
abbrev S86_2 : Shape := [(2, .boxv T_Table), (3, .box true T_FlowKey), (5, .v (.int .i64))]
abbrev X86_2 : Exit × Shape := (Exit.ret, [(4, .v (.int .i64))])
abbrev R86_2 : List (Exit × Shape) := [(Exit.exit 0, [])]
def lo86_2 (k : Nat) : LO := loopO [] [] [] S86_2 X86_2 R86_2 (iter (spec_l11Place_s2) k)
theorem st86_2 (k : Nat) (rec v) : evC Tryd.prog ⟨30, []⟩ (F86 k) (inlN Tryd.prog (F86 k) 4) [] (lpAt (bodyOf Tryd.f86) [0]) (Kb [] [] [] S86_2 X86_2 R86_2 rec) (mkSt [] [] S86_2 v.1 v.2) = (spec_l11Place_s2) rec v := by kernel_rfl
theorem lp86_2 (k : Nat) {c : Cx} (hP : c.P = Tryd.prog) (hm : c.m = ⟨30, []⟩) (hg : c.gs = []) : LoopOk c (lo86_2 k) (lpAt (bodyOf Tryd.f86) [0]) :=
  loop_at hP hm hg (okF86 k) (LInv.of (code := (lpAt (bodyOf Tryd.f86) [0])) (bs := []) (by kernel_rfl) LInv.nil) (fun rec v => st86_2 k rec v) k
theorem ev86 (k : Nat) (x) : evF Tryd.prog (F86 k) (inlN Tryd.prog (F86 k) 4) [(2, lo86_2 k)] Tryd.f86 (bodyOf Tryd.f86) (c86 k).ps (c86 k).rs (c86 k).rm x = (c86 k).m x := by kernel_rfl
theorem ok86 (k : Nat) : ConOk Tryd.prog (c86 k) :=
  fn_at (okF86 k) (cn := c86 k) (fn := Tryd.f86) (code := bodyOf Tryd.f86) (m := ⟨30, []⟩) (gs := []) (by kernel_rfl) (by kernel_rfl) (by kernel_rfl) (by kernel_rfl) (by kernel_rfl) (fun _ => by kernel_rfl)
    [(2, lo86_2 k)] (fun c hP hm hg => (LInv.of (code := (bodyOf Tryd.f86)) (bs := [(lpAt (bodyOf Tryd.f86) [0])]) (by kernel_rfl) (LInv.cons (b := (lpAt (bodyOf Tryd.f86) [0])) (by kernel_rfl) (lp86_2 k hP hm hg) LInv.nil))) (ev86 k)
def c111 (k : Nat) : Con := ⟨111, [((.int .i64), false), ((.int .i64), false)], [(.int .i64)], (.own true), fun x => spec_l01Low x.1 x.2.1⟩
def F111 (k : Nat) : List Con := []
theorem okF111 (k : Nat) : ∀ cn ∈ F111 k, ConOk Tryd.prog cn := conNil
theorem ev111 (k : Nat) (x) : evF Tryd.prog (F111 k) (inlN Tryd.prog (F111 k) 4) [] Tryd.f111 (bodyOf Tryd.f111) (c111 k).ps (c111 k).rs (c111 k).rm x = (c111 k).m x := by kernel_rfl
theorem ok111 (k : Nat) : ConOk Tryd.prog (c111 k) :=
  fn_at (okF111 k) (cn := c111 k) (fn := Tryd.f111) (code := bodyOf Tryd.f111) (m := ⟨15, []⟩) (gs := []) (by kernel_rfl) (by kernel_rfl) (by kernel_rfl) (by kernel_rfl) (by kernel_rfl) (fun _ => by kernel_rfl)
    [] (fun c hP hm hg => (LInv.of (code := (bodyOf Tryd.f111)) (bs := []) (by kernel_rfl) LInv.nil)) (ev111 k)
def c108 (k : Nat) : Con := ⟨108, [((.int .i64), false)], [(.sl (.int .u8))], (.own true), fun x => spec_Put16 x.1⟩
def F108 (k : Nat) : List Con := [c111 k]
theorem okF108 (k : Nat) : ∀ cn ∈ F108 k, ConOk Tryd.prog cn := (conCons (ok111 k) conNil)
theorem ev108 (k : Nat) (x) : evF Tryd.prog (F108 k) (inlN Tryd.prog (F108 k) 4) [] Tryd.f108 (bodyOf Tryd.f108) (c108 k).ps (c108 k).rs (c108 k).rm x = (c108 k).m x := by kernel_rfl
theorem ok108 (k : Nat) : ConOk Tryd.prog (c108 k) :=
  fn_at (okF108 k) (cn := c108 k) (fn := Tryd.f108) (code := bodyOf Tryd.f108) (m := ⟨13, []⟩) (gs := []) (by kernel_rfl) (by kernel_rfl) (by kernel_rfl) (by kernel_rfl) (by kernel_rfl) (fun _ => by kernel_rfl)
    [] (fun c hP hm hg => (LInv.of (code := (bodyOf Tryd.f108)) (bs := []) (by kernel_rfl) LInv.nil)) (ev108 k)
def c110 (k : Nat) : Con := ⟨110, [((.int .i64), false)], [(.sl (.int .u8))], (.own true), fun x => spec_Put32 x.1⟩
def F110 (k : Nat) : List Con := [c111 k, c108 k]
theorem okF110 (k : Nat) : ∀ cn ∈ F110 k, ConOk Tryd.prog cn := (conCons (ok111 k) (conCons (ok108 k) conNil))
theorem ev110 (k : Nat) (x) : evF Tryd.prog (F110 k) (inlN Tryd.prog (F110 k) 4) [] Tryd.f110 (bodyOf Tryd.f110) (c110 k).ps (c110 k).rs (c110 k).rm x = (c110 k).m x := by kernel_rfl
theorem ok110 (k : Nat) : ConOk Tryd.prog (c110 k) :=
  fn_at (okF110 k) (cn := c110 k) (fn := Tryd.f110) (code := bodyOf Tryd.f110) (m := ⟨13, []⟩) (gs := []) (by kernel_rfl) (by kernel_rfl) (by kernel_rfl) (by kernel_rfl) (by kernel_rfl) (fun _ => by kernel_rfl)
    [] (fun c hP hm hg => (LInv.of (code := (bodyOf Tryd.f110)) (bs := []) (by kernel_rfl) LInv.nil)) (ev110 k)
def c107 (k : Nat) : Con := ⟨107, [(T_Addr, false)], [(.sl (.int .u8))], (.own true), fun x => spec_AddrBytes x.1⟩
def F107 (k : Nat) : List Con := [c106 k, c110 k]
theorem okF107 (k : Nat) : ∀ cn ∈ F107 k, ConOk Tryd.prog cn := (conCons (ok106 k) (conCons (ok110 k) conNil))
theorem ev107 (k : Nat) (x) : evF Tryd.prog (F107 k) (inlN Tryd.prog (F107 k) 4) [] Tryd.f107 (bodyOf Tryd.f107) (c107 k).ps (c107 k).rs (c107 k).rm x = (c107 k).m x := by kernel_rfl
theorem ok107 (k : Nat) : ConOk Tryd.prog (c107 k) :=
  fn_at (okF107 k) (cn := c107 k) (fn := Tryd.f107) (code := bodyOf Tryd.f107) (m := ⟨29, []⟩) (gs := []) (by kernel_rfl) (by kernel_rfl) (by kernel_rfl) (by kernel_rfl) (by kernel_rfl) (fun _ => by kernel_rfl)
    [] (fun c hP hm hg => (LInv.of (code := (bodyOf Tryd.f107)) (bs := []) (by kernel_rfl) LInv.nil)) (ev107 k)
def c103 (k : Nat) : Con := ⟨103, [(T_FlowKey, false)], [(.sl (.int .u8))], (.own true), fun x => spec_l11Bytes x.1⟩
def F103 (k : Nat) : List Con := [c107 k, c108 k]
theorem okF103 (k : Nat) : ∀ cn ∈ F103 k, ConOk Tryd.prog cn := (conCons (ok107 k) (conCons (ok108 k) conNil))
theorem ev103 (k : Nat) (x) : evF Tryd.prog (F103 k) (inlN Tryd.prog (F103 k) 4) [] Tryd.f103 (bodyOf Tryd.f103) (c103 k).ps (c103 k).rs (c103 k).rm x = (c103 k).m x := by kernel_rfl
theorem ok103 (k : Nat) : ConOk Tryd.prog (c103 k) :=
  fn_at (okF103 k) (cn := c103 k) (fn := Tryd.f103) (code := bodyOf Tryd.f103) (m := ⟨42, []⟩) (gs := []) (by kernel_rfl) (by kernel_rfl) (by kernel_rfl) (by kernel_rfl) (by kernel_rfl) (fun _ => by kernel_rfl)
    [] (fun c hP hm hg => (LInv.of (code := (bodyOf Tryd.f103)) (bs := []) (by kernel_rfl) LInv.nil)) (ev103 k)
def c95 (k : Nat) : Con := ⟨95, [((.int .i64), false), (T_FlowKey, false)], [(.int .i64)], (.own true), fun x => spec_HashOf k x.1 x.2.1⟩
def F95 (k : Nat) : List Con := [c85 k, c103 k]
theorem okF95 (k : Nat) : ∀ cn ∈ F95 k, ConOk Tryd.prog cn := (conCons (ok85 k) (conCons (ok103 k) conNil))
abbrev S95_6 : Shape := [(5, .v (.int .i64)), (6, .own true (.sl (.int .u8))), (7, .v (.int .i64))]
abbrev X95_6 : Exit × Shape := (Exit.exit 0, [(5, .v (.int .i64))])
abbrev R95_6 : List (Exit × Shape) := []
def lo95_6 (k : Nat) : LO := loopO [] [] [] S95_6 X95_6 R95_6 (iter (spec_HashOf_s6) k)
theorem st95_6 (k : Nat) (rec v) : evC Tryd.prog ⟨41, []⟩ (F95 k) (inlN Tryd.prog (F95 k) 4) [] (lpAt (bodyOf Tryd.f95) [0]) (Kb [] [] [] S95_6 X95_6 R95_6 rec) (mkSt [] [] S95_6 v.1 v.2) = (spec_HashOf_s6) rec v := by kernel_rfl
theorem lp95_6 (k : Nat) {c : Cx} (hP : c.P = Tryd.prog) (hm : c.m = ⟨41, []⟩) (hg : c.gs = []) : LoopOk c (lo95_6 k) (lpAt (bodyOf Tryd.f95) [0]) :=
  loop_at hP hm hg (okF95 k) (LInv.of (code := (lpAt (bodyOf Tryd.f95) [0])) (bs := []) (by kernel_rfl) LInv.nil) (fun rec v => st95_6 k rec v) k
theorem ev95 (k : Nat) (x) : evF Tryd.prog (F95 k) (inlN Tryd.prog (F95 k) 4) [(6, lo95_6 k)] Tryd.f95 (bodyOf Tryd.f95) (c95 k).ps (c95 k).rs (c95 k).rm x = (c95 k).m x := by kernel_rfl
theorem ok95 (k : Nat) : ConOk Tryd.prog (c95 k) :=
  fn_at (okF95 k) (cn := c95 k) (fn := Tryd.f95) (code := bodyOf Tryd.f95) (m := ⟨41, []⟩) (gs := []) (by kernel_rfl) (by kernel_rfl) (by kernel_rfl) (by kernel_rfl) (by kernel_rfl) (fun _ => by kernel_rfl)
    [(6, lo95_6 k)] (fun c hP hm hg => (LInv.of (code := (bodyOf Tryd.f95)) (bs := [(lpAt (bodyOf Tryd.f95) [0])]) (by kernel_rfl) (LInv.cons (b := (lpAt (bodyOf Tryd.f95) [0])) (by kernel_rfl) (lp95_6 k hP hm hg) LInv.nil))) (ev95 k)
def c87 (k : Nat) : Con := ⟨87, [(T_Table, false), (T_FlowKey, false)], [(.int .i64)], (.own true), fun x => spec_l11Home k x.1 x.2.1⟩
def F87 (k : Nat) : List Con := [c95 k]
theorem okF87 (k : Nat) : ∀ cn ∈ F87 k, ConOk Tryd.prog cn := (conCons (ok95 k) conNil)
theorem ev87 (k : Nat) (x) : evF Tryd.prog (F87 k) (inlN Tryd.prog (F87 k) 4) [] Tryd.f87 (bodyOf Tryd.f87) (c87 k).ps (c87 k).rs (c87 k).rm x = (c87 k).m x := by kernel_rfl
theorem ok87 (k : Nat) : ConOk Tryd.prog (c87 k) :=
  fn_at (okF87 k) (cn := c87 k) (fn := Tryd.f87) (code := bodyOf Tryd.f87) (m := ⟨13, []⟩) (gs := []) (by kernel_rfl) (by kernel_rfl) (by kernel_rfl) (by kernel_rfl) (by kernel_rfl) (fun _ => by kernel_rfl)
    [] (fun c hP hm hg => (LInv.of (code := (bodyOf Tryd.f87)) (bs := []) (by kernel_rfl) LInv.nil)) (ev87 k)
def c76 (k : Nat) : Con := ⟨76, [(T_Table, false)], [.bool], (.own true), fun x => spec_TableOk k x.1⟩
def F76 (k : Nat) : List Con := [c84 k, c85 k, c86 k, c87 k]
theorem okF76 (k : Nat) : ∀ cn ∈ F76 k, ConOk Tryd.prog cn := (conCons (ok84 k) (conCons (ok85 k) (conCons (ok86 k) (conCons (ok87 k) conNil))))
abbrev S76_16 : Shape := [(1, .boxv T_Table), (3, .v (.int .i64)), (4, .v (.int .i64)), (6, .v (.int .i64))]
abbrev X76_16 : Exit × Shape := (Exit.ret, [(2, .v .bool)])
abbrev R76_16 : List (Exit × Shape) := [(Exit.exit 2, [(1, .boxv T_Table), (3, .v (.int .i64)), (4, .v (.int .i64))])]
def lo76_16 (k : Nat) : LO := loopO [] [] [] S76_16 X76_16 R76_16 (iter (spec_TableOk_s16) k)
theorem st76_16 (k : Nat) (rec v) : evC Tryd.prog ⟨100, []⟩ (F76 k) (inlN Tryd.prog (F76 k) 4) [] (lpAt (bodyOf Tryd.f76) [0, 0]) (Kb [] [] [] S76_16 X76_16 R76_16 rec) (mkSt [] [] S76_16 v.1 v.2) = (spec_TableOk_s16) rec v := by kernel_rfl
theorem lp76_16 (k : Nat) {c : Cx} (hP : c.P = Tryd.prog) (hm : c.m = ⟨100, []⟩) (hg : c.gs = []) : LoopOk c (lo76_16 k) (lpAt (bodyOf Tryd.f76) [0, 0]) :=
  loop_at hP hm hg (okF76 k) (LInv.of (code := (lpAt (bodyOf Tryd.f76) [0, 0])) (bs := []) (by kernel_rfl) LInv.nil) (fun rec v => st76_16 k rec v) k
abbrev S76_7 : Shape := [(1, .boxv T_Table), (3, .v (.int .i64)), (4, .v (.int .i64))]
abbrev X76_7 : Exit × Shape := (Exit.ret, [(2, .v .bool)])
abbrev R76_7 : List (Exit × Shape) := [(Exit.exit 0, [])]
def lo76_7 (k : Nat) : LO := loopO [] [] [] S76_7 X76_7 R76_7 (iter (spec_TableOk_s7 k) k)
theorem st76_7 (k : Nat) (rec v) : evC Tryd.prog ⟨100, []⟩ (F76 k) (inlN Tryd.prog (F76 k) 4) [(16, lo76_16 k)] (lpAt (bodyOf Tryd.f76) [0]) (Kb [] [] [] S76_7 X76_7 R76_7 rec) (mkSt [] [] S76_7 v.1 v.2) = (spec_TableOk_s7 k) rec v := by kernel_rfl
theorem lp76_7 (k : Nat) {c : Cx} (hP : c.P = Tryd.prog) (hm : c.m = ⟨100, []⟩) (hg : c.gs = []) : LoopOk c (lo76_7 k) (lpAt (bodyOf Tryd.f76) [0]) :=
  loop_at hP hm hg (okF76 k) (LInv.of (code := (lpAt (bodyOf Tryd.f76) [0])) (bs := [(lpAt (bodyOf Tryd.f76) [0, 0])]) (by kernel_rfl) (LInv.cons (b := (lpAt (bodyOf Tryd.f76) [0, 0])) (by kernel_rfl) (lp76_16 k hP hm hg) LInv.nil)) (fun rec v => st76_7 k rec v) k
theorem ev76 (k : Nat) (x) : evF Tryd.prog (F76 k) (inlN Tryd.prog (F76 k) 4) [(7, lo76_7 k)] Tryd.f76 (bodyOf Tryd.f76) (c76 k).ps (c76 k).rs (c76 k).rm x = (c76 k).m x := by kernel_rfl
theorem ok76 (k : Nat) : ConOk Tryd.prog (c76 k) :=
  fn_at (okF76 k) (cn := c76 k) (fn := Tryd.f76) (code := bodyOf Tryd.f76) (m := ⟨100, []⟩) (gs := []) (by kernel_rfl) (by kernel_rfl) (by kernel_rfl) (by kernel_rfl) (by kernel_rfl) (fun _ => by kernel_rfl)
    [(7, lo76_7 k)] (fun c hP hm hg => (LInv.of (code := (bodyOf Tryd.f76)) (bs := [(lpAt (bodyOf Tryd.f76) [0])]) (by kernel_rfl) (LInv.cons (b := (lpAt (bodyOf Tryd.f76) [0])) (by kernel_rfl) (lp76_7 k hP hm hg) LInv.nil))) (ev76 k)
def c62 (k : Nat) : Con := ⟨62, [((.int .i64), false), ((.int .i64), false)], [T_Table], (.own true), fun x => spec_TableNew k x.1 x.2.1⟩
def F62 (k : Nat) : List Con := [c76 k]
theorem okF62 (k : Nat) : ∀ cn ∈ F62 k, ConOk Tryd.prog cn := (conCons (ok76 k) conNil)
theorem ev62 (k : Nat) (x) : evF Tryd.prog (F62 k) (inlN Tryd.prog (F62 k) 4) [] Tryd.f62 (bodyOf Tryd.f62) (c62 k).ps (c62 k).rs (c62 k).rm x = (c62 k).m x := by kernel_rfl
theorem ok62 (k : Nat) : ConOk Tryd.prog (c62 k) :=
  fn_at (okF62 k) (cn := c62 k) (fn := Tryd.f62) (code := bodyOf Tryd.f62) (m := ⟨22, []⟩) (gs := []) (by kernel_rfl) (by kernel_rfl) (by kernel_rfl) (by kernel_rfl) (by kernel_rfl) (fun _ => by kernel_rfl)
    [] (fun c hP hm hg => (LInv.of (code := (bodyOf Tryd.f62)) (bs := []) (by kernel_rfl) LInv.nil)) (ev62 k)
def c88 (k : Nat) : Con := ⟨88, [(T_Line, false)], [(.sl T_Job)], (.own true), fun x => spec_l21All x.1⟩
def F88 (k : Nat) : List Con := []
theorem okF88 (k : Nat) : ∀ cn ∈ F88 k, ConOk Tryd.prog cn := conNil
theorem ev88 (k : Nat) (x) : evF Tryd.prog (F88 k) (inlN Tryd.prog (F88 k) 4) [] Tryd.f88 (bodyOf Tryd.f88) (c88 k).ps (c88 k).rs (c88 k).rm x = (c88 k).m x := by kernel_rfl
theorem ok88 (k : Nat) : ConOk Tryd.prog (c88 k) :=
  fn_at (okF88 k) (cn := c88 k) (fn := Tryd.f88) (code := bodyOf Tryd.f88) (m := ⟨13, []⟩) (gs := []) (by kernel_rfl) (by kernel_rfl) (by kernel_rfl) (by kernel_rfl) (by kernel_rfl) (fun _ => by kernel_rfl)
    [] (fun c hP hm hg => (LInv.of (code := (bodyOf Tryd.f88)) (bs := []) (by kernel_rfl) LInv.nil)) (ev88 k)
def c77 (k : Nat) : Con := ⟨77, [(T_Line, false)], [.bool], (.own true), fun x => spec_LineOk k x.1⟩
def F77 (k : Nat) : List Con := [c88 k]
theorem okF77 (k : Nat) : ∀ cn ∈ F77 k, ConOk Tryd.prog cn := (conCons (ok88 k) conNil)
abbrev S77_12 : Shape := [(1, .boxv T_Line), (3, .own true (.sl T_Job)), (4, .v (.int .i64)), (5, .v (.int .i64))]
abbrev X77_12 : Exit × Shape := (Exit.ret, [(2, .v .bool)])
abbrev R77_12 : List (Exit × Shape) := [(Exit.exit 2, [(1, .boxv T_Line), (3, .own true (.sl T_Job)), (4, .v (.int .i64))])]
def lo77_12 (k : Nat) : LO := loopO [] [] [] S77_12 X77_12 R77_12 (iter (spec_LineOk_s12) k)
theorem st77_12 (k : Nat) (rec v) : evC Tryd.prog ⟨154, []⟩ (F77 k) (inlN Tryd.prog (F77 k) 4) [] (lpAt (bodyOf Tryd.f77) [0, 0]) (Kb [] [] [] S77_12 X77_12 R77_12 rec) (mkSt [] [] S77_12 v.1 v.2) = (spec_LineOk_s12) rec v := by kernel_rfl
theorem lp77_12 (k : Nat) {c : Cx} (hP : c.P = Tryd.prog) (hm : c.m = ⟨154, []⟩) (hg : c.gs = []) : LoopOk c (lo77_12 k) (lpAt (bodyOf Tryd.f77) [0, 0]) :=
  loop_at hP hm hg (okF77 k) (LInv.of (code := (lpAt (bodyOf Tryd.f77) [0, 0])) (bs := []) (by kernel_rfl) LInv.nil) (fun rec v => st77_12 k rec v) k
abbrev S77_7 : Shape := [(1, .boxv T_Line), (3, .own true (.sl T_Job)), (4, .v (.int .i64))]
abbrev X77_7 : Exit × Shape := (Exit.ret, [(2, .v .bool)])
abbrev R77_7 : List (Exit × Shape) := [(Exit.exit 0, [])]
def lo77_7 (k : Nat) : LO := loopO [] [] [] S77_7 X77_7 R77_7 (iter (spec_LineOk_s7 k) k)
theorem st77_7 (k : Nat) (rec v) : evC Tryd.prog ⟨154, []⟩ (F77 k) (inlN Tryd.prog (F77 k) 4) [(12, lo77_12 k)] (lpAt (bodyOf Tryd.f77) [0]) (Kb [] [] [] S77_7 X77_7 R77_7 rec) (mkSt [] [] S77_7 v.1 v.2) = (spec_LineOk_s7 k) rec v := by kernel_rfl
theorem lp77_7 (k : Nat) {c : Cx} (hP : c.P = Tryd.prog) (hm : c.m = ⟨154, []⟩) (hg : c.gs = []) : LoopOk c (lo77_7 k) (lpAt (bodyOf Tryd.f77) [0]) :=
  loop_at hP hm hg (okF77 k) (LInv.of (code := (lpAt (bodyOf Tryd.f77) [0])) (bs := [(lpAt (bodyOf Tryd.f77) [0, 0])]) (by kernel_rfl) (LInv.cons (b := (lpAt (bodyOf Tryd.f77) [0, 0])) (by kernel_rfl) (lp77_12 k hP hm hg) LInv.nil)) (fun rec v => st77_7 k rec v) k
theorem ev77 (k : Nat) (x) : evF Tryd.prog (F77 k) (inlN Tryd.prog (F77 k) 4) [(7, lo77_7 k)] Tryd.f77 (bodyOf Tryd.f77) (c77 k).ps (c77 k).rs (c77 k).rm x = (c77 k).m x := by kernel_rfl
theorem ok77 (k : Nat) : ConOk Tryd.prog (c77 k) :=
  fn_at (okF77 k) (cn := c77 k) (fn := Tryd.f77) (code := bodyOf Tryd.f77) (m := ⟨154, []⟩) (gs := []) (by kernel_rfl) (by kernel_rfl) (by kernel_rfl) (by kernel_rfl) (by kernel_rfl) (fun _ => by kernel_rfl)
    [(7, lo77_7 k)] (fun c hP hm hg => (LInv.of (code := (bodyOf Tryd.f77)) (bs := [(lpAt (bodyOf Tryd.f77) [0])]) (by kernel_rfl) (LInv.cons (b := (lpAt (bodyOf Tryd.f77) [0])) (by kernel_rfl) (lp77_7 k hP hm hg) LInv.nil))) (ev77 k)
def c63 (k : Nat) : Con := ⟨63, [((.int .i64), false)], [T_Line], (.own true), fun x => spec_LineNew k x.1⟩
def F63 (k : Nat) : List Con := [c77 k]
theorem okF63 (k : Nat) : ∀ cn ∈ F63 k, ConOk Tryd.prog cn := (conCons (ok77 k) conNil)
theorem ev63 (k : Nat) (x) : evF Tryd.prog (F63 k) (inlN Tryd.prog (F63 k) 4) [] Tryd.f63 (bodyOf Tryd.f63) (c63 k).ps (c63 k).rs (c63 k).rm x = (c63 k).m x := by kernel_rfl
theorem ok63 (k : Nat) : ConOk Tryd.prog (c63 k) :=
  fn_at (okF63 k) (cn := c63 k) (fn := Tryd.f63) (code := bodyOf Tryd.f63) (m := ⟨10, []⟩) (gs := []) (by kernel_rfl) (by kernel_rfl) (by kernel_rfl) (by kernel_rfl) (by kernel_rfl) (fun _ => by kernel_rfl)
    [] (fun c hP hm hg => (LInv.of (code := (bodyOf Tryd.f63)) (bs := []) (by kernel_rfl) LInv.nil)) (ev63 k)
def c64 (k : Nat) : Con := ⟨64, [((.int .i64), false)], [.bool], (.own true), fun x => spec_l13Delta x.1⟩
def F64 (k : Nat) : List Con := []
theorem okF64 (k : Nat) : ∀ cn ∈ F64 k, ConOk Tryd.prog cn := conNil
theorem ev64 (k : Nat) (x) : evF Tryd.prog (F64 k) (inlN Tryd.prog (F64 k) 4) [] Tryd.f64 (bodyOf Tryd.f64) (c64 k).ps (c64 k).rs (c64 k).rm x = (c64 k).m x := by kernel_rfl
theorem ok64 (k : Nat) : ConOk Tryd.prog (c64 k) :=
  fn_at (okF64 k) (cn := c64 k) (fn := Tryd.f64) (code := bodyOf Tryd.f64) (m := ⟨9, []⟩) (gs := []) (by kernel_rfl) (by kernel_rfl) (by kernel_rfl) (by kernel_rfl) (by kernel_rfl) (fun _ => by kernel_rfl)
    [] (fun c hP hm hg => (LInv.of (code := (bodyOf Tryd.f64)) (bs := []) (by kernel_rfl) LInv.nil)) (ev64 k)
def c65 (k : Nat) : Con := ⟨65, [(T_Limits, false)], [.bool], (.own true), fun x => spec_LimitsOk x.1⟩
def F65 (k : Nat) : List Con := []
theorem okF65 (k : Nat) : ∀ cn ∈ F65 k, ConOk Tryd.prog cn := conNil
theorem ev65 (k : Nat) (x) : evF Tryd.prog (F65 k) (inlN Tryd.prog (F65 k) 4) [] Tryd.f65 (bodyOf Tryd.f65) (c65 k).ps (c65 k).rs (c65 k).rm x = (c65 k).m x := by kernel_rfl
theorem ok65 (k : Nat) : ConOk Tryd.prog (c65 k) :=
  fn_at (okF65 k) (cn := c65 k) (fn := Tryd.f65) (code := bodyOf Tryd.f65) (m := ⟨39, []⟩) (gs := []) (by kernel_rfl) (by kernel_rfl) (by kernel_rfl) (by kernel_rfl) (by kernel_rfl) (fun _ => by kernel_rfl)
    [] (fun c hP hm hg => (LInv.of (code := (bodyOf Tryd.f65)) (bs := []) (by kernel_rfl) LInv.nil)) (ev65 k)
def c66 (k : Nat) : Con := ⟨66, [(T_Prof, false)], [.bool], (.own true), fun x => spec_ProfOk x.1⟩
def F66 (k : Nat) : List Con := [c41 k]
theorem okF66 (k : Nat) : ∀ cn ∈ F66 k, ConOk Tryd.prog cn := (conCons (ok41 k) conNil)
theorem ev66 (k : Nat) (x) : evF Tryd.prog (F66 k) (inlN Tryd.prog (F66 k) 4) [] Tryd.f66 (bodyOf Tryd.f66) (c66 k).ps (c66 k).rs (c66 k).rm x = (c66 k).m x := by kernel_rfl
theorem ok66 (k : Nat) : ConOk Tryd.prog (c66 k) :=
  fn_at (okF66 k) (cn := c66 k) (fn := Tryd.f66) (code := bodyOf Tryd.f66) (m := ⟨11, []⟩) (gs := []) (by kernel_rfl) (by kernel_rfl) (by kernel_rfl) (by kernel_rfl) (by kernel_rfl) (fun _ => by kernel_rfl)
    [] (fun c hP hm hg => (LInv.of (code := (bodyOf Tryd.f66)) (bs := []) (by kernel_rfl) LInv.nil)) (ev66 k)
def c49 (k : Nat) : Con := ⟨49, [(T_Conf, false)], [.bool], (.own true), fun x => spec_ConfOk k x.1⟩
def F49 (k : Nat) : List Con := [c62 k, c63 k, c64 k, c65 k, c66 k]
theorem okF49 (k : Nat) : ∀ cn ∈ F49 k, ConOk Tryd.prog cn := (conCons (ok62 k) (conCons (ok63 k) (conCons (ok64 k) (conCons (ok65 k) (conCons (ok66 k) conNil)))))
abbrev S49_6 : Shape := [(1, .boxv T_Conf), (3, .v (.int .i64))]
abbrev X49_6 : Exit × Shape := (Exit.ret, [(2, .v .bool)])
abbrev R49_6 : List (Exit × Shape) := [(Exit.exit 0, [])]
def lo49_6 (k : Nat) : LO := loopO [] [] [] S49_6 X49_6 R49_6 (iter (spec_ConfOk_s6) k)
theorem st49_6 (k : Nat) (rec v) : evC Tryd.prog ⟨56, []⟩ (F49 k) (inlN Tryd.prog (F49 k) 4) [] (lpAt (bodyOf Tryd.f49) [0]) (Kb [] [] [] S49_6 X49_6 R49_6 rec) (mkSt [] [] S49_6 v.1 v.2) = (spec_ConfOk_s6) rec v := by kernel_rfl
theorem lp49_6 (k : Nat) {c : Cx} (hP : c.P = Tryd.prog) (hm : c.m = ⟨56, []⟩) (hg : c.gs = []) : LoopOk c (lo49_6 k) (lpAt (bodyOf Tryd.f49) [0]) :=
  loop_at hP hm hg (okF49 k) (LInv.of (code := (lpAt (bodyOf Tryd.f49) [0])) (bs := []) (by kernel_rfl) LInv.nil) (fun rec v => st49_6 k rec v) k
theorem ev49 (k : Nat) (x) : evF Tryd.prog (F49 k) (inlN Tryd.prog (F49 k) 4) [(6, lo49_6 k)] Tryd.f49 (bodyOf Tryd.f49) (c49 k).ps (c49 k).rs (c49 k).rm x = (c49 k).m x := by kernel_rfl
theorem ok49 (k : Nat) : ConOk Tryd.prog (c49 k) :=
  fn_at (okF49 k) (cn := c49 k) (fn := Tryd.f49) (code := bodyOf Tryd.f49) (m := ⟨56, []⟩) (gs := []) (by kernel_rfl) (by kernel_rfl) (by kernel_rfl) (by kernel_rfl) (by kernel_rfl) (fun _ => by kernel_rfl)
    [(6, lo49_6 k)] (fun c hP hm hg => (LInv.of (code := (bodyOf Tryd.f49)) (bs := [(lpAt (bodyOf Tryd.f49) [0])]) (by kernel_rfl) (LInv.cons (b := (lpAt (bodyOf Tryd.f49) [0])) (by kernel_rfl) (lp49_6 k hP hm hg) LInv.nil))) (ev49 k)
def c23 (k : Nat) : Con := ⟨23, [(T_Conf, false)], [.str], (.own true), fun x => spec_ConfText k x.1⟩
def F23 (k : Nat) : List Con := [c49 k, c29 k, c42 k]
theorem okF23 (k : Nat) : ∀ cn ∈ F23 k, ConOk Tryd.prog cn := (conCons (ok49 k) (conCons (ok29 k) (conCons (ok42 k) conNil)))
abbrev S23_10 : Shape := [(1, .boxv T_Conf), (3, .v .str), (5, .v (.int .i64))]
abbrev X23_10 : Exit × Shape := (Exit.exit 0, [(3, .v .str)])
abbrev R23_10 : List (Exit × Shape) := []
def lo23_10 (k : Nat) : LO := loopO [] [] [] S23_10 X23_10 R23_10 (iter (spec_ConfText_s10 k) k)
theorem st23_10 (k : Nat) (rec v) : evC Tryd.prog ⟨86, []⟩ (F23 k) (inlN Tryd.prog (F23 k) 4) [] (lpAt (bodyOf Tryd.f23) [0]) (Kb [] [] [] S23_10 X23_10 R23_10 rec) (mkSt [] [] S23_10 v.1 v.2) = (spec_ConfText_s10 k) rec v := by kernel_rfl
theorem lp23_10 (k : Nat) {c : Cx} (hP : c.P = Tryd.prog) (hm : c.m = ⟨86, []⟩) (hg : c.gs = []) : LoopOk c (lo23_10 k) (lpAt (bodyOf Tryd.f23) [0]) :=
  loop_at hP hm hg (okF23 k) (LInv.of (code := (lpAt (bodyOf Tryd.f23) [0])) (bs := []) (by kernel_rfl) LInv.nil) (fun rec v => st23_10 k rec v) k
theorem ev23 (k : Nat) (x) : evF Tryd.prog (F23 k) (inlN Tryd.prog (F23 k) 4) [(10, lo23_10 k)] Tryd.f23 (bodyOf Tryd.f23) (c23 k).ps (c23 k).rs (c23 k).rm x = (c23 k).m x := by kernel_rfl
theorem ok23 (k : Nat) : ConOk Tryd.prog (c23 k) :=
  fn_at (okF23 k) (cn := c23 k) (fn := Tryd.f23) (code := bodyOf Tryd.f23) (m := ⟨86, []⟩) (gs := []) (by kernel_rfl) (by kernel_rfl) (by kernel_rfl) (by kernel_rfl) (by kernel_rfl) (fun _ => by kernel_rfl)
    [(10, lo23_10 k)] (fun c hP hm hg => (LInv.of (code := (bodyOf Tryd.f23)) (bs := [(lpAt (bodyOf Tryd.f23) [0])]) (by kernel_rfl) (LInv.cons (b := (lpAt (bodyOf Tryd.f23) [0])) (by kernel_rfl) (lp23_10 k hP hm hg) LInv.nil))) (ev23 k)
def c68 (k : Nat) : Con := ⟨68, [((.int .i64), false)], [.bool], (.own true), fun x => impl_isCells x.1⟩
def F68 (k : Nat) : List Con := []
theorem okF68 (k : Nat) : ∀ cn ∈ F68 k, ConOk Tryd.prog cn := conNil
theorem ev68 (k : Nat) (x) : evF Tryd.prog (F68 k) (inlN Tryd.prog (F68 k) 4) [] Tryd.f68 (bodyOf Tryd.f68) (c68 k).ps (c68 k).rs (c68 k).rm x = (c68 k).m x := by kernel_rfl
theorem ok68 (k : Nat) : ConOk Tryd.prog (c68 k) :=
  fn_at (okF68 k) (cn := c68 k) (fn := Tryd.f68) (code := bodyOf Tryd.f68) (m := ⟨21, []⟩) (gs := []) (by kernel_rfl) (by kernel_rfl) (by kernel_rfl) (by kernel_rfl) (by kernel_rfl) (fun _ => by kernel_rfl)
    [] (fun c hP hm hg => (LInv.of (code := (bodyOf Tryd.f68)) (bs := []) (by kernel_rfl) LInv.nil)) (ev68 k)
def c69 (k : Nat) : Con := ⟨69, [((.int .i64), false)], [.bool], (.own true), fun x => impl_isDelta x.1⟩
def F69 (k : Nat) : List Con := [c61 k]
theorem okF69 (k : Nat) : ∀ cn ∈ F69 k, ConOk Tryd.prog cn := (conCons (ok61 k) conNil)
theorem ev69 (k : Nat) (x) : evF Tryd.prog (F69 k) (inlN Tryd.prog (F69 k) 4) [] Tryd.f69 (bodyOf Tryd.f69) (c69 k).ps (c69 k).rs (c69 k).rm x = (c69 k).m x := by kernel_rfl
theorem ok69 (k : Nat) : ConOk Tryd.prog (c69 k) :=
  fn_at (okF69 k) (cn := c69 k) (fn := Tryd.f69) (code := bodyOf Tryd.f69) (m := ⟨5, []⟩) (gs := []) (by kernel_rfl) (by kernel_rfl) (by kernel_rfl) (by kernel_rfl) (by kernel_rfl) (fun _ => by kernel_rfl)
    [] (fun c hP hm hg => (LInv.of (code := (bodyOf Tryd.f69)) (bs := []) (by kernel_rfl) LInv.nil)) (ev69 k)
def c70 (k : Nat) : Con := ⟨70, [(T_Limits, false)], [.bool], (.own true), fun x => impl_LimitsOk x.1⟩
def F70 (k : Nat) : List Con := [c61 k]
theorem okF70 (k : Nat) : ∀ cn ∈ F70 k, ConOk Tryd.prog cn := (conCons (ok61 k) conNil)
theorem ev70 (k : Nat) (x) : evF Tryd.prog (F70 k) (inlN Tryd.prog (F70 k) 4) [] Tryd.f70 (bodyOf Tryd.f70) (c70 k).ps (c70 k).rs (c70 k).rm x = (c70 k).m x := by kernel_rfl
theorem ok70 (k : Nat) : ConOk Tryd.prog (c70 k) :=
  fn_at (okF70 k) (cn := c70 k) (fn := Tryd.f70) (code := bodyOf Tryd.f70) (m := ⟨21, []⟩) (gs := []) (by kernel_rfl) (by kernel_rfl) (by kernel_rfl) (by kernel_rfl) (by kernel_rfl) (fun _ => by kernel_rfl)
    [] (fun c hP hm hg => (LInv.of (code := (bodyOf Tryd.f70)) (bs := []) (by kernel_rfl) LInv.nil)) (ev70 k)
def c80 (k : Nat) : Con := ⟨80, [(T_Prof, false)], [.bool], (.own true), fun x => impl_ProfOk x.1⟩
def F80 (k : Nat) : List Con := [c45 k]
theorem okF80 (k : Nat) : ∀ cn ∈ F80 k, ConOk Tryd.prog cn := (conCons (ok45 k) conNil)
theorem ev80 (k : Nat) (x) : evF Tryd.prog (F80 k) (inlN Tryd.prog (F80 k) 4) [] Tryd.f80 (bodyOf Tryd.f80) (c80 k).ps (c80 k).rs (c80 k).rm x = (c80 k).m x := by kernel_rfl
theorem ok80 (k : Nat) : ConOk Tryd.prog (c80 k) :=
  fn_at (okF80 k) (cn := c80 k) (fn := Tryd.f80) (code := bodyOf Tryd.f80) (m := ⟨11, []⟩) (gs := []) (by kernel_rfl) (by kernel_rfl) (by kernel_rfl) (by kernel_rfl) (by kernel_rfl) (fun _ => by kernel_rfl)
    [] (fun c hP hm hg => (LInv.of (code := (bodyOf Tryd.f80)) (bs := []) (by kernel_rfl) LInv.nil)) (ev80 k)
def c79 (k : Nat) : Con := ⟨79, [(T_Prof, false)], [.bool], (.own true), fun x => impl_areProfs_1 x.1⟩
def F79 (k : Nat) : List Con := [c80 k]
theorem okF79 (k : Nat) : ∀ cn ∈ F79 k, ConOk Tryd.prog cn := (conCons (ok80 k) conNil)
theorem ev79 (k : Nat) (x) : evF Tryd.prog (F79 k) (inlN Tryd.prog (F79 k) 4) [] Tryd.f79 (bodyOf Tryd.f79) (c79 k).ps (c79 k).rs (c79 k).rm x = (c79 k).m x := by kernel_rfl
theorem ok79 (k : Nat) : ConOk Tryd.prog (c79 k) :=
  fn_at (okF79 k) (cn := c79 k) (fn := Tryd.f79) (code := bodyOf Tryd.f79) (m := ⟨6, []⟩) (gs := []) (by kernel_rfl) (by kernel_rfl) (by kernel_rfl) (by kernel_rfl) (by kernel_rfl) (fun _ => by kernel_rfl)
    [] (fun c hP hm hg => (LInv.of (code := (bodyOf Tryd.f79)) (bs := []) (by kernel_rfl) LInv.nil)) (ev79 k)
def c89 (k : Nat) : Con := ⟨89, [((.sl T_Prof), false), ((.cl 79 .un), false)], [(.int .i64)], (.own true), fun x => slices_IndexFunc_impl_Prof_impl_Prof k x.1 x.2.1⟩
def F89 (k : Nat) : List Con := [c79 k]
theorem okF89 (k : Nat) : ∀ cn ∈ F89 k, ConOk Tryd.prog cn := (conCons (ok79 k) conNil)
abbrev S89_2 : Shape := [(0, .v (.sl T_Prof)), (1, .v (.cl 79 .un)), (7, .v (.int .i64)), (8, .v (.int .i64))]
abbrev X89_2 : Exit × Shape := (Exit.ret, [(4, .v (.int .i64))])
abbrev R89_2 : List (Exit × Shape) := [(Exit.exit 0, [])]
def lo89_2 (k : Nat) : LO := loopO [] [] [] S89_2 X89_2 R89_2 (iter (slices_IndexFunc_impl_Prof_impl_Prof_s2) k)
theorem st89_2 (k : Nat) (rec v) : evC Tryd.prog ⟨19, []⟩ (F89 k) (inlN Tryd.prog (F89 k) 4) [] (lpAt (bodyOf Tryd.f89) [0]) (Kb [] [] [] S89_2 X89_2 R89_2 rec) (mkSt [] [] S89_2 v.1 v.2) = (slices_IndexFunc_impl_Prof_impl_Prof_s2) rec v := by kernel_rfl
theorem lp89_2 (k : Nat) {c : Cx} (hP : c.P = Tryd.prog) (hm : c.m = ⟨19, []⟩) (hg : c.gs = []) : LoopOk c (lo89_2 k) (lpAt (bodyOf Tryd.f89) [0]) :=
  loop_at hP hm hg (okF89 k) (LInv.of (code := (lpAt (bodyOf Tryd.f89) [0])) (bs := []) (by kernel_rfl) LInv.nil) (fun rec v => st89_2 k rec v) k
theorem ev89 (k : Nat) (x) : evF Tryd.prog (F89 k) (inlN Tryd.prog (F89 k) 4) [(2, lo89_2 k)] Tryd.f89 (bodyOf Tryd.f89) (c89 k).ps (c89 k).rs (c89 k).rm x = (c89 k).m x := by kernel_rfl
theorem ok89 (k : Nat) : ConOk Tryd.prog (c89 k) :=
  fn_at (okF89 k) (cn := c89 k) (fn := Tryd.f89) (code := bodyOf Tryd.f89) (m := ⟨19, []⟩) (gs := []) (by kernel_rfl) (by kernel_rfl) (by kernel_rfl) (by kernel_rfl) (by kernel_rfl) (fun _ => by kernel_rfl)
    [(2, lo89_2 k)] (fun c hP hm hg => (LInv.of (code := (bodyOf Tryd.f89)) (bs := [(lpAt (bodyOf Tryd.f89) [0])]) (by kernel_rfl) (LInv.cons (b := (lpAt (bodyOf Tryd.f89) [0])) (by kernel_rfl) (lp89_2 k hP hm hg) LInv.nil))) (ev89 k)
def c78 (k : Nat) : Con := ⟨78, [((.sl T_Prof), false), ((.cl 79 .un), false)], [.bool], (.own true), fun x => slices_ContainsFunc_impl_Prof_impl_Prof k x.1 x.2.1⟩
def F78 (k : Nat) : List Con := [c89 k]
theorem okF78 (k : Nat) : ∀ cn ∈ F78 k, ConOk Tryd.prog cn := (conCons (ok89 k) conNil)
theorem ev78 (k : Nat) (x) : evF Tryd.prog (F78 k) (inlN Tryd.prog (F78 k) 4) [] Tryd.f78 (bodyOf Tryd.f78) (c78 k).ps (c78 k).rs (c78 k).rm x = (c78 k).m x := by kernel_rfl
theorem ok78 (k : Nat) : ConOk Tryd.prog (c78 k) :=
  fn_at (okF78 k) (cn := c78 k) (fn := Tryd.f78) (code := bodyOf Tryd.f78) (m := ⟨9, []⟩) (gs := []) (by kernel_rfl) (by kernel_rfl) (by kernel_rfl) (by kernel_rfl) (by kernel_rfl) (fun _ => by kernel_rfl)
    [] (fun c hP hm hg => (LInv.of (code := (bodyOf Tryd.f78)) (bs := []) (by kernel_rfl) LInv.nil)) (ev78 k)
def c71 (k : Nat) : Con := ⟨71, [((.sl T_Prof), false)], [.bool], (.own true), fun x => impl_areProfs k x.1⟩
def F71 (k : Nat) : List Con := [c78 k]
theorem okF71 (k : Nat) : ∀ cn ∈ F71 k, ConOk Tryd.prog cn := (conCons (ok78 k) conNil)
theorem ev71 (k : Nat) (x) : evF Tryd.prog (F71 k) (inlN Tryd.prog (F71 k) 4) [] Tryd.f71 (bodyOf Tryd.f71) (c71 k).ps (c71 k).rs (c71 k).rm x = (c71 k).m x := by kernel_rfl
theorem ok71 (k : Nat) : ConOk Tryd.prog (c71 k) :=
  fn_at (okF71 k) (cn := c71 k) (fn := Tryd.f71) (code := bodyOf Tryd.f71) (m := ⟨11, []⟩) (gs := []) (by kernel_rfl) (by kernel_rfl) (by kernel_rfl) (by kernel_rfl) (by kernel_rfl) (fun _ => by kernel_rfl)
    [] (fun c hP hm hg => (LInv.of (code := (bodyOf Tryd.f71)) (bs := []) (by kernel_rfl) LInv.nil)) (ev71 k)
def c52 (k : Nat) : Con := ⟨52, [(T_Conf, false)], [.bool], (.own true), fun x => impl_ConfOk k x.1⟩
def F52 (k : Nat) : List Con := [c61 k, c68 k, c69 k, c70 k, c71 k]
theorem okF52 (k : Nat) : ∀ cn ∈ F52 k, ConOk Tryd.prog cn := (conCons (ok61 k) (conCons (ok68 k) (conCons (ok69 k) (conCons (ok70 k) (conCons (ok71 k) conNil)))))
theorem ev52 (k : Nat) (x) : evF Tryd.prog (F52 k) (inlN Tryd.prog (F52 k) 4) [] Tryd.f52 (bodyOf Tryd.f52) (c52 k).ps (c52 k).rs (c52 k).rm x = (c52 k).m x := by kernel_rfl
theorem ok52 (k : Nat) : ConOk Tryd.prog (c52 k) :=
  fn_at (okF52 k) (cn := c52 k) (fn := Tryd.f52) (code := bodyOf Tryd.f52) (m := ⟨36, []⟩) (gs := []) (by kernel_rfl) (by kernel_rfl) (by kernel_rfl) (by kernel_rfl) (by kernel_rfl) (fun _ => by kernel_rfl)
    [] (fun c hP hm hg => (LInv.of (code := (bodyOf Tryd.f52)) (bs := []) (by kernel_rfl) LInv.nil)) (ev52 k)
def c25 (k : Nat) : Con := ⟨25, [(T_Conf, false)], [.str], (.own true), fun x => impl_ConfText k x.1⟩
def F25 (k : Nat) : List Con := [c52 k, c33 k, c46 k, c38 k]
theorem okF25 (k : Nat) : ∀ cn ∈ F25 k, ConOk Tryd.prog cn := (conCons (ok52 k) (conCons (ok33 k) (conCons (ok46 k) (conCons (ok38 k) conNil))))
abbrev S25_8 : Shape := [(4, .own true (.sl .str)), (48, .v (.sl T_Prof)), (49, .v (.int .i64)), (50, .v (.int .i64))]
abbrev X25_8 : Exit × Shape := (Exit.exit 0, [(4, .own true (.sl .str))])
abbrev R25_8 : List (Exit × Shape) := []
def lo25_8 (k : Nat) : LO := loopO [] [] [] S25_8 X25_8 R25_8 (iter (impl_ConfText_s8) k)
theorem st25_8 (k : Nat) (rec v) : evC Tryd.prog ⟨66, []⟩ (F25 k) (inlN Tryd.prog (F25 k) 4) [] (lpAt (bodyOf Tryd.f25) [0]) (Kb [] [] [] S25_8 X25_8 R25_8 rec) (mkSt [] [] S25_8 v.1 v.2) = (impl_ConfText_s8) rec v := by kernel_rfl
theorem lp25_8 (k : Nat) {c : Cx} (hP : c.P = Tryd.prog) (hm : c.m = ⟨66, []⟩) (hg : c.gs = []) : LoopOk c (lo25_8 k) (lpAt (bodyOf Tryd.f25) [0]) :=
  loop_at hP hm hg (okF25 k) (LInv.of (code := (lpAt (bodyOf Tryd.f25) [0])) (bs := []) (by kernel_rfl) LInv.nil) (fun rec v => st25_8 k rec v) k
theorem ev25 (k : Nat) (x) : evF Tryd.prog (F25 k) (inlN Tryd.prog (F25 k) 4) [(8, lo25_8 k)] Tryd.f25 (bodyOf Tryd.f25) (c25 k).ps (c25 k).rs (c25 k).rm x = (c25 k).m x := by kernel_rfl
theorem ok25 (k : Nat) : ConOk Tryd.prog (c25 k) :=
  fn_at (okF25 k) (cn := c25 k) (fn := Tryd.f25) (code := bodyOf Tryd.f25) (m := ⟨66, []⟩) (gs := []) (by kernel_rfl) (by kernel_rfl) (by kernel_rfl) (by kernel_rfl) (by kernel_rfl) (fun _ => by kernel_rfl)
    [(8, lo25_8 k)] (fun c hP hm hg => (LInv.of (code := (bodyOf Tryd.f25)) (bs := [(lpAt (bodyOf Tryd.f25) [0])]) (by kernel_rfl) (LInv.cons (b := (lpAt (bodyOf Tryd.f25) [0])) (by kernel_rfl) (lp25_8 k hP hm hg) LInv.nil))) (ev25 k)
def c53 (k : Nat) : Con := ⟨53, [(T_Limits, false), (T_Limits, false)], [.bool], (.own true), fun x => laws_eqLimits x.1 x.2.1⟩
def F53 (k : Nat) : List Con := []
theorem okF53 (k : Nat) : ∀ cn ∈ F53 k, ConOk Tryd.prog cn := conNil
theorem ev53 (k : Nat) (x) : evF Tryd.prog (F53 k) (inlN Tryd.prog (F53 k) 4) [] Tryd.f53 (bodyOf Tryd.f53) (c53 k).ps (c53 k).rs (c53 k).rm x = (c53 k).m x := by kernel_rfl
theorem ok53 (k : Nat) : ConOk Tryd.prog (c53 k) :=
  fn_at (okF53 k) (cn := c53 k) (fn := Tryd.f53) (code := bodyOf Tryd.f53) (m := ⟨30, []⟩) (gs := []) (by kernel_rfl) (by kernel_rfl) (by kernel_rfl) (by kernel_rfl) (by kernel_rfl) (fun _ => by kernel_rfl)
    [] (fun c hP hm hg => (LInv.of (code := (bodyOf Tryd.f53)) (bs := []) (by kernel_rfl) LInv.nil)) (ev53 k)
def c72 (k : Nat) : Con := ⟨72, [(T_Prof, false), (T_Prof, false)], [.bool], (.own true), fun x => laws_eqProf x.1 x.2.1⟩
def F72 (k : Nat) : List Con := [c47 k]
theorem okF72 (k : Nat) : ∀ cn ∈ F72 k, ConOk Tryd.prog cn := (conCons (ok47 k) conNil)
theorem ev72 (k : Nat) (x) : evF Tryd.prog (F72 k) (inlN Tryd.prog (F72 k) 4) [] Tryd.f72 (bodyOf Tryd.f72) (c72 k).ps (c72 k).rs (c72 k).rm x = (c72 k).m x := by kernel_rfl
theorem ok72 (k : Nat) : ConOk Tryd.prog (c72 k) :=
  fn_at (okF72 k) (cn := c72 k) (fn := Tryd.f72) (code := bodyOf Tryd.f72) (m := ⟨17, []⟩) (gs := []) (by kernel_rfl) (by kernel_rfl) (by kernel_rfl) (by kernel_rfl) (by kernel_rfl) (fun _ => by kernel_rfl)
    [] (fun c hP hm hg => (LInv.of (code := (bodyOf Tryd.f72)) (bs := []) (by kernel_rfl) LInv.nil)) (ev72 k)
def c54 (k : Nat) : Con := ⟨54, [((.sl T_Prof), false), ((.sl T_Prof), false)], [.bool], (.own true), fun x => laws_eqProfS k x.1 x.2.1⟩
def F54 (k : Nat) : List Con := [c72 k]
theorem okF54 (k : Nat) : ∀ cn ∈ F54 k, ConOk Tryd.prog cn := (conCons (ok72 k) conNil)
abbrev S54_4 : Shape := [(0, .v (.sl T_Prof)), (1, .v (.sl T_Prof)), (5, .v (.int .i64))]
abbrev X54_4 : Exit × Shape := (Exit.ret, [(4, .v .bool)])
abbrev R54_4 : List (Exit × Shape) := [(Exit.exit 0, [])]
def lo54_4 (k : Nat) : LO := loopO [] [] [] S54_4 X54_4 R54_4 (iter (laws_eqProfS_s4) k)
theorem st54_4 (k : Nat) (rec v) : evC Tryd.prog ⟨27, []⟩ (F54 k) (inlN Tryd.prog (F54 k) 4) [] (lpAt (bodyOf Tryd.f54) [0]) (Kb [] [] [] S54_4 X54_4 R54_4 rec) (mkSt [] [] S54_4 v.1 v.2) = (laws_eqProfS_s4) rec v := by kernel_rfl
theorem lp54_4 (k : Nat) {c : Cx} (hP : c.P = Tryd.prog) (hm : c.m = ⟨27, []⟩) (hg : c.gs = []) : LoopOk c (lo54_4 k) (lpAt (bodyOf Tryd.f54) [0]) :=
  loop_at hP hm hg (okF54 k) (LInv.of (code := (lpAt (bodyOf Tryd.f54) [0])) (bs := []) (by kernel_rfl) LInv.nil) (fun rec v => st54_4 k rec v) k
theorem ev54 (k : Nat) (x) : evF Tryd.prog (F54 k) (inlN Tryd.prog (F54 k) 4) [(4, lo54_4 k)] Tryd.f54 (bodyOf Tryd.f54) (c54 k).ps (c54 k).rs (c54 k).rm x = (c54 k).m x := by kernel_rfl
theorem ok54 (k : Nat) : ConOk Tryd.prog (c54 k) :=
  fn_at (okF54 k) (cn := c54 k) (fn := Tryd.f54) (code := bodyOf Tryd.f54) (m := ⟨27, []⟩) (gs := []) (by kernel_rfl) (by kernel_rfl) (by kernel_rfl) (by kernel_rfl) (by kernel_rfl) (fun _ => by kernel_rfl)
    [(4, lo54_4 k)] (fun c hP hm hg => (LInv.of (code := (bodyOf Tryd.f54)) (bs := [(lpAt (bodyOf Tryd.f54) [0])]) (by kernel_rfl) (LInv.cons (b := (lpAt (bodyOf Tryd.f54) [0])) (by kernel_rfl) (lp54_4 k hP hm hg) LInv.nil))) (ev54 k)
def c26 (k : Nat) : Con := ⟨26, [(T_Conf, false), (T_Conf, false)], [.bool], (.own true), fun x => laws_eqConf k x.1 x.2.1⟩
def F26 (k : Nat) : List Con := [c53 k, c54 k]
theorem okF26 (k : Nat) : ∀ cn ∈ F26 k, ConOk Tryd.prog cn := (conCons (ok53 k) (conCons (ok54 k) conNil))
theorem ev26 (k : Nat) (x) : evF Tryd.prog (F26 k) (inlN Tryd.prog (F26 k) 4) [] Tryd.f26 (bodyOf Tryd.f26) (c26 k).ps (c26 k).rs (c26 k).rm x = (c26 k).m x := by kernel_rfl
theorem ok26 (k : Nat) : ConOk Tryd.prog (c26 k) :=
  fn_at (okF26 k) (cn := c26 k) (fn := Tryd.f26) (code := bodyOf Tryd.f26) (m := ⟨42, []⟩) (gs := []) (by kernel_rfl) (by kernel_rfl) (by kernel_rfl) (by kernel_rfl) (by kernel_rfl) (fun _ => by kernel_rfl)
    [] (fun c hP hm hg => (LInv.of (code := (bodyOf Tryd.f26)) (bs := []) (by kernel_rfl) LInv.nil)) (ev26 k)
def c6 (k : Nat) : Con := ⟨6, [(T_Conf, false)], [.bool], (.own true), fun x => laws_FnExactConfText k x.1⟩
def F6 (k : Nat) : List Con := [c22 k, c24 k, c23 k, c25 k, c26 k]
theorem okF6 (k : Nat) : ∀ cn ∈ F6 k, ConOk Tryd.prog cn := (conCons (ok22 k) (conCons (ok24 k) (conCons (ok23 k) (conCons (ok25 k) (conCons (ok26 k) conNil)))))
theorem ev6 (k : Nat) (x) : evF Tryd.prog (F6 k) (inlN Tryd.prog (F6 k) 4) [] Tryd.f6 (bodyOf Tryd.f6) (c6 k).ps (c6 k).rs (c6 k).rm x = (c6 k).m x := by kernel_rfl
theorem ok6 (k : Nat) : ConOk Tryd.prog (c6 k) :=
  fn_at (okF6 k) (cn := c6 k) (fn := Tryd.f6) (code := bodyOf Tryd.f6) (m := ⟨27, []⟩) (gs := []) (by kernel_rfl) (by kernel_rfl) (by kernel_rfl) (by kernel_rfl) (by kernel_rfl) (fun _ => by kernel_rfl)
    [] (fun c hP hm hg => (LInv.of (code := (bodyOf Tryd.f6)) (bs := []) (by kernel_rfl) LInv.nil)) (ev6 k)
end Go.Tw
