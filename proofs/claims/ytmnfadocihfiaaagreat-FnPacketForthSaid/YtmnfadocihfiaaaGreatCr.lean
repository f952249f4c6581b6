/- Functions answer as their mirrors. -/
import Derived.Test.YtmnfadocihfiaaaGreatMr
import Derived.Test.YtmnfadocihfiaaaGreatRows
set_option linter.all false
namespace Go.Tw
open Go Go.RowKit Go.Proofs
theorem parG_nil : ∀ (ps : List (Ty × Bool)) (x : den (prodT (ps.map (·.1)))) (h : Heap) (n : Nat), ps.all (fun q => !q.2) = true → parG ps x h n = []
  | [], x, h, n, _ => rfl
  | (t, true) :: ps, x, h, n, e => by simp at e
  | (t, false) :: ps, x, h, n, e => parG_nil ps x.2 h n (by simpa using e)
theorem ok0 {F : List Con} {cn : Con} (fn : Func) (hF : ∀ c ∈ F, ConOk Tryz.prog c) (h : (Tryz.prog.funcs[cn.f]?, fn.body, callable Tryz.prog cn.f, Nat.ble cn.ps.length fn.ntmps, cn.ps.all (fun q => !q.2), loopsIn (bodyOf fn), cn.rm.isMv) = (some fn, some (bodyOf fn), true, true, true, [], false)) (he : ∀ x, evF Tryz.prog F (inlN Tryz.prog F 4) [] fn (bodyOf fn) cn.ps cn.rs cn.rm x = cn.m x) : ConOk Tryz.prog cn := by
  simp only [Prod.mk.injEq] at h
  obtain ⟨h1, h2, h3, h4, h5, h6, h7⟩ := h
  exact fn_at hF h1 h2 h3 h4 rfl (fun x => parG_nil cn.ps x [] 0 h5) [] (fun c _ _ _ => LInv.of h6 LInv.nil) he h7
def c20 (k : Nat) : Con := ⟨20, [((.sl (.int .u8)), false)], [.bool], (.own true), fun x => laws_big x.1⟩
theorem ok20 (k : Nat) : ConOk Tryz.prog (c20 k) := ok0 Tryz.f20 conNil (by kernel_rfl) (fun _ => by kernel_rfl)
def c105 (k : Nat) : Con := ⟨105, [(T_Packet, false)], [T_Addr], (.own true), fun x => spec_l08Src x.1⟩
theorem ok105 (k : Nat) : ConOk Tryz.prog (c105 k) := ok0 Tryz.f105 conNil (by kernel_rfl) (fun _ => by kernel_rfl)
def c106 (k : Nat) : Con := ⟨106, [(T_Packet, false)], [T_Addr], (.own true), fun x => spec_l08Dst x.1⟩
theorem ok106 (k : Nat) : ConOk Tryz.prog (c106 k) := ok0 Tryz.f106 conNil (by kernel_rfl) (fun _ => by kernel_rfl)
def c85 (k : Nat) : Con := ⟨85, [((.int .i64), false)], [.bool], (.own true), fun x => spec_l03Half x.1⟩
theorem ok85 (k : Nat) : ConOk Tryz.prog (c85 k) := ok0 Tryz.f85 conNil (by kernel_rfl) (fun _ => by kernel_rfl)
def c26 (k : Nat) : Con := ⟨26, [(T_Addr, false)], [.bool], (.own true), fun x => spec_AddrOk x.1⟩
theorem ok26 (k : Nat) : ConOk Tryz.prog (c26 k) := ok0 Tryz.f26 (conCons (ok85 k) conNil) (by kernel_rfl) (fun _ => by kernel_rfl)
def c215 (k : Nat) : Con := ⟨215, [(T_Addr, false), (T_Addr, false)], [.bool], (.own true), fun x => spec_l07Pair x.1 x.2.1⟩
theorem ok215 (k : Nat) : ConOk Tryz.prog (c215 k) := ok0 Tryz.f215 (conCons (ok26 k) conNil) (by kernel_rfl) (fun _ => by kernel_rfl)
def c216 (k : Nat) : Con := ⟨216, [((.int .i64), false), ((.int .i64), false)], [.bool], (.own true), fun x => spec_l05In x.1 x.2.1⟩
theorem ok216 (k : Nat) : ConOk Tryz.prog (c216 k) := ok0 Tryz.f216 conNil (by kernel_rfl) (fun _ => by kernel_rfl)
def c276 (k : Nat) : Con := ⟨276, [(T_Upper, false)], [(.int .i64)], (.own true), fun x => spec_UpperSize x.1⟩
theorem ok276 (k : Nat) : ConOk Tryz.prog (c276 k) := ok0 Tryz.f276 conNil (by kernel_rfl) (fun _ => by kernel_rfl)
def c274 (k : Nat) : Con := ⟨274, [(T_Upper, false), ((.int .i64), false)], [.bool], (.own true), fun x => spec_UpperOk x.1 x.2.1⟩
theorem ok274 (k : Nat) : ConOk Tryz.prog (c274 k) := ok0 Tryz.f274 (conCons (ok216 k) (conCons (ok85 k) (conCons (ok276 k) conNil))) (by kernel_rfl) (fun _ => by kernel_rfl)
def c282 (k : Nat) : Con := ⟨282, [((.int .i64), false), ((.int .i64), false)], [(.int .i64)], (.own true), fun x => spec_l01Low x.1 x.2.1⟩
theorem ok282 (k : Nat) : ConOk Tryz.prog (c282 k) := ok0 Tryz.f282 conNil (by kernel_rfl) (fun _ => by kernel_rfl)
def c195 (k : Nat) : Con := ⟨195, [((.int .i64), false)], [(.sl (.int .u8))], (.own true), fun x => spec_Put16 x.1⟩
theorem ok195 (k : Nat) : ConOk Tryz.prog (c195 k) := ok0 Tryz.f195 (conCons (ok282 k) conNil) (by kernel_rfl) (fun _ => by kernel_rfl)
def c192 (k : Nat) : Con := ⟨192, [((.int .i64), false)], [(.sl (.int .u8))], (.own true), fun x => spec_Put32 x.1⟩
theorem ok192 (k : Nat) : ConOk Tryz.prog (c192 k) := ok0 Tryz.f192 (conCons (ok282 k) (conCons (ok195 k) conNil)) (by kernel_rfl) (fun _ => by kernel_rfl)
def c86 (k : Nat) : Con := ⟨86, [(T_Addr, false)], [(.sl (.int .u8))], (.own true), fun x => spec_AddrBytes x.1⟩
theorem ok86 (k : Nat) : ConOk Tryz.prog (c86 k) := ok0 Tryz.f86 (conCons (ok26 k) (conCons (ok192 k) conNil)) (by kernel_rfl) (fun _ => by kernel_rfl)
def c320 (k : Nat) : Con := ⟨320, [((.int .i64), false)], [.bool], (.own true), fun x => spec_l02Word x.1⟩
theorem ok320 (k : Nat) : ConOk Tryz.prog (c320 k) := ok0 Tryz.f320 conNil (by kernel_rfl) (fun _ => by kernel_rfl)
def c277 (k : Nat) : Con := ⟨277, [((.int .i64), false), ((.int .i64), false)], [(.int .i64)], (.own true), fun x => spec_SumAdd x.1 x.2.1⟩
theorem ok277 (k : Nat) : ConOk Tryz.prog (c277 k) := ok0 Tryz.f277 (conCons (ok320 k) conNil) (by kernel_rfl) (fun _ => by kernel_rfl)
def c258 (k : Nat) : Con := ⟨258, [((.sl (.int .u8)), false)], [(.int .i64)], (.own true), fun x => spec_OnesSum k x.1⟩
def F258 (k : Nat) : List Con := [c277 k]
theorem okF258 (k : Nat) : ∀ cn ∈ F258 k, ConOk Tryz.prog cn := (conCons (ok277 k) conNil)
abbrev S258_5 : Shape := [(0, .v (.sl (.int .u8))), (3, .v (.int .i64)), (4, .v (.int .i64))]
abbrev X258_5 : Exit × Shape := (Exit.exit 0, [(3, .v (.int .i64))])
abbrev R258_5 : List (Exit × Shape) := []
def lo258_5 (k : Nat) : LO := loopO [] [] [] S258_5 X258_5 R258_5 (iter (spec_OnesSum_s5) k)
theorem st258_5 (k : Nat) (rec v) : evC Tryz.prog ⟨38, []⟩ (F258 k) (inlN Tryz.prog (F258 k) 4) [] (lpAt (bodyOf Tryz.f258) [0]) (Kb [] [] [] S258_5 X258_5 R258_5 rec) (mkSt [] [] S258_5 v.1 v.2) = (spec_OnesSum_s5) rec v := by kernel_rfl
theorem lp258_5 (k : Nat) {c : Cx} (hP : c.P = Tryz.prog) (hm : c.m = ⟨38, []⟩) (hg : c.gs = []) : LoopOk c (lo258_5 k) (lpAt (bodyOf Tryz.f258) [0]) :=
  loop_at hP hm hg (okF258 k) (LInv.of (code := (lpAt (bodyOf Tryz.f258) [0])) (bs := []) (by kernel_rfl) LInv.nil) (fun rec v => st258_5 k rec v) k
theorem ev258 (k : Nat) (x) : evF Tryz.prog (F258 k) (inlN Tryz.prog (F258 k) 4) [(5, lo258_5 k)] Tryz.f258 (bodyOf Tryz.f258) (c258 k).ps (c258 k).rs (c258 k).rm x = (c258 k).m x := by kernel_rfl
theorem ok258 (k : Nat) : ConOk Tryz.prog (c258 k) :=
  fn_at (okF258 k) (cn := c258 k) (fn := Tryz.f258) (code := bodyOf Tryz.f258) (m := ⟨38, []⟩) (gs := []) (by kernel_rfl) (by kernel_rfl) (by kernel_rfl) (by kernel_rfl) (by kernel_rfl) (fun _ => by kernel_rfl)
    [(5, lo258_5 k)] (fun c hP hm hg => (LInv.of (code := (bodyOf Tryz.f258)) (bs := [(lpAt (bodyOf Tryz.f258) [0])]) (by kernel_rfl) (LInv.cons (b := (lpAt (bodyOf Tryz.f258) [0])) (by kernel_rfl) (lp258_5 k hP hm hg) LInv.nil))) (ev258 k)
def c275 (k : Nat) : Con := ⟨275, [(T_Addr, false), (T_Addr, false), ((.int .i64), false), ((.int .i64), false)], [(.int .i64)], (.own true), fun x => spec_PseudoSum k x.1 x.2.1 x.2.2.1 x.2.2.2.1⟩
theorem ok275 (k : Nat) : ConOk Tryz.prog (c275 k) := ok0 Tryz.f275 (conCons (ok215 k) (conCons (ok216 k) (conCons (ok86 k) (conCons (ok195 k) (conCons (ok258 k) (conCons (ok192 k) conNil)))))) (by kernel_rfl) (fun _ => by kernel_rfl)
def c278 (k : Nat) : Con := ⟨278, [(T_Upper, false), ((.int .i64), false)], [(.sl (.int .u8))], (.own true), fun x => spec_l07Bytes x.1 x.2.1⟩
theorem ok278 (k : Nat) : ConOk Tryz.prog (c278 k) := ok0 Tryz.f278 (conCons (ok195 k) (conCons (ok192 k) (conCons (ok276 k) conNil))) (by kernel_rfl) (fun _ => by kernel_rfl)
def c180 (k : Nat) : Con := ⟨180, [(T_Upper, false), (T_Addr, false), (T_Addr, false)], [(.int .i64)], (.own true), fun x => spec_UpperSum k x.1 x.2.1 x.2.2.1⟩
theorem ok180 (k : Nat) : ConOk Tryz.prog (c180 k) := ok0 Tryz.f180 (conCons (ok215 k) (conCons (ok274 k) (conCons (ok276 k) (conCons (ok275 k) (conCons (ok278 k) (conCons (ok258 k) (conCons (ok277 k) conNil))))))) (by kernel_rfl) (fun _ => by kernel_rfl)
def c181 (k : Nat) : Con := ⟨181, [(T_Upper, false), (T_Addr, false), (T_Addr, false)], [(.sl (.int .u8))], (.own true), fun x => spec_UpperBytes k x.1 x.2.1 x.2.2.1⟩
theorem ok181 (k : Nat) : ConOk Tryz.prog (c181 k) := ok0 Tryz.f181 (conCons (ok180 k) (conCons (ok278 k) conNil)) (by kernel_rfl) (fun _ => by kernel_rfl)
def c182 (k : Nat) : Con := ⟨182, [((.int .i64), false), ((.int .i64), false)], [(.int .i64)], (.own true), fun x => spec_UpperKind x.1 x.2.1⟩
theorem ok182 (k : Nat) : ConOk Tryz.prog (c182 k) := ok0 Tryz.f182 (conCons (ok216 k) conNil) (by kernel_rfl) (fun _ => by kernel_rfl)
def c184 (k : Nat) : Con := ⟨184, [(T_Four, false)], [.bool], (.own true), fun x => spec_FourOk x.1⟩
theorem ok184 (k : Nat) : ConOk Tryz.prog (c184 k) := ok0 Tryz.f184 (conCons (ok216 k) (conCons (ok26 k) conNil)) (by kernel_rfl) (fun _ => by kernel_rfl)
def c102 (k : Nat) : Con := ⟨102, [(T_Four, false)], [.bool], (.own true), fun x => spec_FourPiece x.1⟩
theorem ok102 (k : Nat) : ConOk Tryz.prog (c102 k) := ok0 Tryz.f102 (conCons (ok184 k) conNil) (by kernel_rfl) (fun _ => by kernel_rfl)
def c183 (k : Nat) : Con := ⟨183, [(T_Six, false)], [.bool], (.own true), fun x => spec_l08NoSix x.1⟩
theorem ok183 (k : Nat) : ConOk Tryz.prog (c183 k) := ok0 Tryz.f183 conNil (by kernel_rfl) (fun _ => by kernel_rfl)
def c279 (k : Nat) : Con := ⟨279, [(T_Four, false), ((.int .i64), false)], [(.sl (.int .u8))], (.own true), fun x => spec_l05Head x.1 x.2.1⟩
theorem ok279 (k : Nat) : ConOk Tryz.prog (c279 k) := ok0 Tryz.f279 (conCons (ok195 k) (conCons (ok86 k) conNil)) (by kernel_rfl) (fun _ => by kernel_rfl)
def c160 (k : Nat) : Con := ⟨160, [((.sl (.int .u8)), false)], [(.int .i64)], (.own true), fun x => spec_Checksum k x.1⟩
theorem ok160 (k : Nat) : ConOk Tryz.prog (c160 k) := ok0 Tryz.f160 (conCons (ok258 k) conNil) (by kernel_rfl) (fun _ => by kernel_rfl)
def c213 (k : Nat) : Con := ⟨213, [(T_Four, false)], [(.int .i64)], (.own true), fun x => spec_HeadSum k x.1⟩
theorem ok213 (k : Nat) : ConOk Tryz.prog (c213 k) := ok0 Tryz.f213 (conCons (ok184 k) (conCons (ok279 k) (conCons (ok160 k) conNil))) (by kernel_rfl) (fun _ => by kernel_rfl)
def c185 (k : Nat) : Con := ⟨185, [(T_Four, false)], [(.sl (.int .u8))], (.own true), fun x => spec_FourBytes k x.1⟩
theorem ok185 (k : Nat) : ConOk Tryz.prog (c185 k) := ok0 Tryz.f185 (conCons (ok184 k) (conCons (ok213 k) (conCons (ok279 k) conNil))) (by kernel_rfl) (fun _ => by kernel_rfl)
def c186 (k : Nat) : Con := ⟨186, [(T_Four, false)], [.bool], (.own true), fun x => spec_l08NoFour x.1⟩
theorem ok186 (k : Nat) : ConOk Tryz.prog (c186 k) := ok0 Tryz.f186 conNil (by kernel_rfl) (fun _ => by kernel_rfl)
def c214 (k : Nat) : Con := ⟨214, [((.int .i64), false)], [.bool], (.own true), fun x => spec_l06Inner x.1⟩
theorem ok214 (k : Nat) : ConOk Tryz.prog (c214 k) := ok0 Tryz.f214 conNil (by kernel_rfl) (fun _ => by kernel_rfl)
def c187 (k : Nat) : Con := ⟨187, [(T_Six, false)], [.bool], (.own true), fun x => spec_SixOk k x.1⟩
def F187 (k : Nat) : List Con := [c216 k, c214 k, c26 k]
theorem okF187 (k : Nat) : ∀ cn ∈ F187 k, ConOk Tryz.prog cn := (conCons (ok216 k) (conCons (ok214 k) (conCons (ok26 k) conNil)))
abbrev S187_7 : Shape := [(1, .boxv T_Six), (3, .v (.int .i64)), (4, .v (.int .i64))]
abbrev X187_7 : Exit × Shape := (Exit.ret, [(2, .v .bool)])
abbrev R187_7 : List (Exit × Shape) := [(Exit.exit 0, [(1, .boxv T_Six), (3, .v (.int .i64))])]
def lo187_7 (k : Nat) : LO := loopO [] [] [] S187_7 X187_7 R187_7 (iter (spec_SixOk_s7) k)
theorem st187_7 (k : Nat) (rec v) : evC Tryz.prog ⟨114, []⟩ (F187 k) (inlN Tryz.prog (F187 k) 4) [] (lpAt (bodyOf Tryz.f187) [0]) (Kb [] [] [] S187_7 X187_7 R187_7 rec) (mkSt [] [] S187_7 v.1 v.2) = (spec_SixOk_s7) rec v := by kernel_rfl
theorem lp187_7 (k : Nat) {c : Cx} (hP : c.P = Tryz.prog) (hm : c.m = ⟨114, []⟩) (hg : c.gs = []) : LoopOk c (lo187_7 k) (lpAt (bodyOf Tryz.f187) [0]) :=
  loop_at hP hm hg (okF187 k) (LInv.of (code := (lpAt (bodyOf Tryz.f187) [0])) (bs := []) (by kernel_rfl) LInv.nil) (fun rec v => st187_7 k rec v) k
theorem ev187 (k : Nat) (x) : evF Tryz.prog (F187 k) (inlN Tryz.prog (F187 k) 4) [(7, lo187_7 k)] Tryz.f187 (bodyOf Tryz.f187) (c187 k).ps (c187 k).rs (c187 k).rm x = (c187 k).m x := by kernel_rfl
theorem ok187 (k : Nat) : ConOk Tryz.prog (c187 k) :=
  fn_at (okF187 k) (cn := c187 k) (fn := Tryz.f187) (code := bodyOf Tryz.f187) (m := ⟨114, []⟩) (gs := []) (by kernel_rfl) (by kernel_rfl) (by kernel_rfl) (by kernel_rfl) (by kernel_rfl) (fun _ => by kernel_rfl)
    [(7, lo187_7 k)] (fun c hP hm hg => (LInv.of (code := (bodyOf Tryz.f187)) (bs := [(lpAt (bodyOf Tryz.f187) [0])]) (by kernel_rfl) (LInv.cons (b := (lpAt (bodyOf Tryz.f187) [0])) (by kernel_rfl) (lp187_7 k hP hm hg) LInv.nil))) (ev187 k)
def c280 (k : Nat) : Con := ⟨280, [(T_Six, false)], [(.int .i64)], (.own true), fun x => spec_ExtsSize k x.1⟩
def F280 (k : Nat) : List Con := [c187 k]
theorem okF280 (k : Nat) : ∀ cn ∈ F280 k, ConOk Tryz.prog cn := (conCons (ok187 k) conNil)
abbrev S280_5 : Shape := [(1, .boxv T_Six), (3, .v (.int .i64)), (4, .v (.int .i64))]
abbrev X280_5 : Exit × Shape := (Exit.exit 0, [(3, .v (.int .i64))])
abbrev R280_5 : List (Exit × Shape) := []
def lo280_5 (k : Nat) : LO := loopO [] [] [] S280_5 X280_5 R280_5 (iter (spec_ExtsSize_s5) k)
theorem st280_5 (k : Nat) (rec v) : evC Tryz.prog ⟨26, []⟩ (F280 k) (inlN Tryz.prog (F280 k) 4) [] (lpAt (bodyOf Tryz.f280) [0]) (Kb [] [] [] S280_5 X280_5 R280_5 rec) (mkSt [] [] S280_5 v.1 v.2) = (spec_ExtsSize_s5) rec v := by kernel_rfl
theorem lp280_5 (k : Nat) {c : Cx} (hP : c.P = Tryz.prog) (hm : c.m = ⟨26, []⟩) (hg : c.gs = []) : LoopOk c (lo280_5 k) (lpAt (bodyOf Tryz.f280) [0]) :=
  loop_at hP hm hg (okF280 k) (LInv.of (code := (lpAt (bodyOf Tryz.f280) [0])) (bs := []) (by kernel_rfl) LInv.nil) (fun rec v => st280_5 k rec v) k
theorem ev280 (k : Nat) (x) : evF Tryz.prog (F280 k) (inlN Tryz.prog (F280 k) 4) [(5, lo280_5 k)] Tryz.f280 (bodyOf Tryz.f280) (c280 k).ps (c280 k).rs (c280 k).rm x = (c280 k).m x := by kernel_rfl
theorem ok280 (k : Nat) : ConOk Tryz.prog (c280 k) :=
  fn_at (okF280 k) (cn := c280 k) (fn := Tryz.f280) (code := bodyOf Tryz.f280) (m := ⟨26, []⟩) (gs := []) (by kernel_rfl) (by kernel_rfl) (by kernel_rfl) (by kernel_rfl) (by kernel_rfl) (fun _ => by kernel_rfl)
    [(5, lo280_5 k)] (fun c hP hm hg => (LInv.of (code := (bodyOf Tryz.f280)) (bs := [(lpAt (bodyOf Tryz.f280) [0])]) (by kernel_rfl) (LInv.cons (b := (lpAt (bodyOf Tryz.f280) [0])) (by kernel_rfl) (lp280_5 k hP hm hg) LInv.nil))) (ev280 k)
def c281 (k : Nat) : Con := ⟨281, [(T_Six, false), ((.int .i64), false)], [(.int .u8)], (.own true), fun x => spec_l06Next x.1 x.2.1⟩
theorem ok281 (k : Nat) : ConOk Tryz.prog (c281 k) := ok0 Tryz.f281 conNil (by kernel_rfl) (fun _ => by kernel_rfl)
def c188 (k : Nat) : Con := ⟨188, [(T_Six, false)], [(.sl (.int .u8))], (.own true), fun x => spec_SixBytes k x.1⟩
def F188 (k : Nat) : List Con := [c187 k, c192 k, c280 k, c195 k, c281 k, c86 k]
theorem okF188 (k : Nat) : ∀ cn ∈ F188 k, ConOk Tryz.prog cn := (conCons (ok187 k) (conCons (ok192 k) (conCons (ok280 k) (conCons (ok195 k) (conCons (ok281 k) (conCons (ok86 k) conNil))))))
abbrev S188_9 : Shape := [(1, .boxv T_Six), (3, .own true (.sl (.int .u8))), (4, .v (.int .i64))]
abbrev X188_9 : Exit × Shape := (Exit.exit 0, [(1, .boxv T_Six), (3, .own true (.sl (.int .u8)))])
abbrev R188_9 : List (Exit × Shape) := []
def lo188_9 (k : Nat) : LO := loopO [] [] [] S188_9 X188_9 R188_9 (iter (spec_SixBytes_s9) k)
theorem st188_9 (k : Nat) (rec v) : evC Tryz.prog ⟨80, []⟩ (F188 k) (inlN Tryz.prog (F188 k) 4) [] (lpAt (bodyOf Tryz.f188) [0]) (Kb [] [] [] S188_9 X188_9 R188_9 rec) (mkSt [] [] S188_9 v.1 v.2) = (spec_SixBytes_s9) rec v := by kernel_rfl
theorem lp188_9 (k : Nat) {c : Cx} (hP : c.P = Tryz.prog) (hm : c.m = ⟨80, []⟩) (hg : c.gs = []) : LoopOk c (lo188_9 k) (lpAt (bodyOf Tryz.f188) [0]) :=
  loop_at hP hm hg (okF188 k) (LInv.of (code := (lpAt (bodyOf Tryz.f188) [0])) (bs := []) (by kernel_rfl) LInv.nil) (fun rec v => st188_9 k rec v) k
theorem ev188 (k : Nat) (x) : evF Tryz.prog (F188 k) (inlN Tryz.prog (F188 k) 4) [(9, lo188_9 k)] Tryz.f188 (bodyOf Tryz.f188) (c188 k).ps (c188 k).rs (c188 k).rm x = (c188 k).m x := by kernel_rfl
theorem ok188 (k : Nat) : ConOk Tryz.prog (c188 k) :=
  fn_at (okF188 k) (cn := c188 k) (fn := Tryz.f188) (code := bodyOf Tryz.f188) (m := ⟨80, []⟩) (gs := []) (by kernel_rfl) (by kernel_rfl) (by kernel_rfl) (by kernel_rfl) (by kernel_rfl) (fun _ => by kernel_rfl)
    [(9, lo188_9 k)] (fun c hP hm hg => (LInv.of (code := (bodyOf Tryz.f188)) (bs := [(lpAt (bodyOf Tryz.f188) [0])]) (by kernel_rfl) (LInv.cons (b := (lpAt (bodyOf Tryz.f188) [0])) (by kernel_rfl) (lp188_9 k hP hm hg) LInv.nil))) (ev188 k)
def c189 (k : Nat) : Con := ⟨189, [(T_Ether, false)], [.bool], (.own true), fun x => spec_EtherOk x.1⟩
theorem ok189 (k : Nat) : ConOk Tryz.prog (c189 k) := ok0 Tryz.f189 conNil (by kernel_rfl) (fun _ => by kernel_rfl)
def c194 (k : Nat) : Con := ⟨194, [((.int .i64), false)], [(.sl (.int .u8))], (.own true), fun x => spec_l04Mac x.1⟩
theorem ok194 (k : Nat) : ConOk Tryz.prog (c194 k) := ok0 Tryz.f194 (conCons (ok195 k) (conCons (ok192 k) conNil)) (by kernel_rfl) (fun _ => by kernel_rfl)
def c88 (k : Nat) : Con := ⟨88, [(T_Ether, false)], [(.sl (.int .u8))], (.own true), fun x => spec_EtherBytes x.1⟩
theorem ok88 (k : Nat) : ConOk Tryz.prog (c88 k) := ok0 Tryz.f88 (conCons (ok189 k) (conCons (ok194 k) (conCons (ok195 k) conNil))) (by kernel_rfl) (fun _ => by kernel_rfl)
def c28 (k : Nat) : Con := ⟨28, [(T_Packet, false)], [(.sl (.int .u8))], (.own true), fun x => spec_PacketBytes k x.1⟩
theorem ok28 (k : Nat) : ConOk Tryz.prog (c28 k) := ok0 Tryz.f28 (conCons (ok105 k) (conCons (ok106 k) (conCons (ok180 k) (conCons (ok181 k) (conCons (ok182 k) (conCons (ok102 k) (conCons (ok183 k) (conCons (ok184 k) (conCons (ok185 k) (conCons (ok189 k) (conCons (ok88 k) (conCons (ok186 k) (conCons (ok187 k) (conCons (ok188 k) conNil)))))))))))))) (by kernel_rfl) (fun _ => by kernel_rfl)
def c81 (k : Nat) : Con := ⟨81, [((.ref T_l01Cur), true), ((.int .i64), false)], [(.int .i64)], (.own true), fun x => spec_l01Cur_pick x.1 x.2.1⟩
def F81 (k : Nat) : List Con := []
theorem okF81 (k : Nat) : ∀ cn ∈ F81 k, ConOk Tryz.prog cn := conNil
theorem ev81 (k : Nat) (x) : evF Tryz.prog (F81 k) (inlN Tryz.prog (F81 k) 4) [] Tryz.f81 (bodyOf Tryz.f81) (c81 k).ps (c81 k).rs (c81 k).rm x = (c81 k).m x := by kernel_rfl
theorem ok81 (k : Nat) : ConOk Tryz.prog (c81 k) :=
  fn_at (okF81 k) (cn := c81 k) (fn := Tryz.f81) (code := bodyOf Tryz.f81) (m := ⟨78, [(0, 0)]⟩) (gs := [.ptr 0 0 0]) (by kernel_rfl) (by kernel_rfl) (by kernel_rfl) (by kernel_rfl) (by kernel_rfl) (fun _ => by kernel_rfl)
    [] (fun c hP hm hg => (LInv.of (code := (bodyOf Tryz.f81)) (bs := []) (by kernel_rfl) LInv.nil)) (ev81 k)
def c80 (k : Nat) : Con := ⟨80, [((.ref T_l01Cur), true)], [(.int .i64)], (.own true), fun x => spec_l01Cur_kind x.1⟩
def F80 (k : Nat) : List Con := [c81 k]
theorem okF80 (k : Nat) : ∀ cn ∈ F80 k, ConOk Tryz.prog cn := (conCons (ok81 k) conNil)
theorem ev80 (k : Nat) (x) : evF Tryz.prog (F80 k) (inlN Tryz.prog (F80 k) 4) [] Tryz.f80 (bodyOf Tryz.f80) (c80 k).ps (c80 k).rs (c80 k).rm x = (c80 k).m x := by kernel_rfl
theorem ok80 (k : Nat) : ConOk Tryz.prog (c80 k) :=
  fn_at (okF80 k) (cn := c80 k) (fn := Tryz.f80) (code := bodyOf Tryz.f80) (m := ⟨8, [(0, 0)]⟩) (gs := [.ptr 0 0 0]) (by kernel_rfl) (by kernel_rfl) (by kernel_rfl) (by kernel_rfl) (by kernel_rfl) (fun _ => by kernel_rfl)
    [] (fun c hP hm hg => (LInv.of (code := (bodyOf Tryz.f80)) (bs := []) (by kernel_rfl) LInv.nil)) (ev80 k)
def c190 (k : Nat) : Con := ⟨190, [((.ref T_l01Cur), true), ((.int .i64), false)], [(.int .i64)], (.own true), fun x => spec_l01Cur_wide x.1 x.2.1⟩
def F190 (k : Nat) : List Con := [c81 k]
theorem okF190 (k : Nat) : ∀ cn ∈ F190 k, ConOk Tryz.prog cn := (conCons (ok81 k) conNil)
theorem ev190 (k : Nat) (x) : evF Tryz.prog (F190 k) (inlN Tryz.prog (F190 k) 4) [] Tryz.f190 (bodyOf Tryz.f190) (c190 k).ps (c190 k).rs (c190 k).rm x = (c190 k).m x := by kernel_rfl
theorem ok190 (k : Nat) : ConOk Tryz.prog (c190 k) :=
  fn_at (okF190 k) (cn := c190 k) (fn := Tryz.f190) (code := bodyOf Tryz.f190) (m := ⟨17, [(0, 0)]⟩) (gs := [.ptr 0 0 0]) (by kernel_rfl) (by kernel_rfl) (by kernel_rfl) (by kernel_rfl) (by kernel_rfl) (fun _ => by kernel_rfl)
    [] (fun c hP hm hg => (LInv.of (code := (bodyOf Tryz.f190)) (bs := []) (by kernel_rfl) LInv.nil)) (ev190 k)
def c237 (k : Nat) : Con := ⟨237, [((.ref T_l01Cur), true)], [T_Ether], (.own true), fun x => spec_l01Cur_ether x.1⟩
def F237 (k : Nat) : List Con := [c190 k, c81 k]
theorem okF237 (k : Nat) : ∀ cn ∈ F237 k, ConOk Tryz.prog cn := (conCons (ok190 k) (conCons (ok81 k) conNil))
theorem ev237 (k : Nat) (x) : evF Tryz.prog (F237 k) (inlN Tryz.prog (F237 k) 4) [] Tryz.f237 (bodyOf Tryz.f237) (c237 k).ps (c237 k).rs (c237 k).rm x = (c237 k).m x := by kernel_rfl
theorem ok237 (k : Nat) : ConOk Tryz.prog (c237 k) :=
  fn_at (okF237 k) (cn := c237 k) (fn := Tryz.f237) (code := bodyOf Tryz.f237) (m := ⟨28, [(0, 0)]⟩) (gs := [.ptr 0 0 0]) (by kernel_rfl) (by kernel_rfl) (by kernel_rfl) (by kernel_rfl) (by kernel_rfl) (fun _ => by kernel_rfl)
    [] (fun c hP hm hg => (LInv.of (code := (bodyOf Tryz.f237)) (bs := []) (by kernel_rfl) LInv.nil)) (ev237 k)
def c267 (k : Nat) : Con := ⟨267, [((.ref T_l01Cur), true), ((.int .i64), false)], [(.int .i64)], (.own true), fun x => spec_l01Cur_size x.1 x.2.1⟩
def F267 (k : Nat) : List Con := [c81 k]
theorem okF267 (k : Nat) : ∀ cn ∈ F267 k, ConOk Tryz.prog cn := (conCons (ok81 k) conNil)
theorem ev267 (k : Nat) (x) : evF Tryz.prog (F267 k) (inlN Tryz.prog (F267 k) 4) [] Tryz.f267 (bodyOf Tryz.f267) (c267 k).ps (c267 k).rs (c267 k).rm x = (c267 k).m x := by kernel_rfl
theorem ok267 (k : Nat) : ConOk Tryz.prog (c267 k) :=
  fn_at (okF267 k) (cn := c267 k) (fn := Tryz.f267) (code := bodyOf Tryz.f267) (m := ⟨17, [(0, 0)]⟩) (gs := [.ptr 0 0 0]) (by kernel_rfl) (by kernel_rfl) (by kernel_rfl) (by kernel_rfl) (by kernel_rfl) (fun _ => by kernel_rfl)
    [] (fun c hP hm hg => (LInv.of (code := (bodyOf Tryz.f267)) (bs := []) (by kernel_rfl) LInv.nil)) (ev267 k)
def c173 (k : Nat) : Con := ⟨173, [((.ref T_l01Cur), true), ((.int .i64), false)], [(.sl (.int .u8))], (.own true), fun x => spec_l01Cur_bytes k x.1 x.2.1⟩
def F173 (k : Nat) : List Con := [c267 k, c81 k]
theorem okF173 (k : Nat) : ∀ cn ∈ F173 k, ConOk Tryz.prog cn := (conCons (ok267 k) (conCons (ok81 k) conNil))
abbrev S173_3 : Shape := [(0, .arg 0), (5, .own true (.sl (.int .u8))), (6, .v (.int .i64))]
abbrev X173_3 : Exit × Shape := (Exit.exit 0, [(5, .own true (.sl (.int .u8)))])
abbrev R173_3 : List (Exit × Shape) := []
def lo173_3 (k : Nat) : LO := loopO [(0, 0)] [.ptr 0 0 0] [(.ref T_l01Cur)] S173_3 X173_3 R173_3 (iter (spec_l01Cur_bytes_s3) k)
theorem st173_3 (k : Nat) (rec v) : evC Tryz.prog ⟨22, [(0, 0)]⟩ (F173 k) (inlN Tryz.prog (F173 k) 4) [] (lpAt (bodyOf Tryz.f173) [0]) (Kb [(0, 0)] [.ptr 0 0 0] [(.ref T_l01Cur)] S173_3 X173_3 R173_3 rec) (mkSt [.ptr 0 0 0] [(.ref T_l01Cur)] S173_3 v.1 v.2) = (spec_l01Cur_bytes_s3) rec v := by kernel_rfl
theorem lp173_3 (k : Nat) {c : Cx} (hP : c.P = Tryz.prog) (hm : c.m = ⟨22, [(0, 0)]⟩) (hg : c.gs = [.ptr 0 0 0]) : LoopOk c (lo173_3 k) (lpAt (bodyOf Tryz.f173) [0]) :=
  loop_at hP hm hg (okF173 k) (LInv.of (code := (lpAt (bodyOf Tryz.f173) [0])) (bs := []) (by kernel_rfl) LInv.nil) (fun rec v => st173_3 k rec v) k
theorem ev173 (k : Nat) (x) : evF Tryz.prog (F173 k) (inlN Tryz.prog (F173 k) 4) [(3, lo173_3 k)] Tryz.f173 (bodyOf Tryz.f173) (c173 k).ps (c173 k).rs (c173 k).rm x = (c173 k).m x := by kernel_rfl
theorem ok173 (k : Nat) : ConOk Tryz.prog (c173 k) :=
  fn_at (okF173 k) (cn := c173 k) (fn := Tryz.f173) (code := bodyOf Tryz.f173) (m := ⟨22, [(0, 0)]⟩) (gs := [.ptr 0 0 0]) (by kernel_rfl) (by kernel_rfl) (by kernel_rfl) (by kernel_rfl) (by kernel_rfl) (fun _ => by kernel_rfl)
    [(3, lo173_3 k)] (fun c hP hm hg => (LInv.of (code := (bodyOf Tryz.f173)) (bs := [(lpAt (bodyOf Tryz.f173) [0])]) (by kernel_rfl) (LInv.cons (b := (lpAt (bodyOf Tryz.f173) [0])) (by kernel_rfl) (lp173_3 k hP hm hg) LInv.nil))) (ev173 k)
def c241 (k : Nat) : Con := ⟨241, [((.ref T_l01Cur), true), ((.int .i64), false)], [.bool], (.own true), fun x => spec_l01Cur_once x.1 x.2.1⟩
def F241 (k : Nat) : List Con := [c81 k]
theorem okF241 (k : Nat) : ∀ cn ∈ F241 k, ConOk Tryz.prog cn := (conCons (ok81 k) conNil)
theorem ev241 (k : Nat) (x) : evF Tryz.prog (F241 k) (inlN Tryz.prog (F241 k) 4) [] Tryz.f241 (bodyOf Tryz.f241) (c241 k).ps (c241 k).rs (c241 k).rm x = (c241 k).m x := by kernel_rfl
theorem ok241 (k : Nat) : ConOk Tryz.prog (c241 k) :=
  fn_at (okF241 k) (cn := c241 k) (fn := Tryz.f241) (code := bodyOf Tryz.f241) (m := ⟨11, [(0, 0)]⟩) (gs := [.ptr 0 0 0]) (by kernel_rfl) (by kernel_rfl) (by kernel_rfl) (by kernel_rfl) (by kernel_rfl) (fun _ => by kernel_rfl)
    [] (fun c hP hm hg => (LInv.of (code := (bodyOf Tryz.f241)) (bs := []) (by kernel_rfl) LInv.nil)) (ev241 k)
def c238 (k : Nat) : Con := ⟨238, [((.ref T_l01Cur), true), ((.int .i64), false), ((.int .i64), false)], [T_Upper], (.own true), fun x => spec_l01Cur_upper k x.1 x.2.1 x.2.2.1⟩
def F238 (k : Nat) : List Con := [c173 k, c81 k, c190 k, c241 k]
theorem okF238 (k : Nat) : ∀ cn ∈ F238 k, ConOk Tryz.prog cn := (conCons (ok173 k) (conCons (ok81 k) (conCons (ok190 k) (conCons (ok241 k) conNil))))
theorem ev238 (k : Nat) (x) : evF Tryz.prog (F238 k) (inlN Tryz.prog (F238 k) 4) [] Tryz.f238 (bodyOf Tryz.f238) (c238 k).ps (c238 k).rs (c238 k).rm x = (c238 k).m x := by kernel_rfl
theorem ok238 (k : Nat) : ConOk Tryz.prog (c238 k) :=
  fn_at (okF238 k) (cn := c238 k) (fn := Tryz.f238) (code := bodyOf Tryz.f238) (m := ⟨94, [(0, 0)]⟩) (gs := [.ptr 0 0 0]) (by kernel_rfl) (by kernel_rfl) (by kernel_rfl) (by kernel_rfl) (by kernel_rfl) (fun _ => by kernel_rfl)
    [] (fun c hP hm hg => (LInv.of (code := (bodyOf Tryz.f238)) (bs := []) (by kernel_rfl) LInv.nil)) (ev238 k)
def c79 (k : Nat) : Con := ⟨79, [((.ref T_l01Cur), true), ((.int .i64), false)], [T_Addr], (.own true), fun x => spec_l01Cur_addr x.1 x.2.1⟩
def F79 (k : Nat) : List Con := [c81 k, c190 k]
theorem okF79 (k : Nat) : ∀ cn ∈ F79 k, ConOk Tryz.prog cn := (conCons (ok81 k) (conCons (ok190 k) conNil))
theorem ev79 (k : Nat) (x) : evF Tryz.prog (F79 k) (inlN Tryz.prog (F79 k) 4) [] Tryz.f79 (bodyOf Tryz.f79) (c79 k).ps (c79 k).rs (c79 k).rm x = (c79 k).m x := by kernel_rfl
theorem ok79 (k : Nat) : ConOk Tryz.prog (c79 k) :=
  fn_at (okF79 k) (cn := c79 k) (fn := Tryz.f79) (code := bodyOf Tryz.f79) (m := ⟨58, [(0, 0)]⟩) (gs := [.ptr 0 0 0]) (by kernel_rfl) (by kernel_rfl) (by kernel_rfl) (by kernel_rfl) (by kernel_rfl) (fun _ => by kernel_rfl)
    [] (fun c hP hm hg => (LInv.of (code := (bodyOf Tryz.f79)) (bs := []) (by kernel_rfl) LInv.nil)) (ev79 k)
def c239 (k : Nat) : Con := ⟨239, [((.ref T_l01Cur), true)], [T_Four], (.own true), fun x => spec_l01Cur_four k x.1⟩
def F239 (k : Nat) : List Con := [c81 k, c190 k, c79 k, c241 k]
theorem okF239 (k : Nat) : ∀ cn ∈ F239 k, ConOk Tryz.prog cn := (conCons (ok81 k) (conCons (ok190 k) (conCons (ok79 k) (conCons (ok241 k) conNil))))
abbrev S239_9 : Shape := [(0, .arg 0), (2, .box true T_Four), (3, .box true T_Four), (4, .v (.int .i64))]
abbrev X239_9 : Exit × Shape := (Exit.exit 0, [(2, .box true T_Four), (3, .box true T_Four)])
abbrev R239_9 : List (Exit × Shape) := []
def lo239_9 (k : Nat) : LO := loopO [(0, 0)] [.ptr 0 0 0] [(.ref T_l01Cur)] S239_9 X239_9 R239_9 (iter (spec_l01Cur_four_s9) k)
theorem st239_9 (k : Nat) (rec v) : evC Tryz.prog ⟨67, [(0, 0)]⟩ (F239 k) (inlN Tryz.prog (F239 k) 4) [] (lpAt (bodyOf Tryz.f239) [0]) (Kb [(0, 0)] [.ptr 0 0 0] [(.ref T_l01Cur)] S239_9 X239_9 R239_9 rec) (mkSt [.ptr 0 0 0] [(.ref T_l01Cur)] S239_9 v.1 v.2) = (spec_l01Cur_four_s9) rec v := by kernel_rfl
theorem lp239_9 (k : Nat) {c : Cx} (hP : c.P = Tryz.prog) (hm : c.m = ⟨67, [(0, 0)]⟩) (hg : c.gs = [.ptr 0 0 0]) : LoopOk c (lo239_9 k) (lpAt (bodyOf Tryz.f239) [0]) :=
  loop_at hP hm hg (okF239 k) (LInv.of (code := (lpAt (bodyOf Tryz.f239) [0])) (bs := []) (by kernel_rfl) LInv.nil) (fun rec v => st239_9 k rec v) k
theorem ev239 (k : Nat) (x) : evF Tryz.prog (F239 k) (inlN Tryz.prog (F239 k) 4) [(9, lo239_9 k)] Tryz.f239 (bodyOf Tryz.f239) (c239 k).ps (c239 k).rs (c239 k).rm x = (c239 k).m x := by kernel_rfl
theorem ok239 (k : Nat) : ConOk Tryz.prog (c239 k) :=
  fn_at (okF239 k) (cn := c239 k) (fn := Tryz.f239) (code := bodyOf Tryz.f239) (m := ⟨67, [(0, 0)]⟩) (gs := [.ptr 0 0 0]) (by kernel_rfl) (by kernel_rfl) (by kernel_rfl) (by kernel_rfl) (by kernel_rfl) (fun _ => by kernel_rfl)
    [(9, lo239_9 k)] (fun c hP hm hg => (LInv.of (code := (bodyOf Tryz.f239)) (bs := [(lpAt (bodyOf Tryz.f239) [0])]) (by kernel_rfl) (LInv.cons (b := (lpAt (bodyOf Tryz.f239) [0])) (by kernel_rfl) (lp239_9 k hP hm hg) LInv.nil))) (ev239 k)
def c240 (k : Nat) : Con := ⟨240, [((.ref T_l01Cur), true)], [T_Six], (.own true), fun x => spec_l01Cur_six k x.1⟩
def F240 (k : Nat) : List Con := [c81 k, c190 k, c79 k, c241 k]
theorem okF240 (k : Nat) : ∀ cn ∈ F240 k, ConOk Tryz.prog cn := (conCons (ok81 k) (conCons (ok190 k) (conCons (ok79 k) (conCons (ok241 k) conNil))))
abbrev S240_10 : Shape := [(0, .arg 0), (2, .box true T_Six), (3, .box true T_Six), (4, .v (.int .i64)), (5, .box true T_Ext), (6, .v (.int .i64))]
abbrev X240_10 : Exit × Shape := (Exit.exit 2, [(0, .arg 0), (2, .box true T_Six), (3, .box true T_Six), (4, .v (.int .i64)), (5, .box true T_Ext)])
abbrev R240_10 : List (Exit × Shape) := []
def lo240_10 (k : Nat) : LO := loopO [(0, 0)] [.ptr 0 0 0] [(.ref T_l01Cur)] S240_10 X240_10 R240_10 (iter (spec_l01Cur_six_s10) k)
theorem st240_10 (k : Nat) (rec v) : evC Tryz.prog ⟨87, [(0, 0)]⟩ (F240 k) (inlN Tryz.prog (F240 k) 4) [] (lpAt (bodyOf Tryz.f240) [0, 0]) (Kb [(0, 0)] [.ptr 0 0 0] [(.ref T_l01Cur)] S240_10 X240_10 R240_10 rec) (mkSt [.ptr 0 0 0] [(.ref T_l01Cur)] S240_10 v.1 v.2) = (spec_l01Cur_six_s10) rec v := by kernel_rfl
theorem lp240_10 (k : Nat) {c : Cx} (hP : c.P = Tryz.prog) (hm : c.m = ⟨87, [(0, 0)]⟩) (hg : c.gs = [.ptr 0 0 0]) : LoopOk c (lo240_10 k) (lpAt (bodyOf Tryz.f240) [0, 0]) :=
  loop_at hP hm hg (okF240 k) (LInv.of (code := (lpAt (bodyOf Tryz.f240) [0, 0])) (bs := []) (by kernel_rfl) LInv.nil) (fun rec v => st240_10 k rec v) k
abbrev S240_6 : Shape := [(0, .arg 0), (2, .box true T_Six), (3, .box true T_Six), (4, .v (.int .i64))]
abbrev X240_6 : Exit × Shape := (Exit.exit 0, [(2, .box true T_Six), (3, .box true T_Six)])
abbrev R240_6 : List (Exit × Shape) := []
def lo240_6 (k : Nat) : LO := loopO [(0, 0)] [.ptr 0 0 0] [(.ref T_l01Cur)] S240_6 X240_6 R240_6 (iter (spec_l01Cur_six_s6 k) k)
theorem st240_6 (k : Nat) (rec v) : evC Tryz.prog ⟨87, [(0, 0)]⟩ (F240 k) (inlN Tryz.prog (F240 k) 4) [(10, lo240_10 k)] (lpAt (bodyOf Tryz.f240) [0]) (Kb [(0, 0)] [.ptr 0 0 0] [(.ref T_l01Cur)] S240_6 X240_6 R240_6 rec) (mkSt [.ptr 0 0 0] [(.ref T_l01Cur)] S240_6 v.1 v.2) = (spec_l01Cur_six_s6 k) rec v := by kernel_rfl
theorem lp240_6 (k : Nat) {c : Cx} (hP : c.P = Tryz.prog) (hm : c.m = ⟨87, [(0, 0)]⟩) (hg : c.gs = [.ptr 0 0 0]) : LoopOk c (lo240_6 k) (lpAt (bodyOf Tryz.f240) [0]) :=
  loop_at hP hm hg (okF240 k) (LInv.of (code := (lpAt (bodyOf Tryz.f240) [0])) (bs := [(lpAt (bodyOf Tryz.f240) [0, 0])]) (by kernel_rfl) (LInv.cons (b := (lpAt (bodyOf Tryz.f240) [0, 0])) (by kernel_rfl) (lp240_10 k hP hm hg) LInv.nil)) (fun rec v => st240_6 k rec v) k
theorem ev240 (k : Nat) (x) : evF Tryz.prog (F240 k) (inlN Tryz.prog (F240 k) 4) [(6, lo240_6 k)] Tryz.f240 (bodyOf Tryz.f240) (c240 k).ps (c240 k).rs (c240 k).rm x = (c240 k).m x := by kernel_rfl
theorem ok240 (k : Nat) : ConOk Tryz.prog (c240 k) :=
  fn_at (okF240 k) (cn := c240 k) (fn := Tryz.f240) (code := bodyOf Tryz.f240) (m := ⟨87, [(0, 0)]⟩) (gs := [.ptr 0 0 0]) (by kernel_rfl) (by kernel_rfl) (by kernel_rfl) (by kernel_rfl) (by kernel_rfl) (fun _ => by kernel_rfl)
    [(6, lo240_6 k)] (fun c hP hm hg => (LInv.of (code := (bodyOf Tryz.f240)) (bs := [(lpAt (bodyOf Tryz.f240) [0])]) (by kernel_rfl) (LInv.cons (b := (lpAt (bodyOf Tryz.f240) [0])) (by kernel_rfl) (lp240_6 k hP hm hg) LInv.nil))) (ev240 k)
def c135 (k : Nat) : Con := ⟨135, [((.ref T_l01Cur), true)], [T_Packet], (.own true), fun x => spec_l01Cur_packet k x.1⟩
def F135 (k : Nat) : List Con := [c80 k, c237 k, c81 k, c238 k, c239 k, c173 k, c241 k, c240 k]
theorem okF135 (k : Nat) : ∀ cn ∈ F135 k, ConOk Tryz.prog cn := (conCons (ok80 k) (conCons (ok237 k) (conCons (ok81 k) (conCons (ok238 k) (conCons (ok239 k) (conCons (ok173 k) (conCons (ok241 k) (conCons (ok240 k) conNil))))))))
theorem ev135 (k : Nat) (x) : evF Tryz.prog (F135 k) (inlN Tryz.prog (F135 k) 4) [] Tryz.f135 (bodyOf Tryz.f135) (c135 k).ps (c135 k).rs (c135 k).rm x = (c135 k).m x := by kernel_rfl
theorem ok135 (k : Nat) : ConOk Tryz.prog (c135 k) :=
  fn_at (okF135 k) (cn := c135 k) (fn := Tryz.f135) (code := bodyOf Tryz.f135) (m := ⟨70, [(0, 0)]⟩) (gs := [.ptr 0 0 0]) (by kernel_rfl) (by kernel_rfl) (by kernel_rfl) (by kernel_rfl) (by kernel_rfl) (fun _ => by kernel_rfl)
    [] (fun c hP hm hg => (LInv.of (code := (bodyOf Tryz.f135)) (bs := []) (by kernel_rfl) LInv.nil)) (ev135 k)
def c126 (k : Nat) : Con := ⟨126, [((.ref T_l01Cur), true)], [(.sl (.int .u8))], (.own true), fun x => spec_l01Cur_frame k x.1⟩
def F126 (k : Nat) : List Con := [c135 k, c28 k, c81 k]
theorem okF126 (k : Nat) : ∀ cn ∈ F126 k, ConOk Tryz.prog cn := (conCons (ok135 k) (conCons (ok28 k) (conCons (ok81 k) conNil)))
theorem ev126 (k : Nat) (x) : evF Tryz.prog (F126 k) (inlN Tryz.prog (F126 k) 4) [] Tryz.f126 (bodyOf Tryz.f126) (c126 k).ps (c126 k).rs (c126 k).rm x = (c126 k).m x := by kernel_rfl
theorem ok126 (k : Nat) : ConOk Tryz.prog (c126 k) :=
  fn_at (okF126 k) (cn := c126 k) (fn := Tryz.f126) (code := bodyOf Tryz.f126) (m := ⟨49, [(0, 0)]⟩) (gs := [.ptr 0 0 0]) (by kernel_rfl) (by kernel_rfl) (by kernel_rfl) (by kernel_rfl) (by kernel_rfl) (fun _ => by kernel_rfl)
    [] (fun c hP hm hg => (LInv.of (code := (bodyOf Tryz.f126)) (bs := []) (by kernel_rfl) LInv.nil)) (ev126 k)
def c46 (k : Nat) : Con := ⟨46, [((.sl (.int .u8)), false)], [(.sl (.int .u8))], (.own true), fun x => spec_DrawPacketRead k x.1⟩
theorem ok46 (k : Nat) : ConOk Tryz.prog (c46 k) := ok0 Tryz.f46 (conCons (ok126 k) conNil) (by kernel_rfl) (fun _ => by kernel_rfl)
def c159 (k : Nat) : Con := ⟨159, [((.sl (.int .u8)), false), ((.int .i64), false)], [(.int .i64), .bool], (.own true), fun x => spec_Be16 x.1 x.2.1⟩
theorem ok159 (k : Nat) : ConOk Tryz.prog (c159 k) := ok0 Tryz.f159 conNil (by kernel_rfl) (fun _ => by kernel_rfl)
def c193 (k : Nat) : Con := ⟨193, [((.sl (.int .u8)), false), ((.int .i64), false)], [(.int .i64), .bool], (.own true), fun x => spec_Be32 k x.1 x.2.1⟩
def F193 (k : Nat) : List Con := []
theorem okF193 (k : Nat) : ∀ cn ∈ F193 k, ConOk Tryz.prog cn := conNil
abbrev S193_5 : Shape := [(0, .v (.sl (.int .u8))), (1, .v (.int .i64)), (6, .v (.int .i64)), (7, .v (.int .i64))]
abbrev X193_5 : Exit × Shape := (Exit.exit 0, [(6, .v (.int .i64))])
abbrev R193_5 : List (Exit × Shape) := []
def lo193_5 (k : Nat) : LO := loopO [] [] [] S193_5 X193_5 R193_5 (iter (spec_Be32_s5) k)
theorem st193_5 (k : Nat) (rec v) : evC Tryz.prog ⟨32, []⟩ (F193 k) (inlN Tryz.prog (F193 k) 4) [] (lpAt (bodyOf Tryz.f193) [0]) (Kb [] [] [] S193_5 X193_5 R193_5 rec) (mkSt [] [] S193_5 v.1 v.2) = (spec_Be32_s5) rec v := by kernel_rfl
theorem lp193_5 (k : Nat) {c : Cx} (hP : c.P = Tryz.prog) (hm : c.m = ⟨32, []⟩) (hg : c.gs = []) : LoopOk c (lo193_5 k) (lpAt (bodyOf Tryz.f193) [0]) :=
  loop_at hP hm hg (okF193 k) (LInv.of (code := (lpAt (bodyOf Tryz.f193) [0])) (bs := []) (by kernel_rfl) LInv.nil) (fun rec v => st193_5 k rec v) k
theorem ev193 (k : Nat) (x) : evF Tryz.prog (F193 k) (inlN Tryz.prog (F193 k) 4) [(5, lo193_5 k)] Tryz.f193 (bodyOf Tryz.f193) (c193 k).ps (c193 k).rs (c193 k).rm x = (c193 k).m x := by kernel_rfl
theorem ok193 (k : Nat) : ConOk Tryz.prog (c193 k) :=
  fn_at (okF193 k) (cn := c193 k) (fn := Tryz.f193) (code := bodyOf Tryz.f193) (m := ⟨32, []⟩) (gs := []) (by kernel_rfl) (by kernel_rfl) (by kernel_rfl) (by kernel_rfl) (by kernel_rfl) (fun _ => by kernel_rfl)
    [(5, lo193_5 k)] (fun c hP hm hg => (LInv.of (code := (bodyOf Tryz.f193)) (bs := [(lpAt (bodyOf Tryz.f193) [0])]) (by kernel_rfl) (LInv.cons (b := (lpAt (bodyOf Tryz.f193) [0])) (by kernel_rfl) (lp193_5 k hP hm hg) LInv.nil))) (ev193 k)
def c100 (k : Nat) : Con := ⟨100, [((.sl (.int .u8)), false)], [T_Ether, (.int .i64)], (.own true), fun x => spec_EtherRead k x.1⟩
theorem ok100 (k : Nat) : ConOk Tryz.prog (c100 k) := ok0 Tryz.f100 (conCons (ok159 k) (conCons (ok193 k) conNil)) (by kernel_rfl) (fun _ => by kernel_rfl)
def c87 (k : Nat) : Con := ⟨87, [((.sl (.int .u8)), false)], [T_Addr, .bool], (.own true), fun x => spec_AddrOf k x.1⟩
theorem ok87 (k : Nat) : ConOk Tryz.prog (c87 k) := ok0 Tryz.f87 (conCons (ok193 k) conNil) (by kernel_rfl) (fun _ => by kernel_rfl)
def c101 (k : Nat) : Con := ⟨101, [((.sl (.int .u8)), false)], [T_Four, (.sl (.int .u8)), (.int .i64)], (.own true), fun x => spec_FourRead k x.1⟩
theorem ok101 (k : Nat) : ConOk Tryz.prog (c101 k) := ok0 Tryz.f101 (conCons (ok159 k) (conCons (ok87 k) (conCons (ok213 k) conNil))) (by kernel_rfl) (fun _ => by kernel_rfl)
def c103 (k : Nat) : Con := ⟨103, [((.sl (.int .u8)), false)], [T_Six, (.sl (.int .u8)), (.int .i64)], (.own true), fun x => spec_SixRead k x.1⟩
def F103 (k : Nat) : List Con := [c159 k, c193 k, c87 k, c214 k]
theorem okF103 (k : Nat) : ∀ cn ∈ F103 k, ConOk Tryz.prog cn := (conCons (ok159 k) (conCons (ok193 k) (conCons (ok87 k) (conCons (ok214 k) conNil))))
abbrev S103_17 : Shape := [(0, .v (.sl (.int .u8))), (2, .box true T_Six), (7, .v (.int .i64)), (10, .box true T_Six), (11, .v (.int .i64)), (12, .v (.int .i64))]
abbrev X103_17 : Exit × Shape := (Exit.ret, [(2, .box true T_Six), (3, .own true (.sl (.int .u8))), (4, .v (.int .i64))])
abbrev R103_17 : List (Exit × Shape) := [(Exit.exit 0, [(0, .v (.sl (.int .u8))), (2, .box true T_Six), (7, .v (.int .i64)), (10, .box true T_Six), (11, .v (.int .i64)), (12, .v (.int .i64))])]
def lo103_17 (k : Nat) : LO := loopO [] [] [] S103_17 X103_17 R103_17 (iter (spec_SixRead_s17) k)
theorem st103_17 (k : Nat) (rec v) : evC Tryz.prog ⟨167, []⟩ (F103 k) (inlN Tryz.prog (F103 k) 4) [] (lpAt (bodyOf Tryz.f103) [0]) (Kb [] [] [] S103_17 X103_17 R103_17 rec) (mkSt [] [] S103_17 v.1 v.2) = (spec_SixRead_s17) rec v := by kernel_rfl
theorem lp103_17 (k : Nat) {c : Cx} (hP : c.P = Tryz.prog) (hm : c.m = ⟨167, []⟩) (hg : c.gs = []) : LoopOk c (lo103_17 k) (lpAt (bodyOf Tryz.f103) [0]) :=
  loop_at hP hm hg (okF103 k) (LInv.of (code := (lpAt (bodyOf Tryz.f103) [0])) (bs := []) (by kernel_rfl) LInv.nil) (fun rec v => st103_17 k rec v) k
theorem ev103 (k : Nat) (x) : evF Tryz.prog (F103 k) (inlN Tryz.prog (F103 k) 4) [(17, lo103_17 k)] Tryz.f103 (bodyOf Tryz.f103) (c103 k).ps (c103 k).rs (c103 k).rm x = (c103 k).m x := by kernel_rfl
theorem ok103 (k : Nat) : ConOk Tryz.prog (c103 k) :=
  fn_at (okF103 k) (cn := c103 k) (fn := Tryz.f103) (code := bodyOf Tryz.f103) (m := ⟨167, []⟩) (gs := []) (by kernel_rfl) (by kernel_rfl) (by kernel_rfl) (by kernel_rfl) (by kernel_rfl) (fun _ => by kernel_rfl)
    [(17, lo103_17 k)] (fun c hP hm hg => (LInv.of (code := (bodyOf Tryz.f103)) (bs := [(lpAt (bodyOf Tryz.f103) [0])]) (by kernel_rfl) (LInv.cons (b := (lpAt (bodyOf Tryz.f103) [0])) (by kernel_rfl) (lp103_17 k hP hm hg) LInv.nil))) (ev103 k)
def c104 (k : Nat) : Con := ⟨104, [((.sl (.int .u8)), false), ((.int .i64), false), (T_Addr, false), (T_Addr, false)], [T_Upper, (.int .i64)], (.own true), fun x => spec_UpperRead k x.1 x.2.1 x.2.2.1 x.2.2.2.1⟩
theorem ok104 (k : Nat) : ConOk Tryz.prog (c104 k) := ok0 Tryz.f104 (conCons (ok215 k) (conCons (ok216 k) (conCons (ok182 k) (conCons (ok159 k) (conCons (ok193 k) (conCons (ok180 k) conNil)))))) (by kernel_rfl) (fun _ => by kernel_rfl)
def c38 (k : Nat) : Con := ⟨38, [((.sl (.int .u8)), false)], [T_Packet, (.int .i64)], (.own true), fun x => spec_PacketRead k x.1⟩
theorem ok38 (k : Nat) : ConOk Tryz.prog (c38 k) := ok0 Tryz.f38 (conCons (ok100 k) (conCons (ok101 k) (conCons (ok102 k) (conCons (ok105 k) (conCons (ok106 k) (conCons (ok104 k) (conCons (ok103 k) conNil))))))) (by kernel_rfl) (fun _ => by kernel_rfl)
def c47 (k : Nat) : Con := ⟨47, [((.sl (.int .u8)), false)], [(.sl (.int .u8))], (.own true), fun x => laws_bytesOf x.1⟩
theorem ok47 (k : Nat) : ConOk Tryz.prog (c47 k) := ok0 Tryz.f47 conNil (by kernel_rfl) (fun _ => by kernel_rfl)
def c217 (k : Nat) : Con := ⟨217, [((.sl (.int .u8)), false)], [(.int .i64)], (.own true), fun x => impl_beOf k x.1⟩
def F217 (k : Nat) : List Con := []
theorem okF217 (k : Nat) : ∀ cn ∈ F217 k, ConOk Tryz.prog cn := conNil
abbrev S217_3 : Shape := [(3, .v (.int .i64)), (6, .v (.sl (.int .u8))), (7, .v (.int .i64)), (8, .v (.int .i64))]
abbrev X217_3 : Exit × Shape := (Exit.exit 0, [(3, .v (.int .i64))])
abbrev R217_3 : List (Exit × Shape) := []
def lo217_3 (k : Nat) : LO := loopO [] [] [] S217_3 X217_3 R217_3 (iter (impl_beOf_s3) k)
theorem st217_3 (k : Nat) (rec v) : evC Tryz.prog ⟨19, []⟩ (F217 k) (inlN Tryz.prog (F217 k) 4) [] (lpAt (bodyOf Tryz.f217) [0]) (Kb [] [] [] S217_3 X217_3 R217_3 rec) (mkSt [] [] S217_3 v.1 v.2) = (impl_beOf_s3) rec v := by kernel_rfl
theorem lp217_3 (k : Nat) {c : Cx} (hP : c.P = Tryz.prog) (hm : c.m = ⟨19, []⟩) (hg : c.gs = []) : LoopOk c (lo217_3 k) (lpAt (bodyOf Tryz.f217) [0]) :=
  loop_at hP hm hg (okF217 k) (LInv.of (code := (lpAt (bodyOf Tryz.f217) [0])) (bs := []) (by kernel_rfl) LInv.nil) (fun rec v => st217_3 k rec v) k
theorem ev217 (k : Nat) (x) : evF Tryz.prog (F217 k) (inlN Tryz.prog (F217 k) 4) [(3, lo217_3 k)] Tryz.f217 (bodyOf Tryz.f217) (c217 k).ps (c217 k).rs (c217 k).rm x = (c217 k).m x := by kernel_rfl
theorem ok217 (k : Nat) : ConOk Tryz.prog (c217 k) :=
  fn_at (okF217 k) (cn := c217 k) (fn := Tryz.f217) (code := bodyOf Tryz.f217) (m := ⟨19, []⟩) (gs := []) (by kernel_rfl) (by kernel_rfl) (by kernel_rfl) (by kernel_rfl) (by kernel_rfl) (fun _ => by kernel_rfl)
    [(3, lo217_3 k)] (fun c hP hm hg => (LInv.of (code := (bodyOf Tryz.f217)) (bs := [(lpAt (bodyOf Tryz.f217) [0])]) (by kernel_rfl) (LInv.cons (b := (lpAt (bodyOf Tryz.f217) [0])) (by kernel_rfl) (lp217_3 k hP hm hg) LInv.nil))) (ev217 k)
def c71 (k : Nat) : Con := ⟨71, [((.int .i64), false), ((.int .i64), false), ((.int .i64), false)], [.bool], (.own true), fun x => impl_within x.1 x.2.1 x.2.2.1⟩
theorem ok71 (k : Nat) : ConOk Tryz.prog (c71 k) := ok0 Tryz.f71 conNil (by kernel_rfl) (fun _ => by kernel_rfl)
def c218 (k : Nat) : Con := ⟨218, [((.int .i64), false)], [.bool], (.own true), fun x => impl_isKind x.1⟩
theorem ok218 (k : Nat) : ConOk Tryz.prog (c218 k) := ok0 Tryz.f218 (conCons (ok71 k) conNil) (by kernel_rfl) (fun _ => by kernel_rfl)
def c153 (k : Nat) : Con := ⟨153, [(T_Ether, false)], [(.int .i64)], (.own true), fun x => impl_headOf x.1⟩
theorem ok153 (k : Nat) : ConOk Tryz.prog (c153 k) := ok0 Tryz.f153 conNil (by kernel_rfl) (fun _ => by kernel_rfl)
def c219 (k : Nat) : Con := ⟨219, [((.sl (.int .u8)), false)], [(.sl (.int .u8))], (.own true), fun x => slices_Clone_byte_byte x.1⟩
theorem ok219 (k : Nat) : ConOk Tryz.prog (c219 k) :=
  fn_nil conNil (fn := Tryz.f219) (code := bodyOf Tryz.f219) (by kernel_rfl) (by kernel_rfl) (by kernel_rfl) (by kernel_rfl) (by kernel_rfl) (fun e l => by kernel_rfl) (by kernel_rfl) (fun A cap => by kernel_rfl)
def c107 (k : Nat) : Con := ⟨107, [((.sl (.int .u8)), false)], [T_Ether, (.int .i64)], (.own true), fun x => impl_EtherRead k x.1⟩
theorem ok107 (k : Nat) : ConOk Tryz.prog (c107 k) := ok0 Tryz.f107 (conCons (ok217 k) (conCons (ok218 k) (conCons (ok153 k) (conCons (ok219 k) conNil)))) (by kernel_rfl) (fun _ => by kernel_rfl)
def c295 (k : Nat) : Con := ⟨295, [((.sl (.int .u8)), false)], [T_Addr, .bool], (.own true), fun x => impl_AddrOf k x.1⟩
theorem ok295 (k : Nat) : ConOk Tryz.prog (c295 k) := ok0 Tryz.f295 (conCons (ok217 k) conNil) (by kernel_rfl) (fun _ => by kernel_rfl)
def c292 (k : Nat) : Con := ⟨292, [((.sl (.int .u8)), false), ((.int .i64), false)], [T_Four], (.own true), fun x => impl_fourOf k x.1 x.2.1⟩
theorem ok292 (k : Nat) : ConOk Tryz.prog (c292 k) := ok0 Tryz.f292 (conCons (ok217 k) (conCons (ok219 k) (conCons (ok295 k) conNil))) (by kernel_rfl) (fun _ => by kernel_rfl)
def c92 (k : Nat) : Con := ⟨92, [((.int .i64), false)], [.bool], (.own true), fun x => impl_isWord x.1⟩
theorem ok92 (k : Nat) : ConOk Tryz.prog (c92 k) := ok0 Tryz.f92 (conCons (ok71 k) conNil) (by kernel_rfl) (fun _ => by kernel_rfl)
def c224 (k : Nat) : Con := ⟨224, [((.int .i64), false)], [.bool], (.own true), fun x => impl_isByte x.1⟩
theorem ok224 (k : Nat) : ConOk Tryz.prog (c224 k) := ok0 Tryz.f224 (conCons (ok71 k) conNil) (by kernel_rfl) (fun _ => by kernel_rfl)
def c321 (k : Nat) : Con := ⟨321, [((.int .i64), false)], [.bool], (.own true), fun x => impl_isLong x.1⟩
theorem ok321 (k : Nat) : ConOk Tryz.prog (c321 k) := ok0 Tryz.f321 (conCons (ok71 k) conNil) (by kernel_rfl) (fun _ => by kernel_rfl)
def c284 (k : Nat) : Con := ⟨284, [(T_Addr, false)], [.bool], (.own true), fun x => impl_AddrOk x.1⟩
theorem ok284 (k : Nat) : ConOk Tryz.prog (c284 k) := ok0 Tryz.f284 (conCons (ok321 k) conNil) (by kernel_rfl) (fun _ => by kernel_rfl)
def c296 (k : Nat) : Con := ⟨296, [(T_Addr, false), ((.int .i64), false)], [.bool], (.own true), fun x => impl_isAddrOf x.1 x.2.1⟩
theorem ok296 (k : Nat) : ConOk Tryz.prog (c296 k) := ok0 Tryz.f296 (conCons (ok284 k) conNil) (by kernel_rfl) (fun _ => by kernel_rfl)
def c323 (k : Nat) : Con := ⟨323, [(T_Four, false)], [(.int .i64)], (.own true), fun x => impl_fourHead x.1⟩
theorem ok323 (k : Nat) : ConOk Tryz.prog (c323 k) := ok0 Tryz.f323 conNil (by kernel_rfl) (fun _ => by kernel_rfl)
def c297 (k : Nat) : Con := ⟨297, [(T_Four, false)], [(.int .i64)], (.own true), fun x => impl_fourSize x.1⟩
theorem ok297 (k : Nat) : ConOk Tryz.prog (c297 k) := ok0 Tryz.f297 (conCons (ok323 k) conNil) (by kernel_rfl) (fun _ => by kernel_rfl)
def c222 (k : Nat) : Con := ⟨222, [(T_Four, false)], [.bool], (.own true), fun x => impl_FourOk x.1⟩
theorem ok222 (k : Nat) : ConOk Tryz.prog (c222 k) := ok0 Tryz.f222 (conCons (ok71 k) (conCons (ok92 k) (conCons (ok224 k) (conCons (ok296 k) (conCons (ok297 k) conNil))))) (by kernel_rfl) (fun _ => by kernel_rfl)
def c205 (k : Nat) : Con := ⟨205, [((.int .i64), false), ((.int .i64), false)], [(.sl (.int .u8))], (.own true), fun x => impl_put k x.1 x.2.1⟩
def F205 (k : Nat) : List Con := []
theorem okF205 (k : Nat) : ∀ cn ∈ F205 k, ConOk Tryz.prog cn := conNil
abbrev S205_3 : Shape := [(0, .v (.int .i64)), (1, .v (.int .i64)), (5, .own true (.sl (.int .u8))), (10, .v (.int .i64)), (11, .v (.int .i64))]
abbrev X205_3 : Exit × Shape := (Exit.exit 0, [(5, .own true (.sl (.int .u8)))])
abbrev R205_3 : List (Exit × Shape) := []
def lo205_3 (k : Nat) : LO := loopO [] [] [] S205_3 X205_3 R205_3 (iter (impl_put_s3) k)
theorem st205_3 (k : Nat) (rec v) : evC Tryz.prog ⟨27, []⟩ (F205 k) (inlN Tryz.prog (F205 k) 4) [] (lpAt (bodyOf Tryz.f205) [0]) (Kb [] [] [] S205_3 X205_3 R205_3 rec) (mkSt [] [] S205_3 v.1 v.2) = (impl_put_s3) rec v := by kernel_rfl
theorem lp205_3 (k : Nat) {c : Cx} (hP : c.P = Tryz.prog) (hm : c.m = ⟨27, []⟩) (hg : c.gs = []) : LoopOk c (lo205_3 k) (lpAt (bodyOf Tryz.f205) [0]) :=
  loop_at hP hm hg (okF205 k) (LInv.of (code := (lpAt (bodyOf Tryz.f205) [0])) (bs := []) (by kernel_rfl) LInv.nil) (fun rec v => st205_3 k rec v) k
theorem ev205 (k : Nat) (x) : evF Tryz.prog (F205 k) (inlN Tryz.prog (F205 k) 4) [(3, lo205_3 k)] Tryz.f205 (bodyOf Tryz.f205) (c205 k).ps (c205 k).rs (c205 k).rm x = (c205 k).m x := by kernel_rfl
theorem ok205 (k : Nat) : ConOk Tryz.prog (c205 k) :=
  fn_at (okF205 k) (cn := c205 k) (fn := Tryz.f205) (code := bodyOf Tryz.f205) (m := ⟨27, []⟩) (gs := []) (by kernel_rfl) (by kernel_rfl) (by kernel_rfl) (by kernel_rfl) (by kernel_rfl) (fun _ => by kernel_rfl)
    [(3, lo205_3 k)] (fun c hP hm hg => (LInv.of (code := (bodyOf Tryz.f205)) (bs := [(lpAt (bodyOf Tryz.f205) [0])]) (by kernel_rfl) (LInv.cons (b := (lpAt (bodyOf Tryz.f205) [0])) (by kernel_rfl) (lp205_3 k hP hm hg) LInv.nil))) (ev205 k)
def c204 (k : Nat) : Con := ⟨204, [((.int .i64), false)], [(.sl (.int .u8))], (.own true), fun x => impl_Put16 k x.1⟩
theorem ok204 (k : Nat) : ConOk Tryz.prog (c204 k) := ok0 Tryz.f204 (conCons (ok205 k) conNil) (by kernel_rfl) (fun _ => by kernel_rfl)
def c316 (k : Nat) : Con := ⟨316, [((.int .i64), false)], [(.sl (.int .u8))], (.own true), fun x => impl_Put32 k x.1⟩
theorem ok316 (k : Nat) : ConOk Tryz.prog (c316 k) := ok0 Tryz.f316 (conCons (ok205 k) conNil) (by kernel_rfl) (fun _ => by kernel_rfl)
def c178 (k : Nat) : Con := ⟨178, [((.sl (.sl (.int .u8))), false)], [(.sl (.int .u8))], (.own true), fun x => slices_Concat_byte_byte k x.1⟩
def F178 (k : Nat) : List Con := []
theorem okF178 (k : Nat) : ∀ cn ∈ F178 k, ConOk Tryz.prog cn := conNil
abbrev S178_3 : Shape := [(0, .v (.sl (.sl (.int .u8)))), (3, .v (.int .i64)), (9, .v (.sl (.sl (.int .u8)))), (10, .v (.int .i64)), (11, .v (.int .i64))]
abbrev X178_3 : Exit × Shape := (Exit.exit 0, [(0, .v (.sl (.sl (.int .u8)))), (3, .v (.int .i64))])
abbrev R178_3 : List (Exit × Shape) := []
def lo178_3 (k : Nat) : LO := loopO [] [] [] S178_3 X178_3 R178_3 (iter (slices_Concat_byte_byte_s3) k)
theorem st178_3 (k : Nat) (rec v) : evC Tryz.prog ⟨36, []⟩ (F178 k) (inlN Tryz.prog (F178 k) 4) [] (lpAt (bodyOf Tryz.f178) [0]) (Kb [] [] [] S178_3 X178_3 R178_3 rec) (mkSt [] [] S178_3 v.1 v.2) = (slices_Concat_byte_byte_s3) rec v := by kernel_rfl
theorem lp178_3 (k : Nat) {c : Cx} (hP : c.P = Tryz.prog) (hm : c.m = ⟨36, []⟩) (hg : c.gs = []) : LoopOk c (lo178_3 k) (lpAt (bodyOf Tryz.f178) [0]) :=
  loop_at hP hm hg (okF178 k) (LInv.of (code := (lpAt (bodyOf Tryz.f178) [0])) (bs := []) (by kernel_rfl) LInv.nil) (fun rec v => st178_3 k rec v) k
abbrev S178_11 : Shape := [(6, .own true (.sl (.int .u8))), (25, .v (.sl (.sl (.int .u8)))), (26, .v (.int .i64)), (27, .v (.int .i64))]
abbrev X178_11 : Exit × Shape := (Exit.exit 2, [(6, .own true (.sl (.int .u8)))])
abbrev R178_11 : List (Exit × Shape) := []
def lo178_11 (k : Nat) : LO := loopO [] [] [] S178_11 X178_11 R178_11 (iter (slices_Concat_byte_byte_s11) k)
theorem st178_11 (k : Nat) (rec v) : evC Tryz.prog ⟨36, []⟩ (F178 k) (inlN Tryz.prog (F178 k) 4) [] (lpAt (bodyOf Tryz.f178) [1]) (Kb [] [] [] S178_11 X178_11 R178_11 rec) (mkSt [] [] S178_11 v.1 v.2) = (slices_Concat_byte_byte_s11) rec v := by kernel_rfl
theorem lp178_11 (k : Nat) {c : Cx} (hP : c.P = Tryz.prog) (hm : c.m = ⟨36, []⟩) (hg : c.gs = []) : LoopOk c (lo178_11 k) (lpAt (bodyOf Tryz.f178) [1]) :=
  loop_at hP hm hg (okF178 k) (LInv.of (code := (lpAt (bodyOf Tryz.f178) [1])) (bs := []) (by kernel_rfl) LInv.nil) (fun rec v => st178_11 k rec v) k
theorem ev178 (k : Nat) (x) : evF Tryz.prog (F178 k) (inlN Tryz.prog (F178 k) 4) [(3, lo178_3 k), (11, lo178_11 k)] Tryz.f178 (bodyOf Tryz.f178) (c178 k).ps (c178 k).rs (c178 k).rm x = (c178 k).m x := by kernel_rfl
theorem ok178 (k : Nat) : ConOk Tryz.prog (c178 k) :=
  fn_at (okF178 k) (cn := c178 k) (fn := Tryz.f178) (code := bodyOf Tryz.f178) (m := ⟨36, []⟩) (gs := []) (by kernel_rfl) (by kernel_rfl) (by kernel_rfl) (by kernel_rfl) (by kernel_rfl) (fun _ => by kernel_rfl)
    [(3, lo178_3 k), (11, lo178_11 k)] (fun c hP hm hg => (LInv.of (code := (bodyOf Tryz.f178)) (bs := [(lpAt (bodyOf Tryz.f178) [0]), (lpAt (bodyOf Tryz.f178) [1])]) (by kernel_rfl) (LInv.cons (b := (lpAt (bodyOf Tryz.f178) [0])) (by kernel_rfl) (lp178_3 k hP hm hg) (LInv.cons (b := (lpAt (bodyOf Tryz.f178) [1])) (by kernel_rfl) (lp178_11 k hP hm hg) LInv.nil)))) (ev178 k)
def c317 (k : Nat) : Con := ⟨317, [(T_Addr, false)], [(.sl (.int .u8))], (.own true), fun x => impl_AddrBytes k x.1⟩
theorem ok317 (k : Nat) : ConOk Tryz.prog (c317 k) := ok0 Tryz.f317 (conCons (ok284 k) (conCons (ok316 k) (conCons (ok178 k) conNil))) (by kernel_rfl) (fun _ => by kernel_rfl)
def c313 (k : Nat) : Con := ⟨313, [(T_Four, false), ((.int .i64), false)], [(.sl (.int .u8))], (.own true), fun x => impl_Four_head k x.1 x.2.1⟩
theorem ok313 (k : Nat) : ConOk Tryz.prog (c313 k) := ok0 Tryz.f313 (conCons (ok323 k) (conCons (ok204 k) (conCons (ok297 k) (conCons (ok317 k) (conCons (ok178 k) conNil))))) (by kernel_rfl) (fun _ => by kernel_rfl)
def c206 (k : Nat) : Con := ⟨206, [((.int .i64), false), ((.int .i64), false)], [(.int .i64)], (.own true), fun x => impl_sum x.1 x.2.1⟩
theorem ok206 (k : Nat) : ConOk Tryz.prog (c206 k) := ok0 Tryz.f206 conNil (by kernel_rfl) (fun _ => by kernel_rfl)
def c301 (k : Nat) : Con := ⟨301, [((.sl (.int .u8)), false)], [(.int .i64)], (.own true), fun x => impl_onesSum k x.1⟩
def F301 (k : Nat) : List Con := [c206 k]
theorem okF301 (k : Nat) : ∀ cn ∈ F301 k, ConOk Tryz.prog cn := (conCons (ok206 k) conNil)
abbrev S301_3 : Shape := [(0, .v (.sl (.int .u8))), (3, .v (.int .i64)), (4, .v (.int .i64))]
abbrev X301_3 : Exit × Shape := (Exit.exit 0, [(3, .v (.int .i64))])
abbrev R301_3 : List (Exit × Shape) := []
def lo301_3 (k : Nat) : LO := loopO [] [] [] S301_3 X301_3 R301_3 (iter (impl_onesSum_s3) k)
theorem st301_3 (k : Nat) (rec v) : evC Tryz.prog ⟨35, []⟩ (F301 k) (inlN Tryz.prog (F301 k) 4) [] (lpAt (bodyOf Tryz.f301) [0]) (Kb [] [] [] S301_3 X301_3 R301_3 rec) (mkSt [] [] S301_3 v.1 v.2) = (impl_onesSum_s3) rec v := by kernel_rfl
theorem lp301_3 (k : Nat) {c : Cx} (hP : c.P = Tryz.prog) (hm : c.m = ⟨35, []⟩) (hg : c.gs = []) : LoopOk c (lo301_3 k) (lpAt (bodyOf Tryz.f301) [0]) :=
  loop_at hP hm hg (okF301 k) (LInv.of (code := (lpAt (bodyOf Tryz.f301) [0])) (bs := []) (by kernel_rfl) LInv.nil) (fun rec v => st301_3 k rec v) k
theorem ev301 (k : Nat) (x) : evF Tryz.prog (F301 k) (inlN Tryz.prog (F301 k) 4) [(3, lo301_3 k)] Tryz.f301 (bodyOf Tryz.f301) (c301 k).ps (c301 k).rs (c301 k).rm x = (c301 k).m x := by kernel_rfl
theorem ok301 (k : Nat) : ConOk Tryz.prog (c301 k) :=
  fn_at (okF301 k) (cn := c301 k) (fn := Tryz.f301) (code := bodyOf Tryz.f301) (m := ⟨35, []⟩) (gs := []) (by kernel_rfl) (by kernel_rfl) (by kernel_rfl) (by kernel_rfl) (by kernel_rfl) (fun _ => by kernel_rfl)
    [(3, lo301_3 k)] (fun c hP hm hg => (LInv.of (code := (bodyOf Tryz.f301)) (bs := [(lpAt (bodyOf Tryz.f301) [0])]) (by kernel_rfl) (LInv.cons (b := (lpAt (bodyOf Tryz.f301) [0])) (by kernel_rfl) (lp301_3 k hP hm hg) LInv.nil))) (ev301 k)
def c263 (k : Nat) : Con := ⟨263, [((.sl (.int .u8)), false)], [(.int .i64)], (.own true), fun x => impl_Checksum k x.1⟩
theorem ok263 (k : Nat) : ConOk Tryz.prog (c263 k) := ok0 Tryz.f263 (conCons (ok301 k) conNil) (by kernel_rfl) (fun _ => by kernel_rfl)
def c293 (k : Nat) : Con := ⟨293, [(T_Four, false)], [(.int .i64)], (.own true), fun x => impl_HeadSum k x.1⟩
theorem ok293 (k : Nat) : ConOk Tryz.prog (c293 k) := ok0 Tryz.f293 (conCons (ok222 k) (conCons (ok313 k) (conCons (ok263 k) conNil))) (by kernel_rfl) (fun _ => by kernel_rfl)
def c220 (k : Nat) : Con := ⟨220, [((.sl (.int .u8)), false)], [T_Four, (.sl (.int .u8)), (.int .i64)], (.own true), fun x => impl_FourRead k x.1⟩
theorem ok220 (k : Nat) : ConOk Tryz.prog (c220 k) := ok0 Tryz.f220 (conCons (ok217 k) (conCons (ok292 k) (conCons (ok293 k) (conCons (ok219 k) conNil)))) (by kernel_rfl) (fun _ => by kernel_rfl)
def c318 (k : Nat) : Con := ⟨318, [((.int .i64), false)], [.bool], (.own true), fun x => impl_isExtKind x.1⟩
theorem ok318 (k : Nat) : ConOk Tryz.prog (c318 k) := ok0 Tryz.f318 conNil (by kernel_rfl) (fun _ => by kernel_rfl)
def c294 (k : Nat) : Con := ⟨294, [((.int .i64), false), ((.sl (.int .u8)), false)], [(.sl T_Ext), (.int .i64), (.sl (.int .u8)), .bool], (.mix [true, true, false, true]), fun x => impl_extsRead k x.1 x.2.1⟩
def F294 (k : Nat) : List Con := [c318 k, c219 k]
theorem okF294 (k : Nat) : ∀ cn ∈ F294 k, ConOk Tryz.prog cn := (conCons (ok318 k) (conCons (ok219 k) conNil))
abbrev S294_2 : Shape := [(0, .v (.int .i64)), (1, .v (.sl (.int .u8))), (8, .own true (.sl T_Ext))]
abbrev X294_2 : Exit × Shape := (Exit.ret, [(4, .own true (.sl T_Ext)), (5, .v (.int .i64)), (6, .v (.sl (.int .u8))), (7, .v .bool)])
abbrev R294_2 : List (Exit × Shape) := [(Exit.exit 0, [(0, .v (.int .i64)), (1, .v (.sl (.int .u8))), (8, .own true (.sl T_Ext))])]
def lo294_2 (k : Nat) : LO := loopO [] [] [] S294_2 X294_2 R294_2 (iter (impl_extsRead_s2) k)
theorem st294_2 (k : Nat) (rec v) : evC Tryz.prog ⟨65, []⟩ (F294 k) (inlN Tryz.prog (F294 k) 4) [] (lpAt (bodyOf Tryz.f294) [0]) (Kb [] [] [] S294_2 X294_2 R294_2 rec) (mkSt [] [] S294_2 v.1 v.2) = (impl_extsRead_s2) rec v := by kernel_rfl
theorem lp294_2 (k : Nat) {c : Cx} (hP : c.P = Tryz.prog) (hm : c.m = ⟨65, []⟩) (hg : c.gs = []) : LoopOk c (lo294_2 k) (lpAt (bodyOf Tryz.f294) [0]) :=
  loop_at hP hm hg (okF294 k) (LInv.of (code := (lpAt (bodyOf Tryz.f294) [0])) (bs := []) (by kernel_rfl) LInv.nil) (fun rec v => st294_2 k rec v) k
theorem ev294 (k : Nat) (x) : evF Tryz.prog (F294 k) (inlN Tryz.prog (F294 k) 4) [(2, lo294_2 k)] Tryz.f294 (bodyOf Tryz.f294) (c294 k).ps (c294 k).rs (c294 k).rm x = (c294 k).m x := by kernel_rfl
theorem ok294 (k : Nat) : ConOk Tryz.prog (c294 k) :=
  fn_at (okF294 k) (cn := c294 k) (fn := Tryz.f294) (code := bodyOf Tryz.f294) (m := ⟨65, []⟩) (gs := []) (by kernel_rfl) (by kernel_rfl) (by kernel_rfl) (by kernel_rfl) (by kernel_rfl) (fun _ => by kernel_rfl)
    [(2, lo294_2 k)] (fun c hP hm hg => (LInv.of (code := (bodyOf Tryz.f294)) (bs := [(lpAt (bodyOf Tryz.f294) [0])]) (by kernel_rfl) (LInv.cons (b := (lpAt (bodyOf Tryz.f294) [0])) (by kernel_rfl) (lp294_2 k hP hm hg) LInv.nil))) (ev294 k)
def c221 (k : Nat) : Con := ⟨221, [((.sl (.int .u8)), false)], [T_Six, (.sl (.int .u8)), (.int .i64)], (.own true), fun x => impl_SixRead k x.1⟩
theorem ok221 (k : Nat) : ConOk Tryz.prog (c221 k) := ok0 Tryz.f221 (conCons (ok217 k) (conCons (ok294 k) (conCons (ok219 k) (conCons (ok295 k) conNil)))) (by kernel_rfl) (fun _ => by kernel_rfl)
def c109 (k : Nat) : Con := ⟨109, [(T_Four, false)], [.bool], (.own true), fun x => impl_FourPiece x.1⟩
theorem ok109 (k : Nat) : ConOk Tryz.prog (c109 k) := ok0 Tryz.f109 (conCons (ok222 k) conNil) (by kernel_rfl) (fun _ => by kernel_rfl)
def c110 (k : Nat) : Con := ⟨110, [(T_Packet, false)], [T_Addr, T_Addr], (.own true), fun x => impl_Packet_ends x.1⟩
theorem ok110 (k : Nat) : ConOk Tryz.prog (c110 k) := ok0 Tryz.f110 conNil (by kernel_rfl) (fun _ => by kernel_rfl)
def c112 (k : Nat) : Con := ⟨112, [(T_Packet, false)], [(.int .i64)], (.own true), fun x => impl_Packet_proto x.1⟩
theorem ok112 (k : Nat) : ConOk Tryz.prog (c112 k) := ok0 Tryz.f112 conNil (by kernel_rfl) (fun _ => by kernel_rfl)
def c223 (k : Nat) : Con := ⟨223, [(T_Addr, false), (T_Addr, false)], [.bool], (.own true), fun x => impl_areBoth x.1 x.2.1⟩
theorem ok223 (k : Nat) : ConOk Tryz.prog (c223 k) := ok0 Tryz.f223 (conCons (ok284 k) conNil) (by kernel_rfl) (fun _ => by kernel_rfl)
def c225 (k : Nat) : Con := ⟨225, [((.int .i64), false), ((.int .i64), false)], [(.int .i64)], (.own true), fun x => impl_UpperKind x.1 x.2.1⟩
theorem ok225 (k : Nat) : ConOk Tryz.prog (c225 k) := ok0 Tryz.f225 (conCons (ok224 k) conNil) (by kernel_rfl) (fun _ => by kernel_rfl)
def c226 (k : Nat) : Con := ⟨226, [((.int .i64), false)], [(.int .i64)], (.own true), fun x => impl_upperHead x.1⟩
theorem ok226 (k : Nat) : ConOk Tryz.prog (c226 k) := ok0 Tryz.f226 conNil (by kernel_rfl) (fun _ => by kernel_rfl)
def c227 (k : Nat) : Con := ⟨227, [((.sl (.int .u8)), false), ((.int .i64), false), ((.int .i64), false)], [T_Upper, (.int .i64)], (.own true), fun x => impl_upperOf k x.1 x.2.1 x.2.2.1⟩
theorem ok227 (k : Nat) : ConOk Tryz.prog (c227 k) := ok0 Tryz.f227 (conCons (ok219 k) (conCons (ok217 k) conNil)) (by kernel_rfl) (fun _ => by kernel_rfl)
def c300 (k : Nat) : Con := ⟨300, [(T_Upper, false)], [(.int .i64)], (.own true), fun x => impl_UpperSize x.1⟩
theorem ok300 (k : Nat) : ConOk Tryz.prog (c300 k) := ok0 Tryz.f300 (conCons (ok226 k) conNil) (by kernel_rfl) (fun _ => by kernel_rfl)
def c93 (k : Nat) : Con := ⟨93, [((.sl (.int .i64)), false)], [.bool], (.own true), fun x => impl_areWords k x.1⟩
def F93 (k : Nat) : List Con := [c92 k]
theorem okF93 (k : Nat) : ∀ cn ∈ F93 k, ConOk Tryz.prog cn := (conCons (ok92 k) conNil)
abbrev S93_2 : Shape := [(5, .v (.sl (.int .i64))), (6, .v (.int .i64)), (7, .v (.int .i64))]
abbrev X93_2 : Exit × Shape := (Exit.ret, [(2, .v .bool)])
abbrev R93_2 : List (Exit × Shape) := [(Exit.exit 0, [])]
def lo93_2 (k : Nat) : LO := loopO [] [] [] S93_2 X93_2 R93_2 (iter (impl_areWords_s2) k)
theorem st93_2 (k : Nat) (rec v) : evC Tryz.prog ⟨15, []⟩ (F93 k) (inlN Tryz.prog (F93 k) 4) [] (lpAt (bodyOf Tryz.f93) [0]) (Kb [] [] [] S93_2 X93_2 R93_2 rec) (mkSt [] [] S93_2 v.1 v.2) = (impl_areWords_s2) rec v := by kernel_rfl
theorem lp93_2 (k : Nat) {c : Cx} (hP : c.P = Tryz.prog) (hm : c.m = ⟨15, []⟩) (hg : c.gs = []) : LoopOk c (lo93_2 k) (lpAt (bodyOf Tryz.f93) [0]) :=
  loop_at hP hm hg (okF93 k) (LInv.of (code := (lpAt (bodyOf Tryz.f93) [0])) (bs := []) (by kernel_rfl) LInv.nil) (fun rec v => st93_2 k rec v) k
theorem ev93 (k : Nat) (x) : evF Tryz.prog (F93 k) (inlN Tryz.prog (F93 k) 4) [(2, lo93_2 k)] Tryz.f93 (bodyOf Tryz.f93) (c93 k).ps (c93 k).rs (c93 k).rm x = (c93 k).m x := by kernel_rfl
theorem ok93 (k : Nat) : ConOk Tryz.prog (c93 k) :=
  fn_at (okF93 k) (cn := c93 k) (fn := Tryz.f93) (code := bodyOf Tryz.f93) (m := ⟨15, []⟩) (gs := []) (by kernel_rfl) (by kernel_rfl) (by kernel_rfl) (by kernel_rfl) (by kernel_rfl) (fun _ => by kernel_rfl)
    [(2, lo93_2 k)] (fun c hP hm hg => (LInv.of (code := (bodyOf Tryz.f93)) (bs := [(lpAt (bodyOf Tryz.f93) [0])]) (by kernel_rfl) (LInv.cons (b := (lpAt (bodyOf Tryz.f93) [0])) (by kernel_rfl) (lp93_2 k hP hm hg) LInv.nil))) (ev93 k)
def c268 (k : Nat) : Con := ⟨268, [((.int .i64), false)], [.bool], (.own true), fun x => impl_areZero_1 x.1⟩
theorem ok268 (k : Nat) : ConOk Tryz.prog (c268 k) := ok0 Tryz.f268 conNil (by kernel_rfl) (fun _ => by kernel_rfl)
def c306 (k : Nat) : Con := ⟨306, [((.sl (.int .i64)), false), ((.cl 268 .un), false)], [(.int .i64)], (.own true), fun x => slices_IndexFunc_int k x.1 x.2.1⟩
def F306 (k : Nat) : List Con := [c268 k]
theorem okF306 (k : Nat) : ∀ cn ∈ F306 k, ConOk Tryz.prog cn := (conCons (ok268 k) conNil)
abbrev S306_2 : Shape := [(0, .v (.sl (.int .i64))), (1, .v (.cl 268 .un)), (7, .v (.int .i64)), (8, .v (.int .i64))]
abbrev X306_2 : Exit × Shape := (Exit.ret, [(4, .v (.int .i64))])
abbrev R306_2 : List (Exit × Shape) := [(Exit.exit 0, [])]
def lo306_2 (k : Nat) : LO := loopO [] [] [] S306_2 X306_2 R306_2 (iter (slices_IndexFunc_int_s2) k)
theorem st306_2 (k : Nat) (rec v) : evC Tryz.prog ⟨19, []⟩ (F306 k) (inlN Tryz.prog (F306 k) 4) [] (lpAt (bodyOf Tryz.f306) [0]) (Kb [] [] [] S306_2 X306_2 R306_2 rec) (mkSt [] [] S306_2 v.1 v.2) = (slices_IndexFunc_int_s2) rec v := by kernel_rfl
theorem lp306_2 (k : Nat) {c : Cx} (hP : c.P = Tryz.prog) (hm : c.m = ⟨19, []⟩) (hg : c.gs = []) : LoopOk c (lo306_2 k) (lpAt (bodyOf Tryz.f306) [0]) :=
  loop_at hP hm hg (okF306 k) (LInv.of (code := (lpAt (bodyOf Tryz.f306) [0])) (bs := []) (by kernel_rfl) LInv.nil) (fun rec v => st306_2 k rec v) k
theorem ev306 (k : Nat) (x) : evF Tryz.prog (F306 k) (inlN Tryz.prog (F306 k) 4) [(2, lo306_2 k)] Tryz.f306 (bodyOf Tryz.f306) (c306 k).ps (c306 k).rs (c306 k).rm x = (c306 k).m x := by kernel_rfl
theorem ok306 (k : Nat) : ConOk Tryz.prog (c306 k) :=
  fn_at (okF306 k) (cn := c306 k) (fn := Tryz.f306) (code := bodyOf Tryz.f306) (m := ⟨19, []⟩) (gs := []) (by kernel_rfl) (by kernel_rfl) (by kernel_rfl) (by kernel_rfl) (by kernel_rfl) (fun _ => by kernel_rfl)
    [(2, lo306_2 k)] (fun c hP hm hg => (LInv.of (code := (bodyOf Tryz.f306)) (bs := [(lpAt (bodyOf Tryz.f306) [0])]) (by kernel_rfl) (LInv.cons (b := (lpAt (bodyOf Tryz.f306) [0])) (by kernel_rfl) (lp306_2 k hP hm hg) LInv.nil))) (ev306 k)
def c254 (k : Nat) : Con := ⟨254, [((.sl (.int .i64)), false), ((.cl 268 .un), false)], [.bool], (.own true), fun x => slices_ContainsFunc_int k x.1 x.2.1⟩
theorem ok254 (k : Nat) : ConOk Tryz.prog (c254 k) := ok0 Tryz.f254 (conCons (ok306 k) conNil) (by kernel_rfl) (fun _ => by kernel_rfl)
def c176 (k : Nat) : Con := ⟨176, [((.sl (.int .i64)), false)], [.bool], (.own true), fun x => impl_areZero k x.1⟩
theorem ok176 (k : Nat) : ConOk Tryz.prog (c176 k) := ok0 Tryz.f176 (conCons (ok254 k) conNil) (by kernel_rfl) (fun _ => by kernel_rfl)
def c298 (k : Nat) : Con := ⟨298, [(T_Upper, false), ((.int .i64), false)], [.bool], (.own true), fun x => impl_UpperOk k x.1 x.2.1⟩
theorem ok298 (k : Nat) : ConOk Tryz.prog (c298 k) := ok0 Tryz.f298 (conCons (ok300 k) (conCons (ok93 k) (conCons (ok321 k) (conCons (ok71 k) (conCons (ok224 k) (conCons (ok176 k) conNil)))))) (by kernel_rfl) (fun _ => by kernel_rfl)
def c299 (k : Nat) : Con := ⟨299, [(T_Addr, false), (T_Addr, false), ((.int .i64), false), ((.int .i64), false)], [(.int .i64)], (.own true), fun x => impl_pseudoSum k x.1 x.2.1 x.2.2.1 x.2.2.2.1⟩
theorem ok299 (k : Nat) : ConOk Tryz.prog (c299 k) := ok0 Tryz.f299 (conCons (ok204 k) (conCons (ok178 k) (conCons (ok316 k) (conCons (ok317 k) (conCons (ok301 k) conNil))))) (by kernel_rfl) (fun _ => by kernel_rfl)
def c302 (k : Nat) : Con := ⟨302, [(T_Upper, false), ((.int .i64), false)], [(.sl (.int .u8))], (.own true), fun x => impl_Upper_encoded k x.1 x.2.1⟩
theorem ok302 (k : Nat) : ConOk Tryz.prog (c302 k) := ok0 Tryz.f302 (conCons (ok204 k) (conCons (ok178 k) (conCons (ok316 k) (conCons (ok300 k) (conCons (ok219 k) conNil))))) (by kernel_rfl) (fun _ => by kernel_rfl)
def c228 (k : Nat) : Con := ⟨228, [(T_Upper, false), (T_Addr, false), (T_Addr, false)], [(.int .i64)], (.own true), fun x => impl_UpperSum k x.1 x.2.1 x.2.2.1⟩
theorem ok228 (k : Nat) : ConOk Tryz.prog (c228 k) := ok0 Tryz.f228 (conCons (ok223 k) (conCons (ok298 k) (conCons (ok300 k) (conCons (ok299 k) (conCons (ok302 k) (conCons (ok301 k) (conCons (ok206 k) conNil))))))) (by kernel_rfl) (fun _ => by kernel_rfl)
def c111 (k : Nat) : Con := ⟨111, [((.sl (.int .u8)), false), ((.int .i64), false), (T_Addr, false), (T_Addr, false)], [T_Upper, (.int .i64)], (.own true), fun x => impl_UpperRead k x.1 x.2.1 x.2.2.1 x.2.2.2.1⟩
theorem ok111 (k : Nat) : ConOk Tryz.prog (c111 k) := ok0 Tryz.f111 (conCons (ok223 k) (conCons (ok224 k) (conCons (ok225 k) (conCons (ok226 k) (conCons (ok217 k) (conCons (ok227 k) (conCons (ok228 k) conNil))))))) (by kernel_rfl) (fun _ => by kernel_rfl)
def c40 (k : Nat) : Con := ⟨40, [((.sl (.int .u8)), false)], [T_Packet, (.int .i64)], (.own true), fun x => impl_PacketRead k x.1⟩
theorem ok40 (k : Nat) : ConOk Tryz.prog (c40 k) := ok0 Tryz.f40 (conCons (ok107 k) (conCons (ok220 k) (conCons (ok109 k) (conCons (ok110 k) (conCons (ok112 k) (conCons (ok111 k) (conCons (ok221 k) conNil))))))) (by kernel_rfl) (fun _ => by kernel_rfl)
def c174 (k : Nat) : Con := ⟨174, [(T_Six, false)], [.bool], (.own true), fun x => impl_isZeroSix k x.1⟩
theorem ok174 (k : Nat) : ConOk Tryz.prog (c174 k) := ok0 Tryz.f174 (conCons (ok176 k) conNil) (by kernel_rfl) (fun _ => by kernel_rfl)
def c175 (k : Nat) : Con := ⟨175, [(T_Four, false)], [.bool], (.own true), fun x => impl_isZeroFour k x.1⟩
theorem ok175 (k : Nat) : ConOk Tryz.prog (c175 k) := ok0 Tryz.f175 (conCons (ok176 k) conNil) (by kernel_rfl) (fun _ => by kernel_rfl)
def c269 (k : Nat) : Con := ⟨269, [(T_Upper, false), (T_Addr, false), (T_Addr, false)], [(.sl (.int .u8))], (.own true), fun x => impl_UpperBytes k x.1 x.2.1 x.2.2.1⟩
theorem ok269 (k : Nat) : ConOk Tryz.prog (c269 k) := ok0 Tryz.f269 (conCons (ok228 k) (conCons (ok302 k) conNil)) (by kernel_rfl) (fun _ => by kernel_rfl)
def c270 (k : Nat) : Con := ⟨270, [(T_Four, false)], [(.sl (.int .u8))], (.own true), fun x => impl_FourBytes k x.1⟩
theorem ok270 (k : Nat) : ConOk Tryz.prog (c270 k) := ok0 Tryz.f270 (conCons (ok222 k) (conCons (ok293 k) (conCons (ok313 k) (conCons (ok178 k) conNil)))) (by kernel_rfl) (fun _ => by kernel_rfl)
def c319 (k : Nat) : Con := ⟨319, [((.sl T_Ext), false)], [.bool], (.own true), fun x => impl_areExts k x.1⟩
def F319 (k : Nat) : List Con := [c318 k]
theorem okF319 (k : Nat) : ∀ cn ∈ F319 k, ConOk Tryz.prog cn := (conCons (ok318 k) conNil)
abbrev S319_2 : Shape := [(0, .v (.sl T_Ext)), (5, .v (.sl T_Ext)), (6, .v (.int .i64)), (7, .v (.int .i64))]
abbrev X319_2 : Exit × Shape := (Exit.ret, [(2, .v .bool)])
abbrev R319_2 : List (Exit × Shape) := [(Exit.exit 0, [(0, .v (.sl T_Ext))])]
def lo319_2 (k : Nat) : LO := loopO [] [] [] S319_2 X319_2 R319_2 (iter (impl_areExts_s2) k)
theorem st319_2 (k : Nat) (rec v) : evC Tryz.prog ⟨42, []⟩ (F319 k) (inlN Tryz.prog (F319 k) 4) [] (lpAt (bodyOf Tryz.f319) [0]) (Kb [] [] [] S319_2 X319_2 R319_2 rec) (mkSt [] [] S319_2 v.1 v.2) = (impl_areExts_s2) rec v := by kernel_rfl
theorem lp319_2 (k : Nat) {c : Cx} (hP : c.P = Tryz.prog) (hm : c.m = ⟨42, []⟩) (hg : c.gs = []) : LoopOk c (lo319_2 k) (lpAt (bodyOf Tryz.f319) [0]) :=
  loop_at hP hm hg (okF319 k) (LInv.of (code := (lpAt (bodyOf Tryz.f319) [0])) (bs := []) (by kernel_rfl) LInv.nil) (fun rec v => st319_2 k rec v) k
theorem ev319 (k : Nat) (x) : evF Tryz.prog (F319 k) (inlN Tryz.prog (F319 k) 4) [(2, lo319_2 k)] Tryz.f319 (bodyOf Tryz.f319) (c319 k).ps (c319 k).rs (c319 k).rm x = (c319 k).m x := by kernel_rfl
theorem ok319 (k : Nat) : ConOk Tryz.prog (c319 k) :=
  fn_at (okF319 k) (cn := c319 k) (fn := Tryz.f319) (code := bodyOf Tryz.f319) (m := ⟨42, []⟩) (gs := []) (by kernel_rfl) (by kernel_rfl) (by kernel_rfl) (by kernel_rfl) (by kernel_rfl) (fun _ => by kernel_rfl)
    [(2, lo319_2 k)] (fun c hP hm hg => (LInv.of (code := (bodyOf Tryz.f319)) (bs := [(lpAt (bodyOf Tryz.f319) [0])]) (by kernel_rfl) (LInv.cons (b := (lpAt (bodyOf Tryz.f319) [0])) (by kernel_rfl) (lp319_2 k hP hm hg) LInv.nil))) (ev319 k)
def c315 (k : Nat) : Con := ⟨315, [((.sl T_Ext), false)], [(.int .i64)], (.own true), fun x => impl_extsSize k x.1⟩
def F315 (k : Nat) : List Con := []
theorem okF315 (k : Nat) : ∀ cn ∈ F315 k, ConOk Tryz.prog cn := conNil
abbrev S315_3 : Shape := [(3, .v (.int .i64)), (6, .v (.sl T_Ext)), (7, .v (.int .i64)), (8, .v (.int .i64))]
abbrev X315_3 : Exit × Shape := (Exit.exit 0, [(3, .v (.int .i64))])
abbrev R315_3 : List (Exit × Shape) := []
def lo315_3 (k : Nat) : LO := loopO [] [] [] S315_3 X315_3 R315_3 (iter (impl_extsSize_s3) k)
theorem st315_3 (k : Nat) (rec v) : evC Tryz.prog ⟨20, []⟩ (F315 k) (inlN Tryz.prog (F315 k) 4) [] (lpAt (bodyOf Tryz.f315) [0]) (Kb [] [] [] S315_3 X315_3 R315_3 rec) (mkSt [] [] S315_3 v.1 v.2) = (impl_extsSize_s3) rec v := by kernel_rfl
theorem lp315_3 (k : Nat) {c : Cx} (hP : c.P = Tryz.prog) (hm : c.m = ⟨20, []⟩) (hg : c.gs = []) : LoopOk c (lo315_3 k) (lpAt (bodyOf Tryz.f315) [0]) :=
  loop_at hP hm hg (okF315 k) (LInv.of (code := (lpAt (bodyOf Tryz.f315) [0])) (bs := []) (by kernel_rfl) LInv.nil) (fun rec v => st315_3 k rec v) k
theorem ev315 (k : Nat) (x) : evF Tryz.prog (F315 k) (inlN Tryz.prog (F315 k) 4) [(3, lo315_3 k)] Tryz.f315 (bodyOf Tryz.f315) (c315 k).ps (c315 k).rs (c315 k).rm x = (c315 k).m x := by kernel_rfl
theorem ok315 (k : Nat) : ConOk Tryz.prog (c315 k) :=
  fn_at (okF315 k) (cn := c315 k) (fn := Tryz.f315) (code := bodyOf Tryz.f315) (m := ⟨20, []⟩) (gs := []) (by kernel_rfl) (by kernel_rfl) (by kernel_rfl) (by kernel_rfl) (by kernel_rfl) (fun _ => by kernel_rfl)
    [(3, lo315_3 k)] (fun c hP hm hg => (LInv.of (code := (bodyOf Tryz.f315)) (bs := [(lpAt (bodyOf Tryz.f315) [0])]) (by kernel_rfl) (LInv.cons (b := (lpAt (bodyOf Tryz.f315) [0])) (by kernel_rfl) (lp315_3 k hP hm hg) LInv.nil))) (ev315 k)
def c272 (k : Nat) : Con := ⟨272, [(T_Six, false)], [.bool], (.own true), fun x => impl_SixOk k x.1⟩
theorem ok272 (k : Nat) : ConOk Tryz.prog (c272 k) := ok0 Tryz.f272 (conCons (ok224 k) (conCons (ok71 k) (conCons (ok318 k) (conCons (ok296 k) (conCons (ok319 k) (conCons (ok315 k) conNil)))))) (by kernel_rfl) (fun _ => by kernel_rfl)
def c314 (k : Nat) : Con := ⟨314, [((.int .i64), false), ((.ref T_Six), false)], [(.int .u8)], (.own true), fun x => impl_SixBytes_1 x.1 x.2.1⟩
theorem ok314 (k : Nat) : ConOk Tryz.prog (c314 k) := ok0 Tryz.f314 conNil (by kernel_rfl) (fun _ => by kernel_rfl)
def c271 (k : Nat) : Con := ⟨271, [(T_Six, false)], [(.sl (.int .u8))], (.own true), fun x => impl_SixBytes k x.1⟩
def F271 (k : Nat) : List Con := [c272 k, c315 k, c316 k, c204 k, c314 k, c317 k, c178 k]
theorem okF271 (k : Nat) : ∀ cn ∈ F271 k, ConOk Tryz.prog cn := (conCons (ok272 k) (conCons (ok315 k) (conCons (ok316 k) (conCons (ok204 k) (conCons (ok314 k) (conCons (ok317 k) (conCons (ok178 k) conNil)))))))
abbrev S271_7 : Shape := [(3, .fb 314 [1]), (1, .boxv T_Six), (5, .own true (.sl (.int .u8))), (44, .v (.sl T_Ext)), (45, .v (.int .i64)), (46, .v (.int .i64))]
abbrev X271_7 : Exit × Shape := (Exit.exit 0, [(1, .boxv T_Six), (5, .own true (.sl (.int .u8)))])
abbrev R271_7 : List (Exit × Shape) := []
def lo271_7 (k : Nat) : LO := loopO [] [] [] S271_7 X271_7 R271_7 (iter (impl_SixBytes_s7) k)
theorem st271_7 (k : Nat) (rec v) : evC Tryz.prog ⟨74, []⟩ (F271 k) (inlN Tryz.prog (F271 k) 4) [] (lpAt (bodyOf Tryz.f271) [0]) (Kb [] [] [] S271_7 X271_7 R271_7 rec) (mkSt [] [] S271_7 v.1 v.2) = (impl_SixBytes_s7) rec v := by kernel_rfl
theorem lp271_7 (k : Nat) {c : Cx} (hP : c.P = Tryz.prog) (hm : c.m = ⟨74, []⟩) (hg : c.gs = []) : LoopOk c (lo271_7 k) (lpAt (bodyOf Tryz.f271) [0]) :=
  loop_at hP hm hg (okF271 k) (LInv.of (code := (lpAt (bodyOf Tryz.f271) [0])) (bs := []) (by kernel_rfl) LInv.nil) (fun rec v => st271_7 k rec v) k
theorem ev271 (k : Nat) (x) : evF Tryz.prog (F271 k) (inlN Tryz.prog (F271 k) 4) [(7, lo271_7 k)] Tryz.f271 (bodyOf Tryz.f271) (c271 k).ps (c271 k).rs (c271 k).rm x = (c271 k).m x := by kernel_rfl
theorem ok271 (k : Nat) : ConOk Tryz.prog (c271 k) :=
  fn_at (okF271 k) (cn := c271 k) (fn := Tryz.f271) (code := bodyOf Tryz.f271) (m := ⟨74, []⟩) (gs := []) (by kernel_rfl) (by kernel_rfl) (by kernel_rfl) (by kernel_rfl) (by kernel_rfl) (fun _ => by kernel_rfl)
    [(7, lo271_7 k)] (fun c hP hm hg => (LInv.of (code := (bodyOf Tryz.f271)) (bs := [(lpAt (bodyOf Tryz.f271) [0])]) (by kernel_rfl) (LInv.cons (b := (lpAt (bodyOf Tryz.f271) [0])) (by kernel_rfl) (lp271_7 k hP hm hg) LInv.nil))) (ev271 k)
def c177 (k : Nat) : Con := ⟨177, [(T_Packet, false)], [(.sl (.int .u8)), .bool], (.own true), fun x => impl_Packet_inner k x.1⟩
theorem ok177 (k : Nat) : ConOk Tryz.prog (c177 k) := ok0 Tryz.f177 (conCons (ok110 k) (conCons (ok228 k) (conCons (ok269 k) (conCons (ok109 k) (conCons (ok225 k) (conCons (ok270 k) (conCons (ok222 k) (conCons (ok271 k) (conCons (ok272 k) conNil))))))))) (by kernel_rfl) (fun _ => by kernel_rfl)
def c179 (k : Nat) : Con := ⟨179, [(T_Ether, false)], [.bool], (.own true), fun x => impl_EtherOk x.1⟩
theorem ok179 (k : Nat) : ConOk Tryz.prog (c179 k) := ok0 Tryz.f179 (conCons (ok71 k) (conCons (ok218 k) (conCons (ok153 k) conNil))) (by kernel_rfl) (fun _ => by kernel_rfl)
def c77 (k : Nat) : Con := ⟨77, [(T_Packet, false)], [T_Ether, .bool], (.own true), fun x => impl_Packet_frame k x.1⟩
theorem ok77 (k : Nat) : ConOk Tryz.prog (c77 k) := ok0 Tryz.f77 (conCons (ok174 k) (conCons (ok175 k) (conCons (ok176 k) (conCons (ok177 k) (conCons (ok178 k) (conCons (ok179 k) conNil)))))) (by kernel_rfl) (fun _ => by kernel_rfl)
def c91 (k : Nat) : Con := ⟨91, [(T_Ether, false)], [(.sl (.int .u8))], (.own true), fun x => impl_EtherBytes k x.1⟩
theorem ok91 (k : Nat) : ConOk Tryz.prog (c91 k) := ok0 Tryz.f91 (conCons (ok179 k) (conCons (ok204 k) (conCons (ok178 k) (conCons (ok205 k) conNil)))) (by kernel_rfl) (fun _ => by kernel_rfl)
def c30 (k : Nat) : Con := ⟨30, [(T_Packet, false)], [(.sl (.int .u8))], (.own true), fun x => impl_PacketBytes k x.1⟩
theorem ok30 (k : Nat) : ConOk Tryz.prog (c30 k) := ok0 Tryz.f30 (conCons (ok77 k) (conCons (ok91 k) conNil)) (by kernel_rfl) (fun _ => by kernel_rfl)
def c7 (k : Nat) : Con := ⟨7, [((.sl (.int .u8)), false)], [.bool], (.own true), fun x => laws_FnPacketForth k x.1⟩
theorem ok7 (k : Nat) : ConOk Tryz.prog (c7 k) := ok0 Tryz.f7 (conCons (ok20 k) (conCons (ok46 k) (conCons (ok38 k) (conCons (ok47 k) (conCons (ok40 k) (conCons (ok30 k) conNil)))))) (by kernel_rfl) (fun _ => by kernel_rfl)
end Go.Tw
