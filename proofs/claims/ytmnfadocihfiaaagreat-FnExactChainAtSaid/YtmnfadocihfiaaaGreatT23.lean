/- A step of the typed logic of this claim is proved here: what an operation does to the data that slots and memory stand for. -/
import Derived.Test.YtmnfadocihfiaaaGreatT22
set_option linter.all false
namespace Go.Tw
open Go Go.RowKit
variable [Grd]
def bodyOf (f : Func) : Code := f.body.getD .skip
def lpAt : Code → List Nat → Code
  | c, [] => c
  | c, j :: p => lpAt ((loopsIn c).getD j .skip) p
def LInv (c : Cx) (L : List (Nat × LO)) (bs : List Code) : Prop := ∀ b ∈ bs, ∀ lo, lget L (lid b) = some lo → LoopOk c lo b
theorem LInv.nil {c : Cx} {L : List (Nat × LO)} : LInv c L [] := fun b hb => by simp at hb
theorem LInv.cons {c : Cx} {L : List (Nat × LO)} {b : Code} {bs : List Code} {lo : LO} (h : lget L (lid b) = some lo) (hl : LoopOk c lo b) (t : LInv c L bs) : LInv c L (b :: bs) := by
  intro b' hb lo' h'
  rcases List.mem_cons.1 hb with rfl | hb
  · rw [h] at h'; cases h'; exact hl
  · exact t b' hb lo' h'
theorem LInv.skip {c : Cx} {L : List (Nat × LO)} {b : Code} {bs : List Code} (h : lget L (lid b) = none) (t : LInv c L bs) : LInv c L (b :: bs) := by
  intro b' hb lo' h'
  rcases List.mem_cons.1 hb with rfl | hb
  · rw [h] at h'; cases h'
  · exact t b' hb lo' h'
theorem LInv.of {c : Cx} {L : List (Nat × LO)} {code : Code} {bs : List Code} (h : loopsIn code = bs) (t : LInv c L bs) : ∀ b ∈ loopsIn code, ∀ lo, lget L (lid b) = some lo → LoopOk c lo b := by
  rw [h]; exact t
theorem loop_at {P : Program} {m : Fm} {gs : List TV} {c : Cx} (hP : c.P = P) (hm : c.m = m) (hg : c.gs = gs) {F : List Con} {L : List (Nat × LO)} {body : Code} (hF : ∀ cn ∈ F, ConOk P cn) (hL : ∀ b ∈ loopsIn body, ∀ lo, lget L (lid b) = some lo → LoopOk c lo b) {gt : List Ty} {S : Shape} {x : Exit × Shape} {r : List (Exit × Shape)}
    {step : (GD gt S → Option (OutT gt x r)) → GD gt S → Option (OutT gt x r)} (hstep : ∀ rec v, evC P m F (inlN P F 4) L body (Kb m.st gs gt S x r rec) (mkSt gs gt S v.1 v.2) = step rec v) (k : Nat) :
    LoopOk c (loopO m.st gs gt S x r (iter step k)) body := by
  subst hP hm hg
  exact loop_ok (inlN_ok hF 4) hF hL hstep k
theorem fn_at {P : Program} {F : List Con} (hF : ∀ cn ∈ F, ConOk P cn) {cn : Con} {fn : Func} {code : Code} (hf : P.funcs[cn.f]? = some fn) (hb : fn.body = some code) (hcall : callable P cn.f = true) (hpar : Nat.ble cn.ps.length fn.ntmps = true)
    {m : Fm} {gs : List TV} (hm0 : (⟨fn.ntmps, parI cn.ps 0 0⟩ : Fm) = m) (hg0 : ∀ x, parG cn.ps x [] 0 = gs) (L : List (Nat × LO))
    (hL : ∀ c : Cx, c.P = P → c.m = m → c.gs = gs → ∀ b ∈ loopsIn code, ∀ lo, lget L (lid b) = some lo → LoopOk c lo b)
    (hm : ∀ x, evF P F (inlN P F 4) L fn code cn.ps cn.rs cn.rm x = cn.m x) (hmv : cn.rm.isMv = false := by rfl) : ConOk P cn := by
  subst hm0
  exact fn_ok (inlN_ok hF 4) hF hf hb hcall (by simpa [Nat.ble_eq] using hpar) (fun _ => L) (fun x c h1 h2 h3 => hL c h1 h2 (h3.trans (hg0 x))) hm hmv
theorem fn_mv {P : Program} {F : List Con} (hF : ∀ cn ∈ F, ConOk P cn) {cn : Con} {fn : Func} {code : Code} (hf : P.funcs[cn.f]? = some fn) (hb : fn.body = some code) (hcall : callable P cn.f = true) (hpar : Nat.ble cn.ps.length fn.ntmps = true)
    {m : Fm} {gs : List TV} (hm0 : (⟨fn.ntmps, []⟩ : Fm) = m) (hg0 : [] = gs) (L : List (Nat × LO))
    (hL : ∀ c : Cx, c.P = P → c.m = m → c.gs = gs → ∀ b ∈ loopsIn code, ∀ lo, lget L (lid b) = some lo → LoopOk c lo b)
    (hm : ∀ x, evFm P F (inlN P F 4) L fn code cn.ps cn.rs x = cn.m x) (hmv : cn.rm = .mv := by rfl) : ConOk P cn := by
  subst hm0 hg0
  exact fn_okM (inlN_ok hF 4) hF hf hb hcall (by simpa [Nat.ble_eq] using hpar) (fun _ => L) (fun x c h1 h2 h3 => hL c h1 h2 h3) hm hmv
theorem conNil {P : Program} : ∀ cn ∈ ([] : List Con), ConOk P cn := fun cn h => by simp at h
theorem conCons {P : Program} {cn : Con} {F : List Con} (h : ConOk P cn) (t : ∀ cn ∈ F, ConOk P cn) : ∀ c ∈ cn :: F, ConOk P c := by
  intro c hc
  rcases List.mem_cons.1 hc with rfl | hc
  · exact h
  · exact t c hc
end Go.Tw
