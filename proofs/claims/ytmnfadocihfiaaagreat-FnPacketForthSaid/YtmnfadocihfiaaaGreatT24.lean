/- The logic: a step. -/
import Derived.Test.YtmnfadocihfiaaaGreatT22
set_option linter.all false
namespace Go.Tw
open Go Go.RowKit
variable [Grd]
def bodyOf (f : Func) : Code := f.body.getD .skip
def lpAt : Code → List Nat → Code
  | c, [] => c
  | c, j :: p => lpAt ((loopsIn c).getD j .skip) p
def LInv (c : Cx) (L : List (Nat × LO)) (bs : List Code) : Prop := ∀ b ∈ bs, ∀ lo, lget L (lid b) = some lo → LoopOk c lo b
theorem LInv.nil {c : Cx} {L : List (Nat × LO)} : LInv c L [] := fun b hb => by simp at hb
theorem LInv.cons {c : Cx} {L : List (Nat × LO)} {b : Code} {bs : List Code} {lo : LO} (h : lget L (lid b) = some lo) (hl : LoopOk c lo b) (t : LInv c L bs) : LInv c L (b :: bs) := by
  intro b' hb lo' h'
  rcases List.mem_cons.1 hb with rfl | hb
  · rw [h] at h'; cases h'; exact hl
  · exact t b' hb lo' h'
theorem LInv.of {c : Cx} {L : List (Nat × LO)} {code : Code} {bs : List Code} (h : loopsIn code = bs) (t : LInv c L bs) : ∀ b ∈ loopsIn code, ∀ lo, lget L (lid b) = some lo → LoopOk c lo b := by
  rw [h]; exact t
theorem loop_at {P : Program} {m : Fm} {gs : List TV} {c : Cx} (hP : c.P = P) (hm : c.m = m) (hg : c.gs = gs) {F : List Con} {L : List (Nat × LO)} {body : Code} (hF : ∀ cn ∈ F, ConOk P cn) (hL : ∀ b ∈ loopsIn body, ∀ lo, lget L (lid b) = some lo → LoopOk c lo b) {gt : List Ty} {S : Shape} {x : Exit × Shape} {r : List (Exit × Shape)}
    {step : (GD gt S → Option (OutT gt x r)) → GD gt S → Option (OutT gt x r)} (hstep : ∀ rec v, evC P m F (inlN P F 4) L body (Kb m.st gs gt S x r rec) (mkSt gs gt S v.1 v.2) = step rec v) (k : Nat) :
    LoopOk c (loopO m.st gs gt S x r (iter step k)) body := by
  subst hP hm hg
  exact loop_ok (inlN_ok hF 4) hF hL hstep k
theorem fn_at {P : Program} {F : List Con} (hF : ∀ cn ∈ F, ConOk P cn) {cn : Con} {fn : Func} {code : Code} (hf : P.funcs[cn.f]? = some fn) (hb : fn.body = some code) (hcall : callable P cn.f = true) (hpar : Nat.ble cn.ps.length fn.ntmps = true)
    {m : Fm} {gs : List TV} (hm0 : (⟨fn.ntmps, parI cn.ps 0 0⟩ : Fm) = m) (hg0 : ∀ x, parG cn.ps x [] 0 = gs) (L : List (Nat × LO))
    (hL : ∀ c : Cx, c.P = P → c.m = m → c.gs = gs → ∀ b ∈ loopsIn code, ∀ lo, lget L (lid b) = some lo → LoopOk c lo b)
    (hm : ∀ x, evF P F (inlN P F 4) L fn code cn.ps cn.rs cn.rm x = cn.m x) (hmv : cn.rm.isMv = false := by rfl) : ConOk P cn := by
  subst hm0
  exact fn_ok (inlN_ok hF 4) hF hf hb hcall (by simpa [Nat.ble_eq] using hpar) (fun _ => L) (fun x c h1 h2 h3 => hL c h1 h2 (h3.trans (hg0 x))) hm hmv
theorem conNil {P : Program} : ∀ cn ∈ ([] : List Con), ConOk P cn := fun cn h => by simp at h
theorem conCons {P : Program} {cn : Con} {F : List Con} (h : ConOk P cn) (t : ∀ cn ∈ F, ConOk P cn) : ∀ c ∈ cn :: F, ConOk P c := by
  intro c hc
  rcases List.mem_cons.1 hc with rfl | hc
  · exact h
  · exact t c hc
end Go.Tw
namespace Go.Tw
open Go Go.RowKit
variable [Grd]
def evS (P : Program) (F : List Con) (N : Inl) (L : List (Nat × LO)) (fn : Func) (code : Code) (rs : List Ty) (rm : RM) (tv : TV) : Option (den (prodT rs) × Unit) :=
  evC P ⟨fn.ntmps, []⟩ F N L code (fun e σ' => match e with
    | .ret | .normal => (rets P σ' fn.results.toList).bind fun vs => (clsR rm rs vs σ'.h).bind fun q => some (q.1, ())
    | _ => none) ⟨[(0, tv)], [], 0⟩
theorem fn_ok1 {P : Program} {F : List Con} {N : Inl} (hN : InlOk P N) (hF : ∀ cn ∈ F, ConOk P cn) {f : FuncId} {t : Ty} {rs : List Ty} {rm : RM} {m : List (den t) × Unit → Option (den (prodT rs) × Unit)} {fn : Func} {code : Code} (hf : P.funcs[f]? = some fn) (hb : fn.body = some code) (hcall : callable P f = true) (hpar : 1 ≤ fn.ntmps)
    (hlp : loopsIn code = []) (hmv : rm.isMv = false)
    (hm : ∀ (w : World) (imm ok : Nat → Prop) (l : List (den t)) (v : Value), TRl w imm ok (.sl t) l [v] [] → ∃ tv, (∀ μ h n, VR w imm ok μ h n tv v) ∧ evS P F N [] fn code rs rm tv = m (l, ())) :
    ConOk P ⟨f, [(.sl t, false)], rs, rm, m⟩ := by
  refine ⟨hcall, fun w imm vals x Lm y himm hgd hLm harg hy => ?_⟩
  refine calls_of_wp hf hb ?_
  obtain ⟨us, vs', L1, L2, rfl, rfl, h1, _, rfl, rfl⟩ := harg
  obtain ⟨h1, rfl⟩ := h1 rfl
  obtain ⟨l, u⟩ := x
  have hu : ∃ v, us = [v] := by obtain ⟨v, e, _⟩ := id h1; exact ⟨v, e⟩
  obtain ⟨v, rfl⟩ := hu
  have h1' : TRl w imm (okL [] w) (.sl t) l [v] [] := h1.mono (fun _ h => h) (fun b h => .inl h) (fun _ _ => rfl) (by simp)
  obtain ⟨tv, htv, hev0⟩ := hm w imm (okL [] w) l v h1'
  have hy' : m (l, ()) = some y := hy
  rw [← hev0] at hy'
  let c : Cx := { P := P, m := ⟨fn.ntmps, []⟩, w0 := w, imm := imm, ok := okL [] w, immlt := fun b h => (himm b h).1,
                  immok := fun b h ho => by rcases ho with ho | ho
                                            · exact (himm b h).2 ho
                                            · have := (himm b h).1; omega,
                  oknew := fun b h => .inr h, gs := [], gv := [], gin := trivial, gG := hgd.1, gJ := hgd.2 }
  let tmps : Array Value := #[v] ++ Array.replicate (fn.ntmps - 1) undef
  have hsz : tmps.size = fn.ntmps := by
    simp only [tmps, Array.size_append, List.size_toArray, Array.size_replicate, List.length_cons, List.length_nil]; omega
  have ht0 : tmps.getD 0 undef = v := by
    simp only [tmps, Array.getD_eq_getD_getElem?]
    rw [Array.getElem?_append_left (by simp)]; rfl
  have H0 : HR w imm (okL [] w) (fun _ => ⟨0, 0, false⟩) [] 0 [] := ⟨fun _ => none, fun r x hx => by simp [hget] at hx, by simp, fun _ _ => rfl⟩
  have hsim : Sim c ⟨[(0, tv)], [], 0⟩ { tmps := tmps, defers := [] } w := by
    refine ⟨⟨rfl, rfl, rfl, Nat.le_refl _, fun _ _ _ => rfl, fun _ _ h => h⟩, rfl, ⟨hsz, fun q hq => by cases hq⟩, fun _ => ⟨0, 0, false⟩, H0, fun t => ?_, by simp [VRl, c]⟩
    rw [sget_cons]
    split
    · subst_vars; rw [show ({ tmps := tmps, defers := [] } : Act).tmps.getD 0 undef = v from ht0]; exact htv _ _ _
    · simp [sget, VR]
  have hev := evC_ok (c := c) hN hF code _ _ (fun b hb => by rw [hlp] at hb; cases hb) (r := y) hy'
  refine wp_mono (hev _ _ hsim) ?_
  rintro e a' w' ⟨σ', hq, hs⟩
  have key : ((rets P σ' fn.results.toList).bind fun vs => (clsR rm rs vs σ'.h).bind fun q => some (q.1, ())) = some y ∧ (e = .normal ∨ e = .ret) := by
    cases e with
    | normal => exact ⟨hq, .inl rfl⟩
    | ret => exact ⟨hq, .inr rfl⟩
    | _ => cases hq
  obtain ⟨hq, he⟩ := key
  obtain ⟨vs, hrets, hq⟩ := Option.bind_eq_some_iff.1 hq
  obtain ⟨⟨y1, h1⟩, hcls, hq⟩ := Option.bind_eq_some_iff.1 hq
  cases hq
  have hfr := hs.fr
  have hdf := hs.defers
  obtain ⟨_, _, _, μ', hH, hl, hg⟩ := id hs
  obtain ⟨us, k1, k2⟩ := rets_ok (c := c) hs hH hl fn.results.toList vs hrets
  have hres : ∃ L, ResM w' imm (okL [] w) rm rs y1 us L ∧ HR w' imm (okL [] w) μ' h1 σ'.n (L ++ []) := by
    unfold clsR at hcls
    cases hrm : rm with
    | own fr => rw [hrm] at hcls; obtain ⟨L, q1, q2, _⟩ := clsL_ok hcls hH k1; exact ⟨L, q1, q2⟩
    | mv => rw [hrm] at hmv; cases hmv
    | mix bs => rw [hrm] at hcls; obtain ⟨L, q1, q2, _⟩ := clsX_ok hcls hH k1; exact ⟨L, q1, q2⟩
    | bor =>
      rw [hrm] at hcls
      simp only [Option.map_eq_some_iff, Prod.mk.injEq] at hcls
      obtain ⟨z, hz, rfl, rfl⟩ := hcls
      exact ⟨[], ⟨clsB_ok hz k1, rfl⟩, by simpa using hH⟩
  obtain ⟨L, r1, r2⟩ := hres
  have hret : (results fn a'.tmps).run P w' = .ok (retV us) w' := by
    have e1 : results fn a'.tmps = (do let vs ← fn.results.mapM (rvar a'.tmps); pure (if h : vs.size = 1 then vs[0] else .tuple vs)) := by
      unfold results
      congr 1
    have e2 : (fn.results.mapM (rvar a'.tmps)).run P w' = .ok us.toArray w' := by
      rw [Array.mapM_eq_mapM_toList]
      have k2' : (fn.results.toList.mapM (rvar a'.tmps)).run P w' = .ok us w' := k2
      simp [k2']
    rw [e1, Sem.run_bind, e2]
    simp only [Result.andThen_ok, Sem.run_pure]
    rw [retV_eq]
  have hnd := r2.nodup
  have hpost : ∃ v, (results fn a'.tmps).run P w' = .ok v w' ∧ ∃ vs L Lm', Ending.returned v = .returned (retV vs) ∧ FrL [] w w' ∧ ResM w' imm (okL [] w) rm rs y1 vs L ∧ MutM w' imm (okL [] w) rm [(.sl t, false)] () (valOf (isAg (.sl t)) [v] :: []) Lm' ∧ (L ++ Lm').Nodup := by
    have hM : MutM w' imm (okL [] w) rm [(.sl t, false)] () (valOf (isAg (.sl t)) [v] :: []) [] := by
      unfold MutM; split <;> rfl
    refine ⟨_, hret, us, L, [], rfl, ⟨hfr.os, hfr.tape, hfr.output, hfr.size, fun k hk hn => hfr.block k hk (fun ho => ?_), hfr.row⟩, r1, hM, hnd⟩
    rcases ho with ho | ho
    · exact hn ho
    · omega
  rcases he with rfl | rfl
  · exact ⟨hdf, hpost⟩
  · exact ⟨hdf, hpost⟩
theorem fn_nil {P : Program} {F : List Con} (hF : ∀ cn ∈ F, ConOk P cn) {f : FuncId} {t : Ty} {rs : List Ty} {rm : RM} {m : List (den t) × Unit → Option (den (prodT rs) × Unit)} {fn : Func} {code : Code} (hf : P.funcs[f]? = some fn) (hb : fn.body = some code) (hcall : callable P f = true) (hpar : Nat.ble 1 fn.ntmps = true)
    (hlp : loopsIn code = [])
    (hA : ∀ e l, evS P F (inlN P F 4) [] fn code rs rm (.tr t (e :: l)) = m (e :: l, ()))
    (hB : evS P F (inlN P F 4) [] fn code rs rm (.p (.slice none 0 0)) = m ([], ()))
    (hC : ∀ A cap, evS P F (inlN P F 4) [] fn code rs rm (.p (.slice (some A) 0 cap)) = m ([], ())) (hmv : rm.isMv = false := by rfl) :
    ConOk P ⟨f, [(.sl t, false)], rs, rm, m⟩ := by
  refine fn_ok1 (inlN_ok hF 4) hF hf hb hcall (by simpa [Nat.ble_eq] using hpar) hlp hmv fun w imm ok l v h => ?_
  cases l with
  | cons e l => exact ⟨.tr t (e :: l), fun μ h' n => by simp only [VR]; exact h, hA e l⟩
  | nil =>
    obtain ⟨u, e, hh⟩ := h
    simp only [List.cons.injEq, and_true] at e; subst e
    rcases hh with ⟨rfl, _, _⟩ | ⟨A, cap, L', rfl, _⟩
    · exact ⟨_, fun μ h' n => by simp only [VR], hB⟩
    · exact ⟨_, fun μ h' n => by simp only [VR, List.length_nil], hC A cap⟩
end Go.Tw
