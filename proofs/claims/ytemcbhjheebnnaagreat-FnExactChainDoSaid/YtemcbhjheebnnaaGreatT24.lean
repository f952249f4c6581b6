/- The logic: a step. -/
import Derived.Test.YtemcbhjheebnnaaGreatT22
set_option linter.all false
namespace Go.Tw
open Go Go.RowKit
variable [k7]
def ad (f : Func) : Code := f.body.getD .skip
def aQ : Code → List Nat → Code
  | c, [] => c
  | c, j :: p => aQ ((loopsIn c).getD j .skip) p
def aO (c : Cx) (L : List (Nat × LO)) (bs : List Code) : Prop := ∀ b ∈ bs, ∀ lo, qF L (zW b) = some lo → ch c lo b
theorem aO.nil {c : Cx} {L : List (Nat × LO)} : aO c L [] := fun b hb => by simp at hb
theorem aO.cons {c : Cx} {L : List (Nat × LO)} {b : Code} {bs : List Code} {lo : LO} (h : qF L (zW b) = some lo) (hl : ch c lo b) (t : aO c L bs) : aO c L (b :: bs) := by
  intro b' hb lo' h'
  rcases List.mem_cons.1 hb with rfl | hb
  · rw [h] at h'; cases h'; exact hl
  · exact t b' hb lo' h'
theorem aO.of {c : Cx} {L : List (Nat × LO)} {code : Code} {bs : List Code} (h : loopsIn code = bs) (t : aO c L bs) : ∀ b ∈ loopsIn code, ∀ lo, qF L (zW b) = some lo → ch c lo b := by
  rw [h]; exact t
theorem cE {P : Program} {m : Fm} {gs : List TV} {c : Cx} (hP : c.P = P) (hm : c.m = m) (hg : c.gs = gs) {F : List bj} {L : List (Nat × LO)} {body : Code} (hF : ∀ cn ∈ F, an P cn) (hL : ∀ b ∈ loopsIn body, ∀ lo, qF L (zW b) = some lo → ch c lo b) {gt : List Ty} {S : Shape} {x : Exit × Shape} {r : List (Exit × Shape)}
    {step : (GD gt S → Option (sv gt x r)) → GD gt S → Option (sv gt x r)} (hstep : ∀ rec v, evC P m F (inlN P F 4) L body (Kb m.st gs gt S x r rec) (gO gs gt S v.1 v.2) = step rec v) (k : Nat) :
    ch c (eH m.st gs gt S x r (iter step k)) body := by
  subst hP hm hg
  exact Hf (pG hF 4) hF hL hstep k
theorem ft {P : Program} {F : List bj} (hF : ∀ cn ∈ F, an P cn) {cn : bj} {fn : Func} {code : Code} (hf : P.funcs[cn.f]? = some fn) (hb : fn.body = some code) (hcall : callable P cn.f = true) (hpar : Nat.ble cn.ps.length fn.ntmps = true)
    {m : Fm} {gs : List TV} (hm0 : (⟨fn.ntmps, parI cn.ps 0 0⟩ : Fm) = m) (hg0 : ∀ x, parG cn.ps x [] 0 = gs) (L : List (Nat × LO))
    (hL : ∀ c : Cx, c.P = P → c.m = m → c.gs = gs → ∀ b ∈ loopsIn code, ∀ lo, qF L (zW b) = some lo → ch c lo b)
    (hm : ∀ x, om P F (inlN P F 4) L fn code cn.ps cn.rs cn.rm x = cn.m x) (hmv : cn.rm.isMv = false := by rfl) : an P cn := by
  subst hm0
  exact ND (pG hF 4) hF hf hb hcall (by simpa [Nat.ble_eq] using hpar) (fun _ => L) (fun x c h1 h2 h3 => hL c h1 h2 (h3.trans (hg0 x))) hm hmv
theorem HD {P : Program} {F : List bj} (hF : ∀ cn ∈ F, an P cn) {cn : bj} {fn : Func} {code : Code} (hf : P.funcs[cn.f]? = some fn) (hb : fn.body = some code) (hcall : callable P cn.f = true) (hpar : Nat.ble cn.ps.length fn.ntmps = true)
    {m : Fm} {gs : List TV} (hm0 : (⟨fn.ntmps, []⟩ : Fm) = m) (hg0 : [] = gs) (L : List (Nat × LO))
    (hL : ∀ c : Cx, c.P = P → c.m = m → c.gs = gs → ∀ b ∈ loopsIn code, ∀ lo, qF L (zW b) = some lo → ch c lo b)
    (hm : ∀ x, FL P F (inlN P F 4) L fn code cn.ps cn.rs x = cn.m x) (hmv : cn.rm = .mv := by rfl) : an P cn := by
  subst hm0 hg0
  exact Kn (pG hF 4) hF hf hb hcall (by simpa [Nat.ble_eq] using hpar) (fun _ => L) (fun x c h1 h2 h3 => hL c h1 h2 h3) hm hmv
theorem aq {P : Program} : ∀ cn ∈ ([] : List bj), an P cn := fun cn h => by simp at h
theorem aa {P : Program} {cn : bj} {F : List bj} (h : an P cn) (t : ∀ cn ∈ F, an P cn) : ∀ c ∈ cn :: F, an P c := by
  intro c hc
  rcases List.mem_cons.1 hc with rfl | hc
  · exact h
  · exact t c hc
end Go.Tw
namespace Go.Tw
open Go Go.RowKit
variable [k7]
def NQ (P : Program) (F : List bj) (N : A8) (L : List (Nat × LO)) (fn : Func) (code : Code) (rs : List Ty) (rm : RM) (tv : TV) : Option (den (bg rs) × Unit) :=
  evC P ⟨fn.ntmps, []⟩ F N L code (fun e σ' => match e with
    | .ret | .normal => (rets P σ' fn.results.toList).bind fun vs => (Bs rm rs vs σ'.h).bind fun q => some (q.1, ())
    | _ => none) ⟨[(0, tv)], [], 0⟩
theorem Kq {P : Program} {F : List bj} {N : A8} (hN : qk P N) (hF : ∀ cn ∈ F, an P cn) {f : FuncId} {t : Ty} {rs : List Ty} {rm : RM} {m : List (den t) × Unit → Option (den (bg rs) × Unit)} {fn : Func} {code : Code} (hf : P.funcs[f]? = some fn) (hb : fn.body = some code) (hcall : callable P f = true) (hpar : 1 ≤ fn.ntmps)
    (hlp : loopsIn code = []) (hmv : rm.isMv = false)
    (hm : ∀ (w : World) (ab ok : Nat → Prop) (l : List (den t)) (v : Value), TRl w ab ok (.sl t) l [v] [] → ∃ tv, (∀ μ h n, VR w ab ok μ h n tv v) ∧ NQ P F N [] fn code rs rm tv = m (l, ())) :
    an P ⟨f, [(.sl t, false)], rs, rm, m⟩ := by
  refine ⟨hcall, fun w ab vals x Lm y himm hgd hLm harg hy => ?_⟩
  refine calls_of_wp hf hb ?_
  obtain ⟨us, vs', L1, L2, rfl, rfl, h1, _, rfl, rfl⟩ := harg
  obtain ⟨h1, rfl⟩ := h1 rfl
  obtain ⟨l, u⟩ := x
  have hu : ∃ v, us = [v] := by obtain ⟨v, e, _⟩ := id h1; exact ⟨v, e⟩
  obtain ⟨v, rfl⟩ := hu
  have h1' : TRl w ab (k8 [] w) (.sl t) l [v] [] := h1.mono (fun _ h => h) (fun b h => .inl h) (fun _ _ => rfl) (by simp)
  obtain ⟨tv, htv, hev0⟩ := hm w ab (k8 [] w) l v h1'
  have hy' : m (l, ()) = some y := hy
  rw [← hev0] at hy'
  let c : Cx := { P := P, m := ⟨fn.ntmps, []⟩, w0 := w, ab := ab, ok := k8 [] w, lu := fun b h => (himm b h).1,
                  iZ := fun b h ho => by
                    rcases ho with ho | ho
                    · exact (himm b h).2 ho
                    · have := (himm b h).1; omega,
                  mH := fun b h => .inr h, gs := [], gv := [], Bw := trivial, gG := hgd.1, gJ := hgd.2 }
  let tmps : Array Value := #[v] ++ Array.replicate (fn.ntmps - 1) undef
  have hsz : tmps.size = fn.ntmps := by
    simp only [tmps, Array.size_append, List.size_toArray, Array.size_replicate, List.length_cons, List.length_nil]; omega
  have ht0 : tmps.getD 0 undef = v := by
    simp only [tmps, Array.getD_eq_getD_getElem?]
    rw [Array.getElem?_append_left (by simp)]; rfl
  have H0 : HR w ab (k8 [] w) (fun _ => ⟨0, 0, false⟩) [] 0 [] := ⟨fun _ => none, fun r x hx => by simp [hget] at hx, by simp, fun _ _ => rfl⟩
  have hsim : dH c ⟨[(0, tv)], [], 0⟩ { tmps := tmps, defers := [] } w := by
    refine ⟨⟨rfl, rfl, rfl, Nat.le_refl _, fun _ _ _ => rfl, fun _ _ h => h⟩, rfl, ⟨hsz, fun q hq => by cases hq⟩, fun _ => ⟨0, 0, false⟩, H0, fun t => ?_, by simp [VRl, c]⟩
    rw [bZ]
    split
    · subst_vars; rw [show ({ tmps := tmps, defers := [] } : Act).tmps.getD 0 undef = v from ht0]; exact htv _ _ _
    · simp [sget, VR]
  have hev := lD (c := c) hN hF code _ _ (fun b hb => by rw [hlp] at hb; cases hb) (r := y) hy'
  refine wp_mono (hev _ _ hsim) ?_
  rintro e a' w' ⟨σ', hq, hs⟩
  have key : ((rets P σ' fn.results.toList).bind fun vs => (Bs rm rs vs σ'.h).bind fun q => some (q.1, ())) = some y ∧ (e = .normal ∨ e = .ret) := by
    cases e with
    | normal => exact ⟨hq, .inl rfl⟩
    | ret => exact ⟨hq, .inr rfl⟩
    | _ => cases hq
  obtain ⟨hq, he⟩ := key
  obtain ⟨vs, hrets, hq⟩ := ax.1 hq
  obtain ⟨⟨y1, h1⟩, hcls, hq⟩ := ax.1 hq
  cases hq
  have hfr := hs.fr
  have hdf := hs.defers
  obtain ⟨_, _, _, μ', hH, hl, hg⟩ := id hs
  obtain ⟨us, k1, k2⟩ := nW (c := c) hs hH hl fn.results.toList vs hrets
  have hres : ∃ L, ResM w' ab (k8 [] w) rm rs y1 us L ∧ HR w' ab (k8 [] w) μ' h1 σ'.n (L ++ []) := by
    unfold Bs at hcls
    cases hrm : rm with
    | own fr => rw [hrm] at hcls; obtain ⟨L, q1, q2, _⟩ := qR hcls hH k1; exact ⟨L, q1, q2⟩
    | mv => rw [hrm] at hmv; cases hmv
    | mix bs => rw [hrm] at hcls; obtain ⟨L, q1, q2, _⟩ := qS hcls hH k1; exact ⟨L, q1, q2⟩
    | GZ =>
      rw [hrm] at hcls
      simp only [Option.map_eq_some_iff, aG] at hcls
      obtain ⟨z, hz, rfl, rfl⟩ := hcls
      exact ⟨[], ⟨vd hz k1, rfl⟩, by simpa using hH⟩
  obtain ⟨L, r1, r2⟩ := hres
  have hret : (results fn a'.tmps).run P w' = .ok (retV us) w' := by
    have e1 : results fn a'.tmps = (do let vs ← fn.results.mapM (rvar a'.tmps); pure (if h : vs.size = 1 then vs[0] else .tuple vs)) := by
      unfold results
      congr 1
    have e2 : (fn.results.mapM (rvar a'.tmps)).run P w' = .ok us.toArray w' := by
      rw [Array.mapM_eq_mapM_toList]
      have k2' : (fn.results.toList.mapM (rvar a'.tmps)).run P w' = .ok us w' := k2
      simp [k2']
    rw [e1, Sem.run_bind, e2]
    simp only [Result.andThen_ok, Sem.run_pure]
    rw [qT]
  have hnd := r2.nodup
  have hpost : ∃ v, (results fn a'.tmps).run P w' = .ok v w' ∧ ∃ vs L Lm', Ending.returned v = .returned (retV vs) ∧ By [] w w' ∧ ResM w' ab (k8 [] w) rm rs y1 vs L ∧ MutM w' ab (k8 [] w) rm [(.sl t, false)] () (fh (isAg (.sl t)) [v] :: []) Lm' ∧ (L ++ Lm').Nodup := by
    have hM : MutM w' ab (k8 [] w) rm [(.sl t, false)] () (fh (isAg (.sl t)) [v] :: []) [] := by
      unfold MutM; split <;> rfl
    refine ⟨_, hret, us, L, [], rfl, ⟨hfr.os, hfr.tape, hfr.output, hfr.size, fun k hk hn => hfr.block k hk (fun ho => ?_), hfr.row⟩, r1, hM, hnd⟩
    rcases ho with ho | ho
    · exact hn ho
    · omega
  rcases he with rfl | rfl
  · exact ⟨hdf, hpost⟩
  · exact ⟨hdf, hpost⟩
theorem IY {P : Program} {F : List bj} (hF : ∀ cn ∈ F, an P cn) {f : FuncId} {t : Ty} {rs : List Ty} {rm : RM} {m : List (den t) × Unit → Option (den (bg rs) × Unit)} {fn : Func} {code : Code} (hf : P.funcs[f]? = some fn) (hb : fn.body = some code) (hcall : callable P f = true) (hpar : Nat.ble 1 fn.ntmps = true)
    (hlp : loopsIn code = [])
    (hA : ∀ e l, NQ P F (inlN P F 4) [] fn code rs rm (.tr t (e :: l)) = m (e :: l, ()))
    (hB : NQ P F (inlN P F 4) [] fn code rs rm (.p (.slice none 0 0)) = m ([], ()))
    (hC : ∀ A cap, NQ P F (inlN P F 4) [] fn code rs rm (.p (.slice (some A) 0 cap)) = m ([], ())) (hmv : rm.isMv = false := by rfl) :
    an P ⟨f, [(.sl t, false)], rs, rm, m⟩ := by
  refine Kq (pG hF 4) hF hf hb hcall (by simpa [Nat.ble_eq] using hpar) hlp hmv fun w ab ok l v h => ?_
  cases l with
  | cons e l => exact ⟨.tr t (e :: l), fun μ h' n => by simp only [VR]; exact h, hA e l⟩
  | nil =>
    obtain ⟨u, e, hh⟩ := h
    simp only [List.cons.injEq, and_true] at e; subst e
    rcases hh with ⟨rfl, _, _⟩ | ⟨A, cap, L', rfl, _⟩
    · exact ⟨_, fun μ h' n => by simp only [VR], hB⟩
    · exact ⟨_, fun μ h' n => by simp only [VR, List.length_nil], hC A cap⟩
end Go.Tw
