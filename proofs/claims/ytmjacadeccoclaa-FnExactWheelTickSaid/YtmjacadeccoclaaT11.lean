/- A step of the typed logic of this claim is proved here: what an operation does to the data that slots and memory stand for. -/
import Derived.Test.YtmjacadeccoclaaT10
import Derived.Laws.StructEq
set_option linter.all false
namespace Go.Tw
open Go Go.RowKit

section
variable {c : Cx} {σ : St} {a : Act} {w w' : World} {A : Ans} {o : Oper} {s' : List (Nat × TV)}

/-- the value that cells stand for -/
def valOf (g : Bool) (us : List Value) : Value := if g then .agg us.toArray else us.headD undef

theorem run_part {P : Program} {t : TypeId} {g : Bool} {m off : Nat} {us : List Value} (ht : tv P t = some (g, m)) (hle : off + m ≤ us.length) (hg : g = true ∨ m = 1) :
    (part t us.toArray off).run P w = .ok (valOf g ((us.drop off).take m)) w := by
  cases g with
  | true =>
    have e : us.toArray.extract off (off + m) = ((us.drop off).take m).toArray := by
      apply Array.ext'
      simp [List.take_drop]
    simp [part, run_isAgg ht, run_sizeOf ht, valOf, e]
  | false =>
    obtain rfl := hg.resolve_left (by simp)
    have : off < us.length := by omega
    have e : us.toArray[off]? = some us[off] := by simp [this]
    simp only [part, Sem.run_bind, run_isAgg ht, Result.andThen_ok, Bool.false_eq_true, ↓reduceIte, e, Sem.run_pure, valOf]
    congr 1
    rw [List.drop_eq_getElem_cons this]; rfl

theorem valOf_one {u : Value} : valOf false [u] = u := rfl

theorem run_eq1 {P : Program} {imm ok : Nat → Prop} {μ : Nat → Mu} {h : Heap} {n : Nat} : ∀ (d : Nat) (t : TypeId) (xs ys : List TV) (us vs : List Value) (r : Bool) (g : Bool) (m e : Nat), eq1 P d t xs ys = some r → tv P t = some (g, m) → VRl w imm ok μ h n xs us → VRl w imm ok μ h n ys vs →
    (Op.equalIn (e + d) t (valOf g us) (valOf g vs)).run P w = .ok r w
  | 0, t, xs, ys, us, vs, r, g, m, e, hx, _, _, _ => by simp [eq1] at hx
  | d + 1, t, xs, ys, us, vs, r, g, m, e, hx, ht, hu, hv => by
    simp only [eq1] at hx
    obtain ⟨td, ti, htd, hti, htm, htg⟩ := tv_some ht
    rw [htd] at hx
    cases td with
    | struct fs =>
      simp only at hx htg
      subst htg
      cases hp : P.stoodInHeld t with
      | true => simp [hp] at hx
      | false =>
        simp only [hp, cond_false] at hx
        have hf : P.fieldsOf t = fs := by simp [Program.fieldsOf, htd]
        rw [show e + (d + 1) = (e + d) + 1 by omega]
        simp only [valOf, ↓reduceIte]
        rw [run_equalIn_struct w (e + d) t _ _ (by rw [hf]; exact htd) hp, hf]
        revert hx
        generalize fs.toList = fl
        intro hx
        induction fl generalizing r with
        | nil => simp at hx; subst hx; simp [Op.eqFields]
        | cons f fl ih =>
          simp only [List.foldr_cons, Option.bind_eq_some_iff] at hx
          obtain ⟨⟨g1, m1⟩, ht1, hx⟩ := hx
          simp only at hx
          cases hb : (f.name == "_" || !Nat.ble (f.offset + m1) xs.length || !Nat.ble (f.offset + m1) ys.length || !(g1 || Nat.beq m1 1)) with
          | true => rw [hb] at hx; simp at hx
          | false =>
            rw [hb] at hx
            simp only [cond_false, Option.bind_eq_some_iff, Option.map_eq_some_iff] at hx
            obtain ⟨r1, hr1, s, hs, rfl⟩ := hx
            simp only [Bool.or_eq_false_iff, Bool.not_eq_false'] at hb
            obtain ⟨⟨⟨hn, hl1⟩, hl2⟩, hgm⟩ := hb
            have hl1 := Nat.le_of_ble_eq_true hl1
            have hl2 := Nat.le_of_ble_eq_true hl2
            rw [hu.length] at hl1
            rw [hv.length] at hl2
            have hgm' : g1 = true ∨ m1 = 1 := by
              simp only [Bool.or_eq_true] at hgm
              rcases hgm with h | h
              · exact .inl h
              · exact .inr (Nat.eq_of_beq_eq_true h)
            have hn' : f.name ≠ "_" := by simpa using hn
            have key := run_eq1 d f.type _ _ _ _ r1 g1 m1 e hr1 ht1 ((hu.drop f.offset).take m1) ((hv.drop f.offset).take m1)
            have ih' := ih s hs
            rw [Op.eqFields]
            simp only [if_pos hn', Sem.run_bind, run_part ht1 hl1 hgm', run_part ht1 hl2 hgm', Result.andThen_ok, key]
            cases r1
            · simp
            · simpa using ih'
    | int k0 =>
      simp only at hx htg
      subst htg
      split at hx <;> first | (simp at hx; done) | skip
      rename_i kk p kk' q
      split at hx <;> first | (simp at hx; done) | skip
      rename_i hk; subst hk
      simp only [Option.some.injEq] at hx; subst hx
      simp only [VRl, VR] at hu hv
      obtain ⟨_, _, rfl, rfl, rfl⟩ := hu
      obtain ⟨_, _, rfl, rfl, rfl⟩ := hv
      rw [show e + (d + 1) = (e + d) + 1 by omega]
      rw [valOf_one, valOf_one, run_equalIn_int w (e + d) t _ k0 p q htd]; rfl
    | bool =>
      simp only at hx htg
      subst htg
      split at hx <;> first | (simp at hx; done) | skip
      simp only [Option.some.injEq] at hx; subst hx
      simp only [VRl, VR] at hu hv
      obtain ⟨_, _, rfl, rfl, rfl⟩ := hu
      obtain ⟨_, _, rfl, rfl, rfl⟩ := hv
      rw [show e + (d + 1) = (e + d) + 1 by omega]
      rw [valOf_one, valOf_one, run_equalIn_bool w (e + d) t _ _ htd]
    | string =>
      simp only at hx htg
      subst htg
      split at hx <;> first | (simp at hx; done) | skip
      simp only [Option.some.injEq] at hx; subst hx
      simp only [VRl, VR] at hu hv
      obtain ⟨_, _, rfl, rfl, rfl⟩ := hu
      obtain ⟨_, _, rfl, rfl, rfl⟩ := hv
      rw [show e + (d + 1) = (e + d) + 1 by omega]
      rw [valOf_one, valOf_one, run_equalIn_string w (e + d) t _ _ htd, toList_ba, toList_ba]
      congr 1
      rw [Bool.eq_iff_iff]; simp
    | _ => simp at hx

def EqRun (P : Program) (t : TypeId) (u v : Value) (b : Bool) (w : World) : Prop :=
  (Op.equal t u v).run P w = .ok b w ∧ (∀ op x y, (eqGuard op t x y u v).run P w = .ok () w) ∧
  Go.binOp .eql t u v = (do pure (.bool (← Op.equal t u v))) ∧ Go.binOp .neq t u v = (do pure (.bool (!(← Op.equal t u v))))

theorem eq_slice {P : Program} {t e : TypeId} {w : World} (hd : P.underlying t = some (.slice e)) (A : Option Addr) (m k : Nat) :
    (∀ d, (Op.equalIn (d + 1) t (.slice A m k) (.slice none 0 0)).run P w = .ok A.isNone w) ∧ (∀ op x y, (eqGuard op t x y (.slice A m k) (.slice none 0 0)).run P w = .ok () w) ∧
      Go.binOp .eql t (.slice A m k) (.slice none 0 0) = (do pure (.bool (← Op.equal t (.slice A m k) (.slice none 0 0)))) ∧ Go.binOp .neq t (.slice A m k) (.slice none 0 0) = (do pure (.bool (!(← Op.equal t (.slice A m k) (.slice none 0 0))))) := by
  refine ⟨fun d => ?_, fun op x y => by cases op <;> rfl, rfl, rfl⟩
  have hu : (underlying t).run P w = .ok (.slice e) w := by simp [underlying, hd]
  rw [Op.equalIn]
  simp only [Sem.run_bind, hu, Result.andThen_ok]
  cases A <;> rfl
theorem isNil_run {P : Program} {t : TypeId} {x y : TV} {u v : Value} {b : Bool} {imm ok : Nat → Prop} {μ : Nat → Mu} {h : Heap} {n : Nat} (hb : isNil (P.underlying t) x y = some b) (hcn : nilC x = true)
    (hx : VR w imm ok μ h n x u) (hy : VR w imm ok μ h n y v) : EqRun P t u v b w := by
  have key : (∀ d, (Op.equalIn (d + 1) t u v).run P w = .ok b w) ∧ (∀ op x y, (eqGuard op t x y u v).run P w = .ok () w) ∧
      Go.binOp .eql t u v = (do pure (.bool (← Op.equal t u v))) ∧ Go.binOp .neq t u v = (do pure (.bool (!(← Op.equal t u v)))) := by
    unfold isNil at hb
    split at hb <;> first | (simp at hb; done) | skip
    all_goals (simp only [Option.some.injEq] at hb; subst hb)
    all_goals (rename_i hd; simp only [VR] at hx hy)
    all_goals first
      | (subst hy; simp only [nilC] at hcn; obtain ⟨u', e, hh⟩ := hx; simp only [List.cons.injEq, and_true] at e; subst e
         rcases hh with ⟨_, rfl, _⟩ | ⟨A, cap, L', rfl, _⟩
         · simp at hcn
         · exact eq_slice hd (some A) _ _)
      | (subst hx hy; exact eq_slice hd _ _ _)
      | (subst hx hy; exact ⟨fun d => by simp [Op.equalIn, underlying, hd], fun op x y => by cases op <;> simp [eqGuard], rfl, rfl⟩)
      | (subst hy; obtain ⟨u', rfl, _⟩ := hx; exact ⟨fun d => by simp [Op.equalIn, underlying, hd], fun op x y => by cases op <;> simp [eqGuard], rfl, rfl⟩)
      | (subst hx; obtain ⟨u', rfl, _⟩ := hy; exact ⟨fun d => by simp [Op.equalIn, underlying, hd], fun op x y => by cases op <;> simp [eqGuard], rfl, rfl⟩)
      | (subst hy; obtain ⟨_, A, rfl, _⟩ := hx; exact ⟨fun d => by simp [Op.equalIn, underlying, hd], fun op x y => by cases op <;> simp [eqGuard], rfl, rfl⟩)
  exact ⟨key.1 9999, key.2⟩

theorem ok_eq (hs : Sim c σ a w) {op : BinOp} {t t' : TypeId} {x y : Operand} (ho : o.op = .binOp op t x y t') {b r : Bool} (hq : ∀ w1, Below w.heap.size w w1 → EqRun c.P t (a.eval x) (a.eval y) b w1) (hop : (op = .eql ∧ r = b) ∨ (op = .neq ∧ r = !b))
    (hput : sput c.m o.dst (.p (.bool r)) σ.s = some s') : OpOk c o a w ⟨s', σ.h, σ.n⟩ := by
  rcases hop with ⟨hop, hr⟩ | ⟨hop, hr⟩
  · subst hop; subst hr
    exact OpOk.quiet hs (v := .bool r) (fun w1 hb1 => by obtain ⟨h1, h2, h3, h4⟩ := hq w1 hb1; simp [execOp, ho, h1, h2, h3]) hput fun _ _ _ => by simp [VR]
  · subst hop
    exact OpOk.quiet hs (v := .bool !b) (fun w1 hb1 => by obtain ⟨h1, h2, h3, h4⟩ := hq w1 hb1; simp [execOp, ho, h1, h2, h4]) hput fun _ _ _ => by rw [hr]; simp [VR]

theorem ok_binOp (hs : Sim c σ a w) {op : BinOp} {t t' : TypeId} {x y : Operand} (ho : o.op = .binOp op t x y t') (hx : ex c.P o.op (ev σ.s) σ.h σ.n = some A) (hc : A.c = true) (hput : sput c.m o.dst A.v (ks A σ.s) = some s') : OpOk c o a w ⟨s', A.h, A.n⟩ := by
  rw [ho] at hx
  simp only [ex, binS] at hx
  obtain ⟨_, _, _, μ, hH, hl, hg⟩ := id hs
  have hvx := SR.evl hl x
  have hvy := SR.evl hl y
  split at hx
  · rename_i k p k' q hqx hqy
    rw [hqx] at hvx; rw [hqy] at hvy
    have ex1 := hvx.p_eq
    have ey1 := hvy.p_eq
    split at hx
    · simp only [Option.some.injEq] at hx; subst hx
      simp only [decide_eq_true_eq] at hc
      exact ok_shift hs ho ex1 ey1 hc (.inl ⟨rfl, rfl⟩) hput
    · simp only [Option.some.injEq] at hx; subst hx
      simp only [decide_eq_true_eq] at hc
      exact ok_shift hs ho ex1 ey1 hc (.inr ⟨rfl, rfl⟩) hput
    · split at hx
      · rename_i hk; subst hk
        simp only [Option.some.injEq] at hx; subst hx
        simp only [Bool.not_eq_true', decide_eq_false_iff_not] at hc
        exact ok_bin_int hs ho ex1 ey1 (by simp) (fun _ => hc) hput
      · simp at hx
    · split at hx
      · rename_i hk; subst hk
        simp only [Option.some.injEq] at hx; subst hx
        simp only [Bool.not_eq_true', decide_eq_false_iff_not] at hc
        exact ok_bin_int hs ho ex1 ey1 (by simp) (fun _ => hc) hput
      · simp at hx
    · rename_i h1 h2 h3 h4
      split at hx
      · rename_i hk; subst hk
        simp only [Option.some.injEq] at hx; subst hx
        exact ok_bin_int hs ho ex1 ey1 ⟨h1, h2⟩ (fun h => by rcases h with h | h <;> simp_all) hput
      · simp at hx
  · rename_i p q hqx hqy
    rw [hqx] at hvx; rw [hqy] at hvy
    have ex1 := hvx.p_eq
    have ey1 := hvy.p_eq
    split at hx
    · simp only [Option.some.injEq] at hx; subst hx
      simp only [decide_eq_true_eq] at hc
      refine ok_str hs ho ex1 ey1 ?_ hput
      have : IntKind.i64.max = 9223372036854775807 := rfl
      simp only; omega
    all_goals first | (simp at hx; done) | (simp only [Option.some.injEq] at hx; subst hx; exact ok_str hs ho ex1 ey1 trivial hput)
  · rename_i xs ys hqx hqy
    rw [hqx] at hvx; rw [hqy] at hvy
    simp only [VR] at hvx hvy
    obtain ⟨us, ex1, hu⟩ := hvx
    obtain ⟨vs, ey1, hv⟩ := hvy
    cases hg : c.P.eqGuardType c.P.depth t with
    | true => simp [hg] at hx
    | false =>
      simp only [hg, cond_false] at hx
      split at hx
      · rename_i m ht
        have key : ∀ b, eq1 c.P 8 t xs ys = some b → ∀ w1, Below w.heap.size w w1 → EqRun c.P t (a.eval x) (a.eval y) b w1 := by
          intro b hb w1 hb1
          have kp := hH.kept_quiet hb1 hs.lt (Nat.le_refl _)
          have := run_eq1 8 t xs ys us vs b true m 9992 hb ht (VRl.mono kp _ _ (innOkl_true _) hu) (VRl.mono kp _ _ (innOkl_true _) hv)
          simp only [valOf, ↓reduceIte] at this
          rw [ex1, ey1]
          exact ⟨this, fun o x y => run_eqGuard_agg w1 o t x y _ _ hg, rfl, rfl⟩
        split at hx
        · simp only [Option.map_eq_some_iff] at hx
          obtain ⟨b, hb, rfl⟩ := hx
          exact ok_eq hs ho (key b hb) (.inl ⟨rfl, rfl⟩) hput
        · simp only [Option.map_eq_some_iff] at hx
          obtain ⟨b, hb, rfl⟩ := hx
          exact ok_eq hs ho (key b hb) (.inr ⟨rfl, rfl⟩) hput
        · simp at hx
      · simp at hx
  · split at hx
    · rename_i b hb
      simp only [Option.some.injEq] at hx; subst hx
      exact ok_eq hs ho (fun w1 hb1 => isNil_run hb hc (VR.mono (hH.kept_quiet hb1 hs.lt (Nat.le_refl _)) _ _ (innOk_true _) hvx) (VR.mono (hH.kept_quiet hb1 hs.lt (Nat.le_refl _)) _ _ (innOk_true _) hvy)) (.inl ⟨rfl, rfl⟩) hput
    · rename_i b hb
      simp only [Option.some.injEq] at hx; subst hx
      exact ok_eq hs ho (fun w1 hb1 => isNil_run hb hc (VR.mono (hH.kept_quiet hb1 hs.lt (Nat.le_refl _)) _ _ (innOk_true _) hvx) (VR.mono (hH.kept_quiet hb1 hs.lt (Nat.le_refl _)) _ _ (innOk_true _) hvy)) (.inr ⟨rfl, rfl⟩) hput
    · simp at hx
end
end Go.Tw
