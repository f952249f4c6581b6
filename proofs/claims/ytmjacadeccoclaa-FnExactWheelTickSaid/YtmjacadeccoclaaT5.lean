/- A step of the typed logic of this claim is proved here: what an operation does to the data that slots and memory stand for. -/
import Derived.Test.YtmjacadeccoclaaT4
set_option linter.all false
namespace Go.Tw
open Go Go.RowKit

mutual
theorem innOk.imp {K K' : Nat → Prop} (h : ∀ r, K r → K' r) : ∀ x, innOk K x → innOk K' x
  | .inn r _ _, H => h r H
  | .agg cs, H => by simp only [innOk] at H ⊢; exact innOkl.imp h cs H
  | .tup cs, H => by simp only [innOk] at H ⊢; exact innOkl.imp h cs H
  | .ifc _ x, H => by simp only [innOk] at H ⊢; exact innOk.imp h x H
  | .fn _ fi ca, H => by simp only [innOk] at H ⊢; exact ⟨innOkl.imp h fi H.1, innOkl.imp h ca H.2⟩
  | .p _, _ => trivial
  | .tr _ _, _ => trivial
  | .full _, _ => trivial
  | .sub _ _ _, _ => trivial
  | .ptr _ _ _, _ => trivial
  | .iptr _ _ _ _, _ => trivial
  | .mp _, _ => trivial
  | .undef, _ => trivial
theorem innOkl.imp {K K' : Nat → Prop} (h : ∀ r, K r → K' r) : ∀ xs, innOkl K xs → innOkl K' xs
  | [], _ => trivial
  | x :: xs, H => ⟨innOk.imp h x H.1, innOkl.imp h xs H.2⟩
end

def OpOk (c : Cx) (o : Oper) (a : Act) (w : World) (σ' : St) : Prop :=
  ∃ nx w', (execOp a.eval o).run c.P w = .ok nx w' ∧ (stillB o.op = true → ∀ w1, Below w.heap.size w w1 → (execOp a.eval o).run c.P w1 = .ok nx w1) ∧
    ((∃ v, nx = .value v ∧ Sim c σ' (a.put o.dst v) w') ∨ (nx = .skip ∧ Sim c σ' (a.put o.dst undef) w'))

theorem beq_iff {a b : Nat} : Nat.beq a b = true ↔ a = b := Nat.beq_eq ▸ Iff.rfl
theorem sget_cons (k : Nat) (x : TV) (s : List (Nat × TV)) (t : Nat) : sget ((k, x) :: s) t = if t = k then x else sget s t := by
  simp only [sget]
  by_cases h : t = k
  · subst h; simp
  · have : Nat.beq t k = false := by
      cases hb : Nat.beq t k with
      | false => rfl
      | true => exact absurd (Nat.eq_of_beq_eq_true hb) h
    simp [this, h]

section
variable {w : World} {imm ok : Nat → Prop} {μ : Nat → Mu} {h : Heap} {n : Nat}
theorem VRl.get : ∀ {xs : List TV} {us : List Value}, VRl w imm ok μ h n xs us → ∀ t, VR w imm ok μ h n (xs.getD t .undef) (us.getD t undef)
  | [], us, _, t => by simp [VR]
  | c :: cs, us, H, t => by
    simp only [VRl] at H
    obtain ⟨u, us', rfl, h1, h2⟩ := H
    cases t with
    | zero => simpa using h1
    | succ t => simpa using VRl.get h2 t
theorem VRl.length : ∀ {xs : List TV} {us : List Value}, VRl w imm ok μ h n xs us → xs.length = us.length
  | [], us, H => by simp only [VRl] at H; subst H; rfl
  | c :: cs, us, H => by
    simp only [VRl] at H
    obtain ⟨u0, us', rfl, h1, h2⟩ := H
    simp [VRl.length h2]
theorem VRl.append : ∀ {xs ys : List TV} {us vs : List Value}, VRl w imm ok μ h n xs us → VRl w imm ok μ h n ys vs → VRl w imm ok μ h n (xs ++ ys) (us ++ vs)
  | [], ys, us, vs, h1, h2 => by simp only [VRl] at h1; subst h1; simpa using h2
  | x :: xs, ys, us, vs, h1, h2 => by
    simp only [VRl, List.cons_append] at h1 ⊢
    obtain ⟨u, us', rfl, h3, h4⟩ := h1
    exact ⟨u, us' ++ vs, by simp, h3, VRl.append h4 h2⟩
theorem VRl.take : ∀ {xs : List TV} {us : List Value} (k : Nat), VRl w imm ok μ h n xs us → VRl w imm ok μ h n (xs.take k) (us.take k)
  | xs, us, 0, _ => by simp [VRl]
  | [], us, k + 1, H => by simp only [VRl] at H; subst H; simp [VRl]
  | x :: xs, us, k + 1, H => by
    simp only [VRl] at H
    obtain ⟨u, us', rfl, h3, h4⟩ := H
    simp only [List.take_succ_cons, VRl]; exact ⟨u, _, rfl, h3, VRl.take k h4⟩
theorem VRl.drop : ∀ {xs : List TV} {us : List Value} (k : Nat), VRl w imm ok μ h n xs us → VRl w imm ok μ h n (xs.drop k) (us.drop k)
  | xs, us, 0, H => by simpa using H
  | [], us, k + 1, H => by simp only [VRl] at H; subst H; simp [VRl]
  | x :: xs, us, k + 1, H => by
    simp only [VRl] at H
    obtain ⟨u, us', rfl, h3, h4⟩ := H
    simpa using VRl.drop k h4
theorem VRl.headD {cs : List TV} {us : List Value} (H : VRl w imm ok μ h n cs us) : VR w imm ok μ h n (cs.headD .undef) (us.headD undef) := by
  cases cs with
  | nil => simp [VR]
  | cons c cs => simp only [VRl] at H; obtain ⟨u, us', rfl, h1, _⟩ := H; simpa using h1
theorem VRl.pmap : ∀ l : List Value, VRl w imm ok μ h n (l.map .p) l
  | [] => by simp [VRl]
  | x :: l => by simp only [List.map_cons, VRl]; exact ⟨x, l, rfl, by simp [VR], VRl.pmap l⟩
theorem VR.p_eq {u v : Value} (H : VR w imm ok μ h n (.p u) v) : v = u := by simpa [VR] using H
theorem pack_vr {g : Bool} {cs : List TV} {us : List Value} (H : VRl w imm ok μ h n cs us) : VR w imm ok μ h n (pack g cs) (if g then .agg us.toArray else us.headD undef) := by
  cases g with
  | true => simp only [pack, cond_true, ↓reduceIte, VR]; exact ⟨us, rfl, H⟩
  | false => simp only [pack, cond_false, Bool.false_eq_true, ↓reduceIte]; exact H.headD

/-- the slots -/
def SR (w : World) (imm ok : Nat → Prop) (μ : Nat → Mu) (h : Heap) (n : Nat) (s : List (Nat × TV)) (us : Array Value) : Prop := ∀ t, VR w imm ok μ h n (sget s t) (us.getD t undef)
theorem SR.evl {s : List (Nat × TV)} {a : Act} (H : SR w imm ok μ h n s a.tmps) (x : Operand) : VR w imm ok μ h n (ev s x) (a.eval x) := by
  cases x with
  | tmp t => exact H t
  | const v => simp [ev, Act.eval, VR]
  | global g => simp [ev, Act.eval, VR]
  | func f => simp only [ev, Act.eval, VR]; exact ⟨[], [], rfl, by simp [VRl], by simp [VRl]⟩
theorem SR.map {s : List (Nat × TV)} {a : Act} (H : SR w imm ok μ h n s a.tmps) : ∀ xs : List Operand, VRl w imm ok μ h n (xs.map (ev s)) (xs.map a.eval)
  | [] => by simp [VRl]
  | x :: xs => by simp only [List.map_cons, VRl]; exact ⟨_, _, rfl, H.evl x, SR.map H xs⟩
end

section
variable {c : Cx} {σ : St} {a : Act} {w w' : World}

theorem Sim.put {dst : Option Tmp} {x : TV} {v : Value} {s s' : List (Nat × TV)} {h : Heap} {n : Nat} {μ : Nat → Mu} (hfr : Fr c w') (hd : a.defers = []) (hsz : a.tmps.size = c.m.n ∧ ∀ q ∈ c.m.st, a.tmps.getD q.1 undef = c.gv.getD q.2 undef)
    (hH : HR w' c.imm c.ok μ h n []) (hs : SR w' c.imm c.ok μ h n s a.tmps) (hg : VRl w' c.imm c.ok μ h n c.gs c.gv) (hv : VR w' c.imm c.ok μ h n x v) (hput : sput c.m dst x s = some s') : Sim c ⟨s', h, n⟩ (a.put dst v) w' := by
  cases dst with
  | none =>
    simp only [sput, Option.some.injEq] at hput; subst hput
    exact ⟨hfr, hd, hsz, μ, hH, hs, hg⟩
  | some d =>
    simp only [sput] at hput
    cases hb : Nat.blt d c.m.n && c.m.st.all (fun q => !Nat.beq q.1 d) with
    | false => simp [hb] at hput
    | true =>
      simp only [hb, cond_true, Option.some.injEq] at hput; subst hput
      simp only [Bool.and_eq_true] at hb
      have hlt : d < c.m.n := by simpa [Nat.blt_eq] using hb.1
      have hother : ∀ t, t ≠ d → (a.tmps.setIfInBounds d v).getD t undef = a.tmps.getD t undef := fun t ht => by
        simp [Array.getD_eq_getD_getElem?, Array.getElem?_setIfInBounds, Ne.symm ht]
      refine ⟨hfr, hd, ⟨by simpa [Act.put] using hsz.1, fun q hq => ?_⟩, μ, hH, fun t => ?_, hg⟩
      · have h1 := List.all_eq_true.1 hb.2 q hq
        have hne : q.1 ≠ d := by rintro e; rw [e] at h1; simp at h1
        show (a.tmps.setIfInBounds d v).getD q.1 undef = _
        rw [hother _ hne]; exact hsz.2 q hq
      rw [sget_cons]
      simp only [Act.put]
      by_cases ht : t = d
      · subst ht
        have : (a.tmps.setIfInBounds t v).getD t undef = v := by
          have hl : t < a.tmps.size := by rw [hsz.1]; exact hlt
          simp [Array.getD_eq_getD_getElem?, hl]
        rw [this, if_pos rfl]; exact hv
      · rw [hother t ht, if_neg ht]; exact hs t

theorem OpOk.quiet (hs : Sim c σ a w) {o : Oper} {x : TV} {v : Value} {s' : List (Nat × TV)} (hr : ∀ w1, Below w.heap.size w w1 → (execOp a.eval o).run c.P w1 = .ok (.value v) w1) (hput : sput c.m o.dst x σ.s = some s')
    (hv : ∀ μ, SR w c.imm c.ok μ σ.h σ.n σ.s a.tmps → HR w c.imm c.ok μ σ.h σ.n [] → VR w c.imm c.ok μ σ.h σ.n x v) : OpOk c o a w ⟨s', σ.h, σ.n⟩ := by
  obtain ⟨h1, h2, h3, μ, h4, h5, h6⟩ := hs
  exact ⟨_, _, hr w (Below.refl _ _), fun _ => hr, .inl ⟨v, rfl, Sim.put h1 h2 h3 h4 h5 h6 (hv μ h5 h4) hput⟩⟩

theorem ok_move (hs : Sim c σ a w) {o : Oper} {x : Operand} (ho : o.op = .move x ∨ o.op = .assign x) {s' : List (Nat × TV)} (hput : sput c.m o.dst (ev σ.s x) σ.s = some s') : OpOk c o a w ⟨s', σ.h, σ.n⟩ :=
  OpOk.quiet hs (v := a.eval x) (fun w1 hb1 => by rcases ho with ho | ho <;> simp [execOp, ho]) hput fun μ hl _ => hl.evl x

theorem ok_bin_int (hs : Sim c σ a w) {o : Oper} {op : BinOp} {t t' : TypeId} {x y : Operand} (ho : o.op = .binOp op t x y t') {k : IntKind} {m n : Int}
    (hx : a.eval x = .int k m) (hy : a.eval y = .int k n) (h0 : op ≠ .shl ∧ op ≠ .shr) (hz : (op = .quo ∨ op = .rem) → n ≠ 0) {s' : List (Nat × TV)} (hput : sput c.m o.dst (bin op k m n) σ.s = some s') :
    OpOk c o a w ⟨s', σ.h, σ.n⟩ := by
  have hg : ∀ w : World, (eqGuard op t x y (.int k m) (.int k n)).run c.P w = .ok () w := by
    intro w; unfold eqGuard; cases op <;> simp
  have key : ∃ u, bin op k m n = .p u ∧ ∀ w : World, (Go.binOp op t (.int k m) (.int k n)).run c.P w = .ok u w := by
    cases op <;> simp at h0 hz <;> refine ⟨_, rfl, fun w => ?_⟩ <;> simp [Go.binOp, Op.intArith, Op.intDiv, Op.intBits, Op.intCmp, hz] <;> first | rfl | skip
  obtain ⟨u, hu, hrun⟩ := key
  exact OpOk.quiet hs (v := u) (fun w1 hb1 => by simp [execOp, ho, hx, hy, hg, hrun]) hput fun _ _ _ => by rw [hu]; simp [VR]

theorem ok_shift (hs : Sim c σ a w) {o : Oper} {op : BinOp} {t t' : TypeId} {x y : Operand} (ho : o.op = .binOp op t x y t') {k k' : IntKind} {m n : Int}
    (hx : a.eval x = .int k m) (hy : a.eval y = .int k' n) (h0 : 0 ≤ n) {u : Value} (hu : (op = .shl ∧ u = .int k (k.wrap (m * 2 ^ min n.toNat k.bits))) ∨ (op = .shr ∧ u = .int k (m.fdiv (2 ^ min n.toNat k.bits))))
    {s' : List (Nat × TV)} (hput : sput c.m o.dst (.p u) σ.s = some s') : OpOk c o a w ⟨s', σ.h, σ.n⟩ := by
  have hneg : ¬ n < 0 := by omega
  have hg : ∀ w : World, (eqGuard op t x y (.int k m) (.int k' n)).run c.P w = .ok () w := by
    intro w; unfold eqGuard; cases op <;> simp
  rcases hu with ⟨rfl, rfl⟩ | ⟨rfl, rfl⟩
  · exact OpOk.quiet hs (v := _) (fun w1 hb1 => by simp [execOp, ho, hx, hy, hg, Go.binOp, Op.shift, hneg]; rfl) hput fun _ _ _ => by simp [VR]
  · exact OpOk.quiet hs (v := _) (fun w1 hb1 => by simp [execOp, ho, hx, hy, hg, Go.binOp, Op.shift, hneg]; rfl) hput fun _ _ _ => by simp [VR]

theorem ok_str (hs : Sim c σ a w) {o : Oper} {op : BinOp} {t t' : TypeId} {x y : Operand} (ho : o.op = .binOp op t x y t') {m n : ByteArray}
    (hx : a.eval x = .string m) (hy : a.eval y = .string n) (hob : match op with | .add => ((m.size + n.size : Nat) : Int) ≤ IntKind.i64.max | .eql | .neq | .lss | .leq | .gtr | .geq => True | _ => False)
    {s' : List (Nat × TV)} (hput : sput c.m o.dst (strB op m n) σ.s = some s') : OpOk c o a w ⟨s', σ.h, σ.n⟩ := by
  have hg : ∀ w : World, (eqGuard op t x y (.string m) (.string n)).run c.P w = .ok () w := by
    intro w; unfold eqGuard; cases op <;> simp
  have key : ∃ u, strB op m n = .p u ∧ ∀ w : World, (Go.binOp op t (.string m) (.string n)).run c.P w = .ok u w := by
    cases op <;> simp only at hob <;> first | exact hob.elim | skip
    all_goals refine ⟨_, rfl, fun w => ?_⟩
    all_goals simp only [Go.binOp, Op.stringOp, toList_ba]
    all_goals first | rfl | (rw [if_neg (by omega)]; rfl) | (simp; rw [beq_dec]) | (simp; done)
  obtain ⟨u, hu, hrun⟩ := key
  exact OpOk.quiet hs (v := u) (fun w1 hb1 => by simp [execOp, ho, hx, hy, hg, hrun]) hput fun _ _ _ => by rw [hu]; simp [VR]
end
end Go.Tw
