/- A step of the typed logic of this claim is proved here: what an operation does to the data that slots and memory stand for. -/
import Derived.Test.YtmjacadeccoclaaT18f
set_option linter.all false
namespace Go.Tw
open Go Go.RowKit

/-! States as functions. -/
structure DS where
  s : Nat → TV
  pd : Nat → Option Reg
  h : Heap
  n : Nat
def upd {α : Type} (f : Nat → α) (k : Nat) (v : α) : Nat → α := fun t => if t = k then v else f t
theorem upd_ne {α : Type} {f : Nat → α} {k t : Nat} {v : α} (h : t ≠ k) : upd f k v t = f t := if_neg h
theorem upd_eq {α : Type} {f : Nat → α} {k : Nat} {v : α} : upd f k v k = v := if_pos rfl
theorem upd_comm {α : Type} {f : Nat → α} {k k' : Nat} {v v' : α} (h : k ≠ k') : upd (upd f k v) k' v' = upd (upd f k' v') k v := by
  funext t
  simp only [upd]
  by_cases h1 : t = k
  · subst h1; simp [h]
  · simp [h1]
def putF (dst : Option Nat) (x : TV) (p : Option Reg) (τ : DS) : DS :=
  match dst with
  | some d => ⟨upd τ.s d x, upd τ.pd d p, τ.h, τ.n⟩
  | none => τ
def attF : List Nat → DS → DS
  | [], τ => τ
  | t :: ts, τ => match τ.pd t with
    | some reg => attF ts ⟨upd τ.s t (ptrOf reg τ.n), upd τ.pd t none, (τ.n, reg) :: τ.h, τ.n + 1⟩
    | none => attF ts τ
def evf (f : Nat → TV) : Operand → TV
  | .tmp t => f t
  | .const v => .p v
  | .global g => .p (.pointer (some ⟨g, 0, none⟩))
  | .func f => .fn (.func f) [] []
def absD (τ : DL) : DS := ⟨sget τ.s, pget τ.pd, τ.h, τ.n⟩
theorem ev_evf (s : List (Nat × TV)) : ev s = evf (sget s) := by funext x; cases x <;> rfl
theorem sget_upd (s : List (Nat × TV)) (d : Nat) (x : TV) : sget ((d, x) :: s) = upd (sget s) d x := by funext t; rw [sget_cons]; rfl
theorem pget_upd (s : List (Nat × Option Reg)) (d : Nat) (x : Option Reg) : pget ((d, x) :: s) = upd (pget s) d x := by
  funext t
  simp only [pget, upd]
  by_cases h : t = d
  · subst h; simp
  · have : Nat.beq t d = false := by
      cases hb : Nat.beq t d with
      | false => rfl
      | true => exact absurd (Nat.eq_of_beq_eq_true hb) h
    simp [this, h]
theorem absD_put (dst : Option Nat) (x : TV) (p : Option Reg) (τ : DL) : absD (putL dst x p τ) = putF dst x p (absD τ) := by
  cases dst with
  | none => rfl
  | some d => simp only [putL, putF, absD, sget_upd, pget_upd]
theorem absD_att : ∀ (l : List Nat) (τ : DL), absD (attL l τ) = attF l (absD τ)
  | [], τ => rfl
  | t :: ts, τ => by
    simp only [attL, attF]
    have e : (absD τ).pd t = pget τ.pd t := rfl
    rw [e]
    cases hp : pget τ.pd t with
    | none => exact absD_att ts τ
    | some reg => simp only [absD_att ts]; simp only [absD, sget_upd, pget_upd]

theorem att_out : ∀ (l : List Nat) (τ : DS), τ.n ≤ (attF l τ).n ∧ (∀ t, ¬ (t ∈ l ∧ (τ.pd t).isSome = true) → (attF l τ).s t = τ.s t ∧ (attF l τ).pd t = τ.pd t) ∧ ∀ r, (r < τ.n ∨ (attF l τ).n ≤ r) → hget (attF l τ).h r = hget τ.h r
  | [], τ => ⟨Nat.le_refl _, fun _ _ => ⟨rfl, rfl⟩, fun _ _ => rfl⟩
  | t :: ts, τ => by
    simp only [attF]
    cases hp : τ.pd t with
    | none =>
      obtain ⟨h1, h2, h3⟩ := att_out ts τ
      exact ⟨h1, fun u hu => h2 u (fun hm => hu ⟨by simp [hm.1], hm.2⟩), h3⟩
    | some reg =>
      obtain ⟨h1, h2, h3⟩ := att_out ts ⟨upd τ.s t (ptrOf reg τ.n), upd τ.pd t none, (τ.n, reg) :: τ.h, τ.n + 1⟩
      simp only at h1 h2 h3 ⊢
      refine ⟨by omega, fun u hu => ?_, fun r hr => by rw [h3 r (by omega), hget_new (by omega)]⟩
      have hne : u ≠ t := by rintro rfl; exact hu ⟨by simp, by rw [hp]; rfl⟩
      obtain ⟨e1, e2⟩ := h2 u (fun hm => hu ⟨by simp [hm.1], by rw [upd_ne hne] at hm; exact hm.2⟩)
      exact ⟨by rw [e1, upd_ne hne], by rw [e2, upd_ne hne]⟩
theorem att_put {d : Nat} {x : TV} {p : Option Reg} : ∀ (l : List Nat) (τ : DS), d ∉ l → attF l (putF (some d) x p τ) = putF (some d) x p (attF l τ)
  | [], τ, _ => rfl
  | t :: ts, τ, hd => by
    simp only [List.mem_cons, not_or] at hd
    simp only [attF]
    have e : (putF (some d) x p τ).pd t = τ.pd t := upd_ne (Ne.symm hd.1)
    rw [e]
    cases hp : τ.pd t with
    | none => exact att_put ts τ hd.2
    | some reg =>
      have h1 := att_put ts ⟨upd τ.s t (ptrOf reg τ.n), upd τ.pd t none, (τ.n, reg) :: τ.h, τ.n + 1⟩ hd.2 (x := x) (p := p)
      simp only [putF] at h1 ⊢
      rw [upd_comm (f := τ.s) hd.1, upd_comm (f := τ.pd) hd.1]; exact h1
theorem put_comm {d d' : Option Nat} {x x' : TV} {p p' : Option Reg} {τ : DS} (h : ∀ a, d = some a → d' ≠ some a) : putF d x p (putF d' x' p' τ) = putF d' x' p' (putF d x p τ) := by
  cases d with
  | none => rfl
  | some a =>
    cases d' with
    | none => rfl
    | some b =>
      have hne : b ≠ a := by rintro rfl; exact h _ rfl rfl
      simp only [putF]
      rw [upd_comm (f := τ.s) hne, upd_comm (f := τ.pd) hne]
theorem put_s {d : Option Nat} {x : TV} {p : Option Reg} {τ : DS} {t : Nat} (h : d ≠ some t) : (putF d x p τ).s t = τ.s t ∧ (putF d x p τ).pd t = τ.pd t := by
  cases d with
  | none => exact ⟨rfl, rfl⟩
  | some a =>
    have hne : t ≠ a := by rintro rfl; exact h rfl
    exact ⟨upd_ne hne, upd_ne hne⟩
theorem put_h {d : Option Nat} {x : TV} {p : Option Reg} {τ : DS} : (putF d x p τ).h = τ.h ∧ (putF d x p τ).n = τ.n := by cases d <;> exact ⟨rfl, rfl⟩

section
variable (P : Program) (F : List Con) (m : Fm) (dl : List (Option Tmp))
def Wnt (o : Oper) (s : Nat → TV) : Prop := o.guard = none ∨ ∃ j want t, o.guard = some (j, want) ∧ dl.getD j none = some t ∧ gv want (s t) = some true
def Unw (o : Oper) (s : Nat → TV) : Prop := ∃ j want t, o.guard = some (j, want) ∧ dl.getD j none = some t ∧ (gv want (s t) = some false ∨ isUn (s t) = true)
/-- An operation that only sets its slot. -/
inductive Lig (o : Oper) (k : KI) (τ : DS) : TV → Option Reg → Prop
  | skip : Unw dl o τ.s → Lig o k τ (.tup []) none
  | alc (reg : Reg) : Wnt dl o τ.s → (∀ t ∈ opT o.op, τ.pd t = none) → alcS P o.op (evf τ.s) = some (reg, true) → o.dst.isSome = true → Lig o k τ .undef (some reg)
  | free (A : Ans) : Wnt dl o τ.s → (∀ t ∈ opT o.op, τ.pd t = none) → stillB o.op = true → ex P o.op (evf τ.s) τ.h τ.n = some A → A.c = true → (∀ r ∈ rdI o.op (evf τ.s), r ∈ k.rd) → Lig o k τ A.v none
structure Hvy (o : Oper) (k : KI) (τ : DS) (A : Ans) : Prop where
  wnt : Wnt dl o τ.s
  ev : evV P F o (evf (attF (opT o.op) τ).s) (attF (opT o.op) τ).h (attF (opT o.op) τ).n some = some A
  wr : ∀ r ∈ wrI o.op (evf (attF (opT o.op) τ).s), r ∈ k.wr
  nw : ∀ r, τ.n ≤ r → r < A.n → r ∈ k.wr
  ta : ∀ t ∈ opT o.op, (τ.pd t).isSome = true → t ∈ k.ta
inductive App (o : Oper) (k : KI) : DS → DS → Prop
  | lig {τ : DS} {x : TV} {p : Option Reg} : k.hv = false → dstOk m o.dst = true → Lig P dl o k τ x p → App o k τ (putF o.dst x p τ)
  | hvy {τ : DS} {A : Ans} : k.hv = true → dstOk m o.dst = true → Hvy P F dl o k τ A → App o k τ (putF o.dst A.v none ⟨(attF (opT o.op) τ).s, (attF (opT o.op) τ).pd, A.h, A.n⟩)
end

section
variable {P : Program} {F : List Con} {m : Fm} {dl : List (Option Tmp)} {o : Oper} {k : KI} {τ τ' : DS}
theorem opT_mem {x : Operand} {t : Nat} (h : x ∈ o.op.operands) (e : x = .tmp t) : t ∈ opT o.op := by
  subst e
  simp only [opT, tmpsOf, List.mem_filterMap]
  exact ⟨.tmp t, by simpa using h, rfl⟩
theorem evf_congr {s s' : Nat → TV} (h : ∀ t ∈ opT o.op, s' t = s t) : ∀ x ∈ o.op.operands, evf s' x = evf s x := by
  intro x hx
  cases x with
  | tmp t => exact h t (opT_mem hx rfl)
  | _ => rfl
theorem opT_lk {t : Nat} (h : t ∈ opT o.op) : t ∈ lkT dl o := by simp [lkT, h]
theorem guard_lk {j : Nat} {want : Bool} {t : Nat} (h : o.guard = some (j, want)) (ht : dl.getD j none = some t) : t ∈ lkT dl o := by unfold lkT; rw [h]; simp only [ht]; simp
theorem Wnt.congr {s s' : Nat → TV} (h : ∀ t ∈ lkT dl o, s' t = s t) (H : Wnt dl o s) : Wnt dl o s' := by
  rcases H with H | ⟨j, want, t, h1, h2, h3⟩
  · exact .inl H
  · exact .inr ⟨j, want, t, h1, h2, by rw [h t (guard_lk h1 h2)]; exact h3⟩
theorem Unw.congr {s s' : Nat → TV} (h : ∀ t ∈ lkT dl o, s' t = s t) (H : Unw dl o s) : Unw dl o s' := by
  obtain ⟨j, want, t, h1, h2, h3⟩ := H
  exact ⟨j, want, t, h1, h2, by rw [h t (guard_lk h1 h2)]; exact h3⟩
theorem Lig.frame {x : TV} {p : Option Reg} (hs : ∀ t ∈ lkT dl o, τ'.s t = τ.s t ∧ τ'.pd t = τ.pd t) (hr : ∀ r ∈ k.rd, hget τ'.h r = hget τ.h r) (H : Lig P dl o k τ x p) : Lig P dl o k τ' x p := by
  have hev : ∀ x ∈ o.op.operands, evf τ'.s x = evf τ.s x := evf_congr fun t ht => (hs t (opT_lk ht)).1
  have hw : ∀ t ∈ lkT dl o, τ'.s t = τ.s t := fun t ht => (hs t ht).1
  have hpd : (∀ t ∈ opT o.op, τ.pd t = none) → ∀ t ∈ opT o.op, τ'.pd t = none := fun h t ht => by rw [(hs t (opT_lk ht)).2]; exact h t ht
  cases H with
  | skip h => exact .skip (h.congr hw)
  | alc reg h1 h2 h3 h4 => exact .alc reg (h1.congr hw) (hpd h2) (by rw [alcS_congr hev]; exact h3) h4
  | free A h1 h2 h3 h4 h5 h6 =>
    have e := ex_congr (P := P) (h := τ'.h) (n := τ'.n) o.op hev
    obtain ⟨_, _, _, h7⟩ := HI (h' := τ'.h) (n' := τ'.n) h3 h4 (fun r hr' => hr r (h6 r hr'))
    exact .free { A with h := τ'.h, n := τ'.n } (h1.congr hw) (hpd h2) h3 (by rw [e]; exact h7) h5 (by rw [rdI_congr hev]; exact h6)

structure PairP (dl : List (Option Tmp)) (o1 : Oper) (k1 : KI) (o2 : Oper) (k2 : KI) : Prop where
  d1 : ∀ d, o1.dst = some d → d ∉ lkT dl o2
  d2 : ∀ d, o2.dst = some d → d ∉ lkT dl o1
  dn : ∀ d, o1.dst = some d → o2.dst ≠ some d
  hh : ¬ (k1.hv = true ∧ k2.hv = true)
  r1 : ∀ r ∈ k1.rd, r ∉ k2.wr
  r2 : ∀ r ∈ k2.rd, r ∉ k1.wr
  t1 : ∀ t ∈ k1.ta, t ∉ lkT dl o2
  t2 : ∀ t ∈ k2.ta, t ∉ lkT dl o1
theorem disj_of {a b : List Nat} (h : disjB a b = true) : ∀ r ∈ a, r ∉ b := by
  intro r hr hb
  have := List.all_eq_true.1 (List.all_eq_true.1 h r hr) r hb
  simp at this
theorem out_of {d : Option Nat} {l : List Nat} (h : outB d l = true) : ∀ a, d = some a → a ∉ l := by
  rintro a rfl hm
  have := List.all_eq_true.1 h a hm
  simp at this
theorem pairB_ok {o1 o2 : Oper} {k1 k2 : KI} (h : pairB dl o1 k1 o2 k2 = true) : PairP dl o1 k1 o2 k2 := by
  simp only [pairB, Bool.and_eq_true, Bool.not_eq_true'] at h
  obtain ⟨⟨⟨⟨⟨⟨⟨h1, h2⟩, h3⟩, h4⟩, h5⟩, h6⟩, h7⟩, h8⟩ := h
  refine ⟨out_of h1, out_of h2, ?_, ?_, disj_of h5, disj_of h6, disj_of h7, disj_of h8⟩
  · rintro d e1 e2
    rw [e1, e2] at h3
    simp [neB] at h3
  · rintro ⟨e1, e2⟩
    rw [e1, e2] at h4
    simp at h4

/-- What a heavy operation leaves alone. -/
theorem Hvy.out {A : Ans} (H : Hvy P F dl o k τ A) : (∀ t, t ∉ k.ta → (attF (opT o.op) τ).s t = τ.s t ∧ (attF (opT o.op) τ).pd t = τ.pd t) ∧ ∀ r, r ∉ k.wr → hget A.h r = hget τ.h r := by
  obtain ⟨h1, h2, h3⟩ := att_out (opT o.op) τ
  obtain ⟨_, _, h4, h5⟩ := evV_out H.ev
  refine ⟨fun t ht => h2 t (fun hm => ht (H.ta t hm.1 hm.2)), fun r hr => ?_⟩
  have hn : r < τ.n ∨ A.n ≤ r := by
    rcases Nat.lt_or_ge r τ.n with h | h
    · exact .inl h
    · rcases Nat.lt_or_ge r A.n with h' | h'
      · exact absurd (H.nw r h h') hr
      · exact .inr h'
  rw [h5 r (fun hm => hr (H.wr r hm)) (by omega), h3 r (by omega)]
/-- A heavy operation where another slot was set. -/
theorem Hvy.frame {A : Ans} {d : Option Nat} {x : TV} {p : Option Reg} (hd : ∀ a, d = some a → a ∉ lkT dl o) : Hvy P F dl o k (putF d x p τ) A ↔ Hvy P F dl o k τ A := by
  cases d with
  | none => exact Iff.rfl
  | some a =>
    have ha : a ∉ lkT dl o := hd a rfl
    have ha' : a ∉ opT o.op := fun h => ha (opT_lk h)
    have e := att_put (x := x) (p := p) (opT o.op) τ ha'
    have hs : ∀ t ∈ lkT dl o, (putF (some a) x p τ).s t = τ.s t ∧ (putF (some a) x p τ).pd t = τ.pd t := fun t ht => put_s (by rintro h; simp only [Option.some.injEq] at h; subst h; exact ha ht)
    have hev : ∀ y ∈ o.op.operands, evf (attF (opT o.op) (putF (some a) x p τ)).s y = evf (attF (opT o.op) τ).s y := by
      rw [e]
      exact evf_congr fun t ht => (put_s (by rintro h; simp only [Option.some.injEq] at h; subst h; exact ha' ht)).1
    have e1 : (attF (opT o.op) (putF (some a) x p τ)).h = (attF (opT o.op) τ).h := by rw [e]; rfl
    have e2 : (attF (opT o.op) (putF (some a) x p τ)).n = (attF (opT o.op) τ).n := by rw [e]; rfl
    have e3 := evV_congr (P := P) (F := F) (h := (attF (opT o.op) τ).h) (n := (attF (opT o.op) τ).n) (K := (some : Ans → Option Ans)) hev
    have e4 := wrI_congr (op := o.op) hev
    constructor
    · rintro ⟨h1, h2, h3, h4, h5⟩
      rw [e1, e2, e3] at h2
      rw [e4] at h3
      exact ⟨h1.congr fun t ht => (hs t ht).1.symm, h2, h3, h4, fun t ht hp => h5 t ht (by rw [(hs t (opT_lk ht)).2]; exact hp)⟩
    · rintro ⟨h1, h2, h3, h4, h5⟩
      refine ⟨h1.congr fun t ht => (hs t ht).1, ?_, ?_, h4, fun t ht hp => h5 t ht (by rw [(hs t (opT_lk ht)).2] at hp; exact hp)⟩
      · rw [e1, e2, e3]; exact h2
      · rw [e4]; exact h3

theorem App.swap {o1 o2 : Oper} {k1 k2 : KI} {τ τ1 τ2 : DS} (hp : PairP dl o1 k1 o2 k2) (H1 : App P F m dl o1 k1 τ τ1) (H2 : App P F m dl o2 k2 τ1 τ2) : ∃ τ3, App P F m dl o2 k2 τ τ3 ∧ App P F m dl o1 k1 τ3 τ2 := by
  cases H1 with
  | @lig x1 p1 hv1 hd1 L1 =>
    cases H2 with
    | @lig x2 p2 hv2 hd2 L2 =>
      refine ⟨_, .lig hv2 hd2 (L2.frame (τ' := τ) (fun t ht => ?_) (fun r _ => by rw [put_h.1])), ?_⟩
      · obtain ⟨e1, e2⟩ := put_s (x := x1) (p := p1) (τ := τ) (t := t) (d := o1.dst) (fun e => hp.d1 t e ht)
        exact ⟨e1.symm, e2.symm⟩
      · have := App.lig (F := F) (τ := putF o2.dst x2 p2 τ) hv1 hd1 (L1.frame (fun t ht => put_s (fun e => hp.d2 t e ht)) (fun r _ => by rw [put_h.1]))
        rw [put_comm hp.dn] at this
        exact this
    | @hvy A hv2 hd2 V2 =>
      have V := (Hvy.frame hp.d1).1 V2
      refine ⟨_, .hvy hv2 hd2 V, ?_⟩
      obtain ⟨o1', o2'⟩ := V.out
      have := App.lig (F := F) (τ := putF o2.dst A.v none ⟨(attF (opT o2.op) τ).s, (attF (opT o2.op) τ).pd, A.h, A.n⟩) hv1 hd1 (L1.frame (fun t ht => by
        obtain ⟨e1, e2⟩ := put_s (x := A.v) (p := none) (τ := ⟨(attF (opT o2.op) τ).s, (attF (opT o2.op) τ).pd, A.h, A.n⟩) (t := t) (d := o2.dst) (fun e => hp.d2 t e ht)
        rw [e1, e2]
        exact o1' t (fun hm => hp.t2 t hm ht)) (fun r hr => by rw [put_h.1]; exact o2' r (hp.r1 r hr)))
      rw [put_comm hp.dn] at this
      have e : putF o2.dst A.v none ⟨(attF (opT o2.op) (putF o1.dst x1 p1 τ)).s, (attF (opT o2.op) (putF o1.dst x1 p1 τ)).pd, A.h, A.n⟩ = putF o2.dst A.v none (putF o1.dst x1 p1 ⟨(attF (opT o2.op) τ).s, (attF (opT o2.op) τ).pd, A.h, A.n⟩) := by
        congr 1
        cases hd : o1.dst with
        | none => rfl
        | some d =>
          have hdn : d ∉ opT o2.op := fun h => hp.d1 d hd (opT_lk h)
          rw [att_put _ _ hdn]; rfl
      rw [e]; exact this
  | @hvy A hv1 hd1 V1 =>
    cases H2 with
    | @hvy _ hv2 => exact absurd ⟨hv1, hv2⟩ hp.hh
    | @lig x2 p2 hv2 hd2 L2 =>
      obtain ⟨o1', o2'⟩ := V1.out
      have L : Lig P dl o2 k2 τ x2 p2 := L2.frame (fun t ht => by
        obtain ⟨e1, e2⟩ := put_s (x := A.v) (p := none) (τ := ⟨(attF (opT o1.op) τ).s, (attF (opT o1.op) τ).pd, A.h, A.n⟩) (t := t) (d := o1.dst) (fun e => hp.d1 t e ht)
        obtain ⟨e3, e4⟩ := o1' t (fun hm => hp.t1 t hm ht)
        rw [e1, e2]
        exact ⟨e3.symm, e4.symm⟩) (fun r hr => by rw [put_h.1]; exact (o2' r (hp.r2 r hr)).symm)
      refine ⟨_, .lig hv2 hd2 L, ?_⟩
      have := App.hvy (m := m) (τ := putF o2.dst x2 p2 τ) hv1 hd1 ((Hvy.frame hp.d2).2 V1)
      have e : putF o2.dst x2 p2 (putF o1.dst A.v none ⟨(attF (opT o1.op) τ).s, (attF (opT o1.op) τ).pd, A.h, A.n⟩) = putF o1.dst A.v none ⟨(attF (opT o1.op) (putF o2.dst x2 p2 τ)).s, (attF (opT o1.op) (putF o2.dst x2 p2 τ)).pd, A.h, A.n⟩ := by
        rw [put_comm (fun a e e' => hp.dn a e' e)]
        congr 1
        cases hd : o2.dst with
        | none => rfl
        | some d =>
          have hdn : d ∉ opT o1.op := fun h => hp.d2 d hd (opT_lk h)
          rw [att_put _ _ hdn]; rfl
      rw [e]; exact this
end
end Go.Tw
