/- A step of the typed logic of this claim is proved here: what an operation does to the data that slots and memory stand for. -/
import Derived.Test.YtmjacadeccoclaaT18h
set_option linter.all false
namespace Go.Tw
open Go Go.RowKit

structure SimD (c : Cx) (τ : DS) (a : Act) (w : World) : Prop where
  fr : Fr c w
  defers : a.defers = []
  size : a.tmps.size = c.m.n ∧ ∀ q ∈ c.m.st, a.tmps.getD q.1 undef = c.gv.getD q.2 undef
  ex : ∃ s, sget s = τ.s ∧ ∃ μ ks Lf, HR w c.imm c.ok μ τ.h τ.n (List.flatMap Lf ks) ∧ SR w c.imm c.ok μ τ.h τ.n s a.tmps ∧ VRl w c.imm c.ok μ τ.h τ.n c.gs c.gv ∧
    ∀ t reg, τ.pd t = some reg → t ∈ ks ∧ PR w c.imm c.ok reg (a.tmps.getD t undef) (Lf t)

section
variable {c : Cx} {σ : St} {a a' : Act} {w w' : World} {o : Oper} {τ : DS} {F : List Con} {k : KI} {dl : List (Option Tmp)}

/-- The surroundings of one operation: what is held aside may not be touched. -/
def fcx (c : Cx) (w : World) (hw : Fr c w) (D : List Nat) (hD : ∀ b ∈ D, b < w.heap.size) : Cx where
  P := c.P
  m := c.m
  w0 := w
  imm := c.imm
  ok := fun b => c.ok b ∧ b ∉ D
  immlt := fun b hb => Nat.lt_of_lt_of_le (c.immlt b hb) hw.size
  immok := fun b hb ho => c.immok b hb ho.1
  oknew := fun b hb => ⟨c.oknew b (Nat.le_trans hw.size hb), fun hd => by have := hD b hd; omega⟩
  gs := c.gs
  gv := c.gv
  gin := c.gin
theorem Fr.rfl' {c : Cx} (h : c.w0 = w) : Fr c w := by subst h; exact ⟨rfl, rfl, rfl, Nat.le_refl _, fun _ _ _ => rfl, fun _ _ h => h⟩
theorem Fr.up {hw : Fr c w} {D : List Nat} {hD : ∀ b ∈ D, b < w.heap.size} (h : Fr (fcx c w hw D hD) w') : Fr c w' :=
  ⟨h.os.trans hw.os, h.tape.trans hw.tape, h.output.trans hw.output, Nat.le_trans hw.size h.size, fun k hk ho => (h.block k (Nat.lt_of_lt_of_le hk hw.size) (fun h2 => ho h2.1)).trans (hw.block k hk ho), fun b m hr => h.row b m (hw.row b m hr)⟩
theorem Fr.step (h : Fr c w') : Step c.imm c.w0 w' := ⟨fun b hb => h.block b (c.immlt b hb) (c.immok b hb), h.row⟩

theorem sub_flat {f : Nat → List Nat} : ∀ {l m : List Nat}, l.Sublist m → (l.flatMap f).Sublist (m.flatMap f)
  | _, _, .slnil => List.Sublist.refl _
  | _, _, .cons x h => by simp only [List.flatMap_cons]; exact (sub_flat h).trans (List.sublist_append_right _ _)
  | _, _, .cons_cons x h => by simp only [List.flatMap_cons]; exact List.Sublist.append (List.Sublist.refl _) (sub_flat h)
theorem flat_mem {Lf : Nat → List Nat} {ks : List Nat} {t b : Nat} (ht : t ∈ ks) (hb : b ∈ Lf t) : b ∈ ks.flatMap Lf := List.mem_flatMap.2 ⟨t, ht, hb⟩
theorem flat_split {Lf : Nat → List Nat} {t : Nat} : ∀ {ks : List Nat}, t ∈ ks → ∃ rest, (ks.flatMap Lf).Perm (Lf t ++ rest) ∧ ((ks.filter (fun x => decide (x ≠ t))).flatMap Lf).Sublist rest
  | x :: ks, h => by
    by_cases hx : x = t
    · subst hx
      refine ⟨ks.flatMap Lf, by simp, ?_⟩
      simp only [List.filter_cons, ne_eq, not_true_eq_false, decide_false, Bool.false_eq_true, ↓reduceIte]
      exact sub_flat List.filter_sublist
    · have hm : t ∈ ks := by simpa [Ne.symm hx] using h
      obtain ⟨rest, h1, h2⟩ := flat_split (Lf := Lf) hm
      refine ⟨Lf x ++ rest, ?_, ?_⟩
      · simp only [List.flatMap_cons]
        refine (List.Perm.append_left _ h1).trans ?_
        rw [← List.append_assoc, ← List.append_assoc]
        exact List.Perm.append_right _ List.perm_append_comm
      · simp only [List.filter_cons, ne_eq, hx, not_false_eq_true, decide_true, ↓reduceIte, List.flatMap_cons]
        exact List.Sublist.append (List.Sublist.refl _) h2

/-- An operation's run within a state with things held aside. -/
theorem SimD.run (H : SimD c τ a w) : ∃ (c' : Cx) (s : List (Nat × TV)) (D : List Nat) (ks : List Nat) (Lf : Nat → List Nat), c'.P = c.P ∧ c'.m = c.m ∧ c'.imm = c.imm ∧ sget s = τ.s ∧ D = List.flatMap Lf ks ∧ D.Nodup ∧ (∀ b, c'.ok b → c.ok b ∧ b ∉ D) ∧ Sim c' ⟨s, τ.h, τ.n⟩ a w ∧
    (∀ w', Fr c' w' → Fr c w') ∧ c'.gs = c.gs ∧ c'.gv = c.gv ∧
    (∀ (w' : World) (a' : Act) (pd' : Nat → Option Reg), Fr c' w' → (∀ t reg, pd' t = some reg → τ.pd t = some reg ∧ a'.tmps.getD t undef = a.tmps.getD t undef) → ∀ t reg, pd' t = some reg → t ∈ ks ∧ PR w' c.imm c.ok reg (a'.tmps.getD t undef) (Lf t)) := by
  obtain ⟨h1, h2, h3, s, hs, μ, ks, Lf, h4, h5, h6, h7⟩ := H
  have hnd := h4.nodup
  -- what has no owner is left out
  have hD' : ∃ ks', (∀ t reg, τ.pd t = some reg → t ∈ ks') ∧ (List.flatMap Lf ks').Sublist (List.flatMap Lf ks) ∧ ∀ b ∈ List.flatMap Lf ks', b < w.heap.size := by
    refine ⟨ks.filter (fun t => (τ.pd t).isSome), fun t reg ht => List.mem_filter.2 ⟨(h7 t reg ht).1, by rw [ht]; rfl⟩, sub_flat List.filter_sublist, fun b hb => ?_⟩
    obtain ⟨t, ht, hb⟩ := List.mem_flatMap.1 hb
    have := (List.mem_filter.1 ht).2
    cases hp : τ.pd t with
    | none => rw [hp] at this; simp at this
    | some reg => exact ((h7 t reg hp).2.blocks b hb).2
  obtain ⟨ks', hk', hsub, hlt⟩ := hD'
  refine ⟨fcx c w h1 _ hlt, s, _, ks', Lf, rfl, rfl, rfl, hs, rfl, hnd.sublist hsub, fun b hb => hb, ⟨Fr.rfl' rfl, h2, h3, μ, (h4.dsub hsub).frame_out, fun t => VR.reok _ _ (h5 t), VRl.reok _ _ h6⟩, fun w' hf => Fr.up (hw := h1) (D := _) (hD := hlt) hf, rfl, rfl, fun w' a' pd' hf hpd t reg ht => ?_⟩
  obtain ⟨e1, e2⟩ := hpd t reg ht
  refine ⟨hk' t reg e1, ?_⟩
  rw [e2]
  have := (h7 t reg e1).2
  refine this.mono (hf.step (c := fcx c w h1 _ hlt)) (fun b hb => ?_)
  exact hf.block b (this.blocks b hb).2 (fun h => h.2 (flat_mem (hk' t reg e1) hb))

theorem SimD.back {c' : Cx} {s s' : List (Nat × TV)} {D ks : List Nat} {Lf : Nat → List Nat} {h' : Heap} {n' : Nat} {pd' : Nat → Option Reg} (hi : c'.imm = c.imm) (hm : c'.m = c.m) (hD : D = List.flatMap Lf ks) (hnd : D.Nodup) (hok : ∀ b, c'.ok b → c.ok b ∧ b ∉ D) (hup : ∀ w', Fr c' w' → Fr c w') (hgs : c'.gs = c.gs) (hgv : c'.gv = c.gv)
    (hS : Sim c' ⟨s', h', n'⟩ a' w') (hpd : ∀ t reg, pd' t = some reg → t ∈ ks ∧ PR w' c.imm c.ok reg (a'.tmps.getD t undef) (Lf t)) : SimD c ⟨sget s', pd', h', n'⟩ a' w' := by
  obtain ⟨h1, h2, h3, μ, h4, h5, h6⟩ := hS
  rw [hi] at h4 h5 h6
  refine ⟨hup _ h1, h2, by rw [← hm, ← hgv]; exact h3, s', rfl, μ, ks, Lf, ?_, fun t => VR.reok _ _ (h5 t), by rw [← hgs, ← hgv]; exact VRl.reok _ _ h6, hpd⟩
  have := h4.frame_in (ok := c.ok) (D := D) hok (by simp) hnd
  rw [← hD]; simpa using this

/-- Things get their numbers. -/
theorem SimD.att : ∀ (l : List Nat) {τ : DS}, SimD c τ a w → SimD c (attF l τ) a w
  | [], τ, H => H
  | t :: ts, τ, H => by
    simp only [attF]
    cases hp : τ.pd t with
    | none => exact SimD.att ts H
    | some reg =>
      refine SimD.att ts ?_
      obtain ⟨h1, h2, h3, s, hs, μ, ks, Lf, h4, h5, h6, h7⟩ := H
      obtain ⟨hk, hP⟩ := h7 t reg hp
      obtain ⟨rest, g1, g2⟩ := flat_split (Lf := Lf) hk
      have H1 := (h4.dperm g1).dsub (List.Sublist.append (List.Sublist.refl (Lf t)) g2)
      obtain ⟨m, H2, H3⟩ := hP.attach H1
      have kp : Kept (fun _ => True) c.imm c.imm c.ok c.ok w w μ (muP μ τ.n m) τ.h ((τ.n, reg) :: τ.h) τ.n (τ.n + 1) := Kept.cons (Kept.id (fun _ h => h) (fun _ h => h) (Nat.le_refl _))
      refine ⟨h1, h2, h3, (t, ptrOf reg τ.n) :: s, by rw [sget_upd, hs], muP μ τ.n m, ks.filter (fun x => decide (x ≠ t)), Lf, H2, fun u => ?_, vrl_gs kp c h6, fun u reg' hu => ?_⟩
      · rw [sget_cons]
        split
        · subst_vars; exact H3
        · exact SR.mono kp h5 u
      · have hne : u ≠ t := by
          rintro rfl
          simp only [upd_eq] at hu; simp at hu
        simp only [upd_ne hne] at hu
        obtain ⟨q1, q2⟩ := h7 u reg' hu
        exact ⟨List.mem_filter.2 ⟨q1, by simpa using hne⟩, q2⟩

theorem sput_ok {m : Fm} {dst : Option Nat} (h : dstOk m dst = true) (x : TV) (s : List (Nat × TV)) : ∃ s', sput m dst x s = some s' ∧ ∀ pd h' n', (⟨sget s', (putF dst x none ⟨sget s, pd, h', n'⟩).pd, h', n'⟩ : DS) = putF dst x none ⟨sget s, pd, h', n'⟩ := by
  cases dst with
  | none => exact ⟨s, rfl, fun _ _ _ => rfl⟩
  | some d =>
    simp only [dstOk] at h
    refine ⟨(d, x) :: s, by simp only [sput, h, cond_true], fun pd h' n' => ?_⟩
    simp only [putF, sget_upd]

theorem put_other {dst : Option Tmp} {v : Value} {t : Nat} (h : dst ≠ some t) : (a.put dst v).tmps.getD t undef = a.tmps.getD t undef := by
  cases dst with
  | none => rfl
  | some d =>
    have hne : t ≠ d := by rintro rfl; exact h rfl
    simp [Act.put, Array.getD_eq_getD_getElem?, Array.getElem?_setIfInBounds, Ne.symm hne]
theorem put_pd {dst : Option Tmp} {x : TV} {τ : DS} {t : Nat} {reg : Reg} (h : (putF dst x none τ).pd t = some reg) : dst ≠ some t ∧ τ.pd t = some reg := by
  cases dst with
  | none => exact ⟨by simp, h⟩
  | some d =>
    simp only [putF] at h
    by_cases e : t = d
    · subst e; simp [upd] at h
    · exact ⟨by simpa using Ne.symm e, by rwa [upd_ne e] at h⟩

/-- The frame of an operation's end. -/
def Agr (dst : Option Tmp) (a a' : Act) : Prop := ∀ t, dst ≠ some t → a'.tmps.getD t undef = a.tmps.getD t undef
theorem wp_agr {P : Program} {K' : Act → World → Prop} {Q : Exit → Act → World → Prop} (h : o.wp P a w (fun a' w' => Agr o.dst a a' → K' a' w') Q) : o.wp P a w K' Q := by
  have hp : ∀ v, Agr o.dst a (a.put o.dst v) := fun v t ht => put_other ht
  unfold Oper.wp at h ⊢
  generalize (execOp a.eval o).run P w = r at h ⊢
  cases r with
  | ok nx w' =>
    cases nx <;> simp only [Oper.upon] at h ⊢
    case value v => exact h (hp v)
    case skip => exact h (hp _)
    case enter f args =>
      refine h.mono fun e w'' he => ?_
      cases e with
      | returned v => exact he (hp v)
      | _ => exact he
    case defer d =>
      refine h fun t ht => ?_
      have := put_other (a := { a with defers := d :: a.defers }) (v := undef) ht
      exact this
    case row r args => exact Rows.mono h fun v w'' he => he (hp v)
  | halt x w' => cases x <;> simp only [Oper.upon] at h ⊢ <;> exact h

theorem wnt_ok (H : SimD c τ a w) {ops : Array Oper} (hd : ops.toList.map (·.dst) = dl) (hw : Wnt dl o τ.s) : Region.wanted o (yielded ops a.tmps) = true := by
  rcases hw with h | ⟨j, want, t, h1, h2, h3⟩
  · simp [Region.wanted, h]
  · obtain ⟨c', s, D, ks, Lf, _, _, _, hs, _, _, _, hS, _⟩ := H.run
    have := (wanted_gv (σ := ⟨s, τ.h, τ.n⟩) hS hd h2 h1 (by rw [hs]; exact h3)).1
    exact this
theorem unw_ok (H : SimD c τ a w) {ops : Array Oper} (hd : ops.toList.map (·.dst) = dl) (hw : Unw dl o τ.s) : Region.wanted o (yielded ops a.tmps) = false := by
  obtain ⟨j, want, t, h1, h2, h3⟩ := hw
  obtain ⟨c', s, D, ks, Lf, _, _, _, hs, _, _, _, hS, _⟩ := H.run
  rcases h3 with h3 | h3
  · exact (wanted_gv (σ := ⟨s, τ.h, τ.n⟩) hS hd h2 h1 (by rw [hs]; exact h3)).1
  · exact wanted_un (σ := ⟨s, τ.h, τ.n⟩) hS hd h2 h1 (by rw [hs]; exact h3)

theorem evV_evOp {N : Inl} {P : Program} {m : Fm} {s : List (Nat × TV)} {h : Heap} {n : Nat} {A : Ans} (H : evV P F o (ev s) h n some = some A) {s' : List (Nat × TV)} (hput : sput m o.dst A.v s = some s') : evOp P m F N o s h n some = some (⟨s', A.h, A.n⟩ : St) := by
  have plain : ((ex P o.op (ev s) h n).bind fun a => bif a.k.isNone && a.c then some a else none) = some A → ((ex P o.op (ev s) h n).bind fun A => (sput m o.dst A.v (match A.k with | some r => killS r s | none => s)).bind fun s => bif A.c then some (⟨s, A.h, A.n⟩ : St) else none) = some ⟨s', A.h, A.n⟩ := by
    intro H
    simp only [Option.bind_eq_some_iff] at H ⊢
    obtain ⟨A', h1, H⟩ := H
    obtain ⟨hb, H⟩ := cond_some.1 H
    simp only [Option.some.injEq] at H; subst H
    simp only [Bool.and_eq_true, Option.isNone_iff_eq_none] at hb
    refine ⟨A', h1, s', ?_, by rw [hb.2]; rfl⟩
    rw [hb.1]; exact hput
  unfold evV at H
  unfold evOp
  split at H
  · rename_i c hc
    cases hi : isCall o.op with
    | false =>
      rw [hi] at H
      have hi' : isCall (.call c) = false := by rw [← hc]; exact hi
      have hcl : isClear (.call c) = none := by
        cases hq : isClear (.call c) with
        | none => rfl
        | some c2 =>
          obtain ⟨e1, e2⟩ := isClear_some hq
          cases e1
          rw [hc] at H
          simp [ex, e2] at H
      simp only [hc, hi', cond_false, hcl]
      rw [← hc]
      exact plain H
    | true =>
      rw [hi] at H
      have hi' : isCall (.call c) = true := by rw [← hc]; exact hi
      simp only [hc, hi', cond_true, Option.bind_eq_some_iff] at H ⊢
      obtain ⟨q, h1, cn, h2, H⟩ := H
      cases h3 : (cn.ps.all (fun x => !x.2) && (cn.rm.isOwnF || flatA q.2)) with
      | true =>
        rw [h3] at H
        simp only [cond_true, Option.bind_eq_some_iff, Option.some.injEq] at H
        obtain ⟨x, h4, y, h5, rfl⟩ := H
        simp only [Bool.and_eq_true] at h3
        refine ⟨q, h1, ?_⟩
        rw [h2]
        simp only [h3.1, h3.2, cond_true, Option.bind_eq_some_iff]
        exact ⟨x, h4, y, h5, s', hput, rfl⟩
      | false =>
        rw [h3] at H
        simp only [cond_false] at H
        split at H
        · rename_i r0 hr0
          obtain ⟨h6, H⟩ := cond_some.1 H
          simp only [Option.bind_eq_some_iff, Option.some.injEq] at H
          obtain ⟨x, h4, y, h5, g, h7, rfl⟩ := H
          simp only [Bool.and_eq_true, Bool.not_eq_true'] at h6
          refine ⟨q, h1, ?_⟩
          rw [h2]
          simp only [h6.2, cond_false, hr0, h6.1.1.1, h6.1.1.2, h6.1.2, Bool.not_false, Bool.and_true, cond_true, Option.bind_eq_some_iff]
          exact ⟨x, h4, y, h5, g, h7, s', hput, rfl⟩
        · simp at H
  · exact plain H

theorem App.sound {P : Program} {m : Fm} (hP : c.P = P) (hm : c.m = m) (hF : ∀ cn ∈ F, ConOk P cn) {ops : Array Oper} (hd : ops.toList.map (·.dst) = dl) {τ' : DS} (H : App P F m dl o k τ τ') (hs : SimD c τ a w) {K' : Act → World → Prop} {Q : Exit → Act → World → Prop}
    (hK : ∀ a' w', SimD c τ' a' w' → K' a' w') : if Region.wanted o (yielded ops a.tmps) then o.wp P a w K' Q ∨ (o.asks P a w ∧ LetsOut Q) else K' (a.put o.dst undef) w := by
  subst hP hm
  have hput : ∀ {x : TV} {τ : DS} {a' : Act}, Agr o.dst a a' → ∀ t reg, (putF o.dst x none τ).pd t = some reg → τ.pd t = some reg ∧ a'.tmps.getD t undef = a.tmps.getD t undef := fun ha t reg ht => ⟨(put_pd ht).2, ha t (put_pd ht).1⟩
  cases H with
  | @lig x p hv hdst L =>
    cases L with
    | skip hu =>
      rw [unw_ok hs hd hu]
      simp only [Bool.false_eq_true, ↓reduceIte]
      refine hK _ _ ?_
      obtain ⟨c', s, D, ks, Lf, e1, e2, e3, e4, e5, e6, e7, hS, e8, e9, e10, e11⟩ := hs.run
      obtain ⟨s', hp, hq⟩ := sput_ok (e2 ▸ hdst) (.tup []) s
      have hS0 := hS
      obtain ⟨q1, q2, q3, μ, q4, q5, q6⟩ := hS
      have hS' := Sim.skip' q1 q2 q3 q4 q5 q6 hp
      have := SimD.back (c := c) (pd' := (putF o.dst (.tup []) none ⟨sget s, τ.pd, τ.h, τ.n⟩).pd) (s := s) e3 e2 e5 e6 e7 e8 e9 e10 hS' (e11 w _ _ q1 (hput (fun t ht => put_other ht)))
      simp only at this
      rw [hq] at this
      rw [show τ = ⟨sget s, τ.pd, τ.h, τ.n⟩ by rw [e4]]
      exact this
    | alc reg hw hpd hal hsome =>
      rw [wnt_ok hs hd hw]
      simp only [↓reduceIte]
      refine .inl ?_
      obtain ⟨c', s, D, ks, Lf, e1, e2, e3, e4, e5, e6, e7, hS, e8, e9, e10, e11⟩ := hs.run
      rw [← e4, ← ev_evf] at hal
      cases hdd : o.dst with
      | none => rw [hdd] at hsome; simp at hsome
      | some d =>
      have hp : sput c'.m o.dst (ptrOf reg τ.n) s = some ((d, ptrOf reg τ.n) :: s) := by
        rw [e2, hdd]
        rw [hdd] at hdst
        simp only [dstOk] at hdst
        simp only [sput, hdst, cond_true]
      obtain ⟨nx, w', hr, _, hres⟩ := ex_ok (σ := ⟨s, τ.h, τ.n⟩) hS o (by rw [e1]; exact alc_ex hal) rfl hp
      rw [e1] at hr
      have hfin : ∀ v, Sim c' ⟨(d, ptrOf reg τ.n) :: s, (τ.n, reg) :: τ.h, τ.n + 1⟩ (a.put o.dst v) w' → SimD c (putF o.dst .undef (some reg) τ) (a.put o.dst v) w' := by
        intro v hS2
        obtain ⟨_, _, _, μ0, p4, p5, p6⟩ := id hS
        obtain ⟨q1, q2, q3, μ, q4, q5, q6⟩ := hS2
        have hn := p4.nomore
        obtain ⟨L, r1, r2⟩ := HR.pop p4 q4
        rw [e3] at r1 r2
        have hPR : PR w' c.imm c'.ok reg ((a.put o.dst v).tmps.getD d undef) L := by
          have := q5 d
          rw [sget_cons, if_pos rfl, e3] at this
          exact PR.of (alcS_flat hal) r1 this
        have hLD : ∀ b ∈ L, b ∉ D := fun b hb => (e7 b (hPR.blocks b hb).1).2
        have H1 := r2.frame_in (ok := c.ok) (D := D) e7 hLD e6
        have hpR' : PR w' c.imm c.ok reg ((a.put o.dst v).tmps.getD d undef) L := by
          cases reg with
          | row fr t l =>
            obtain ⟨m, g1, g2⟩ := hPR
            exact ⟨m, g1.reok (fun b hb => (e7 b (g1.blocks b hb).1).1), g2⟩
          | box cs =>
            obtain ⟨b, oo, us, g1, g2, g3, g4, g5, g6⟩ := hPR
            refine ⟨b, oo, us, g1, g2, (e7 b g3).1, g4, ?_, g6⟩
            exact CT.of_vrl (alcS_flat hal _ rfl) (VRl.reok (μ := fun _ => (⟨0, 0, false⟩ : Mu)) (h := []) (n := 0) _ _ g5.vrl)
          | mp k l =>
            obtain ⟨b, g1, g2, g3, g4⟩ := hPR
            exact ⟨b, g1, g2, (e7 b g3).1, g4⟩
        have hsl : ∀ t, t ≠ d → VR w' c.imm c.ok μ τ.h τ.n (sget s t) ((a.put o.dst v).tmps.getD t undef) := by
          intro t ht
          have := q5 t
          rw [sget_cons, if_neg ht, e3] at this
          exact VR.reok _ _ (VR.low hn _ _ _ (p5 t) this)
        refine ⟨e8 _ q1, q2, by rw [← e2, ← e10]; exact q3, (d, .undef) :: s, by rw [hdd, sget_upd, e4]; rfl, μ, d :: ks.filter (fun x => decide (x ≠ d)), upd Lf d L, ?_, fun t => ?_, ?_, fun t reg' ht => ?_⟩
        · have hh : (putF o.dst .undef (some reg) τ).h = τ.h ∧ (putF o.dst .undef (some reg) τ).n = τ.n := put_h
          rw [hh.1, hh.2]
          refine H1.dsub ?_
          rw [List.flatMap_cons, upd_eq, e5]
          refine List.Sublist.append (List.Sublist.refl _) ?_
          have : (ks.filter (fun x => decide (x ≠ d))).flatMap (upd Lf d L) = (ks.filter (fun x => decide (x ≠ d))).flatMap Lf := fm_congr fun x hx => upd_ne (by simpa using (List.mem_filter.1 hx).2)
          rw [this]
          exact sub_flat List.filter_sublist
        · have hh : (putF o.dst .undef (some reg) τ).h = τ.h ∧ (putF o.dst .undef (some reg) τ).n = τ.n := put_h
          rw [hh.1, hh.2, sget_cons]
          split
          · simp [VR]
          · rename_i ht; exact hsl t ht
        · have hh : (putF o.dst .undef (some reg) τ).h = τ.h ∧ (putF o.dst .undef (some reg) τ).n = τ.n := put_h
          rw [hh.1, hh.2, ← e9, ← e10]
          rw [e3] at q6
          exact VRl.reok _ _ (VRl.low hn _ _ _ p6 q6)
        · rw [hdd] at ht
          simp only [putF] at ht
          by_cases htd : t = d
          · subst htd
            rw [upd_eq] at ht
            simp only [Option.some.injEq] at ht; subst ht
            exact ⟨by simp, by rw [upd_eq]; exact hpR'⟩
          · rw [upd_ne htd] at ht
            have := e11 w' (a.put o.dst v) (fun u => if u = d then none else τ.pd u) q1 (fun u reg'' hu => by
              by_cases hud : u = d
              · simp [hud] at hu
              · simp only [hud, ↓reduceIte] at hu
                exact ⟨hu, put_other (dst := o.dst) (by rw [hdd]; simpa using Ne.symm hud)⟩) t reg' (by simpa [htd] using ht)
            exact ⟨by simp [this.1, htd], by rw [upd_ne htd]; exact this.2⟩
      unfold Oper.wp
      rw [hr]
      rcases hres with ⟨v, rfl, hS2⟩ | ⟨rfl, hS2⟩
      · exact hK _ _ (hfin v hS2)
      · exact hK _ _ (hfin _ hS2)
    | free A hw hpd hst hex hc hrd =>
      rw [wnt_ok hs hd hw]
      simp only [↓reduceIte]
      refine .inl ?_
      obtain ⟨c', s, D, ks, Lf, e1, e2, e3, e4, e5, e6, e7, hS, e8, e9, e10, e11⟩ := hs.run
      rw [← e4, ← ev_evf] at hex
      obtain ⟨i1, i2, i3, _⟩ := HI (h' := τ.h) (n' := τ.n) hst hex (fun _ _ => rfl)
      obtain ⟨s', hp, hq⟩ := sput_ok (e2 ▸ hdst) A.v s
      obtain ⟨nx, w', hr, _, hres⟩ := ex_ok (σ := ⟨s, τ.h, τ.n⟩) hS o (by rw [e1]; exact hex) hc (by unfold Go.Tw.ks; rw [i3]; exact hp)
      rw [e1] at hr
      have hfin : ∀ v, Sim c' ⟨s', A.h, A.n⟩ (a.put o.dst v) w' → SimD c (putF o.dst A.v none τ) (a.put o.dst v) w' := by
        intro v hS2
        rw [i1, i2] at hS2
        have := SimD.back (c := c) (pd' := (putF o.dst A.v none ⟨sget s, τ.pd, τ.h, τ.n⟩).pd) (s := s) e3 e2 e5 e6 e7 e8 e9 e10 hS2 (e11 w' _ _ hS2.fr (hput (fun t ht => put_other ht)))
        rw [hq] at this
        rw [show τ = ⟨sget s, τ.pd, τ.h, τ.n⟩ by rw [e4]]
        exact this
      unfold Oper.wp
      rw [hr]
      rcases hres with ⟨v, rfl, hS2⟩ | ⟨rfl, hS2⟩
      · exact hK _ _ (hfin v hS2)
      · exact hK _ _ (hfin _ hS2)
  | @hvy A hv hdst V =>
    rw [wnt_ok hs hd V.wnt]
    simp only [↓reduceIte]
    refine .inl (wp_agr ?_)
    have hs1 := SimD.att (opT o.op) hs
    obtain ⟨c', s, D, ks, Lf, e1, e2, e3, e4, e5, e6, e7, hS, e8, e9, e10, e11⟩ := hs1.run
    have hev := V.ev
    rw [← e4, ← ev_evf] at hev
    obtain ⟨s', hp, hq⟩ := sput_ok (e2 ▸ hdst) A.v s
    have hevo := evV_evOp (N := fun _ _ _ _ _ _ => none) (m := c'.m) hev hp
    rw [← e1] at hevo
    have hF' : ∀ cn ∈ F, ConOk c'.P cn := by rw [e1]; exact hF
    have := evOp_ok (N := fun _ _ _ _ _ _ => none) (fun _ _ _ _ _ _ _ _ _ h => by cases h) hF' (K := some) hS hevo (K' := fun a' w' => Agr o.dst a a' → K' a' w') (Q := Q) fun σ' a' w' hσ hS2 ha => by
      simp only [Option.some.injEq] at hσ; subst hσ
      refine hK _ _ ?_
      have := SimD.back (c := c) (pd' := (putF o.dst A.v none ⟨sget s, (attF (opT o.op) τ).pd, A.h, A.n⟩).pd) (s := s) e3 e2 e5 e6 e7 e8 e9 e10 hS2 (e11 w' _ _ hS2.fr (hput ha))
      rw [hq] at this
      rw [← e4]
      exact this
    rw [e1] at this
    exact this
end
end Go.Tw
