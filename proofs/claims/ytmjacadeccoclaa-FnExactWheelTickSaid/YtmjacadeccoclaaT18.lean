/- A step of the typed logic of this claim is proved here: what an operation does to the data that slots and memory stand for. -/
import Derived.Test.YtmjacadeccoclaaT17c
import Derived.Deep.Quiet
set_option linter.all false
namespace Go.Tw
open Go Go.RowKit

theorem cget_mem : ∀ {F : List Con} {f : FuncId} {xs : List TV} {cn : Con}, cget F f xs = some cn → cn ∈ F ∧ cn.f = f
  | [], f, xs, cn, h => by simp [cget] at h
  | c :: cs, f, xs, cn, h => by
    simp only [cget] at h
    cases hb : Nat.beq f c.f && fitB c.ps xs with
    | true =>
      simp only [hb, cond_true, Option.some.injEq] at h; subst h
      simp only [Bool.and_eq_true] at hb
      exact ⟨by simp, (Nat.eq_of_beq_eq_true hb.1).symm⟩
    | false => simp only [hb, cond_false] at h; obtain ⟨h1, h2⟩ := cget_mem h; exact ⟨by simp [h1], h2⟩
theorem blt_iff {a b : Nat} : Nat.blt a b = true ↔ a < b := by simp [Nat.blt_eq]

section
variable {c : Cx} {σ : St} {a : Act} {w w' : World} {o : Oper} {ρ : Type} {F : List Con} {r : ρ}

theorem wp_of_ok {K' : Act → World → Prop} {Q : Exit → Act → World → Prop} {σ' : St} (h : OpOk c o a w σ') (hK : ∀ a' w', Sim c σ' a' w' → K' a' w') : o.wp c.P a w K' Q := by
  obtain ⟨nx, w', hr, _, h⟩ := h
  unfold Oper.wp
  rw [hr]
  rcases h with ⟨v, rfl, hs⟩ | ⟨rfl, hs⟩
  · exact hK _ _ hs
  · exact hK _ _ hs

theorem FrL.below {w w' : World} (h : FrL [] w w') : Below w.heap.size w w' := ⟨h.os, h.tape, h.output, h.size, fun k hk => h.block k hk (by simp)⟩
theorem okL_nil {w : World} {b : Nat} (h : okL [] w b) : w.heap.size ≤ b := by rcases h with h | h; simp at h; exact h

theorem TOC.reok {imm imm' ok ok' : Nat → Prop} : ∀ {cs : List TV} {us : List Value} {L : List Nat}, (∀ b ∈ L, ok' b) → TOC w imm ok true cs us L → TOC w imm' ok' true cs us L
  | [], _, _, _, H => H
  | c :: cs, us, L, hL, H => by
    obtain ⟨u, us', L1, L2, rfl, rfl, k1, k2⟩ := H
    exact ⟨u, us', L1, L2, rfl, rfl, k1.reok (fun b hb => hL b (by simp [hb])), TOC.reok (fun b hb => hL b (by simp [hb])) k2⟩
theorem ResO.reok {imm imm' ok ok' : Nat → Prop} : ∀ {ts : List Ty} {x : den (prodT ts)} {vs : List Value} {L : List Nat}, (∀ b ∈ L, ok' b) → ResO w imm ok true ts x vs L → ResO w imm' ok' true ts x vs L
  | [], _, _, _, _, H => H
  | t :: ts, x, vs, L, hL, H => by
    obtain ⟨us, vs', L1, L2, rfl, rfl, k1, k2⟩ := H
    exact ⟨us, vs', L1, L2, rfl, rfl, k1.reok (fun b hb => hL b (by simp [hb])), ResO.reok (fun b hb => hL b (by simp [hb])) k2⟩
theorem MutR.blocks {imm ok : Nat → Prop} : ∀ {ps : List (Ty × Bool)} {y : den (prodT (mutT ps))} {vs : List Value} {L : List Nat}, MutR w imm ok ps y vs L → ∀ b ∈ L, ok b
  | [], _, _, _, H, b, hb => by rw [H] at hb; simp at hb
  | (t, false) :: ps, y, vs, L, H, b, hb => MutR.blocks (ps := ps) (y := y) H b hb
  | (t, true) :: ps, y, vs, L, H, b, hb => by
    obtain ⟨us, L1, L2, _, rfl, k1, k2⟩ := H
    rcases List.mem_append.1 hb with h | h
    · exact (TOC.blocks k1 b h).1
    · exact MutR.blocks k2 b h
theorem FrL.fr {c : Cx} {Lm : List Nat} (h : FrL Lm w w') (hf : Fr c w) (hok : ∀ b ∈ Lm, c.ok b) : Fr c w' :=
  ⟨h.os.trans hf.os, h.tape.trans hf.tape, h.output.trans hf.output, Nat.le_trans hf.size h.size, fun k hk ho => (h.block k (Nat.lt_of_lt_of_le hk hf.size) (fun hm => ho (hok k hm))).trans (hf.block k hk ho), fun b m hr => h.row b m (hf.row b m hr)⟩
theorem HR.moved {imm ok : Nat → Prop} {μ : Nat → Mu} {h : Heap} {n : Nat} {D D' : List Nat} (H : HR w imm ok μ h n D) (hs : Step imm w w') (hw : ∀ k, k ∉ D → k < w.heap.size → w'.heap[k]? = w.heap[k]?) (hn : D'.Nodup) (hD : ∀ b ∈ D', b ∈ D ∨ w.heap.size ≤ b) :
    HR w' imm ok μ h n D' ∧ Kept (fun _ => True) imm imm ok ok w w' μ μ h h n n := by
  obtain ⟨own, H, h1, h2⟩ := H
  have key : ∀ r x L, RR w imm ok μ h n r x L → (∀ b ∈ L, own b = some r) → ∀ b ∈ L, w'.heap[b]? = w.heap[b]? := by
    intro r x L hR ho b hb
    refine hw b (fun hd => ?_) (RR.blocks hR b hb).2
    have := h2 b hd; rw [ho b hb] at this; simp at this
  have hk : Kept (fun _ => True) imm imm ok ok w w' μ μ h h n n := by
    refine ⟨hs, fun _ h => h, fun _ h => h, fun _ _ => rfl, Nat.le_refl _, fun _ _ => Fit.refl _, ?_⟩
    intro r fr t l _ _ hg _ hbk
    obtain ⟨_, L, hR, _, ho⟩ := H r _ hg
    exact key r _ L hR ho _ (hR.blk hbk)
  refine ⟨⟨fun b => if w.heap.size ≤ b then none else own b, fun r x hx => ?_, hn, fun b hb => ?_⟩, hk⟩
  · obtain ⟨ha, L, hR, hn, ho⟩ := H r x hx
    refine ⟨ha, L, RR.mono hk ha (innOkR_true _) (key r x L hR ho) hR, hn, fun b hb => ?_⟩
    have := (RR.blocks hR b hb).2
    show (if w.heap.size ≤ b then none else own b) = some r
    rw [if_neg (by omega)]; exact ho b hb
  · show (if w.heap.size ≤ b then none else own b) = none
    split
    · rfl
    · rcases hD b hb with h3 | h3
      · exact h2 b h3
      · omega
/-- A call that takes what it writes through. -/
theorem callM_ok {cn : Con} (hcon : ConOk c.P cn) {s s' : List (Nat × TV)} {h : Heap} {n : Nat} (hs : Sim c ⟨s, h, n⟩ a w) {μ : Nat → Mu} (hH : HR w c.imm c.ok μ h n []) (hl : SR w c.imm c.ok μ h n s a.tmps) (hgs : VRl w c.imm c.ok μ h n c.gs c.gv)
    {xs : List TV} {vals : List Value} (hall : VRl w c.imm c.ok μ h n xs vals) (hown : cn.rm.isMv = true) {r : Nat} {x : den (prodT (cn.ps.map (·.1)))} {y} (hr : wReg cn.ps xs = some r) (hrow : isRow (hget h r) = true)
    (hx : argW h (hdel (killH r h) r) cn.ps xs = some x) (hy : cn.m x = some y) (hput : sput c.m o.dst (retT (opnL true cn.rs y.1 (hdel (killH r h) r) n).1) (killS r s) = some s') :
    Calls c.P cn.f vals.toArray w fun e w' => ∃ rv, e = .returned rv ∧ Sim c ⟨s', (opnL true cn.rs y.1 (hdel (killH r h) r) n).2.1, (opnL true cn.rs y.1 (hdel (killH r h) r) n).2.2⟩ (a.put o.dst rv) w' := by
  have hlt := hs.lt
  have hnew := hs.new
  have hio := c.immok
  have HK := HR.kill r hH
  cases hg : hget h r with
  | none => rw [hg] at hrow; cases hrow
  | some reg0 =>
    cases reg0 with
    | box cs => rw [hg] at hrow; cases hrow
    | mp k l => rw [hg] at hrow; cases hrow
    | row f0 t0 l0 =>
      have hgk : hget (killH r h) r = some (.row f0 t0 l0) := by rw [hget_killH, hg]; rfl
      obtain ⟨L, hR, hn, _, hoth, _⟩ := HR.rewrite HK hgk
      obtain ⟨L0, hR0, HD0⟩ := HR.detach HK hgk
      have hsub : ∀ r' x, hget (hdel (killH r h) r) r' = some x → hget (killH r h) r' = some x := fun r' x hx => hsub_hdel hx
      have hn0 : L0.Nodup := by have := HD0.nodup; simpa using this
      have HI : ∀ r' x, hget (hdel (killH r h) r) r' = some x → ∃ L1, RR w c.imm c.ok μ (hdel (killH r h) r) n r' x L1 ∧ ∀ b ∈ L1, b < w.heap.size ∧ b ∉ L0 := by
        intro r' x hx
        obtain ⟨L1, k1, k2⟩ := HR.rowI HD0 r' x hx
        exact ⟨L1, k1, fun b hb => ⟨(k2 b hb).1, by simpa using (k2 b hb).2⟩⟩
      have H2 : VRl w c.imm c.ok μ (hdel (killH r h) r) n xs vals := VRl.mono (Kept.sub hsub) _ _ (innOkl_true _) (VRl.mono (Kept.kill r) _ _ (innOkl_true _) hall)
      obtain ⟨Lm, q1, q2, q3⟩ := wcall_args hH hlt hio hnew hg hR0 hn0 HI hr hx hall H2
      have hLok : ∀ b ∈ Lm, c.ok b := fun b hb => (RR.blocks hR0 b (q1.subset hb)).1
      refine (hcon.2 w (fun b => b < w.heap.size ∧ b ∉ Lm) vals x Lm y (fun b hb => hb) (hn0.sublist q1) q2 hy).mono ?_
      rintro e w' ⟨vs, Lr, Lm', he, hF, hres, hM, hnd⟩
      obtain ⟨hn1, hn2, hn3⟩ := List.nodup_append.1 hnd
      have hrm : cn.rm = .mv := by
        cases hrm : cn.rm with
        | mv => rfl
        | bor => rw [hrm] at hown; simp [RM.isMv] at hown
        | own fr => rw [hrm] at hown; simp [RM.isMv] at hown
      rw [hrm] at hres
      have hres : ResO w' (fun b => b < w.heap.size ∧ b ∉ Lm) (okL Lm w) true cn.rs y.1 vs Lr := hres
      have hLr : ∀ b ∈ Lr, b ∈ Lm ∨ w.heap.size ≤ b := fun b hb => (hres.blocks b hb).1
      have hstep : Step c.imm w w' := ⟨fun b hb => hF.block b (hlt b hb) (fun hm => hio b hb (hLok b hm)), hF.row⟩
      obtain ⟨H1, kp⟩ := HR.moved (D' := Lr ++ []) HD0 hstep (fun k hk hkl => hF.block k hkl (fun hm => hk (by simp [q1.subset hm]))) (by simpa using hn1) (fun b hb => by
        rcases hLr b (by simpa using hb) with h3 | h3
        · exact .inl (by simp [q1.subset h3])
        · exact .inr h3)
      have hl3 : SR w' c.imm c.ok μ (hdel (killH r h) r) n (killS r s) a.tmps := SR.mono kp (SR.mono (Kept.sub hsub) (SR.killed r hl))
      have hgs3 : VRl w' c.imm c.ok μ (hdel (killH r h) r) n c.gs c.gv := vrl_gs kp c (vrl_gs (Kept.sub hsub) c (vrl_gs (Kept.kill r) c hgs))
      have hres' : ResO w' c.imm c.ok true cn.rs y.1 vs Lr := hres.reok (fun b hb => by
        rcases hLr b hb with h3 | h3
        · exact hLok b h3
        · exact hnew b h3)
      obtain ⟨μ', b1, b2, b3, b4, b5⟩ := opnL_ok hres' H1
      have kpo : Kept (fun _ => True) c.imm c.imm c.ok c.ok w' w' μ μ' (hdel (killH r h) r) (opnL true cn.rs y.1 (hdel (killH r h) r) n).2.1 n (opnL true cn.rs y.1 (hdel (killH r h) r) n).2.2 := Kept.opened b1 b4 b5
      obtain ⟨hfr, hd, hsz, _⟩ := id hs
      exact ⟨retV vs, he, Sim.put (hF.fr hfr hLok) hd hsz b2 (SR.mono kpo hl3) (vrl_gs kpo c hgs3) (ret_vr b3) hput⟩

/-- The arguments of a call that writes through a box. -/
theorem argB_ok {imm ok : Nat → Prop} {μ : Nat → Mu} {h : Heap} {n : Nat} {cs : List TV} {us : List Value} {r : Nat} (hg : hget h r = some (.box cs)) (hcs : flatB cs = true) (hrow : Row w (μ r).blk ((μ r).off + cs.length)) (hus : VRl w imm ok μ h n cs us) (hat : At w (μ r).blk (μ r).off us) :
    ∀ {ps : List (Ty × Bool)} {xs : List TV} {vs : List Value} {x : den (prodT (ps.map (·.1)))}, wBox ps xs = some r → argB h ps xs = some x → flatX ps xs = true → VRl w imm ok μ h n xs vs →
    ArgR w imm (· ∈ [(μ r).blk]) ps x vs [(μ r).blk] ∧ ∀ {w' : World} {imm' ok' : Nat → Prop} {y : den (prodT (mutT ps))} {g : Reg} {Lm' : List Nat}, MutR w' imm' ok' ps y vs Lm' → boxPut ps y = some g →
      Lm' = [(μ r).blk] ∧ ∃ t z us', g = .box (encT t z) ∧ Row w' (μ r).blk ((μ r).off + (encT t z).length) ∧ TRl w' imm' ok' t z us' [] ∧ At w' (μ r).blk (μ r).off us'
  | [], _, _, _, hw, _, _, _ => by simp [wBox] at hw
  | (t, b) :: _, [], _, _, hw, _, _, _ => by cases b <;> cases t <;> simp [wBox] at hw
  | (t, false) :: ps, a :: xs, vs, x, hw, ha, hf, H => by
    simp only [argB, Option.bind_eq_some_iff, Option.some.injEq] at ha
    obtain ⟨cs', hcs', d, hd', z, hz, hxe⟩ := ha
    cases hxe
    simp only [VRl] at H
    obtain ⟨u, vs', rfl, h1, h2⟩ := H
    simp only [flatX, Bool.and_eq_true] at hf
    obtain ⟨xs1, rfl, hv⟩ := cellsOf_vr hcs' h1
    rw [cellsOf_clist hcs'] at hf
    obtain ⟨q1, q2⟩ := argB_ok hg hcs hrow hus hat (ps := ps) (by simpa [wBox] using hw) hz hf.2 h2
    have hT : TRl w imm (· ∈ [(μ r).blk]) t d xs1 [] := see1_I (h := []) (μ := μ) (n := n) (ok := ok) (fun r x hx => by simp [hget] at hx) (fun _ h => h) hd' (FVl.vrl (μ := μ) (h := []) (n := n) _ _ (FVl.of _ _ hf.1 hv))
    refine ⟨⟨xs1, vs', [], _, rfl, rfl, fun _ => ⟨hT, rfl⟩, fun e => by simp at e, q1⟩, fun hM hp => ?_⟩
    exact q2 (by simpa [MutR] using hM) (by simpa [boxPut] using hp)
  | (t, true) :: ps, a :: xs, vs, x, hw, ha, hf, H => by
    cases t with
    | ref t =>
      simp only [wBox] at hw
      obtain ⟨hall, hw⟩ := cond_some.1 hw
      split at hw
      · rename_i r' h0
        simp only [Option.some.injEq] at hw; subst hw
        simp only [argB, hg, Option.bind_eq_some_iff, Option.some.injEq] at ha
        obtain ⟨d, hd, z, hz, hxe⟩ := ha
        cases hxe
        simp only [VRl] at H
        obtain ⟨u, vs', rfl, h1, h2⟩ := H
        simp only [VR, hg] at h1
        obtain ⟨_, A, rfl, hA⟩ := h1
        simp only [Nat.add_zero] at hA; subst hA
        simp only [flatX] at hf
        have rest : ∀ {ps : List (Ty × Bool)} {xs : List TV} {vs : List Value} {x : den (prodT (ps.map (·.1)))}, argB h ps xs = some x → ps.all (fun p => !p.2) = true → flatX ps xs = true → VRl w imm ok μ h n xs vs → ArgR w imm (· ∈ [(μ r').blk]) ps x vs [] := by
          intro ps
          induction ps with
          | nil =>
            intro xs vs x ha _ _ H
            cases xs with
            | nil => simp only [VRl] at H; exact ⟨H, rfl⟩
            | cons => simp [argB] at ha
          | cons p ps ih =>
            intro xs vs x ha hp hf H
            obtain ⟨t, b⟩ := p
            cases b with
            | true => simp at hp
            | false =>
              cases xs with
              | nil => simp [argB] at ha
              | cons a xs =>
                simp only [argB, Option.bind_eq_some_iff, Option.some.injEq] at ha
                obtain ⟨cs', hcs', d, hd', z, hz, hxe⟩ := ha
                cases hxe
                simp only [VRl] at H
                obtain ⟨u, vs', rfl, h1, h2⟩ := H
                simp only [flatX, Bool.and_eq_true] at hf
                obtain ⟨xs1, rfl, hv⟩ := cellsOf_vr hcs' h1
                rw [cellsOf_clist hcs'] at hf
                have hT : TRl w imm (· ∈ [(μ r').blk]) t d xs1 [] := see1_I (h := []) (μ := μ) (n := n) (ok := ok) (fun r x hx => by simp [hget] at hx) (fun _ h => h) hd' (FVl.vrl (μ := μ) (h := []) (n := n) _ _ (FVl.of _ _ hf.1 hv))
                exact ⟨xs1, vs', [], [], rfl, rfl, fun _ => ⟨hT, rfl⟩, fun e => by simp at e, ih hz (by simpa using hp) hf.2 h2⟩
        have hd1 : TRl w imm ok t d us [] := CT.dec1 hd (CT.of_vrl hcs hus)
        have hlen : sz t = cs.length := by rw [← hd1.length, hus.length]
        have hd2 : TRl w (immf false imm) (· ∈ [(μ r').blk]) t d us [] := TRl.reok (fun b hb => ⟨rfl, hb⟩) (by simp) hd1
        refine ⟨⟨[.pointer (some ⟨(μ r').blk, (μ r').off, none⟩)], vs', [(μ r').blk], [], by simp [valOf, isAg], by simp, fun e => by simp at e, fun _ => ?_, rest hz hall hf h2⟩, fun {w' imm' ok' y g Lm'} hM hp => ?_⟩
        · exact ⟨_, [], [(μ r').blk], [], rfl, by simp, ⟨rfl, rfl, d, _, _, us, rfl, rfl, rfl, by simp, by rw [hlen]; exact hrow, hd2, hat⟩, rfl, rfl⟩
        · obtain ⟨us1, L1, L2, k1, rfl, k2, k3⟩ := hM
          have hz2 : L2 = [] := by
            have : ∀ {ps : List (Ty × Bool)} {y : den (prodT (mutT ps))} {vs : List Value} {L : List Nat}, ps.all (fun p => !p.2) = true → MutR w' imm' ok' ps y vs L → L = [] := by
              intro ps
              induction ps with
              | nil => intro _ _ _ _ H; exact H
              | cons p ps ih =>
                obtain ⟨t, b⟩ := p
                intro y vs L hp H
                cases b with
                | true => simp at hp
                | false => exact ih (y := y) (by simpa using hp) H
            exact this hall k3
          subst hz2
          obtain ⟨u1, us1', La, Lb, rfl, rfl, ⟨_, _, z2, b2, o2, us2, e1, rfl, rfl, _, g2, g3, g4⟩, rfl, rfl⟩ := k2
          simp only [encT, List.cons.injEq, and_true] at e1
          simp only [List.head?_cons, Option.some.injEq, valOf, isAg, List.headD_cons, Bool.false_eq_true, ↓reduceIte, Value.pointer.injEq, Addr.mk.injEq, and_true] at k1
          obtain ⟨rfl, rfl⟩ := k1
          simp only [boxPut, Option.some.injEq] at hp; subst hp
          refine ⟨by simp, t, z2, us2, congrArg (fun z => Reg.box (encT t z)) (List.cons.inj e1).1, by rw [enc_length]; exact g2, ?_, g4⟩
          exact g3.mono (fun _ h => h.2) (fun _ h => h) (fun _ _ => rfl) (by simp)
      · simp at hw
    | _ => simp [wBox] at hw

/-- A call that writes through a box of what is only read. -/
theorem callB_ok {cn : Con} (hcon : ConOk c.P cn) {s s' : List (Nat × TV)} {h : Heap} {n : Nat} (hs : Sim c ⟨s, h, n⟩ a w) {μ : Nat → Mu} (hH : HR w c.imm c.ok μ h n []) (hl : SR w c.imm c.ok μ h n s a.tmps) (hgs : VRl w c.imm c.ok μ h n c.gs c.gv)
    {xs : List TV} {vals : List Value} (hall : VRl w c.imm c.ok μ h n xs vals) (hmv : cn.rm.isMv = false) {r : Nat} {x : den (prodT (cn.ps.map (·.1)))} {y} {g : Reg} (hr : wBox cn.ps xs = some r) (hbox : flatBox (hget h r) = true) (hfx : flatX cn.ps xs = true)
    (hx : argB h cn.ps xs = some x) (hy : cn.m x = some y) (hp : boxPut cn.ps y.2 = some g) (hput : sput c.m o.dst (opnR cn.rm cn.rs y.1 (hset h r g) n).1 s = some s') :
    Calls c.P cn.f vals.toArray w fun e w' => ∃ rv, e = .returned rv ∧ Sim c ⟨s', (opnR cn.rm cn.rs y.1 (hset h r g) n).2.1, (opnR cn.rm cn.rs y.1 (hset h r g) n).2.2⟩ (a.put o.dst rv) w' := by
  have hlt := hs.lt
  have hnew := hs.new
  have hio := c.immok
  cases hg : hget h r with
  | none => rw [hg] at hbox; cases hbox
  | some reg0 =>
    cases reg0 with
    | row _ _ _ => rw [hg] at hbox; cases hbox
    | mp k l => rw [hg] at hbox; cases hbox
    | box cs =>
      rw [hg] at hbox
      have hbox : flatB cs = true := hbox
      obtain ⟨L, hR, hn, _, hoth, hre⟩ := HR.rewrite hH hg
      have hR' := hR
      simp only [RR] at hR'
      obtain ⟨rfl, p1, p2, us, p3, p4⟩ := hR'
      obtain ⟨q1, q2⟩ := argB_ok hg hbox p2 p3 p4 hr hx hfx hall
      refine (hcon.2 w c.imm vals x [(μ r).blk] y (fun b hb => ⟨hlt b hb, fun hm => hio b hb (by simp at hm; subst hm; exact p1)⟩) (by simp) q1 hy).mono ?_
      rintro e w' ⟨vs, Lr, Lm', he, hF, hres, hM, hnd⟩
      have hM : MutR w' c.imm (okL [(μ r).blk] w) cn.ps y.2 vals Lm' := by
        unfold MutM at hM
        cases hrm : cn.rm with
        | mv => rw [hrm] at hmv; simp [RM.isMv] at hmv
        | own fr => rw [hrm] at hM; exact hM
        | bor => rw [hrm] at hM; exact hM
      obtain ⟨rfl, t, z, us', rfl, g2, g3, g4⟩ := q2 hM hp
      obtain ⟨hn1, hn2, hn3⟩ := List.nodup_append.1 hnd
      have hok : ∀ b, okL [(μ r).blk] w b → c.ok b := fun b hb => by
        rcases hb with h3 | h3
        · simp at h3; subst h3; exact p1
        · exact hnew b h3
      have hstep : Step c.imm w w' := ⟨fun b hb => hF.block b (hlt b hb) (fun hm => hio b hb (by simp at hm; subst hm; exact p1)), hF.row⟩
      have hLr : ∀ b ∈ Lr, b ≠ (μ r).blk ∧ w.heap.size ≤ b := by
        have hblk : ∀ b ∈ Lr, okL [(μ r).blk] w b := by
          unfold ResM at hres
          cases hrm : cn.rm with
          | own fr => rw [hrm] at hres; exact fun b hb => (hres.blocks b hb).1
          | bor => rw [hrm] at hres; obtain ⟨_, rfl⟩ := hres; simp
          | mv => rw [hrm] at hres; exact fun b hb => (ResO.blocks hres b hb).1
        intro b hb
        have hne : b ≠ (μ r).blk := fun e => hn3 b hb _ (by simp) e
        rcases hblk b hb with h3 | h3
        · simp at h3; exact absurd h3 hne
        · exact ⟨hne, h3⟩
      obtain ⟨H1, kp⟩ := hre (w' := w') (x' := .box (encT t z)) (K := fun _ => True) (L' := [(μ r).blk]) (by simp [Fit]) hstep (fun b hb hbl => hF.block b hb (fun hm => hbl hm)) (fun _ _ _ _ e => by cases e) (fun _ _ _ _ => innOkl_true _) (by simp)
        (fun kp => by
          simp only [RR]
          exact ⟨trivial, p1, g2, us', (g3.mono (fun _ h => h) (fun b hb => hok b hb) (fun _ _ => rfl) (by simp)).toCT.vrl, g4⟩) (by simp) (fun b hb => .inl hb) (E := Lr) hn1 (fun b hb => ⟨by simp [(hLr b hb).1], .inr (hLr b hb).2⟩)
      have hl3 : SR w' c.imm c.ok μ (hset h r (.box (encT t z))) n s a.tmps := SR.mono kp hl
      have hgs3 : VRl w' c.imm c.ok μ (hset h r (.box (encT t z))) n c.gs c.gv := vrl_gs kp c hgs
      have hLok : ∀ b ∈ [(μ r).blk], c.ok b := fun b hb => by simp at hb; subst hb; exact p1
      obtain ⟨hfr, hd, hsz, _⟩ := id hs
      unfold ResM at hres
      have own : ∀ {fr : Bool}, ResO w' c.imm (okL [(μ r).blk] w) fr cn.rs y.1 vs Lr → sput c.m o.dst (retT (opnL fr cn.rs y.1 (hset h r (.box (encT t z))) n).1) s = some s' →
          Sim c ⟨s', (opnL fr cn.rs y.1 (hset h r (.box (encT t z))) n).2.1, (opnL fr cn.rs y.1 (hset h r (.box (encT t z))) n).2.2⟩ (a.put o.dst (retV vs)) w' := by
        intro fr hres hput
        have hres' : ResO w' c.imm c.ok fr cn.rs y.1 vs Lr := hres.mono (fun _ h => h) hok (fun _ _ => rfl) (fun _ _ => rfl)
        obtain ⟨μ', b1, b2, b3, b4, b5⟩ := opnL_ok hres' H1
        have kpo : Kept (fun _ => True) c.imm c.imm c.ok c.ok w' w' μ μ' (hset h r (.box (encT t z))) (opnL fr cn.rs y.1 (hset h r (.box (encT t z))) n).2.1 n (opnL fr cn.rs y.1 (hset h r (.box (encT t z))) n).2.2 := Kept.opened b1 b4 b5
        exact Sim.put (hF.fr hfr hLok) hd hsz b2 (SR.mono kpo hl3) (vrl_gs kpo c hgs3) (ret_vr b3) hput
      refine ⟨retV vs, he, ?_⟩
      cases hrm : cn.rm with
      | mv => rw [hrm] at hmv; simp [RM.isMv] at hmv
      | own fr => rw [hrm] at hres hput; exact own hres hput
      | bor =>
        rw [hrm] at hres hput
        obtain ⟨hres, rfl⟩ := hres
        have hres' : ResB w' c.imm c.ok cn.rs y.1 vs := hres.mono (fun _ h => h) hok (fun _ _ => rfl)
        exact Sim.put (hF.fr hfr hLok) hd hsz H1 hl3 hgs3 (ret_vr (valL_vr hres')) hput

theorem callW_ok {cn : Con} (hcon : ConOk c.P cn) {s s' : List (Nat × TV)} {h : Heap} {n : Nat} (hs : Sim c ⟨s, h, n⟩ a w) {μ : Nat → Mu} (hH : HR w c.imm c.ok μ h n []) (hl : SR w c.imm c.ok μ h n s a.tmps) (hgs : VRl w c.imm c.ok μ h n c.gs c.gv)
    {xs : List TV} {vals : List Value} (hall : VRl w c.imm c.ok μ h n xs vals) (hown : cn.rm.isOwnF = true) {r : Nat} {x : den (prodT (cn.ps.map (·.1)))} {y} {g : Reg} (hr : wReg cn.ps xs = some r) (hrow : isRow (hget h r) = true)
    (hx : argW h (hdel (killH r h) r) cn.ps xs = some x) (hy : cn.m x = some y) (hp : wPut h cn.ps xs y.2 = some g) (hput : sput c.m o.dst (opnR cn.rm cn.rs y.1 (killH r (hset h r g)) n).1 (killS r s) = some s') :
    Calls c.P cn.f vals.toArray w fun e w' => ∃ rv, e = .returned rv ∧ Sim c ⟨s', (opnR cn.rm cn.rs y.1 (killH r (hset h r g)) n).2.1, (opnR cn.rm cn.rs y.1 (killH r (hset h r g)) n).2.2⟩ (a.put o.dst rv) w' := by
  have hlt := hs.lt
  have hnew := hs.new
  have hio := c.immok
  have HK := HR.kill r hH
  cases hg : hget h r with
  | none => rw [hg] at hrow; cases hrow
  | some reg0 =>
    cases reg0 with
    | box cs => rw [hg] at hrow; cases hrow
    | mp k l => rw [hg] at hrow; cases hrow
    | row f0 t0 l0 =>
      have hgk : hget (killH r h) r = some (.row f0 t0 l0) := by rw [hget_killH, hg]; rfl
      obtain ⟨L, hR, hn, _, hoth, hre⟩ := HR.rewrite HK hgk
      have hsub : ∀ r' x, hget (hdel (killH r h) r) r' = some x → hget (killH r h) r' = some x := fun r' x hx => hsub_hdel hx
      have HI : ∀ r' x, hget (hdel (killH r h) r) r' = some x → ∃ L1, RR w c.imm c.ok μ (hdel (killH r h) r) n r' x L1 ∧ ∀ b ∈ L1, b < w.heap.size ∧ b ∉ L := by
        intro r' x hx
        have hx' := hsub r' x hx
        have hne : r' ≠ r := by rintro rfl; rw [hget_hdel] at hx; simp at hx
        obtain ⟨L1, k1, k2⟩ := hoth r' x hne hx'
        exact ⟨L1, RR.mono (K := fun _ => True) (Kept.sub hsub) (HR.lt HK hx') (innOkR_true _) (fun _ _ => rfl) k1, k2⟩
      have H2 : VRl w c.imm c.ok μ (hdel (killH r h) r) n xs vals := VRl.mono (Kept.sub hsub) _ _ (innOkl_true _) (VRl.mono (Kept.kill r) _ _ (innOkl_true _) hall)
      obtain ⟨Lm, q1, q2, q3⟩ := wcall_args hH hlt hio hnew hg hR hn HI hr hx hall H2
      have hLok : ∀ b ∈ Lm, c.ok b := fun b hb => (RR.blocks hR b (q1.subset hb)).1
      refine (hcon.2 w (fun b => b < w.heap.size ∧ b ∉ Lm) vals x Lm y (fun b hb => hb) (hn.sublist q1) q2 hy).mono ?_
      rintro e w' ⟨vs, Lr, Lm', he, hF, hres, hM, hnd⟩
      obtain ⟨hn1, hn2, hn3⟩ := List.nodup_append.1 hnd
      have hrm : cn.rm = .own true := by
        cases hrm : cn.rm with
        | bor => rw [hrm] at hown; simp [RM.isOwnF] at hown
        | mv => rw [hrm] at hown; simp [RM.isOwnF] at hown
        | own fr => rw [hrm] at hown; cases fr with
          | true => rfl
          | false => simp [RM.isOwnF] at hown
      rw [hrm] at hM
      have hM : MutR w' (fun b => b < w.heap.size ∧ b ∉ Lm) (okL Lm w) cn.ps y.2 vals Lm' := hM
      obtain ⟨hfit, L', hR', hn', hL'⟩ := q3 (h' := hset (killH r h) r g) hF hM hn2 hp
      have hLm' : ∀ b ∈ Lm', b ∈ L ∨ w.heap.size ≤ b := fun b hb => by
        rcases hM.blocks b hb with h3 | h3
        · exact .inl (q1.subset h3)
        · exact .inr h3
      rw [hrm] at hres
      have hres : ResO w' (fun b => b < w.heap.size ∧ b ∉ Lm) (okL Lm w) true cn.rs y.1 vs Lr := hres
      have hLr : ∀ b ∈ Lr, b ∈ Lm ∨ w.heap.size ≤ b := fun b hb => (hres.blocks b hb).1
      have hstep : Step c.imm w w' := ⟨fun b hb => hF.block b (hlt b hb) (fun hm => hio b hb (hLok b hm)), hF.row⟩
      obtain ⟨H1, kp⟩ := hre (w' := w') (x' := g) (K := (· ≠ r)) (L' := L') hfit hstep (fun b hb hbl => hF.block b hb (fun hm => hbl (q1.subset hm))) (fun _ _ _ hk => absurd rfl hk) (fun r' cs hne hcs => by
            rw [hget_killH, Option.map_eq_some_iff] at hcs
            obtain ⟨z, _, hz⟩ := hcs
            cases z with
            | row => simp at hz
            | mp => simp at hz
            | box cs' => simp only [Reg.box.injEq] at hz; subst hz; exact innOkl_kill r _) (by simp) (fun _ => hR') hn' (fun b hb => by
            rcases hL' b hb with h3 | ⟨h3, _⟩
            · exact hLm' b h3
            · exact .inl h3) (E := Lr) hn1 (fun b hb => by
            refine ⟨fun hb' => ?_, ?_⟩
            · rcases hL' b hb' with h3 | ⟨h3, h4⟩
              · exact hn3 b hb b h3 rfl
              · rcases hLr b hb with h5 | h5
                · exact h4 h5
                · have := (RR.blocks hR b h3).2; omega
            · rcases hLr b hb with h5 | h5
              · exact .inl (q1.subset h5)
              · exact .inr h5)
      have hgrow : ∃ f1 t1 l1, g = .row f1 t1 l1 := by
        cases g with
        | row f1 t1 l1 => exact ⟨_, _, _, rfl⟩
        | box cs => simp [Fit] at hfit
        | mp => simp [Fit] at hfit
      obtain ⟨f1, t1, l1, rfl⟩ := hgrow
      have hcong : ∀ r', hget (killH r (hset h r (.row f1 t1 l1))) r' = hget (hset (killH r h) r (.row f1 t1 l1)) r' := by
        intro r'
        rw [hget_killH, hget_hset, hget_hset]
        split
        · rfl
        · rw [hget_killH]
      have H3 : HR w' c.imm c.ok μ (killH r (hset h r (.row f1 t1 l1))) n (Lr ++ []) := H1.congr hcong
      have hl3 : SR w' c.imm c.ok μ (killH r (hset h r (.row f1 t1 l1))) n (killS r s) a.tmps := SR.congr hcong (SR.monoK (K := (· ≠ r)) kp (fun t => by rw [sget_killS]; exact innOk_kill r _) (SR.killed r hl))
      have hgs3 : VRl w' c.imm c.ok μ (killH r (hset h r (.row f1 t1 l1))) n c.gs c.gv := VRl.congr hcong (vrl_gs kp c (vrl_gs (Kept.kill r) c hgs))
      have hres' : ResO w' c.imm c.ok true cn.rs y.1 vs Lr := hres.reok (fun b hb => by
        rcases hLr b hb with h3 | h3
        · exact hLok b h3
        · exact hnew b h3)
      rw [hrm] at hput ⊢
      obtain ⟨μ', b1, b2, b3, b4, b5⟩ := opnL_ok hres' H3
      have kpo : Kept (fun _ => True) c.imm c.imm c.ok c.ok w' w' μ μ' (killH r (hset h r (.row f1 t1 l1))) (opnL true cn.rs y.1 (killH r (hset h r (.row f1 t1 l1))) n).2.1 n (opnL true cn.rs y.1 (killH r (hset h r (.row f1 t1 l1))) n).2.2 := Kept.opened b1 b4 b5
      obtain ⟨hfr, hd, hsz, _⟩ := id hs
      exact ⟨retV vs, he, Sim.put (hF.fr hfr hLok) hd hsz b2 (SR.mono kpo hl3) (vrl_gs kpo c hgs3) (ret_vr b3) hput⟩

end
/-! Calls that are carried out on the spot. -/
section
variable {w : World} {imm ok : Nat → Prop} {μ : Nat → Mu} {h : Heap} {n : Nat} {K : Nat → Prop}
mutual
theorem VR.noI : ∀ (x : TV) (v : Value), VR w imm ok μ h n x v → VR w imm ok μ h n (Tw.noI x) v
  | .inn _ _ _, v, _ => by simp [Tw.noI, VR]
  | .agg cs, v, H => by simp only [Tw.noI, VR] at H ⊢; obtain ⟨us, h1, h2⟩ := H; exact ⟨us, h1, VRl.noI cs us h2⟩
  | .tup cs, v, H => by simp only [Tw.noI, VR] at H ⊢; obtain ⟨us, h1, h2⟩ := H; exact ⟨us, h1, VRl.noI cs us h2⟩
  | .ifc t x, v, H => by simp only [Tw.noI, VR] at H ⊢; obtain ⟨u, h1, h2⟩ := H; exact ⟨u, h1, VR.noI x u h2⟩
  | .fn f fi ca, v, H => by simp only [Tw.noI, VR] at H ⊢; obtain ⟨us, vs, h1, h2, h3⟩ := H; exact ⟨us, vs, h1, VRl.noI fi us h2, VRl.noI ca vs h3⟩
  | .p _, v, H => H
  | .tr _ _, v, H => H
  | .full _, v, H => H
  | .sub _ _ _, v, H => H
  | .ptr _ _ _, v, H => H
  | .iptr _ _ _ _, v, H => H
  | .mp _, v, H => H
  | .undef, v, H => H
theorem VRl.noI : ∀ (xs : List TV) (us : List Value), VRl w imm ok μ h n xs us → VRl w imm ok μ h n (noIL xs) us
  | [], us, H => H
  | x :: xs, us, H => by
    simp only [noIL, VRl] at H ⊢
    obtain ⟨u, us', h1, h2, h3⟩ := H
    exact ⟨u, us', h1, VR.noI x u h2, VRl.noI xs us' h3⟩
end
mutual
theorem innOk_noI : ∀ x, innOk K (noI x)
  | .inn _ _ _ => trivial
  | .agg cs => by simp only [noI, innOk]; exact innOkl_noI cs
  | .tup cs => by simp only [noI, innOk]; exact innOkl_noI cs
  | .ifc t x => by simp only [noI, innOk]; exact innOk_noI x
  | .fn f fi ca => by simp only [noI, innOk]; exact ⟨innOkl_noI fi, innOkl_noI ca⟩
  | .p _ => trivial
  | .tr _ _ => trivial
  | .full _ => trivial
  | .sub _ _ _ => trivial
  | .ptr _ _ _ => trivial
  | .iptr _ _ _ _ => trivial
  | .mp _ => trivial
  | .undef => trivial
theorem innOkl_noI : ∀ xs, innOkl K (noIL xs)
  | [] => trivial
  | x :: xs => ⟨innOk_noI x, innOkl_noI xs⟩
end
theorem sget_noI : ∀ (s : List (Nat × TV)) (t : Nat), sget (noIS s) t = noI (sget s t)
  | [], t => rfl
  | (k, x) :: s, t => by
    simp only [noIS, sget]
    cases Nat.beq t k with
    | true => rfl
    | false => exact sget_noI s t
theorem innOkl_map {f : Nat → TV} (hf : ∀ t, innOk K (f t)) : ∀ l : List Nat, innOkl K (l.map f)
  | [] => trivial
  | t :: l => ⟨hf t, innOkl_map hf l⟩
theorem innOkl_app : ∀ {xs ys : List TV}, innOkl K xs → innOkl K ys → innOkl K (xs ++ ys)
  | [], ys, _, h => h
  | x :: xs, ys, h1, h2 => ⟨h1.1, innOkl_app h1.2 h2⟩
theorem VRl_map {f : Nat → TV} {g : Nat → Value} : ∀ {l : List Nat}, (∀ t ∈ l, VR w imm ok μ h n (f t) (g t)) → VRl w imm ok μ h n (l.map f) (l.map g)
  | [], _ => by simp [VRl]
  | t :: l, H => by simp only [List.map_cons, VRl]; exact ⟨_, _, rfl, H t (by simp), VRl_map fun u hu => H u (by simp [hu])⟩
theorem VRl_of_map {f : Nat → TV} {g : Nat → Value} : ∀ {l : List Nat}, VRl w imm ok μ h n (l.map f) (l.map g) → ∀ t ∈ l, VR w imm ok μ h n (f t) (g t)
  | [], _, t, ht => by simp at ht
  | u :: l, H, t, ht => by
    simp only [List.map_cons, VRl] at H
    obtain ⟨v, vs, e, h1, h2⟩ := H
    simp only [List.cons.injEq] at e
    obtain ⟨rfl, rfl⟩ := e
    rcases List.mem_cons.1 ht with rfl | ht
    · exact h1
    · exact VRl_of_map h2 t ht
theorem sget_keys : ∀ (s : List (Nat × TV)) (t : Nat), t ∉ s.map (·.1) → sget s t = .undef
  | [], t, _ => rfl
  | (k, x) :: s, t, h => by
    simp only [List.map_cons, List.mem_cons, not_or] at h
    rw [sget_cons, if_neg h.1]; exact sget_keys s t h.2
end
/-- What calls on the spot are held to. -/
def InlOk (P : Program) (N : Inl) : Prop := ∀ (c : Cx), c.P = P → ∀ (ρ : Type) (f : FuncId) (xs : List TV) (h : Heap) (n : Nat) (K : TV → Heap → Nat → Option ρ) (r : ρ), N ρ f xs h n K = some r → callable P f = true ∧
  ∀ (w : World) (vals : List Value) (μ : Nat → Mu), Fr c w → HR w c.imm c.ok μ h n [] → VRl w c.imm c.ok μ h n xs vals → VRl w c.imm c.ok μ h n c.gs c.gv →
    Calls P f vals.toArray w fun e w' => ∃ rv v h' n' μ', e = .returned rv ∧ K v h' n' = some r ∧ Fr c w' ∧ HR w' c.imm c.ok μ' h' n' [] ∧ VR w' c.imm c.ok μ' h' n' v rv ∧ VRl w' c.imm c.ok μ' h' n' c.gs c.gv
theorem callable_run {P : Program} {k : FuncId} {o : Oper} {cl : Call} {ρ : Operand → Value} {us vs : List Value} {fo : Operand} {w : World} (hcallable : callable P k = true) (ho : o.op = .call cl) (hcallee : cl.callee = .value fo) (hfx : ρ fo = .func (.func k) us.toArray vs.toArray) :
    (execOp ρ o).run P w = .ok (.enter k (us ++ cl.args.toList.map ρ ++ vs).toArray) w := by
  unfold callable at hcallable
  split at hcallable
  · rename_i fn hfn
    simp only [bne_iff_ne, ne_eq, Bool.and_eq_true] at hcallable
    have hbody : fn.body.isNone = false := by cases hb : fn.body <;> simp_all
    have harr : us.toArray ++ (cl.args.map ρ ++ vs.toArray) = (us ++ (cl.args.toList.map ρ ++ vs)).toArray := by apply Array.ext'; simp
    have hnn : fn.body ≠ none := by intro hb; rw [hb] at hbody; simp at hbody
    simp [execOp, ho, resolve, hcallee, hfx, Deferred.ofValue, invoke, callFunc, hfn, hcallable.1, hnn, harr]
  · simp at hcallable

section
variable {c : Cx} {σ : St} {a : Act} {w w' : World} {o : Oper} {ρ : Type} {F : List Con} {N : Inl} {r : ρ}
theorem evOp_ok (hN : InlOk c.P N) (hF : ∀ cn ∈ F, ConOk c.P cn) {s : List (Nat × TV)} {h : Heap} {n : Nat} (hs : Sim c ⟨s, h, n⟩ a w) {K : St → Option ρ} (hev : evOp c.P c.m F N o s h n K = some r) {K' : Act → World → Prop} {Q : Exit → Act → World → Prop}
    (hK : ∀ σ' a' w', K σ' = some r → Sim c σ' a' w' → K' a' w') : o.wp c.P a w K' Q := by
  have plain : ((ex c.P o.op (ev s) h n).bind fun A => (sput c.m o.dst A.v (match A.k with | some r => killS r s | none => s)).bind fun s => bif A.c then K ⟨s, A.h, A.n⟩ else none) = some r → o.wp c.P a w K' Q := by
    intro hev
    simp only [Option.bind_eq_some_iff] at hev
    obtain ⟨A, hA, s', hput, hev⟩ := hev
    obtain ⟨hc, hev⟩ := cond_some.1 hev
    exact wp_of_ok (ex_ok (σ := ⟨s, h, n⟩) hs o hA hc hput) fun a' w' hs' => hK _ _ _ hev hs'
  unfold evOp at hev
  split at hev
  · rename_i cl ho
    cases hic : isCall (.call cl) with
    | false =>
      rw [ho] at hev; simp only [hic, cond_false] at hev
      split at hev
      · rename_i cl2 hcl2
        obtain ⟨e1, e2⟩ := isClear_some hcl2
        cases e1
        simp only [Option.bind_eq_some_iff] at hev
        obtain ⟨x, hx, h2, hh2, s', hput, hev⟩ := hev
        have hargs : cl.args.toList = [x] := by
          split at hx
          · rename_i y hy; simp only [Option.some.injEq] at hx; subst hx; exact hy
          · simp at hx
        exact wp_of_ok (ok_clear (σ := ⟨s, h, n⟩) hs ho e2 hargs hh2 hput) fun a' w' hs' => hK _ _ _ hev hs'
      · rw [← ho] at hev; exact plain hev
    | true =>
      rw [ho] at hev
      simp only [hic, cond_true, Option.bind_eq_some_iff] at hev
      obtain ⟨⟨f, xs⟩, hcal, hev⟩ := hev
      split at hev
      · -- on the spot
        rename_i hcn
        simp only at hcn hev
        have hlt := hs.lt
        obtain ⟨hfr, hd, hsz, μ, hH, hl, hgs⟩ := id hs
        simp only at hH hl hgs
        unfold calleeOf at hcal
        split at hcal
        · rename_i fo hcallee
          split at hcal
          · rename_i k fi ca hq
            simp only [Option.some.injEq, Prod.mk.injEq] at hcal
            obtain ⟨rfl, rfl⟩ := hcal
            have hvx := SR.evl hl fo
            rw [hq] at hvx
            simp only [VR] at hvx
            obtain ⟨us, vs, hfx, hus, hvs⟩ := hvx
            have hall : VRl w c.imm c.ok μ h n (fi ++ cl.args.toList.map (ev s) ++ ca) (us ++ cl.args.toList.map a.eval ++ vs) := VRl.append (VRl.append hus (SR.map hl _)) hvs
            let ks := s.map (·.1)
            let c2 : Cx := { P := c.P, m := c.m, w0 := c.w0, imm := c.imm, ok := c.ok, immlt := c.immlt, immok := c.immok, oknew := c.oknew, gs := c.gs ++ ks.map (sget (noIS s)), gv := c.gv ++ ks.map (fun t => a.tmps.getD t undef), gin := innOkl_app c.gin (innOkl_map (fun t => by rw [sget_noI]; exact innOk_noI _) _) }
            obtain ⟨hcallable, hcall⟩ := hN c2 rfl _ _ _ _ _ _ _ hev
            have hrun := callable_run (w := w) hcallable ho hcallee hfx
            have hfr2 : Fr c2 w := ⟨hfr.os, hfr.tape, hfr.output, hfr.size, hfr.block, hfr.row⟩
            have hg2 : VRl w c2.imm c2.ok μ h n c2.gs c2.gv := VRl.append hgs (VRl_map fun t _ => by rw [sget_noI]; exact VR.noI _ _ (hl t))
            unfold Oper.wp
            rw [hrun]
            refine (hcall w _ μ hfr2 hH hall hg2).mono ?_
            rintro e w' ⟨rv, v, h', n', μ', rfl, hK2, hfr3, hH3, hv3, hg3⟩
            simp only [Option.bind_eq_some_iff] at hK2
            obtain ⟨s', hput, hfin⟩ := hK2
            have hgl : c.gs.length = c.gv.length := hgs.length
            have e1 := hg3.take c.gs.length
            have e2 := hg3.drop c.gs.length
            have t1 : (c2.gs.take c.gs.length) = c.gs := by simp [c2]
            have t2 : (c2.gv.take c.gs.length) = c.gv := by simp [c2, hgl]
            have t3 : (c2.gs.drop c.gs.length) = ks.map (sget (noIS s)) := by simp [c2]
            have t4 : (c2.gv.drop c.gs.length) = ks.map (fun t => a.tmps.getD t undef) := by simp [c2, hgl]
            rw [t1, t2] at e1
            rw [t3, t4] at e2
            have hsl : SR w' c.imm c.ok μ' h' n' (noIS s) a.tmps := by
              intro t
              by_cases ht : t ∈ ks
              · exact VRl_of_map e2 t ht
              · have : sget (noIS s) t = .undef := by rw [sget_noI, sget_keys s t ht]; rfl
                rw [this]; simp [VR]
            exact hK _ _ _ hfin (Sim.put ⟨hfr3.os, hfr3.tape, hfr3.output, hfr3.size, hfr3.block, hfr3.row⟩ hd hsz hH3 hsl e1 hv3 hput)
          · simp at hcal
        · simp at hcal
      rename_i cn hcn
      simp only at hcn hev
      cases hmu : cn.ps.all (fun x => !x.2) with
      | true =>
        simp only [hmu, cond_true] at hev
        obtain ⟨hfl, hev⟩ := cond_some.1 hev
        simp only [Option.bind_eq_some_iff] at hev
        obtain ⟨x, hx, y, hy, s', hput, hfin⟩ := hev
        obtain ⟨hmem, hf⟩ := cget_mem hcn
        try simp only at hf hx hfl
        have hlt := hs.lt
        have hnew := hs.new
        obtain ⟨hfr, hd, hsz, μ, hH, hl, hgs⟩ := id hs
        simp only at hH hl hgs
        -- the callee and its arguments
        unfold calleeOf at hcal
        split at hcal
        · rename_i fo hcallee
          split at hcal
          · rename_i k fi ca hq
            simp only [Option.some.injEq, Prod.mk.injEq] at hcal
            obtain ⟨rfl, rfl⟩ := hcal
            have hvx := SR.evl hl fo
            rw [hq] at hvx
            simp only [VR] at hvx
            obtain ⟨us, vs, hfx, hus, hvs⟩ := hvx
            have hall : VRl w c.imm c.ok μ h n (fi ++ cl.args.toList.map (ev s) ++ ca) (us ++ cl.args.toList.map a.eval ++ vs) := VRl.append (VRl.append hus (SR.map hl _)) hvs
            obtain ⟨hcallable, hcon⟩ := hF cn hmem
            rw [hf] at hcallable hcon
            have hrun : (execOp a.eval o).run c.P w = .ok (.enter k (us ++ cl.args.toList.map a.eval ++ vs).toArray) w := by
              unfold callable at hcallable
              split at hcallable
              · rename_i fn hfn
                simp only [bne_iff_ne, ne_eq, Bool.and_eq_true] at hcallable
                have hbody : fn.body.isNone = false := by cases hb : fn.body <;> simp_all
                have harr : us.toArray ++ (cl.args.map a.eval ++ vs.toArray) = (us ++ (cl.args.toList.map a.eval ++ vs)).toArray := by apply Array.ext'; simp
                have hnn : fn.body ≠ none := by intro hb; rw [hb] at hbody; simp at hbody
                simp [execOp, ho, resolve, hcallee, hfx, Deferred.ofValue, invoke, callFunc, hfn, hcallable.1, hnn, harr]
              · simp at hcallable
            obtain ⟨harg1, harg2⟩ := argL_ok hH hlt hx hall hmu
            -- what comes back, seen from here
            have hcalls : Calls c.P k (us ++ cl.args.toList.map a.eval ++ vs).toArray w fun e w' => ∃ vs L, e = .returned (retV vs) ∧ Below w.heap.size w w' ∧ ResM w' c.imm (fun b => w.heap.size ≤ b) cn.rm cn.rs y.1 vs L ∧ L.Nodup := by
              cases hfa : flatA (fi ++ cl.args.toList.map (ev s) ++ ca) with
              | true =>
                refine (hcon w c.imm _ x [] y (fun b hb => ⟨hlt b hb, by simp⟩) (by simp) (harg2 hfa) hy).mono ?_
                rintro e w' ⟨vs, L, Lm', he, h1, h2, h3, h4⟩
                refine ⟨vs, L, he, h1.below, ?_, (List.nodup_append.1 h4).1⟩
                unfold ResM at h2 ⊢
                split at h2
                · exact h2.mono (fun _ h => h) (fun b hb => okL_nil hb) (fun _ _ => rfl) (fun _ _ => rfl)
                · exact ⟨h2.1.mono (fun _ h => h) (fun b hb => okL_nil hb) (fun _ _ => rfl), h2.2⟩
                · exact h2.mono (fun _ h => h) (fun b hb => okL_nil hb) (fun _ _ => rfl) (fun _ _ => rfl)
              | false =>
                have hown : cn.rm = .own true := by
                  simp only [hfa, Bool.or_false] at hfl
                  cases hrm : cn.rm with
                  | bor => rw [hrm] at hfl; simp [RM.isOwnF] at hfl
                  | mv => rw [hrm] at hfl; simp [RM.isOwnF] at hfl
                  | own fr => rw [hrm] at hfl; cases fr with
                    | true => rfl
                    | false => simp [RM.isOwnF] at hfl
                refine (hcon w (· < w.heap.size) _ x [] y (fun b hb => ⟨hb, by simp⟩) (by simp) harg1 hy).mono ?_
                rintro e w' ⟨vs, L, Lm', he, h1, h2, h3, h4⟩
                refine ⟨vs, L, he, h1.below, ?_, (List.nodup_append.1 h4).1⟩
                rw [hown] at h2 ⊢
                exact ResO.mono (fun b hb => by simp [immf] at hb) (fun b hb => okL_nil hb) (fun _ _ => rfl) (fun _ _ => rfl) h2
            unfold Oper.wp
            rw [hrun]
            refine hcalls.mono ?_
            rintro e w' ⟨rvs, L, rfl, hbw, hres, hnd⟩
            have hfr' := hfr.below hbw
            have kpw := hH.kept_quiet hbw hlt (Nat.le_refl _)
            unfold ResM at hres
            cases hrm : cn.rm with
            | own fr =>
              rw [hrm] at hres hput hfin
              simp only at hres
              have hok : ∀ b ∈ L, w.heap.size ≤ b := fun b hb => (hres.blocks b hb).1
              have H1 : HR w' c.imm c.ok μ h n (L ++ []) := hH.fresh hbw hlt hnd hok (by simp)
              have hres' : ResO w' c.imm c.ok fr cn.rs y.1 rvs L := hres.mono (fun _ h => h) (fun b hb => hnew b hb) (fun _ _ => rfl) (fun _ _ => rfl)
              obtain ⟨μ', b1, b2, b3, b4, b5⟩ := opnL_ok hres' H1
              have kpo : Kept (fun _ => True) c.imm c.imm c.ok c.ok w' w' μ μ' h (opnL fr cn.rs y.1 h n).2.1 n (opnL fr cn.rs y.1 h n).2.2 := Kept.opened b1 b4 b5
              exact hK _ _ _ hfin (Sim.put hfr' hd hsz b2 (SR.mono kpo (SR.mono kpw hl)) (vrl_gs kpo c (vrl_gs kpw c hgs)) (ret_vr b3) hput)
            | mv =>
              rw [hrm] at hres hput hfin
              simp only at hres
              have hok : ∀ b ∈ L, w.heap.size ≤ b := fun b hb => (hres.blocks b hb).1
              have H1 : HR w' c.imm c.ok μ h n (L ++ []) := hH.fresh hbw hlt hnd hok (by simp)
              have hres' : ResO w' c.imm c.ok true cn.rs y.1 rvs L := hres.mono (fun _ h => h) (fun b hb => hnew b hb) (fun _ _ => rfl) (fun _ _ => rfl)
              obtain ⟨μ', b1, b2, b3, b4, b5⟩ := opnL_ok hres' H1
              have kpo : Kept (fun _ => True) c.imm c.imm c.ok c.ok w' w' μ μ' h (opnL true cn.rs y.1 h n).2.1 n (opnL true cn.rs y.1 h n).2.2 := Kept.opened b1 b4 b5
              exact hK _ _ _ hfin (Sim.put hfr' hd hsz b2 (SR.mono kpo (SR.mono kpw hl)) (vrl_gs kpo c (vrl_gs kpw c hgs)) (ret_vr b3) hput)
            | bor =>
              rw [hrm] at hres hput hfin
              simp only at hres
              obtain ⟨hres, rfl⟩ := hres
              have hres' : ResB w' c.imm c.ok cn.rs y.1 rvs := hres.mono (fun _ h => h) (fun b hb => hnew b hb) (fun _ _ => rfl)
              exact hK _ _ _ hfin (Sim.put hfr' hd hsz (hH.quiet hbw hlt (Nat.le_refl _)) (SR.mono kpw hl) (vrl_gs kpw c hgs) (ret_vr (valL_vr hres')) hput)
          · simp at hcal
        · simp at hcal
      | false =>
        simp only [hmu, cond_false] at hev
        obtain ⟨hfr, hd, hsz, μ, hH, hl, hgs⟩ := id hs
        simp only at hH hl hgs
        obtain ⟨hmem, hf⟩ := cget_mem hcn
        try simp only at hf
        have hcon := hF cn hmem
        have hcallable := hcon.1
        rw [hf] at hcallable
        have hq : ∃ fo us vs us2, cl.callee = .value fo ∧ a.eval fo = .func (.func f) us.toArray vs.toArray ∧ us2 = us ++ cl.args.toList.map a.eval ++ vs ∧ VRl w c.imm c.ok μ h n xs us2 := by
          unfold calleeOf at hcal
          split at hcal
          · rename_i fo hcallee
            split at hcal
            · rename_i k fi ca hq
              simp only [Option.some.injEq, Prod.mk.injEq] at hcal
              obtain ⟨rfl, rfl⟩ := hcal
              have hvx := SR.evl hl fo
              rw [hq] at hvx
              simp only [VR] at hvx
              obtain ⟨us, vs, hfx, hus, hvs⟩ := hvx
              exact ⟨fo, us, vs, _, hcallee, hfx, rfl, VRl.append (VRl.append hus (SR.map hl _)) hvs⟩
            · simp at hcal
          · simp at hcal
        obtain ⟨fo, us, vs, us2, hcallee, hfx, rfl, hall⟩ := hq
        have hrun := callable_run (w := w) hcallable ho hcallee hfx
        unfold Oper.wp
        rw [hrun]
        split at hev
        · rename_i r0 hr0
          obtain ⟨hb, hev⟩ := cond_some.1 hev
          simp only [Bool.and_eq_true, Bool.not_eq_true'] at hb
          obtain ⟨⟨hb1, hb2⟩, hb3⟩ := hb
          simp only [Option.bind_eq_some_iff] at hev
          obtain ⟨x, hx, y, hy, g, hp, s', hput, hfin⟩ := hev
          have := callB_ok (o := o) (a := a) hcon hs hH hl hgs hall hb3 hr0 hb1 hb2 hx hy hp hput
          rw [hf] at this
          refine this.mono ?_
          rintro e w' ⟨rv, rfl, hs'⟩
          exact hK _ _ _ hfin hs'
        · cases hmv : cn.rm.isMv with
          | true =>
            simp only [hmv, cond_true, Option.bind_eq_some_iff] at hev
            obtain ⟨r0, hr0, hev⟩ := hev
            obtain ⟨hrow, hev⟩ := cond_some.1 hev
            simp only [Option.bind_eq_some_iff] at hev
            obtain ⟨x, hx, y, hy, s', hput, hfin⟩ := hev
            have := callM_ok (o := o) (a := a) hcon hs hH hl hgs hall hmv hr0 hrow hx hy hput
            rw [hf] at this
            refine this.mono ?_
            rintro e w' ⟨rv, rfl, hs'⟩
            exact hK _ _ _ hfin hs'
          | false =>
            simp only [hmv, cond_false] at hev
            obtain ⟨hown, hev⟩ := cond_some.1 hev
            simp only [Option.bind_eq_some_iff] at hev
            obtain ⟨r0, hr0, hev⟩ := hev
            obtain ⟨hrow, hev⟩ := cond_some.1 hev
            simp only [Option.bind_eq_some_iff] at hev
            obtain ⟨x, hx, y, hy, g, hp, s', hput, hfin⟩ := hev
            have := callW_ok (o := o) (a := a) hcon hs hH hl hgs hall hown hr0 hrow hx hy hp hput
            rw [hf] at this
            refine this.mono ?_
            rintro e w' ⟨rv, rfl, hs'⟩
            exact hK _ _ _ hfin hs'
  · exact plain hev

theorem yielded_slot {dl : List (Option Tmp)} {ops : Array Oper} {j t : Nat} (hd : ops.toList.map (·.dst) = dl) (ht : dl.getD j none = some t) : (ops[j]?).bind (·.dst) = some t := by
  subst hd
  have : ops[j]? = ops.toList[j]? := by simp
  rw [this]
  simp only [List.getD, List.getElem?_map] at ht
  cases h : ops.toList[j]? with
  | none => simp [h] at ht
  | some o => simp only [h, Option.map_some, Option.getD_some, Option.bind_some] at ht ⊢; exact ht

theorem wanted_gv {dl : List (Option Tmp)} {ops : Array Oper} {j t : Nat} {want cw : Bool} (hs : Sim c σ a w) (hd : ops.toList.map (·.dst) = dl) (ht : dl.getD j none = some t) (hg : o.guard = some (j, want)) (hv : gv want (sget σ.s t) = some cw) :
    Region.wanted o (yielded ops a.tmps) = cw ∧ ∃ b, a.tmps.getD t undef = .bool b ∧ cw = (bif want then b else !b) := by
  obtain ⟨_, _, _, μ, _, hl, _⟩ := hs
  have h1 := hl t
  have hy := yielded_slot hd ht
  have hval : ∀ b : Bool, a.tmps.getD t undef = .bool b → a.tmps[t]? = some (.bool b) := by
    intro b hb
    rw [Array.getD_eq_getD_getElem?] at hb
    cases h : a.tmps[t]? with
    | none => simp [h, undef] at hb
    | some v => simp [h] at hb; rw [hb]
  simp only [Region.wanted, hg]
  unfold gv at hv
  split at hv
  · rename_i b hq
    rw [hq] at h1
    simp only [Option.some.injEq] at hv; subst hv
    have := hval b h1.p_eq
    refine ⟨?_, b, h1.p_eq, rfl⟩
    cases want <;> cases b <;> simp [yielded, hy, this]
  · simp at hv

theorem wanted_un {dl : List (Option Tmp)} {ops : Array Oper} {j t : Nat} {want : Bool} (hs : Sim c σ a w) (hd : ops.toList.map (·.dst) = dl) (ht : dl.getD j none = some t) (hg : o.guard = some (j, want)) (hv : isUn (sget σ.s t) = true) :
    Region.wanted o (yielded ops a.tmps) = false := by
  obtain ⟨_, _, _, μ, _, hl, _⟩ := hs
  have h1 := hl t
  have hy := yielded_slot hd ht
  unfold isUn at hv
  split at hv
  · rename_i hq
    rw [hq] at h1
    simp only [VR, VRl] at h1
    obtain ⟨us, h2, rfl⟩ := h1
    have h3 : ∀ b : Bool, a.tmps[t]? ≠ some (.bool b) := by
      intro b hb
      rw [Array.getD_eq_getD_getElem?, hb] at h2
      simp at h2
    simp only [Region.wanted, hg, yielded, hy, Option.bind_some]
    rfl
  · simp at hv

theorem Sim.know {t : Nat} {b : Bool} {s : List (Nat × TV)} {h : Heap} {n : Nat} (hs : Sim c ⟨s, h, n⟩ a w) (hb : a.tmps.getD t undef = .bool b) : Sim c ⟨(t, .p (.bool b)) :: s, h, n⟩ a w := by
  obtain ⟨h1, h2, h3, μ, h4, h5, h6⟩ := hs
  refine ⟨h1, h2, h3, μ, h4, fun t' => ?_, h6⟩
  simp only
  rw [sget_cons]
  by_cases e : t' = t
  · subst e; rw [if_pos rfl]; simp only [VR]; exact hb
  · rw [if_neg e]; exact h5 t'

theorem evOps_ok (hN : InlOk c.P N) (hF : ∀ cn ∈ F, ConOk c.P cn) {ops : Array Oper} {dl : List (Option Tmp)} (hd : ops.toList.map (·.dst) = dl) {Q : Exit → Act → World → Prop} {K : St → Option ρ} (hK : ∀ σ a w, K σ = some r → Sim c σ a w → Q .normal a w) :
    ∀ (os : List Oper) (σ : St) (a : Act) (w : World), evOps c.P c.m F N dl os σ K = some r → Sim c σ a w → wpList c.P ops Q os a w
  | [], σ, a, w, hev, hs => wpList_nil (hK σ a w hev hs)
  | o :: os, σ, a, w, hev, hs => by
    simp only [evOps] at hev
    unfold wpList
    split at hev
    · rename_i hg
      rw [if_pos (by simp [Region.wanted, hg])]
      exact .inl (evOp_ok hN hF (s := σ.s) (h := σ.h) (n := σ.n) hs hev fun σ' a' w' h1 h2 => evOps_ok hN hF hd hK os σ' a' w' h1 h2)
    · rename_i j want hg
      split at hev
      · simp at hev
      · rename_i t ht
        split at hev
        · obtain ⟨hun, hev⟩ := cond_some.1 hev
          simp only [Option.bind_eq_some_iff] at hev
          obtain ⟨s', hput, hev⟩ := hev
          rw [if_neg (by rw [wanted_un hs hd ht hg hun]; simp)]
          obtain ⟨h1, h2, h3, μ, h4, h5, h6⟩ := hs
          exact evOps_ok hN hF hd hK os _ _ _ hev (Sim.skip' h1 h2 h3 h4 h5 h6 hput)
        · rename_i cw hv
          obtain ⟨hw, b, hb, hcw⟩ := wanted_gv hs hd ht hg hv
          cases cw with
          | true =>
            simp only [cond_true] at hev
            rw [if_pos hw]
            have hbw : b = want := by revert hcw; cases b <;> cases want <;> simp
            subst hbw
            exact .inl (evOp_ok hN hF (Sim.know (s := σ.s) (h := σ.h) (n := σ.n) hs hb) hev fun σ' a' w' h1 h2 => evOps_ok hN hF hd hK os σ' a' w' h1 h2)
          | false =>
            simp only [cond_false, Option.bind_eq_some_iff] at hev
            obtain ⟨s', hput, hev⟩ := hev
            rw [if_neg (by rw [hw]; simp)]
            have hbw : b = !want := by revert hcw; cases b <;> cases want <;> simp
            subst hbw
            have hs2 := Sim.know (s := σ.s) (h := σ.h) (n := σ.n) hs hb
            obtain ⟨h1, h2, h3, μ, h4, h5, h6⟩ := hs2
            exact evOps_ok hN hF hd hK os _ _ _ hev (Sim.skip' h1 h2 h3 h4 h5 h6 hput)
end

def Sy (c : Cx) (code : Code) (Q : Exit → St → Prop) (σ : St) : Prop :=
  ∀ a w, Sim c σ a w → code.wp c.P (fun e a' w' => ∃ σ', Q e σ' ∧ Sim c σ' a' w') a w

/-- A loop's mirror is right. -/
def LoopOk (c : Cx) (lo : LO) (body : Code) : Prop := ∀ (ρ : Type) (σ : St) (K : Exit → St → Option ρ) (r : ρ), lo ρ σ K = some r → Sy c (.loop body) (fun e σ' => K e σ' = some r) σ

theorem Sim.drew {c : Cx} {σ : St} {a : Act} {w : World} (hs : Sim c σ a w) : Sim c σ a w.drew := by
  have hlt := hs.lt
  obtain ⟨h1, h2, h3, μ, h4, h5, h6⟩ := hs
  have hb : Below w.heap.size w w.drew := (Below.refl _ _).drew
  have kp := h4.kept_quiet hb hlt (Nat.le_refl _)
  exact ⟨h1.below hb, h2, h3, μ, h4.quiet hb hlt (Nat.le_refl _), SR.mono kp h5, vrl_gs kp c h6⟩

theorem Sim.below {c : Cx} {σ : St} {a : Act} {w w1 : World} (hs : Sim c σ a w) (hb : Below w.heap.size w w1) : Sim c σ a w1 := by
  have hlt := hs.lt
  obtain ⟨h1, h2, h3, μ, h4, h5, h6⟩ := hs
  have kp := h4.kept_quiet hb hlt (Nat.le_refl _)
  exact ⟨h1.below hb, h2, h3, μ, h4.quiet hb hlt (Nat.le_refl _), SR.mono kp h5, vrl_gs kp c h6⟩

end Go.Tw
