/- A step of the typed logic of this claim is proved here: what an operation does to the data that slots and memory stand for. -/
import Derived.Test.YtmjacadeccoclaaT12
set_option linter.all false
namespace Go.Tw
open Go Go.RowKit

section
variable {w w' : World} {imm ok : Nat → Prop} {μ : Nat → Mu} {h : Heap} {n : Nat}

theorem VRl.of_at {cs ys : List TV} {us vs : List Value} {off : Nat} (h1 : VRl w imm ok μ h n cs us) (h2 : VRl w imm ok μ h n ys vs) : VRl w imm ok μ h n (spl cs off ys) (us.take off ++ vs ++ us.drop (off + vs.length)) := by
  unfold spl
  rw [← h2.length]
  exact VRl.append (VRl.append (h1.take off) h2) (h1.drop _)
theorem At.set {b o off : Nat} {us vs : List Value} (h : At w b o us) (hr : Row w b (o + us.length)) (hl : off + vs.length ≤ us.length) : At (setCells w b (o + off) vs) b o (us.take off ++ vs ++ us.drop (off + vs.length)) := by
  refine At.app.2 ⟨At.app.2 ⟨fun j u hj => ?_, fun j u hj => ?_⟩, fun j u hj => ?_⟩
  · have hjl : j < off := by
      rcases Nat.lt_or_ge j off with h' | h'
      · exact h'
      · rw [List.getElem?_eq_none (by rw [List.length_take]; omega)] at hj; simp at hj
    rw [setCells_cell _ _ _ _ _ (by left; omega)]
    rw [List.getElem?_take, if_pos hjl] at hj
    exact h j u hj
  · have e : (us.take off).length = off := by rw [List.length_take]; omega
    rw [e]
    exact setCells_get vs w b (o + off) (hr.le (by omega)) j u hj
  · have e : (us.take off ++ vs).length = off + vs.length := by rw [List.length_append, List.length_take]; omega
    rw [e, setCells_cell _ _ _ _ _ (by right; omega)]
    rw [List.getElem?_drop] at hj
    rw [show o + (off + vs.length) + j = o + (off + vs.length + j) by omega]
    exact h _ u hj
end

section
variable {c : Cx} {σ : St} {a : Act} {w w' : World} {A : Ans} {o : Oper} {s' : List (Nat × TV)}

theorem Sim.skip {dst : Option Tmp} {s s' : List (Nat × TV)} {h : Heap} {n : Nat} {μ : Nat → Mu} (hfr : Fr c w') (hd : a.defers = []) (hsz : a.tmps.size = c.m.n ∧ ∀ q ∈ c.m.st, a.tmps.getD q.1 undef = c.gv.getD q.2 undef)
    (hH : HR w' c.imm c.ok μ h n []) (hs : SR w' c.imm c.ok μ h n s a.tmps) (hg : VRl w' c.imm c.ok μ h n c.gs c.gv) (hput : sput c.m dst .undef s = some s') : Sim c ⟨s', h, n⟩ (a.put dst undef) w' :=
  Sim.put hfr hd hsz hH hs hg (by simp [VR]) hput
theorem Sim.skip' {dst : Option Tmp} {s s' : List (Nat × TV)} {h : Heap} {n : Nat} {μ : Nat → Mu} (hfr : Fr c w') (hd : a.defers = []) (hsz : a.tmps.size = c.m.n ∧ ∀ q ∈ c.m.st, a.tmps.getD q.1 undef = c.gv.getD q.2 undef)
    (hH : HR w' c.imm c.ok μ h n []) (hs : SR w' c.imm c.ok μ h n s a.tmps) (hg : VRl w' c.imm c.ok μ h n c.gs c.gv) (hput : sput c.m dst (.tup []) s = some s') : Sim c ⟨s', h, n⟩ (a.put dst undef) w' :=
  Sim.put hfr hd hsz hH hs hg (by simp [VR, VRl, undef]) hput

theorem SR.killed {imm ok : Nat → Prop} {μ : Nat → Mu} {h : Heap} {n : Nat} {s : List (Nat × TV)} {us : Array Value} (r : Nat) (H : SR w imm ok μ h n s us) : SR w imm ok μ (killH r h) n (killS r s) us := by
  intro t
  rw [sget_killS]
  exact VR.kill r _ _ (VR.mono (Kept.kill r) _ _ (innOk_true _) (H t))
theorem SR.monoK {K : Nat → Prop} {imm imm' ok ok' : Nat → Prop} {μ μ' : Nat → Mu} {h h' : Heap} {n n' : Nat} {s : List (Nat × TV)} {us : Array Value} (kp : Kept K imm imm' ok ok' w w' μ μ' h h' n n') (hk : ∀ t, innOk K (sget s t)) (H : SR w imm ok μ h n s us) : SR w' imm' ok' μ' h' n' s us :=
  fun t => VR.mono kp _ _ (hk t) (H t)
theorem SR.congr {imm ok : Nat → Prop} {μ : Nat → Mu} {h h' : Heap} {n : Nat} {s : List (Nat × TV)} {us : Array Value} (hh : ∀ r, hget h' r = hget h r) (H : SR w imm ok μ h n s us) : SR w imm ok μ h' n s us :=
  SR.mono (Kept.sub (fun r x hx => by rw [← hh]; exact hx)) H
theorem VRl.congr {imm ok : Nat → Prop} {μ : Nat → Mu} {h h' : Heap} {n : Nat} {cs : List TV} {us : List Value} (hh : ∀ r, hget h' r = hget h r) (H : VRl w imm ok μ h n cs us) : VRl w imm ok μ h' n cs us :=
  VRl.mono (Kept.sub (fun r x hx => by rw [← hh]; exact hx)) _ _ (innOkl_true _) H

/-- A window of an element's cells is written. -/
theorem HR.store {imm ok : Nat → Prop} {μ : Nat → Mu} {h : Heap} {n : Nat} {K : Nat → Prop} {D D1 : List Nat} {r i off : Nat} {fr f2 : Bool} {t : Ty} {l : List (den t)} {fs : List TV} {us : List Value} {e : den t}
    (hio : ∀ b, imm b → ¬ ok b) (H : HR w imm ok μ h n (D1 ++ D)) (hg : hget h r = some (.row fr t l)) (hK : K r → hasSl t = false) (hbx : ∀ r' cs, r' ≠ r → hget h r' = some (.box cs) → innOkl K cs)
    (hi : i < l.length) (hle : off + fs.length ≤ sz t) (hc : CT w (immf f2 imm) ok fs us D1) (he : dec1 t (spl (encT t (l.getD i (dflt t))) off fs) = some e) :
    Row w (μ r).blk ((μ r).off + i * sz t + off + us.length) ∧ ok (μ r).blk ∧ HR (setCells w (μ r).blk ((μ r).off + i * sz t + off) us) imm ok μ (hset h r (.row (fr && f2) t (l.set i e))) n D ∧
      Kept K imm imm ok ok w (setCells w (μ r).blk ((μ r).off + i * sz t + off) us) μ μ h (hset h r (.row (fr && f2) t (l.set i e))) n n := by
  obtain ⟨L0, hR0⟩ := H.row hg
  have hbk := hR0.bk (by rintro rfl; simp at hi)
  obtain ⟨_, _, hob, hrow, _⟩ := hR0.rowd hbk
  have hlu := hc.length
  have hmul : i * sz t + sz t ≤ l.length * sz t := by rw [← Nat.succ_mul]; exact Nat.mul_le_mul_right _ hi
  have hstep : Step imm w (setCells w (μ r).blk ((μ r).off + i * sz t + off) us) := setCells_step _ _ (fun hb => hio _ hb hob)
  have hsame : ∀ b, b ≠ (μ r).blk → (setCells w (μ r).blk ((μ r).off + i * sz t + off) us).heap[b]? = w.heap[b]? := fun b hb => setCells_heap _ _ _ _ _ hb
  have hw := HR.write (x' := .row (fr && f2) t (l.set i e)) (K := K) H hg (by simp [Fit]) hstep hsame (fun L hR => hR.blk hbk) (fun fr' t' l' hk e => by cases e; exact hK hk) hbx ?_
  · exact ⟨hrow.le (by omega), hob, hw.1, hw.2⟩
  intro L kp hR hn hdis hD1
  obtain ⟨L', rfl, g1, g2, g3⟩ := hR.rowd hbk
  obtain ⟨L1, L2, L3, rfl, m1, ⟨vs, m2, m3⟩, m4⟩ := RL.at (dflt t) hi g3
  obtain ⟨u1, u2, u3, La, Lb, Lc, rfl, rfl, k1, k2, c1, c2, c3⟩ := m2.toCT.win (off := off) (m := fs.length) (by rw [enc_length]; exact hle)
  have hmm : ∀ b, immf fr imm b → immf (fr && f2) imm b := fun b hb => immf_mono (fun e => by simp [e]) hb
  have hm2 : ∀ b, immf f2 imm b → immf (fr && f2) imm b := fun b hb => immf_mono (fun e => by simp [e]) hb
  have hlow : ∀ {f : Bool} b, immf f imm b → (setCells w (μ r).blk ((μ r).off + i * sz t + off) us).heap[b]? = w.heap[b]? := fun b hb => hstep.low b hb.2
  have hne : ∀ b ∈ L1 ++ ((La ++ (Lb ++ Lc)) ++ L3), b ≠ (μ r).blk := fun b hb e => by subst e; exact (List.nodup_cons.1 hn).1 (by simpa using hb)
  have hneD : ∀ b ∈ D1, b ≠ (μ r).blk := fun b hb e => by subst e; exact hdis _ (by simp) hb
  have k4 := c1.length
  have k5 := c3.length
  rw [List.length_take, enc_length] at k4
  rw [List.length_drop, enc_length] at k5
  -- the element, written anew
  have hct : CT (setCells w (μ r).blk ((μ r).off + i * sz t + off) us) (immf (fr && f2) imm) ok (spl (encT t (l.getD i (dflt t))) off fs) (u1 ++ us ++ u3) (La ++ D1 ++ Lc) := by
    unfold spl
    refine CT.app.2 ⟨u1 ++ us, u3, La ++ D1, Lc, rfl, rfl, CT.app.2 ⟨u1, us, La, D1, rfl, rfl, ?_, ?_⟩, ?_⟩
    · exact c1.mono hmm (fun _ h => h) hlow (fun b hb => hsame b (hne b (by simp [hb])))
    · exact hc.mono hm2 (fun _ h => h) hlow (fun b hb => hsame b (hneD b hb))
    · exact c3.mono hmm (fun _ h => h) hlow (fun b hb => hsame b (hne b (by simp [hb])))
  have htr := CT.dec1 he hct
  have hat : At (setCells w (μ r).blk ((μ r).off + i * sz t + off) us) (μ r).blk ((μ r).off + i * sz t) (u1 ++ us ++ u3) := by
    have hvl : (u1 ++ (u2 ++ u3)).length = sz t := m2.length
    have := At.set (off := off) (vs := us) m3 (hrow.le (by rw [hvl]; omega)) (by rw [hvl]; omega)
    have e1 : (u1 ++ (u2 ++ u3)).take off = u1 := by rw [← k1]; simp
    have e2 : (u1 ++ (u2 ++ u3)).drop (off + us.length) = u3 := by
      rw [show off + us.length = (u1 ++ u2).length by simp; omega, ← List.append_assoc]; simp
    rwa [e1, e2] at this
  have hrest : ∀ {l' : List (den t)} {o' : Nat} {L' : List Nat}, (o' + l'.length * sz t ≤ (μ r).off + i * sz t ∨ (μ r).off + i * sz t + sz t ≤ o') → (∀ b ∈ L', b ≠ (μ r).blk) → RL (TRc w (immf fr imm) ok t) (sz t) l' (μ r).blk o' L' →
      RL (TRc (setCells w (μ r).blk ((μ r).off + i * sz t + off) us) (immf (fr && f2) imm) ok t) (sz t) l' (μ r).blk o' L' := by
    intro l'
    induction l' with
    | nil => intro o' L' _ _ h; exact h
    | cons x l' ih =>
      intro o' L' ho hL h
      simp only [RL] at h ⊢
      obtain ⟨Lx, Ly, rfl, ⟨xs, x1, x2⟩, h2⟩ := h
      refine ⟨Lx, Ly, rfl, ⟨xs, x1.mono hmm (fun _ h => h) hlow (fun b hb => hsame b (hL b (by simp [hb]))), fun j u hj => ?_⟩, ih ?_ (fun b hb => hL b (by simp [hb])) h2⟩
      · have hjl : j < sz t := by
          rw [← x1.length]
          rcases Nat.lt_or_ge j xs.length with h' | h'
          · exact h'
          · rw [List.getElem?_eq_none h'] at hj; simp at hj
        rw [setCells_cell _ _ _ _ _ ?_]
        · exact x2 j u hj
        · rcases ho with ho | ho
          · left; rw [List.length_cons, Nat.succ_mul] at ho; omega
          · right; omega
      · rcases ho with ho | ho
        · left; rw [List.length_cons, Nat.succ_mul] at ho; omega
        · right; omega
  have hRL := RL.put (l := l) (i := i) (x := e) (L1 := L1) (L2 := La ++ D1 ++ Lc) (L3 := L3) hi
    (hrest (.inl (by rw [List.length_take, Nat.min_eq_left (by omega)]; omega)) (fun b hb => hne b (by simp [hb])) m1) ⟨_, htr, hat⟩ (hrest (.inr (by omega)) (fun b hb => hne b (by simp [hb])) m4)
  refine ⟨(μ r).blk :: (L1 ++ ((La ++ D1 ++ Lc) ++ L3)), .inr ⟨hbk, _, rfl, g1, ?_, hRL⟩, ?_, ?_⟩
  · rw [List.length_set]; exact setCells_row _ _ _ _ g2
  · have hD1' : ∀ b ∈ D1, b ∉ L1 ∧ b ∉ La ∧ b ∉ Lc ∧ b ∉ L3 ∧ b ≠ (μ r).blk := fun b hb => by
      refine ⟨fun h' => hdis b (by simp [h']) hb, fun h' => hdis b (by simp [h']) hb, fun h' => hdis b (by simp [h']) hb, fun h' => hdis b (by simp [h']) hb, hneD b hb⟩
    have hn2 : ((μ r).blk :: (L1 ++ ((La ++ Lc) ++ L3))).Nodup := by
      refine hn.sublist ?_
      refine List.Sublist.cons_cons _ (List.Sublist.append (List.Sublist.refl _) (List.Sublist.append ?_ (List.Sublist.refl _)))
      exact List.Sublist.append (List.Sublist.refl _) (List.sublist_append_right _ _)
    have hp : ((μ r).blk :: (L1 ++ ((La ++ D1 ++ Lc) ++ L3))).Perm (D1 ++ ((μ r).blk :: (L1 ++ ((La ++ Lc) ++ L3)))) := by
      refine List.perm_iff_count.2 (fun x => ?_)
      simp only [List.count_cons, List.count_append]; omega
    refine hp.nodup_iff.2 (List.nodup_append.2 ⟨hD1, hn2, fun b hb b' hb' e => ?_⟩)
    subst e
    obtain ⟨q1, q2, q3, q4, q5⟩ := hD1' b hb
    simp only [List.mem_cons, List.mem_append] at hb'
    rcases hb' with h | h | (h | h) | h
    · exact q5 h
    · exact q1 h
    · exact q2 h
    · exact q3 h
    · exact q4 h
  · intro b hb
    simp only [List.mem_cons, List.mem_append] at hb ⊢
    rcases hb with h | h | ((h | h) | h) | h <;> simp [h]

theorem absL_length : ∀ {cs fs : List TV} {h h' : Heap} {fr : Bool}, absL h cs = some (fs, fr, h') → fs.length = cs.length
  | [], fs, h, h', fr, ha => by simp only [absL, Option.some.injEq, Prod.mk.injEq] at ha; obtain ⟨rfl, _⟩ := ha; rfl
  | c :: cs, fs, h, h', fr, ha => by
    simp only [absL, Option.bind_eq_some_iff, Option.some.injEq, Prod.mk.injEq] at ha
    obtain ⟨⟨f1, b1, hh1⟩, ha1, ⟨f2, b2, hh2⟩, ha2, rfl, rfl, rfl⟩ := ha
    simp [absL_length ha2]
theorem absL_sub : ∀ {cs fs : List TV} {h h' : Heap} {fr : Bool}, absL h cs = some (fs, fr, h') → ∀ r x, hget h' r = some x → hget h r = some x
  | [], fs, h, h', fr, ha, r, x, hx => by simp only [absL, Option.some.injEq, Prod.mk.injEq] at ha; obtain ⟨_, _, rfl⟩ := ha; exact hx
  | c :: cs, fs, h, h', fr, ha, r, x, hx => by
    simp only [absL, Option.bind_eq_some_iff, Option.some.injEq, Prod.mk.injEq] at ha
    obtain ⟨⟨f1, b1, hh1⟩, ha1, ⟨f2, b2, hh2⟩, ha2, rfl, rfl, rfl⟩ := ha
    have h1 := absL_sub ha2 r x hx
    unfold absC at ha1
    split at ha1
    · simp only [Option.some.injEq, Prod.mk.injEq] at ha1; obtain ⟨_, _, rfl⟩ := ha1; exact h1
    · simp only [Option.some.injEq, Prod.mk.injEq] at ha1; obtain ⟨_, _, rfl⟩ := ha1; exact h1
    · split at ha1
      · simp only [Option.some.injEq, Prod.mk.injEq] at ha1; obtain ⟨_, _, rfl⟩ := ha1; exact hsub_hdel h1
      · simp at ha1
    · split at ha1
      · simp only [Option.some.injEq, Prod.mk.injEq] at ha1; obtain ⟨_, _, rfl⟩ := ha1; exact hsub_hdel h1
      · simp at ha1
    · simp at ha1

theorem ok_store (hs : Sim c σ a w) {t : TypeId} {x y : Operand} (ho : o.op = .store t x y) (hx : ex c.P o.op (ev σ.s) σ.h σ.n = some A) (hc : A.c = true) (hput : sput c.m o.dst A.v (ks A σ.s) = some s') : OpOk c o a w ⟨s', A.h, A.n⟩ := by
  rw [ho] at hx
  simp only [ex, Option.bind_eq_some_iff] at hx
  obtain ⟨⟨g, m⟩, ht, hx⟩ := hx
  have hlt := hs.lt
  obtain ⟨hfr, hd, hsz, μ, hH, hl, hgs⟩ := id hs
  have hv := SR.evl hl x
  have hy := SR.evl hl y
  have hio : ∀ b, c.imm b → ¬ c.ok b := c.immok
  unfold storeS at hx
  split at hx
  · rename_i r i off hq
    rw [hq] at hv
    simp only [VR] at hv
    obtain ⟨hr, B, e1, hm⟩ := hv
    split at hx
    · -- a box
      rename_i cs hg
      obtain ⟨hb, hx⟩ := cond_some.1 hx
      simp only [Option.some.injEq] at hx; subst hx
      simp only [Bool.and_eq_true] at hb
      obtain ⟨⟨hb1, hb2⟩, hb3⟩ := hb
      have hb1 : (clist (ev σ.s y)).length = m := Nat.eq_of_beq_eq_true hb1
      have hb2 : off + m ≤ cs.length := Nat.le_of_ble_eq_true hb2
      simp only [hg] at hm; subst hm
      obtain ⟨us, hcells, hus, hone⟩ := clist_vr hb3 hy
      have hlen := hus.length
      obtain ⟨L0, hR0⟩ := hH.row hg
      simp only [RR] at hR0
      obtain ⟨rfl, q1, q2, vs, q3, q4⟩ := hR0
      have hvl := q3.length
      have hstep : Step c.imm w (setCells w (μ r).blk ((μ r).off + off) us) := setCells_step _ _ (fun hb => hio _ hb q1)
      have hrowu := q2.le (m' := (μ r).off + off + us.length) (by omega)
      obtain ⟨hH', kp⟩ := HR.write (D1 := []) (D := []) (x' := .box (spl cs off (clist (ev σ.s y)))) (K := fun _ => True) hH hg (by simp [Fit]) hstep (fun b hb => setCells_heap _ _ _ _ _ hb)
        (fun L hR => by simp only [RR] at hR; rw [hR.1]; simp) (fun fr t l _ e => by cases e) (fun _ _ _ _ => innOkl_true _) (by
          intro L kp hR hn _ _
          simp only [RR] at hR ⊢
          obtain ⟨rfl, p1, p2, vs', p3, p4⟩ := hR
          refine ⟨_, ⟨rfl, p1, ?_, _, VRl.mono kp _ _ (innOkl_true _) (VRl.of_at (off := off) p3 hus), At.set (off := off) p4 (by rw [← p3.length]; exact p2) (by rw [← p3.length]; omega)⟩, hn, by simp⟩
          have : (spl cs off (clist (ev σ.s y))).length = cs.length := by
            simp only [spl, List.length_append, List.length_take, List.length_drop]; omega
          rw [this]; exact setCells_row _ _ _ _ p2)
      refine ⟨.skip, setCells w (μ r).blk ((μ r).off + off) us, ?_, fun e => (by simp [ho, stillB] at e), .inr ⟨rfl, Sim.skip (hfr.set us q1) hd hsz hH' (SR.mono kp hl) (vrl_gs kp c hgs) hput⟩⟩
      have := run_storeVar (P := c.P) (w := w) ht hcells (by omega) hrowu hone
      simp [execOp, ho, e1, Instr.storeAt, Instr.sureAddr, this]
    · -- a region
      rename_i fr0 t00 l00 hg0
      simp only [Option.bind_eq_some_iff] at hx
      obtain ⟨⟨fs, f2, h1⟩, habs, hx⟩ := hx
      simp only at hx
      split at hx
      · rename_i fr t0 l hg
        obtain ⟨hb, hx⟩ := cond_some.1 hx
        simp only [Option.bind_eq_some_iff, Option.some.injEq] at hx
        obtain ⟨e, he, rfl⟩ := hx
        simp only [Bool.and_eq_true] at hb
        obtain ⟨⟨hb1, hb2⟩, hb3⟩ := hb
        have hb1 : fs.length = m := Nat.eq_of_beq_eq_true hb1
        have hb2 : off + m ≤ sz t0 := Nat.le_of_ble_eq_true hb2
        simp only [decide_eq_true_eq] at hc
        have hcl := absL_length habs
        have hgg : hget σ.h r = some (.row fr t0 l) := absL_sub habs r _ hg
        simp only [hgg] at hm; subst hm
        obtain ⟨us, hcells, hus, hone⟩ := clist_vr hb3 hy
        have hlen := hus.length
        obtain ⟨L, k1, k2, k3⟩ := absL_ok hH hus habs
        have kp1 : Kept (fun _ => True) c.imm c.imm c.ok c.ok w w μ μ σ.h h1 σ.n σ.n := Kept.sub k3
        have hl1 : SR w c.imm c.ok μ h1 σ.n σ.s a.tmps := SR.mono kp1 hl
        have hg1 : VRl w c.imm c.ok μ h1 σ.n c.gs c.gv := vrl_gs kp1 c hgs
        have hcu := k1.length
        have hrun : ∀ {w'}, w' = setCells w (μ r).blk ((μ r).off + i * sz t0 + off) us → Row w (μ r).blk ((μ r).off + i * sz t0 + off + us.length) → (execOp a.eval o).run c.P w = .ok .skip w' := by
          rintro w' rfl hrow
          have := run_storeVar (P := c.P) (w := w) ht hcells (by omega) hrow hone
          simp [execOp, ho, e1, Instr.storeAt, Instr.sureAddr, this]
        by_cases hsl : hasSl t0 = true
        · -- inner slices are no longer known
          simp only [hsl, cond_true] at hput ⊢
          have hk2 := HR.kill r k2
          have hgk : hget (killH r h1) r = some (.row fr t0 l) := by rw [hget_killH, hg]; rfl
          obtain ⟨p1, p2, p3, p4⟩ := HR.store (K := (· ≠ r)) (D := []) (D1 := L) hio hk2 hgk (fun h => absurd rfl h) (fun r' cs hne hcs => by
            rw [hget_killH, Option.map_eq_some_iff] at hcs
            obtain ⟨z, _, hz⟩ := hcs
            cases z with
            | row => simp at hz
            | mp => simp at hz
            | box cs' => simp only [Reg.box.injEq] at hz; subst hz; exact innOkl_kill r _) hc (by omega) k1 he
          have hcong : ∀ r', hget (killH r (hset h1 r (.row (fr && f2) t0 (l.set i e)))) r' = hget (hset (killH r h1) r (.row (fr && f2) t0 (l.set i e))) r' := by
            intro r'
            rw [hget_killH, hget_hset, hget_hset]
            split
            · rfl
            · rw [hget_killH]
          have hSR := SR.monoK (K := (· ≠ r)) p4 (fun t => by rw [sget_killS]; exact innOk_kill r _) (SR.killed r hl1)
          refine ⟨.skip, _, hrun rfl p1, fun e => (by simp [ho, stillB] at e), .inr ⟨rfl, Sim.skip (hfr.set us p2) hd hsz (p3.congr hcong) (SR.congr hcong hSR) (VRl.congr hcong ?_) hput⟩⟩
          exact vrl_gs p4 c (vrl_gs (Kept.kill r) c hg1)
        · have hsl' : hasSl t0 = false := by simpa using hsl
          simp only [hsl', cond_false] at hput ⊢
          obtain ⟨p1, p2, p3, p4⟩ := HR.store (K := fun _ => True) (D := []) (D1 := L) hio k2 hg (fun _ => hsl') (fun _ _ _ _ => innOkl_true _) hc (by omega) k1 he
          exact ⟨.skip, _, hrun rfl p1, fun e => (by simp [ho, stillB] at e), .inr ⟨rfl, Sim.skip (hfr.set us p2) hd hsz p3 (SR.mono p4 hl1) (vrl_gs p4 c hg1) hput⟩⟩
      · simp at hx
    · simp at hx
  · simp at hx
end
end Go.Tw
