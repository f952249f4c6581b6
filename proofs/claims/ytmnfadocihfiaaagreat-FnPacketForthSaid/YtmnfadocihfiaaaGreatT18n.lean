/- The logic: a step. -/
import Derived.Test.YtmnfadocihfiaaaGreatT18h
set_option linter.all false
namespace Go.Tw
open Go Go.RowKit
variable [Grd]
section
variable {w w' : World}
theorem HR.inn {imm ok : Nat → Prop} {μ : Nat → Mu} {h : Heap} {n : Nat} {D D1 Lm : List Nat} {r i off : Nat} {t t2 : Ty} {l : List (den t)} {l2 : List (den t2)} {f : TV} {u v : Value} {e : den t}
    (hio : ∀ b, imm b → ¬ ok b) (H : HR w imm ok μ h n (D1 ++ D)) (hg : hget h r = some (.row true t l)) (hbx : ∀ r' cs, r' ≠ r → hget h r' = some (.box cs) → innOkl (· ≠ r) cs)
    (hi : i < l.length) (hcell : ((encT t (l.getD i (dflt t))).drop off).headD .undef = .tr t2 l2) (hu : w.cell? ⟨(μ r).blk, (μ r).off + i * sz t + off, none⟩ = some u)
    (hc : CT w (immf true imm) ok [f] [v] Lm) (hn' : Lm.Nodup) (hown : ∀ Lx, TRl w (immf true imm) ok (.sl t2) l2 [u] Lx → ∀ b ∈ Lm, b ∈ D1 ∨ b ∈ Lx)
    (he : dec1 t (spl (encT t (l.getD i (dflt t))) off [f]) = some e) :
    Row w (μ r).blk ((μ r).off + i * sz t + off + 1) ∧ ok (μ r).blk ∧ (μ r).blk ∉ D1 ++ D ∧ HR (setCells w (μ r).blk ((μ r).off + i * sz t + off) [v]) imm ok μ (hset h r (.row true t (l.set i e))) n D ∧
      Kept (· ≠ r) imm imm ok ok w (setCells w (μ r).blk ((μ r).off + i * sz t + off) [v]) μ μ h (hset h r (.row true t (l.set i e))) n n := by
  have hofl : off < (encT t (l.getD i (dflt t))).length := by
    rcases Nat.lt_or_ge off (encT t (l.getD i (dflt t))).length with hl | hl
    · exact hl
    · rw [List.drop_of_length_le hl] at hcell; simp at hcell
  have hle : off + 1 ≤ sz t := by rw [enc_length] at hofl; omega
  obtain ⟨L0, hR0, hnL0, hdL0, _, _⟩ := HR.rewrite H hg
  have hbk := hR0.bk (by rintro rfl; simp at hi)
  obtain ⟨_, _, hob, hrow, _⟩ := hR0.rowd hbk
  have hmul : i * sz t + sz t ≤ l.length * sz t := by rw [← Nat.succ_mul]; exact Nat.mul_le_mul_right _ hi
  have hstep : Step imm w (setCells w (μ r).blk ((μ r).off + i * sz t + off) [v]) := setCells_step _ _ (fun hb => hio _ hb hob)
  have hsame : ∀ b, b ≠ (μ r).blk → (setCells w (μ r).blk ((μ r).off + i * sz t + off) [v]).heap[b]? = w.heap[b]? := fun b hb => setCells_heap _ _ _ _ _ hb
  have hw := HR.write (x' := .row true t (l.set i e)) (K := (· ≠ r)) H hg (by simp [Fit]) hstep hsame (fun L hR => hR.blk hbk) (fun fr' t' l' hk e => absurd rfl hk) hbx ?_
  · exact ⟨hrow.le (by omega), hob, hdL0 _ (hR0.blk hbk), hw.1, hw.2⟩
  intro L kp hR hn hdis hD1
  obtain ⟨L', rfl, g1, g2, g3⟩ := hR.rowd hbk
  obtain ⟨L1, L2, L3, rfl, m1, ⟨vs, m2, m3⟩, m4⟩ := RL.at (dflt t) hi g3
  obtain ⟨u1, u2, u3, La, Lb, Lc, rfl, rfl, k1, k2, c1, c2, c3⟩ := m2.toCT.win (off := off) (m := 1) (by rw [enc_length]; exact hle)
  have htake : ((encT t (l.getD i (dflt t))).drop off).take 1 = [.tr t2 l2] := by
    cases hcc : (encT t (l.getD i (dflt t))).drop off with
    | nil => rw [hcc] at hcell; simp at hcell
    | cons y ys => rw [hcc] at hcell; simp at hcell; subst hcell; rfl
  rw [htake] at c2
  obtain ⟨u', us', Lx, Ly, rfl, rfl, c4, rfl, rfl⟩ := c2
  have huu : u' = u := by
    obtain ⟨_, a2⟩ := At.app.1 m3
    obtain ⟨a3, _⟩ := At.cons.1 a2
    rw [k1, hu] at a3
    simpa using a3.symm
  subst huu
  have hmem := hown Lx c4
  simp only [List.append_nil] at hn hdis ⊢
  have hlow : ∀ {f : Bool} b, immf f imm b → (setCells w (μ r).blk ((μ r).off + i * sz t + off) [v]).heap[b]? = w.heap[b]? := fun b hb => hstep.low b hb.2
  have hne : ∀ b ∈ L1 ++ ((La ++ (Lx ++ Lc)) ++ L3), b ≠ (μ r).blk := fun b hb e => by subst e; exact (List.nodup_cons.1 hn).1 (by simpa using hb)
  have hneD : ∀ b ∈ Lm, b ≠ (μ r).blk := fun b hb e => by
    subst e
    rcases hmem _ hb with h | h
    · exact hdis _ (by simp) h
    · exact hne _ (by simp [h]) rfl
  have k4 := c1.length
  have k5 := c3.length
  rw [List.length_take, enc_length] at k4
  rw [List.length_drop, enc_length] at k5
  have hct : CT (setCells w (μ r).blk ((μ r).off + i * sz t + off) [v]) (immf true imm) ok (spl (encT t (l.getD i (dflt t))) off [f]) (u1 ++ [v] ++ u3) (La ++ Lm ++ Lc) := by
    unfold spl
    refine CT.app.2 ⟨u1 ++ [v], u3, La ++ Lm, Lc, rfl, rfl, CT.app.2 ⟨u1, [v], La, Lm, rfl, rfl, ?_, ?_⟩, ?_⟩
    · exact c1.mono (fun _ h => h) (fun _ h => h) hlow (fun b hb => hsame b (hne b (by simp [hb])))
    · exact hc.mono (fun _ h => h) (fun _ h => h) hlow (fun b hb => hsame b (hneD b hb))
    · exact c3.mono (fun _ h => h) (fun _ h => h) hlow (fun b hb => hsame b (hne b (by simp [hb])))
  have htr := CT.dec1 he hct
  have hat : At (setCells w (μ r).blk ((μ r).off + i * sz t + off) [v]) (μ r).blk ((μ r).off + i * sz t) (u1 ++ [v] ++ u3) := by
    have hvl : (u1 ++ ([u'] ++ u3)).length = sz t := m2.length
    have := At.set (off := off) (vs := [v]) m3 (hrow.le (by rw [hvl]; omega)) (by rw [hvl]; simpa using hle)
    have e1 : (u1 ++ ([u'] ++ u3)).take off = u1 := by rw [← k1]; simp
    have e2 : (u1 ++ ([u'] ++ u3)).drop (off + [v].length) = u3 := by
      rw [show off + [v].length = (u1 ++ [u']).length by simp; omega, ← List.append_assoc]; simp
    rwa [e1, e2] at this
  have hrest : ∀ {l' : List (den t)} {o' : Nat} {L' : List Nat}, (o' + l'.length * sz t ≤ (μ r).off + i * sz t ∨ (μ r).off + i * sz t + sz t ≤ o') → (∀ b ∈ L', b ≠ (μ r).blk) → RL (TRc w (immf true imm) ok t) (sz t) l' (μ r).blk o' L' →
      RL (TRc (setCells w (μ r).blk ((μ r).off + i * sz t + off) [v]) (immf true imm) ok t) (sz t) l' (μ r).blk o' L' := by
    intro l'
    induction l' with
    | nil => intro o' L' _ _ h; exact h
    | cons x l' ih =>
      intro o' L' ho hL h
      simp only [RL] at h ⊢
      obtain ⟨Lx, Ly, rfl, ⟨xs, x1, x2⟩, h2⟩ := h
      refine ⟨Lx, Ly, rfl, ⟨xs, x1.mono (fun _ h => h) (fun _ h => h) hlow (fun b hb => hsame b (hL b (by simp [hb]))), fun j u hj => ?_⟩, ih ?_ (fun b hb => hL b (by simp [hb])) h2⟩
      · have hjl : j < sz t := by
          rw [← x1.length]
          rcases Nat.lt_or_ge j xs.length with h' | h'
          · exact h'
          · rw [List.getElem?_eq_none h'] at hj; simp at hj
        rw [setCells_cell _ _ _ _ _ ?_]
        · exact x2 j u hj
        · rcases ho with ho | ho
          · left; rw [List.length_cons, Nat.succ_mul] at ho; omega
          · right; simp; omega
      · rcases ho with ho | ho
        · left; rw [List.length_cons, Nat.succ_mul] at ho; omega
        · right; omega
  have hRL := RL.put (l := l) (i := i) (x := e) (L1 := L1) (L2 := La ++ Lm ++ Lc) (L3 := L3) hi
    (hrest (.inl (by rw [List.length_take, Nat.min_eq_left (by omega)]; omega)) (fun b hb => hne b (by simp [hb])) m1) ⟨_, htr, hat⟩ (hrest (.inr (by omega)) (fun b hb => hne b (by simp [hb])) m4)
  have hnn := hn
  obtain ⟨hnb, hnd⟩ := List.nodup_cons.1 hnn
  have hnot : ∀ b, (b ∈ L1 ∨ b ∈ La ∨ b ∈ Lc ∨ b ∈ L3) → b ∉ Lx := by
    intro b hb hx
    obtain ⟨n1, n2, n3⟩ := List.nodup_append.1 hnd
    obtain ⟨n4, n5, n6⟩ := List.nodup_append.1 n2
    obtain ⟨n7, n8, n9⟩ := List.nodup_append.1 n4
    obtain ⟨n10, n11, n12⟩ := List.nodup_append.1 n8
    rcases hb with h | h | h | h
    · exact n3 b h b (by simp [hx]) rfl
    · exact n9 b h b (by simp [hx]) rfl
    · exact n12 b hx b h rfl
    · exact n6 b (by simp [hx]) b h rfl
  refine ⟨(μ r).blk :: (L1 ++ ((La ++ Lm ++ Lc) ++ L3)), .inr ⟨hbk, _, rfl, g1, ?_, hRL⟩, ?_, ?_⟩
  · rw [List.length_set]; exact setCells_row _ _ _ _ g2
  · have hLm : ∀ b ∈ Lm, b ∉ (μ r).blk :: (L1 ++ ((La ++ Lc) ++ L3)) := by
      intro b hb hm
      rcases List.mem_cons.1 hm with rfl | hm
      · exact hneD _ hb rfl
      · have hm' : b ∈ L1 ∨ b ∈ La ∨ b ∈ Lc ∨ b ∈ L3 := by
          simp only [List.mem_append] at hm
          rcases hm with h | (h | h) | h
          · exact .inl h
          · exact .inr (.inl h)
          · exact .inr (.inr (.inl h))
          · exact .inr (.inr (.inr h))
        rcases hmem b hb with h | h
        · refine hdis b ?_ h
          rcases hm' with h | h | h | h <;> simp [h]
        · exact hnot b hm' h
    have hn2 : ((μ r).blk :: (L1 ++ ((La ++ Lc) ++ L3))).Nodup := by
      refine hn.sublist ?_
      refine List.Sublist.cons_cons _ (List.Sublist.append (List.Sublist.refl _) (List.Sublist.append ?_ (List.Sublist.refl _)))
      exact List.Sublist.append (List.Sublist.refl _) (List.sublist_append_right _ _)
    have hp : ((μ r).blk :: (L1 ++ ((La ++ Lm ++ Lc) ++ L3))).Perm (Lm ++ ((μ r).blk :: (L1 ++ ((La ++ Lc) ++ L3)))) := by
      refine List.perm_iff_count.2 (fun x => ?_)
      simp only [List.count_cons, List.count_append]; omega
    exact hp.nodup_iff.2 (List.nodup_append.2 ⟨hn', hn2, fun b hb b' hb' e => by subst e; exact hLm b hb hb'⟩)
  · intro b hb
    simp only [List.mem_cons, List.mem_append] at hb ⊢
    rcases hb with h | h | ((h | h) | h) | h
    · simp [h]
    · simp [h]
    · simp [h]
    · rcases hmem b h with h | h <;> simp [h]
    · simp [h]
    · simp [h]
end
end Go.Tw
namespace Go.Tw
open Go Go.RowKit
variable [Grd]
def XR (w : World) (imm ok : Nat → Prop) (τ : DS) (a : Act) (ks : List Nat) (Lf : Nat → List Nat) : Prop :=
  ∀ px, τ.x = some px → τ.pd px.d = none ∧ ∃ Lm, TO1 w imm ok true (.tr px.t px.l) (a.tmps.getD px.d undef) Lm ∧ Lm.Nodup ∧
    ((px.d ∈ ks ∧ Lm = Lf px.d) ∨ ∃ b o len cap, a.tmps.getD px.src undef = .slice (some ⟨b, o, none⟩) len cap ∧ Lm = [b])
theorem XR.none {w : World} {imm ok : Nat → Prop} {τ : DS} {a : Act} {ks : List Nat} {Lf : Nat → List Nat} (h : τ.x = none) : XR w imm ok τ a ks Lf := fun px hx => by rw [h] at hx; cases hx
theorem XR.keep {w : World} {imm ok : Nat → Prop} {τ τ' : DS} {a a' : Act} {ks ks' : List Nat} {Lf Lf' : Nat → List Nat} (hx : τ'.x = τ.x)
    (ht : ∀ px, τ.x = some px → τ.pd px.d = .none → τ'.pd px.d = .none ∧ a'.tmps.getD px.d undef = a.tmps.getD px.d undef ∧ a'.tmps.getD px.src undef = a.tmps.getD px.src undef ∧ (px.d ∈ ks → px.d ∈ ks' ∧ Lf' px.d = Lf px.d))
    (H : XR w imm ok τ a ks Lf) : XR w imm ok τ' a' ks' Lf' := by
  intro px hp
  rw [hx] at hp
  obtain ⟨h1, Lm, h2, h3, h4⟩ := H px hp
  obtain ⟨e1, e2, e3, e4⟩ := ht px hp h1
  refine ⟨e1, Lm, by rw [e2]; exact h2, h3, ?_⟩
  rcases h4 with ⟨h4, h5⟩ | ⟨b, o, len, cap, h4, h5⟩
  · obtain ⟨q1, q2⟩ := e4 h4
    exact .inl ⟨q1, h5.trans q2.symm⟩
  · exact .inr ⟨b, o, len, cap, e3.trans h4, h5⟩
structure SimD (c : Cx) (τ : DS) (a : Act) (w : World) : Prop where
  fr : Fr c w
  defers : a.defers = []
  size : a.tmps.size = c.m.n ∧ ∀ q ∈ c.m.st, a.tmps.getD q.1 undef = (c.gv ++ c.kv).getD q.2 undef
  ex : ∃ s, sget s = τ.s ∧ ∃ μ ks Lf, HR w c.imm c.ok μ τ.h τ.n (List.flatMap Lf ks) ∧ SR w c.imm c.ok μ τ.h τ.n s a.tmps ∧ VRl w c.imm c.ok μ τ.h τ.n c.gs c.gv ∧
    (∀ t reg, τ.pd t = some reg → t ∈ ks ∧ PR w c.imm c.ok reg (a.tmps.getD t undef) (Lf t)) ∧ XR w c.imm c.ok τ a ks Lf
section
variable {c : Cx} {σ : St} {a a' : Act} {w w' : World} {o : Oper} {τ : DS} {F : List Con} {k : KI} {dl : List (Option Tmp)}
def fcx (c : Cx) (w : World) (hw : Fr c w) (D : List Nat) (hD : ∀ b ∈ D, b < w.heap.size) : Cx where
  P := c.P
  m := c.m
  w0 := w
  imm := c.imm
  ok := fun b => c.ok b ∧ b ∉ D
  immlt := fun b hb => Nat.lt_of_lt_of_le (c.immlt b hb) hw.size
  immok := fun b hb ho => c.immok b hb ho.1
  oknew := fun b hb => ⟨c.oknew b (Nat.le_trans hw.size hb), fun hd => by have := hD b hd; omega⟩
  gs := c.gs
  gv := c.gv
  gin := c.gin
  gG := c.gG
  gJ := hw.gJ
  kv := c.kv
theorem Fr.rfl' {c : Cx} (h : c.w0 = w) : Fr c w := by subst h; exact ⟨rfl, rfl, rfl, Nat.le_refl _, fun _ _ _ => rfl, fun _ _ h => h⟩
theorem Fr.up {hw : Fr c w} {D : List Nat} {hD : ∀ b ∈ D, b < w.heap.size} (h : Fr (fcx c w hw D hD) w') : Fr c w' :=
  ⟨h.os.trans hw.os, h.tape.trans hw.tape, h.output.trans hw.output, Nat.le_trans hw.size h.size, fun k hk ho => (h.block k (Nat.lt_of_lt_of_le hk hw.size) (fun h2 => ho h2.1)).trans (hw.block k hk ho), fun b m hr => h.row b m (hw.row b m hr)⟩
theorem Fr.step (h : Fr c w') : Step c.imm c.w0 w' := ⟨fun b hb => h.block b (c.immlt b hb) (c.immok b hb), h.row⟩
theorem sub_flat {f : Nat → List Nat} : ∀ {l m : List Nat}, l.Sublist m → (l.flatMap f).Sublist (m.flatMap f)
  | _, _, .slnil => List.Sublist.refl _
  | _, _, .cons x h => by simp only [List.flatMap_cons]; exact (sub_flat h).trans (List.sublist_append_right _ _)
  | _, _, .cons_cons x h => by simp only [List.flatMap_cons]; exact List.Sublist.append (List.Sublist.refl _) (sub_flat h)
theorem flat_mem {Lf : Nat → List Nat} {ks : List Nat} {t b : Nat} (ht : t ∈ ks) (hb : b ∈ Lf t) : b ∈ ks.flatMap Lf := List.mem_flatMap.2 ⟨t, ht, hb⟩
theorem flat_split {Lf : Nat → List Nat} {t : Nat} : ∀ {ks : List Nat}, t ∈ ks → ∃ rest, (ks.flatMap Lf).Perm (Lf t ++ rest) ∧ ((ks.filter (fun x => decide (x ≠ t))).flatMap Lf).Sublist rest
  | x :: ks, h => by
    by_cases hx : x = t
    · subst hx
      refine ⟨ks.flatMap Lf, by simp, ?_⟩
      simp only [List.filter_cons, ne_eq, not_true_eq_false, decide_false, Bool.false_eq_true, ↓reduceIte]
      exact sub_flat List.filter_sublist
    · have hm : t ∈ ks := by simpa [Ne.symm hx] using h
      obtain ⟨rest, h1, h2⟩ := flat_split (Lf := Lf) hm
      refine ⟨Lf x ++ rest, ?_, ?_⟩
      · simp only [List.flatMap_cons]
        refine (List.Perm.append_left _ h1).trans ?_
        rw [← List.append_assoc, ← List.append_assoc]
        exact List.Perm.append_right _ List.perm_append_comm
      · simp only [List.filter_cons, ne_eq, hx, not_false_eq_true, decide_true, ↓reduceIte, List.flatMap_cons]
        exact List.Sublist.append (List.Sublist.refl _) h2
theorem SimD.run (H : SimD c τ a w) : ∃ (c' : Cx) (s : List (Nat × TV)) (D : List Nat) (ks : List Nat) (Lf : Nat → List Nat), c'.P = c.P ∧ c'.m = c.m ∧ c'.imm = c.imm ∧ sget s = τ.s ∧ D = List.flatMap Lf ks ∧ D.Nodup ∧ (∀ b, c'.ok b → c.ok b ∧ b ∉ D) ∧ Sim c' ⟨s, τ.h, τ.n⟩ a w ∧
    (∀ w', Fr c' w' → Fr c w') ∧ c'.gs = c.gs ∧ c'.gv = c.gv ∧ c'.kv = c.kv ∧
    (∀ (w' : World) (a' : Act) (pd' : Nat → Option Reg), Fr c' w' → (∀ t reg, pd' t = some reg → τ.pd t = some reg ∧ a'.tmps.getD t undef = a.tmps.getD t undef) → ∀ t reg, pd' t = some reg → t ∈ ks ∧ PR w' c.imm c.ok reg (a'.tmps.getD t undef) (Lf t)) ∧ XR w c.imm c.ok τ a ks Lf := by
  obtain ⟨h1, h2, h3, s, hs, μ, ks, Lf, h4, h5, h6, h7, h8⟩ := H
  have hnd := h4.nodup
  have hD' : ∃ ks', (∀ t reg, τ.pd t = some reg → t ∈ ks') ∧ (List.flatMap Lf ks').Sublist (List.flatMap Lf ks) ∧ (∀ b ∈ List.flatMap Lf ks', b < w.heap.size) ∧ XR w c.imm c.ok τ a ks' Lf := by
    classical
    have hf : ∀ (p : Nat → Prop), (∀ t, p t → t ∈ ks → ∀ b ∈ Lf t, b < w.heap.size) → (∀ t reg, τ.pd t = some reg → p t) → XR w c.imm c.ok τ a (ks.filter (fun t => decide (p t))) Lf → ∃ ks', (∀ t reg, τ.pd t = some reg → t ∈ ks') ∧ (List.flatMap Lf ks').Sublist (List.flatMap Lf ks) ∧ (∀ b ∈ List.flatMap Lf ks', b < w.heap.size) ∧ XR w c.imm c.ok τ a ks' Lf := by
      intro p hp1 hp2 hp3
      refine ⟨ks.filter (fun t => decide (p t)), fun t reg ht => List.mem_filter.2 ⟨(h7 t reg ht).1, by simpa using hp2 t reg ht⟩, sub_flat List.filter_sublist, fun b hb => ?_, hp3⟩
      obtain ⟨t, ht, hb⟩ := List.mem_flatMap.1 hb
      obtain ⟨m1, m2⟩ := List.mem_filter.1 ht
      exact hp1 t (by simpa using m2) m1 b hb
    have hpd : ∀ t, (τ.pd t).isSome = true → t ∈ ks → ∀ b ∈ Lf t, b < w.heap.size := by
      intro t ht _ b hb
      cases hp : τ.pd t with
      | none => rw [hp] at ht; simp at ht
      | some reg => exact ((h7 t reg hp).2.blocks b hb).2
    cases hx : τ.x with
    | none => exact hf (fun t => (τ.pd t).isSome = true) hpd (fun t reg ht => by rw [ht]; rfl) (XR.none hx)
    | some px =>
      obtain ⟨g1, Lm, g2, g3, g4⟩ := h8 px hx
      rcases g4 with ⟨g4, rfl⟩ | ⟨b, o, len, cap, g4, g5⟩
      · refine hf (fun t => (τ.pd t).isSome = true ∨ t = px.d) (fun t ht hk b hb => ?_) (fun t reg ht => .inl (by rw [ht]; rfl)) (fun px' hx' => ?_)
        · rcases ht with ht | rfl
          · exact hpd t ht hk b hb
          · exact (TO1.blocks g2 b hb).2
        · rw [hx] at hx'; cases hx'
          exact ⟨g1, _, g2, g3, .inl ⟨List.mem_filter.2 ⟨g4, by simp⟩, rfl⟩⟩
      · refine hf (fun t => (τ.pd t).isSome = true) hpd (fun t reg ht => by rw [ht]; rfl) (fun px' hx' => ?_)
        rw [hx] at hx'; cases hx'
        exact ⟨g1, _, g2, g3, .inr ⟨b, o, len, cap, g4, g5⟩⟩
  obtain ⟨ks', hk', hsub, hlt, hxr⟩ := hD'
  refine ⟨fcx c w h1 _ hlt, s, _, ks', Lf, rfl, rfl, rfl, hs, rfl, hnd.sublist hsub, fun b hb => hb, ⟨Fr.rfl' rfl, h2, h3, μ, (h4.dsub hsub).frame_out, fun t => VR.reok _ _ (h5 t), VRl.reok _ _ h6⟩, fun w' hf => Fr.up (hw := h1) (D := _) (hD := hlt) hf, rfl, rfl, rfl, fun w' a' pd' hf hpd t reg ht => ?_, hxr⟩
  obtain ⟨e1, e2⟩ := hpd t reg ht
  refine ⟨hk' t reg e1, ?_⟩
  rw [e2]
  have := (h7 t reg e1).2
  refine this.mono (hf.step (c := fcx c w h1 _ hlt)) (fun b hb => ?_)
  exact hf.block b (this.blocks b hb).2 (fun h => h.2 (flat_mem (hk' t reg e1) hb))
theorem SimD.back {c' : Cx} {s s' : List (Nat × TV)} {D ks : List Nat} {Lf : Nat → List Nat} {h' : Heap} {n' : Nat} {pd' : Nat → Option Reg} {x' : Option PX} (hi : c'.imm = c.imm) (hm : c'.m = c.m) (hD : D = List.flatMap Lf ks) (hnd : D.Nodup) (hok : ∀ b, c'.ok b → c.ok b ∧ b ∉ D) (hup : ∀ w', Fr c' w' → Fr c w') (hgs : c'.gs = c.gs) (hgv : c'.gv = c.gv) (hkv : c'.kv = c.kv)
    (hS : Sim c' ⟨s', h', n'⟩ a' w') (hpd : ∀ t reg, pd' t = some reg → t ∈ ks ∧ PR w' c.imm c.ok reg (a'.tmps.getD t undef) (Lf t)) (hx : XR w' c.imm c.ok ⟨sget s', pd', h', n', x'⟩ a' ks Lf) : SimD c ⟨sget s', pd', h', n', x'⟩ a' w' := by
  obtain ⟨h1, h2, h3, μ, h4, h5, h6⟩ := hS
  rw [hi] at h4 h5 h6
  refine ⟨hup _ h1, h2, by rw [← hm, ← hgv, ← hkv]; exact h3, s', rfl, μ, ks, Lf, ?_, fun t => VR.reok _ _ (h5 t), by rw [← hgs, ← hgv]; exact VRl.reok _ _ h6, hpd, hx⟩
  have := h4.frame_in (ok := c.ok) (D := D) hok (by simp) hnd
  rw [← hD]; simpa using this
theorem SimD.att : ∀ (l : List Nat) {τ : DS}, SimD c τ a w → SimD c (attF l τ) a w
  | [], τ, H => H
  | t :: ts, τ, H => by
    simp only [attF]
    cases hp : τ.pd t with
    | none => exact SimD.att ts H
    | some reg =>
      refine SimD.att ts ?_
      obtain ⟨h1, h2, h3, s, hs, μ, ks, Lf, h4, h5, h6, h7, h8⟩ := H
      obtain ⟨hk, hP⟩ := h7 t reg hp
      obtain ⟨rest, g1, g2⟩ := flat_split (Lf := Lf) hk
      have H1 := (h4.dperm g1).dsub (List.Sublist.append (List.Sublist.refl (Lf t)) g2)
      obtain ⟨m, H2, H3⟩ := hP.attach H1
      have kp : Kept (fun _ => True) c.imm c.imm c.ok c.ok w w μ (muP μ τ.n m) τ.h ((τ.n, reg) :: τ.h) τ.n (τ.n + 1) := Kept.cons (Kept.id (fun _ h => h) (fun _ h => h) (Nat.le_refl _))
      refine ⟨h1, h2, h3, (t, ptrOf reg τ.n) :: s, by rw [sget_upd, hs], muP μ τ.n m, ks.filter (fun x => decide (x ≠ t)), Lf, H2, fun u => ?_, vrl_gs kp c h6, fun u reg' hu => ?_, XR.keep (τ := τ) rfl (fun px hx hpd => ?_) h8⟩
      · rw [sget_cons]
        split
        · subst_vars; exact H3
        · exact SR.mono kp h5 u
      · have hne : u ≠ t := by
          rintro rfl
          simp only [upd_eq] at hu; simp at hu
        simp only [upd_ne hne] at hu
        obtain ⟨q1, q2⟩ := h7 u reg' hu
        exact ⟨List.mem_filter.2 ⟨q1, by simpa using hne⟩, q2⟩
      · have hne : px.d ≠ t := by rintro e; rw [e, hp] at hpd; cases hpd
        exact ⟨by simp only [upd_ne hne]; exact hpd, rfl, rfl, fun hk => ⟨List.mem_filter.2 ⟨hk, by simpa using hne⟩, rfl⟩⟩
theorem sput_ok {m : Fm} {dst : Option Nat} (h : dstOk m dst = true) (x : TV) (s : List (Nat × TV)) : ∃ s', sput m dst x s = some s' ∧ ∀ pd h' n' y, (⟨sget s', (putF dst x none ⟨sget s, pd, h', n', y⟩).pd, h', n', y⟩ : DS) = putF dst x none ⟨sget s, pd, h', n', y⟩ := by
  cases dst with
  | none => exact ⟨s, rfl, fun _ _ _ _ => rfl⟩
  | some d =>
    simp only [dstOk] at h
    refine ⟨(d, x) :: s, by simp only [sput, h, cond_true], fun pd h' n' y => ?_⟩
    simp only [putF, sget_upd]
theorem put_other {dst : Option Tmp} {v : Value} {t : Nat} (h : dst ≠ some t) : (a.put dst v).tmps.getD t undef = a.tmps.getD t undef := by
  cases dst with
  | none => rfl
  | some d =>
    have hne : t ≠ d := by rintro rfl; exact h rfl
    simp [Act.put, Array.getD_eq_getD_getElem?, Array.getElem?_setIfInBounds, Ne.symm hne]
theorem put_pd {dst : Option Tmp} {x : TV} {τ : DS} {t : Nat} {reg : Reg} (h : (putF dst x none τ).pd t = some reg) : dst ≠ some t ∧ τ.pd t = some reg := by
  cases dst with
  | none => exact ⟨by simp, h⟩
  | some d =>
    simp only [putF] at h
    by_cases e : t = d
    · subst e; simp [upd] at h
    · exact ⟨by simpa using Ne.symm e, by rwa [upd_ne e] at h⟩
def Agr (dst : Option Tmp) (a a' : Act) : Prop := ∀ t, dst ≠ some t → a'.tmps.getD t undef = a.tmps.getD t undef
theorem wp_agr {P : Program} {K' : Act → World → Prop} {Q : Exit → Act → World → Prop} (h : o.wp P a w (fun a' w' => Agr o.dst a a' → K' a' w') Q) : o.wp P a w K' Q := by
  have hp : ∀ v, Agr o.dst a (a.put o.dst v) := fun v t ht => put_other ht
  unfold Oper.wp at h ⊢
  generalize (execOp a.eval o).run P w = r at h ⊢
  cases r with
  | ok nx w' =>
    cases nx <;> simp only [Oper.upon] at h ⊢
    case value v => exact h (hp v)
    case skip => exact h (hp _)
    case enter f args =>
      refine h.mono fun e w'' he => ?_
      cases e with
      | returned v => exact he (hp v)
      | _ => exact he
    case defer d =>
      refine h fun t ht => ?_
      have := put_other (a := { a with defers := d :: a.defers }) (v := undef) ht
      exact this
    case row r args => exact Rows.mono h fun v w'' he => he (hp v)
  | halt x w' => cases x <;> simp only [Oper.upon] at h ⊢ <;> exact h
theorem wnt_ok (H : SimD c τ a w) {ops : Array Oper} (hd : ops.toList.map (·.dst) = dl) (hw : Wnt dl o τ.s) : Region.wanted o (yielded ops a.tmps) = true := by
  rcases hw with h | ⟨j, want, t, h1, h2, h3⟩
  · simp [Region.wanted, h]
  · obtain ⟨c', s, D, ks, Lf, _, _, _, hs, _, _, _, hS, _⟩ := H.run
    have := (wanted_gv (σ := ⟨s, τ.h, τ.n⟩) hS hd h2 h1 (by rw [hs]; exact h3)).1
    exact this
theorem unw_ok (H : SimD c τ a w) {ops : Array Oper} (hd : ops.toList.map (·.dst) = dl) (hw : Unw dl o τ.s) : Region.wanted o (yielded ops a.tmps) = false := by
  obtain ⟨j, want, t, h1, h2, h3⟩ := hw
  obtain ⟨c', s, D, ks, Lf, _, _, _, hs, _, _, _, hS, _⟩ := H.run
  rcases h3 with h3 | h3
  · exact (wanted_gv (σ := ⟨s, τ.h, τ.n⟩) hS hd h2 h1 (by rw [hs]; exact h3)).1
  · exact wanted_un (σ := ⟨s, τ.h, τ.n⟩) hS hd h2 h1 (by rw [hs]; exact h3)
theorem put_keep {a : Act} {τ : DS} {dst : Option Tmp} {v : Value} {x : TV} {ks : List Nat} {Lf : Nat → List Nat} {imm ok : Nat → Prop} {w : World} (hcx : ∀ px, τ.x = some px → dst ≠ some px.d ∧ dst ≠ some px.src) (H : XR w imm ok τ a ks Lf) : XR w imm ok (putF dst x none τ) (a.put dst v) ks Lf := by
  refine H.keep put_x fun px hx hpd => ?_
  obtain ⟨e1, e2⟩ := hcx px hx
  exact ⟨(put_s e1).2.trans hpd, put_other e1, put_other e2, fun h => ⟨h, rfl⟩⟩
theorem SimD.set (H : SimD c τ a w) {v : Value} {x : TV} (hdst : dstOk c.m o.dst = true) (hx : ∀ μ h n, VR w c.imm c.ok μ h n x v) (hcx : ∀ px, τ.x = some px → o.dst ≠ some px.d ∧ o.dst ≠ some px.src) : SimD c (putF o.dst x none τ) (a.put o.dst v) w := by
  obtain ⟨h1, h2, h3, s, hs, μ, ks, Lf, h4, h5, h6, h7, h8⟩ := H
  obtain ⟨s', hp, hq⟩ := sput_ok hdst x s
  obtain ⟨q1, q2, q3, _⟩ := Sim.put h1 h2 h3 (h4.dsub (List.nil_sublist _)) h5 h6 (hx μ τ.h τ.n) hp
  have hs' : sget s' = (putF o.dst x none τ).s := by
    have := congrArg DS.s (hq τ.pd τ.h τ.n τ.x)
    simp only at this
    rw [this, hs]
  have hh : (putF o.dst x none τ).h = τ.h ∧ (putF o.dst x none τ).n = τ.n := put_h
  have hS : SR w c.imm c.ok μ τ.h τ.n s' (a.put o.dst v).tmps := by
    intro t
    cases hd : o.dst with
    | none => rw [hd] at hp; simp only [sput, Option.some.injEq] at hp; subst hp; exact h5 t
    | some d =>
      rw [hd] at hp hdst
      simp only [dstOk] at hdst
      simp only [sput, hdst, cond_true, Option.some.injEq] at hp; subst hp
      rw [sget_cons]
      split
      · rename_i e
        rw [e]
        have hlt : d < a.tmps.size := by
          simp only [Bool.and_eq_true] at hdst
          rw [h3.1]; simpa [Nat.blt_eq] using hdst.1
        have : (a.put (some d) v).tmps.getD d undef = v := by simp [Act.put, Array.getD_eq_getD_getElem?, hlt]
        rw [this]; exact hx _ _ _
      · rename_i hne
        rw [put_other (by simpa using Ne.symm hne)]; exact h5 t
  refine ⟨h1, q2, q3, s', hs', μ, ks, Lf, ?_, ?_, ?_, fun t reg ht => ?_, put_keep hcx h8⟩
  · rw [hh.1, hh.2]; exact h4
  · rw [hh.1, hh.2]; exact hS
  · rw [hh.1, hh.2]; exact h6
  · obtain ⟨e1, e2⟩ := put_pd ht
    rw [put_other e1]; exact h7 t reg e2
theorem SimD.ld {P : Program} (hP : c.P = P) (H : SimD c τ a w) (hcx : ∀ px, τ.x = some px → o.dst ≠ some px.d ∧ o.dst ≠ some px.src) (hdst : dstOk c.m o.dst = true) {x : TV} (hx : ldS P o.op (evf τ.s) τ.pd = some x) : ∃ v, (execOp a.eval o).run P w = .ok (.value v) w ∧ SimD c (putF o.dst x none τ) (a.put o.dst v) w := by
  subst hP
  obtain ⟨_, _, _, s0, hs0, μ0, ks, Lf, _, h5s, _, h7, _⟩ := id H
  unfold ldS at hx
  split at hx
  · rename_i ty t ho
    split at hx
    · rename_i cs av hpd hav
      obtain ⟨hb, hx⟩ := cond_some.1 hx
      simp only [Option.some.injEq] at hx; subst hx
      obtain ⟨g, m⟩ := av
      simp only [Bool.and_eq_true, Bool.or_eq_true] at hb
      have hgm : g = true ∨ m = 1 := by
        rcases hb.1 with h | h
        · exact .inl h
        · exact .inr (Nat.eq_of_beq_eq_true h)
      have hle : m ≤ cs.length := Nat.le_of_ble_eq_true hb.2
      obtain ⟨_, b, oo, us, e1, _, _, _, h5, h6⟩ := h7 t _ hpd
      have e1 : a.eval (.tmp t) = .pointer (some ⟨b, oo, none⟩) := e1
      have hv := (h5.vrl (μ := fun _ => (⟨0, 0, false⟩ : Mu)) (h := []) (n := 0))
      have hlen : (us.take m).length = m := by rw [List.length_take, ← hv.length]; omega
      have hat : At w b oo (us.take m) := by have := h6.sub 0 m; simpa using this
      refine ⟨_, ?_, H.set hdst (fun μ h n => pack_vr (g := g) ((h5.vrl (μ := μ) (h := h) (n := n)).take m)) hcx⟩
      simp [execOp, ho, Instr.loadAt, e1, Instr.sureAddr, pack_val hav hlen hat hgm]
    · simp at hx
  · rename_i ty t y ok ho
    split at hx
    · rename_i q l q2 hpd hmp
      split at hx
      · rename_i e; subst e
        obtain ⟨a0, hk, hx⟩ := Option.map_eq_some_iff.1 hx
        subst hx
        obtain ⟨_, b, e1, _, _, hm⟩ := h7 t _ hpd
        have e1 : a.eval (.tmp t) = .map (some b) := e1
        have hyv : a.eval y = valK q.k a0 := by
          have h := SR.evl h5s y
          rw [ev_evf, hs0] at h
          exact keyV_val hk h
        refine ⟨if ok = true then .tuple #[valK q.v (mget q.k q.v l a0), .bool (mhas q.k q.v l a0)] else valK q.v (mget q.k q.v l a0), by simp [execOp, ho, e1, hyv, run_lookup_map hmp hm], H.set hdst (fun μ h n => ?_) hcx⟩
        cases ok with
        | true => simp only [cond_true, ↓reduceIte, VR]; exact ⟨[_, _], rfl, _, _, rfl, rfl, _, _, rfl, rfl, rfl⟩
        | false => simp [VR]
      · simp at hx
    · simp at hx
  · simp at hx
theorem SimD.idx {P : Program} (hP : c.P = P) (H : SimD c τ a w) (hcx : ∀ px, τ.x = some px → o.dst ≠ some px.d ∧ o.dst ≠ some px.src) {d t : Nat} {reg : Reg} (hd : o.dst = some d) (hne : d ≠ t) (hdst : dstOk c.m o.dst = true) (hx : idxS P o.op (evf τ.s) τ.pd = some (t, reg, true)) :
    ∃ v, (execOp a.eval o).run P w = .ok (.value v) w ∧ SimD c (putF o.dst .undef (some reg) (putF (some t) .undef none τ)) (a.put o.dst v) w := by
  subst hP
  obtain ⟨h1, h2, h3, s, hs, μ, ks, Lf, h4, h5, h6, h7, h8⟩ := H
  unfold idxS at hx
  split at hx
  · rename_i tt t' i ho
    split at hx
    · rename_i fr t0 l size bytes z kk j hpd ht hi
      obtain ⟨hb, hx⟩ := cond_some.1 hx
      simp only [Option.some.injEq, Prod.mk.injEq, Bool.and_eq_true, decide_eq_true_eq] at hx
      obtain ⟨rfl, rfl, h0, hl⟩ := hx
      simp only [Bool.and_eq_true, Bool.not_eq_true'] at hb
      obtain ⟨hb, hsl⟩ := hb
      have hsz : sz t0 = size := Nat.eq_of_beq_eq_true hb
      have ei : a.eval i = .int kk j := by
        have := SR.evl h5 i
        rw [ev_evf, hs, hi] at this
        exact this.p_eq
      obtain ⟨hk, m, hR, hS⟩ := h7 t' _ hpd
      have hjl : j.toNat < l.length := by omega
      have hbk := hR.bk (by rintro rfl; simp at hjl)
      obtain ⟨L', hL, g1, g2, g3⟩ := hR.rowd hbk
      obtain ⟨L1, L2, L3, _, _, ⟨us, g4, g5⟩, _⟩ := RL.at (dflt t0) hjl g3
      obtain ⟨_, g6⟩ := TRl.flat (w' := w) (imm' := c.imm) (ok' := c.ok) hsl g4
      have hmul : j.toNat * sz t0 + sz t0 ≤ l.length * sz t0 := by rw [← Nat.succ_mul]; exact Nat.mul_le_mul_right _ hjl
      rcases hS with ⟨_, hz⟩ | ⟨of, cap, e1, hcap, _, _, hoff⟩
      · omega
      obtain ⟨hof, _⟩ := hoff (by omega)
      have e1 : a.eval (.tmp t') = .slice (some ⟨m.blk, of, none⟩) l.length cap := e1
      refine ⟨.pointer (some ⟨m.blk, of + j.toNat * sz t0, none⟩), by simp [execOp, ho, e1, ei, run_indexAt_slice ht h0 hl, add_mk, hsz], ?_⟩
      have hp : sput c.m o.dst .undef s = some ((d, .undef) :: s) := by
        rw [hd] at hdst ⊢
        simp only [dstOk] at hdst
        simp only [sput, hdst, cond_true]
      obtain ⟨_, q2, q3, _⟩ := Sim.put (v := .pointer (some ⟨m.blk, of + j.toNat * sz t0, none⟩)) h1 h2 h3 (h4.dsub (List.nil_sublist _)) h5 h6 (by simp [VR]) hp
      have hlt : d < a.tmps.size := by
        rw [hd] at hdst
        simp only [dstOk, Bool.and_eq_true] at hdst
        rw [h3.1]; simpa [Nat.blt_eq] using hdst.1
      have hval : (a.put o.dst (.pointer (some ⟨m.blk, of + j.toNat * sz t0, none⟩))).tmps.getD d undef = .pointer (some ⟨m.blk, of + j.toNat * sz t0, none⟩) := by
        rw [hd]; simp [Act.put, Array.getD_eq_getD_getElem?, hlt]
      obtain ⟨rest, r1, r2⟩ := flat_split (Lf := Lf) hk
      have hh : (putF o.dst .undef (some (.box (encT t0 (l.getD j.toNat (dflt t0))))) (putF (some t') .undef none τ)).h = τ.h ∧ (putF o.dst .undef (some (.box (encT t0 (l.getD j.toNat (dflt t0))))) (putF (some t') .undef none τ)).n = τ.n := ⟨put_h.1.trans put_h.1, put_h.2.trans put_h.2⟩
      refine ⟨h1, q2, q3, (d, .undef) :: (t', .undef) :: s, by rw [hd, sget_upd, sget_upd, hs]; rfl, μ, d :: ((ks.filter (fun x => decide (x ≠ t'))).filter (fun x => decide (x ≠ d))), upd Lf d [m.blk], ?_, fun u => ?_, ?_, fun u reg hu => ?_, XR.keep (τ := τ) (put_x.trans put_x) (fun px hpx hpdn => ?_) h8⟩
      · rw [hh.1, hh.2, List.flatMap_cons, upd_eq]
        refine (h4.dperm r1).dsub (List.Sublist.append (by rw [hL]; simp) ?_)
        have : ((ks.filter (fun x => decide (x ≠ t'))).filter (fun x => decide (x ≠ d))).flatMap (upd Lf d [m.blk]) = ((ks.filter (fun x => decide (x ≠ t'))).filter (fun x => decide (x ≠ d))).flatMap Lf := fm_congr fun x hx => upd_ne (by simpa using (List.mem_filter.1 hx).2)
        rw [this]
        exact (sub_flat List.filter_sublist).trans r2
      · rw [hh.1, hh.2, sget_cons]
        split
        · simp [VR]
        · rename_i hud
          rw [sget_cons]
          split
          · simp [VR]
          · rw [put_other (by rw [hd]; simpa using Ne.symm hud)]; exact h5 u
      · rw [hh.1, hh.2]; exact h6
      · rw [hd] at hu
        simp only [putF] at hu
        by_cases hud : u = d
        · subst hud
          rw [upd_eq] at hu
          simp only [Option.some.injEq] at hu; subst hu
          refine ⟨by simp, ?_⟩
          rw [upd_eq, hval]
          refine ⟨m.blk, m.off + j.toNat * sz t0, us, by rw [hof]; simp, rfl, g1, g2.le (by rw [enc_length]; omega), g6.toCT, g5⟩
        · rw [upd_ne hud] at hu
          by_cases hut : u = t'
          · subst hut; rw [upd_eq] at hu; simp at hu
          · rw [upd_ne hut] at hu
            obtain ⟨p1, p2⟩ := h7 u reg hu
            refine ⟨by simp [p1, hud, hut], ?_⟩
            rw [upd_ne hud, put_other (by rw [hd]; simpa using Ne.symm hud)]; exact p2
      · obtain ⟨c1, c2⟩ := hcx px hpx
        have n1 : px.d ≠ d := by rintro e; exact c1 (by rw [hd, e])
        have n2 : px.d ≠ t' := by rintro e; rw [e, hpd] at hpdn; cases hpdn
        refine ⟨?_, put_other c1, put_other c2, fun hk => ⟨by simp [hk, n1, n2], upd_ne n1⟩⟩
        rw [hd]
        simp only [putF, upd_ne n1, upd_ne n2]; exact hpdn
    · simp at hx
  · rename_i t' ho
    split at hx
    · rename_i q l hpd
      simp only [Option.some.injEq, Prod.mk.injEq, and_true] at hx
      obtain ⟨rfl, rfl⟩ := hx
      obtain ⟨hk, b, e1, hLf, hokb, hm⟩ := h7 t' _ hpd
      have e1' : a.eval (.tmp t') = .map (some b) := e1
      refine ⟨.map (some b), by simp [execOp, ho, e1'], ?_⟩
      have hp : sput c.m o.dst .undef s = some ((d, .undef) :: s) := by
        rw [hd] at hdst ⊢
        simp only [dstOk] at hdst
        simp only [sput, hdst, cond_true]
      obtain ⟨_, q2, q3, _⟩ := Sim.put (v := .map (some b)) h1 h2 h3 (h4.dsub (List.nil_sublist _)) h5 h6 (by simp [VR]) hp
      have hlt : d < a.tmps.size := by
        rw [hd] at hdst
        simp only [dstOk, Bool.and_eq_true] at hdst
        rw [h3.1]; simpa [Nat.blt_eq] using hdst.1
      have hval : (a.put o.dst (.map (some b))).tmps.getD d undef = .map (some b) := by
        rw [hd]; simp [Act.put, Array.getD_eq_getD_getElem?, hlt]
      obtain ⟨rest, r1, r2⟩ := flat_split (Lf := Lf) hk
      have hh : (putF o.dst .undef (some (.mp q l)) (putF (some t') .undef none τ)).h = τ.h ∧ (putF o.dst .undef (some (.mp q l)) (putF (some t') .undef none τ)).n = τ.n := ⟨put_h.1.trans put_h.1, put_h.2.trans put_h.2⟩
      refine ⟨h1, q2, q3, (d, .undef) :: (t', .undef) :: s, by rw [hd, sget_upd, sget_upd, hs]; rfl, μ, d :: ((ks.filter (fun x => decide (x ≠ t'))).filter (fun x => decide (x ≠ d))), upd Lf d [b], ?_, fun u => ?_, ?_, fun u reg hu => ?_, XR.keep (τ := τ) (put_x.trans put_x) (fun px hpx hpdn => ?_) h8⟩
      · rw [hh.1, hh.2, List.flatMap_cons, upd_eq]
        refine (h4.dperm r1).dsub (List.Sublist.append (by rw [hLf]; exact List.Sublist.refl _) ?_)
        have : ((ks.filter (fun x => decide (x ≠ t'))).filter (fun x => decide (x ≠ d))).flatMap (upd Lf d [b]) = ((ks.filter (fun x => decide (x ≠ t'))).filter (fun x => decide (x ≠ d))).flatMap Lf := fm_congr fun x hx => upd_ne (by simpa using (List.mem_filter.1 hx).2)
        rw [this]
        exact (sub_flat List.filter_sublist).trans r2
      · rw [hh.1, hh.2, sget_cons]
        split
        · simp [VR]
        · rename_i hud
          rw [sget_cons]
          split
          · simp [VR]
          · rw [put_other (by rw [hd]; simpa using Ne.symm hud)]; exact h5 u
      · rw [hh.1, hh.2]; exact h6
      · rw [hd] at hu
        simp only [putF] at hu
        by_cases hud : u = d
        · subst hud
          rw [upd_eq] at hu
          simp only [Option.some.injEq] at hu; subst hu
          refine ⟨by simp, ?_⟩
          rw [upd_eq, hval]
          exact ⟨b, rfl, rfl, hokb, hm⟩
        · rw [upd_ne hud] at hu
          by_cases hut : u = t'
          · subst hut; rw [upd_eq] at hu; simp at hu
          · rw [upd_ne hut] at hu
            obtain ⟨p1, p2⟩ := h7 u reg hu
            refine ⟨by simp [p1, hud, hut], ?_⟩
            rw [upd_ne hud, put_other (by rw [hd]; simpa using Ne.symm hud)]; exact p2
      · obtain ⟨c1, c2⟩ := hcx px hpx
        have n1 : px.d ≠ d := by rintro e; exact c1 (by rw [hd, e])
        have n2 : px.d ≠ t' := by rintro e; rw [e, hpd] at hpdn; cases hpdn
        refine ⟨?_, put_other c1, put_other c2, fun hk => ⟨by simp [hk, n1, n2], upd_ne n1⟩⟩
        rw [hd]
        simp only [putF, upd_ne n1, upd_ne n2]; exact hpdn
    · simp at hx
  · simp at hx
theorem evV_evOp {N : Inl} {P : Program} {m : Fm} {s : List (Nat × TV)} {h : Heap} {n : Nat} {A : Ans} (H : evV P F o (ev s) h n some = some A) {s' : List (Nat × TV)} (hput : sput m o.dst A.v s = some s') : evOp P m F N o s h n some = some (⟨s', A.h, A.n⟩ : St) := by
  have plain : ((ex P o.op (ev s) h n).bind fun a => bif a.k.isNone && a.c then some a else none) = some A → ((ex P o.op (ev s) h n).bind fun A => (sput m o.dst A.v (match A.k with | some r => killS r s | none => s)).bind fun s => bif A.c then some (⟨s, A.h, A.n⟩ : St) else none) = some ⟨s', A.h, A.n⟩ := by
    intro H
    simp only [Option.bind_eq_some_iff] at H ⊢
    obtain ⟨A', h1, H⟩ := H
    obtain ⟨hb, H⟩ := cond_some.1 H
    simp only [Option.some.injEq] at H; subst H
    simp only [Bool.and_eq_true, Option.isNone_iff_eq_none] at hb
    refine ⟨A', h1, s', ?_, by rw [hb.2]; rfl⟩
    rw [hb.1]; exact hput
  unfold evV at H
  unfold evOp
  split at H
  · rename_i c hc
    cases hi : isCall o.op with
    | false =>
      rw [hi] at H
      have hi' : isCall (.call c) = false := by rw [← hc]; exact hi
      have hcl : isClear (.call c) = none := by
        cases hq : isClear (.call c) with
        | none => rfl
        | some c2 =>
          obtain ⟨e1, e2⟩ := isClear_some hq
          cases e1
          rw [hc] at H
          simp [ex, e2] at H
      simp only [hc, hi', cond_false, hcl]
      rw [← hc]
      exact plain H
    | true =>
      rw [hi] at H
      have hi' : isCall (.call c) = true := by rw [← hc]; exact hi
      simp only [hc, hi', cond_true, Option.bind_eq_some_iff] at H ⊢
      obtain ⟨q, h1, cn, h2, H⟩ := H
      cases h3 : (cn.ps.all (fun x => !x.2) && (cn.rm.isOwnF || flatA q.2)) with
      | true =>
        rw [h3] at H
        simp only [cond_true, Option.bind_eq_some_iff, Option.some.injEq] at H
        obtain ⟨x, h4, y, h5, rfl⟩ := H
        simp only [Bool.and_eq_true] at h3
        refine ⟨q, h1, ?_⟩
        rw [h2]
        simp only [h3.1, h3.2, cond_true, Option.bind_eq_some_iff]
        exact ⟨x, h4, y, h5, s', hput, rfl⟩
      | false =>
        rw [h3] at H
        simp only [cond_false] at H
        split at H
        · rename_i r0 hr0
          obtain ⟨h6, H⟩ := cond_some.1 H
          simp only [Option.bind_eq_some_iff, Option.some.injEq] at H
          obtain ⟨x, h4, y, h5, g, h7, rfl⟩ := H
          simp only [Bool.and_eq_true, Bool.not_eq_true'] at h6
          refine ⟨q, h1, ?_⟩
          rw [h2]
          simp only [h6.2, cond_false, hr0, h6.1.1.1, h6.1.1.2, h6.1.2, Bool.not_false, Bool.and_true, cond_true, Option.bind_eq_some_iff]
          exact ⟨x, h4, y, h5, g, h7, s', hput, rfl⟩
        · rename_i hr0
          cases h4 : cn.ps.all (fun x => !x.2) with
          | true => rw [h4] at H; simp at H
          | false =>
          rw [h4] at H
          simp only [cond_false] at H
          cases h5 : cn.rm.isMv with
          | true =>
            rw [h5] at H
            simp only [cond_true, Option.bind_eq_some_iff] at H
            obtain ⟨r1, h6, H⟩ := H
            obtain ⟨h7, H⟩ := cond_some.1 H
            simp only [Option.bind_eq_some_iff, Option.some.injEq] at H
            obtain ⟨x, h8, y, h9, rfl⟩ := H
            refine ⟨q, h1, ?_⟩
            rw [h2]
            simp only [h4, cond_false, hr0, h5, cond_true, Option.bind_eq_some_iff]
            refine ⟨r1, h6, ?_⟩
            rw [h7]
            simp only [cond_true, Option.bind_eq_some_iff]
            exact ⟨x, h8, y, h9, s', hput, rfl⟩
          | false =>
            rw [h5] at H
            simp only [cond_false] at H
            obtain ⟨h5b, H⟩ := cond_some.1 H
            simp only [Option.bind_eq_some_iff] at H
            obtain ⟨r1, h6, H⟩ := H
            obtain ⟨h7, H⟩ := cond_some.1 H
            simp only [Option.bind_eq_some_iff, Option.some.injEq] at H
            obtain ⟨x, h8, y, h9, g, h10, rfl⟩ := H
            refine ⟨q, h1, ?_⟩
            rw [h2]
            simp only [h4, cond_false, hr0, h5, h5b, cond_true, Option.bind_eq_some_iff]
            refine ⟨r1, h6, ?_⟩
            rw [h7]
            simp only [cond_true, Option.bind_eq_some_iff]
            exact ⟨x, h8, y, h9, g, h10, s', hput, rfl⟩
  · exact plain H
end
end Go.Tw
namespace Go.Tw
open Go Go.RowKit
variable [Grd]
theorem cast_self {t : Ty} (l : List (den t)) : cast t t l = some l := by simp [cast]
theorem decT_enc : ∀ (t : Ty) (x : den t) (r : List TV), decT t (encT t x ++ r) = some (x, r)
  | .int k, x, r => by simp [encT, decT]
  | .bool, x, r => by simp [encT, decT]
  | .str, x, r => by simp [encT, decT]
  | .un, x, r => rfl
  | .pr a b, x, r => by
    simp only [encT, decT, List.append_assoc]
    rw [decT_enc a x.1]
    simp only [Option.bind_some]
    rw [decT_enc b x.2]
    rfl
  | .sl t, x, r => by
    simp only [encT, decT, List.cons_append, List.nil_append]
    have : cast t t x = some x := cast_self x
    rw [this]; rfl
  | .ref t, x, r => by
    have : cast t t [(x : den t)] = some [x] := cast_self _
    show ((cast t t [(x : den t)]).bind fun l => some (l.headD (dflt t), r)) = some (x, r)
    rw [this]; rfl
  | .cl g t, x, r => by
    have := decT_enc t x []
    simp only [List.append_nil] at this
    simp only [encT, decT, List.cons_append, List.nil_append, this]
    simp
theorem dec1_enc (t : Ty) (x : den t) : dec1 t (encT t x) = some x := by
  have := decT_enc t x []
  rw [List.append_nil] at this
  simp only [dec1, this]
theorem spl_self {cs : List TV} {off : Nat} {c : TV} (h : off < cs.length) (hc : (cs.drop off).headD .undef = c) : spl cs off [c] = cs := by
  unfold spl
  cases hd : cs.drop off with
  | nil => have := congrArg List.length hd; simp at this; omega
  | cons y ys =>
    rw [hd] at hc; simp at hc; subst hc
    have e : cs.drop (off + [y].length) = ys := by
      have := congrArg (List.drop 1) hd
      simpa [List.drop_drop] using this
    rw [e]
    have := List.take_append_drop off cs
    rw [hd] at this
    simpa using this
section
variable {w w' : World} {imm ok : Nat → Prop} {μ : Nat → Mu} {h : Heap} {n : Nat}
theorem inn_ne {r i off : Nat} {t0 t2 : Ty} {l : List (den t0)} {l2 : List (den t2)} {v : Value} {L : List Nat} (hi : i < l.length) (hbk : (μ r).bk = true) (hcell : w.cell? ⟨(μ r).blk, (μ r).off + i * sz t0 + off, none⟩ = some v)
    (hd : ((encT t0 (l.getD i (dflt t0))).drop off).headD .undef = .tr t2 l2) (hR : RR w imm ok μ h n r (.row true t0 l) L) (hn : L.Nodup) {b o len cap : Nat} (hv : v = .slice (some ⟨b, o, none⟩) len cap) : b ≠ (μ r).blk := by
  obtain ⟨L', rfl, g1, g2, g3⟩ := hR.rowd hbk
  obtain ⟨L1, L2, L3, rfl, m1, ⟨us, m2, m3⟩, m4⟩ := RL.at (dflt t0) hi g3
  have hofl : off < (encT t0 (l.getD i (dflt t0))).length := by
    rcases Nat.lt_or_ge off (encT t0 (l.getD i (dflt t0))).length with hl | hl
    · exact hl
    · rw [List.drop_of_length_le hl] at hd; simp at hd
  obtain ⟨u1, u2, u3, La, Lb, Lc, rfl, rfl, k1, k2, c1, c2, c3⟩ := m2.toCT.win (off := off) (m := 1) (by omega)
  have htake : ((encT t0 (l.getD i (dflt t0))).drop off).take 1 = [.tr t2 l2] := by
    cases hc : (encT t0 (l.getD i (dflt t0))).drop off with
    | nil => rw [hc] at hd; simp at hd
    | cons y ys => rw [hc] at hd; simp at hd; subst hd; rfl
  rw [htake] at c2
  obtain ⟨u, us', Lx, Ly, rfl, rfl, c4, rfl, rfl⟩ := c2
  have hu : u = v := by
    obtain ⟨_, a2⟩ := At.app.1 m3
    obtain ⟨a3, _⟩ := At.cons.1 a2
    rw [k1, hcell] at a3
    simpa using a3.symm
  subst hu
  have hT := TO1.of_TRl (ok := ok) c4
  rintro rfl
  rcases hT with ⟨e, _⟩ | ⟨b, o', cap', L', e, _, _, rfl, _⟩
  · rw [hv] at e; cases e
  · rw [hv] at e
    simp only [Value.slice.injEq, Option.some.injEq, Addr.mk.injEq] at e
    obtain ⟨⟨rfl, _⟩, _⟩ := e
    exact (List.nodup_cons.1 hn).1 (by simp)
end
section
variable {c : Cx} {σ : St} {a a' : Act} {w w' : World} {o : Oper} {τ : DS} {F : List Con} {k : KI} {dl : List (Option Tmp)}
theorem SimD.owned (H : SimD c τ a w) (hx : τ.x = none) : ∃ s, sget s = τ.s ∧ ∃ μ ks Lf, HR w c.imm c.ok μ τ.h τ.n (List.flatMap Lf ks) ∧ SR w c.imm c.ok μ τ.h τ.n s a.tmps ∧ VRl w c.imm c.ok μ τ.h τ.n c.gs c.gv ∧
    (∀ t reg, τ.pd t = some reg → t ∈ ks ∧ PR w c.imm c.ok reg (a.tmps.getD t undef) (Lf t)) ∧ ∀ b ∈ List.flatMap Lf ks, b < w.heap.size := by
  obtain ⟨h1, h2, h3, s, hs, μ, ks, Lf, h4, h5, h6, h7, h8⟩ := H
  refine ⟨s, hs, μ, ks.filter (fun t => (τ.pd t).isSome), Lf, h4.dsub (sub_flat List.filter_sublist), h5, h6, fun t reg ht => ⟨List.mem_filter.2 ⟨(h7 t reg ht).1, by rw [ht]; rfl⟩, (h7 t reg ht).2⟩, fun b hb => ?_⟩
  obtain ⟨t, ht, hb⟩ := List.mem_flatMap.1 hb
  have := (List.mem_filter.1 ht).2
  cases hp : τ.pd t with
  | none => rw [hp] at this; simp at this
  | some reg => exact ((h7 t reg hp).2.blocks b hb).2
theorem frl_set {b o : Nat} {us : List Value} : FrL [b] w (setCells w b o us) := by
  have hbel : Below 0 w (setCells w b o us) := by
    have : ∀ (us : List Value) (w0 w : World) (o : Nat), Below 0 w0 w → Below 0 w0 (setCells w b o us) := by
      intro us
      induction us with
      | nil => intro _ _ _ h; exact h
      | cons u us ih => intro w0 w o h; exact ih _ _ _ (h.setCell (p := ⟨b, o, none⟩) (Nat.zero_le _) u)
    exact this us w w o (Below.refl _ _)
  exact ⟨hbel.os, hbel.tape, hbel.output, hbel.size, fun k _ hk => setCells_heap _ _ _ _ _ (by simpa using hk), fun _ _ hr => setCells_row _ _ _ _ hr⟩
theorem SimD.app (H : SimD c τ a w) (hx : τ.x = none) {px : PX} (hdst : dstOk c.m o.dst = true) (hA : apX c.P o.op o.dst (evf τ.s) τ.h = some (px, true)) :
    ∃ v w', (execOp a.eval o).run c.P w = .ok (.value v) w' ∧ SimD c (putF o.dst .undef none ⟨τ.s, τ.pd, τ.h, τ.n, some px⟩) (a.put o.dst v) w' := by
  obtain ⟨cl, x, tt, t2, rest, size, bytes, z, e2, t0, l, l2, xs, h1, D⟩ := apX_some hA
  obtain ⟨hfr, hdf, hsz, _⟩ := id H
  obtain ⟨s, hs, μ, ks, Lf, h4, h5, h6, h7, hDl⟩ := H.owned hx
  have hlt : ∀ b, c.imm b → b < w.heap.size := fun b hb => Nat.lt_of_lt_of_le (c.immlt b hb) hfr.size
  have hnew : ∀ b, w.heap.size ≤ b → c.ok b := fun b hb => c.oknew b (Nat.le_trans hfr.size hb)
  have hio : ∀ b, c.imm b → ¬ c.ok b := c.immok
  have hvs : VR w c.imm c.ok μ τ.h τ.n (.inn px.r px.i px.off) (a.eval (.tmp px.src)) := by
    have := SR.evl h5 (.tmp px.src)
    rw [ev_evf, hs, D.src] at this; exact this
  simp only [VR, D.row] at hvs
  obtain ⟨hrn, hone1, hsl0, hi, hbk, hcell⟩ := hvs
  have hvx := SR.evl h5 x
  rw [ev_evf, hs] at hvx
  obtain ⟨news, L, hsrc, _, hE, _⟩ := elems_ok (h4.dsub (List.nil_sublist _)) hvx D.els
  obtain ⟨rfl, hE⟩ := EL.flat (w' := w) (imm' := immf true c.imm) (ok' := c.ok) D.flat hE
  obtain ⟨_, _, _, _, _, _, _, _, _, hzl, hs0, hb0, hzone⟩ := tsl_some D.tsl
  rw [D.sz] at hsrc
  have hone := hE.one
  obtain ⟨L0, hR0, hnL0, hL0D, hoth, hback⟩ := HR.rewrite h4 D.row
  obtain ⟨Lx, hT, hsubL, hb⟩ := inn_back hi hbk hcell D.cell hR0 hnL0 hnew (fun b hb => hlt b hb)
  have hcond := D.c
  have hbig : (l2.length + xs.length) * bytes ≤ 1099511627776 := by
    have : decide ((l2.length + xs.length) * bytes ≤ 1099511627776) = true := hcond.symm
    simpa using this
  have hrun : ∀ {v w'}, (Builtin.append_ (tt :: t2 :: rest).toArray o.type #[a.eval (.tmp px.src), a.eval x]).run c.P w = .ok v w' → (execOp a.eval o).run c.P w = .ok (.value v) w' := by
    intro v w' h
    refine run_builtin_append D.op D.cal ?_
    have e1 : cl.argTypes = (tt :: t2 :: rest).toArray := by rw [← D.tys]
    have e2 : cl.args.map a.eval = #[a.eval (.tmp px.src), a.eval x] := by
      have : cl.args = [.tmp px.src, x].toArray := by rw [← D.args]
      rw [this]; simp
    rw [e1, e2]; exact h
  have hd2 : TypeDesc.slice e2 = .string ∨ ∃ e, TypeDesc.slice e2 = .slice e := .inr ⟨e2, rfl⟩
  have hdd := D.dst
  have hdlt : px.d < a.tmps.size := by
    rw [hdd] at hdst
    simp only [dstOk, Bool.and_eq_true] at hdst
    rw [hsz.1]; simpa [Nat.blt_eq] using hdst.1
  have fin : ∀ {w' : World} {v : Value} {Lm Lnew : List Nat}, (execOp a.eval o).run c.P w = .ok (.value v) w' → Fr c w' → HR w' c.imm c.ok μ τ.h τ.n (Lnew ++ List.flatMap Lf ks) → SR w' c.imm c.ok μ τ.h τ.n s a.tmps → VRl w' c.imm c.ok μ τ.h τ.n c.gs c.gv →
      Step c.imm w w' → (∀ b ∈ List.flatMap Lf ks, w'.heap[b]? = w.heap[b]?) → TO1 w' c.imm c.ok true (.tr px.t px.l) v Lm → Lm.Nodup → (Lm = Lnew ∨ ∃ b o len cap, a.tmps.getD px.src undef = .slice (some ⟨b, o, none⟩) len cap ∧ Lm = [b]) →
      ∃ v w', (execOp a.eval o).run c.P w = .ok (.value v) w' ∧ SimD c (putF o.dst .undef none ⟨τ.s, τ.pd, τ.h, τ.n, some px⟩) (a.put o.dst v) w' := by
    intro w' v Lm Lnew hr hfr' hH hS hg hstep hsame hTn hnn hor
    have hp : sput c.m o.dst .undef s = some ((px.d, .undef) :: s) := by
      rw [hdd] at hdst ⊢
      simp only [dstOk] at hdst
      simp only [sput, hdst, cond_true]
    obtain ⟨_, q2, q3, _⟩ := Sim.put (v := v) hfr' hdf hsz (hH.dsub (List.nil_sublist _)) hS hg (by simp [VR]) hp
    have hval : (a.put o.dst v).tmps.getD px.d undef = v := by
      rw [hdd]; simp [Act.put, Array.getD_eq_getD_getElem?, hdlt]
    refine ⟨v, w', hr, hfr', q2, q3, (px.d, .undef) :: s, by rw [hdd, sget_upd, hs]; rfl, μ, px.d :: ks.filter (fun x => decide (x ≠ px.d)), upd Lf px.d Lnew, ?_, fun t => ?_, ?_, fun t reg ht => ?_, fun px' hpx => ?_⟩
    · rw [put_h.1, put_h.2]
      refine hH.dsub ?_
      rw [List.flatMap_cons, upd_eq]
      refine List.Sublist.append (List.Sublist.refl _) ?_
      have : (ks.filter (fun x => decide (x ≠ px.d))).flatMap (upd Lf px.d Lnew) = (ks.filter (fun x => decide (x ≠ px.d))).flatMap Lf := fm_congr fun x hx => upd_ne (by simpa using (List.mem_filter.1 hx).2)
      rw [this]
      exact sub_flat List.filter_sublist
    · rw [put_h.1, put_h.2, sget_cons]
      split
      · simp [VR]
      · rename_i hne
        rw [put_other (by rw [hdd]; simpa using Ne.symm hne)]; exact hS t
    · rw [put_h.1, put_h.2]; exact hg
    · obtain ⟨e1, e2⟩ := put_pd ht
      have hne : t ≠ px.d := by rintro rfl; exact e1 hdd
      obtain ⟨g1, g2⟩ := h7 t reg e2
      refine ⟨by simp [g1, hne], ?_⟩
      rw [upd_ne hne, put_other e1]
      exact g2.mono hstep (fun b hb => hsame b (flat_mem g1 hb))
    · rw [put_x] at hpx
      cases hpx
      refine ⟨by rw [hdd]; exact upd_eq, Lm, by rw [hval]; exact hTn, hnn, ?_⟩
      rcases hor with e | ⟨b, o', len, cap, e1, e2⟩
      · exact .inl ⟨by simp, by rw [upd_eq]; exact e⟩
      · refine .inr ⟨b, o', len, cap, ?_, e2⟩
        rw [put_other (by rw [hdd]; simpa using D.ne)]; exact e1
  have out : ∀ {base : Option Addr} {sCap : Nat} {olds : List Value}, a.eval (.tmp px.src) = .slice base l2.length sCap → Src w size (.slice base l2.length sCap) l2.length olds → EL w (immf true c.imm) c.ok px.t l2 olds [] → ¬ l2.length + xs.length ≤ sCap →
      ∃ v w', (execOp a.eval o).run c.P w = .ok (.value v) w' ∧ SimD c (putF o.dst .undef none ⟨τ.s, τ.pd, τ.h, τ.n, some px⟩) (a.put o.dst v) w' := by
    intro base sCap olds evs hsO hEo hfit
    obtain ⟨cap, e, hcap, hr⟩ := run_append_out (P := c.P) (ty := o.type) (rest := rest) D.tsl D.und hd2 hsrc hsO hfit (by omega)
    rw [← evs] at hr
    have hEall := hEo.app hE
    simp only [List.append_nil] at hEall
    have hbw : Below w.heap.size w (w.drew.alloc (.cells ((olds ++ news).toArray ++ Builtin.zeroCells z.toArray (cap - (l2.length + xs.length))) e)) := (Below.refl w.heap.size w).drew.trans ((below_alloc w.drew _).mono (by show w.heap.size ≤ w.drew.heap.size; exact Nat.le_refl _))
    have kp := h4.kept_quiet hbw hlt (Nat.le_refl _)
    have hcz : ((olds ++ news).toArray ++ Builtin.zeroCells z.toArray (cap - (l2.length + xs.length))).size = cap * sz px.t := by
      have k1 := hsO.1
      have k2 := hsrc.1
      simp only [Array.size_append, List.length_append, List.size_toArray, size_zeroCells, k1, k2, hzl, ← Nat.add_mul, D.sz]
      congr 1; omega
    have hrow := Row.new w.drew ((olds ++ news).toArray ++ Builtin.zeroCells z.toArray (cap - (l2.length + xs.length))) e
    rw [hcz] at hrow
    have hrow : Row (w.drew.alloc (.cells ((olds ++ news).toArray ++ Builtin.zeroCells z.toArray (cap - (l2.length + xs.length))) e)) w.heap.size (cap * sz px.t) := hrow
    have hlen : px.l.length = l2.length + xs.length := by rw [D.eq, List.length_append]
    refine fin (Lm := [w.heap.size]) (Lnew := [w.heap.size]) (hrun hr) (hfr.below hbw) (HR.fresh hbw hlt h4 (by simp) (by simp) hDl) (SR.mono kp h5) (vrl_gs kp c h6) (Step.of_below hbw hlt) (fun b hb => hbw.block b (hDl b hb)) ?_ (by simp) (.inl rfl)
    refine .inr ⟨w.heap.size, 0, cap, [], by rw [hlen], by rw [hlen]; exact hcap, ?_, rfl, hnew _ (Nat.le_refl _), hrow.le (Nat.zero_le _), fun _ => by simpa using hrow⟩
    rw [D.eq]
    refine EL.toRL (hEall.mono (fun _ h => h) (fun _ h => h) (fun b hb => hbw.block b (hlt b hb.2)) (fun b hb => by simp at hb)) ?_
    have := At.new w.drew ((olds ++ news).toArray ++ Builtin.zeroCells z.toArray (cap - (l2.length + xs.length))) e (us := olds ++ news) (o := 0) (fun j u hj => by
      have hjl : j < (olds ++ news).length := by
        rcases Nat.lt_or_ge j (olds ++ news).length with h | h
        · exact h
        · rw [List.getElem?_eq_none h] at hj; simp at hj
      rw [Nat.zero_add, Array.getElem?_append_left (by simpa using hjl)]; simpa using hj)
    exact this
  rcases id hT with ⟨evs, rfl, rfl⟩ | ⟨b, of, cap, L', evs, hcapl, hRL, rfl, hokb, hrowo, hrowc⟩
  · have evs : a.eval (.tmp px.src) = .slice none 0 0 := evs
    by_cases hx0 : xs = []
    · subst hx0
      have hr := run_append_nil (P := c.P) (w := w) (ty := o.type) (rest := rest) D.tsl D.und hd2 (x := a.eval x) (news := news) (by simpa using hsrc)
      rw [← evs] at hr
      exact fin (Lm := []) (Lnew := []) (hrun hr) hfr (by simpa using h4) h5 h6 (Step.refl _ _) (fun _ _ => rfl) (.inl ⟨evs, by rw [D.eq]; rfl, rfl⟩) (by simp) (.inl rfl)
    · have hn : 0 < xs.length := List.length_pos_iff.2 hx0
      exact out (base := none) (sCap := 0) (olds := []) (by simpa using evs) ⟨by simp, .inl ⟨0, rfl, rfl⟩⟩ ⟨rfl, rfl⟩ (by simp; omega)
  · obtain ⟨olds, e1, e2⟩ := RL.toEL hRL
    obtain ⟨rfl, hEo⟩ := EL.flat (w' := w) (imm' := immf true c.imm) (ok' := c.ok) D.flat e1
    have evs : a.eval (.tmp px.src) = .slice (some ⟨b, of, none⟩) l2.length cap := evs
    have holl := hEo.length
    have hne : b ≠ (μ px.r).blk := inn_ne hi hbk hcell D.cell hR0 hnL0 evs
    by_cases hfit : l2.length + xs.length ≤ cap
    · have hlc : (l2.length + xs.length) * sz px.t ≤ cap * sz px.t := Nat.mul_le_mul_right _ hfit
      have hrow : Row w b (of + (l2.length + xs.length) * sz px.t) := by
        rcases Nat.eq_zero_or_pos cap with h0 | h0
        · have : l2.length + xs.length = 0 := by omega
          rw [this]; simpa using hrowo
        · exact (hrowc h0).le (by omega)
      have hr := run_append_in (P := c.P) (w := w) (ty := o.type) (rest := rest) D.tsl D.und hd2 (b := b) (o := of) (sLen := l2.length) (sCap := cap) (x := a.eval x) hsrc hfit (by rw [← D.sz]; exact hrow) hone
      rw [← evs, ← D.sz] at hr
      rw [← D.sz] at hsrc
      have hstep : Step c.imm w (setCells w b (of + l2.length * sz px.t) news) := setCells_step _ _ (fun hb => hio _ hb hokb)
      have hlow : ∀ b', immf true c.imm b' → (setCells w b (of + l2.length * sz px.t) news).heap[b']? = w.heap[b']? := fun b' hb => hstep.low b' hb.2
      have hnl : news.length = xs.length * sz px.t := hsrc.1
      have hato : At (setCells w b (of + l2.length * sz px.t) news) b of olds := by
        intro j u hj
        have hjl : j < olds.length := by
          rcases Nat.lt_or_ge j olds.length with h | h
          · exact h
          · rw [List.getElem?_eq_none h] at hj; simp at hj
        rw [setCells_cell _ _ _ _ _ (by left; omega)]
        exact e2 j u hj
      have hatn : At (setCells w b (of + l2.length * sz px.t) news) b (of + l2.length * sz px.t) news := setCells_get news w b _ (hrow.le (by rw [hnl, Nat.add_mul]; omega))
      have hEo' : EL (setCells w b (of + l2.length * sz px.t) news) (immf true c.imm) c.ok px.t l2 olds [] := hEo.mono (fun _ h => h) (fun _ h => h) hlow (fun b hb => by simp at hb)
      have hEall : EL (setCells w b (of + l2.length * sz px.t) news) (immf true c.imm) c.ok px.t (l2 ++ xs) (olds ++ news) [] := by
        have := (hEo.app hE).mono (imm' := immf true c.imm) (ok' := c.ok) (w' := setCells w b (of + l2.length * sz px.t) news) (fun _ h => h) (fun _ h => h) hlow (fun b hb => by simp at hb)
        simpa using this
      have hofl : px.off < (encT t0 (l.getD px.i (dflt t0))).length := by
        rcases Nat.lt_or_ge px.off (encT t0 (l.getD px.i (dflt t0))).length with hl | hl
        · exact hl
        · have := D.cell; rw [List.drop_of_length_le hl] at this; simp at this
      have hrow1 := setCells_row news w b (of + l2.length * sz px.t) hrowo
      obtain ⟨L2, g1, g2, g3⟩ := hb (w' := setCells w b (of + l2.length * sz px.t) news) (imm0 := c.imm) (l' := l2) (Lm' := [b]) (h' := hset τ.h px.r (.row true t0 l)) (e := l.getD px.i (dflt t0)) frl_set
        (.inr ⟨b, of, cap, [], evs, hcapl, EL.toRL (EL.flat (imm' := immf true c.imm) (ok' := okL [b] w) D.flat hEo').2 hato, rfl, .inl (by simp), hrow1, fun h0 => setCells_row _ _ _ _ (hrowc h0)⟩) (by simp) (by rw [spl_self hofl D.cell]; exact dec1_enc _ _)
      have hset_self : l.set px.i (l.getD px.i (dflt t0)) = l := by
        refine List.ext_getElem? fun j => ?_
        rw [List.getElem?_set]
        by_cases hj : px.i = j
        · subst hj; simp [hi]
        · simp [hj]
      rw [hset_self] at g1
      obtain ⟨hH, kp⟩ := hback (w' := setCells w b (of + l2.length * sz px.t) news) (x' := .row true t0 l) (K := fun _ => True) (L' := L2) (Fit.refl _) hstep (fun b' hb' hn' => setCells_heap _ _ _ _ _ (fun e => hn' (by subst e; exact hsubL.subset (by simp))))
        (fun fr t l _ _ _ _ => setCells_heap _ _ _ _ _ (Ne.symm hne)) (fun _ _ _ _ => innOkl_true _) hDl (fun _ => g1) g2 (fun b' hb' => .inl (by
          rcases g3 b' hb' with h | h
          · simp at h; subst h; exact hsubL.subset (by simp)
          · exact h.1)) (E := []) (by simp) (by simp)
      have hcong : ∀ r', hget τ.h r' = hget (hset τ.h px.r (.row true t0 l)) r' := by
        intro r'
        rw [hget_hset]
        split
        · subst_vars; exact D.row
        · rfl
      have hlen : px.l.length = l2.length + xs.length := by rw [D.eq, List.length_append]
      refine fin (Lm := [b]) (Lnew := []) (hrun hr) (hfr.set news hokb) (by simpa using hH.congr hcong) (SR.congr hcong (SR.mono kp h5)) (VRl.congr hcong (vrl_gs kp c h6)) hstep (fun b' hb' => setCells_heap _ _ _ _ _ (fun e => by subst e; exact hL0D _ (hsubL.subset (by simp)) hb')) ?_ (by simp) (.inr ⟨b, of, _, _, evs, rfl⟩)
      refine .inr ⟨b, of, cap, [], by rw [hlen], by rw [hlen]; exact hfit, ?_, rfl, hokb, hrow1, fun h0 => setCells_row _ _ _ _ (hrowc h0)⟩
      rw [D.eq]
      exact EL.toRL hEall (At.app.2 ⟨hato, by rw [holl]; exact hatn⟩)
    · refine out (base := some ⟨b, of, none⟩) (sCap := cap) (olds := olds) evs ⟨by rw [holl, D.sz], .inr (.inl ⟨_, _, rfl, fun j u hj => ?_⟩)⟩ hEo hfit
      rw [add_mk]
      exact e2 j u hj
end
end Go.Tw
namespace Go.Tw
open Go Go.RowKit
variable [Grd]
section
variable {c : Cx} {σ : St} {a a' : Act} {w w' : World} {o : Oper} {τ : DS} {F : List Con} {k : KI} {dl : List (Option Tmp)}
theorem killF_eq (r : Nat) (s : List (Nat × TV)) : sget (killS r s) = killF r (sget s) := by
  funext t
  rw [sget_killS]; rfl
theorem SimD.sto (H : SimD c τ a w) {px : PX} (hx : τ.x = some px) {t : TypeId} {x : Operand} {t0 t2 : Ty} {l : List (den t0)} {l2 : List (den t2)} {r i off : Nat} {e : den t0} (S : StX c.P o τ px t x t0 t2 l l2 r i off e) :
    ∃ w', (execOp a.eval o).run c.P w = .ok .skip w' ∧ SimD c ⟨killF r τ.s, τ.pd, killH r (hset τ.h r (.row true t0 (l.set i e))), τ.n, none⟩ (a.put o.dst undef) w' := by
  obtain ⟨hfr, hdf, hsz, s, hs, μ, ks, Lf, h4, h5, h6, h7, h8⟩ := H
  obtain ⟨hpn, Lm, hT, hnn, hor⟩ := h8 px hx
  have hio : ∀ b, c.imm b → ¬ c.ok b := c.immok
  have hva := SR.evl h5 x
  rw [ev_evf, hs, S.adr] at hva
  simp only [VR, S.row] at hva
  obtain ⟨hrn, A, e1, rfl⟩ := hva
  have hvs := h5 px.src
  rw [hs, S.src] at hvs
  simp only [VR, S.row] at hvs
  obtain ⟨_, hone1, hsl0, hi, hbk, hcell⟩ := hvs
  obtain ⟨v, hvd⟩ : ∃ v, v = a.tmps.getD px.d undef := ⟨_, rfl⟩
  rw [← hvd] at hT
  have hvc : v.cells = [v].toArray ∧ v.oneCell' = true := by
    rcases hT with ⟨rfl, _⟩ | ⟨b, o', cap, L', rfl, _⟩ <;> exact ⟨rfl, rfl⟩
  have hct : CT w (immf true c.imm) c.ok [.tr px.t px.l] [v] Lm := ⟨v, [], Lm, [], rfl, by simp, hT.to_TRl, rfl, rfl⟩
  have go : ∀ (D1 D : List Nat), HR w c.imm c.ok μ τ.h τ.n (D1 ++ D) → (∀ Lx, TRl w (immf true c.imm) c.ok (.sl t2) l2 [a.tmps.getD px.src undef] Lx → ∀ b ∈ Lm, b ∈ D1 ∨ b ∈ Lx) → ∀ ks', (List.flatMap Lf ks').Sublist D → (∀ t, t ∈ ks → t ≠ px.d → t ∈ ks') →
      ∃ w', (execOp a.eval o).run c.P w = .ok .skip w' ∧ SimD c ⟨killF r τ.s, τ.pd, killH r (hset τ.h r (.row true t0 (l.set i e))), τ.n, none⟩ (a.put o.dst undef) w' := by
    intro D1 D hH hown ks' hsub hks
    have hk2 := HR.kill r hH
    have hgk : hget (killH r τ.h) r = some (.row true t0 l) := by rw [hget_killH, S.row]; rfl
    obtain ⟨p1, p2, p2', p3, p4⟩ := HR.inn (D1 := D1) (D := D) hio hk2 hgk (fun r' cs hne hcs => by
      rw [hget_killH, Option.map_eq_some_iff] at hcs
      obtain ⟨z, _, hz⟩ := hcs
      cases z with
      | row => simp at hz
      | mp => simp at hz
      | box cs' => simp only [Reg.box.injEq] at hz; subst hz; exact innOkl_kill r _) hi S.cell hcell hct hnn hown S.dec
    have hcong : ∀ r', hget (killH r (hset τ.h r (.row true t0 (l.set i e)))) r' = hget (hset (killH r τ.h) r (.row true t0 (l.set i e))) r' := by
      intro r'
      rw [hget_killH, hget_hset, hget_hset]
      split
      · rfl
      · rw [hget_killH]
    have hSR := SR.monoK (K := (· ≠ r)) p4 (fun t => by rw [sget_killS]; exact innOk_kill r _) (SR.killed r h5)
    have hdst : a.put o.dst undef = a := by rw [S.dst]; rfl
    rw [hdst]
    refine ⟨setCells w (μ r).blk ((μ r).off + i * sz t0 + off) [v], ?_, hfr.set [v] p2, hdf, hsz, killS r s, by rw [killF_eq, hs], μ, ks', Lf, (p3.congr hcong).dsub hsub, SR.congr hcong hSR, VRl.congr hcong (vrl_gs p4 c (vrl_gs (Kept.kill r) c h6)), fun t reg ht => ?_, XR.none rfl⟩
    · have := run_storeVar (P := c.P) (w := w) S.tv hvc.1 (by simp) p1 (by simpa using hvc.2)
      have ev : a.eval (.tmp px.d) = v := hvd.symm
      simp [execOp, S.op, e1, Instr.storeAt, Instr.sureAddr, ev, this]
    · obtain ⟨g1, g2⟩ := h7 t reg ht
      have hne : t ≠ px.d := by rintro rfl; rw [hpn] at ht; cases ht
      have g3 := hks t g1 hne
      refine ⟨g3, g2.mono (setCells_step _ _ (fun hb => hio _ hb p2)) (fun b hb => setCells_heap _ _ _ _ _ ?_)⟩
      rintro rfl
      exact p2' (List.mem_append_right _ (hsub.subset (flat_mem g3 hb)))
  rcases hor with ⟨hk, rfl⟩ | ⟨b, o', len, cap, hu, rfl⟩
  · obtain ⟨rest, g1, g2⟩ := flat_split (Lf := Lf) hk
    exact go (Lf px.d) rest (h4.dperm g1) (fun _ _ b hb => .inl hb) (ks.filter (fun x => decide (x ≠ px.d))) g2 (fun t h1 h2 => List.mem_filter.2 ⟨h1, by simpa using h2⟩)
  · refine go [] (List.flatMap Lf ks) (by simpa using h4) (fun Lx hTx b' hb' => .inr ?_) ks (List.Sublist.refl _) (fun t h1 _ => h1)
    have hTx := TO1.of_TRl (ok := c.ok) hTx
    rcases hTx with ⟨e, _⟩ | ⟨b2, o2, cap2, L', e, _, _, rfl, _⟩
    · rw [hu] at e; cases e
    · rw [hu] at e
      simp only [Value.slice.injEq, Option.some.injEq, Addr.mk.injEq] at e
      obtain ⟨⟨rfl, _⟩, _⟩ := e
      simp at hb'; simp [hb']
theorem SimD.ins (H : SimD c τ a w) (hx : τ.x = none) (hd : o.dst = none) {t : Nat} {reg : Reg} (hI : insS c.P o.op (evf τ.s) τ.pd = some (t, reg, true)) :
    ∃ w', (execOp a.eval o).run c.P w = .ok .skip w' ∧ SimD c (putF (some t) .undef (some reg) τ) (a.put o.dst undef) w' := by
  obtain ⟨ty, y, z, q, l, a0, b0, D⟩ := insS_some.1 hI
  obtain ⟨h1, h2, h3, s, hs, μ, ks, Lf, h4, h5, h6, h7, h8⟩ := H
  obtain ⟨hk, b, e1, hLf, hokb, hm⟩ := h7 t _ D.sl
  have e1' : a.eval (.tmp t) = .map (some b) := e1
  have hyv : a.eval y = valK q.k a0 := by
    have h := SR.evl h5 y
    rw [ev_evf, hs] at h
    exact keyV_val D.ky h
  have hzv : a.eval z = valK q.v b0 := by
    have h := SR.evl h5 z
    rw [ev_evf, hs] at h
    exact keyV_val D.vl h
  obtain ⟨ob, hrun, hm'⟩ := run_update_map (a := a0) (x := b0) D.mp hm
  have hoth : ∀ b', b' ≠ b → ({ w with heap := w.heap.setIfInBounds b ob } : World).heap[b']? = w.heap[b']? := fun b' hne => by
    show (w.heap.setIfInBounds b ob)[b']? = _
    simp [Ne.symm hne]
  obtain ⟨_, _, _, es, cl, hbm, _⟩ := id hm
  have hstep : Step c.imm w { w with heap := w.heap.setIfInBounds b ob } := ⟨fun b' hb => hoth b' (fun e => c.immok _ hb (by rw [e]; exact hokb)), fun b' m hr => hr.same (hoth b' (fun e => by
    obtain ⟨cs, tt, ff, hc1, _⟩ := hr
    rw [e, hbm] at hc1
    simp at hc1))⟩
  have hbm2 : b ∈ List.flatMap Lf ks := flat_mem hk (by rw [hLf]; simp)
  obtain ⟨h4', kp⟩ := h4.dset hstep (fun k hn _ => hoth k (fun e => hn (by rw [e]; exact hbm2)))
  have hput : a.put o.dst undef = a := by rw [hd]; rfl
  have hrun' : (execOp a.eval o).run c.P w = .ok .skip { w with heap := w.heap.setIfInBounds b ob } := by
    simp [execOp, D.op, e1', hyv, hzv, hrun]
  refine ⟨_, hrun', ?_⟩
  rw [hput]
  refine ⟨⟨h1.os, h1.tape, h1.output, by have := h1.size; simpa using this, fun b' hb' hn => (hoth b' (fun e => hn (by rw [e]; exact hokb))).trans (h1.block b' hb' hn), fun b' m hr => hstep.row b' m (h1.row b' m hr)⟩, h2, h3, (t, .undef) :: s, by rw [sget_upd, hs]; rfl, μ, ks, Lf, h4', fun u => ?_, vrl_gs kp c h6, fun u reg' hu => ?_, XR.none hx⟩
  · rw [sget_cons]
    split
    · show VR _ _ _ _ _ _ .undef _
      simp [VR]
    · exact SR.mono kp h5 u
  · by_cases hut : u = t
    · subst hut
      have hu : upd τ.pd u (some reg) u = some reg' := hu
      rw [upd_eq] at hu
      simp only [Option.some.injEq] at hu; subst hu
      rw [D.reg]
      exact ⟨hk, b, e1, hLf, hokb, hm'.perm (mset_sins (ordB_sc D.ord) D.new)⟩
    · have hu : upd τ.pd t (some reg) u = some reg' := hu
      rw [upd_ne hut] at hu
      obtain ⟨p1, p2⟩ := h7 u reg' hu
      refine ⟨p1, p2.mono hstep fun b' hb' => hoth b' ?_⟩
      rintro rfl
      obtain ⟨rest, r1, r2⟩ := flat_split (Lf := Lf) hk
      have hnd := r1.nodup_iff.1 h4.nodup
      have hin : b' ∈ rest := r2.subset (flat_mem (List.mem_filter.2 ⟨p1, by simpa using hut⟩) hb')
      exact (List.nodup_append.1 hnd).2.2 b' (by rw [hLf]; simp) b' hin rfl
theorem App.sound {P : Program} {m : Fm} (hP : c.P = P) (hm : c.m = m) (hF : ∀ cn ∈ F, ConOk P cn) {ops : Array Oper} (hd : ops.toList.map (·.dst) = dl) {τ' : DS} (H : App P F m dl o k τ τ') (hs : SimD c τ a w) {K' : Act → World → Prop} {Q : Exit → Act → World → Prop}
    (hK : ∀ a' w', SimD c τ' a' w' → K' a' w') : if Region.wanted o (yielded ops a.tmps) then o.wp P a w K' Q ∨ (o.asks P a w ∧ LetsOut Q) else K' (a.put o.dst undef) w := by
  subst hP hm
  have hput : ∀ {x : TV} {τ : DS} {a' : Act}, Agr o.dst a a' → ∀ t reg, (putF o.dst x none τ).pd t = some reg → τ.pd t = some reg ∧ a'.tmps.getD t undef = a.tmps.getD t undef := fun ha t reg ht => ⟨(put_pd ht).2, ha t (put_pd ht).1⟩
  cases H with
  | ins hkn hv hdn _ hg hx I =>
    rw [wnt_ok hs hd (.inl hg)]
    simp only [↓reduceIte]
    refine .inl ?_
    obtain ⟨w', hr, hS2⟩ := SimD.ins hs hx hdn I
    unfold Oper.wp
    rw [hr]
    exact hK _ _ hS2
  | sto hkn hv hw hx S =>
    rw [wnt_ok hs hd hw]
    simp only [↓reduceIte]
    refine .inl ?_
    obtain ⟨w', hr, hS2⟩ := SimD.sto hs hx S
    unfold Oper.wp
    rw [hr]
    exact hK _ _ hS2
  | @lig x p tk _ hv hdst L hcx0 =>
    have hcx : ∀ px, τ.x = some px → o.dst ≠ some px.d ∧ o.dst ≠ some px.src := fun px h => ⟨(hcx0 px h).1, (hcx0 px h).2.1⟩
    cases L with
    | idx t reg hw hx hsome hne _ =>
      rw [wnt_ok hs hd hw]
      simp only [↓reduceIte]
      refine .inl ?_
      cases hdd : o.dst with
      | none => rw [hdd] at hsome; simp at hsome
      | some d =>
      obtain ⟨v, hr, hS2⟩ := SimD.idx rfl hs hcx hdd (fun e => hne (by rw [hdd, e])) hdst hx
      unfold Oper.wp
      rw [hr]
      exact hK _ _ hS2
    | ld _ hw hx =>
      rw [wnt_ok hs hd hw]
      simp only [↓reduceIte]
      refine .inl ?_
      obtain ⟨v, hr, hS2⟩ := SimD.ld rfl hs hcx hdst hx
      unfold Oper.wp
      rw [hr]
      exact hK _ _ hS2
    | skip hu =>
      rw [unw_ok hs hd hu]
      simp only [Bool.false_eq_true, ↓reduceIte]
      exact hK _ _ (SimD.set hs hdst (fun μ h n => by simp [VR, VRl, undef]) hcx)
    | alc reg hw hpd hal hsome hk1 =>
      have hxn : τ.x = none := by
        cases hx : τ.x with
        | none => rfl
        | some px => exact absurd hk1 (hcx0 px hx).2.2
      rw [wnt_ok hs hd hw]
      simp only [↓reduceIte]
      refine .inl ?_
      obtain ⟨c', s, D, ks, Lf, e1, e2, e3, e4, e5, e6, e7, hS, e8, e9, e10, e13, e11, e12⟩ := hs.run
      rw [← e4, ← ev_evf] at hal
      cases hdd : o.dst with
      | none => rw [hdd] at hsome; simp at hsome
      | some d =>
      have hp : sput c'.m o.dst (ptrOf reg τ.n) s = some ((d, ptrOf reg τ.n) :: s) := by
        rw [e2, hdd]
        rw [hdd] at hdst
        simp only [dstOk] at hdst
        simp only [sput, hdst, cond_true]
      obtain ⟨nx, w', hr, _, hres⟩ := ex_ok (σ := ⟨s, τ.h, τ.n⟩) hS o (by rw [e1]; exact alc_ex hal) rfl hp
      rw [e1] at hr
      have hfin : ∀ v, Sim c' ⟨(d, ptrOf reg τ.n) :: s, (τ.n, reg) :: τ.h, τ.n + 1⟩ (a.put o.dst v) w' → SimD c (putF o.dst .undef (some reg) τ) (a.put o.dst v) w' := by
        intro v hS2
        obtain ⟨_, _, _, μ0, p4, p5, p6⟩ := id hS
        obtain ⟨q1, q2, q3, μ, q4, q5, q6⟩ := hS2
        have hn := p4.nomore
        obtain ⟨L, r1, r2⟩ := HR.pop p4 q4
        rw [e3] at r1 r2
        have hPR : PR w' c.imm c'.ok reg ((a.put o.dst v).tmps.getD d undef) L := by
          have := q5 d
          rw [sget_cons, if_pos rfl, e3] at this
          exact PR.of (alcS_flat hal) r1 this
        have hLD : ∀ b ∈ L, b ∉ D := fun b hb => (e7 b (hPR.blocks b hb).1).2
        have H1 := r2.frame_in (ok := c.ok) (D := D) e7 hLD e6
        have hpR' : PR w' c.imm c.ok reg ((a.put o.dst v).tmps.getD d undef) L := by
          cases reg with
          | row fr t l =>
            obtain ⟨m, g1, g2⟩ := hPR
            exact ⟨m, g1.reok (fun b hb => (e7 b (g1.blocks b hb).1).1), g2⟩
          | box cs =>
            obtain ⟨b, oo, us, g1, g2, g3, g4, g5, g6⟩ := hPR
            refine ⟨b, oo, us, g1, g2, (e7 b g3).1, g4, ?_, g6⟩
            exact CT.of_vrl (alcS_flat hal _ rfl) (VRl.reok (μ := fun _ => (⟨0, 0, false⟩ : Mu)) (h := []) (n := 0) _ _ g5.vrl)
          | mp k l =>
            obtain ⟨b, g1, g2, g3, g4⟩ := hPR
            exact ⟨b, g1, g2, (e7 b g3).1, g4⟩
        have hsl : ∀ t, t ≠ d → VR w' c.imm c.ok μ τ.h τ.n (sget s t) ((a.put o.dst v).tmps.getD t undef) := by
          intro t ht
          have := q5 t
          rw [sget_cons, if_neg ht, e3] at this
          exact VR.reok _ _ (VR.low hn _ _ _ (p5 t) this)
        refine ⟨e8 _ q1, q2, by rw [← e2, ← e10, ← e13]; exact q3, (d, .undef) :: s, by rw [hdd, sget_upd, e4]; rfl, μ, d :: ks.filter (fun x => decide (x ≠ d)), upd Lf d L, ?_, fun t => ?_, ?_, fun t reg' ht => ?_, XR.none (put_x.trans hxn)⟩
        · have hh : (putF o.dst .undef (some reg) τ).h = τ.h ∧ (putF o.dst .undef (some reg) τ).n = τ.n := put_h
          rw [hh.1, hh.2]
          refine H1.dsub ?_
          rw [List.flatMap_cons, upd_eq, e5]
          refine List.Sublist.append (List.Sublist.refl _) ?_
          have : (ks.filter (fun x => decide (x ≠ d))).flatMap (upd Lf d L) = (ks.filter (fun x => decide (x ≠ d))).flatMap Lf := fm_congr fun x hx => upd_ne (by simpa using (List.mem_filter.1 hx).2)
          rw [this]
          exact sub_flat List.filter_sublist
        · have hh : (putF o.dst .undef (some reg) τ).h = τ.h ∧ (putF o.dst .undef (some reg) τ).n = τ.n := put_h
          rw [hh.1, hh.2, sget_cons]
          split
          · simp [VR]
          · rename_i ht; exact hsl t ht
        · have hh : (putF o.dst .undef (some reg) τ).h = τ.h ∧ (putF o.dst .undef (some reg) τ).n = τ.n := put_h
          rw [hh.1, hh.2, ← e9, ← e10]
          rw [e3] at q6
          exact VRl.reok _ _ (VRl.low hn _ _ _ p6 q6)
        · rw [hdd] at ht
          simp only [putF] at ht
          by_cases htd : t = d
          · subst htd
            rw [upd_eq] at ht
            simp only [Option.some.injEq] at ht; subst ht
            exact ⟨by simp, by rw [upd_eq]; exact hpR'⟩
          · rw [upd_ne htd] at ht
            have := e11 w' (a.put o.dst v) (fun u => if u = d then none else τ.pd u) q1 (fun u reg'' hu => by
              by_cases hud : u = d
              · simp [hud] at hu
              · simp only [hud, ↓reduceIte] at hu
                exact ⟨hu, put_other (dst := o.dst) (by rw [hdd]; simpa using Ne.symm hud)⟩) t reg' (by simpa [htd] using ht)
            exact ⟨by simp [this.1, htd], by rw [upd_ne htd]; exact this.2⟩
      unfold Oper.wp
      rw [hr]
      rcases hres with ⟨v, rfl, hS2⟩ | ⟨rfl, hS2⟩
      · exact hK _ _ (hfin v hS2)
      · exact hK _ _ (hfin _ hS2)
    | free A hw hpd hst hex hc hrd =>
      rw [wnt_ok hs hd hw]
      simp only [↓reduceIte]
      refine .inl ?_
      obtain ⟨c', s, D, ks, Lf, e1, e2, e3, e4, e5, e6, e7, hS, e8, e9, e10, e13, e11, e12⟩ := hs.run
      rw [← e4, ← ev_evf] at hex
      obtain ⟨i1, i2, i3, _⟩ := HI (h' := τ.h) (n' := τ.n) hst hex (fun _ _ => rfl)
      obtain ⟨s', hp, hq⟩ := sput_ok (e2 ▸ hdst) A.v s
      obtain ⟨nx, w', hr, hstl, hres⟩ := ex_ok (σ := ⟨s, τ.h, τ.n⟩) hS o (by rw [e1]; exact hex) hc (by unfold Go.Tw.ks; rw [i3]; exact hp)
      have hww : w' = w := by
        have := hstl hst w (Below.refl _ _)
        rw [hr] at this
        simpa using this
      subst hww
      rw [e1] at hr
      have hfin : ∀ v, Sim c' ⟨s', A.h, A.n⟩ (a.put o.dst v) w' → SimD c (putF o.dst A.v none τ) (a.put o.dst v) w' := by
        intro v hS2
        rw [i1, i2] at hS2
        have hxr := put_keep (v := v) (x := A.v) hcx e12
        have := SimD.back (c := c) (pd' := (putF o.dst A.v none ⟨sget s, τ.pd, τ.h, τ.n, τ.x⟩).pd) (x' := τ.x) (s := s) e3 e2 e5 e6 e7 e8 e9 e10 e13 hS2 (e11 _ _ _ hS2.fr (hput (fun t ht => put_other ht))) (by
          rw [hq, e4]
          exact hxr)
        rw [hq] at this
        rw [show τ = ⟨sget s, τ.pd, τ.h, τ.n, τ.x⟩ by rw [e4]]
        exact this
      unfold Oper.wp
      rw [hr]
      rcases hres with ⟨v, rfl, hS2⟩ | ⟨rfl, hS2⟩
      · exact hK _ _ (hfin v hS2)
      · exact hK _ _ (hfin _ hS2)
  | @hvy A y hv hdst V hxn =>
    rw [wnt_ok hs hd V.wnt]
    simp only [↓reduceIte]
    refine .inl (wp_agr ?_)
    have hs1 := SimD.att (opT o.op) hs
    have hx1 : (attF (opT o.op) τ).x = none := (att_x _ _).trans hxn
    rcases V.ev with ⟨rfl, _, hev⟩ | ⟨px, rfl, hap, rfl⟩
    · obtain ⟨c', s, D, ks, Lf, e1, e2, e3, e4, e5, e6, e7, hS, e8, e9, e10, e13, e11, e12⟩ := hs1.run
      rw [← e4, ← ev_evf] at hev
      obtain ⟨s', hp, hq⟩ := sput_ok (e2 ▸ hdst) A.v s
      have hevo := evV_evOp (N := fun _ _ _ _ _ _ => none) (m := c'.m) hev hp
      rw [← e1] at hevo
      have hF' : ∀ cn ∈ F, ConOk c'.P cn := by rw [e1]; exact hF
      have := evOp_ok (N := fun _ _ _ _ _ _ => none) (fun _ _ _ _ _ _ _ _ _ h => by cases h) hF' (K := some) hS hevo (K' := fun a' w' => Agr o.dst a a' → K' a' w') (Q := Q) fun σ' a' w' hσ hS2 ha => by
        simp only [Option.some.injEq] at hσ; subst hσ
        refine hK _ _ ?_
        have := SimD.back (c := c) (pd' := (putF o.dst A.v none ⟨sget s, (attF (opT o.op) τ).pd, A.h, A.n, none⟩).pd) (x' := none) (s := s) e3 e2 e5 e6 e7 e8 e9 e10 e13 hS2 (e11 w' _ _ hS2.fr (hput ha)) (XR.none rfl)
        rw [hq] at this
        rw [← e4]
        exact this
      rw [e1] at this
      exact this
    · obtain ⟨v, w', hr, hS2⟩ := SimD.app hs1 hx1 hdst hap
      unfold Oper.wp
      rw [hr]
      exact fun _ => hK _ _ hS2
end
end Go.Tw
