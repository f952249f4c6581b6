/- The logic: a step. -/
import Derived.Test.YtemcbhjheebnnaaGreatT18h
set_option linter.all false
namespace Go.Tw
open Go Go.RowKit
variable [k7]
section
variable {w w' : World}
end
end Go.Tw
namespace Go.Tw
open Go Go.RowKit
variable [k7]
def XR (w : World) (ab ok : Nat → Prop) (τ : DS) (a : Act) (ks : List Nat) (Lf : Nat → List Nat) : Prop :=
  ∀ px, τ.x = some px → τ.pd px.d = none ∧ ∃ Lm, oh w ab ok true (.tr px.t px.l) (a.tmps.getD px.d undef) Lm ∧ Lm.Nodup ∧
    ((px.d ∈ ks ∧ Lm = Lf px.d) ∨ ∃ b o len cap, a.tmps.getD px.src undef = .slice (some ⟨b, o, none⟩) len cap ∧ Lm = [b])
theorem XR.none {w : World} {ab ok : Nat → Prop} {τ : DS} {a : Act} {ks : List Nat} {Lf : Nat → List Nat} (h : τ.x = none) : XR w ab ok τ a ks Lf := fun px hx => by rw [h] at hx; cases hx
theorem XR.Hb {w : World} {ab ok : Nat → Prop} {τ τ' : DS} {a a' : Act} {ks ks' : List Nat} {Lf Lf' : Nat → List Nat} (hx : τ'.x = τ.x)
    (ht : ∀ px, τ.x = some px → τ.pd px.d = .none → τ'.pd px.d = .none ∧ a'.tmps.getD px.d undef = a.tmps.getD px.d undef ∧ a'.tmps.getD px.src undef = a.tmps.getD px.src undef ∧ (px.d ∈ ks → px.d ∈ ks' ∧ Lf' px.d = Lf px.d))
    (H : XR w ab ok τ a ks Lf) : XR w ab ok τ' a' ks' Lf' := by
  intro px hp
  rw [hx] at hp
  obtain ⟨h1, Lm, h2, h3, h4⟩ := H px hp
  obtain ⟨e1, e2, e3, e4⟩ := ht px hp h1
  refine ⟨e1, Lm, by rw [e2]; exact h2, h3, ?_⟩
  rcases h4 with ⟨h4, h5⟩ | ⟨b, o, len, cap, h4, h5⟩
  · obtain ⟨q1, q2⟩ := e4 h4
    exact .inl ⟨q1, h5.trans q2.symm⟩
  · exact .inr ⟨b, o, len, cap, e3.trans h4, h5⟩
def pvF : List TV → List Value → Nat → Value
  | x :: gs, v :: gv, r => match x with
    | .ptr r' 0 0 => if r = r' then v else pvF gs gv r
    | _ => pvF gs gv r
  | _, _, _ => undef
abbrev mK (c : Cx) : Nat → Value := pvF c.gs c.gv
def Gh (c : Cx) (g : Nat) : Prop := ∀ r, r < g → TV.ptr r 0 0 ∈ c.gs
theorem yB {w : World} {ab ok : Nat → Prop} {μ : Nat → Mu} {h : ay} {n r : Nat} : ∀ {gs : List TV} {gv : List Value}, VRl w ab ok μ h n gs gv → TV.ptr r 0 0 ∈ gs → VR w ab ok μ h n (.ptr r 0 0) (pvF gs gv r)
  | [], _, _, hm => by simp at hm
  | x :: gs, gv, H, hm => by
    obtain ⟨v, gv', rfl, h1, h2⟩ := H
    by_cases e : x = .ptr r 0 0
    · subst e
      simp only [pvF, ↓reduceIte]; exact h1
    · have hm' : TV.ptr r 0 0 ∈ gs := by simpa [Ne.symm e] using hm
      have ih := yB h2 hm'
      unfold pvF
      split
      · split
        · subst_vars; exact absurd rfl e
        · exact ih
      · exact ih
theorem Kd {w : World} {ab ok : Nat → Prop} {μ : Nat → Mu} {h : ay} {n r : Nat} {v : Value} (H : VR w ab ok μ h n (.ptr r 0 0) v) (off : Nat) : VR w ab ok μ h n (.ptr r 0 off) (padd v ((off : Nat) : Int)) := by
  simp only [VR] at H ⊢
  obtain ⟨hr, A, rfl, hA⟩ := H
  refine ⟨hr, ⟨A.block, A.off + off, A.spot⟩, by simp [padd], ?_⟩
  split at hA
  · subst hA; simp
  · subst hA; simp
  · trivial
theorem Ke {w : World} {ab ok : Nat → Prop} {μ : Nat → Mu} {h : ay} {n r off : Nat} {v u : Value} (hb : Kf (hget h r) = true) (H : VR w ab ok μ h n (.ptr r 0 0) v) (H2 : VR w ab ok μ h n (.ptr r 0 off) u) : u = padd v ((off : Nat) : Int) := by
  unfold Kf at hb
  split at hb
  · rename_i cs hg
    simp only [VR, hg] at H H2
    obtain ⟨_, A, rfl, rfl⟩ := H
    obtain ⟨_, B, rfl, rfl⟩ := H2
    simp [padd]
  · cases hb
structure eO (c : Cx) (τ : DS) (a : Act) (w : World) : Prop where
  fr : Fr c w
  defers : a.defers = []
  size : a.tmps.size = c.m.n ∧ ∀ q ∈ c.m.st, a.tmps.getD q.1 undef = (c.gv ++ c.kv).getD q.2 undef
  ex : ∃ s, sget s = τ.s ∧ ∃ μ ks Lf, HR w c.ab c.ok μ τ.h τ.n (List.flatMap Lf ks) ∧ SR w c.ab c.ok μ τ.h τ.n s a.tmps ∧ VRl w c.ab c.ok μ τ.h τ.n c.gs c.gv ∧
    (∀ t bh, τ.pd t = some bh → t ∈ ks ∧ PR (mK c) w c.ab c.ok bh (a.tmps.getD t undef) (Lf t)) ∧ XR w c.ab c.ok τ a ks Lf
section
variable {c : Cx} {σ : St} {a a' : Act} {w w' : World} {o : Oper} {τ : DS} {F : List bj} {k : KI} {dl : List (Option Tmp)}
def Qq (c : Cx) (w : World) (hw : Fr c w) (D : List Nat) (hD : ∀ b ∈ D, b < w.heap.size) : Cx where
  P := c.P
  m := c.m
  w0 := w
  ab := c.ab
  ok := fun b => c.ok b ∧ b ∉ D
  lu := fun b hb => Nat.lt_of_lt_of_le (c.lu b hb) hw.size
  iZ := fun b hb ho => c.iZ b hb ho.1
  mH := fun b hb => ⟨c.mH b (Nat.le_trans hw.size hb), fun hd => by have := hD b hd; omega⟩
  gs := c.gs
  gv := c.gv
  Bw := c.Bw
  gG := c.gG
  gJ := hw.gJ
  kv := c.kv
theorem Fr.Qr {c : Cx} (h : c.w0 = w) : Fr c w := by subst h; exact ⟨rfl, rfl, rfl, Nat.le_refl _, fun _ _ _ => rfl, fun _ _ h => h⟩
theorem Fr.up {hw : Fr c w} {D : List Nat} {hD : ∀ b ∈ D, b < w.heap.size} (h : Fr (Qq c w hw D hD) w') : Fr c w' :=
  ⟨h.os.trans hw.os, h.tape.trans hw.tape, h.output.trans hw.output, Nat.le_trans hw.size h.size, fun k hk ho => (h.block k (Nat.lt_of_lt_of_le hk hw.size) (fun h2 => ho h2.1)).trans (hw.block k hk ho), fun b m hr => h.row b m (hw.row b m hr)⟩
theorem Fr.step (h : Fr c w') : Step c.ab c.w0 w' := ⟨fun b hb => h.block b (c.lu b hb) (c.iZ b hb), h.row⟩
theorem lW {f : Nat → List Nat} : ∀ {l m : List Nat}, l.Sublist m → (l.flatMap f).Sublist (m.flatMap f)
  | _, _, .slnil => List.Sublist.refl _
  | _, _, .cons x h => by simp only [List.flatMap_cons]; exact (lW h).trans (List.sublist_append_right _ _)
  | _, _, .cons_cons x h => by simp only [List.flatMap_cons]; exact List.Sublist.append (List.Sublist.refl _) (lW h)
theorem su {Lf : Nat → List Nat} {ks : List Nat} {t b : Nat} (ht : t ∈ ks) (hb : b ∈ Lf t) : b ∈ ks.flatMap Lf := List.mem_flatMap.2 ⟨t, ht, hb⟩
theorem mw {Lf : Nat → List Nat} {t : Nat} : ∀ {ks : List Nat}, t ∈ ks → ∃ rest, (ks.flatMap Lf).Perm (Lf t ++ rest) ∧ ((ks.filter (fun x => decide (x ≠ t))).flatMap Lf).Sublist rest
  | x :: ks, h => by
    by_cases hx : x = t
    · subst hx
      refine ⟨ks.flatMap Lf, by simp, ?_⟩
      simp only [List.filter_cons, ne_eq, not_true_eq_false, decide_false, Bool.false_eq_true, ↓reduceIte]
      exact lW List.filter_sublist
    · have hm : t ∈ ks := by simpa [Ne.symm hx] using h
      obtain ⟨rest, h1, h2⟩ := mw (Lf := Lf) hm
      refine ⟨Lf x ++ rest, ?_, ?_⟩
      · simp only [List.flatMap_cons]
        refine (List.Perm.append_left _ h1).trans ?_
        rw [← List.append_assoc, ← List.append_assoc]
        exact List.Perm.append_right _ List.perm_append_comm
      · simp only [List.filter_cons, ne_eq, hx, not_false_eq_true, aI, ↓reduceIte, List.flatMap_cons]
        exact List.Sublist.append (List.Sublist.refl _) h2
theorem eO.run (H : eO c τ a w) : ∃ (c' : Cx) (s : List (Nat × TV)) (D : List Nat) (ks : List Nat) (Lf : Nat → List Nat), c'.P = c.P ∧ c'.m = c.m ∧ c'.ab = c.ab ∧ sget s = τ.s ∧ D = List.flatMap Lf ks ∧ D.Nodup ∧ (∀ b, c'.ok b → c.ok b ∧ b ∉ D) ∧ dH c' ⟨s, τ.h, τ.n⟩ a w ∧
    (∀ w', Fr c' w' → Fr c w') ∧ c'.gs = c.gs ∧ c'.gv = c.gv ∧ c'.kv = c.kv ∧
    (∀ (w' : World) (a' : Act) (pd' : Nat → Option dq), Fr c' w' → (∀ t bh, pd' t = some bh → τ.pd t = some bh ∧ a'.tmps.getD t undef = a.tmps.getD t undef) → ∀ t bh, pd' t = some bh → t ∈ ks ∧ PR (mK c) w' c.ab c.ok bh (a'.tmps.getD t undef) (Lf t)) ∧ XR w c.ab c.ok τ a ks Lf := by
  obtain ⟨h1, h2, h3, s, hs, μ, ks, Lf, h4, h5, h6, h7, h8⟩ := H
  have hnd := h4.nodup
  have hD' : ∃ ks', (∀ t bh, τ.pd t = some bh → t ∈ ks') ∧ (List.flatMap Lf ks').Sublist (List.flatMap Lf ks) ∧ (∀ b ∈ List.flatMap Lf ks', b < w.heap.size) ∧ XR w c.ab c.ok τ a ks' Lf := by
    classical
    have hf : ∀ (p : Nat → Prop), (∀ t, p t → t ∈ ks → ∀ b ∈ Lf t, b < w.heap.size) → (∀ t bh, τ.pd t = some bh → p t) → XR w c.ab c.ok τ a (ks.filter (fun t => decide (p t))) Lf → ∃ ks', (∀ t bh, τ.pd t = some bh → t ∈ ks') ∧ (List.flatMap Lf ks').Sublist (List.flatMap Lf ks) ∧ (∀ b ∈ List.flatMap Lf ks', b < w.heap.size) ∧ XR w c.ab c.ok τ a ks' Lf := by
      intro p hp1 hp2 hp3
      refine ⟨ks.filter (fun t => decide (p t)), fun t bh ht => List.mem_filter.2 ⟨(h7 t bh ht).1, by simpa using hp2 t bh ht⟩, lW List.filter_sublist, fun b hb => ?_, hp3⟩
      obtain ⟨t, ht, hb⟩ := List.mem_flatMap.1 hb
      obtain ⟨m1, m2⟩ := List.mem_filter.1 ht
      exact hp1 t (by simpa using m2) m1 b hb
    have hpd : ∀ t, (τ.pd t).isSome = true → t ∈ ks → ∀ b ∈ Lf t, b < w.heap.size := by
      intro t ht _ b hb
      cases hp : τ.pd t with
      | none => rw [hp] at ht; simp at ht
      | some bh => exact ((h7 t bh hp).2.blocks b hb).2
    cases hx : τ.x with
    | none => exact hf (fun t => (τ.pd t).isSome = true) hpd (fun t bh ht => by rw [ht]; rfl) (XR.none hx)
    | some px =>
      obtain ⟨g1, Lm, g2, g3, g4⟩ := h8 px hx
      rcases g4 with ⟨g4, rfl⟩ | ⟨b, o, len, cap, g4, g5⟩
      · refine hf (fun t => (τ.pd t).isSome = true ∨ t = px.d) (fun t ht hk b hb => ?_) (fun t bh ht => .inl (by rw [ht]; rfl)) (fun px' hx' => ?_)
        · rcases ht with ht | rfl
          · exact hpd t ht hk b hb
          · exact (oh.blocks g2 b hb).2
        · rw [hx] at hx'; cases hx'
          exact ⟨g1, _, g2, g3, .inl ⟨List.mem_filter.2 ⟨g4, by simp⟩, rfl⟩⟩
      · refine hf (fun t => (τ.pd t).isSome = true) hpd (fun t bh ht => by rw [ht]; rfl) (fun px' hx' => ?_)
        rw [hx] at hx'; cases hx'
        exact ⟨g1, _, g2, g3, .inr ⟨b, o, len, cap, g4, g5⟩⟩
  obtain ⟨ks', hk', hsub, hlt, hxr⟩ := hD'
  refine ⟨Qq c w h1 _ hlt, s, _, ks', Lf, rfl, rfl, rfl, hs, rfl, hnd.sublist hsub, fun b hb => hb, ⟨Fr.Qr rfl, h2, h3, μ, (h4.ni hsub).Bq, fun t => VR.fT _ _ (h5 t), VRl.fT _ _ h6⟩, fun w' hf => Fr.up (hw := h1) (D := _) (hD := hlt) hf, rfl, rfl, rfl, fun w' a' pd' hf hpd t bh ht => ?_, hxr⟩
  obtain ⟨e1, e2⟩ := hpd t bh ht
  refine ⟨hk' t bh e1, ?_⟩
  rw [e2]
  have := (h7 t bh e1).2
  refine this.mono (hf.step (c := Qq c w h1 _ hlt)) (fun b hb => ?_)
  exact hf.block b (this.blocks b hb).2 (fun h => h.2 (su (hk' t bh e1) hb))
theorem eO.back {c' : Cx} {s s' : List (Nat × TV)} {D ks : List Nat} {Lf : Nat → List Nat} {h' : ay} {n' : Nat} {pd' : Nat → Option dq} {x' : Option PX} (hi : c'.ab = c.ab) (hm : c'.m = c.m) (hD : D = List.flatMap Lf ks) (hnd : D.Nodup) (hok : ∀ b, c'.ok b → c.ok b ∧ b ∉ D) (hup : ∀ w', Fr c' w' → Fr c w') (hgs : c'.gs = c.gs) (hgv : c'.gv = c.gv) (hkv : c'.kv = c.kv)
    (hS : dH c' ⟨s', h', n'⟩ a' w') (hpd : ∀ t bh, pd' t = some bh → t ∈ ks ∧ PR (mK c) w' c.ab c.ok bh (a'.tmps.getD t undef) (Lf t)) (hx : XR w' c.ab c.ok ⟨sget s', pd', h', n', x'⟩ a' ks Lf) : eO c ⟨sget s', pd', h', n', x'⟩ a' w' := by
  obtain ⟨h1, h2, h3, μ, h4, h5, h6⟩ := hS
  rw [hi] at h4 h5 h6
  refine ⟨hup _ h1, h2, by rw [← hm, ← hgv, ← hkv]; exact h3, s', rfl, μ, ks, Lf, ?_, fun t => VR.fT _ _ (h5 t), by rw [← hgs, ← hgv]; exact VRl.fT _ _ h6, hpd, hx⟩
  have := h4.wK (ok := c.ok) (D := D) hok (by simp) hnd
  rw [← hD]; simpa using this
theorem eO.NO : ∀ (l : List Nat) {τ : DS}, eO c τ a w → eO c (attF l τ) a w
  | [], τ, H => H
  | t :: ts, τ, H => by
    simp only [attF]
    cases hp : τ.pd t with
    | none => exact eO.NO ts H
    | some bh =>
      refine eO.NO ts ?_
      unfold ny
      cases hpm : isPM bh with
      | true =>
      obtain ⟨h1, h2, h3, s, hs, μ, ks, Lf, h4, h5, h6, h7, h8⟩ := H
      refine ⟨h1, h2, h3, (t, .undef) :: s, by rw [iL, hs]; rfl, μ, ks, Lf, h4, fun u => ?_, h6, fun u reg' hu => ?_, XR.Hb (τ := τ) rfl (fun px hx hpd => ?_) h8⟩
      · rw [bZ]
        split
        · show VR _ _ _ _ _ _ .undef _
          simp [VR]
        · exact h5 u
      · have hne : u ≠ t := by
          rintro rfl
          simp only [ib] at hu; simp at hu
        simp only [cZ hne] at hu
        exact h7 u reg' hu
      · have hne : px.d ≠ t := by rintro e; rw [e, hp] at hpd; cases hpd
        exact ⟨by simp only [cZ hne]; exact hpd, rfl, rfl, fun hk => ⟨hk, rfl⟩⟩
      | false =>
      simp only [al]
      obtain ⟨h1, h2, h3, s, hs, μ, ks, Lf, h4, h5, h6, h7, h8⟩ := H
      obtain ⟨hk, hP⟩ := h7 t bh hp
      obtain ⟨rest, g1, g2⟩ := mw (Lf := Lf) hk
      have H1 := (h4.lq g1).ni (List.Sublist.append (List.Sublist.refl (Lf t)) g2)
      obtain ⟨m, H2, H3⟩ := PR.attach hpm hP H1
      have kp : Kept (fun _ => True) c.ab c.ab c.ok c.ok w w μ (kh μ τ.n m) τ.h ((τ.n, bh) :: τ.h) τ.n (τ.n + 1) := Kept.cons (Kept.id (fun _ h => h) (fun _ h => h) (Nat.le_refl _))
      refine ⟨h1, h2, h3, (t, ptrOf bh τ.n) :: s, by rw [iL, hs], kh μ τ.n m, ks.filter (fun x => decide (x ≠ t)), Lf, H2, fun u => ?_, dm kp c h6, fun u reg' hu => ?_, XR.Hb (τ := τ) rfl (fun px hx hpd => ?_) h8⟩
      · rw [bZ]
        split
        · subst_vars; exact H3
        · exact SR.mono kp h5 u
      · have hne : u ≠ t := by
          rintro rfl
          simp only [ib] at hu; simp at hu
        simp only [cZ hne] at hu
        obtain ⟨q1, q2⟩ := h7 u reg' hu
        exact ⟨List.mem_filter.2 ⟨q1, by simpa using hne⟩, q2⟩
      · have hne : px.d ≠ t := by rintro e; rw [e, hp] at hpd; cases hpd
        exact ⟨by simp only [cZ hne]; exact hpd, rfl, rfl, fun hk => ⟨List.mem_filter.2 ⟨hk, by simpa using hne⟩, rfl⟩⟩
theorem uZ {m : Fm} {dst : Option Nat} (h : jn m dst = true) (x : TV) (s : List (Nat × TV)) : ∃ s', sput m dst x s = some s' ∧ ∀ pd h' n' y, (⟨sget s', (putF dst x none ⟨sget s, pd, h', n', y⟩).pd, h', n', y⟩ : DS) = putF dst x none ⟨sget s, pd, h', n', y⟩ := by
  cases dst with
  | none => exact ⟨s, rfl, fun _ _ _ _ => rfl⟩
  | some d =>
    simp only [jn] at h
    refine ⟨(d, x) :: s, by simp only [sput, h, ag], fun pd h' n' y => ?_⟩
    simp only [putF, iL]
theorem fq {dst : Option Tmp} {v : Value} {t : Nat} (h : dst ≠ some t) : (a.put dst v).tmps.getD t undef = a.tmps.getD t undef := by
  cases dst with
  | none => rfl
  | some d =>
    have hne : t ≠ d := by rintro rfl; exact h rfl
    simp [Act.put, Array.getD_eq_getD_getElem?, Array.getElem?_setIfInBounds, Ne.symm hne]
theorem yC {dst : Option Tmp} {x : TV} {τ : DS} {t : Nat} {bh : dq} (h : (putF dst x none τ).pd t = some bh) : dst ≠ some t ∧ τ.pd t = some bh := by
  cases dst with
  | none => exact ⟨by simp, h⟩
  | some d =>
    simp only [putF] at h
    by_cases e : t = d
    · subst e; simp [lE] at h
    · exact ⟨by simpa using Ne.symm e, by rwa [cZ e] at h⟩
def NP (dst : Option Tmp) (a a' : Act) : Prop := ∀ t, dst ≠ some t → a'.tmps.getD t undef = a.tmps.getD t undef
theorem Kg {P : Program} {K' : Act → World → Prop} {Q : Exit → Act → World → Prop} (h : o.wp P a w (fun a' w' => NP o.dst a a' → K' a' w') Q) : o.wp P a w K' Q := by
  have hp : ∀ v, NP o.dst a (a.put o.dst v) := fun v t ht => fq ht
  unfold Oper.wp at h ⊢
  generalize (execOp a.eval o).run P w = r at h ⊢
  cases r with
  | ok nx w' =>
    cases nx <;> simp only [Oper.upon] at h ⊢
    case value v => exact h (hp v)
    case skip => exact h (hp _)
    case enter f args =>
      refine h.mono fun e w'' he => ?_
      cases e with
      | returned v => exact he (hp v)
      | _ => exact he
    case defer d =>
      refine h fun t ht => ?_
      have := fq (a := { a with defers := d :: a.defers }) (v := undef) ht
      exact this
    case row r args => exact Rows.mono h fun v w'' he => he (hp v)
  | halt x w' => cases x <;> simp only [Oper.upon] at h ⊢ <;> exact h
theorem oJ (H : eO c τ a w) {ops : Array Oper} (hd : ops.toList.map (·.dst) = dl) (hw : Bc dl o τ.s) : Region.wanted o (yielded ops a.tmps) = true := by
  rcases hw with h | ⟨j, want, t, h1, h2, h3⟩
  · simp [Region.wanted, h]
  · obtain ⟨c', s, D, ks, Lf, _, _, _, hs, _, _, _, hS, _⟩ := H.run
    have := (pY (σ := ⟨s, τ.h, τ.n⟩) hS hd h2 h1 (by rw [hs]; exact h3)).1
    exact this
theorem Kh (H : eO c τ a w) {ops : Array Oper} (hd : ops.toList.map (·.dst) = dl) (hw : Ny dl o τ.s) : Region.wanted o (yielded ops a.tmps) = false := by
  obtain ⟨j, want, t, h1, h2, h3⟩ := hw
  obtain ⟨c', s, D, ks, Lf, _, _, _, hs, _, _, _, hS, _⟩ := H.run
  rcases h3 with h3 | h3
  · exact (pY (σ := ⟨s, τ.h, τ.n⟩) hS hd h2 h1 (by rw [hs]; exact h3)).1
  · exact tI (σ := ⟨s, τ.h, τ.n⟩) hS hd h2 h1 (by rw [hs]; exact h3)
theorem wL {a : Act} {τ : DS} {dst : Option Tmp} {v : Value} {x : TV} {ks : List Nat} {Lf : Nat → List Nat} {ab ok : Nat → Prop} {w : World} (hcx : ∀ px, τ.x = some px → dst ≠ some px.d ∧ dst ≠ some px.src) (H : XR w ab ok τ a ks Lf) : XR w ab ok (putF dst x none τ) (a.put dst v) ks Lf := by
  refine H.Hb ki fun px hx hpd => ?_
  obtain ⟨e1, e2⟩ := hcx px hx
  exact ⟨(nA e1).2.trans hpd, fq e1, fq e2, fun h => ⟨h, rfl⟩⟩
theorem eO.NB (H : eO c τ a w) {v : Value} {x : TV} (hdst : jn c.m o.dst = true) (hx : ∀ μ, VRl w c.ab c.ok μ τ.h τ.n c.gs c.gv → VR w c.ab c.ok μ τ.h τ.n x v) (hcx : ∀ px, τ.x = some px → o.dst ≠ some px.d ∧ o.dst ≠ some px.src) : eO c (putF o.dst x none τ) (a.put o.dst v) w := by
  obtain ⟨h1, h2, h3, s, hs, μ, ks, Lf, h4, h5, h6, h7, h8⟩ := H
  obtain ⟨s', hp, hq⟩ := uZ hdst x s
  obtain ⟨q1, q2, q3, _⟩ := dH.put h1 h2 h3 (h4.ni (List.nil_sublist _)) h5 h6 (hx μ h6) hp
  have hs' : sget s' = (putF o.dst x none τ).s := by
    have := congrArg DS.s (hq τ.pd τ.h τ.n τ.x)
    simp only at this
    rw [this, hs]
  have hh : (putF o.dst x none τ).h = τ.h ∧ (putF o.dst x none τ).n = τ.n := ix
  have hS : SR w c.ab c.ok μ τ.h τ.n s' (a.put o.dst v).tmps := by
    intro t
    cases hd : o.dst with
    | none => rw [hd] at hp; simp only [sput, af] at hp; subst hp; exact h5 t
    | some d =>
      rw [hd] at hp hdst
      simp only [jn] at hdst
      simp only [sput, hdst, ag, af] at hp; subst hp
      rw [bZ]
      split
      · rename_i e
        rw [e]
        have hlt : d < a.tmps.size := by
          simp only [aA] at hdst
          rw [h3.1]; simpa [Nat.blt_eq] using hdst.1
        have : (a.put (some d) v).tmps.getD d undef = v := by simp [Act.put, Array.getD_eq_getD_getElem?, hlt]
        rw [this]; exact hx _ h6
      · rename_i hne
        rw [fq (by simpa using Ne.symm hne)]; exact h5 t
  refine ⟨h1, q2, q3, s', hs', μ, ks, Lf, ?_, ?_, ?_, fun t bh ht => ?_, wL hcx h8⟩
  · rw [hh.1, hh.2]; exact h4
  · rw [hh.1, hh.2]; exact hS
  · rw [hh.1, hh.2]; exact h6
  · obtain ⟨e1, e2⟩ := yC ht
    rw [fq e1]; exact h7 t bh e2
theorem eO.set (H : eO c τ a w) {v : Value} {x : TV} (hdst : jn c.m o.dst = true) (hx : ∀ μ h n, VR w c.ab c.ok μ h n x v) (hcx : ∀ px, τ.x = some px → o.dst ≠ some px.d ∧ o.dst ≠ some px.src) : eO c (putF o.dst x none τ) (a.put o.dst v) w :=
  H.NB hdst (fun μ _ => hx μ _ _) hcx
theorem Ki {P : Program} {t : TypeId} {q : MQ} (h : mpT P t = some q) : ∀ t', q.v ≠ .ref t' := by
  unfold mpT at h
  split at h
  · simp only [ax] at h
    obtain ⟨k, h2, v, h3, z, h4, h5⟩ := h
    obtain ⟨h6, h5⟩ := ah.1 h5
    simp only [af] at h5; subst h5
    obtain ⟨s1, _⟩ := v8 h3
    rintro t' e
    simp only at e; subst e
    simp [scB] at s1
  · cases h
theorem E7 (v : Value) (o : Int) : padd v ((Int.toNat o : Nat) : Int) = padd v o := by
  unfold padd
  rw [Int.toNat_natCast]
theorem z7 {pv : Nat → Value} (x : Int × Int) : oI pv PV x = Kj pv x := by
  unfold oI
  rw [dif_pos rfl]
theorem eO.KB {P : Program} (hP : c.P = P) (H : eO c τ a w) {g : Nat} (hG : Gh c g) (hcx : ∀ px, τ.x = some px → o.dst ≠ some px.d ∧ o.dst ≠ some px.src) (hdst : jn c.m o.dst = true) {b : Bool} {x y : TV} (hx : ldP P g o.op (nz τ.s) τ.pd = some (b, x, y)) : ∃ v, (execOp a.eval o).run P w = .ok (.value v) w ∧ eO c (putF o.dst (bif b then x else y) none τ) (a.put o.dst v) w := by
  subst hP
  obtain ⟨_, _, _, s0, hs0, μ0, ks, Lf, _, h5s, _, h7, _⟩ := id H
  unfold ldP at hx
  split at hx
  · rename_i ty t yo ho
    split at hx
    · rename_i bh b' hpd hyo
      simp only [ax, Option.map_eq_some_iff, aG] at hx
      obtain ⟨l, hl, px, hpx, py, hpy, rfl, rfl, rfl⟩ := hx
      unfold isPM2 at hl
      split at hl
      · rename_i q l0
        split at hl
        · rename_i e; subst e
          obtain ⟨hmp, hl⟩ := ah.1 hl
          have hl := Option.some.inj hl
          obtain ⟨_, bl, e1, _, _, hm0⟩ := h7 t _ hpd
          have hm : gh (oI (mK c)) w bl PM l := by rw [← hl]; exact hm0
          have e1 : a.eval (.tmp t) = .map (some bl) := e1
          have hyv : a.eval yo = .bool b' := by
            have h := SR.iR h5s yo
            rw [iz, hs0, hyo] at h
            exact h.iy
          have hX : yj c.P ty = some PM := by unfold yj; rw [hmp]; rfl
          have key : ∀ (b : Bool) (x : TV), NC g l b = some x → jb .bool PV l b = true ∧ ∃ r off : Nat, x = .ptr r 0 off ∧ r < g ∧ Kj (mK c) (mget .bool PV l b) = padd (mK c r) ((off : Nat) : Int) := by
            intro b x h
            unfold NC at h
            obtain ⟨h1, h⟩ := ah.1 h
            obtain ⟨h2, h⟩ := ah.1 h
            simp only [af] at h
            exact ⟨h1, _, _, h.symm, by simpa [Nat.blt_eq] using h2, (E7 _ _).symm⟩
          have fin : ∀ x : TV, NC g l b' = some x → ∃ v, (execOp a.eval o).run c.P w = .ok (.value v) w ∧ eO c (putF o.dst x none τ) (a.put o.dst v) w := by
            intro x h
            obtain ⟨hh, r, off, rfl, hr, hv⟩ := key b' x h
            have hrun := qC (f := oI (mK c)) (q := PM) (a := b') hX hm hh
            have hrun' : (Instr.lookup ty (.map (some bl)) (.bool b') false).run c.P w = .ok (oI (mK c) PV (mget .bool PV l b')) w := hrun
            refine ⟨oI (mK c) PV (mget .bool PV l b'), by simp [execOp, ho, e1, hyv, hrun'], H.NB hdst (fun μ hg => ?_) hcx⟩
            have e : oI (mK c) PV (mget .bool PV l b') = padd (mK c r) ((off : Nat) : Int) := (z7 _).trans hv
            rw [e]
            exact Kd (yB hg (hG r hr)) off
          cases b' with
          | true => exact fin _ hpx
          | false => exact fin _ hpy
        · cases hl
      · cases hl
    · cases hx
  · cases hx
theorem eO.ld {P : Program} (hP : c.P = P) (H : eO c τ a w) (hcx : ∀ px, τ.x = some px → o.dst ≠ some px.d ∧ o.dst ≠ some px.src) (hdst : jn c.m o.dst = true) {x : TV} (hx : ldS P o.op (nz τ.s) τ.pd = some x) : ∃ v, (execOp a.eval o).run P w = .ok (.value v) w ∧ eO c (putF o.dst x none τ) (a.put o.dst v) w := by
  subst hP
  obtain ⟨_, _, _, s0, hs0, μ0, ks, Lf, _, h5s, _, h7, _⟩ := id H
  unfold ldS at hx
  split at hx
  · rename_i ty t y ok ho
    split at hx
    · rename_i q l q2 hpd hmp
      split at hx
      · rename_i e; subst e
        obtain ⟨a0, hk, hx⟩ := Option.map_eq_some_iff.1 hx
        subst hx
        obtain ⟨_, b, e1, _, _, hm⟩ := h7 t _ hpd
        have hm := hm.eq (z6 (Ki hmp))
        have e1 : a.eval (.tmp t) = .map (some b) := e1
        have hyv : a.eval y = valK q.k a0 := by
          have h := SR.iR h5s y
          rw [iz, hs0] at h
          exact j6 hk h
        refine ⟨if ok = true then .tuple #[valK q.v (mget q.k q.v l a0), .bool (jb q.k q.v l a0)] else valK q.v (mget q.k q.v l a0), by simp [execOp, ho, e1, hyv, nk hmp hm], H.set hdst (fun μ h n => ?_) hcx⟩
        cases ok with
        | true => simp only [ag, ↓reduceIte, VR]; exact ⟨[_, _], rfl, _, _, rfl, rfl, _, _, rfl, rfl, rfl⟩
        | false => simp [VR]
      · simp at hx
    · simp at hx
  · simp at hx
theorem eO.idx {P : Program} (hP : c.P = P) (H : eO c τ a w) (hcx : ∀ px, τ.x = some px → o.dst ≠ some px.d ∧ o.dst ≠ some px.src) {d t : Nat} {bh : dq} (hd : o.dst = some d) (hne : d ≠ t) (hdst : jn c.m o.dst = true) (hx : idxS o.op (nz τ.s) τ.pd = some (t, bh, true)) :
    ∃ v, (execOp a.eval o).run P w = .ok (.value v) w ∧ eO c (putF o.dst .undef (some bh) (putF (some t) .undef none τ)) (a.put o.dst v) w := by
  subst hP
  obtain ⟨h1, h2, h3, s, hs, μ, ks, Lf, h4, h5, h6, h7, h8⟩ := H
  unfold idxS at hx
  split at hx
  · rename_i t' ho
    split at hx
    · rename_i q l hpd
      simp only [af, aG, and_true] at hx
      obtain ⟨rfl, rfl⟩ := hx
      obtain ⟨hk, b, e1, hLf, hokb, hm⟩ := h7 t' _ hpd
      have e1' : a.eval (.tmp t') = .map (some b) := e1
      refine ⟨.map (some b), by simp [execOp, ho, e1'], ?_⟩
      have hp : sput c.m o.dst .undef s = some ((d, .undef) :: s) := by
        rw [hd] at hdst ⊢
        simp only [jn] at hdst
        simp only [sput, hdst, ag]
      obtain ⟨_, q2, q3, _⟩ := dH.put (v := .map (some b)) h1 h2 h3 (h4.ni (List.nil_sublist _)) h5 h6 (by simp [VR]) hp
      have hlt : d < a.tmps.size := by
        rw [hd] at hdst
        simp only [jn, aA] at hdst
        rw [h3.1]; simpa [Nat.blt_eq] using hdst.1
      have hval : (a.put o.dst (.map (some b))).tmps.getD d undef = .map (some b) := by
        rw [hd]; simp [Act.put, Array.getD_eq_getD_getElem?, hlt]
      obtain ⟨rest, r1, r2⟩ := mw (Lf := Lf) hk
      have hh : (putF o.dst .undef (some (.mp q l)) (putF (some t') .undef none τ)).h = τ.h ∧ (putF o.dst .undef (some (.mp q l)) (putF (some t') .undef none τ)).n = τ.n := ⟨ix.1.trans ix.1, ix.2.trans ix.2⟩
      refine ⟨h1, q2, q3, (d, .undef) :: (t', .undef) :: s, by rw [hd, iL, iL, hs]; rfl, μ, d :: ((ks.filter (fun x => decide (x ≠ t'))).filter (fun x => decide (x ≠ d))), lE Lf d [b], ?_, fun u => ?_, ?_, fun u bh hu => ?_, XR.Hb (τ := τ) (ki.trans ki) (fun px hpx hpdn => ?_) h8⟩
      · rw [hh.1, hh.2, List.flatMap_cons, ib]
        refine (h4.lq r1).ni (List.Sublist.append (by rw [hLf]; exact List.Sublist.refl _) ?_)
        have : ((ks.filter (fun x => decide (x ≠ t'))).filter (fun x => decide (x ≠ d))).flatMap (lE Lf d [b]) = ((ks.filter (fun x => decide (x ≠ t'))).filter (fun x => decide (x ≠ d))).flatMap Lf := lV fun x hx => cZ (by simpa using (List.mem_filter.1 hx).2)
        rw [this]
        exact (lW List.filter_sublist).trans r2
      · rw [hh.1, hh.2, bZ]
        split
        · simp [VR]
        · rename_i hud
          rw [bZ]
          split
          · simp [VR]
          · rw [fq (by rw [hd]; simpa using Ne.symm hud)]; exact h5 u
      · rw [hh.1, hh.2]; exact h6
      · rw [hd] at hu
        simp only [putF] at hu
        by_cases hud : u = d
        · subst hud
          rw [ib] at hu
          simp only [af] at hu; subst hu
          refine ⟨by simp, ?_⟩
          rw [ib, hval]
          exact ⟨b, rfl, rfl, hokb, hm⟩
        · rw [cZ hud] at hu
          by_cases hut : u = t'
          · subst hut; rw [ib] at hu; simp at hu
          · rw [cZ hut] at hu
            obtain ⟨p1, p2⟩ := h7 u bh hu
            refine ⟨by simp [p1, hud, hut], ?_⟩
            rw [cZ hud, fq (by rw [hd]; simpa using Ne.symm hud)]; exact p2
      · obtain ⟨c1, c2⟩ := hcx px hpx
        have n1 : px.d ≠ d := by rintro e; exact c1 (by rw [hd, e])
        have n2 : px.d ≠ t' := by rintro e; rw [e, hpd] at hpdn; cases hpdn
        refine ⟨?_, fq c1, fq c2, fun hk => ⟨by simp [hk, n1, n2], cZ n1⟩⟩
        rw [hd]
        simp only [putF, cZ n1, cZ n2]; exact hpdn
    · simp at hx
  · simp at hx
theorem evV_evOp {N : A8} {P : Program} {m : Fm} {s : List (Nat × TV)} {h : ay} {n : Nat} {A : lp} (H : Bz P F o (ev s) h n some = some A) {s' : List (Nat × TV)} (hput : sput m o.dst A.v s = some s') : evOp P m F N o s h n some = some (⟨s', A.h, A.n⟩ : St) := by
  have plain : ((ex P o.op (ev s) h n).bind fun a => bif a.k.isNone && a.c then some a else none) = some A → ((ex P o.op (ev s) h n).bind fun A => (sput m o.dst A.v (match A.k with | some r => killS r s | none => s)).bind fun s => bif A.c then some (⟨s, A.h, A.n⟩ : St) else none) = some ⟨s', A.h, A.n⟩ := by
    intro H
    simp only [ax] at H ⊢
    obtain ⟨A', h1, H⟩ := H
    obtain ⟨hb, H⟩ := ah.1 H
    simp only [af] at H; subst H
    simp only [aA, Option.isNone_iff_eq_none] at hb
    refine ⟨A', h1, s', ?_, by rw [hb.2]; rfl⟩
    rw [hb.1]; exact hput
  unfold Bz at H
  unfold evOp
  split at H
  · rename_i c hc
    cases hi : mq o.op with
    | false =>
      rw [hi] at H
      have hi' : mq (.call c) = false := by rw [← hc]; exact hi
      simp only [hc, hi', al]
      rw [← hc]
      exact plain H
    | true =>
      rw [hi] at H
      have hi' : mq (.call c) = true := by rw [← hc]; exact hi
      simp only [hc, hi', ag, ax] at H ⊢
      obtain ⟨q, h1, cn, h2, H⟩ := H
      cases h3 : (cn.ps.all (fun x => !x.2) && (cn.rm.isOwnF || qj q.2)) with
      | true =>
        rw [h3] at H
        simp only [ag, ax, af] at H
        obtain ⟨x, h4, y, h5, rfl⟩ := H
        simp only [aA] at h3
        refine ⟨q, h1, ?_⟩
        rw [h2]
        simp only [h3.1, h3.2, ag, ax]
        exact ⟨x, h4, y, h5, s', hput, rfl⟩
      | false =>
        rw [h3] at H
        simp only [al] at H
        · cases h4 : cn.ps.all (fun x => !x.2) with
          | true => rw [h4] at H; simp at H
          | false =>
          rw [h4] at H
          simp only [al] at H
          cases h5 : cn.rm.isMv with
          | true =>
            rw [h5] at H
            simp only [ag] at H
            split at H
            · rename_i h6
              simp only [ax, af] at H
              obtain ⟨hd, h7, x, h8, y, h9, rfl⟩ := H
              refine ⟨q, h1, ?_⟩
              rw [h2]
              simp only [h4, al, h5, h6, ag, ax]
              exact ⟨hd, h7, x, h8, y, h9, s', hput, rfl⟩
            simp at H
          | false =>
            rw [h5] at H
            simp at H
  · exact plain H
end
end Go.Tw
namespace Go.Tw
open Go Go.RowKit
variable [k7]
section
variable {w w' : World} {ab ok : Nat → Prop} {μ : Nat → Mu} {h : ay} {n : Nat}
end
section
variable {c : Cx} {σ : St} {a a' : Act} {w w' : World} {o : Oper} {τ : DS} {F : List bj} {k : KI} {dl : List (Option Tmp)}
theorem eO.app (H : eO c τ a w) (hx : τ.x = none) {px : PX} (hdst : jn c.m o.dst = true) (hA : apX o.op o.dst (nz τ.s) τ.h = some (px, true)) :
    ∃ v w', (execOp a.eval o).run c.P w = .ok (.value v) w' ∧ eO c (putF o.dst .undef none ⟨τ.s, τ.pd, τ.h, τ.n, some px⟩) (a.put o.dst v) w' := by cases hA
end
end Go.Tw
namespace Go.Tw
open Go Go.RowKit
variable [k7]
section
variable {c : Cx} {σ : St} {a a' : Act} {w w' : World} {o : Oper} {τ : DS} {F : List bj} {k : KI} {dl : List (Option Tmp)}
theorem Hc {c : Cx} {w : World} {ab ok : Nat → Prop} {μ : Nat → Mu} {h : ay} {n g : Nat} (hG : Gh c g) (h6 : VRl w ab ok μ h n c.gs c.gv) {t : Ty} {x : TV} {b : den t} {rd : List Nat} {v : Value} (H : wZ g h t x = some (b, rd)) (hv : VR w ab ok μ h n x v) : v = oI (mK c) t b := by
  unfold wZ at H
  split at H
  · rename_i e; subst e
    split at H
    · rename_i r i off
      obtain ⟨hc, H⟩ := ah.1 H
      simp only [af, aG] at H
      obtain ⟨rfl, rfl⟩ := H
      simp only [aA] at hc
      obtain ⟨hi, hr, hb⟩ := hc
      have hi := Nat.eq_of_beq_eq_true hi
      subst hi
      have e : oI (mK c) PV (((r : Nat) : Int), ((off : Nat) : Int)) = padd (mK c r) ((off : Nat) : Int) := z7 _
      exact (Ke hb (yB h6 (hG r (by simpa [Nat.blt_eq] using hr))) hv).trans e.symm
    · cases H
  · rename_i e
    obtain ⟨b', hk, H⟩ := Option.map_eq_some_iff.1 H
    simp only [aG] at H
    obtain ⟨rfl, rfl⟩ := H
    rw [j6 hk hv]
    unfold oI
    rw [dif_neg e]
theorem eO.ins (H : eO c τ a w) (hx : τ.x = none) (hd : o.dst = none) {g : Nat} (hG : Gh c g) {t : Nat} {bh : dq} {rd : List Nat} (hI : insS c.P g τ.h o.op (nz τ.s) τ.pd = some (t, bh, true, rd)) :
    ∃ w', (execOp a.eval o).run c.P w = .ok .skip w' ∧ eO c (putF (some t) .undef (some bh) τ) (a.put o.dst undef) w' := by
  obtain ⟨ty, y, z, q, l, a0, b0, D⟩ := gI.1 hI
  obtain ⟨h1, h2, h3, s, hs, μ, ks, Lf, h4, h5, h6, h7, h8⟩ := H
  obtain ⟨hk, b, e1, hLf, hokb, hm⟩ := h7 t _ D.sl
  have e1' : a.eval (.tmp t) = .map (some b) := e1
  have hyv : a.eval y = valK q.k a0 := by
    have h := SR.iR h5 y
    rw [iz, hs] at h
    exact j6 D.ky h
  have hzv : a.eval z = oI (mK c) q.v b0 := by
    have h := SR.iR h5 z
    rw [iz, hs] at h
    exact Hc hG h6 D.vl h
  obtain ⟨ob, hrun, hm'⟩ := mG (f := oI (mK c)) (a := a0) (x := b0) D.mp hm
  have hoth : ∀ b', b' ≠ b → ({ w with heap := w.heap.setIfInBounds b ob } : World).heap[b']? = w.heap[b']? := fun b' hne => by
    show (w.heap.setIfInBounds b ob)[b']? = _
    simp [Ne.symm hne]
  obtain ⟨_, _, _, es, cl, hbm, _⟩ := id hm
  have hstep : Step c.ab w { w with heap := w.heap.setIfInBounds b ob } := ⟨fun b' hb => hoth b' (fun e => c.iZ _ hb (by rw [e]; exact hokb)), fun b' m hr => hr.same (hoth b' (fun e => by
    obtain ⟨cs, tt, ff, hc1, _⟩ := hr
    rw [e, hbm] at hc1
    simp at hc1))⟩
  have hbm2 : b ∈ List.flatMap Lf ks := su hk (by rw [hLf]; simp)
  obtain ⟨h4', kp⟩ := h4.Nr hstep (fun k hn _ => hoth k (fun e => hn (by rw [e]; exact hbm2)))
  have hput : a.put o.dst undef = a := by rw [hd]; rfl
  have hrun' : (execOp a.eval o).run c.P w = .ok .skip { w with heap := w.heap.setIfInBounds b ob } := by
    simp [execOp, D.op, e1', hyv, hzv, hrun]
  refine ⟨_, hrun', ?_⟩
  rw [hput]
  refine ⟨⟨h1.os, h1.tape, h1.output, by have := h1.size; simpa using this, fun b' hb' hn => (hoth b' (fun e => hn (by rw [e]; exact hokb))).trans (h1.block b' hb' hn), fun b' m hr => hstep.row b' m (h1.row b' m hr)⟩, h2, h3, (t, .undef) :: s, by rw [iL, hs]; rfl, μ, ks, Lf, h4', fun u => ?_, dm kp c h6, fun u reg' hu => ?_, XR.none hx⟩
  · rw [bZ]
    split
    · show VR _ _ _ _ _ _ .undef _
      simp [VR]
    · exact SR.mono kp h5 u
  · by_cases hut : u = t
    · subst hut
      have hu : lE τ.pd u (some bh) u = some reg' := hu
      rw [ib] at hu
      simp only [af] at hu; subst hu
      rw [D.bh]
      exact ⟨hk, b, e1, hLf, hokb, hm'.perm (A1 (zH D.ord) D.new)⟩
    · have hu : lE τ.pd t (some bh) u = some reg' := hu
      rw [cZ hut] at hu
      obtain ⟨p1, p2⟩ := h7 u reg' hu
      refine ⟨p1, p2.mono hstep fun b' hb' => hoth b' ?_⟩
      rintro rfl
      obtain ⟨rest, r1, r2⟩ := mw (Lf := Lf) hk
      have hnd := r1.nodup_iff.1 h4.nodup
      have hin : b' ∈ rest := r2.subset (su (List.mem_filter.2 ⟨p1, by simpa using hut⟩) hb')
      exact (List.nodup_append.1 hnd).2.2 b' (by rw [hLf]; simp) b' hin rfl
theorem App.sound {P : Program} {m : Fm} (hP : c.P = P) (hm : c.m = m) (hF : ∀ cn ∈ F, an P cn) {ops : Array Oper} (hd : ops.toList.map (·.dst) = dl) {τ' : DS} {g : Nat} (hG : Gh c g) (H : App P F m dl g o k τ τ') (hs : eO c τ a w) {K' : Act → World → Prop} {Q : Exit → Act → World → Prop}
    (hK : ∀ a' w', eO c τ' a' w' → K' a' w') : if Region.wanted o (yielded ops a.tmps) then o.wp P a w K' Q ∨ (o.asks P a w ∧ LetsOut Q) else K' (a.put o.dst undef) w := by
  subst hP hm
  have hput : ∀ {x : TV} {τ : DS} {a' : Act}, NP o.dst a a' → ∀ t bh, (putF o.dst x none τ).pd t = some bh → τ.pd t = some bh ∧ a'.tmps.getD t undef = a.tmps.getD t undef := fun ha t bh ht => ⟨(yC ht).2, ha t (yC ht).1⟩
  cases H with
  | ins hkn hv hdn _ hg hx I _ =>
    rw [oJ hs hd (.inl hg)]
    simp only [↓reduceIte]
    refine .inl ?_
    obtain ⟨w', hr, hS2⟩ := eO.ins hs hx hdn hG I
    unfold Oper.wp
    rw [hr]
    exact hK _ _ hS2
  | @vk x p tk _ hv hdst L hcx0 =>
    have hcx : ∀ px, τ.x = some px → o.dst ≠ some px.d ∧ o.dst ≠ some px.src := fun px h => ⟨(hcx0 px h).1, (hcx0 px h).2.1⟩
    cases L with
    | idx t bh hw hx hsome hne _ =>
      rw [oJ hs hd hw]
      simp only [↓reduceIte]
      refine .inl ?_
      cases hdd : o.dst with
      | none => rw [hdd] at hsome; simp at hsome
      | some d =>
      obtain ⟨v, hr, hS2⟩ := eO.idx rfl hs hcx hdd (fun e => hne (by rw [hdd, e])) hdst hx
      unfold Oper.wp
      rw [hr]
      exact hK _ _ hS2
    | ld _ hw hx =>
      rw [oJ hs hd hw]
      simp only [↓reduceIte]
      refine .inl ?_
      obtain ⟨v, hr, hS2⟩ := eO.ld rfl hs hcx hdst hx
      unfold Oper.wp
      rw [hr]
      exact hK _ _ hS2
    | KB b x y hw hx =>
      rw [oJ hs hd hw]
      simp only [↓reduceIte]
      refine .inl ?_
      obtain ⟨v, hr, hS2⟩ := eO.KB rfl hs hG hcx hdst hx
      unfold Oper.wp
      rw [hr]
      exact hK _ _ hS2
    | skip hu =>
      rw [Kh hs hd hu]
      simp only [Bool.false_eq_true, ↓reduceIte]
      exact hK _ _ (eO.set hs hdst (fun μ h n => by simp [VR, VRl, undef]) hcx)
    | NN bh hw hpd hal hsome hk1 =>
      have hxn : τ.x = none := by
        cases hx : τ.x with
        | none => rfl
        | some px => exact absurd hk1 (hcx0 px hx).2.2
      rw [oJ hs hd hw]
      simp only [↓reduceIte]
      refine .inl ?_
      obtain ⟨c', s, D, ks, Lf, e1, e2, e3, e4, e5, e6, e7, hS, e8, e9, e10, e13, e11, e12⟩ := hs.run
      rw [← e4, ← iz] at hal
      cases hdd : o.dst with
      | none => rw [hdd] at hsome; simp at hsome
      | some d =>
      have hp : sput c'.m o.dst (ptrOf bh τ.n) s = some ((d, ptrOf bh τ.n) :: s) := by
        rw [e2, hdd]
        rw [hdd] at hdst
        simp only [jn] at hdst
        simp only [sput, hdst, ag]
      obtain ⟨nx, w', hr, _, hres⟩ := EF (σ := ⟨s, τ.h, τ.n⟩) hS o (by rw [e1]; exact EX hal) rfl hp
      rw [e1] at hr
      have hfin : ∀ v, dH c' ⟨(d, ptrOf bh τ.n) :: s, (τ.n, bh) :: τ.h, τ.n + 1⟩ (a.put o.dst v) w' → eO c (putF o.dst .undef (some bh) τ) (a.put o.dst v) w' := by
        intro v hS2
        obtain ⟨_, _, _, μ0, p4, p5, p6⟩ := id hS
        obtain ⟨q1, q2, q3, μ, q4, q5, q6⟩ := hS2
        have hn := p4.E6
        obtain ⟨L, r1, r2⟩ := HR.pop p4 q4
        rw [e3] at r1 r2
        have hPR : PR (mK c) w' c.ab c'.ok bh ((a.put o.dst v).tmps.getD d undef) L := by
          have := q5 d
          rw [bZ, if_pos rfl, e3] at this
          exact PR.of (tP hal) (Ha hal) r1 this
        have hLD : ∀ b ∈ L, b ∉ D := fun b hb => (e7 b (hPR.blocks b hb).1).2
        have H1 := r2.wK (ok := c.ok) (D := D) e7 hLD e6
        have hpR' : PR (mK c) w' c.ab c.ok bh ((a.put o.dst v).tmps.getD d undef) L := by
          cases bh with
          | row fr t l =>
            obtain ⟨m, g1, g2⟩ := hPR
            exact ⟨m, g1.fT (fun b hb => (e7 b (g1.blocks b hb).1).1), g2⟩
          | box cs =>
            obtain ⟨b, oo, us, g1, g2, g3, g4, g5, g6⟩ := hPR
            refine ⟨b, oo, us, g1, g2, (e7 b g3).1, g4, ?_, g6⟩
            exact CT.nB (tP hal _ rfl) (VRl.fT (μ := fun _ => (⟨0, 0, false⟩ : Mu)) (h := []) (n := 0) _ _ g5.zJ)
          | mp k l =>
            obtain ⟨b, g1, g2, g3, g4⟩ := hPR
            exact ⟨b, g1, g2, (e7 b g3).1, g4⟩
        have hsl : ∀ t, t ≠ d → VR w' c.ab c.ok μ τ.h τ.n (sget s t) ((a.put o.dst v).tmps.getD t undef) := by
          intro t ht
          have := q5 t
          rw [bZ, if_neg ht, e3] at this
          exact VR.fT _ _ (VR.low hn _ _ _ (p5 t) this)
        refine ⟨e8 _ q1, q2, by rw [← e2, ← e10, ← e13]; exact q3, (d, .undef) :: s, by rw [hdd, iL, e4]; rfl, μ, d :: ks.filter (fun x => decide (x ≠ d)), lE Lf d L, ?_, fun t => ?_, ?_, fun t reg' ht => ?_, XR.none (ki.trans hxn)⟩
        · have hh : (putF o.dst .undef (some bh) τ).h = τ.h ∧ (putF o.dst .undef (some bh) τ).n = τ.n := ix
          rw [hh.1, hh.2]
          refine H1.ni ?_
          rw [List.flatMap_cons, ib, e5]
          refine List.Sublist.append (List.Sublist.refl _) ?_
          have : (ks.filter (fun x => decide (x ≠ d))).flatMap (lE Lf d L) = (ks.filter (fun x => decide (x ≠ d))).flatMap Lf := lV fun x hx => cZ (by simpa using (List.mem_filter.1 hx).2)
          rw [this]
          exact lW List.filter_sublist
        · have hh : (putF o.dst .undef (some bh) τ).h = τ.h ∧ (putF o.dst .undef (some bh) τ).n = τ.n := ix
          rw [hh.1, hh.2, bZ]
          split
          · simp [VR]
          · rename_i ht; exact hsl t ht
        · have hh : (putF o.dst .undef (some bh) τ).h = τ.h ∧ (putF o.dst .undef (some bh) τ).n = τ.n := ix
          rw [hh.1, hh.2, ← e9, ← e10]
          rw [e3] at q6
          exact VRl.fT _ _ (VRl.low hn _ _ _ p6 q6)
        · rw [hdd] at ht
          simp only [putF] at ht
          by_cases htd : t = d
          · subst htd
            rw [ib] at ht
            simp only [af] at ht; subst ht
            exact ⟨by simp, by rw [ib]; exact hpR'⟩
          · rw [cZ htd] at ht
            have := e11 w' (a.put o.dst v) (fun u => if u = d then none else τ.pd u) q1 (fun u reg'' hu => by
              by_cases hud : u = d
              · simp [hud] at hu
              · simp only [hud, ↓reduceIte] at hu
                exact ⟨hu, fq (dst := o.dst) (by rw [hdd]; simpa using Ne.symm hud)⟩) t reg' (by simpa [htd] using ht)
            exact ⟨by simp [this.1, htd], by rw [cZ htd]; exact this.2⟩
      unfold Oper.wp
      rw [hr]
      rcases hres with ⟨v, rfl, hS2⟩ | ⟨rfl, hS2⟩
      · exact hK _ _ (hfin v hS2)
      · exact hK _ _ (hfin _ hS2)
    | free A hw hpd hst hex hc hrd =>
      rw [oJ hs hd hw]
      simp only [↓reduceIte]
      refine .inl ?_
      obtain ⟨c', s, D, ks, Lf, e1, e2, e3, e4, e5, e6, e7, hS, e8, e9, e10, e13, e11, e12⟩ := hs.run
      rw [← e4, ← iz] at hex
      obtain ⟨i1, i2, i3, _⟩ := HI (h' := τ.h) (n' := τ.n) hst hex (fun _ _ => rfl)
      obtain ⟨s', hp, hq⟩ := uZ (e2 ▸ hdst) A.v s
      obtain ⟨nx, w', hr, hstl, hres⟩ := EF (σ := ⟨s, τ.h, τ.n⟩) hS o (by rw [e1]; exact hex) hc (by unfold Go.Tw.ks; rw [i3]; exact hp)
      have hww : w' = w := by
        have := hstl hst w (Below.refl _ _)
        rw [hr] at this
        simpa using this
      subst hww
      rw [e1] at hr
      have hfin : ∀ v, dH c' ⟨s', A.h, A.n⟩ (a.put o.dst v) w' → eO c (putF o.dst A.v none τ) (a.put o.dst v) w' := by
        intro v hS2
        rw [i1, i2] at hS2
        have hxr := wL (v := v) (x := A.v) hcx e12
        have := eO.back (c := c) (pd' := (putF o.dst A.v none ⟨sget s, τ.pd, τ.h, τ.n, τ.x⟩).pd) (x' := τ.x) (s := s) e3 e2 e5 e6 e7 e8 e9 e10 e13 hS2 (e11 _ _ _ hS2.fr (hput (fun t ht => fq ht))) (by
          rw [hq, e4]
          exact hxr)
        rw [hq] at this
        rw [show τ = ⟨sget s, τ.pd, τ.h, τ.n, τ.x⟩ by rw [e4]]
        exact this
      unfold Oper.wp
      rw [hr]
      rcases hres with ⟨v, rfl, hS2⟩ | ⟨rfl, hS2⟩
      · exact hK _ _ (hfin v hS2)
      · exact hK _ _ (hfin _ hS2)
  | @tq A y hv hdst V hxn =>
    rw [oJ hs hd V.RI]
    simp only [↓reduceIte]
    refine .inl (Kg ?_)
    have hs1 := eO.NO (dY o.op) hs
    have hx1 : (attF (dY o.op) τ).x = none := (E1 _ _).trans hxn
    rcases V.ev with ⟨rfl, _, hev⟩ | ⟨px, rfl, hap, rfl⟩
    · obtain ⟨c', s, D, ks, Lf, e1, e2, e3, e4, e5, e6, e7, hS, e8, e9, e10, e13, e11, e12⟩ := hs1.run
      rw [← e4, ← iz] at hev
      obtain ⟨s', hp, hq⟩ := uZ (e2 ▸ hdst) A.v s
      have hevo := evV_evOp (N := fun _ _ _ _ _ _ => none) (m := c'.m) hev hp
      rw [← e1] at hevo
      have hF' : ∀ cn ∈ F, an c'.P cn := by rw [e1]; exact hF
      have := evOp_ok (N := fun _ _ _ _ _ _ => none) (fun _ _ _ _ _ _ _ _ _ h => by cases h) hF' (K := some) hS hevo (K' := fun a' w' => NP o.dst a a' → K' a' w') (Q := Q) fun σ' a' w' hσ hS2 ha => by
        simp only [af] at hσ; subst hσ
        refine hK _ _ ?_
        have := eO.back (c := c) (pd' := (putF o.dst A.v none ⟨sget s, (attF (dY o.op) τ).pd, A.h, A.n, none⟩).pd) (x' := none) (s := s) e3 e2 e5 e6 e7 e8 e9 e10 e13 hS2 (e11 w' _ _ hS2.fr (hput ha)) (XR.none rfl)
        rw [hq] at this
        rw [← e4]
        exact this
      rw [e1] at this
      exact this
    · obtain ⟨v, w', hr, hS2⟩ := eO.app hs1 hx1 hdst hap
      unfold Oper.wp
      rw [hr]
      exact fun _ => hK _ _ hS2
end
end Go.Tw
