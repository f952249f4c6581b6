/- A step of the typed logic of this claim is proved here: what an operation does to the data that slots and memory stand for. -/
import Derived.Test.YtmjacadeccoclaaT18e
set_option linter.all false
namespace Go.Tw
open Go Go.RowKit

section
variable {w w' : World} {imm imm' ok ok' : Nat → Prop} {μ : Nat → Mu} {h : Heap} {n : Nat} {fr : Bool}

theorem TO1.weak {f f' : Bool} (hf : leB f f' = true) {x : TV} {v : Value} {L : List Nat} (H : TO1 w imm ok f' x v L) : TO1 w imm ok f x v L := by
  have hi : ∀ b, immf f' imm b → immf f imm b := fun b hb => ⟨by cases f <;> cases f' <;> simp_all [leB, immf], hb.2⟩
  cases x with
  | p u => exact H
  | tr t l =>
    rcases H with H | ⟨b, o, cap, L', h1, h2, h3, h4, h5, h6, h7⟩
    · exact .inl H
    · exact .inr ⟨b, o, cap, L', h1, h2, RL.imp (fun x _ o L'' hL'' hr => TRc.mono hi (fun _ h => h) (fun _ _ => rfl) (fun _ _ => rfl) rfl hr) h3, h4, h5, h6, h7⟩
  | iptr t l i off =>
    obtain ⟨h1, h2, x, b, o, us, h3, h4, h5, h6, h7, h8, h9⟩ := H
    exact ⟨h1, h2, x, b, o, us, h3, h4, h5, h6, h7, h8.mono hi (fun _ h => h) (fun _ _ => rfl) (by simp), h9⟩
  | _ => exact H.elim
theorem TOC.weak {f f' : Bool} (hf : leB f f' = true) : ∀ {cs : List TV} {us : List Value} {L : List Nat}, TOC w imm ok f' cs us L → TOC w imm ok f cs us L
  | [], us, L, H => H
  | c :: cs, us, L, H => by
    obtain ⟨u, us', L1, L2, rfl, rfl, h1, h2⟩ := H
    exact ⟨u, us', L1, L2, rfl, rfl, h1.weak hf, h2.weak hf⟩
theorem absC_top {D : List Nat} {c f : TV} {v : Value} {h' : Heap} (H : HR w imm ok μ h n D) (hv : VR w imm ok μ h n c v) (ha : absC h c = some (f, fr, h')) (ht : topB [c] = true) :
    ∃ L, TO1 w imm ok fr f v L ∧ HR w imm ok μ h' n (L ++ D) := by
  unfold absC at ha
  split at ha
  · simp only [Option.some.injEq, Prod.mk.injEq] at ha
    obtain ⟨rfl, rfl, rfl⟩ := ha
    exact ⟨[], ⟨by simpa [VR] using hv, rfl⟩, by simpa using H⟩
  · simp [topB] at ht
  · rename_i r
    split at ha
    · rename_i fr0 t l hg
      simp only [Option.some.injEq, Prod.mk.injEq] at ha
      obtain ⟨rfl, rfl, rfl⟩ := ha
      simp only [VR, hg] at hv
      obtain ⟨L, hR, H'⟩ := H.detach hg
      obtain ⟨L', h1, h2⟩ := SlR.top (l := l) hv.2 (by omega) hR
      simp only [List.drop_zero, List.take_length] at h1
      exact ⟨L', h1, H'.dsub (List.Sublist.append h2 (List.Sublist.refl D))⟩
    · simp at ha
  · rename_i r off len
    split at ha
    · rename_i fr0 t l hg
      simp only [Option.some.injEq, Prod.mk.injEq] at ha
      obtain ⟨rfl, rfl, rfl⟩ := ha
      simp only [VR, hg] at hv
      obtain ⟨L, hR, H'⟩ := H.detach hg
      obtain ⟨L', h1, h2⟩ := SlR.top (l := l) hv.2.2 hv.2.1 hR
      exact ⟨L', h1, H'.dsub (List.Sublist.append h2 (List.Sublist.refl D))⟩
    · simp at ha
  · simp at ha
theorem topB_cons {c : TV} {cs : List TV} (h : topB (c :: cs) = true) : topB [c] = true ∧ topB cs = true := by
  cases c <;> simp_all [topB]
theorem absL_top : ∀ {cs fs : List TV} {us : List Value} {D : List Nat} {h : Heap} {f : Bool} {h' : Heap}, HR w imm ok μ h n D → VRl w imm ok μ h n cs us → absL h cs = some (fs, f, h') → topB cs = true →
    ∃ L, TOC w imm ok f fs us L ∧ HR w imm ok μ h' n (L ++ D)
  | [], fs, us, D, h, fr, h', H, hv, ha, _ => by
    simp only [VRl] at hv; subst hv
    simp only [absL, Option.some.injEq, Prod.mk.injEq] at ha
    obtain ⟨rfl, rfl, rfl⟩ := ha
    exact ⟨[], ⟨rfl, rfl⟩, by simpa using H⟩
  | c :: cs, fs, us, D, h, fr, h', H, hv, ha, ht => by
    simp only [VRl] at hv
    obtain ⟨u, us', rfl, h1, h2⟩ := hv
    simp only [absL, Option.bind_eq_some_iff, Option.some.injEq, Prod.mk.injEq] at ha
    obtain ⟨⟨f1, b1, hh1⟩, ha1, ⟨f2, b2, hh2⟩, ha2, rfl, rfl, rfl⟩ := ha
    obtain ⟨t1, t2⟩ := topB_cons ht
    obtain ⟨L1, g1, g2⟩ := absC_top H h1 ha1 t1
    have hsub : ∀ r x, hget hh1 r = some x → hget h r = some x := absL_sub (cs := [c]) (fs := [f1]) (fr := b1) (by simp [absL, ha1])
    have h2' : VRl w imm ok μ hh1 n cs us' := VRl.mono (Kept.sub hsub) _ _ (innOkl_true _) h2
    obtain ⟨L2, k1, k2⟩ := absL_top g2 h2' ha2 t2
    refine ⟨L1 ++ L2, ⟨u, us', L1, L2, rfl, rfl, g1.weak (by cases b1 <;> cases b2 <;> rfl), k1.weak (by cases b1 <;> cases b2 <;> rfl)⟩, k2.dperm ?_⟩
    rw [← List.append_assoc]
    exact List.Perm.append_right _ List.perm_append_comm

theorem TOC.app : ∀ {xs ys : List TV} {us vs : List Value} {L M : List Nat}, TOC w imm ok fr xs us L → TOC w imm ok fr ys vs M → TOC w imm ok fr (xs ++ ys) (us ++ vs) (L ++ M)
  | [], ys, us, vs, L, M, H, K => by obtain ⟨rfl, rfl⟩ := H; simpa using K
  | x :: xs, ys, us, vs, L, M, H, K => by
    obtain ⟨u, us', L1, L2, rfl, rfl, h1, h2⟩ := H
    exact ⟨u, us' ++ vs, L1, L2 ++ M, rfl, by simp, h1, TOC.app h2 K⟩
theorem TOC.dec : ∀ {t : Ty} {cs r : List TV} {x : den t} {us : List Value} {L : List Nat}, decT t cs = some (x, r) → TOC w imm ok fr cs us L →
    ∃ us1 us2 L1 L2, us = us1 ++ us2 ∧ L = L1 ++ L2 ∧ TOC w imm ok fr (encT t x) us1 L1 ∧ TOC w imm ok fr r us2 L2
  | .int k, cs, r, x, us, L, hd, H => by
    simp only [decT] at hd
    split at hd <;> first | (simp at hd; done) | skip
    split at hd
    · simp only [Option.some.injEq, Prod.mk.injEq] at hd
      obtain ⟨rfl, rfl⟩ := hd
      subst_vars
      obtain ⟨u, us', L1, L2, rfl, rfl, ⟨rfl, rfl⟩, h2⟩ := H
      exact ⟨[_], us', [], L2, rfl, rfl, ⟨_, [], [], [], rfl, rfl, ⟨rfl, rfl⟩, rfl, rfl⟩, h2⟩
    · simp at hd
  | .bool, cs, r, x, us, L, hd, H => by
    simp only [decT] at hd
    split at hd <;> first | (simp at hd; done) | skip
    simp only [Option.some.injEq, Prod.mk.injEq] at hd
    obtain ⟨rfl, rfl⟩ := hd
    obtain ⟨u, us', L1, L2, rfl, rfl, ⟨rfl, rfl⟩, h2⟩ := H
    exact ⟨[_], us', [], L2, rfl, rfl, ⟨_, [], [], [], rfl, rfl, ⟨rfl, rfl⟩, rfl, rfl⟩, h2⟩
  | .str, cs, r, x, us, L, hd, H => by
    simp only [decT] at hd
    split at hd <;> first | (simp at hd; done) | skip
    simp only [Option.some.injEq, Prod.mk.injEq] at hd
    obtain ⟨rfl, rfl⟩ := hd
    obtain ⟨u, us', L1, L2, rfl, rfl, ⟨rfl, rfl⟩, h2⟩ := H
    exact ⟨[_], us', [], L2, rfl, rfl, ⟨_, [], [], [], rfl, rfl, ⟨rfl, rfl⟩, rfl, rfl⟩, h2⟩
  | .un, cs, r, x, us, L, hd, H => by
    simp only [decT, Option.some.injEq, Prod.mk.injEq] at hd
    obtain ⟨_, rfl⟩ := hd
    exact ⟨[], us, [], L, rfl, rfl, ⟨rfl, rfl⟩, H⟩
  | .pr a b, cs, r, x, us, L, hd, H => by
    simp only [decT, Option.bind_eq_some_iff, Option.some.injEq, Prod.mk.injEq] at hd
    obtain ⟨⟨x1, r1⟩, hd1, ⟨x2, r2⟩, hd2, rfl, rfl⟩ := hd
    obtain ⟨us1, us2, L1, L2, rfl, rfl, h1, h2⟩ := TOC.dec hd1 H
    obtain ⟨us3, us4, L3, L4, rfl, rfl, h3, h4⟩ := TOC.dec hd2 h2
    exact ⟨us1 ++ us3, us4, L1 ++ L3, L4, by simp, by simp, h1.app h3, h4⟩
  | .sl t, cs, r, x, us, L, hd, H => by
    simp only [decT] at hd
    split at hd <;> first | (simp at hd; done) | skip
    · simp only [Option.bind_eq_some_iff, Option.some.injEq, Prod.mk.injEq] at hd
      obtain ⟨l', hc, rfl, rfl⟩ := hd
      obtain ⟨rfl, rfl⟩ := cast_some hc
      obtain ⟨u, us', L1, L2, rfl, rfl, h1, h2⟩ := H
      exact ⟨[u], us', L1, L2, rfl, rfl, ⟨u, [], L1, [], rfl, by simp, h1, rfl, rfl⟩, h2⟩
    · simp only [Option.some.injEq, Prod.mk.injEq] at hd
      obtain ⟨rfl, rfl⟩ := hd
      obtain ⟨u, us', L1, L2, rfl, rfl, ⟨rfl, rfl⟩, h2⟩ := H
      exact ⟨[_], us', [], L2, rfl, rfl, ⟨_, [], [], [], rfl, rfl, .inl ⟨rfl, rfl, rfl⟩, rfl, rfl⟩, h2⟩
  | .ref t, cs, r, x, us, L, hd, H => by
    simp only [decT] at hd
    split at hd <;> first | (simp at hd; done) | skip
    simp only [Option.bind_eq_some_iff, Option.some.injEq, Prod.mk.injEq] at hd
    obtain ⟨l', hc, rfl, rfl⟩ := hd
    obtain ⟨rfl, rfl⟩ := cast_some hc
    obtain ⟨u, us', L1, L2, rfl, rfl, h1, h2⟩ := H
    exact ⟨[u], us', L1, L2, rfl, rfl, ⟨u, [], L1, [], rfl, by simp, h1, rfl, rfl⟩, h2⟩
  | .cl g t, cs, r, x, us, L, hd, H => by
    simp only [decT] at hd
    split at hd <;> first | (simp at hd; done) | skip
    obtain ⟨u, us', L1, L2, rfl, rfl, h1, _⟩ := H
    exact h1.elim
theorem TOC.dec1 {t : Ty} {cs : List TV} {x : den t} {us : List Value} {L : List Nat} (hd : dec1 t cs = some x) (H : TOC w imm ok fr cs us L) : TOC w imm ok fr (encT t x) us L := by
  unfold Go.Tw.dec1 at hd
  split at hd
  · rename_i y hy
    simp only [Option.some.injEq] at hd; subst hd
    obtain ⟨us1, us2, L1, L2, rfl, rfl, h1, h2⟩ := TOC.dec hy H
    obtain ⟨rfl, rfl⟩ := h2
    simpa using h1
  · simp at hd
theorem TOC.length : ∀ {cs : List TV} {us : List Value} {L : List Nat}, TOC w imm ok fr cs us L → us.length = cs.length
  | [], us, L, H => by rw [H.1]; rfl
  | c :: cs, us, L, H => by obtain ⟨u, us', L1, L2, rfl, rfl, _, h2⟩ := H; simp [TOC.length h2]

/-! Shapes. -/
def ShR (w : World) (imm ok : Nat → Prop) (gv : List Value) (tm : Nat → Value) : (S : Shape) → den (shT S) → List Nat → Prop
  | [], _, L => L = []
  | (t, .v y) :: S, x, L => ∃ us, tm t = valOf (isAg y) us ∧ TRl w imm ok y x.1 us [] ∧ ShR w imm ok gv tm S x.2 L
  | (t, .own fr y) :: S, x, L => ∃ us L1 L2, L = L1 ++ L2 ∧ tm t = valOf (isAg y) us ∧ TOC w imm ok fr (encT y x.1) us L1 ∧ ShR w imm ok gv tm S x.2 L2
  | (t, .box fr y) :: S, x, L => ∃ b o us L1 L2, L = L1 ++ (b :: L2) ∧ tm t = .pointer (some ⟨b, o, none⟩) ∧ ok b ∧ Row w b (o + sz y) ∧ At w b o us ∧ TOC w imm ok fr (encT y x.1) us L1 ∧ ShR w imm ok gv tm S x.2 L2
  | (t, .boxv y) :: S, x, L => ∃ b o us L2, L = b :: L2 ∧ tm t = .pointer (some ⟨b, o, none⟩) ∧ ok b ∧ Row w b (o + sz y) ∧ At w b o us ∧ TRl w imm ok y x.1 us [] ∧ ShR w imm ok gv tm S x.2 L2
  | (t, .mp k) :: S, x, L => ∃ b L2, L = b :: L2 ∧ tm t = .map (some b) ∧ ok b ∧ MapAt w b k x.1 ∧ ShR w imm ok gv tm S x.2 L2
  | (t, .arg i) :: S, x, L => tm t = gv.getD i undef ∧ ShR w imm ok gv tm S x.2 L

theorem mkS_ok {gs : List TV} {gv : List Value} {tm : Nat → Value} (hu : ∀ t, tm t = tm t) : ∀ {S : Shape} {x : den (shT S)} {L D : List Nat} {h : Heap} {n : Nat} {μ : Nat → Mu}, ShR w imm ok gv tm S x L → HR w imm ok μ h n (L ++ D) → VRl w imm ok μ h n gs gv →
    Opened w imm ok μ h n D (fun μ' => (∀ t, VR w imm ok μ' (mkS gs S x h n).2.1 (mkS gs S x h n).2.2 (sget (mkS gs S x h n).1 t) (tm t)) ) (mkS gs S x h n).2.1 (mkS gs S x h n).2.2
  | [], x, L, D, h, n, μ, H, HH, hg => by
    simp only [ShR] at H; subst H
    exact ⟨μ, fun _ _ => rfl, by simpa [mkS] using HH, fun t => by simp [mkS, sget, VR], Nat.le_refl _, fun _ _ => rfl⟩
  | (t, .v y) :: S, x, L, D, h, n, μ, H, HH, hg => by
    obtain ⟨us, e, h1, h2⟩ := H
    obtain ⟨μ', a1, a2, a3, a4, a5⟩ := mkS_ok hu h2 HH hg
    simp only [mkS]
    refine ⟨μ', a1, a2, fun t' => ?_, a4, a5⟩
    rw [sget_cons]; split
    · subst_vars; rw [e]; exact valT_vr h1
    · exact a3 t'
  | (t, .own fr y) :: S, x, L, D, h, n, μ, H, HH, hg => by
    obtain ⟨us, L1, L2, rfl, e, h1, h2⟩ := H
    rw [List.append_assoc] at HH
    obtain ⟨μ1, b1, b2, b3, b4, b5⟩ := opnC_ok h1 HH
    obtain ⟨μ', a1, a2, a3, a4, a5⟩ := mkS_ok hu h2 b2 (VRl.mono (Kept.opened b1 b4 b5) _ _ (innOkl_true _) hg)
    simp only [mkS, opnV]
    refine ⟨μ', fun r hr => by rw [a1 r (by omega), b1 r hr], a2, fun t' => ?_, by omega, fun r hr => by rw [a5 r (by omega), b5 r hr]⟩
    rw [sget_cons]; split
    · subst_vars; rw [e]; exact VR.mono (Kept.opened a1 a4 a5) _ _ (innOk_true _) (pack_vr' b3)
    · exact a3 t'
  | (t, .box fr y) :: S, x, L, D, h, n, μ, H, HH, hg => by
    obtain ⟨b, o, us, L1, L2, rfl, e, hob, hrow, hat, h1, h2⟩ := H
    rw [List.append_assoc] at HH
    obtain ⟨μ1, b1, b2, b3, b4, b5⟩ := opnC_ok h1 HH
    have hbl : (opnC fr (encT y x.1) h n).1.length = us.length := b3.length
    have hul : us.length = sz y := h1.length.trans (enc_length (t := y) x.1)
    have kpb : ∀ {m : Mu} {reg : Reg}, Kept (fun _ => True) imm imm ok ok w w μ1 (muP μ1 (opnC fr (encT y x.1) h n).2.2 m) (opnC fr (encT y x.1) h n).2.1 (((opnC fr (encT y x.1) h n).2.2, reg) :: (opnC fr (encT y x.1) h n).2.1) (opnC fr (encT y x.1) h n).2.2 ((opnC fr (encT y x.1) h n).2.2 + 1) :=
      Kept.cons (Kept.id (fun _ h => h) (fun _ h => h) (Nat.le_refl _))
    have H1 := HR.attach (L := [b]) (reg := .box (opnC fr (encT y x.1) h n).1) (n' := (opnC fr (encT y x.1) h n).2.2 + 1) (μ' := muP μ1 (opnC fr (encT y x.1) h n).2.2 ⟨b, o, true⟩) (by simpa using b2) (Nat.le_refl _) (Nat.lt_succ_self _) (fun r hr => by simp [muP, show r ≠ (opnC fr (encT y x.1) h n).2.2 by omega]) (by
      simp only [RR, muP_self]
      exact ⟨trivial, hob, by rw [hbl, hul]; exact hrow, us, VRl.mono kpb _ _ (innOkl_true _) b3, hat⟩)
    obtain ⟨μ', a1, a2, a3, a4, a5⟩ := mkS_ok hu h2 H1 (VRl.mono kpb _ _ (innOkl_true _) (VRl.mono (Kept.opened b1 b4 b5) _ _ (innOkl_true _) hg))
    simp only [mkS]
    refine ⟨μ', fun r hr => by rw [a1 r (by omega)]; simp only [muP, show r ≠ (opnC fr (encT y x.1) h n).2.2 by omega, ↓reduceIte]; exact b1 r hr, a2, fun t' => ?_, by omega, fun r hr => by rw [a5 r (by omega)]; simp only [hget, show r ≠ (opnC fr (encT y x.1) h n).2.2 by omega, ↓reduceIte]; exact b5 r hr⟩
    rw [sget_cons]; split
    · subst_vars; rw [e]
      simp only [VR, a5 _ (Nat.lt_succ_self _), hget, ↓reduceIte]
      exact ⟨by omega, _, rfl, by rw [a1 _ (Nat.lt_succ_self _), muP_self]; simp⟩
    · exact a3 t'
  | (t, .boxv y) :: S, x, L, D, h, n, μ, H, HH, hg => by
    obtain ⟨b, o, us, L2, rfl, e, hob, hrow, hat, h1, h2⟩ := H
    have hul : us.length = sz y := h1.length
    have hel := enc_length (t := y) x.1
    have kpb : ∀ {m : Mu} {reg : Reg}, Kept (fun _ => True) imm imm ok ok w w μ (muP μ n m) h ((n, reg) :: h) n (n + 1) := Kept.cons (Kept.id (fun _ h => h) (fun _ h => h) (Nat.le_refl _))
    have H1 := HR.attach (L := [b]) (reg := .box (encT y x.1)) (n' := n + 1) (μ' := muP μ n ⟨b, o, true⟩) (by simpa using HH) (Nat.le_refl _) (Nat.lt_succ_self _) (fun r hr => by simp [muP, show r ≠ n by omega]) (by
      simp only [RR, muP_self]
      exact ⟨trivial, hob, by rw [hel]; exact hrow, us, h1.toCT.vrl, hat⟩)
    obtain ⟨μ', a1, a2, a3, a4, a5⟩ := mkS_ok hu h2 H1 (VRl.mono kpb _ _ (innOkl_true _) hg)
    simp only [mkS]
    refine ⟨μ', fun r hr => by rw [a1 r (by omega)]; simp only [muP, show r ≠ n by omega, ↓reduceIte], a2, fun t' => ?_, by omega, fun r hr => by rw [a5 r (by omega)]; simp only [hget, show r ≠ n by omega, ↓reduceIte]⟩
    rw [sget_cons]; split
    · subst_vars; rw [e]
      simp only [VR, a5 _ (Nat.lt_succ_self _), hget, ↓reduceIte]
      exact ⟨by omega, _, rfl, by rw [a1 _ (Nat.lt_succ_self _), muP_self]; simp⟩
    · exact a3 t'
  | (t, .mp k) :: S, x, L, D, h, n, μ, H, HH, hg => by
    obtain ⟨b, L2, rfl, e, hob, hm, h2⟩ := H
    have kpb : ∀ {m : Mu} {reg : Reg}, Kept (fun _ => True) imm imm ok ok w w μ (muP μ n m) h ((n, reg) :: h) n (n + 1) := Kept.cons (Kept.id (fun _ h => h) (fun _ h => h) (Nat.le_refl _))
    have H1 := HR.attach (L := [b]) (reg := .mp k x.1) (n' := n + 1) (μ' := muP μ n ⟨b, 0, true⟩) (by simpa using HH) (Nat.le_refl _) (Nat.lt_succ_self _) (fun r hr => by simp [muP, show r ≠ n by omega]) (by
      simp only [RR, muP_self]
      exact ⟨trivial, hob, hm⟩)
    obtain ⟨μ', a1, a2, a3, a4, a5⟩ := mkS_ok hu h2 H1 (VRl.mono kpb _ _ (innOkl_true _) hg)
    simp only [mkS]
    refine ⟨μ', fun r hr => by rw [a1 r (by omega)]; simp only [muP, show r ≠ n by omega, ↓reduceIte], a2, fun t' => ?_, by omega, fun r hr => by rw [a5 r (by omega)]; simp only [hget, show r ≠ n by omega, ↓reduceIte]⟩
    rw [sget_cons]; split
    · subst_vars; rw [e]
      simp only [VR, a5 _ (Nat.lt_succ_self _), hget, ↓reduceIte]
      exact ⟨by omega, _, rfl, by rw [a1 _ (Nat.lt_succ_self _), muP_self]⟩
    · exact a3 t'
  | (t, .arg i) :: S, x, L, D, h, n, μ, H, HH, hg => by
    obtain ⟨e, h2⟩ := H
    obtain ⟨μ', a1, a2, a3, a4, a5⟩ := mkS_ok hu h2 HH hg
    simp only [mkS]
    refine ⟨μ', a1, a2, fun t' => ?_, a4, a5⟩
    rw [sget_cons]; split
    · subst_vars; rw [e]; exact VR.mono (Kept.opened a1 a4 a5) _ _ (innOk_true _) (hg.get i)
    · exact a3 t'

theorem exS_ok {st : List (Nat × Nat)} {s : List (Nat × TV)} {gv : List Value} {us : Array Value} (hst : ∀ q ∈ st, us.getD q.1 undef = gv.getD q.2 undef) : ∀ {S : Shape} {x : den (shT S)} {D : List Nat} {h : Heap}, exS st s S h = some x → HR w imm ok μ h n D → SR w imm ok μ h n s us →
    ∃ L h', ShR w imm ok gv (fun t => us.getD t undef) S x L ∧ HR w imm ok μ h' n (L ++ D)
  | [], x, D, h, hx, HH, hs => ⟨[], h, by simp [ShR], by simpa using HH⟩
  | (t, .v y) :: S, x, D, h, hx, HH, hs => by
    simp only [exS, Option.bind_eq_some_iff] at hx
    obtain ⟨cs, hcs, hx⟩ := hx
    obtain ⟨hf, hx⟩ := cond_some.1 hx
    simp only [Option.bind_eq_some_iff, Option.some.injEq] at hx
    obtain ⟨d, hd, z, hz, hxe⟩ := hx
    cases hxe
    obtain ⟨vs, e, hv⟩ := cellsOf_vr hcs (hs t)
    obtain ⟨L, h', h1, h2⟩ := exS_ok hst hz HH hs
    exact ⟨L, h', ⟨vs, e, CT.dec1 hd (CT.of_vrl hf hv), h1⟩, h2⟩
  | (t, .own fr y) :: S, x, D, h, hx, HH, hs => by
    simp only [exS, Option.bind_eq_some_iff] at hx
    obtain ⟨cs, hcs, ⟨fs, f, h1⟩, habs, hx⟩ := hx
    obtain ⟨hf, hx⟩ := cond_some.1 hx
    simp only [Option.bind_eq_some_iff, Option.some.injEq] at hx
    obtain ⟨d, hd, z, hz, hxe⟩ := hx
    cases hxe
    simp only [Bool.and_eq_true] at hf
    obtain ⟨vs, e, hv⟩ := cellsOf_vr hcs (hs t)
    obtain ⟨L1, g1, g2⟩ := absL_top HH hv habs hf.1
    have hs1 : SR w imm ok μ h1 n s us := SR.mono (Kept.sub (absL_sub habs)) hs
    obtain ⟨L2, h', h3, h4⟩ := exS_ok hst hz g2 hs1
    refine ⟨L1 ++ L2, h', ⟨vs, L1, L2, rfl, e, TOC.dec1 hd (g1.weak hf.2), h3⟩, h4.dperm ?_⟩
    rw [← List.append_assoc]
    exact List.Perm.append_right _ List.perm_append_comm
  | (t, .box fr y) :: S, x, D, h, hx, HH, hs => by
    simp only [exS] at hx
    split at hx
    · rename_i r hq
      split at hx
      · rename_i cs hg
        simp only [Option.bind_eq_some_iff] at hx
        obtain ⟨⟨fs, f, h1⟩, habs, hx⟩ := hx
        obtain ⟨hf, hx⟩ := cond_some.1 hx
        simp only [Option.bind_eq_some_iff, Option.some.injEq] at hx
        obtain ⟨d, hd, z, hz, hxe⟩ := hx
        cases hxe
        simp only [Bool.and_eq_true] at hf
        have hv := hs t
        rw [hq] at hv
        simp only [VR, hg] at hv
        obtain ⟨_, A, e1, hA⟩ := hv
        obtain ⟨L0, hR, HH1⟩ := HH.detach hg
        simp only [RR] at hR
        obtain ⟨rfl, q1, q2, vs, q3, q4⟩ := hR
        have hv1 : VRl w imm ok μ (hdel h r) n cs vs := VRl.mono (Kept.sub (fun _ _ => hsub_hdel)) _ _ (innOkl_true _) q3
        obtain ⟨L1, g1, g2⟩ := absL_top HH1 hv1 habs hf.1
        have hs1 : SR w imm ok μ h1 n s us := SR.mono (Kept.sub (absL_sub habs)) (SR.mono (Kept.sub (fun _ _ => hsub_hdel)) hs)
        obtain ⟨L2, h', h3, h4⟩ := exS_ok hst hz g2 hs1
        have htd := TOC.dec1 hd (g1.weak hf.2)
        have hcl := htd.length
        rw [enc_length, ← q3.length] at hcl
        refine ⟨L1 ++ ((μ r).blk :: L2), h', ⟨(μ r).blk, (μ r).off, vs, L1, L2, rfl, by simp only [e1, hA]; simp, q1, by rw [← hcl]; exact q2, q4, htd, h3⟩, h4.dperm ?_⟩
        refine List.perm_iff_count.2 (fun x => ?_)
        simp only [List.count_append, List.count_cons, List.count_nil]; omega
      · simp at hx
    · simp at hx
  | (t, .boxv y) :: S, x, D, h, hx, HH, hs => by
    simp only [exS] at hx
    split at hx
    · rename_i r hq
      split at hx
      · rename_i cs hg
        obtain ⟨hf, hx⟩ := cond_some.1 hx
        simp only [Option.bind_eq_some_iff, Option.some.injEq] at hx
        obtain ⟨d, hd, z, hz, hxe⟩ := hx
        cases hxe
        have hv := hs t
        rw [hq] at hv
        simp only [VR, hg] at hv
        obtain ⟨_, A, e1, hA⟩ := hv
        obtain ⟨L0, hR, HH1⟩ := HH.detach hg
        simp only [RR] at hR
        obtain ⟨rfl, q1, q2, vs, q3, q4⟩ := hR
        have hs1 : SR w imm ok μ (hdel h r) n s us := SR.mono (Kept.sub (fun _ _ => hsub_hdel)) hs
        obtain ⟨L2, h', h3, h4⟩ := exS_ok hst hz HH1 hs1
        have htd := CT.dec1 hd (CT.of_vrl hf q3)
        have hcl := htd.length
        rw [← q3.length] at hcl
        refine ⟨(μ r).blk :: L2, h', ⟨(μ r).blk, (μ r).off, vs, L2, rfl, by simp only [e1, hA]; simp, q1, by rw [← hcl]; exact q2, q4, htd, h3⟩, h4.dperm ?_⟩
        refine List.perm_iff_count.2 (fun x => ?_)
        simp only [List.count_append, List.count_cons, List.count_nil]; omega
      · simp at hx
    · simp at hx
  | (t, .mp k) :: S, x, D, h, hx, HH, hs => by
    simp only [exS] at hx
    split at hx
    · rename_i r hq
      split at hx
      · rename_i k' l hg
        split at hx
        · rename_i hkk
          subst hkk
          simp only [Option.bind_eq_some_iff, Option.some.injEq] at hx
          obtain ⟨z, hz, hxe⟩ := hx
          cases hxe
          have hv := hs t
          rw [hq] at hv
          simp only [VR, hg] at hv
          obtain ⟨_, b, e1, rfl⟩ := hv
          obtain ⟨L0, hR, HH1⟩ := HH.detach hg
          simp only [RR] at hR
          obtain ⟨rfl, q1, q2⟩ := hR
          have hs1 : SR w imm ok μ (hdel h r) n s us := SR.mono (Kept.sub (fun _ _ => hsub_hdel)) hs
          obtain ⟨L2, h', h3, h4⟩ := exS_ok hst hz HH1 hs1
          refine ⟨(μ r).blk :: L2, h', ⟨(μ r).blk, L2, rfl, e1, q1, q2, h3⟩, h4.dperm ?_⟩
          refine List.perm_iff_count.2 (fun x => ?_)
          simp only [List.count_append, List.count_cons, List.count_nil]; omega
        · simp at hx
      · simp at hx
    · simp at hx
  | (t, .arg i) :: S, x, D, h, hx, HH, hs => by
    simp only [exS] at hx
    obtain ⟨hf, hx⟩ := cond_some.1 hx
    simp only [Option.bind_eq_some_iff, Option.some.injEq] at hx
    obtain ⟨z, hz, hxe⟩ := hx
    cases hxe
    obtain ⟨L2, h', h3, h4⟩ := exS_ok hst hz HH hs
    obtain ⟨q, hq, hb⟩ := List.any_eq_true.1 hf
    simp only [Bool.and_eq_true] at hb
    have e1 := Nat.eq_of_beq_eq_true hb.1
    have e2 := Nat.eq_of_beq_eq_true hb.2
    have := hst q hq
    rw [e1, e2] at this
    exact ⟨L2, h', ⟨this, h3⟩, h4⟩

theorem exOwn_ok {g : TV} {t : Ty} {v : Value} {y : den t} {D : List Nat} {h h' : Heap} (hx : exOwn g t h = some (y, h')) (HH : HR w imm ok μ h n D) (hg : VR w imm ok μ h n g v) :
    ∃ us L, v = valOf (isAg t) us ∧ TOC w imm ok true (encT t y) us L ∧ HR w imm ok μ h' n (L ++ D) ∧ ∀ r x, hget h' r = some x → hget h r = some x := by
  simp only [exOwn, Option.bind_eq_some_iff] at hx
  obtain ⟨cs, hcs, ⟨fs, f, h1⟩, habs, hx⟩ := hx
  obtain ⟨hf, hx⟩ := cond_some.1 hx
  simp only [Option.bind_eq_some_iff, Option.some.injEq, Prod.mk.injEq] at hx
  obtain ⟨d, hd, rfl, rfl⟩ := hx
  simp only [Bool.and_eq_true] at hf
  obtain ⟨vs, rfl, hv⟩ := cellsOf_vr hcs hg
  obtain ⟨L1, g1, g2⟩ := absL_top HH hv habs hf.1
  exact ⟨vs, L1, rfl, TOC.dec1 hd (by rw [← hf.2]; exact g1), g2, fun r x hx => absL_sub habs r x hx⟩
theorem exBox_ok {g : TV} {t : Ty} {v : Value} {y : den t} {D : List Nat} {h h' : Heap} (hx : exBox g t h = some (y, h')) (HH : HR w imm ok μ h n D) (hg : VR w imm ok μ h n g v) :
    ∃ us L, v = valOf false us ∧ TOC w imm ok false [.iptr t [y] 0 0] us L ∧ HR w imm ok μ h' n (L ++ D) ∧ ∀ r x, hget h' r = some x → hget h r = some x := by
  unfold exBox at hx
  split at hx
  · rename_i r
    split at hx
    · rename_i cs hgr
      obtain ⟨hf, hx⟩ := cond_some.1 hx
      simp only [Option.bind_eq_some_iff, Option.some.injEq, Prod.mk.injEq] at hx
      obtain ⟨d, hd, rfl, rfl⟩ := hx
      simp only [VR, hgr] at hg
      obtain ⟨_, A, rfl, hA⟩ := hg
      simp only [Nat.add_zero] at hA; subst hA
      obtain ⟨L0, hR, HH1⟩ := HH.detach hgr
      simp only [RR] at hR
      obtain ⟨rfl, q1, q2, vs, q3, q4⟩ := hR
      have htd := CT.dec1 hd (CT.of_vrl hf q3)
      have hlen : sz t = cs.length := by rw [← htd.length, q3.length]
      have htd2 : TRl w (immf false imm) ok t d vs [] := TRl.reok (fun b hb => ⟨rfl, hb⟩) (by simp) htd
      refine ⟨[.pointer (some ⟨(μ r).blk, (μ r).off, none⟩)], [(μ r).blk], by simp [valOf], ?_, HH1, fun r' x hx => hsub_hdel hx⟩
      exact ⟨_, [], [(μ r).blk], [], rfl, by simp, ⟨rfl, rfl, d, _, _, vs, rfl, rfl, rfl, q1, by rw [hlen]; exact q2, htd2, q4⟩, rfl, rfl⟩
    · simp at hx
  · simp at hx
theorem ex1_ok {g : TV} {t : Ty} {v : Value} {y : den t} {D : List Nat} {h h' : Heap} (hx : ex1 g t h = some (y, h')) (HH : HR w imm ok μ h n D) (hg : VR w imm ok μ h n g v) :
    ∃ us L, v = valOf (isAg t) us ∧ TOC w imm ok (frT t) (encT t y) us L ∧ HR w imm ok μ h' n (L ++ D) ∧ ∀ r x, hget h' r = some x → hget h r = some x := by
  cases t with
  | ref t => exact exBox_ok hx HH hg
  | _ => exact exOwn_ok hx HH hg
theorem exG_ok : ∀ {gs : List TV} {gt : List Ty} {gv : List Value} {y : den (prodT gt)} {D : List Nat} {h h' : Heap}, exG gs gt h = some (y, h') → HR w imm ok μ h n D → VRl w imm ok μ h n gs gv →
    ∃ L, ResG w imm ok gt y gv L ∧ HR w imm ok μ h' n (L ++ D) ∧ ∀ r x, hget h' r = some x → hget h r = some x
  | [], [], gv, y, D, h, h', hx, HH, hg => by
    simp only [exG, Option.some.injEq, Prod.mk.injEq] at hx
    simp only [VRl] at hg
    obtain ⟨_, rfl⟩ := hx
    exact ⟨[], ⟨hg, rfl⟩, by simpa using HH, fun _ _ h => h⟩
  | g :: gs, t :: gt, gv, y, D, h, h', hx, HH, hg => by
    simp only [exG, Option.bind_eq_some_iff, Option.some.injEq] at hx
    obtain ⟨⟨d, h1⟩, hd, z, hz, hye⟩ := hx
    cases hye
    simp only [VRl] at hg
    obtain ⟨v, gv', rfl, hv0, hg'⟩ := hg
    obtain ⟨vs, L1, rfl, g1, g2, g3⟩ := ex1_ok hd HH hv0
    have hg1 : VRl w imm ok μ h1 n gs gv' := VRl.mono (Kept.sub g3) _ _ (innOkl_true _) hg'
    obtain ⟨L2, h3, h4, h5⟩ := exG_ok hz g2 hg1
    refine ⟨L1 ++ L2, ⟨vs, gv', L1, L2, rfl, rfl, g1, h3⟩, h4.dperm ?_, fun r x hx => g3 r x (h5 r x hx)⟩
    rw [← List.append_assoc]
    exact List.Perm.append_right _ List.perm_append_comm
  | [], _ :: _, _, _, _, _, _, hx, _, _ => by simp [exG] at hx
  | _ :: _, [], _, _, _, _, _, hx, _, _ => by simp [exG] at hx

mutual
theorem eqG_vr {μ' : Nat → Mu} {h' : Heap} {n' : Nat} : ∀ (x y : TV) (v : Value), eqG x y = true → VR w imm ok μ h n x v → VR w imm ok μ' h' n' y v → VR w imm ok μ' h' n' x v
  | .p u, .p u', v, _, h1, _ => by simpa [VR] using h1
  | .full r, .full r', v, e, _, h2 => by simp only [eqG] at e; have := Nat.eq_of_beq_eq_true e; subst this; exact h2
  | .agg xs, .agg ys, v, e, h1, h2 => by
    simp only [eqG] at e
    simp only [VR] at h1 h2 ⊢
    obtain ⟨us, rfl, h1⟩ := h1
    obtain ⟨us', e', h2⟩ := h2
    simp only [Value.agg.injEq] at e'
    have : us' = us := by simpa using e'.symm
    subst this
    exact ⟨us', rfl, eqGL_vr xs ys us' e h1 h2⟩
  | .p _, .full _, _, e, _, _ => by simp [eqG] at e
  | .p _, .agg _, _, e, _, _ => by simp [eqG] at e
  | .full _, .p _, _, e, _, _ => by simp [eqG] at e
  | .full _, .agg _, _, e, _, _ => by simp [eqG] at e
  | .agg _, .p _, _, e, _, _ => by simp [eqG] at e
  | .agg _, .full _, _, e, _, _ => by simp [eqG] at e
  | .p _, .tr _ _, _, e, _, _ => by simp [eqG] at e
  | .p _, .sub _ _ _, _, e, _, _ => by simp [eqG] at e
  | .p _, .inn _ _ _, _, e, _, _ => by simp [eqG] at e
  | .p _, .ptr _ _ _, _, e, _, _ => by simp [eqG] at e
  | .p _, .iptr _ _ _ _, _, e, _, _ => by simp [eqG] at e
  | .p _, .tup _, _, e, _, _ => by simp [eqG] at e
  | .p _, .ifc _ _, _, e, _, _ => by simp [eqG] at e
  | .p _, .fn _ _ _, _, e, _, _ => by simp [eqG] at e
  | .p _, .mp _, _, e, _, _ => by simp [eqG] at e
  | .p _, .undef, _, e, _, _ => by simp [eqG] at e
  | .full _, .tr _ _, _, e, _, _ => by simp [eqG] at e
  | .full _, .sub _ _ _, _, e, _, _ => by simp [eqG] at e
  | .full _, .inn _ _ _, _, e, _, _ => by simp [eqG] at e
  | .full _, .ptr _ _ _, _, e, _, _ => by simp [eqG] at e
  | .full _, .iptr _ _ _ _, _, e, _, _ => by simp [eqG] at e
  | .full _, .tup _, _, e, _, _ => by simp [eqG] at e
  | .full _, .ifc _ _, _, e, _, _ => by simp [eqG] at e
  | .full _, .fn _ _ _, _, e, _, _ => by simp [eqG] at e
  | .full _, .mp _, _, e, _, _ => by simp [eqG] at e
  | .full _, .undef, _, e, _, _ => by simp [eqG] at e
  | .agg _, .tr _ _, _, e, _, _ => by simp [eqG] at e
  | .agg _, .sub _ _ _, _, e, _, _ => by simp [eqG] at e
  | .agg _, .inn _ _ _, _, e, _, _ => by simp [eqG] at e
  | .agg _, .ptr _ _ _, _, e, _, _ => by simp [eqG] at e
  | .agg _, .iptr _ _ _ _, _, e, _, _ => by simp [eqG] at e
  | .agg _, .tup _, _, e, _, _ => by simp [eqG] at e
  | .agg _, .ifc _ _, _, e, _, _ => by simp [eqG] at e
  | .agg _, .fn _ _ _, _, e, _, _ => by simp [eqG] at e
  | .agg _, .mp _, _, e, _, _ => by simp [eqG] at e
  | .agg _, .undef, _, e, _, _ => by simp [eqG] at e
  | .tr _ _, _, _, e, _, _ => by simp [eqG] at e
  | .sub _ _ _, _, _, e, _, _ => by simp [eqG] at e
  | .inn _ _ _, _, _, e, _, _ => by simp [eqG] at e
  | .ptr r i off, y, v, e, _, h2 => by
    cases y with
    | ptr r' i' off' =>
      cases i <;> cases off <;> cases i' <;> cases off' <;> simp only [eqG] at e <;> first
        | (have := Nat.eq_of_beq_eq_true e; subst this; exact h2)
        | (cases e)
    | _ => cases i <;> cases off <;> simp [eqG] at e
  | .iptr _ _ _ _, _, _, e, _, _ => by simp [eqG] at e
  | .tup _, _, _, e, _, _ => by simp [eqG] at e
  | .ifc _ _, _, _, e, _, _ => by simp [eqG] at e
  | .fn _ _ _, _, _, e, _, _ => by simp [eqG] at e
  | .mp _, _, _, e, _, _ => by simp [eqG] at e
  | .undef, _, _, e, _, _ => by simp [eqG] at e
theorem eqGL_vr {μ' : Nat → Mu} {h' : Heap} {n' : Nat} : ∀ (xs ys : List TV) (us : List Value), eqGL xs ys = true → VRl w imm ok μ h n xs us → VRl w imm ok μ' h' n' ys us → VRl w imm ok μ' h' n' xs us
  | [], [], us, _, _, h2 => h2
  | x :: xs, y :: ys, us, e, h1, h2 => by
    simp only [eqGL, Bool.and_eq_true] at e
    simp only [VRl] at h1 h2 ⊢
    obtain ⟨u, us', rfl, h3, h4⟩ := h1
    obtain ⟨u2, us2, e2, h5, h6⟩ := h2
    simp only [List.cons.injEq] at e2
    obtain ⟨rfl, rfl⟩ := e2
    exact ⟨u, us', rfl, eqG_vr x y u e.1 h3 h5, eqGL_vr xs ys us' e.2 h4 h6⟩
  | [], _ :: _, _, e, _, _ => by simp [eqGL] at e
  | _ :: _, [], _, e, _, _ => by simp [eqGL] at e
end
end

/-- What is not in a shape is forgotten; regions get new names. -/
theorem Sim.shape {c : Cx} {σ : St} {a : Act} {w : World} {gt : List Ty} {S : Shape} {y : den (prodT gt)} {x : den (shT S)} (hs : Sim c σ a w) (hx : exX c.m.st c.gs gt S σ = some (y, x)) : Sim c (mkSt c.gs gt S y x) a w := by
  obtain ⟨h1, h2, h3, μ, hH, hl, hg⟩ := hs
  simp only [exX, Option.bind_eq_some_iff] at hx
  obtain ⟨⟨y', h'⟩, hy, hx⟩ := hx
  obtain ⟨hq, hx⟩ := cond_some.1 hx
  simp only [Option.bind_eq_some_iff, Option.some.injEq, Prod.mk.injEq] at hx
  obtain ⟨x', hx', rfl, rfl⟩ := hx
  simp only at hq hx'
  obtain ⟨L1, g1, g2, g3⟩ := exG_ok hy hH hg
  have hs1 : SR w c.imm c.ok μ h' σ.n σ.s a.tmps := SR.mono (Kept.sub g3) hl
  obtain ⟨L2, h'', g4, g5⟩ := exS_ok (gv := c.gv) h3.2 hx' g2 hs1
  have H0 : HR w c.imm c.ok (fun _ => ⟨0, 0, false⟩) [] 0 (L1 ++ L2) := by
    obtain ⟨own, _, q1, q2⟩ := g5
    refine ⟨fun _ => none, fun r x hx => by simp [hget] at hx, ?_, fun _ _ => rfl⟩
    refine (List.Perm.nodup_iff ?_).1 q1
    simpa using List.perm_append_comm
  obtain ⟨μ1, b1, b2, b3, b4, b5⟩ := opnG_ok (D := L2) g1 H0
  have hgs := eqGL_vr c.gs _ c.gv hq hg b3
  obtain ⟨μ2, e1, e2, e3, e4, e5⟩ := mkS_ok (D := []) (tm := fun t => a.tmps.getD t undef) (fun _ => rfl) g4 (by simpa using b2) hgs
  exact ⟨h1, h2, h3, μ2, e2, e3, VRl.mono (Kept.opened e1 e4 e5) _ _ (innOkl_true _) hgs⟩
end Go.Tw
