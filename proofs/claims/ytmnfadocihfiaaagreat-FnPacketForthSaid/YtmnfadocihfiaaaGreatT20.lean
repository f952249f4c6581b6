/- The logic: a step. -/
import Derived.Test.YtmnfadocihfiaaaGreatT18e
set_option linter.all false
namespace Go.Tw
open Go Go.RowKit
variable [Grd]
section
variable {w w' : World} {imm imm' ok ok' : Nat → Prop} {μ : Nat → Mu} {h : Heap} {n : Nat} {fr : Bool}
theorem TO1.weak {f f' : Bool} (hf : leB f f' = true) {x : TV} {v : Value} {L : List Nat} (H : TO1 w imm ok f' x v L) : TO1 w imm ok f x v L := by
  have hi : ∀ b, immf f' imm b → immf f imm b := fun b hb => ⟨by cases f <;> cases f' <;> simp_all [leB, immf], hb.2⟩
  cases x with
  | p u => exact H
  | tr t l =>
    rcases H with H | ⟨b, o, cap, L', h1, h2, h3, h4, h5, h6, h7⟩
    · exact .inl H
    · exact .inr ⟨b, o, cap, L', h1, h2, RL.imp (fun x _ o L'' hL'' hr => TRc.mono hi (fun _ h => h) (fun _ _ => rfl) (fun _ _ => rfl) rfl hr) h3, h4, h5, h6, h7⟩
  | iptr t l i off =>
    obtain ⟨h1, h2, x, b, o, us, h3, h4, h5, h6, h7, h8, h9⟩ := H
    exact ⟨h1, h2, x, b, o, us, h3, h4, h5, h6, h7, h8.mono hi (fun _ h => h) (fun _ _ => rfl) (by simp), h9⟩
  | _ => exact H.elim
theorem TOC.weak {f f' : Bool} (hf : leB f f' = true) : ∀ {cs : List TV} {us : List Value} {L : List Nat}, TOC w imm ok f' cs us L → TOC w imm ok f cs us L
  | [], us, L, H => H
  | c :: cs, us, L, H => by
    obtain ⟨u, us', L1, L2, rfl, rfl, h1, h2⟩ := H
    exact ⟨u, us', L1, L2, rfl, rfl, h1.weak hf, h2.weak hf⟩
theorem absC_top {D : List Nat} {c f : TV} {v : Value} {h' : Heap} (H : HR w imm ok μ h n D) (hv : VR w imm ok μ h n c v) (ha : absC h c = some (f, fr, h')) (ht : topB [c] = true) :
    ∃ L, TO1 w imm ok fr f v L ∧ HR w imm ok μ h' n (L ++ D) := by
  unfold absC at ha
  split at ha
  · simp only [Option.some.injEq, Prod.mk.injEq] at ha
    obtain ⟨rfl, rfl, rfl⟩ := ha
    exact ⟨[], ⟨by simpa [VR] using hv, rfl⟩, by simpa using H⟩
  · simp [topB] at ht
  · rename_i r
    split at ha
    · rename_i fr0 t l hg
      simp only [Option.some.injEq, Prod.mk.injEq] at ha
      obtain ⟨rfl, rfl, rfl⟩ := ha
      simp only [VR, hg] at hv
      obtain ⟨L, hR, H'⟩ := H.detach hg
      obtain ⟨L', h1, h2⟩ := SlR.top (l := l) hv.2 (by omega) hR
      simp only [List.drop_zero, List.take_length] at h1
      exact ⟨L', h1, H'.dsub (List.Sublist.append h2 (List.Sublist.refl D))⟩
    · simp at ha
  · rename_i r off len
    split at ha
    · rename_i fr0 t l hg
      simp only [Option.some.injEq, Prod.mk.injEq] at ha
      obtain ⟨rfl, rfl, rfl⟩ := ha
      simp only [VR, hg] at hv
      obtain ⟨L, hR, H'⟩ := H.detach hg
      obtain ⟨L', h1, h2⟩ := SlR.top (l := l) hv.2.2 hv.2.1 hR
      exact ⟨L', h1, H'.dsub (List.Sublist.append h2 (List.Sublist.refl D))⟩
    · simp at ha
  · simp at ha
theorem topB_cons {c : TV} {cs : List TV} (h : topB (c :: cs) = true) : topB [c] = true ∧ topB cs = true := by
  cases c <;> simp_all [topB]
theorem absL_top : ∀ {cs fs : List TV} {us : List Value} {D : List Nat} {h : Heap} {f : Bool} {h' : Heap}, HR w imm ok μ h n D → VRl w imm ok μ h n cs us → absL h cs = some (fs, f, h') → topB cs = true →
    ∃ L, TOC w imm ok f fs us L ∧ HR w imm ok μ h' n (L ++ D)
  | [], fs, us, D, h, fr, h', H, hv, ha, _ => by
    simp only [VRl] at hv; subst hv
    simp only [absL, Option.some.injEq, Prod.mk.injEq] at ha
    obtain ⟨rfl, rfl, rfl⟩ := ha
    exact ⟨[], ⟨rfl, rfl⟩, by simpa using H⟩
  | c :: cs, fs, us, D, h, fr, h', H, hv, ha, ht => by
    simp only [VRl] at hv
    obtain ⟨u, us', rfl, h1, h2⟩ := hv
    simp only [absL, Option.bind_eq_some_iff, Option.some.injEq, Prod.mk.injEq] at ha
    obtain ⟨⟨f1, b1, hh1⟩, ha1, ⟨f2, b2, hh2⟩, ha2, rfl, rfl, rfl⟩ := ha
    obtain ⟨t1, t2⟩ := topB_cons ht
    obtain ⟨L1, g1, g2⟩ := absC_top H h1 ha1 t1
    have hsub : ∀ r x, hget hh1 r = some x → hget h r = some x := absL_sub (cs := [c]) (fs := [f1]) (fr := b1) (by simp [absL, ha1])
    have h2' : VRl w imm ok μ hh1 n cs us' := VRl.mono (Kept.sub hsub) _ _ (innOkl_true _) h2
    obtain ⟨L2, k1, k2⟩ := absL_top g2 h2' ha2 t2
    refine ⟨L1 ++ L2, ⟨u, us', L1, L2, rfl, rfl, g1.weak (by cases b1 <;> cases b2 <;> rfl), k1.weak (by cases b1 <;> cases b2 <;> rfl)⟩, k2.dperm ?_⟩
    rw [← List.append_assoc]
    exact List.Perm.append_right _ List.perm_append_comm
theorem TOC.app : ∀ {xs ys : List TV} {us vs : List Value} {L M : List Nat}, TOC w imm ok fr xs us L → TOC w imm ok fr ys vs M → TOC w imm ok fr (xs ++ ys) (us ++ vs) (L ++ M)
  | [], ys, us, vs, L, M, H, K => by obtain ⟨rfl, rfl⟩ := H; simpa using K
  | x :: xs, ys, us, vs, L, M, H, K => by
    obtain ⟨u, us', L1, L2, rfl, rfl, h1, h2⟩ := H
    exact ⟨u, us' ++ vs, L1, L2 ++ M, rfl, by simp, h1, TOC.app h2 K⟩
theorem TOC.dec : ∀ {t : Ty} {cs r : List TV} {x : den t} {us : List Value} {L : List Nat}, decT t cs = some (x, r) → TOC w imm ok fr cs us L →
    ∃ us1 us2 L1 L2, us = us1 ++ us2 ∧ L = L1 ++ L2 ∧ TOC w imm ok fr (encT t x) us1 L1 ∧ TOC w imm ok fr r us2 L2
  | .int k, cs, r, x, us, L, hd, H => by
    simp only [decT] at hd
    split at hd <;> first | (simp at hd; done) | skip
    split at hd
    · simp only [Option.some.injEq, Prod.mk.injEq] at hd
      obtain ⟨rfl, rfl⟩ := hd
      subst_vars
      obtain ⟨u, us', L1, L2, rfl, rfl, ⟨rfl, rfl⟩, h2⟩ := H
      exact ⟨[_], us', [], L2, rfl, rfl, ⟨_, [], [], [], rfl, rfl, ⟨rfl, rfl⟩, rfl, rfl⟩, h2⟩
    · simp at hd
  | .bool, cs, r, x, us, L, hd, H => by
    simp only [decT] at hd
    split at hd <;> first | (simp at hd; done) | skip
    simp only [Option.some.injEq, Prod.mk.injEq] at hd
    obtain ⟨rfl, rfl⟩ := hd
    obtain ⟨u, us', L1, L2, rfl, rfl, ⟨rfl, rfl⟩, h2⟩ := H
    exact ⟨[_], us', [], L2, rfl, rfl, ⟨_, [], [], [], rfl, rfl, ⟨rfl, rfl⟩, rfl, rfl⟩, h2⟩
  | .str, cs, r, x, us, L, hd, H => by
    simp only [decT] at hd
    split at hd <;> first | (simp at hd; done) | skip
    simp only [Option.some.injEq, Prod.mk.injEq] at hd
    obtain ⟨rfl, rfl⟩ := hd
    obtain ⟨u, us', L1, L2, rfl, rfl, ⟨rfl, rfl⟩, h2⟩ := H
    exact ⟨[_], us', [], L2, rfl, rfl, ⟨_, [], [], [], rfl, rfl, ⟨rfl, rfl⟩, rfl, rfl⟩, h2⟩
  | .un, cs, r, x, us, L, hd, H => by
    simp only [decT, Option.some.injEq, Prod.mk.injEq] at hd
    obtain ⟨_, rfl⟩ := hd
    exact ⟨[], us, [], L, rfl, rfl, ⟨rfl, rfl⟩, H⟩
  | .pr a b, cs, r, x, us, L, hd, H => by
    simp only [decT, Option.bind_eq_some_iff, Option.some.injEq, Prod.mk.injEq] at hd
    obtain ⟨⟨x1, r1⟩, hd1, ⟨x2, r2⟩, hd2, rfl, rfl⟩ := hd
    obtain ⟨us1, us2, L1, L2, rfl, rfl, h1, h2⟩ := TOC.dec hd1 H
    obtain ⟨us3, us4, L3, L4, rfl, rfl, h3, h4⟩ := TOC.dec hd2 h2
    exact ⟨us1 ++ us3, us4, L1 ++ L3, L4, by simp, by simp, h1.app h3, h4⟩
  | .sl t, cs, r, x, us, L, hd, H => by
    simp only [decT] at hd
    split at hd <;> first | (simp at hd; done) | skip
    · simp only [Option.bind_eq_some_iff, Option.some.injEq, Prod.mk.injEq] at hd
      obtain ⟨l', hc, rfl, rfl⟩ := hd
      obtain ⟨rfl, rfl⟩ := cast_some hc
      obtain ⟨u, us', L1, L2, rfl, rfl, h1, h2⟩ := H
      exact ⟨[u], us', L1, L2, rfl, rfl, ⟨u, [], L1, [], rfl, by simp, h1, rfl, rfl⟩, h2⟩
    · simp only [Option.some.injEq, Prod.mk.injEq] at hd
      obtain ⟨rfl, rfl⟩ := hd
      obtain ⟨u, us', L1, L2, rfl, rfl, ⟨rfl, rfl⟩, h2⟩ := H
      exact ⟨[_], us', [], L2, rfl, rfl, ⟨_, [], [], [], rfl, rfl, .inl ⟨rfl, rfl, rfl⟩, rfl, rfl⟩, h2⟩
  | .ref t, cs, r, x, us, L, hd, H => by
    simp only [decT] at hd
    split at hd <;> first | (simp at hd; done) | skip
    simp only [Option.bind_eq_some_iff, Option.some.injEq, Prod.mk.injEq] at hd
    obtain ⟨l', hc, rfl, rfl⟩ := hd
    obtain ⟨rfl, rfl⟩ := cast_some hc
    obtain ⟨u, us', L1, L2, rfl, rfl, h1, h2⟩ := H
    exact ⟨[u], us', L1, L2, rfl, rfl, ⟨u, [], L1, [], rfl, by simp, h1, rfl, rfl⟩, h2⟩
  | .cl g t, cs, r, x, us, L, hd, H => by
    simp only [decT] at hd
    split at hd <;> first | (simp at hd; done) | skip
    obtain ⟨u, us', L1, L2, rfl, rfl, h1, _⟩ := H
    exact h1.elim
theorem TOC.dec1 {t : Ty} {cs : List TV} {x : den t} {us : List Value} {L : List Nat} (hd : dec1 t cs = some x) (H : TOC w imm ok fr cs us L) : TOC w imm ok fr (encT t x) us L := by
  unfold Go.Tw.dec1 at hd
  split at hd
  · rename_i y hy
    simp only [Option.some.injEq] at hd; subst hd
    obtain ⟨us1, us2, L1, L2, rfl, rfl, h1, h2⟩ := TOC.dec hy H
    obtain ⟨rfl, rfl⟩ := h2
    simpa using h1
  · simp at hd
theorem TOC.length : ∀ {cs : List TV} {us : List Value} {L : List Nat}, TOC w imm ok fr cs us L → us.length = cs.length
  | [], us, L, H => by rw [H.1]; rfl
  | c :: cs, us, L, H => by obtain ⟨u, us', L1, L2, rfl, rfl, _, h2⟩ := H; simp [TOC.length h2]
def ShR (w : World) (imm ok : Nat → Prop) (gv : List Value) (tm : Nat → Value) : (S : Shape) → den (shT S) → List Nat → Prop
  | [], _, L => L = []
  | (t, .v y) :: S, x, L => ∃ us, tm t = valOf (isAg y) us ∧ TRl w imm ok y x.1 us [] ∧ ShR w imm ok gv tm S x.2 L
  | (t, .own fr y) :: S, x, L => ∃ us L1 L2, L = L1 ++ L2 ∧ tm t = valOf (isAg y) us ∧ TOC w imm ok fr (encT y x.1) us L1 ∧ ShR w imm ok gv tm S x.2 L2
  | (t, .box fr y) :: S, x, L => ∃ b o us L1 L2, L = L1 ++ (b :: L2) ∧ tm t = .pointer (some ⟨b, o, none⟩) ∧ ok b ∧ Row w b (o + sz y) ∧ At w b o us ∧ TOC w imm ok fr (encT y x.1) us L1 ∧ ShR w imm ok gv tm S x.2 L2
  | (t, .boxv y) :: S, x, L => ∃ b o us L2, L = b :: L2 ∧ tm t = .pointer (some ⟨b, o, none⟩) ∧ ok b ∧ Row w b (o + sz y) ∧ At w b o us ∧ TRl w imm ok y x.1 us [] ∧ ShR w imm ok gv tm S x.2 L2
  | (t, .mp k) :: S, x, L => ∃ b L2, L = b :: L2 ∧ tm t = .map (some b) ∧ ok b ∧ MapAt w b k x.1 ∧ ShR w imm ok gv tm S x.2 L2
  | (t, .arg i) :: S, x, L => tm t = gv.getD i undef ∧ ShR w imm ok gv tm S x.2 L
  | (t, .fb f ss) :: S, x, L => tm t = .func (.func f) #[] (ss.map tm).toArray ∧ ShR w imm ok gv tm S x.2 L
theorem vrl_map {f : Nat → TV} {g : Nat → Value} (H : ∀ t, VR w imm ok μ h n (f t) (g t)) : ∀ ss : List Nat, VRl w imm ok μ h n (ss.map f) (ss.map g)
  | [] => rfl
  | t :: ss => ⟨g t, ss.map g, rfl, H t, vrl_map H ss⟩
theorem capB_ok {s : List (Nat × TV)} {g : Nat → Value} (H : ∀ t, VR w imm ok μ h n (sget s t) (g t)) : ∀ {ss : List Nat} {ca : List TV} {vs : List Value}, capB s h ss ca = true → VRl w imm ok μ h n ca vs → vs = ss.map g
  | [], [], vs, _, hv => hv
  | [], _ :: _, vs, hc, _ => by simp [capB] at hc
  | a :: as, [], vs, hc, _ => by simp [capB] at hc
  | a :: as, c :: cs, vs, hc, hv => by
    obtain ⟨u, us', rfl, h1, h2⟩ := hv
    unfold capB at hc
    split at hc
    · simp at *
    · rename_i a' as' r cs' e1 e2
      injection e1 with e1 e1'
      injection e2 with e2 e2'
      subst e1 e1' e2 e2'
      rw [Bool.and_eq_true] at hc
      obtain ⟨hc1, hc2⟩ := hc
      rw [List.map_cons, capB_ok H hc2 h2]
      congr 1
      split at hc1
      · rename_i r' cs2 q1 q2
        have hr := Nat.eq_of_beq_eq_true hc1
        subst hr
        have k := H a
        rw [q1] at k
        simp only [VR, q2] at k h1
        obtain ⟨_, A, w1, w2⟩ := k
        obtain ⟨_, B, w3, w4⟩ := h1
        rw [w1, w3, w2, w4]
      · cases hc1
    · cases hc
theorem mkS_ok {gs : List TV} {gv : List Value} {tm : Nat → Value} (hu : ∀ t, tm t = tm t) : ∀ {S : Shape} {x : den (shT S)} {L D : List Nat} {h : Heap} {n : Nat} {μ : Nat → Mu}, ShR w imm ok gv tm S x L → HR w imm ok μ h n (L ++ D) → VRl w imm ok μ h n gs gv →
    Opened w imm ok μ h n D (fun μ' => (∀ t, VR w imm ok μ' (mkS gs S x h n).2.1 (mkS gs S x h n).2.2 (sget (mkS gs S x h n).1 t) (tm t)) ) (mkS gs S x h n).2.1 (mkS gs S x h n).2.2
  | [], x, L, D, h, n, μ, H, HH, hg => by
    simp only [ShR] at H; subst H
    exact ⟨μ, fun _ _ => rfl, by simpa [mkS] using HH, fun t => by simp [mkS, sget, VR], Nat.le_refl _, fun _ _ => rfl⟩
  | (t, .v y) :: S, x, L, D, h, n, μ, H, HH, hg => by
    obtain ⟨us, e, h1, h2⟩ := H
    obtain ⟨μ', a1, a2, a3, a4, a5⟩ := mkS_ok hu h2 HH hg
    simp only [mkS]
    refine ⟨μ', a1, a2, fun t' => ?_, a4, a5⟩
    rw [sget_cons]; split
    · subst_vars; rw [e]; exact valT_vr h1
    · exact a3 t'
  | (t, .own fr y) :: S, x, L, D, h, n, μ, H, HH, hg => by
    obtain ⟨us, L1, L2, rfl, e, h1, h2⟩ := H
    rw [List.append_assoc] at HH
    obtain ⟨μ1, b1, b2, b3, b4, b5⟩ := opnC_ok h1 HH
    obtain ⟨μ', a1, a2, a3, a4, a5⟩ := mkS_ok hu h2 b2 (VRl.mono (Kept.opened b1 b4 b5) _ _ (innOkl_true _) hg)
    simp only [mkS, opnV]
    refine ⟨μ', fun r hr => by rw [a1 r (by omega), b1 r hr], a2, fun t' => ?_, by omega, fun r hr => by rw [a5 r (by omega), b5 r hr]⟩
    rw [sget_cons]; split
    · subst_vars; rw [e]; exact VR.mono (Kept.opened a1 a4 a5) _ _ (innOk_true _) (pack_vr' b3)
    · exact a3 t'
  | (t, .box fr y) :: S, x, L, D, h, n, μ, H, HH, hg => by
    obtain ⟨b, o, us, L1, L2, rfl, e, hob, hrow, hat, h1, h2⟩ := H
    rw [List.append_assoc] at HH
    obtain ⟨μ1, b1, b2, b3, b4, b5⟩ := opnC_ok h1 HH
    have hbl : (opnC fr (encT y x.1) h n).1.length = us.length := b3.length
    have hul : us.length = sz y := h1.length.trans (enc_length (t := y) x.1)
    have kpb : ∀ {m : Mu} {reg : Reg}, Kept (fun _ => True) imm imm ok ok w w μ1 (muP μ1 (opnC fr (encT y x.1) h n).2.2 m) (opnC fr (encT y x.1) h n).2.1 (((opnC fr (encT y x.1) h n).2.2, reg) :: (opnC fr (encT y x.1) h n).2.1) (opnC fr (encT y x.1) h n).2.2 ((opnC fr (encT y x.1) h n).2.2 + 1) :=
      Kept.cons (Kept.id (fun _ h => h) (fun _ h => h) (Nat.le_refl _))
    have H1 := HR.attach (L := [b]) (reg := .box (opnC fr (encT y x.1) h n).1) (n' := (opnC fr (encT y x.1) h n).2.2 + 1) (μ' := muP μ1 (opnC fr (encT y x.1) h n).2.2 ⟨b, o, true⟩) (by simpa using b2) (Nat.le_refl _) (Nat.lt_succ_self _) (fun r hr => by simp [muP, show r ≠ (opnC fr (encT y x.1) h n).2.2 by omega]) (by
      simp only [RR, muP_self]
      exact ⟨trivial, hob, by rw [hbl, hul]; exact hrow, us, VRl.mono kpb _ _ (innOkl_true _) b3, hat⟩)
    obtain ⟨μ', a1, a2, a3, a4, a5⟩ := mkS_ok hu h2 H1 (VRl.mono kpb _ _ (innOkl_true _) (VRl.mono (Kept.opened b1 b4 b5) _ _ (innOkl_true _) hg))
    simp only [mkS]
    refine ⟨μ', fun r hr => by rw [a1 r (by omega)]; simp only [muP, show r ≠ (opnC fr (encT y x.1) h n).2.2 by omega, ↓reduceIte]; exact b1 r hr, a2, fun t' => ?_, by omega, fun r hr => by rw [a5 r (by omega)]; simp only [hget, show r ≠ (opnC fr (encT y x.1) h n).2.2 by omega, ↓reduceIte]; exact b5 r hr⟩
    rw [sget_cons]; split
    · subst_vars; rw [e]
      simp only [VR, a5 _ (Nat.lt_succ_self _), hget, ↓reduceIte]
      exact ⟨by omega, _, rfl, by rw [a1 _ (Nat.lt_succ_self _), muP_self]; simp⟩
    · exact a3 t'
  | (t, .boxv y) :: S, x, L, D, h, n, μ, H, HH, hg => by
    obtain ⟨b, o, us, L2, rfl, e, hob, hrow, hat, h1, h2⟩ := H
    have hul : us.length = sz y := h1.length
    have hel := enc_length (t := y) x.1
    have kpb : ∀ {m : Mu} {reg : Reg}, Kept (fun _ => True) imm imm ok ok w w μ (muP μ n m) h ((n, reg) :: h) n (n + 1) := Kept.cons (Kept.id (fun _ h => h) (fun _ h => h) (Nat.le_refl _))
    have H1 := HR.attach (L := [b]) (reg := .box (encT y x.1)) (n' := n + 1) (μ' := muP μ n ⟨b, o, true⟩) (by simpa using HH) (Nat.le_refl _) (Nat.lt_succ_self _) (fun r hr => by simp [muP, show r ≠ n by omega]) (by
      simp only [RR, muP_self]
      exact ⟨trivial, hob, by rw [hel]; exact hrow, us, h1.toCT.vrl, hat⟩)
    obtain ⟨μ', a1, a2, a3, a4, a5⟩ := mkS_ok hu h2 H1 (VRl.mono kpb _ _ (innOkl_true _) hg)
    simp only [mkS]
    refine ⟨μ', fun r hr => by rw [a1 r (by omega)]; simp only [muP, show r ≠ n by omega, ↓reduceIte], a2, fun t' => ?_, by omega, fun r hr => by rw [a5 r (by omega)]; simp only [hget, show r ≠ n by omega, ↓reduceIte]⟩
    rw [sget_cons]; split
    · subst_vars; rw [e]
      simp only [VR, a5 _ (Nat.lt_succ_self _), hget, ↓reduceIte]
      exact ⟨by omega, _, rfl, by rw [a1 _ (Nat.lt_succ_self _), muP_self]; simp⟩
    · exact a3 t'
  | (t, .mp k) :: S, x, L, D, h, n, μ, H, HH, hg => by
    obtain ⟨b, L2, rfl, e, hob, hm, h2⟩ := H
    have kpb : ∀ {m : Mu} {reg : Reg}, Kept (fun _ => True) imm imm ok ok w w μ (muP μ n m) h ((n, reg) :: h) n (n + 1) := Kept.cons (Kept.id (fun _ h => h) (fun _ h => h) (Nat.le_refl _))
    have H1 := HR.attach (L := [b]) (reg := .mp k x.1) (n' := n + 1) (μ' := muP μ n ⟨b, 0, true⟩) (by simpa using HH) (Nat.le_refl _) (Nat.lt_succ_self _) (fun r hr => by simp [muP, show r ≠ n by omega]) (by
      simp only [RR, muP_self]
      exact ⟨trivial, hob, hm⟩)
    obtain ⟨μ', a1, a2, a3, a4, a5⟩ := mkS_ok hu h2 H1 (VRl.mono kpb _ _ (innOkl_true _) hg)
    simp only [mkS]
    refine ⟨μ', fun r hr => by rw [a1 r (by omega)]; simp only [muP, show r ≠ n by omega, ↓reduceIte], a2, fun t' => ?_, by omega, fun r hr => by rw [a5 r (by omega)]; simp only [hget, show r ≠ n by omega, ↓reduceIte]⟩
    rw [sget_cons]; split
    · subst_vars; rw [e]
      simp only [VR, a5 _ (Nat.lt_succ_self _), hget, ↓reduceIte]
      exact ⟨by omega, _, rfl, by rw [a1 _ (Nat.lt_succ_self _), muP_self]⟩
    · exact a3 t'
  | (t, .arg i) :: S, x, L, D, h, n, μ, H, HH, hg => by
    obtain ⟨e, h2⟩ := H
    obtain ⟨μ', a1, a2, a3, a4, a5⟩ := mkS_ok hu h2 HH hg
    simp only [mkS]
    refine ⟨μ', a1, a2, fun t' => ?_, a4, a5⟩
    rw [sget_cons]; split
    · subst_vars; rw [e]; exact VR.mono (Kept.opened a1 a4 a5) _ _ (innOk_true _) (hg.get i)
    · exact a3 t'
  | (t, .fb f ss) :: S, x, L, D, h, n, μ, H, HH, hg => by
    obtain ⟨e, h2⟩ := H
    obtain ⟨μ', a1, a2, a3, a4, a5⟩ := mkS_ok hu h2 HH hg
    simp only [mkS]
    refine ⟨μ', a1, a2, fun t' => ?_, a4, a5⟩
    rw [sget_cons]; split
    · subst_vars; rw [e]; exact ⟨[], ss.map tm, rfl, rfl, vrl_map a3 ss⟩
    · exact a3 t'
theorem exS_ok {st : List (Nat × Nat)} {s : List (Nat × TV)} {gv : List Value} {us : Array Value} (hst : ∀ q ∈ st, us.getD q.1 undef = gv.getD q.2 undef) : ∀ {S : Shape} {x : den (shT S)} {D : List Nat} {h : Heap}, exS st s S h = some x → HR w imm ok μ h n D → SR w imm ok μ h n s us →
    ∃ L h', ShR w imm ok gv (fun t => us.getD t undef) S x L ∧ HR w imm ok μ h' n (L ++ D)
  | [], x, D, h, hx, HH, hs => ⟨[], h, by simp [ShR], by simpa using HH⟩
  | (t, .v y) :: S, x, D, h, hx, HH, hs => by
    simp only [exS, Option.bind_eq_some_iff] at hx
    obtain ⟨cs, hcs, hx⟩ := hx
    obtain ⟨hf, hx⟩ := cond_some.1 hx
    simp only [Option.bind_eq_some_iff, Option.some.injEq] at hx
    obtain ⟨d, hd, z, hz, hxe⟩ := hx
    cases hxe
    obtain ⟨vs, e, hv⟩ := cellsOf_vr hcs (hs t)
    obtain ⟨L, h', h1, h2⟩ := exS_ok hst hz HH hs
    exact ⟨L, h', ⟨vs, e, CT.dec1 hd (CT.of_vrl hf hv), h1⟩, h2⟩
  | (t, .own fr y) :: S, x, D, h, hx, HH, hs => by
    simp only [exS, Option.bind_eq_some_iff] at hx
    obtain ⟨cs, hcs, ⟨fs, f, h1⟩, habs, hx⟩ := hx
    obtain ⟨hf, hx⟩ := cond_some.1 hx
    simp only [Option.bind_eq_some_iff, Option.some.injEq] at hx
    obtain ⟨d, hd, z, hz, hxe⟩ := hx
    cases hxe
    simp only [Bool.and_eq_true] at hf
    obtain ⟨vs, e, hv⟩ := cellsOf_vr hcs (hs t)
    obtain ⟨L1, g1, g2⟩ := absL_top HH hv habs hf.1
    have hs1 : SR w imm ok μ h1 n s us := SR.mono (Kept.sub (absL_sub habs)) hs
    obtain ⟨L2, h', h3, h4⟩ := exS_ok hst hz g2 hs1
    refine ⟨L1 ++ L2, h', ⟨vs, L1, L2, rfl, e, TOC.dec1 hd (g1.weak hf.2), h3⟩, h4.dperm ?_⟩
    rw [← List.append_assoc]
    exact List.Perm.append_right _ List.perm_append_comm
  | (t, .box fr y) :: S, x, D, h, hx, HH, hs => by
    simp only [exS] at hx
    split at hx
    · rename_i r hq
      split at hx
      · rename_i cs hg
        simp only [Option.bind_eq_some_iff] at hx
        obtain ⟨⟨fs, f, h1⟩, habs, hx⟩ := hx
        obtain ⟨hf, hx⟩ := cond_some.1 hx
        simp only [Option.bind_eq_some_iff, Option.some.injEq] at hx
        obtain ⟨d, hd, z, hz, hxe⟩ := hx
        cases hxe
        simp only [Bool.and_eq_true] at hf
        have hv := hs t
        rw [hq] at hv
        simp only [VR, hg] at hv
        obtain ⟨_, A, e1, hA⟩ := hv
        obtain ⟨L0, hR, HH1⟩ := HH.detach hg
        simp only [RR] at hR
        obtain ⟨rfl, q1, q2, vs, q3, q4⟩ := hR
        have hv1 : VRl w imm ok μ (hdel h r) n cs vs := VRl.mono (Kept.sub (fun _ _ => hsub_hdel)) _ _ (innOkl_true _) q3
        obtain ⟨L1, g1, g2⟩ := absL_top HH1 hv1 habs hf.1
        have hs1 : SR w imm ok μ h1 n s us := SR.mono (Kept.sub (absL_sub habs)) (SR.mono (Kept.sub (fun _ _ => hsub_hdel)) hs)
        obtain ⟨L2, h', h3, h4⟩ := exS_ok hst hz g2 hs1
        have htd := TOC.dec1 hd (g1.weak hf.2)
        have hcl := htd.length
        rw [enc_length, ← q3.length] at hcl
        refine ⟨L1 ++ ((μ r).blk :: L2), h', ⟨(μ r).blk, (μ r).off, vs, L1, L2, rfl, by simp only [e1, hA]; simp, q1, by rw [← hcl]; exact q2, q4, htd, h3⟩, h4.dperm ?_⟩
        refine List.perm_iff_count.2 (fun x => ?_)
        simp only [List.count_append, List.count_cons, List.count_nil]; omega
      · simp at hx
    · simp at hx
  | (t, .boxv y) :: S, x, D, h, hx, HH, hs => by
    simp only [exS] at hx
    split at hx
    · rename_i r hq
      split at hx
      · rename_i cs hg
        obtain ⟨hf, hx⟩ := cond_some.1 hx
        simp only [Option.bind_eq_some_iff, Option.some.injEq] at hx
        obtain ⟨d, hd, z, hz, hxe⟩ := hx
        cases hxe
        have hv := hs t
        rw [hq] at hv
        simp only [VR, hg] at hv
        obtain ⟨_, A, e1, hA⟩ := hv
        obtain ⟨L0, hR, HH1⟩ := HH.detach hg
        simp only [RR] at hR
        obtain ⟨rfl, q1, q2, vs, q3, q4⟩ := hR
        have hs1 : SR w imm ok μ (hdel h r) n s us := SR.mono (Kept.sub (fun _ _ => hsub_hdel)) hs
        obtain ⟨L2, h', h3, h4⟩ := exS_ok hst hz HH1 hs1
        have htd := CT.dec1 hd (CT.of_vrl hf q3)
        have hcl := htd.length
        rw [← q3.length] at hcl
        refine ⟨(μ r).blk :: L2, h', ⟨(μ r).blk, (μ r).off, vs, L2, rfl, by simp only [e1, hA]; simp, q1, by rw [← hcl]; exact q2, q4, htd, h3⟩, h4.dperm ?_⟩
        refine List.perm_iff_count.2 (fun x => ?_)
        simp only [List.count_append, List.count_cons, List.count_nil]; omega
      · simp at hx
    · simp at hx
  | (t, .mp k) :: S, x, D, h, hx, HH, hs => by
    simp only [exS] at hx
    split at hx
    · rename_i r hq
      split at hx
      · rename_i k' l hg
        split at hx
        · rename_i hkk
          subst hkk
          simp only [Option.bind_eq_some_iff, Option.some.injEq] at hx
          obtain ⟨z, hz, hxe⟩ := hx
          cases hxe
          have hv := hs t
          rw [hq] at hv
          simp only [VR, hg] at hv
          obtain ⟨_, b, e1, rfl⟩ := hv
          obtain ⟨L0, hR, HH1⟩ := HH.detach hg
          simp only [RR] at hR
          obtain ⟨rfl, q1, q2⟩ := hR
          have hs1 : SR w imm ok μ (hdel h r) n s us := SR.mono (Kept.sub (fun _ _ => hsub_hdel)) hs
          obtain ⟨L2, h', h3, h4⟩ := exS_ok hst hz HH1 hs1
          refine ⟨(μ r).blk :: L2, h', ⟨(μ r).blk, L2, rfl, e1, q1, q2, h3⟩, h4.dperm ?_⟩
          refine List.perm_iff_count.2 (fun x => ?_)
          simp only [List.count_append, List.count_cons, List.count_nil]; omega
        · simp at hx
      · simp at hx
    · simp at hx
  | (t, .arg i) :: S, x, D, h, hx, HH, hs => by
    simp only [exS] at hx
    obtain ⟨hf, hx⟩ := cond_some.1 hx
    simp only [Option.bind_eq_some_iff, Option.some.injEq] at hx
    obtain ⟨z, hz, hxe⟩ := hx
    cases hxe
    obtain ⟨L2, h', h3, h4⟩ := exS_ok hst hz HH hs
    obtain ⟨q, hq, hb⟩ := List.any_eq_true.1 hf
    simp only [Bool.and_eq_true] at hb
    have e1 := Nat.eq_of_beq_eq_true hb.1
    have e2 := Nat.eq_of_beq_eq_true hb.2
    have := hst q hq
    rw [e1, e2] at this
    exact ⟨L2, h', ⟨this, h3⟩, h4⟩
  | (t, .fb f ss) :: S, x, D, h, hx, HH, hs => by
    simp only [exS] at hx
    obtain ⟨hf, hx⟩ := cond_some.1 hx
    simp only [Option.bind_eq_some_iff, Option.some.injEq] at hx
    obtain ⟨z, hz, hxe⟩ := hx
    cases hxe
    obtain ⟨L2, h', h3, h4⟩ := exS_ok hst hz HH hs
    refine ⟨L2, h', ⟨?_, h3⟩, h4⟩
    have k := hs t
    unfold fbB at hf
    split at hf
    · rename_i g ca q1
      rw [Bool.and_eq_true] at hf
      have hg := Nat.eq_of_beq_eq_true hf.1
      subst hg
      rw [q1] at k
      obtain ⟨us', vs, e1, e2, e3⟩ := k
      cases e2
      rw [capB_ok hs hf.2 e3] at e1
      exact e1
    · cases hf
theorem exOwn_ok {g : TV} {t : Ty} {v : Value} {y : den t} {D : List Nat} {h h' : Heap} (hx : exOwn g t h = some (y, h')) (HH : HR w imm ok μ h n D) (hg : VR w imm ok μ h n g v) :
    ∃ us L, v = valOf (isAg t) us ∧ TOC w imm ok true (encT t y) us L ∧ HR w imm ok μ h' n (L ++ D) ∧ ∀ r x, hget h' r = some x → hget h r = some x := by
  simp only [exOwn, Option.bind_eq_some_iff] at hx
  obtain ⟨cs, hcs, ⟨fs, f, h1⟩, habs, hx⟩ := hx
  obtain ⟨hf, hx⟩ := cond_some.1 hx
  simp only [Option.bind_eq_some_iff, Option.some.injEq, Prod.mk.injEq] at hx
  obtain ⟨d, hd, rfl, rfl⟩ := hx
  simp only [Bool.and_eq_true] at hf
  obtain ⟨vs, rfl, hv⟩ := cellsOf_vr hcs hg
  obtain ⟨L1, g1, g2⟩ := absL_top HH hv habs hf.1
  exact ⟨vs, L1, rfl, TOC.dec1 hd (by rw [← hf.2]; exact g1), g2, fun r x hx => absL_sub habs r x hx⟩
theorem exBox_ok {g : TV} {t : Ty} {v : Value} {y : den t} {D : List Nat} {h h' : Heap} (hx : exBox g t h = some (y, h')) (HH : HR w imm ok μ h n D) (hg : VR w imm ok μ h n g v) :
    ∃ us L, v = valOf false us ∧ TOC w imm ok false [.iptr t [y] 0 0] us L ∧ HR w imm ok μ h' n (L ++ D) ∧ ∀ r x, hget h' r = some x → hget h r = some x := by
  unfold exBox at hx
  split at hx
  · rename_i r
    split at hx
    · rename_i cs hgr
      obtain ⟨hf, hx⟩ := cond_some.1 hx
      simp only [Option.bind_eq_some_iff, Option.some.injEq, Prod.mk.injEq] at hx
      obtain ⟨d, hd, rfl, rfl⟩ := hx
      simp only [VR, hgr] at hg
      obtain ⟨_, A, rfl, hA⟩ := hg
      simp only [Nat.add_zero] at hA; subst hA
      obtain ⟨L0, hR, HH1⟩ := HH.detach hgr
      simp only [RR] at hR
      obtain ⟨rfl, q1, q2, vs, q3, q4⟩ := hR
      have htd := CT.dec1 hd (CT.of_vrl hf q3)
      have hlen : sz t = cs.length := by rw [← htd.length, q3.length]
      have htd2 : TRl w (immf false imm) ok t d vs [] := TRl.reok (fun b hb => ⟨rfl, hb⟩) (by simp) htd
      refine ⟨[.pointer (some ⟨(μ r).blk, (μ r).off, none⟩)], [(μ r).blk], by simp [valOf], ?_, HH1, fun r' x hx => hsub_hdel hx⟩
      exact ⟨_, [], [(μ r).blk], [], rfl, by simp, ⟨rfl, rfl, d, _, _, vs, rfl, rfl, rfl, q1, by rw [hlen]; exact q2, htd2, q4⟩, rfl, rfl⟩
    · simp at hx
  · simp at hx
theorem ex1_ok {g : TV} {t : Ty} {v : Value} {y : den t} {D : List Nat} {h h' : Heap} (hx : ex1 g t h = some (y, h')) (HH : HR w imm ok μ h n D) (hg : VR w imm ok μ h n g v) :
    ∃ us L, v = valOf (isAg t) us ∧ TOC w imm ok (frT t) (encT t y) us L ∧ HR w imm ok μ h' n (L ++ D) ∧ ∀ r x, hget h' r = some x → hget h r = some x := by
  cases t with
  | ref t => exact exBox_ok hx HH hg
  | _ => exact exOwn_ok hx HH hg
theorem exG_ok : ∀ {gs : List TV} {gt : List Ty} {gv : List Value} {y : den (prodT gt)} {D : List Nat} {h h' : Heap}, exG gs gt h = some (y, h') → HR w imm ok μ h n D → VRl w imm ok μ h n gs gv →
    ∃ L, ResG w imm ok gt y gv L ∧ HR w imm ok μ h' n (L ++ D) ∧ ∀ r x, hget h' r = some x → hget h r = some x
  | [], [], gv, y, D, h, h', hx, HH, hg => by
    simp only [exG, Option.some.injEq, Prod.mk.injEq] at hx
    simp only [VRl] at hg
    obtain ⟨_, rfl⟩ := hx
    exact ⟨[], ⟨hg, rfl⟩, by simpa using HH, fun _ _ h => h⟩
  | g :: gs, t :: gt, gv, y, D, h, h', hx, HH, hg => by
    simp only [exG, Option.bind_eq_some_iff, Option.some.injEq] at hx
    obtain ⟨⟨d, h1⟩, hd, z, hz, hye⟩ := hx
    cases hye
    simp only [VRl] at hg
    obtain ⟨v, gv', rfl, hv0, hg'⟩ := hg
    obtain ⟨vs, L1, rfl, g1, g2, g3⟩ := ex1_ok hd HH hv0
    have hg1 : VRl w imm ok μ h1 n gs gv' := VRl.mono (Kept.sub g3) _ _ (innOkl_true _) hg'
    obtain ⟨L2, h3, h4, h5⟩ := exG_ok hz g2 hg1
    refine ⟨L1 ++ L2, ⟨vs, gv', L1, L2, rfl, rfl, g1, h3⟩, h4.dperm ?_, fun r x hx => g3 r x (h5 r x hx)⟩
    rw [← List.append_assoc]
    exact List.Perm.append_right _ List.perm_append_comm
  | [], _ :: _, _, _, _, _, _, hx, _, _ => by simp [exG] at hx
  | _ :: _, [], _, _, _, _, _, hx, _, _ => by simp [exG] at hx
mutual
theorem eqG_vr {μ' : Nat → Mu} {h' : Heap} {n' : Nat} : ∀ (x y : TV) (v : Value), eqG x y = true → VR w imm ok μ h n x v → VR w imm ok μ' h' n' y v → VR w imm ok μ' h' n' x v
  | .p u, .p u', v, _, h1, _ => by simpa [VR] using h1
  | .full r, .full r', v, e, _, h2 => by simp only [eqG] at e; have := Nat.eq_of_beq_eq_true e; subst this; exact h2
  | .agg xs, .agg ys, v, e, h1, h2 => by
    simp only [eqG] at e
    simp only [VR] at h1 h2 ⊢
    obtain ⟨us, rfl, h1⟩ := h1
    obtain ⟨us', e', h2⟩ := h2
    simp only [Value.agg.injEq] at e'
    have : us' = us := by simpa using e'.symm
    subst this
    exact ⟨us', rfl, eqGL_vr xs ys us' e h1 h2⟩
  | .p _, .full _, _, e, _, _ => by simp [eqG] at e
  | .p _, .agg _, _, e, _, _ => by simp [eqG] at e
  | .full _, .p _, _, e, _, _ => by simp [eqG] at e
  | .full _, .agg _, _, e, _, _ => by simp [eqG] at e
  | .agg _, .p _, _, e, _, _ => by simp [eqG] at e
  | .agg _, .full _, _, e, _, _ => by simp [eqG] at e
  | .p _, .tr _ _, _, e, _, _ => by simp [eqG] at e
  | .p _, .sub _ _ _, _, e, _, _ => by simp [eqG] at e
  | .p _, .inn _ _ _, _, e, _, _ => by simp [eqG] at e
  | .p _, .ptr _ _ _, _, e, _, _ => by simp [eqG] at e
  | .p _, .iptr _ _ _ _, _, e, _, _ => by simp [eqG] at e
  | .p _, .tup _, _, e, _, _ => by simp [eqG] at e
  | .p _, .ifc _ _, _, e, _, _ => by simp [eqG] at e
  | .p _, .fn _ _ _, _, e, _, _ => by simp [eqG] at e
  | .p _, .mp _, _, e, _, _ => by simp [eqG] at e
  | .p _, .undef, _, e, _, _ => by simp [eqG] at e
  | .full _, .tr _ _, _, e, _, _ => by simp [eqG] at e
  | .full _, .sub _ _ _, _, e, _, _ => by simp [eqG] at e
  | .full _, .inn _ _ _, _, e, _, _ => by simp [eqG] at e
  | .full _, .ptr _ _ _, _, e, _, _ => by simp [eqG] at e
  | .full _, .iptr _ _ _ _, _, e, _, _ => by simp [eqG] at e
  | .full _, .tup _, _, e, _, _ => by simp [eqG] at e
  | .full _, .ifc _ _, _, e, _, _ => by simp [eqG] at e
  | .full _, .fn _ _ _, _, e, _, _ => by simp [eqG] at e
  | .full _, .mp _, _, e, _, _ => by simp [eqG] at e
  | .full _, .undef, _, e, _, _ => by simp [eqG] at e
  | .agg _, .tr _ _, _, e, _, _ => by simp [eqG] at e
  | .agg _, .sub _ _ _, _, e, _, _ => by simp [eqG] at e
  | .agg _, .inn _ _ _, _, e, _, _ => by simp [eqG] at e
  | .agg _, .ptr _ _ _, _, e, _, _ => by simp [eqG] at e
  | .agg _, .iptr _ _ _ _, _, e, _, _ => by simp [eqG] at e
  | .agg _, .tup _, _, e, _, _ => by simp [eqG] at e
  | .agg _, .ifc _ _, _, e, _, _ => by simp [eqG] at e
  | .agg _, .fn _ _ _, _, e, _, _ => by simp [eqG] at e
  | .agg _, .mp _, _, e, _, _ => by simp [eqG] at e
  | .agg _, .undef, _, e, _, _ => by simp [eqG] at e
  | .tr _ _, _, _, e, _, _ => by simp [eqG] at e
  | .sub _ _ _, _, _, e, _, _ => by simp [eqG] at e
  | .inn _ _ _, _, _, e, _, _ => by simp [eqG] at e
  | .ptr r i off, y, v, e, _, h2 => by
    cases y with
    | ptr r' i' off' =>
      cases i <;> cases off <;> cases i' <;> cases off' <;> simp only [eqG] at e <;> first
        | (have := Nat.eq_of_beq_eq_true e; subst this; exact h2)
        | (cases e)
    | _ => cases i <;> cases off <;> simp [eqG] at e
  | .iptr _ _ _ _, _, _, e, _, _ => by simp [eqG] at e
  | .tup _, _, _, e, _, _ => by simp [eqG] at e
  | .ifc _ _, _, _, e, _, _ => by simp [eqG] at e
  | .fn _ _ _, _, _, e, _, _ => by simp [eqG] at e
  | .mp _, _, _, e, _, _ => by simp [eqG] at e
  | .undef, _, _, e, _, _ => by simp [eqG] at e
theorem eqGL_vr {μ' : Nat → Mu} {h' : Heap} {n' : Nat} : ∀ (xs ys : List TV) (us : List Value), eqGL xs ys = true → VRl w imm ok μ h n xs us → VRl w imm ok μ' h' n' ys us → VRl w imm ok μ' h' n' xs us
  | [], [], us, _, _, h2 => h2
  | x :: xs, y :: ys, us, e, h1, h2 => by
    simp only [eqGL, Bool.and_eq_true] at e
    simp only [VRl] at h1 h2 ⊢
    obtain ⟨u, us', rfl, h3, h4⟩ := h1
    obtain ⟨u2, us2, e2, h5, h6⟩ := h2
    simp only [List.cons.injEq] at e2
    obtain ⟨rfl, rfl⟩ := e2
    exact ⟨u, us', rfl, eqG_vr x y u e.1 h3 h5, eqGL_vr xs ys us' e.2 h4 h6⟩
  | [], _ :: _, _, e, _, _ => by simp [eqGL] at e
  | _ :: _, [], _, e, _, _ => by simp [eqGL] at e
end
end
theorem vrl_un {w : World} {imm ok : Nat → Prop} {μ : Nat → Mu} {h : Heap} {n : Nat} : ∀ kv : List Value, VRl w imm ok μ h n (kv.map fun _ => TV.undef) kv
  | [] => rfl
  | v :: kv => ⟨v, kv, rfl, by simp [VR], vrl_un kv⟩
theorem getD_un (gs : List TV) (kv : List Value) (i : Nat) : (gs ++ kv.map fun _ => TV.undef).getD i .undef = gs.getD i .undef := by
  simp only [List.getD, List.getElem?_append]
  split
  · rfl
  · rename_i h
    rw [List.getElem?_eq_none (l := gs) (by omega), List.getElem?_map]
    cases kv[i - gs.length]? <;> rfl
theorem mkS_un (gs : List TV) (kv : List Value) : ∀ (S : Shape) (x : den (shT S)) (h : Heap) (n : Nat), mkS (gs ++ kv.map fun _ => .undef) S x h n = mkS gs S x h n
  | [], _, h, n => rfl
  | (t, .v y) :: S, x, h, n => congrArg (fun q : List (Nat × TV) × Heap × Nat => ((t, valT y x.1) :: q.1, q.2)) (mkS_un gs kv S x.2 _ _)
  | (t, .own fr y) :: S, x, h, n => congrArg (fun q : List (Nat × TV) × Heap × Nat => ((t, (opnV fr y x.1 h n).1) :: q.1, q.2)) (mkS_un gs kv S x.2 _ _)
  | (t, .box fr y) :: S, x, h, n => congrArg (fun q : List (Nat × TV) × Heap × Nat => ((t, TV.ptr (opnC fr (encT y x.1) h n).2.2 0 0) :: q.1, q.2)) (mkS_un gs kv S x.2 _ _)
  | (t, .boxv y) :: S, x, h, n => congrArg (fun q : List (Nat × TV) × Heap × Nat => ((t, TV.ptr n 0 0) :: q.1, q.2)) (mkS_un gs kv S x.2 _ _)
  | (t, .mp k) :: S, x, h, n => congrArg (fun q : List (Nat × TV) × Heap × Nat => ((t, TV.mp n) :: q.1, q.2)) (mkS_un gs kv S x.2 _ _)
  | (t, .arg i) :: S, x, h, n => by
    have e := congrArg (fun q : List (Nat × TV) × Heap × Nat => ((t, gs.getD i .undef) :: q.1, q.2)) (mkS_un gs kv S x.2 h n)
    have e2 := getD_un gs kv i
    show ((t, (gs ++ kv.map fun _ => TV.undef).getD i .undef) :: (mkS (gs ++ kv.map fun _ => .undef) S x.2 h n).1, (mkS (gs ++ kv.map fun _ => .undef) S x.2 h n).2) = _
    rw [e2]
    exact e
  | (t, .fb f ss) :: S, x, h, n => congrArg (fun q : List (Nat × TV) × Heap × Nat => ((t, TV.fn (.func f) [] (ss.map (sget q.1))) :: q.1, q.2)) (mkS_un gs kv S x.2 _ _)
theorem Sim.shape {c : Cx} {σ : St} {a : Act} {w : World} {gt : List Ty} {S : Shape} {y : den (prodT gt)} {x : den (shT S)} (hs : Sim c σ a w) (hx : exX c.m.st c.gs gt S σ = some (y, x)) : Sim c (mkSt c.gs gt S y x) a w := by
  obtain ⟨h1, h2, h3, μ, hH, hl, hg⟩ := hs
  simp only [exX, Option.bind_eq_some_iff] at hx
  obtain ⟨⟨y', h'⟩, hy, hx⟩ := hx
  obtain ⟨hq, hx⟩ := cond_some.1 hx
  simp only [Option.bind_eq_some_iff, Option.some.injEq, Prod.mk.injEq] at hx
  obtain ⟨x', hx', rfl, rfl⟩ := hx
  simp only at hq hx'
  obtain ⟨L1, g1, g2, g3⟩ := exG_ok hy hH hg
  have hs1 : SR w c.imm c.ok μ h' σ.n σ.s a.tmps := SR.mono (Kept.sub g3) hl
  obtain ⟨L2, h'', g4, g5⟩ := exS_ok (gv := c.gv ++ c.kv) h3.2 hx' g2 hs1
  have H0 : HR w c.imm c.ok (fun _ => ⟨0, 0, false⟩) [] 0 (L1 ++ L2) := by
    obtain ⟨own, _, q1, q2⟩ := g5
    refine ⟨fun _ => none, fun r x hx => by simp [hget] at hx, ?_, fun _ _ => rfl⟩
    refine (List.Perm.nodup_iff ?_).1 q1
    simpa using List.perm_append_comm
  obtain ⟨μ1, b1, b2, b3, b4, b5⟩ := opnG_ok (D := L2) g1 H0
  have hgs := eqGL_vr c.gs _ c.gv hq hg b3
  obtain ⟨μ2, e1, e2, e3, e4, e5⟩ := mkS_ok (gs := c.gs ++ c.kv.map fun _ => .undef) (D := []) (tm := fun t => a.tmps.getD t undef) (fun _ => rfl) g4 (by simpa using b2) (VRl.append hgs (vrl_un c.kv))
  rw [mkS_un] at e2 e3 e4 e5
  exact ⟨h1, h2, h3, μ2, e2, e3, VRl.mono (Kept.opened e1 e4 e5) _ _ (innOkl_true _) hgs⟩
end Go.Tw
namespace Go.Tw
open Go Go.RowKit
variable [Grd]
def eqE : Exit → Exit → Bool
  | .exit i, .exit j => Nat.beq i j
  | .ret, .ret => true
  | _, _ => false
theorem eqE_eq {e e' : Exit} (h : eqE e e' = true) : e = e' := by
  cases e <;> cases e' <;> simp_all [eqE]
abbrev GD (gt : List Ty) (S : Shape) : Type := den (prodT gt) × den (shT S)
def OutT (gt : List Ty) : (Exit × Shape) → List (Exit × Shape) → Type
  | x, [] => GD gt x.2
  | x, y :: r => GD gt x.2 ⊕ OutT gt y r
def outs (st : List (Nat × Nat)) (gs : List TV) (gt : List Ty) : (x : Exit × Shape) → (r : List (Exit × Shape)) → Exit → St → Option (OutT gt x r)
  | x, [], e, σ => bif eqE e x.1 then exX st gs gt x.2 σ else none
  | x, y :: r, e, σ => bif eqE e x.1 then (exX st gs gt x.2 σ).map .inl else (outs st gs gt y r e σ).map .inr
def decO (gs : List TV) (gt : List Ty) {ρ : Type} (K : Exit → St → Option ρ) : (x : Exit × Shape) → (r : List (Exit × Shape)) → OutT gt x r → Option ρ
  | x, [], v => K x.1 (mkSt gs gt x.2 v.1 v.2)
  | x, y :: r, v => Sum.elim (fun v => K x.1 (mkSt gs gt x.2 v.1 v.2)) (fun v => decO gs gt K y r v) v
def iter {V O : Type} (step : (V → Option O) → V → Option O) : Nat → V → Option O
  | 0, _ => none
  | k + 1, v => step (iter step k) v
def Kb (st : List (Nat × Nat)) (gs : List TV) (gt : List Ty) (S : Shape) (x : Exit × Shape) (r : List (Exit × Shape)) (rec : GD gt S → Option (OutT gt x r)) (e : Exit) (σ : St) : Option (OutT gt x r) :=
  match e with
  | .normal => (exX st gs gt S σ).bind rec
  | e => outs st gs gt x r e σ
def loopO (st : List (Nat × Nat)) (gs : List TV) (gt : List Ty) (S : Shape) (x : Exit × Shape) (r : List (Exit × Shape)) (f : GD gt S → Option (OutT gt x r)) : LO :=
  fun ρ σ K => (exX st gs gt S σ).bind fun v => (f v).bind fun o => decO gs gt K x r o
theorem outs_ok {c : Cx} {gt : List Ty} {ρ : Type} {K : Exit → St → Option ρ} {res : ρ} {a : Act} {w : World} : ∀ {x : Exit × Shape} {r : List (Exit × Shape)} {e : Exit} {σ : St} {o : OutT gt x r}, outs c.m.st c.gs gt x r e σ = some o → decO c.gs gt K x r o = some res → Sim c σ a w → ∃ σ', K e σ' = some res ∧ Sim c σ' a w
  | x, [], e, σ, o, h1, h2, hs => by
    simp only [outs] at h1
    obtain ⟨he, h3⟩ := cond_some.1 h1
    have := eqE_eq he
    exact ⟨_, by rw [this]; exact h2, hs.shape (y := o.1) (x := o.2) h3⟩
  | x, y :: r, e, σ, o, h1, h2, hs => by
    simp only [outs] at h1
    cases he : eqE e x.1 with
    | true =>
      rw [he] at h1
      have h3 : (exX c.m.st c.gs gt x.2 σ).map Sum.inl = some o := h1
      have := eqE_eq he
      cases hv : exX c.m.st c.gs gt x.2 σ with
      | none => rw [hv] at h3; cases h3
      | some v =>
        rw [hv] at h3
        cases h3
        exact ⟨_, by rw [this]; exact h2, hs.shape (y := v.1) (x := v.2) hv⟩
    | false =>
      rw [he] at h1
      have h3 : (outs c.m.st c.gs gt y r e σ).map Sum.inr = some o := h1
      cases hv : outs c.m.st c.gs gt y r e σ with
      | none => rw [hv] at h3; cases h3
      | some v =>
        rw [hv] at h3
        cases h3
        exact outs_ok hv h2 hs
theorem loop_ok {c : Cx} {F : List Con} {N : Inl} {L : List (Nat × LO)} {body : Code} (hN : InlOk c.P N) (hF : ∀ cn ∈ F, ConOk c.P cn) (hL : ∀ b ∈ loopsIn body, ∀ lo, lget L (lid b) = some lo → LoopOk c lo b) {gt : List Ty} {S : Shape} {x : Exit × Shape} {r : List (Exit × Shape)}
    {step : (GD gt S → Option (OutT gt x r)) → GD gt S → Option (OutT gt x r)} (hstep : ∀ rec v, evC c.P c.m F N L body (Kb c.m.st c.gs gt S x r rec) (mkSt c.gs gt S v.1 v.2) = step rec v) (k : Nat) :
    LoopOk c (loopO c.m.st c.gs gt S x r (iter step k)) body := by
  intro ρ σ K res hlo a w hs
  simp only [loopO, Option.bind_eq_some_iff] at hlo
  obtain ⟨v, hv, o, ho, hd⟩ := hlo
  refine wp_loop_ghost (fun k a w => ∃ v, iter step k v = some o ∧ Sim c (mkSt c.gs gt S v.1 v.2) a w) k ⟨v, ho, hs.shape (y := v.1) (x := v.2) hv⟩ ?_
  rintro k a w ⟨v, hit, hs⟩
  cases k with
  | zero => simp [iter] at hit
  | succ k =>
    simp only [iter] at hit
    rw [← hstep] at hit
    refine wp_mono (evC_ok hN hF body _ _ hL hit a w hs) ?_
    rintro e a' w' ⟨σ', q, s⟩
    cases e with
    | normal =>
      simp only [Kb, Option.bind_eq_some_iff] at q
      obtain ⟨v', h1, h2⟩ := q
      exact ⟨k, Nat.lt_succ_self _, v', h2, s.shape (y := v'.1) (x := v'.2) h1⟩
    | _ => exact outs_ok (by simpa only [Kb] using q) hd s
def mutV : List (Ty × Bool) → List Value → List Value
  | [], _ => []
  | (_, false) :: ps, vs => mutV ps vs.tail
  | (_, true) :: ps, vs => vs.headD undef :: mutV ps vs.tail
section
variable {w w' : World} {imm ok : Nat → Prop} {μ : Nat → Mu} {h : Heap} {n : Nat} {fr : Bool}
theorem ArgR.length : ∀ {ps : List (Ty × Bool)} {x : den (prodT (ps.map (·.1)))} {vs : List Value} {L : List Nat}, ArgR w imm ok ps x vs L → vs.length = ps.length
  | [], _, _, _, H => by rw [H.1]; rfl
  | p :: ps, x, vs, L, H => by obtain ⟨us, vs', L1, L2, rfl, rfl, _, _, h⟩ := H; simp [ArgR.length h]
theorem parS_ok {tm : Nat → Value} : ∀ {ps : List (Ty × Bool)} {x : den (prodT (ps.map (·.1)))} {vs : List Value} {L D : List Nat} {h : Heap} {n : Nat} {μ : Nat → Mu} (i : Nat), ArgR w imm ok ps x vs L → (∀ b, imm b → True) → HR w imm ok μ h n (L ++ D) → (∀ (j : Nat) v, vs[j]? = some v → tm (i + j) = v) →
    Opened w imm ok μ h n D (fun μ' => (∀ t, VR w imm ok μ' (parS ps i x h n).2.1 (parS ps i x h n).2.2 (sget (parS ps i x h n).1 t) (tm t)) ∧ VRl w imm ok μ' (parS ps i x h n).2.1 (parS ps i x h n).2.2 (parG ps x h n) (mutV ps vs)) (parS ps i x h n).2.1 (parS ps i x h n).2.2
  | [], x, vs, L, D, h, n, μ, i, H, _, HH, ht => by
    obtain ⟨rfl, rfl⟩ := H
    exact ⟨μ, fun _ _ => rfl, by simpa [parS] using HH, ⟨fun t => by simp [parS, sget, VR], by simp [parG, mutV, VRl]⟩, Nat.le_refl _, fun _ _ => rfl⟩
  | (t, false) :: ps, x, vs, L, D, h, n, μ, i, H, hi, HH, ht => by
    obtain ⟨us, vs', L1, L2, rfl, rfl, h1a, _, h2⟩ := H
    obtain ⟨h1, rfl⟩ := h1a rfl
    obtain ⟨μ', a1, a2, ⟨a3, a6⟩, a4, a5⟩ := parS_ok (i + 1) h2 hi (by simpa using HH) (fun j v hj => by rw [show i + 1 + j = i + (j + 1) by omega]; exact ht (j + 1) v (by simpa using hj))
    simp only [parS, parG, mutV]
    refine ⟨μ', a1, a2, ⟨fun t' => ?_, by simpa using a6⟩, a4, a5⟩
    rw [sget_cons]; split
    · rename_i e; rw [e, show i = i + 0 by omega, ht 0 _ rfl]; exact valT_vr h1
    · exact a3 t'
  | (t, true) :: ps, x, vs, L, D, h, n, μ, i, H, hi, HH, ht => by
    obtain ⟨us, vs', L1, L2, rfl, rfl, _, h1a, h2⟩ := H
    have h1 : TOC w imm ok (frT t) (encT t x.1) us L1 := h1a rfl
    rw [List.append_assoc] at HH
    obtain ⟨μ1, b1, b2, b3, b4, b5⟩ := opnC_ok h1 HH
    obtain ⟨μ', a1, a2, ⟨a3, a6⟩, a4, a5⟩ := parS_ok (i + 1) h2 hi b2 (fun j v hj => by rw [show i + 1 + j = i + (j + 1) by omega]; exact ht (j + 1) v (by simpa using hj))
    simp only [parS, parG, mutV, opnV]
    have hV := VR.mono (Kept.opened (imm := imm) (ok := ok) (w := w) a1 a4 a5) _ _ (innOk_true _) (pack_vr' (g := isAg t) b3)
    refine ⟨μ', fun r hr => by rw [a1 r (by omega), b1 r hr], a2, ⟨fun t' => ?_, ?_⟩, by omega, fun r hr => by rw [a5 r (by omega), b5 r hr]⟩
    · rw [sget_cons]; split
      · rename_i e; rw [e, show i = i + 0 by omega, ht 0 _ rfl]; exact hV
      · exact a3 t'
    · simp only [VRl]
      exact ⟨_, _, rfl, by simpa using hV, by simpa using a6⟩
theorem opnC_inn (K : Nat → Prop) : ∀ {t : Ty} {x : den t} {h : Heap} {n : Nat}, innOkl K (opnC fr (encT t x) h n).1 := by
  have : ∀ (cs : List TV) (h : Heap) (n : Nat), innOkl K cs → innOkl K (opnC fr cs h n).1 := by
    intro cs
    induction cs with
    | nil => intro h n _; trivial
    | cons c cs ih =>
      intro h n H
      cases c <;> simp only [opnC] <;> exact ⟨by first | trivial | exact H.1, ih _ _ H.2⟩
  have enc : ∀ {t : Ty} {x : den t}, innOkl K (encT t x) := by
    intro t
    induction t with
    | pr a b iha ihb =>
      intro x
      have app : ∀ xs ys : List TV, innOkl K xs → innOkl K ys → innOkl K (xs ++ ys) := by
        intro xs
        induction xs with
        | nil => intro ys _ h; exact h
        | cons z xs ih => intro ys h1 h2; exact ⟨h1.1, ih ys h1.2 h2⟩
      exact app _ _ iha ihb
    | un => intro x; trivial
    | cl g t ih => intro x; exact ⟨⟨trivial, ih⟩, trivial⟩
    | _ => intro x; exact ⟨trivial, trivial⟩
  intro t x h n
  exact this _ _ _ enc
theorem pack_inn {K : Nat → Prop} {g : Bool} {cs : List TV} (H : innOkl K cs) : innOk K (pack g cs) := by
  cases g with
  | true => exact H
  | false => cases cs with
    | nil => trivial
    | cons c cs => exact H.1
theorem parG_inn (K : Nat → Prop) : ∀ {ps : List (Ty × Bool)} {x : den (prodT (ps.map (·.1)))} {h : Heap} {n : Nat}, innOkl K (parG ps x h n)
  | [], _, _, _ => trivial
  | (t, false) :: ps, x, h, n => parG_inn K (ps := ps)
  | (t, true) :: ps, x, h, n => by
    simp only [parG, opnV]
    exact ⟨pack_inn (opnC_inn K), parG_inn K (ps := ps)⟩
theorem clsL_ok : ∀ {ts : List Ty} {vs : List TV} {us : List Value} {y : den (prodT ts)} {D : List Nat} {h h' : Heap}, clsL fr ts vs h = some (y, h') → HR w imm ok μ h n D → VRl w imm ok μ h n vs us →
    ∃ L, ResO w imm ok fr ts y us L ∧ HR w imm ok μ h' n (L ++ D) ∧ ∀ r x, hget h' r = some x → hget h r = some x
  | [], [], us, y, D, h, h', hx, HH, hg => by
    simp only [clsL, Option.some.injEq, Prod.mk.injEq] at hx
    simp only [VRl] at hg
    obtain ⟨_, rfl⟩ := hx
    exact ⟨[], ⟨hg, rfl⟩, by simpa using HH, fun _ _ h => h⟩
  | t :: ts, v :: vs, us, y, D, h, h', hx, HH, hg => by
    simp only [clsL, Option.bind_eq_some_iff] at hx
    obtain ⟨cs, hcs, ⟨fs, f, h1⟩, habs, hx⟩ := hx
    obtain ⟨hf, hx⟩ := cond_some.1 hx
    simp only [Option.bind_eq_some_iff, Option.some.injEq] at hx
    obtain ⟨d, hd, z, hz, hye⟩ := hx
    cases hye
    simp only [Bool.and_eq_true] at hf
    simp only [VRl] at hg
    obtain ⟨u, us', rfl, hv0, hg'⟩ := hg
    obtain ⟨xs, rfl, hv⟩ := cellsOf_vr hcs hv0
    obtain ⟨L1, g1, g2⟩ := absL_top HH hv habs hf.1
    have hg1 : VRl w imm ok μ h1 n vs us' := VRl.mono (Kept.sub (absL_sub habs)) _ _ (innOkl_true _) hg'
    obtain ⟨L2, h3, h4, h5⟩ := clsL_ok hz g2 hg1
    refine ⟨L1 ++ L2, ⟨xs, us', L1, L2, rfl, rfl, TOC.dec1 hd (g1.weak hf.2), h3⟩, h4.dperm ?_, fun r x hx => absL_sub habs r x (h5 r x hx)⟩
    rw [← List.append_assoc]
    exact List.Perm.append_right _ List.perm_append_comm
  | [], _ :: _, _, _, _, _, _, hx, _, _ => by simp [clsL] at hx
  | _ :: _, [], _, _, _, _, _, hx, _, _ => by simp [clsL] at hx
theorem clsB_ok : ∀ {ts : List Ty} {vs : List TV} {us : List Value} {y : den (prodT ts)}, clsB ts vs = some y → VRl w imm ok μ h n vs us → ResB w imm ok ts y us
  | [], [], us, y, hx, hg => by simp only [VRl] at hg; exact hg
  | t :: ts, v :: vs, us, y, hx, hg => by
    simp only [clsB, Option.bind_eq_some_iff] at hx
    obtain ⟨cs, hcs, hx⟩ := hx
    obtain ⟨hf, hx⟩ := cond_some.1 hx
    simp only [Option.bind_eq_some_iff, Option.some.injEq] at hx
    obtain ⟨d, hd, z, hz, hye⟩ := hx
    cases hye
    simp only [VRl] at hg
    obtain ⟨u, us', rfl, hv0, hg'⟩ := hg
    obtain ⟨xs, rfl, hv⟩ := cellsOf_vr hcs hv0
    exact ⟨xs, us', rfl, CT.dec1 hd (CT.of_vrl hf hv), clsB_ok hz hg'⟩
  | [], _ :: _, _, _, hx, _ => by simp [clsB] at hx
  | _ :: _, [], _, _, hx, _ => by simp [clsB] at hx
theorem clsX_ok : ∀ {bs : List Bool} {ts : List Ty} {vs : List TV} {us : List Value} {y : den (prodT ts)} {D : List Nat} {h h' : Heap}, clsX bs ts vs h = some (y, h') → HR w imm ok μ h n D → VRl w imm ok μ h n vs us →
    ∃ L, ResX w imm ok bs ts y us L ∧ HR w imm ok μ h' n (L ++ D) ∧ ∀ r x, hget h' r = some x → hget h r = some x
  | bs, [], [], us, y, D, h, h', hx, HH, hg => by
    simp only [clsX, Option.some.injEq, Prod.mk.injEq] at hx
    simp only [VRl] at hg
    obtain ⟨_, rfl⟩ := hx
    exact ⟨[], ⟨hg, rfl⟩, by simpa using HH, fun _ _ h => h⟩
  | bs, t :: ts, v :: vs, us, y, D, h, h', hx, HH, hg => by
    simp only [clsX, Option.bind_eq_some_iff] at hx
    obtain ⟨cs, hcs, hx⟩ := hx
    simp only [VRl] at hg
    obtain ⟨u, us', rfl, hv0, hg'⟩ := hg
    obtain ⟨xs, rfl, hv⟩ := cellsOf_vr hcs hv0
    cases he : bs.headD true with
    | true =>
      rw [he] at hx
      simp only [Option.bind_eq_some_iff] at hx
      obtain ⟨⟨fs, f, h1⟩, habs, hx⟩ := hx
      obtain ⟨hf, hx⟩ := cond_some.1 hx
      simp only [Option.bind_eq_some_iff, Option.some.injEq] at hx
      obtain ⟨d, hd, z, hz, hye⟩ := hx
      cases hye
      simp only [Bool.and_eq_true] at hf
      obtain ⟨L1, g1, g2⟩ := absL_top HH hv habs hf.1
      have hg1 : VRl w imm ok μ h1 n vs us' := VRl.mono (Kept.sub (absL_sub habs)) _ _ (innOkl_true _) hg'
      obtain ⟨L2, h3, h4, h5⟩ := clsX_ok hz g2 hg1
      refine ⟨L1 ++ L2, ⟨xs, us', L1, L2, rfl, rfl, ?_, h3⟩, h4.dperm ?_, fun r x hx => absL_sub habs r x (h5 r x hx)⟩
      · rw [he]; exact TOC.dec1 hd (g1.weak (by rw [show f = true from hf.2]; rfl))
      · rw [← List.append_assoc]
        exact List.Perm.append_right _ List.perm_append_comm
    | false =>
      rw [he] at hx
      obtain ⟨hf, hx⟩ := cond_some.1 hx
      simp only [Option.bind_eq_some_iff, Option.some.injEq] at hx
      obtain ⟨d, hd, z, hz, hye⟩ := hx
      cases hye
      obtain ⟨L2, h3, h4, h5⟩ := clsX_ok hz HH hg'
      refine ⟨L2, ⟨xs, us', [], L2, rfl, rfl, ?_, h3⟩, h4, h5⟩
      rw [he]; exact ⟨CT.dec1 hd (CT.of_vrl hf hv), rfl⟩
  | _, [], _ :: _, _, _, _, _, _, hx, _, _ => by simp [clsX] at hx
  | _, _ :: _, [], _, _, _, _, _, hx, _, _ => by simp [clsX] at hx
theorem MutR_of : ∀ {ps : List (Ty × Bool)} {vs : List Value} {y : den (prodT (mutT ps))} {L : List Nat}, vs.length = ps.length → ResG w imm ok (mutT ps) y (mutV ps vs) L → MutR w imm ok ps y vs L
  | [], vs, y, L, _, H => H.2
  | (t, false) :: ps, vs, y, L, hl, H => by
    simp only [MutR]
    have H' : ResG w imm ok (mutT ps) y (mutV ps vs.tail) L := H
    exact MutR_of (ps := ps) (by rw [List.length_tail, hl]; rfl) H'
  | (t, true) :: ps, vs, y, L, hl, H => by
    simp only [mutV] at H
    obtain ⟨us, vs', L1, L2, e, rfl, h1, h2⟩ := H
    simp only [List.cons.injEq] at e
    obtain ⟨e1, e2⟩ := e
    cases vs with
    | nil => simp at hl
    | cons v vs =>
      simp only [List.headD_cons] at e1
      refine ⟨us, L1, L2, by simp [e1], rfl, h1, MutR_of (ps := ps) (by simpa using hl) (by rw [e2]; exact h2)⟩
theorem parI_get {tm : Nat → Value} : ∀ {ps : List (Ty × Bool)} {vs : List Value} (i k : Nat) (gv : List Value), vs.length = ps.length → (∀ (j : Nat) v, vs[j]? = some v → tm (i + j) = v) → (∀ j, gv.getD (k + j) undef = (mutV ps vs).getD j undef) → ∀ q ∈ parI ps i k, tm q.1 = gv.getD q.2 undef
  | [], vs, i, k, gv, _, _, _, q, hq => by simp [parI] at hq
  | (t, false) :: ps, v :: vs, i, k, gv, hl, ht, hg, q, hq => by
    simp only [parI] at hq
    exact parI_get (i + 1) k gv (by simpa using hl) (fun j v hj => by rw [show i + 1 + j = i + (j + 1) by omega]; exact ht (j + 1) v (by simpa using hj)) (by simpa [mutV] using hg) q hq
  | (t, true) :: ps, v :: vs, i, k, gv, hl, ht, hg, q, hq => by
    simp only [parI, List.mem_cons] at hq
    rcases hq with rfl | hq
    · have := ht 0 v rfl
      have h2 := hg 0
      simp only [Nat.add_zero, mutV, List.headD_cons, List.getD_cons_zero] at this h2
      rw [this, h2]
    · exact parI_get (i + 1) (k + 1) gv (by simpa using hl) (fun j v hj => by rw [show i + 1 + j = i + (j + 1) by omega]; exact ht (j + 1) v (by simpa using hj)) (fun j => by
        have := hg (j + 1)
        rw [show k + 1 + j = k + (j + 1) by omega, this]; simp [mutV]) q hq
  | _ :: _, [], _, _, _, hl, _, _, _, _ => by simp at hl
def rvar (tmps : Array Value) : ResultVar → Sem Value
  | .tmp t => pure (tmps.getD t undef)
  | .cell b t => do loadVar t (← asAddr (tmps.getD b undef))
end
section
variable {c : Cx} {σ : St} {a : Act} {w : World}
theorem loadS_run {o : Operand} {t : Tmp} {ty : TypeId} {av : Bool × Nat} {A : Ans} (hs : Sim c σ a w) {μ : Nat → Mu} (hH : HR w c.imm c.ok μ σ.h σ.n []) (hl : SR w c.imm c.ok μ σ.h σ.n σ.s a.tmps) (hav : tv c.P ty = some av) (hA : loadS av (sget σ.s t) σ.h σ.n = some A) (hc : A.c = true) :
    ∃ u, ((do loadVar ty (← asAddr (a.tmps.getD t undef))) : Sem Value).run c.P w = .ok u w ∧ VR w c.imm c.ok μ σ.h σ.n A.v u := by
  obtain ⟨g, m⟩ := av
  have hv := hl t
  unfold loadS at hA
  obtain ⟨hgm, hA⟩ := cond_some.1 hA
  have hgm' : g = true ∨ m = 1 := by
    simp only [Bool.or_eq_true] at hgm
    rcases hgm with h | h
    · exact .inl h
    · exact .inr (Nat.eq_of_beq_eq_true h)
  simp only at hA
  split at hA
  · rename_i t0 l i off hq
    obtain ⟨hb, hA⟩ := cond_some.1 hA
    simp only [Option.some.injEq] at hA; subst hA
    simp only [decide_eq_true_eq] at hc
    have hle : off + m ≤ sz t0 := Nat.le_of_ble_eq_true hb
    rw [hq] at hv
    simp only [VR] at hv
    obtain ⟨b, of, e1, him, hte⟩ := hv
    obtain ⟨L1, L2, L3, hL, _, ⟨us, g1, g2⟩, _⟩ := RL.at (dflt t0) hc hte
    obtain ⟨_, hL2⟩ := nil_app hL
    obtain ⟨rfl, _⟩ := nil_app hL2.symm
    obtain ⟨u1, u2, u3, La, Lb, Lc, rfl, hLL, k1, k2, _, k3, _⟩ := g1.toCT.win (off := off) (m := m) (by rw [enc_length]; exact hle)
    obtain ⟨_, hLL⟩ := nil_app hLL
    obtain ⟨rfl, _⟩ := nil_app hLL.symm
    obtain ⟨_, g2⟩ := At.app.1 g2
    obtain ⟨g2, _⟩ := At.app.1 g2
    rw [k1] at g2
    exact ⟨_, by simp [e1, asAddr, pack_val hav k2 g2 hgm'], pack_vr k3.vrl⟩
  · rename_i r i off hq
    rw [hq] at hv
    simp only [VR] at hv
    obtain ⟨hr, B, e1, hm⟩ := hv
    split at hA
    · rename_i fr t0 l hgr
      obtain ⟨hb, hA⟩ := cond_some.1 hA
      simp only [Option.some.injEq] at hA; subst hA
      simp only [decide_eq_true_eq] at hc
      have hle : off + m ≤ sz t0 := Nat.le_of_ble_eq_true hb
      simp only [hgr] at hm; subst hm
      obtain ⟨L, hR⟩ := hH.row hgr
      have hbk := hR.bk (by rintro rfl; simp at hc)
      obtain ⟨L', rfl, q1, q2, q3⟩ := hR.rowd hbk
      obtain ⟨L1, L2, L3, hL, _, ⟨us, g1, g2⟩, _⟩ := RL.at (dflt t0) hc q3
      obtain ⟨u1, u2, u3, La, Lb, Lc, rfl, hLL, k1, k2, _, k3, _⟩ := g1.toCT.win (off := off) (m := m) (by rw [enc_length]; exact hle)
      obtain ⟨_, g2⟩ := At.app.1 g2
      obtain ⟨g2, _⟩ := At.app.1 g2
      rw [k1] at g2
      exact ⟨_, by simp [e1, asAddr, pack_val hav k2 g2 hgm'], pack_vr (inn_vr hr hc hgr hbk (fun t' l' hmem => enc_hasSl (List.mem_of_mem_drop (List.mem_of_mem_take hmem))) k3 g2)⟩
    · rename_i cs hgr
      obtain ⟨hb, hA⟩ := cond_some.1 hA
      simp only [Option.some.injEq] at hA; subst hA
      have hle : off + m ≤ cs.length := Nat.le_of_ble_eq_true hb
      simp only [hgr] at hm; subst hm
      obtain ⟨L, hR⟩ := hH.row hgr
      simp only [RR] at hR
      obtain ⟨rfl, q1, q2, us, q3, q4⟩ := hR
      have k3 := (q3.drop off).take m
      have k2 : ((us.drop off).take m).length = m := by rw [List.length_take, List.length_drop, ← q3.length]; omega
      have g2 := q4.sub off m
      exact ⟨_, by simp [e1, asAddr, pack_val hav k2 g2 hgm'], pack_vr k3⟩
    · simp at hA
  · simp at hA
theorem rets_ok (hs : Sim c σ a w) {μ : Nat → Mu} (hH : HR w c.imm c.ok μ σ.h σ.n []) (hl : SR w c.imm c.ok μ σ.h σ.n σ.s a.tmps) : ∀ (rs : List ResultVar) (vs : List TV), rets c.P σ rs = some vs →
    ∃ us, VRl w c.imm c.ok μ σ.h σ.n vs us ∧ (rs.mapM (rvar a.tmps)).run c.P w = .ok us w
  | [], vs, hr => by
    simp only [rets, Option.some.injEq] at hr; subst hr
    exact ⟨[], by simp [VRl], by simp⟩
  | .tmp t :: r, vs, hr => by
    simp only [rets, Option.bind_eq_some_iff, Option.some.injEq] at hr
    obtain ⟨q, hq, rfl⟩ := hr
    obtain ⟨us, h1, h2⟩ := rets_ok hs hH hl r q hq
    refine ⟨a.tmps.getD t undef :: us, ?_, by simp only [List.mapM_cons, Sem.run_bind, h2, rvar, Sem.run_pure, Result.andThen_ok]⟩
    simp only [VRl]
    exact ⟨_, _, rfl, hl t, h1⟩
  | .cell t ty :: r, vs, hr => by
    simp only [rets, Option.bind_eq_some_iff] at hr
    obtain ⟨q, hq, av, hav, A, hA, hr⟩ := hr
    obtain ⟨hc, hr⟩ := cond_some.1 hr
    simp only [Option.some.injEq] at hr; subst hr
    obtain ⟨us, h1, h2⟩ := rets_ok hs hH hl r q hq
    obtain ⟨u, hu, hV⟩ := loadS_run (o := .tmp t) hs hH hl hav hA hc
    refine ⟨u :: us, ?_, by simp only [List.mapM_cons, Sem.run_bind, h2, rvar, Sem.run_pure, Result.andThen_ok] at hu ⊢; rw [hu]; simp only [Result.andThen_ok]; rw [h2]; simp⟩
    simp only [VRl]; exact ⟨_, _, rfl, hV, h1⟩
end
theorem retV_eq (us : List Value) : (if h : us.toArray.size = 1 then us.toArray[0] else .tuple us.toArray) = retV us := by
  match us with
  | [] => simp [retV]
  | [x] => simp [retV]
  | x :: y :: us => simp [retV]
theorem results_run {P : Program} {fn : Func} {tmps : Array Value} {us : List Value} {w' : World} (k2 : (fn.results.toList.mapM (rvar tmps)).run P w' = .ok us w') : (results fn tmps).run P w' = .ok (retV us) w' := by
  have e1 : results fn tmps = (do let vs ← fn.results.mapM (rvar tmps); pure (if h : vs.size = 1 then vs[0] else .tuple vs)) := by
    unfold results
    congr 1
  have e2 : (fn.results.mapM (rvar tmps)).run P w' = .ok us.toArray w' := by
    rw [Array.mapM_eq_mapM_toList]
    simp [k2]
  rw [e1, Sem.run_bind, e2]
  simp only [Result.andThen_ok, Sem.run_pure]
  rw [retV_eq]
theorem slots_get : ∀ (xs : List TV) (i t : Nat), sget (slotsOf i xs) t = if i ≤ t then xs.getD (t - i) .undef else .undef
  | [], i, t => by simp [slotsOf, sget]
  | x :: xs, i, t => by
    simp only [slotsOf]
    rw [sget_cons, slots_get xs (i + 1) t]
    by_cases h : t = i
    · subst h; simp
    · rw [if_neg h]
      by_cases h2 : i ≤ t
      · rw [if_pos (by omega), if_pos h2]
        have : t - i = (t - (i + 1)) + 1 := by omega
        rw [this]; rfl
      · rw [if_neg (by omega), if_neg h2]
theorem inlN_ok {P : Program} {F : List Con} (hF : ∀ cn ∈ F, ConOk P cn) : ∀ d, InlOk P (inlN P F d)
  | 0 => fun _ _ _ _ _ _ _ _ _ h => by cases h
  | d + 1 => by
    rintro c rfl ρ f xs h n K r hev
    simp only [inlN] at hev
    split at hev
    · rename_i fn hfn
      split at hev
      · rename_i code hb
        obtain ⟨hc, hev⟩ := cond_some.1 hev
        simp only [Bool.and_eq_true] at hc
        refine ⟨by unfold callable; rw [hfn]; simp only [hb, Option.isSome_some, Bool.and_true]; exact hc.2, fun w vals μ hfr hH hx hg => ?_⟩
        refine calls_of_wp hfn hb ?_
        let c2 : Cx := { P := c.P, m := ⟨fn.ntmps, []⟩, w0 := c.w0, imm := c.imm, ok := c.ok, immlt := c.immlt, immok := c.immok, oknew := c.oknew, gs := c.gs, gv := c.gv, gin := c.gin, gG := c.gG, gJ := c.gJ }
        have hlen : vals.length = xs.length := hx.length.symm
        have hle : xs.length ≤ fn.ntmps := Nat.le_of_ble_eq_true hc.1
        let tmps : Array Value := vals.toArray ++ Array.replicate (fn.ntmps - vals.toArray.size) undef
        have htm : ∀ t, VR w c.imm c.ok μ h n (sget (slotsOf 0 xs) t) (tmps.getD t undef) := by
          intro t
          rw [slots_get]
          simp only [Nat.zero_le, ↓reduceIte, Nat.sub_zero]
          by_cases ht : t < xs.length
          · have e : tmps.getD t undef = vals.getD t undef := by
              simp only [tmps, Array.getD_eq_getD_getElem?]
              rw [Array.getElem?_append_left (by simp; omega)]
              simp [List.getD]
            rw [e]; exact hx.get t
          · have : xs.getD t .undef = .undef := by simp [List.getD, List.getElem?_eq_none (show xs.length ≤ t by omega)]
            rw [this]; simp [VR]
        have hsim : Sim c2 ⟨slotsOf 0 xs, h, n⟩ { tmps := tmps, defers := [] } w := by
          refine ⟨⟨hfr.os, hfr.tape, hfr.output, hfr.size, hfr.block, hfr.row⟩, rfl, ⟨?_, fun q hq => by cases hq⟩, μ, hH, htm, hg⟩
          show tmps.size = fn.ntmps
          simp only [tmps, Array.size_append, List.size_toArray, Array.size_replicate]; omega
        have he := evC_ok (c := c2) (inlN_ok hF d) hF code _ _ (fun b _ lo hlo => by cases hlo) (r := r) hev
        refine wp_mono (he _ _ hsim) ?_
        rintro e a' w' ⟨σ', hq, hs⟩
        have key : ((rets c.P σ' fn.results.toList).bind fun vs => K (retT vs) σ'.h σ'.n) = some r ∧ (e = .normal ∨ e = .ret) := by
          cases e with
          | normal => exact ⟨hq, .inl rfl⟩
          | ret => exact ⟨hq, .inr rfl⟩
          | _ => cases hq
        obtain ⟨hq, he⟩ := key
        obtain ⟨vs, hrets, hq⟩ := Option.bind_eq_some_iff.1 hq
        have hfr' := hs.fr
        have hdf := hs.defers
        obtain ⟨_, _, _, μ', hH', hl', hg'⟩ := id hs
        obtain ⟨us, k1, k2⟩ := rets_ok (c := c2) hs hH' hl' fn.results.toList vs hrets
        have hret := results_run (P := c.P) k2
        have hpost : ∃ v, (results fn a'.tmps).run c.P w' = .ok v w' ∧ ∃ rv v2 h' n' μ', Ending.returned v = .returned rv ∧ K v2 h' n' = some r ∧ Fr c w' ∧ HR w' c.imm c.ok μ' h' n' [] ∧ VR w' c.imm c.ok μ' h' n' v2 rv ∧ VRl w' c.imm c.ok μ' h' n' c.gs c.gv :=
          ⟨_, hret, retV us, retT vs, σ'.h, σ'.n, μ', rfl, hq, ⟨hfr'.os, hfr'.tape, hfr'.output, hfr'.size, hfr'.block, hfr'.row⟩, hH', ret_vr k1, hg'⟩
        rcases he with rfl | rfl
        · exact ⟨hdf, hpost⟩
        · exact ⟨hdf, hpost⟩
      · simp at hev
    · simp at hev
theorem fn_ok {P : Program} {F : List Con} {N : Inl} (hN : InlOk P N) (hF : ∀ cn ∈ F, ConOk P cn) {cn : Con} {fn : Func} {code : Code} (hf : P.funcs[cn.f]? = some fn) (hb : fn.body = some code) (hcall : callable P cn.f = true) (hpar : cn.ps.length ≤ fn.ntmps)
    (L : den (prodT (cn.ps.map (·.1))) → List (Nat × LO))
    (hL : ∀ x (c : Cx), c.P = P → c.m = ⟨fn.ntmps, parI cn.ps 0 0⟩ → c.gs = parG cn.ps x [] 0 → ∀ b ∈ loopsIn code, ∀ lo, lget (L x) (lid b) = some lo → LoopOk c lo b)
    (hm : ∀ x, evF P F N (L x) fn code cn.ps cn.rs cn.rm x = cn.m x) (hmv : cn.rm.isMv = false) : ConOk P cn := by
  refine ⟨hcall, fun w imm vals x Lm y himm hgd hLm harg hy => ?_⟩
  refine calls_of_wp hf hb ?_
  rw [← hm] at hy
  have hvl := harg.length
  let c : Cx := { P := P, m := ⟨fn.ntmps, parI cn.ps 0 0⟩, w0 := w, imm := imm, ok := okL Lm w, immlt := fun b h => (himm b h).1,
                  immok := fun b h ho => by rcases ho with ho | ho
                                            · exact (himm b h).2 ho
                                            · have := (himm b h).1; omega,
                  oknew := fun b h => .inr h, gs := parG cn.ps x [] 0, gv := mutV cn.ps vals, gin := parG_inn _, gG := hgd.1, gJ := hgd.2 }
  have harg' : ArgR w imm (okL Lm w) cn.ps x vals Lm := by
    have : ∀ (ps : List (Ty × Bool)) (x) (vs : List Value) (L : List Nat), ArgR w imm (· ∈ Lm) ps x vs L → ArgR w imm (okL Lm w) ps x vs L := by
      intro ps
      induction ps with
      | nil => intro x vs L H; exact H
      | cons p ps ih =>
        intro x vs L H
        obtain ⟨us, vs', L1, L2, e1, e2, h1, h2, h3⟩ := H
        exact ⟨us, vs', L1, L2, e1, e2, fun e => ⟨(h1 e).1.mono (fun _ h => h) (fun b h => .inl h) (fun _ _ => rfl) (by simp), (h1 e).2⟩, fun e => (h2 e).mono (fun _ h => h) (fun b h => .inl h) (fun _ _ => rfl) (fun _ _ => rfl), ih _ _ _ h3⟩
    exact this _ _ _ _ harg
  let tmps : Array Value := vals.toArray ++ Array.replicate (fn.ntmps - vals.toArray.size) undef
  have htm : ∀ (j : Nat) v, vals[j]? = some v → tmps.getD (0 + j) undef = v := by
    intro j v hj
    have hlt : j < vals.length := by
      rcases Nat.lt_or_ge j vals.length with h | h
      · exact h
      · rw [List.getElem?_eq_none h] at hj; simp at hj
    simp only [tmps, Nat.zero_add, Array.getD_eq_getD_getElem?]
    rw [Array.getElem?_append_left (by simpa using hlt)]
    simp [hj]
  have H0 : HR w imm (okL Lm w) (fun _ => ⟨0, 0, false⟩) [] 0 (Lm ++ []) := ⟨fun _ => none, fun r x hx => by simp [hget] at hx, by simpa using hLm, fun _ _ => rfl⟩
  obtain ⟨μ, a1, a2, ⟨a3, a6⟩, a4, a5⟩ := parS_ok (tm := fun t => tmps.getD t undef) 0 harg' (fun _ _ => trivial) H0 htm
  have hsim : Sim c ⟨(parS cn.ps 0 x [] 0).1, (parS cn.ps 0 x [] 0).2.1, (parS cn.ps 0 x [] 0).2.2⟩ { tmps := tmps, defers := [] } w := by
    refine ⟨⟨rfl, rfl, rfl, Nat.le_refl _, fun _ _ _ => rfl, fun _ _ h => h⟩, rfl, ⟨?_, ?_⟩, μ, a2, a3, a6⟩
    · show tmps.size = fn.ntmps
      simp only [tmps, Array.size_append, List.size_toArray, Array.size_replicate]; omega
    · exact parI_get (tm := fun t => tmps.getD t undef) 0 0 _ hvl htm (fun j => by rw [Nat.zero_add]; show (mutV cn.ps vals ++ []).getD j undef = _; rw [List.append_nil])
  have hev := evC_ok (c := c) hN hF code _ _ (hL x c rfl rfl rfl) (r := y) hy
  refine wp_mono (hev _ _ hsim) ?_
  rintro e a' w' ⟨σ', hq, hs⟩
  have key : ((rets P σ' fn.results.toList).bind fun vs => (clsR cn.rm cn.rs vs σ'.h).bind fun q => (exG (parG cn.ps x [] 0) (mutT cn.ps) q.2).bind fun g => some (q.1, g.1)) = some y ∧ (e = .normal ∨ e = .ret) := by
    cases e with
    | normal => exact ⟨hq, .inl rfl⟩
    | ret => exact ⟨hq, .inr rfl⟩
    | _ => cases hq
  obtain ⟨hq, he⟩ := key
  obtain ⟨vs, hrets, hq⟩ := Option.bind_eq_some_iff.1 hq
  obtain ⟨⟨y1, h1⟩, hcls, hq⟩ := Option.bind_eq_some_iff.1 hq
  obtain ⟨⟨y2, h2⟩, hex, hq⟩ := Option.bind_eq_some_iff.1 hq
  cases hq
  have hfr := hs.fr
  have hdf := hs.defers
  obtain ⟨_, _, _, μ', hH, hl, hg⟩ := id hs
  obtain ⟨us, k1, k2⟩ := rets_ok (c := c) hs hH hl fn.results.toList vs hrets
  have hres : ∃ L, ResM w' imm (okL Lm w) cn.rm cn.rs y1 us L ∧ HR w' imm (okL Lm w) μ' h1 σ'.n (L ++ []) ∧ ∀ r x, hget h1 r = some x → hget σ'.h r = some x := by
    unfold clsR at hcls
    cases hrm : cn.rm with
    | mv => rw [hrm] at hmv; cases hmv
    | own fr => rw [hrm] at hcls; exact clsL_ok hcls hH k1
    | mix bs => rw [hrm] at hcls; exact clsX_ok hcls hH k1
    | bor =>
      rw [hrm] at hcls
      simp only [Option.map_eq_some_iff, Prod.mk.injEq] at hcls
      obtain ⟨z, hz, rfl, rfl⟩ := hcls
      exact ⟨[], ⟨clsB_ok hz k1, rfl⟩, by simpa using hH, fun _ _ h => h⟩
  obtain ⟨L, r1, r2, r3⟩ := hres
  have hg1 : VRl w' imm (okL Lm w) μ' h1 σ'.n (parG cn.ps x [] 0) (mutV cn.ps vals) := VRl.mono (Kept.sub r3) _ _ (innOkl_true _) hg
  obtain ⟨Lm', s1, s2, _⟩ := exG_ok hex r2 hg1
  have hret : (results fn a'.tmps).run P w' = .ok (retV us) w' := by
    have e1 : results fn a'.tmps = (do let vs ← fn.results.mapM (rvar a'.tmps); pure (if h : vs.size = 1 then vs[0] else .tuple vs)) := by
      unfold results
      congr 1
    have e2 : (fn.results.mapM (rvar a'.tmps)).run P w' = .ok us.toArray w' := by
      rw [Array.mapM_eq_mapM_toList]
      have k2' : (fn.results.toList.mapM (rvar a'.tmps)).run P w' = .ok us w' := k2
      simp [k2']
    rw [e1, Sem.run_bind, e2]
    simp only [Result.andThen_ok, Sem.run_pure]
    rw [retV_eq]
  have hnd := s2.nodup
  have hpost : ∃ v, (results fn a'.tmps).run P w' = .ok v w' ∧ ∃ vs L Lm', Ending.returned v = .returned (retV vs) ∧ FrL Lm w w' ∧ ResM w' imm (okL Lm w) cn.rm cn.rs y1 vs L ∧ MutM w' imm (okL Lm w) cn.rm cn.ps y2 vals Lm' ∧ (L ++ Lm').Nodup := by
    have hM : MutM w' imm (okL Lm w) cn.rm cn.ps y2 vals Lm' := by
      unfold MutM
      cases hrm : cn.rm with
      | mv => rw [hrm] at hmv; cases hmv
      | _ => exact MutR_of hvl s1
    refine ⟨_, hret, us, L, Lm', rfl, ⟨hfr.os, hfr.tape, hfr.output, hfr.size, fun k hk hn => hfr.block k hk (fun ho => ?_), hfr.row⟩, r1, hM, ?_⟩
    · rcases ho with ho | ho
      · exact hn ho
      · omega
    · refine (List.Perm.nodup_iff ?_).1 hnd
      simpa using List.perm_append_comm
  rcases he with rfl | rfl
  · exact ⟨hdf, hpost⟩
  · exact ⟨hdf, hpost⟩
end Go.Tw
