/- The logic: a step. -/
import Derived.Test.YtemcbhjheebnnaaGreatT18e
set_option linter.all false
namespace Go.Tw
open Go Go.RowKit
variable [k7]
section
variable {w w' : World} {ab imm' ok ok' : Nat → Prop} {μ : Nat → Mu} {h : ay} {n : Nat} {fr : Bool}
def mO (w : World) (ab ok : Nat → Prop) (fr : Bool) : List Bool → List TV → List Value → List Nat → Prop
  | _, [], us, L => us = [] ∧ L = []
  | ms, c :: cs, us, L => ∃ u us' L1 L2, us = u :: us' ∧ L = L1 ++ L2 ∧ (match ms.headD true with | true => oh w ab ok fr c u L1 | false => CT w ab ok [c] [u] [] ∧ L1 = []) ∧ mO w ab ok fr ms.tail cs us' L2
theorem mO.app : ∀ {ms : List Bool} {xs ys : List TV} {us vs : List Value} {L M : List Nat}, mO w ab ok fr ms xs us L → mO w ab ok fr (ms.drop xs.length) ys vs M → mO w ab ok fr ms (xs ++ ys) (us ++ vs) (L ++ M)
  | ms, [], ys, us, vs, L, M, H, K => by obtain ⟨rfl, rfl⟩ := H; simpa using K
  | ms, x :: xs, ys, us, vs, L, M, H, K => by
    obtain ⟨u, us', L1, L2, rfl, rfl, h1, h2⟩ := H
    refine ⟨u, us' ++ vs, L1, L2 ++ M, rfl, by simp, h1, mO.app h2 ?_⟩
    have e : ms.tail.drop xs.length = ms.drop (x :: xs).length := by cases ms <;> simp
    rw [e]; exact K
theorem E8 {t : Ty} (ht : isAg t = false) {cs r : List TV} {x : den t} (hd : decT t cs = some (x, r)) : ∃ c c', cs = c :: r ∧ encT t x = [c'] ∧ decT t [c] = some (x, []) := by
  cases t
  case int k =>
    simp only [decT] at hd
    split at hd <;> first | (simp at hd; done) | skip
    split at hd
    · rename_i k' m r' hk
      simp only [af, aG] at hd
      obtain ⟨rfl, rfl⟩ := hd
      exact ⟨_, _, rfl, rfl, by simp only [decT, if_pos hk]⟩
    · simp at hd
  case bool =>
    simp only [decT] at hd
    split at hd <;> first | (simp at hd; done) | skip
    simp only [af, aG] at hd
    obtain ⟨rfl, rfl⟩ := hd
    exact ⟨_, _, rfl, rfl, by simp only [decT]⟩
  case str =>
    simp only [decT] at hd
    split at hd <;> first | (simp at hd; done) | skip
    simp only [af, aG] at hd
    obtain ⟨rfl, rfl⟩ := hd
    exact ⟨_, _, rfl, rfl, by simp only [decT]⟩
  case un => simp [isAg] at ht
  case pr a b => simp [isAg] at ht
  case sl t =>
    simp only [decT] at hd
    split at hd <;> first | (simp at hd; done) | skip
    · simp only [ax, af, aG] at hd
      obtain ⟨l', hc, rfl, rfl⟩ := hd
      exact ⟨_, _, rfl, rfl, by simp only [decT, hc]; rfl⟩
    · simp only [af, aG] at hd
      obtain ⟨rfl, rfl⟩ := hd
      exact ⟨_, _, rfl, rfl, by simp only [decT]⟩
  case ref t =>
    simp only [decT] at hd
    split at hd <;> first | (simp at hd; done) | skip
    simp only [ax, af, aG] at hd
    obtain ⟨l', hc, rfl, rfl⟩ := hd
    exact ⟨_, _, rfl, rfl, by simp only [decT, hc]; rfl⟩
  case cl g t =>
    simp only [decT] at hd
    split at hd <;> first | (simp at hd; done) | skip
    rename_i g' ca r'
    obtain ⟨hg, hd⟩ := ah.1 hd
    split at hd <;> first | (simp at hd; done) | skip
    rename_i y hy
    simp only [af, aG] at hd
    obtain ⟨rfl, rfl⟩ := hd
    exact ⟨_, _, rfl, rfl, by simp only [decT, hg, hy, ag]⟩
theorem Hd {t : Ty} (ht : isAg t = false) : sz t = 1 := by cases t <;> simp [isAg] at ht <;> rfl
theorem mO.leaf {t : Ty} (ht : isAg t = false) {ms : List Bool} {cs r : List TV} {x : den t} {us : List Value} {L : List Nat} (hd : decT t cs = some (x, r)) (H : mO w ab ok fr ms cs us L) :
    ∃ us1 us2 L1 L2, us = us1 ++ us2 ∧ L = L1 ++ L2 ∧ mO w ab ok fr ms (encT t x) us1 L1 ∧ mO w ab ok fr (ms.drop (sz t)) r us2 L2 := by
  obtain ⟨c, c', rfl, he, h1⟩ := E8 ht hd
  obtain ⟨u, us', L1, L2, rfl, rfl, g1, g2⟩ := H
  refine ⟨[u], us', L1, L2, rfl, rfl, ?_, ?_⟩
  · rw [he]
    refine ⟨u, [], L1, [], rfl, by simp, ?_, rfl, rfl⟩
    cases hm : ms.headD true with
    | true =>
      rw [hm] at g1
      have := iA.dec (us := [u]) (L := L1) h1 ⟨u, [], L1, [], rfl, by simp, g1, rfl, rfl⟩
      obtain ⟨us1, us2, M1, M2, e1, e2, k1, k2⟩ := this
      obtain ⟨rfl, rfl⟩ := k2
      rw [he] at k1
      obtain ⟨u2, us3, N1, N2, rfl, rfl, k3, k4, rfl⟩ := k1
      subst k4
      simp only [List.append_nil, List.cons.injEq, and_true] at e1 e2
      subst e1 e2
      exact k3
    | false =>
      rw [hm] at g1
      have hd1 : Go.Tw.eF t [c] = some x := by unfold Go.Tw.eF; rw [h1]
      have := (CT.eF hd1 g1.1).oZ
      rw [he] at this
      exact ⟨this, g1.2⟩
  · rw [Hd ht]
    have e : ms.tail = ms.drop 1 := by cases ms <;> simp
    rw [← e]; exact g2
theorem mO.dec : ∀ {t : Ty} {ms : List Bool} {cs r : List TV} {x : den t} {us : List Value} {L : List Nat}, decT t cs = some (x, r) → mO w ab ok fr ms cs us L →
    ∃ us1 us2 L1 L2, us = us1 ++ us2 ∧ L = L1 ++ L2 ∧ mO w ab ok fr ms (encT t x) us1 L1 ∧ mO w ab ok fr (ms.drop (sz t)) r us2 L2
  | .un, ms, cs, r, x, us, L, hd, H => by
    simp only [decT, af, aG] at hd
    obtain ⟨_, rfl⟩ := hd
    exact ⟨[], us, [], L, rfl, rfl, ⟨rfl, rfl⟩, H⟩
  | .pr a b, ms, cs, r, x, us, L, hd, H => by
    simp only [decT, ax, af, aG] at hd
    obtain ⟨⟨x1, r1⟩, hd1, ⟨x2, r2⟩, hd2, rfl, rfl⟩ := hd
    obtain ⟨us1, us2, L1, L2, rfl, rfl, h1, h2⟩ := mO.dec hd1 H
    obtain ⟨us3, us4, L3, L4, rfl, rfl, h3, h4⟩ := mO.dec hd2 h2
    refine ⟨us1 ++ us3, us4, L1 ++ L3, L4, by simp, by simp, h1.app (by rw [dg]; exact h3), ?_⟩
    rw [List.drop_drop] at h4
    exact h4
  | .int k, ms, cs, r, x, us, L, hd, H => mO.leaf rfl hd H
  | .bool, ms, cs, r, x, us, L, hd, H => mO.leaf rfl hd H
  | .str, ms, cs, r, x, us, L, hd, H => mO.leaf rfl hd H
  | .sl t, ms, cs, r, x, us, L, hd, H => mO.leaf rfl hd H
  | .ref t, ms, cs, r, x, us, L, hd, H => mO.leaf rfl hd H
  | .cl g t, ms, cs, r, x, us, L, hd, H => mO.leaf rfl hd H
theorem mO.eF {t : Ty} {ms : List Bool} {cs : List TV} {x : den t} {us : List Value} {L : List Nat} (hd : eF t cs = some x) (H : mO w ab ok fr ms cs us L) : mO w ab ok fr ms (encT t x) us L := by
  unfold Go.Tw.eF at hd
  split at hd
  · rename_i y hy
    simp only [af] at hd; subst hd
    obtain ⟨us1, us2, L1, L2, rfl, rfl, h1, h2⟩ := mO.dec hy H
    obtain ⟨rfl, rfl⟩ := h2
    simpa using h1
  · simp at hd
theorem mO.oF {f f' : Bool} (hf : IF f f' = true) : ∀ {ms : List Bool} {cs : List TV} {us : List Value} {L : List Nat}, mO w ab ok f' ms cs us L → mO w ab ok f ms cs us L
  | _, [], us, L, H => H
  | ms, c :: cs, us, L, H => by
    obtain ⟨u, us', L1, L2, rfl, rfl, h1, h2⟩ := H
    refine ⟨u, us', L1, L2, rfl, rfl, ?_, h2.oF hf⟩
    cases hm : ms.headD true with
    | true => rw [hm] at h1; exact h1.oF hf
    | false => rw [hm] at h1; exact h1
theorem mO.length : ∀ {ms : List Bool} {cs : List TV} {us : List Value} {L : List Nat}, mO w ab ok fr ms cs us L → us.length = cs.length
  | _, [], us, L, H => by rw [H.1]; rfl
  | ms, c :: cs, us, L, H => by obtain ⟨u, us', L1, L2, rfl, rfl, _, h2⟩ := H; simp [mO.length h2]
theorem va : ∀ {ms : List Bool} {cs : List TV} {us : List Value} {L D : List Nat} {h : ay} {n : Nat} {μ : Nat → Mu}, mO w ab ok fr ms cs us L → HR w ab ok μ h n (L ++ D) →
    oD w ab ok μ h n D (fun μ' => VRl w ab ok μ' (opnF fr ms cs h n).2.1 (opnF fr ms cs h n).2.2 (opnF fr ms cs h n).1 us) (opnF fr ms cs h n).2.1 (opnF fr ms cs h n).2.2
  | _, [], us, L, D, h, n, μ, H, HH => by
    obtain ⟨rfl, rfl⟩ := H
    exact ⟨μ, fun _ _ => rfl, by simpa [opnF] using HH, by simp [opnF, VRl], Nat.le_refl _, fun _ _ => rfl⟩
  | ms, c :: cs, us, L, D, h, n, μ, H, HH => by
    obtain ⟨u, us', L1, L2, rfl, rfl, h1, h2⟩ := H
    rw [List.append_assoc] at HH
    cases hm : ms.headD true with
    | true =>
      rw [hm] at h1
      obtain ⟨μ1, b1, b2, b3, b4, b5⟩ := jS (cs := [c]) (us := [u]) (L := L1) (D := L2 ++ D) ⟨u, [], L1, [], rfl, by simp, h1, rfl, rfl⟩ HH
      obtain ⟨μ', a1, a2, a3, a4, a5⟩ := va h2 b2
      simp only [opnF, hm, ag]
      refine ⟨μ', fun r hr => by rw [a1 r (by omega), b1 r hr], a2, ?_, by omega, fun r hr => by rw [a5 r (by omega), b5 r hr]⟩
      have := VRl.append (VRl.mono (Kept.opened a1 a4 a5) _ _ (aD _) b3) a3
      exact this
    | false =>
      rw [hm] at h1
      obtain ⟨h1, rfl⟩ := h1
      obtain ⟨μ', a1, a2, a3, a4, a5⟩ := va h2 HH
      simp only [opnF, hm, al]
      refine ⟨μ', a1, a2, ?_, a4, a5⟩
      have h3 : VRl w ab ok μ' (opnF fr ms.tail cs h n).2.1 (opnF fr ms.tail cs h n).2.2 [c] [u] := h1.zJ
      obtain ⟨u2, us2, e1, e2, e3⟩ := h3
      cases e1
      exact ⟨u, us', rfl, e2, a3⟩
theorem vb : ∀ {ms : List Bool} {cs fs : List TV} {us : List Value} {D : List Nat} {h : ay} {f : Bool} {h' : ay}, HR w ab ok μ h n D → VRl w ab ok μ h n cs us → absF h ms cs = some (fs, f, h') →
    ∃ L, mO w ab ok f ms fs us L ∧ HR w ab ok μ h' n (L ++ D) ∧ ∀ r x, hget h' r = some x → hget h r = some x
  | ms, [], fs, us, D, h, fr, h', H, hv, ha => by
    simp only [VRl] at hv; subst hv
    simp only [absF, af, aG] at ha
    obtain ⟨rfl, rfl, rfl⟩ := ha
    exact ⟨[], ⟨rfl, rfl⟩, by simpa using H, fun _ _ h => h⟩
  | ms, c :: cs, fs, us, D, h, fr, h', H, hv, ha => by
    simp only [VRl] at hv
    obtain ⟨u, us', rfl, h1, h2⟩ := hv
    cases hm : ms.headD true with
    | true =>
      simp only [absF, hm, ag, ax] at ha
      obtain ⟨⟨f1, b1, hh1⟩, ha1, ha⟩ := ha
      obtain ⟨ht, ha⟩ := ah.1 ha
      simp only [ax, af, aG] at ha
      obtain ⟨⟨f2, b2, hh2⟩, ha2, rfl, rfl, rfl⟩ := ha
      obtain ⟨L1, g1, g2⟩ := wi H h1 ha1 ht
      have hsub : ∀ r x, hget hh1 r = some x → hget h r = some x := hZ (cs := [c]) (fs := [f1]) (fr := b1) (by simp [absL, ha1])
      have h2' : VRl w ab ok μ hh1 n cs us' := VRl.mono (Kept.sub hsub) _ _ (aD _) h2
      obtain ⟨L2, k1, k2, k3⟩ := vb g2 h2' ha2
      refine ⟨L1 ++ L2, ⟨u, us', L1, L2, rfl, rfl, by rw [hm]; exact g1.oF (by cases b1 <;> cases b2 <;> rfl), k1.oF (by cases b1 <;> cases b2 <;> rfl)⟩, k2.lq ?_, fun r x hx => hsub r x (k3 r x hx)⟩
      rw [← List.append_assoc]
      exact List.Perm.append_right _ List.perm_append_comm
    | false =>
      simp only [absF, hm, al] at ha
      obtain ⟨hf, ha⟩ := ah.1 ha
      simp only [ax, af, aG] at ha
      obtain ⟨⟨f2, b2, hh2⟩, ha2, rfl, rfl, rfl⟩ := ha
      obtain ⟨L2, k1, k2, k3⟩ := vb H h2 ha2
      refine ⟨L2, ⟨u, us', [], L2, rfl, rfl, by rw [hm]; exact ⟨CT.nB (by simp [flatB, hf]) ⟨u, [], rfl, h1, rfl⟩, rfl⟩, k1⟩, k2, k3⟩
def ShR (w : World) (ab ok : Nat → Prop) (gv : List Value) (tm : Nat → Value) : (S : Shape) → den (Fo S) → List Nat → Prop
  | [], _, L => L = []
  | (t, .v y) :: S, x, L => ∃ us, tm t = fh (isAg y) us ∧ TRl w ab ok y x.1 us [] ∧ ShR w ab ok gv tm S x.2 L
  | (t, .own fr y) :: S, x, L => ∃ us L1 L2, L = L1 ++ L2 ∧ tm t = fh (isAg y) us ∧ iA w ab ok fr (encT y x.1) us L1 ∧ ShR w ab ok gv tm S x.2 L2
  | (t, .box fr y) :: S, x, L => ∃ b o us L1 L2, L = L1 ++ (b :: L2) ∧ tm t = .pointer (some ⟨b, o, none⟩) ∧ ok b ∧ Row w b (o + sz y) ∧ At w b o us ∧ iA w ab ok fr (encT y x.1) us L1 ∧ ShR w ab ok gv tm S x.2 L2
  | (t, .oM y) :: S, x, L => ∃ b o us L2, L = b :: L2 ∧ tm t = .pointer (some ⟨b, o, none⟩) ∧ ok b ∧ Row w b (o + sz y) ∧ At w b o us ∧ TRl w ab ok y x.1 us [] ∧ ShR w ab ok gv tm S x.2 L2
  | (t, .uw ms fr y) :: S, x, L => ∃ b o us L1 L2, L = L1 ++ (b :: L2) ∧ tm t = .pointer (some ⟨b, o, none⟩) ∧ ok b ∧ Row w b (o + sz y) ∧ At w b o us ∧ mO w ab ok fr ms (encT y x.1) us L1 ∧ ShR w ab ok gv tm S x.2 L2
  | (t, .mp k) :: S, x, L => ∃ b L2, L = b :: L2 ∧ tm t = .map (some b) ∧ ok b ∧ tE w b k x.1 ∧ ShR w ab ok gv tm S x.2 L2
  | (t, .arg i) :: S, x, L => tm t = gv.getD i undef ∧ ShR w ab ok gv tm S x.2 L
  | (t, .fb f ss) :: S, x, L => tm t = .func (.func f) #[] (ss.map tm).toArray ∧ ShR w ab ok gv tm S x.2 L
theorem z8 {f : Nat → TV} {g : Nat → Value} (H : ∀ t, VR w ab ok μ h n (f t) (g t)) : ∀ ss : List Nat, VRl w ab ok μ h n (ss.map f) (ss.map g)
  | [] => rfl
  | t :: ss => ⟨g t, ss.map g, rfl, H t, z8 H ss⟩
theorem z9 {s : List (Nat × TV)} {g : Nat → Value} (H : ∀ t, VR w ab ok μ h n (sget s t) (g t)) : ∀ {ss : List Nat} {ca : List TV} {vs : List Value}, capB s h ss ca = true → VRl w ab ok μ h n ca vs → vs = ss.map g
  | [], [], vs, _, hv => hv
  | [], _ :: _, vs, hc, _ => by simp [capB] at hc
  | a :: as, [], vs, hc, _ => by simp [capB] at hc
  | a :: as, c :: cs, vs, hc, hv => by
    obtain ⟨u, us', rfl, h1, h2⟩ := hv
    unfold capB at hc
    split at hc
    · simp at *
    · rename_i a' as' r cs' e1 e2
      injection e1 with e1 e1'
      injection e2 with e2 e2'
      subst e1 e1' e2 e2'
      rw [aA] at hc
      obtain ⟨hc1, hc2⟩ := hc
      rw [List.map_cons, z9 H hc2 h2]
      congr 1
      split at hc1
      · rename_i r' cs2 q1 q2
        have hr := Nat.eq_of_beq_eq_true hc1
        subst hr
        have k := H a
        rw [q1] at k
        simp only [VR, q2] at k h1
        obtain ⟨_, A, w1, w2⟩ := k
        obtain ⟨_, B, w3, w4⟩ := h1
        rw [w1, w3, w2, w4]
      · cases hc1
    · cases hc
theorem my {gs : List TV} {gv : List Value} {tm : Nat → Value} (hu : ∀ t, tm t = tm t) : ∀ {S : Shape} {x : den (Fo S)} {L D : List Nat} {h : ay} {n : Nat} {μ : Nat → Mu}, ShR w ab ok gv tm S x L → HR w ab ok μ h n (L ++ D) → VRl w ab ok μ h n gs gv →
    oD w ab ok μ h n D (fun μ' => (∀ t, VR w ab ok μ' (mkS gs S x h n).2.1 (mkS gs S x h n).2.2 (sget (mkS gs S x h n).1 t) (tm t)) ) (mkS gs S x h n).2.1 (mkS gs S x h n).2.2
  | [], x, L, D, h, n, μ, H, HH, hg => by
    simp only [ShR] at H; subst H
    exact ⟨μ, fun _ _ => rfl, by simpa [mkS] using HH, fun t => by simp [mkS, sget, VR], Nat.le_refl _, fun _ _ => rfl⟩
  | (t, .v y) :: S, x, L, D, h, n, μ, H, HH, hg => by
    obtain ⟨us, e, h1, h2⟩ := H
    obtain ⟨μ', a1, a2, a3, a4, a5⟩ := my hu h2 HH hg
    simp only [mkS]
    refine ⟨μ', a1, a2, fun t' => ?_, a4, a5⟩
    rw [bZ]; split
    · subst_vars; rw [e]; exact qN h1
    · exact a3 t'
  | (t, .own fr y) :: S, x, L, D, h, n, μ, H, HH, hg => by
    obtain ⟨us, L1, L2, rfl, e, h1, h2⟩ := H
    rw [List.append_assoc] at HH
    obtain ⟨μ1, b1, b2, b3, b4, b5⟩ := jS h1 HH
    obtain ⟨μ', a1, a2, a3, a4, a5⟩ := my hu h2 b2 (VRl.mono (Kept.opened b1 b4 b5) _ _ (aD _) hg)
    simp only [mkS, np]
    refine ⟨μ', fun r hr => by rw [a1 r (by omega), b1 r hr], a2, fun t' => ?_, by omega, fun r hr => by rw [a5 r (by omega), b5 r hr]⟩
    rw [bZ]; split
    · subst_vars; rw [e]; exact VR.mono (Kept.opened a1 a4 a5) _ _ (fe _) (nn b3)
    · exact a3 t'
  | (t, .box fr y) :: S, x, L, D, h, n, μ, H, HH, hg => by
    obtain ⟨b, o, us, L1, L2, rfl, e, hob, hrow, hat, h1, h2⟩ := H
    rw [List.append_assoc] at HH
    obtain ⟨μ1, b1, b2, b3, b4, b5⟩ := jS h1 HH
    have hbl : (opnC fr (encT y x.1) h n).1.length = us.length := b3.length
    have hul : us.length = sz y := h1.length.trans (dg (t := y) x.1)
    have kpb : ∀ {m : Mu} {bh : dq}, Kept (fun _ => True) ab ab ok ok w w μ1 (kh μ1 (opnC fr (encT y x.1) h n).2.2 m) (opnC fr (encT y x.1) h n).2.1 (((opnC fr (encT y x.1) h n).2.2, bh) :: (opnC fr (encT y x.1) h n).2.1) (opnC fr (encT y x.1) h n).2.2 ((opnC fr (encT y x.1) h n).2.2 + 1) :=
      Kept.cons (Kept.id (fun _ h => h) (fun _ h => h) (Nat.le_refl _))
    have H1 := HR.attach (L := [b]) (bh := .box (opnC fr (encT y x.1) h n).1) (n' := (opnC fr (encT y x.1) h n).2.2 + 1) (μ' := kh μ1 (opnC fr (encT y x.1) h n).2.2 ⟨b, o, true⟩) (by simpa using b2) (Nat.le_refl _) (Nat.lt_succ_self _) (fun r hr => by simp [kh, show r ≠ (opnC fr (encT y x.1) h n).2.2 by omega]) (by
      simp only [RR, cf]
      exact ⟨trivial, hob, by rw [hbl, hul]; exact hrow, us, VRl.mono kpb _ _ (aD _) b3, hat⟩)
    obtain ⟨μ', a1, a2, a3, a4, a5⟩ := my hu h2 H1 (VRl.mono kpb _ _ (aD _) (VRl.mono (Kept.opened b1 b4 b5) _ _ (aD _) hg))
    simp only [mkS]
    refine ⟨μ', fun r hr => by rw [a1 r (by omega)]; simp only [kh, show r ≠ (opnC fr (encT y x.1) h n).2.2 by omega, ↓reduceIte]; exact b1 r hr, a2, fun t' => ?_, by omega, fun r hr => by rw [a5 r (by omega)]; simp only [hget, show r ≠ (opnC fr (encT y x.1) h n).2.2 by omega, ↓reduceIte]; exact b5 r hr⟩
    rw [bZ]; split
    · subst_vars; rw [e]
      simp only [VR, a5 _ (Nat.lt_succ_self _), hget, ↓reduceIte]
      exact ⟨by omega, _, rfl, by rw [a1 _ (Nat.lt_succ_self _), cf]; simp⟩
    · exact a3 t'
  | (t, .uw ms fr y) :: S, x, L, D, h, n, μ, H, HH, hg => by
    obtain ⟨b, o, us, L1, L2, rfl, e, hob, hrow, hat, h1, h2⟩ := H
    rw [List.append_assoc] at HH
    obtain ⟨μ1, b1, b2, b3, b4, b5⟩ := va h1 HH
    have hbl : (opnF fr ms (encT y x.1) h n).1.length = us.length := b3.length
    have hul : us.length = sz y := h1.length.trans (dg (t := y) x.1)
    have kpb : ∀ {m : Mu} {bh : dq}, Kept (fun _ => True) ab ab ok ok w w μ1 (kh μ1 (opnF fr ms (encT y x.1) h n).2.2 m) (opnF fr ms (encT y x.1) h n).2.1 (((opnF fr ms (encT y x.1) h n).2.2, bh) :: (opnF fr ms (encT y x.1) h n).2.1) (opnF fr ms (encT y x.1) h n).2.2 ((opnF fr ms (encT y x.1) h n).2.2 + 1) :=
      Kept.cons (Kept.id (fun _ h => h) (fun _ h => h) (Nat.le_refl _))
    have H1 := HR.attach (L := [b]) (bh := .box (opnF fr ms (encT y x.1) h n).1) (n' := (opnF fr ms (encT y x.1) h n).2.2 + 1) (μ' := kh μ1 (opnF fr ms (encT y x.1) h n).2.2 ⟨b, o, true⟩) (by simpa using b2) (Nat.le_refl _) (Nat.lt_succ_self _) (fun r hr => by simp [kh, show r ≠ (opnF fr ms (encT y x.1) h n).2.2 by omega]) (by
      simp only [RR, cf]
      exact ⟨trivial, hob, by rw [hbl, hul]; exact hrow, us, VRl.mono kpb _ _ (aD _) b3, hat⟩)
    obtain ⟨μ', a1, a2, a3, a4, a5⟩ := my hu h2 H1 (VRl.mono kpb _ _ (aD _) (VRl.mono (Kept.opened b1 b4 b5) _ _ (aD _) hg))
    simp only [mkS]
    refine ⟨μ', fun r hr => by rw [a1 r (by omega)]; simp only [kh, show r ≠ (opnF fr ms (encT y x.1) h n).2.2 by omega, ↓reduceIte]; exact b1 r hr, a2, fun t' => ?_, by omega, fun r hr => by rw [a5 r (by omega)]; simp only [hget, show r ≠ (opnF fr ms (encT y x.1) h n).2.2 by omega, ↓reduceIte]; exact b5 r hr⟩
    rw [bZ]; split
    · subst_vars; rw [e]
      simp only [VR, a5 _ (Nat.lt_succ_self _), hget, ↓reduceIte]
      exact ⟨by omega, _, rfl, by rw [a1 _ (Nat.lt_succ_self _), cf]; simp⟩
    · exact a3 t'
  | (t, .oM y) :: S, x, L, D, h, n, μ, H, HH, hg => by
    obtain ⟨b, o, us, L2, rfl, e, hob, hrow, hat, h1, h2⟩ := H
    have hul : us.length = sz y := h1.length
    have hel := dg (t := y) x.1
    have kpb : ∀ {m : Mu} {bh : dq}, Kept (fun _ => True) ab ab ok ok w w μ (kh μ n m) h ((n, bh) :: h) n (n + 1) := Kept.cons (Kept.id (fun _ h => h) (fun _ h => h) (Nat.le_refl _))
    have H1 := HR.attach (L := [b]) (bh := .box (encT y x.1)) (n' := n + 1) (μ' := kh μ n ⟨b, o, true⟩) (by simpa using HH) (Nat.le_refl _) (Nat.lt_succ_self _) (fun r hr => by simp [kh, show r ≠ n by omega]) (by
      simp only [RR, cf]
      exact ⟨trivial, hob, by rw [hel]; exact hrow, us, h1.oZ.zJ, hat⟩)
    obtain ⟨μ', a1, a2, a3, a4, a5⟩ := my hu h2 H1 (VRl.mono kpb _ _ (aD _) hg)
    simp only [mkS]
    refine ⟨μ', fun r hr => by rw [a1 r (by omega)]; simp only [kh, show r ≠ n by omega, ↓reduceIte], a2, fun t' => ?_, by omega, fun r hr => by rw [a5 r (by omega)]; simp only [hget, show r ≠ n by omega, ↓reduceIte]⟩
    rw [bZ]; split
    · subst_vars; rw [e]
      simp only [VR, a5 _ (Nat.lt_succ_self _), hget, ↓reduceIte]
      exact ⟨by omega, _, rfl, by rw [a1 _ (Nat.lt_succ_self _), cf]; simp⟩
    · exact a3 t'
  | (t, .mp k) :: S, x, L, D, h, n, μ, H, HH, hg => by
    obtain ⟨b, L2, rfl, e, hob, hm, h2⟩ := H
    have kpb : ∀ {m : Mu} {bh : dq}, Kept (fun _ => True) ab ab ok ok w w μ (kh μ n m) h ((n, bh) :: h) n (n + 1) := Kept.cons (Kept.id (fun _ h => h) (fun _ h => h) (Nat.le_refl _))
    have H1 := HR.attach (L := [b]) (bh := .mp k x.1) (n' := n + 1) (μ' := kh μ n ⟨b, 0, true⟩) (by simpa using HH) (Nat.le_refl _) (Nat.lt_succ_self _) (fun r hr => by simp [kh, show r ≠ n by omega]) (by
      simp only [RR, cf]
      exact ⟨trivial, hob, hm⟩)
    obtain ⟨μ', a1, a2, a3, a4, a5⟩ := my hu h2 H1 (VRl.mono kpb _ _ (aD _) hg)
    simp only [mkS]
    refine ⟨μ', fun r hr => by rw [a1 r (by omega)]; simp only [kh, show r ≠ n by omega, ↓reduceIte], a2, fun t' => ?_, by omega, fun r hr => by rw [a5 r (by omega)]; simp only [hget, show r ≠ n by omega, ↓reduceIte]⟩
    rw [bZ]; split
    · subst_vars; rw [e]
      simp only [VR, a5 _ (Nat.lt_succ_self _), hget, ↓reduceIte]
      exact ⟨by omega, _, rfl, by rw [a1 _ (Nat.lt_succ_self _), cf]⟩
    · exact a3 t'
  | (t, .arg i) :: S, x, L, D, h, n, μ, H, HH, hg => by
    obtain ⟨e, h2⟩ := H
    obtain ⟨μ', a1, a2, a3, a4, a5⟩ := my hu h2 HH hg
    simp only [mkS]
    refine ⟨μ', a1, a2, fun t' => ?_, a4, a5⟩
    rw [bZ]; split
    · subst_vars; rw [e]; exact VR.mono (Kept.opened a1 a4 a5) _ _ (fe _) (hg.get i)
    · exact a3 t'
  | (t, .fb f ss) :: S, x, L, D, h, n, μ, H, HH, hg => by
    obtain ⟨e, h2⟩ := H
    obtain ⟨μ', a1, a2, a3, a4, a5⟩ := my hu h2 HH hg
    simp only [mkS]
    refine ⟨μ', a1, a2, fun t' => ?_, a4, a5⟩
    rw [bZ]; split
    · subst_vars; rw [e]; exact ⟨[], ss.map tm, rfl, rfl, z8 a3 ss⟩
    · exact a3 t'
theorem mz {st : List (Nat × Nat)} {s : List (Nat × TV)} {gv : List Value} {us : Array Value} (hst : ∀ q ∈ st, us.getD q.1 undef = gv.getD q.2 undef) : ∀ {S : Shape} {x : den (Fo S)} {D : List Nat} {h : ay}, exS st s S h = some x → HR w ab ok μ h n D → SR w ab ok μ h n s us →
    ∃ L h', ShR w ab ok gv (fun t => us.getD t undef) S x L ∧ HR w ab ok μ h' n (L ++ D)
  | [], x, D, h, hx, HH, hs => ⟨[], h, by simp [ShR], by simpa using HH⟩
  | (t, .v y) :: S, x, D, h, hx, HH, hs => by
    simp only [exS, ax] at hx
    obtain ⟨cs, hcs, hx⟩ := hx
    obtain ⟨hf, hx⟩ := ah.1 hx
    simp only [ax, af] at hx
    obtain ⟨d, hd, z, hz, hxe⟩ := hx
    cases hxe
    obtain ⟨vs, e, hv⟩ := fS hcs (hs t)
    obtain ⟨L, h', h1, h2⟩ := mz hst hz HH hs
    exact ⟨L, h', ⟨vs, e, CT.eF hd (CT.nB hf hv), h1⟩, h2⟩
  | (t, .own fr y) :: S, x, D, h, hx, HH, hs => by
    simp only [exS, ax] at hx
    obtain ⟨cs, hcs, ⟨fs, f, h1⟩, habs, hx⟩ := hx
    obtain ⟨hf, hx⟩ := ah.1 hx
    simp only [ax, af] at hx
    obtain ⟨d, hd, z, hz, hxe⟩ := hx
    cases hxe
    simp only [aA] at hf
    obtain ⟨vs, e, hv⟩ := fS hcs (hs t)
    obtain ⟨L1, g1, g2⟩ := lU HH hv habs hf.1
    have hs1 : SR w ab ok μ h1 n s us := SR.mono (Kept.sub (hZ habs)) hs
    obtain ⟨L2, h', h3, h4⟩ := mz hst hz g2 hs1
    refine ⟨L1 ++ L2, h', ⟨vs, L1, L2, rfl, e, iA.eF hd (g1.oF hf.2), h3⟩, h4.lq ?_⟩
    rw [← List.append_assoc]
    exact List.Perm.append_right _ List.perm_append_comm
  | (t, .box fr y) :: S, x, D, h, hx, HH, hs => by
    simp only [exS] at hx
    split at hx
    · rename_i r hq
      split at hx
      · rename_i cs hg
        simp only [ax] at hx
        obtain ⟨⟨fs, f, h1⟩, habs, hx⟩ := hx
        obtain ⟨hf, hx⟩ := ah.1 hx
        simp only [ax, af] at hx
        obtain ⟨d, hd, z, hz, hxe⟩ := hx
        cases hxe
        simp only [aA] at hf
        have hv := hs t
        rw [hq] at hv
        simp only [VR, hg] at hv
        obtain ⟨_, A, e1, hA⟩ := hv
        obtain ⟨L0, hR, HH1⟩ := HH.kb hg
        simp only [RR] at hR
        obtain ⟨rfl, q1, q2, vs, q3, q4⟩ := hR
        have hv1 : VRl w ab ok μ (iV h r) n cs vs := VRl.mono (Kept.sub (fun _ _ => dz)) _ _ (aD _) q3
        obtain ⟨L1, g1, g2⟩ := lU HH1 hv1 habs hf.1
        have hs1 : SR w ab ok μ h1 n s us := SR.mono (Kept.sub (hZ habs)) (SR.mono (Kept.sub (fun _ _ => dz)) hs)
        obtain ⟨L2, h', h3, h4⟩ := mz hst hz g2 hs1
        have htd := iA.eF hd (g1.oF hf.2)
        have hcl := htd.length
        rw [dg, ← q3.length] at hcl
        refine ⟨L1 ++ ((μ r).cY :: L2), h', ⟨(μ r).cY, (μ r).off, vs, L1, L2, rfl, by simp only [e1, hA]; simp, q1, by rw [← hcl]; exact q2, q4, htd, h3⟩, h4.lq ?_⟩
        refine List.perm_iff_count.2 (fun x => ?_)
        simp only [List.count_append, List.count_cons, List.count_nil]; omega
      · simp at hx
    · simp at hx
  | (t, .uw ms fr y) :: S, x, D, h, hx, HH, hs => by
    simp only [exS] at hx
    split at hx
    · rename_i r hq
      split at hx
      · rename_i cs hg
        simp only [ax] at hx
        obtain ⟨⟨fs, f, h1⟩, habs, hx⟩ := hx
        obtain ⟨hf, hx⟩ := ah.1 hx
        simp only [ax, af] at hx
        obtain ⟨d, hd, z, hz, hxe⟩ := hx
        cases hxe
        have hv := hs t
        rw [hq] at hv
        simp only [VR, hg] at hv
        obtain ⟨_, A, e1, hA⟩ := hv
        obtain ⟨L0, hR, HH1⟩ := HH.kb hg
        simp only [RR] at hR
        obtain ⟨rfl, q1, q2, vs, q3, q4⟩ := hR
        have hv1 : VRl w ab ok μ (iV h r) n cs vs := VRl.mono (Kept.sub (fun _ _ => dz)) _ _ (aD _) q3
        obtain ⟨L1, g1, g2, gs⟩ := vb HH1 hv1 habs
        have hs1 : SR w ab ok μ h1 n s us := SR.mono (Kept.sub gs) (SR.mono (Kept.sub (fun _ _ => dz)) hs)
        obtain ⟨L2, h', h3, h4⟩ := mz hst hz g2 hs1
        have htd := mO.eF hd (g1.oF hf)
        have hcl := htd.length
        rw [dg, ← q3.length] at hcl
        refine ⟨L1 ++ ((μ r).cY :: L2), h', ⟨(μ r).cY, (μ r).off, vs, L1, L2, rfl, by simp only [e1, hA]; simp, q1, by rw [← hcl]; exact q2, q4, htd, h3⟩, h4.lq ?_⟩
        refine List.perm_iff_count.2 (fun x => ?_)
        simp only [List.count_append, List.count_cons, List.count_nil]; omega
      · simp at hx
    · simp at hx
  | (t, .oM y) :: S, x, D, h, hx, HH, hs => by
    simp only [exS] at hx
    split at hx
    · rename_i r hq
      split at hx
      · rename_i cs hg
        obtain ⟨hf, hx⟩ := ah.1 hx
        simp only [ax, af] at hx
        obtain ⟨d, hd, z, hz, hxe⟩ := hx
        cases hxe
        have hv := hs t
        rw [hq] at hv
        simp only [VR, hg] at hv
        obtain ⟨_, A, e1, hA⟩ := hv
        obtain ⟨L0, hR, HH1⟩ := HH.kb hg
        simp only [RR] at hR
        obtain ⟨rfl, q1, q2, vs, q3, q4⟩ := hR
        have hs1 : SR w ab ok μ (iV h r) n s us := SR.mono (Kept.sub (fun _ _ => dz)) hs
        obtain ⟨L2, h', h3, h4⟩ := mz hst hz HH1 hs1
        have htd := CT.eF hd (CT.nB hf q3)
        have hcl := htd.length
        rw [← q3.length] at hcl
        refine ⟨(μ r).cY :: L2, h', ⟨(μ r).cY, (μ r).off, vs, L2, rfl, by simp only [e1, hA]; simp, q1, by rw [← hcl]; exact q2, q4, htd, h3⟩, h4.lq ?_⟩
        refine List.perm_iff_count.2 (fun x => ?_)
        simp only [List.count_append, List.count_cons, List.count_nil]; omega
      · simp at hx
    · simp at hx
  | (t, .mp k) :: S, x, D, h, hx, HH, hs => by
    simp only [exS] at hx
    split at hx
    · rename_i r hq
      split at hx
      · rename_i k' l hg
        split at hx
        · rename_i hkk
          subst hkk
          simp only [ax, af] at hx
          obtain ⟨z, hz, hxe⟩ := hx
          cases hxe
          have hv := hs t
          rw [hq] at hv
          simp only [VR, hg] at hv
          obtain ⟨_, b, e1, rfl⟩ := hv
          obtain ⟨L0, hR, HH1⟩ := HH.kb hg
          simp only [RR] at hR
          obtain ⟨rfl, q1, q2⟩ := hR
          have hs1 : SR w ab ok μ (iV h r) n s us := SR.mono (Kept.sub (fun _ _ => dz)) hs
          obtain ⟨L2, h', h3, h4⟩ := mz hst hz HH1 hs1
          refine ⟨(μ r).cY :: L2, h', ⟨(μ r).cY, L2, rfl, e1, q1, q2, h3⟩, h4.lq ?_⟩
          refine List.perm_iff_count.2 (fun x => ?_)
          simp only [List.count_append, List.count_cons, List.count_nil]; omega
        · simp at hx
      · simp at hx
    · simp at hx
  | (t, .arg i) :: S, x, D, h, hx, HH, hs => by
    simp only [exS] at hx
    obtain ⟨hf, hx⟩ := ah.1 hx
    simp only [ax, af] at hx
    obtain ⟨z, hz, hxe⟩ := hx
    cases hxe
    obtain ⟨L2, h', h3, h4⟩ := mz hst hz HH hs
    obtain ⟨q, hq, hb⟩ := List.any_eq_true.1 hf
    simp only [aA] at hb
    have e1 := Nat.eq_of_beq_eq_true hb.1
    have e2 := Nat.eq_of_beq_eq_true hb.2
    have := hst q hq
    rw [e1, e2] at this
    exact ⟨L2, h', ⟨this, h3⟩, h4⟩
  | (t, .fb f ss) :: S, x, D, h, hx, HH, hs => by
    simp only [exS] at hx
    obtain ⟨hf, hx⟩ := ah.1 hx
    simp only [ax, af] at hx
    obtain ⟨z, hz, hxe⟩ := hx
    cases hxe
    obtain ⟨L2, h', h3, h4⟩ := mz hst hz HH hs
    refine ⟨L2, h', ⟨?_, h3⟩, h4⟩
    have k := hs t
    unfold fbB at hf
    split at hf
    · rename_i g ca q1
      rw [aA] at hf
      have hg := Nat.eq_of_beq_eq_true hf.1
      subst hg
      rw [q1] at k
      obtain ⟨us', vs, e1, e2, e3⟩ := k
      cases e2
      rw [z9 hs hf.2 e3] at e1
      exact e1
    · cases hf
theorem E9 {g : TV} {t : Ty} {v : Value} {y : den t} {D : List Nat} {h h' : ay} (hx : Fa g t h = some (y, h')) (HH : HR w ab ok μ h n D) (hg : VR w ab ok μ h n g v) :
    ∃ us L, v = fh false us ∧ iA w ab ok false [.fm t [y] 0 0] us L ∧ HR w ab ok μ h' n (L ++ D) ∧ ∀ r x, hget h' r = some x → hget h r = some x := by
  unfold Fa at hx
  split at hx
  · rename_i r
    split at hx
    · rename_i cs hgr
      obtain ⟨hf, hx⟩ := ah.1 hx
      simp only [ax, af, aG] at hx
      obtain ⟨d, hd, rfl, rfl⟩ := hx
      simp only [VR, hgr] at hg
      obtain ⟨_, A, rfl, hA⟩ := hg
      simp only [Nat.add_zero] at hA; subst hA
      obtain ⟨L0, hR, HH1⟩ := HH.kb hgr
      simp only [RR] at hR
      obtain ⟨rfl, q1, q2, vs, q3, q4⟩ := hR
      have htd := CT.eF hd (CT.nB hf q3)
      have hlen : sz t = cs.length := by rw [← htd.length, q3.length]
      have htd2 : TRl w (cI false ab) ok t d vs [] := TRl.fT (fun b hb => ⟨rfl, hb⟩) (by simp) htd
      refine ⟨[.pointer (some ⟨(μ r).cY, (μ r).off, none⟩)], [(μ r).cY], by simp [fh], ?_, HH1, fun r' x hx => dz hx⟩
      exact ⟨_, [], [(μ r).cY], [], rfl, by simp, ⟨rfl, rfl, d, _, _, vs, rfl, rfl, rfl, q1, by rw [hlen]; exact q2, htd2, q4⟩, rfl, rfl⟩
    · simp at hx
  · simp at hx
theorem Kk {g : TV} {t : Ty} {v : Value} {y : den t} {D : List Nat} {h h' : ay} (hx : AT g t h = some (y, h')) (HH : HR w ab ok μ h n D) (hg : VR w ab ok μ h n g v) :
    ∃ us L, v = fh (isAg t) us ∧ iA w ab ok (Fl t) (encT t y) us L ∧ HR w ab ok μ h' n (L ++ D) ∧ ∀ r x, hget h' r = some x → hget h r = some x := by
  cases t with
  | ref t => exact E9 hx HH hg
  | _ => exact wj hx HH hg
theorem yD : ∀ {gs : List TV} {gt : List Ty} {gv : List Value} {y : den (bg gt)} {D : List Nat} {h h' : ay}, exG gs gt h = some (y, h') → HR w ab ok μ h n D → VRl w ab ok μ h n gs gv →
    ∃ L, EH w ab ok gt y gv L ∧ HR w ab ok μ h' n (L ++ D) ∧ ∀ r x, hget h' r = some x → hget h r = some x
  | [], [], gv, y, D, h, h', hx, HH, hg => by
    simp only [exG, af, aG] at hx
    simp only [VRl] at hg
    obtain ⟨_, rfl⟩ := hx
    exact ⟨[], ⟨hg, rfl⟩, by simpa using HH, fun _ _ h => h⟩
  | g :: gs, t :: gt, gv, y, D, h, h', hx, HH, hg => by
    simp only [exG, ax, af] at hx
    obtain ⟨⟨d, h1⟩, hd, z, hz, hye⟩ := hx
    cases hye
    simp only [VRl] at hg
    obtain ⟨v, gv', rfl, hv0, hg'⟩ := hg
    obtain ⟨vs, L1, rfl, g1, g2, g3⟩ := Kk hd HH hv0
    have hg1 : VRl w ab ok μ h1 n gs gv' := VRl.mono (Kept.sub g3) _ _ (aD _) hg'
    obtain ⟨L2, h3, h4, h5⟩ := yD hz g2 hg1
    refine ⟨L1 ++ L2, ⟨vs, gv', L1, L2, rfl, rfl, g1, h3⟩, h4.lq ?_, fun r x hx => g3 r x (h5 r x hx)⟩
    rw [← List.append_assoc]
    exact List.Perm.append_right _ List.perm_append_comm
  | [], _ :: _, _, _, _, _, _, hx, _, _ => by simp [exG] at hx
  | _ :: _, [], _, _, _, _, _, hx, _, _ => by simp [exG] at hx
mutual
theorem Kl {μ' : Nat → Mu} {h' : ay} {n' : Nat} : ∀ (x y : TV) (v : Value), eqG x y = true → VR w ab ok μ h n x v → VR w ab ok μ' h' n' y v → VR w ab ok μ' h' n' x v
  | .p u, .p u', v, _, h1, _ => by simpa [VR] using h1
  | .full r, .full r', v, e, _, h2 => by simp only [eqG] at e; have := Nat.eq_of_beq_eq_true e; subst this; exact h2
  | .agg xs, .agg ys, v, e, h1, h2 => by
    simp only [eqG] at e
    simp only [VR] at h1 h2 ⊢
    obtain ⟨us, rfl, h1⟩ := h1
    obtain ⟨us', e', h2⟩ := h2
    simp only [Value.agg.injEq] at e'
    have : us' = us := by simpa using e'.symm
    subst this
    exact ⟨us', rfl, vc xs ys us' e h1 h2⟩
  | .p _, .full _, _, e, _, _ => by simp [eqG] at e
  | .p _, .agg _, _, e, _, _ => by simp [eqG] at e
  | .full _, .p _, _, e, _, _ => by simp [eqG] at e
  | .full _, .agg _, _, e, _, _ => by simp [eqG] at e
  | .agg _, .p _, _, e, _, _ => by simp [eqG] at e
  | .agg _, .full _, _, e, _, _ => by simp [eqG] at e
  | .p _, .tr _ _, _, e, _, _ => by simp [eqG] at e
  | .p _, .sub _ _ _, _, e, _, _ => by simp [eqG] at e
  | .p _, .mJ _ _ _, _, e, _, _ => by simp [eqG] at e
  | .p _, .ptr _ _ _, _, e, _, _ => by simp [eqG] at e
  | .p _, .fm _ _ _ _, _, e, _, _ => by simp [eqG] at e
  | .p _, .mF _, _, e, _, _ => by simp [eqG] at e
  | .p _, .oV _ _, _, e, _, _ => by simp [eqG] at e
  | .p _, .fn _ _ _, _, e, _, _ => by simp [eqG] at e
  | .p _, .mp _, _, e, _, _ => by simp [eqG] at e
  | .p _, .undef, _, e, _, _ => by simp [eqG] at e
  | .full _, .tr _ _, _, e, _, _ => by simp [eqG] at e
  | .full _, .sub _ _ _, _, e, _, _ => by simp [eqG] at e
  | .full _, .mJ _ _ _, _, e, _, _ => by simp [eqG] at e
  | .full _, .ptr _ _ _, _, e, _, _ => by simp [eqG] at e
  | .full _, .fm _ _ _ _, _, e, _, _ => by simp [eqG] at e
  | .full _, .mF _, _, e, _, _ => by simp [eqG] at e
  | .full _, .oV _ _, _, e, _, _ => by simp [eqG] at e
  | .full _, .fn _ _ _, _, e, _, _ => by simp [eqG] at e
  | .full _, .mp _, _, e, _, _ => by simp [eqG] at e
  | .full _, .undef, _, e, _, _ => by simp [eqG] at e
  | .agg _, .tr _ _, _, e, _, _ => by simp [eqG] at e
  | .agg _, .sub _ _ _, _, e, _, _ => by simp [eqG] at e
  | .agg _, .mJ _ _ _, _, e, _, _ => by simp [eqG] at e
  | .agg _, .ptr _ _ _, _, e, _, _ => by simp [eqG] at e
  | .agg _, .fm _ _ _ _, _, e, _, _ => by simp [eqG] at e
  | .agg _, .mF _, _, e, _, _ => by simp [eqG] at e
  | .agg _, .oV _ _, _, e, _, _ => by simp [eqG] at e
  | .agg _, .fn _ _ _, _, e, _, _ => by simp [eqG] at e
  | .agg _, .mp _, _, e, _, _ => by simp [eqG] at e
  | .agg _, .undef, _, e, _, _ => by simp [eqG] at e
  | .tr _ _, _, _, e, _, _ => by simp [eqG] at e
  | .sub _ _ _, _, _, e, _, _ => by simp [eqG] at e
  | .mJ _ _ _, _, _, e, _, _ => by simp [eqG] at e
  | .ptr r i off, y, v, e, _, h2 => by
    cases y with
    | ptr r' i' off' =>
      cases i <;> cases off <;> cases i' <;> cases off' <;> simp only [eqG] at e <;> first
        | (have := Nat.eq_of_beq_eq_true e; subst this; exact h2)
        | (cases e)
    | _ => cases i <;> cases off <;> simp [eqG] at e
  | .fm _ _ _ _, _, _, e, _, _ => by simp [eqG] at e
  | .mF _, _, _, e, _, _ => by simp [eqG] at e
  | .oV _ _, _, _, e, _, _ => by simp [eqG] at e
  | .fn _ _ _, _, _, e, _, _ => by simp [eqG] at e
  | .mp _, _, _, e, _, _ => by simp [eqG] at e
  | .undef, _, _, e, _, _ => by simp [eqG] at e
theorem vc {μ' : Nat → Mu} {h' : ay} {n' : Nat} : ∀ (xs ys : List TV) (us : List Value), eqGL xs ys = true → VRl w ab ok μ h n xs us → VRl w ab ok μ' h' n' ys us → VRl w ab ok μ' h' n' xs us
  | [], [], us, _, _, h2 => h2
  | x :: xs, y :: ys, us, e, h1, h2 => by
    simp only [eqGL, aA] at e
    simp only [VRl] at h1 h2 ⊢
    obtain ⟨u, us', rfl, h3, h4⟩ := h1
    obtain ⟨u2, us2, e2, h5, h6⟩ := h2
    simp only [List.cons.injEq] at e2
    obtain ⟨rfl, rfl⟩ := e2
    exact ⟨u, us', rfl, Kl x y u e.1 h3 h5, vc xs ys us' e.2 h4 h6⟩
  | [], _ :: _, _, e, _, _ => by simp [eqGL] at e
  | _ :: _, [], _, e, _, _ => by simp [eqGL] at e
end
end
theorem Fb {w : World} {ab ok : Nat → Prop} {μ : Nat → Mu} {h : ay} {n : Nat} : ∀ kv : List Value, VRl w ab ok μ h n (kv.map fun _ => TV.undef) kv
  | [] => rfl
  | v :: kv => ⟨v, kv, rfl, by simp [VR], Fb kv⟩
theorem He (gs : List TV) (kv : List Value) (i : Nat) : (gs ++ kv.map fun _ => TV.undef).getD i .undef = gs.getD i .undef := by
  simp only [List.getD, List.getElem?_append]
  split
  · rfl
  · rename_i h
    rw [List.getElem?_eq_none (l := gs) (by omega), List.getElem?_map]
    cases kv[i - gs.length]? <;> rfl
theorem mA (gs : List TV) (kv : List Value) : ∀ (S : Shape) (x : den (Fo S)) (h : ay) (n : Nat), mkS (gs ++ kv.map fun _ => .undef) S x h n = mkS gs S x h n
  | [], _, h, n => rfl
  | (t, .v y) :: S, x, h, n => congrArg (fun q : List (Nat × TV) × ay × Nat => ((t, yu y x.1) :: q.1, q.2)) (mA gs kv S x.2 _ _)
  | (t, .own fr y) :: S, x, h, n => congrArg (fun q : List (Nat × TV) × ay × Nat => ((t, (np fr y x.1 h n).1) :: q.1, q.2)) (mA gs kv S x.2 _ _)
  | (t, .box fr y) :: S, x, h, n => congrArg (fun q : List (Nat × TV) × ay × Nat => ((t, TV.ptr (opnC fr (encT y x.1) h n).2.2 0 0) :: q.1, q.2)) (mA gs kv S x.2 _ _)
  | (t, .uw ms fr y) :: S, x, h, n => congrArg (fun q : List (Nat × TV) × ay × Nat => ((t, TV.ptr (opnF fr ms (encT y x.1) h n).2.2 0 0) :: q.1, q.2)) (mA gs kv S x.2 _ _)
  | (t, .oM y) :: S, x, h, n => congrArg (fun q : List (Nat × TV) × ay × Nat => ((t, TV.ptr n 0 0) :: q.1, q.2)) (mA gs kv S x.2 _ _)
  | (t, .mp k) :: S, x, h, n => congrArg (fun q : List (Nat × TV) × ay × Nat => ((t, TV.mp n) :: q.1, q.2)) (mA gs kv S x.2 _ _)
  | (t, .arg i) :: S, x, h, n => by
    have e := congrArg (fun q : List (Nat × TV) × ay × Nat => ((t, gs.getD i .undef) :: q.1, q.2)) (mA gs kv S x.2 h n)
    have e2 := He gs kv i
    show ((t, (gs ++ kv.map fun _ => TV.undef).getD i .undef) :: (mkS (gs ++ kv.map fun _ => .undef) S x.2 h n).1, (mkS (gs ++ kv.map fun _ => .undef) S x.2 h n).2) = _
    rw [e2]
    exact e
  | (t, .fb f ss) :: S, x, h, n => congrArg (fun q : List (Nat × TV) × ay × Nat => ((t, TV.fn (.func f) [] (ss.map (sget q.1))) :: q.1, q.2)) (mA gs kv S x.2 _ _)
theorem dH.shape {c : Cx} {σ : St} {a : Act} {w : World} {gt : List Ty} {S : Shape} {y : den (bg gt)} {x : den (Fo S)} (hs : dH c σ a w) (hx : IJ c.m.st c.gs gt S σ = some (y, x)) : dH c (gO c.gs gt S y x) a w := by
  obtain ⟨h1, h2, h3, μ, hH, hl, hg⟩ := hs
  simp only [IJ, ax] at hx
  obtain ⟨⟨y', h'⟩, hy, hx⟩ := hx
  obtain ⟨hq, hx⟩ := ah.1 hx
  simp only [ax, af, aG] at hx
  obtain ⟨x', hx', rfl, rfl⟩ := hx
  simp only at hq hx'
  obtain ⟨L1, g1, g2, g3⟩ := yD hy hH hg
  have hs1 : SR w c.ab c.ok μ h' σ.n σ.s a.tmps := SR.mono (Kept.sub g3) hl
  obtain ⟨L2, h'', g4, g5⟩ := mz (gv := c.gv ++ c.kv) h3.2 hx' g2 hs1
  have H0 : HR w c.ab c.ok (fun _ => ⟨0, 0, false⟩) [] 0 (L1 ++ L2) := by
    obtain ⟨own, _, q1, q2⟩ := g5
    refine ⟨fun _ => none, fun r x hx => by simp [hget] at hx, ?_, fun _ _ => rfl⟩
    refine (List.Perm.nodup_iff ?_).1 q1
    simpa using List.perm_append_comm
  obtain ⟨μ1, b1, b2, b3, b4, b5⟩ := zK (D := L2) g1 H0
  have hgs := vc c.gs _ c.gv hq hg b3
  obtain ⟨μ2, e1, e2, e3, e4, e5⟩ := my (gs := c.gs ++ c.kv.map fun _ => .undef) (D := []) (tm := fun t => a.tmps.getD t undef) (fun _ => rfl) g4 (by simpa using b2) (VRl.append hgs (Fb c.kv))
  rw [mA] at e2 e3 e4 e5
  exact ⟨h1, h2, h3, μ2, e2, e3, VRl.mono (Kept.opened e1 e4 e5) _ _ (aD _) hgs⟩
end Go.Tw
namespace Go.Tw
open Go Go.RowKit
variable [k7]
def eqE : Exit → Exit → Bool
  | .exit i, .exit j => Nat.beq i j
  | .ret, .ret => true
  | _, _ => false
theorem Fc {e e' : Exit} (h : eqE e e' = true) : e = e' := by
  cases e <;> cases e' <;> simp_all [eqE]
abbrev GD (gt : List Ty) (S : Shape) : Type := den (bg gt) × den (Fo S)
def sv (gt : List Ty) : (Exit × Shape) → List (Exit × Shape) → Type
  | x, [] => GD gt x.2
  | x, y :: r => GD gt x.2 ⊕ sv gt y r
def outs (st : List (Nat × Nat)) (gs : List TV) (gt : List Ty) : (x : Exit × Shape) → (r : List (Exit × Shape)) → Exit → St → Option (sv gt x r)
  | x, [], e, σ => bif eqE e x.1 then IJ st gs gt x.2 σ else none
  | x, y :: r, e, σ => bif eqE e x.1 then (IJ st gs gt x.2 σ).map .inl else (outs st gs gt y r e σ).map .inr
def Km (gs : List TV) (gt : List Ty) {ρ : Type} (K : Exit → St → Option ρ) : (x : Exit × Shape) → (r : List (Exit × Shape)) → sv gt x r → Option ρ
  | x, [], v => K x.1 (gO gs gt x.2 v.1 v.2)
  | x, y :: r, v => Sum.elim (fun v => K x.1 (gO gs gt x.2 v.1 v.2)) (fun v => Km gs gt K y r v) v
def iter {V O : Type} (step : (V → Option O) → V → Option O) : Nat → V → Option O
  | 0, _ => none
  | k + 1, v => step (iter step k) v
def Kb (st : List (Nat × Nat)) (gs : List TV) (gt : List Ty) (S : Shape) (x : Exit × Shape) (r : List (Exit × Shape)) (rec : GD gt S → Option (sv gt x r)) (e : Exit) (σ : St) : Option (sv gt x r) :=
  match e with
  | .normal => (IJ st gs gt S σ).bind rec
  | e => outs st gs gt x r e σ
def eH (st : List (Nat × Nat)) (gs : List TV) (gt : List Ty) (S : Shape) (x : Exit × Shape) (r : List (Exit × Shape)) (f : GD gt S → Option (sv gt x r)) : LO :=
  fun ρ σ K => (IJ st gs gt S σ).bind fun v => (f v).bind fun o => Km gs gt K x r o
theorem Aa {c : Cx} {gt : List Ty} {ρ : Type} {K : Exit → St → Option ρ} {res : ρ} {a : Act} {w : World} : ∀ {x : Exit × Shape} {r : List (Exit × Shape)} {e : Exit} {σ : St} {o : sv gt x r}, outs c.m.st c.gs gt x r e σ = some o → Km c.gs gt K x r o = some res → dH c σ a w → ∃ σ', K e σ' = some res ∧ dH c σ' a w
  | x, [], e, σ, o, h1, h2, hs => by
    simp only [outs] at h1
    obtain ⟨he, h3⟩ := ah.1 h1
    have := Fc he
    exact ⟨_, by rw [this]; exact h2, hs.shape (y := o.1) (x := o.2) h3⟩
  | x, y :: r, e, σ, o, h1, h2, hs => by
    simp only [outs] at h1
    cases he : eqE e x.1 with
    | true =>
      rw [he] at h1
      have h3 : (IJ c.m.st c.gs gt x.2 σ).map Sum.inl = some o := h1
      have := Fc he
      cases hv : IJ c.m.st c.gs gt x.2 σ with
      | none => rw [hv] at h3; cases h3
      | some v =>
        rw [hv] at h3
        cases h3
        exact ⟨_, by rw [this]; exact h2, hs.shape (y := v.1) (x := v.2) hv⟩
    | false =>
      rw [he] at h1
      have h3 : (outs c.m.st c.gs gt y r e σ).map Sum.inr = some o := h1
      cases hv : outs c.m.st c.gs gt y r e σ with
      | none => rw [hv] at h3; cases h3
      | some v =>
        rw [hv] at h3
        cases h3
        exact Aa hv h2 hs
theorem Hf {c : Cx} {F : List bj} {N : A8} {L : List (Nat × LO)} {body : Code} (hN : qk c.P N) (hF : ∀ cn ∈ F, an c.P cn) (hL : ∀ b ∈ loopsIn body, ∀ lo, qF L (zW b) = some lo → ch c lo b) {gt : List Ty} {S : Shape} {x : Exit × Shape} {r : List (Exit × Shape)}
    {step : (GD gt S → Option (sv gt x r)) → GD gt S → Option (sv gt x r)} (hstep : ∀ rec v, evC c.P c.m F N L body (Kb c.m.st c.gs gt S x r rec) (gO c.gs gt S v.1 v.2) = step rec v) (k : Nat) :
    ch c (eH c.m.st c.gs gt S x r (iter step k)) body := by
  intro ρ σ K res hlo a w hs
  simp only [eH, ax] at hlo
  obtain ⟨v, hv, o, ho, hd⟩ := hlo
  refine wp_loop_ghost (fun k a w => ∃ v, iter step k v = some o ∧ dH c (gO c.gs gt S v.1 v.2) a w) k ⟨v, ho, hs.shape (y := v.1) (x := v.2) hv⟩ ?_
  rintro k a w ⟨v, hit, hs⟩
  cases k with
  | zero => simp [iter] at hit
  | succ k =>
    simp only [iter] at hit
    rw [← hstep] at hit
    refine wp_mono (lD hN hF body _ _ hL hit a w hs) ?_
    rintro e a' w' ⟨σ', q, s⟩
    cases e with
    | normal =>
      simp only [Kb, ax] at q
      obtain ⟨v', h1, h2⟩ := q
      exact ⟨k, Nat.lt_succ_self _, v', h2, s.shape (y := v'.1) (x := v'.2) h1⟩
    | _ => exact Aa (by simpa only [Kb] using q) hd s
def mutV : List (Ty × Bool) → List Value → List Value
  | [], _ => []
  | (_, false) :: ps, vs => mutV ps vs.tail
  | (_, true) :: ps, vs => vs.headD undef :: mutV ps vs.tail
section
variable {w w' : World} {ab ok : Nat → Prop} {μ : Nat → Mu} {h : ay} {n : Nat} {fr : Bool}
theorem mo.length : ∀ {ps : List (Ty × Bool)} {x : den (bg (ps.map (·.1)))} {vs : List Value} {L : List Nat}, mo w ab ok ps x vs L → vs.length = ps.length
  | [], _, _, _, H => by rw [H.1]; rfl
  | p :: ps, x, vs, L, H => by obtain ⟨us, vs', L1, L2, rfl, rfl, _, _, h⟩ := H; simp [mo.length h]
theorem qQ {tm : Nat → Value} : ∀ {ps : List (Ty × Bool)} {x : den (bg (ps.map (·.1)))} {vs : List Value} {L D : List Nat} {h : ay} {n : Nat} {μ : Nat → Mu} (i : Nat), mo w ab ok ps x vs L → (∀ b, ab b → True) → HR w ab ok μ h n (L ++ D) → (∀ (j : Nat) v, vs[j]? = some v → tm (i + j) = v) →
    oD w ab ok μ h n D (fun μ' => (∀ t, VR w ab ok μ' (parS ps i x h n).2.1 (parS ps i x h n).2.2 (sget (parS ps i x h n).1 t) (tm t)) ∧ VRl w ab ok μ' (parS ps i x h n).2.1 (parS ps i x h n).2.2 (parG ps x h n) (mutV ps vs)) (parS ps i x h n).2.1 (parS ps i x h n).2.2
  | [], x, vs, L, D, h, n, μ, i, H, _, HH, ht => by
    obtain ⟨rfl, rfl⟩ := H
    exact ⟨μ, fun _ _ => rfl, by simpa [parS] using HH, ⟨fun t => by simp [parS, sget, VR], by simp [parG, mutV, VRl]⟩, Nat.le_refl _, fun _ _ => rfl⟩
  | (t, false) :: ps, x, vs, L, D, h, n, μ, i, H, hi, HH, ht => by
    obtain ⟨us, vs', L1, L2, rfl, rfl, h1a, _, h2⟩ := H
    obtain ⟨h1, rfl⟩ := h1a rfl
    obtain ⟨μ', a1, a2, ⟨a3, a6⟩, a4, a5⟩ := qQ (i + 1) h2 hi (by simpa using HH) (fun j v hj => by rw [show i + 1 + j = i + (j + 1) by omega]; exact ht (j + 1) v (by simpa using hj))
    simp only [parS, parG, mutV]
    refine ⟨μ', a1, a2, ⟨fun t' => ?_, by simpa using a6⟩, a4, a5⟩
    rw [bZ]; split
    · rename_i e; rw [e, show i = i + 0 by omega, ht 0 _ rfl]; exact qN h1
    · exact a3 t'
  | (t, true) :: ps, x, vs, L, D, h, n, μ, i, H, hi, HH, ht => by
    obtain ⟨us, vs', L1, L2, rfl, rfl, _, h1a, h2⟩ := H
    have h1 : iA w ab ok (Fl t) (encT t x.1) us L1 := h1a rfl
    rw [List.append_assoc] at HH
    obtain ⟨μ1, b1, b2, b3, b4, b5⟩ := jS h1 HH
    obtain ⟨μ', a1, a2, ⟨a3, a6⟩, a4, a5⟩ := qQ (i + 1) h2 hi b2 (fun j v hj => by rw [show i + 1 + j = i + (j + 1) by omega]; exact ht (j + 1) v (by simpa using hj))
    simp only [parS, parG, mutV, np]
    have hV := VR.mono (Kept.opened (ab := ab) (ok := ok) (w := w) a1 a4 a5) _ _ (fe _) (nn (g := isAg t) b3)
    refine ⟨μ', fun r hr => by rw [a1 r (by omega), b1 r hr], a2, ⟨fun t' => ?_, ?_⟩, by omega, fun r hr => by rw [a5 r (by omega), b5 r hr]⟩
    · rw [bZ]; split
      · rename_i e; rw [e, show i = i + 0 by omega, ht 0 _ rfl]; exact hV
      · exact a3 t'
    · simp only [VRl]
      exact ⟨_, _, rfl, by simpa using hV, by simpa using a6⟩
theorem Fe (K : Nat → Prop) : ∀ {t : Ty} {x : den t} {h : ay} {n : Nat}, innOkl K (opnC fr (encT t x) h n).1 := by
  have : ∀ (cs : List TV) (h : ay) (n : Nat), innOkl K cs → innOkl K (opnC fr cs h n).1 := by
    intro cs
    induction cs with
    | nil => intro h n _; trivial
    | cons c cs ih =>
      intro h n H
      cases c <;> simp only [opnC] <;> exact ⟨by first | trivial | exact H.1, ih _ _ H.2⟩
  have enc : ∀ {t : Ty} {x : den t}, innOkl K (encT t x) := by
    intro t
    induction t with
    | pr a b iha ihb =>
      intro x
      have app : ∀ xs ys : List TV, innOkl K xs → innOkl K ys → innOkl K (xs ++ ys) := by
        intro xs
        induction xs with
        | nil => intro ys _ h; exact h
        | cons z xs ih => intro ys h1 h2; exact ⟨h1.1, ih ys h1.2 h2⟩
      exact app _ _ iha ihb
    | un => intro x; trivial
    | cl g t ih => intro x; exact ⟨⟨trivial, ih⟩, trivial⟩
    | _ => intro x; exact ⟨trivial, trivial⟩
  intro t x h n
  exact this _ _ _ enc
theorem Ff {K : Nat → Prop} {g : Bool} {cs : List TV} (H : innOkl K cs) : innOk K (pack g cs) := by
  cases g with
  | true => exact H
  | false => cases cs with
    | nil => trivial
    | cons c cs => exact H.1
theorem sw (K : Nat → Prop) : ∀ {ps : List (Ty × Bool)} {x : den (bg (ps.map (·.1)))} {h : ay} {n : Nat}, innOkl K (parG ps x h n)
  | [], _, _, _ => trivial
  | (t, false) :: ps, x, h, n => sw K (ps := ps)
  | (t, true) :: ps, x, h, n => by
    simp only [parG, np]
    exact ⟨Ff (Fe K), sw K (ps := ps)⟩
theorem qR : ∀ {ts : List Ty} {vs : List TV} {us : List Value} {y : den (bg ts)} {D : List Nat} {h h' : ay}, clsL fr ts vs h = some (y, h') → HR w ab ok μ h n D → VRl w ab ok μ h n vs us →
    ∃ L, kX w ab ok fr ts y us L ∧ HR w ab ok μ h' n (L ++ D) ∧ ∀ r x, hget h' r = some x → hget h r = some x
  | [], [], us, y, D, h, h', hx, HH, hg => by
    simp only [clsL, af, aG] at hx
    simp only [VRl] at hg
    obtain ⟨_, rfl⟩ := hx
    exact ⟨[], ⟨hg, rfl⟩, by simpa using HH, fun _ _ h => h⟩
  | t :: ts, v :: vs, us, y, D, h, h', hx, HH, hg => by
    simp only [clsL, ax] at hx
    obtain ⟨cs, hcs, ⟨fs, f, h1⟩, habs, hx⟩ := hx
    obtain ⟨hf, hx⟩ := ah.1 hx
    simp only [ax, af] at hx
    obtain ⟨d, hd, z, hz, hye⟩ := hx
    cases hye
    simp only [aA] at hf
    simp only [VRl] at hg
    obtain ⟨u, us', rfl, hv0, hg'⟩ := hg
    obtain ⟨xs, rfl, hv⟩ := fS hcs hv0
    obtain ⟨L1, g1, g2⟩ := lU HH hv habs hf.1
    have hg1 : VRl w ab ok μ h1 n vs us' := VRl.mono (Kept.sub (hZ habs)) _ _ (aD _) hg'
    obtain ⟨L2, h3, h4, h5⟩ := qR hz g2 hg1
    refine ⟨L1 ++ L2, ⟨xs, us', L1, L2, rfl, rfl, iA.eF hd (g1.oF hf.2), h3⟩, h4.lq ?_, fun r x hx => hZ habs r x (h5 r x hx)⟩
    rw [← List.append_assoc]
    exact List.Perm.append_right _ List.perm_append_comm
  | [], _ :: _, _, _, _, _, _, hx, _, _ => by simp [clsL] at hx
  | _ :: _, [], _, _, _, _, _, hx, _, _ => by simp [clsL] at hx
theorem vd : ∀ {ts : List Ty} {vs : List TV} {us : List Value} {y : den (bg ts)}, clsB ts vs = some y → VRl w ab ok μ h n vs us → ResB w ab ok ts y us
  | [], [], us, y, hx, hg => by simp only [VRl] at hg; exact hg
  | t :: ts, v :: vs, us, y, hx, hg => by
    simp only [clsB, ax] at hx
    obtain ⟨cs, hcs, hx⟩ := hx
    obtain ⟨hf, hx⟩ := ah.1 hx
    simp only [ax, af] at hx
    obtain ⟨d, hd, z, hz, hye⟩ := hx
    cases hye
    simp only [VRl] at hg
    obtain ⟨u, us', rfl, hv0, hg'⟩ := hg
    obtain ⟨xs, rfl, hv⟩ := fS hcs hv0
    exact ⟨xs, us', rfl, CT.eF hd (CT.nB hf hv), vd hz hg'⟩
  | [], _ :: _, _, _, hx, _ => by simp [clsB] at hx
  | _ :: _, [], _, _, hx, _ => by simp [clsB] at hx
theorem qS : ∀ {bs : List Bool} {ts : List Ty} {vs : List TV} {us : List Value} {y : den (bg ts)} {D : List Nat} {h h' : ay}, clsX bs ts vs h = some (y, h') → HR w ab ok μ h n D → VRl w ab ok μ h n vs us →
    ∃ L, oC w ab ok bs ts y us L ∧ HR w ab ok μ h' n (L ++ D) ∧ ∀ r x, hget h' r = some x → hget h r = some x
  | bs, [], [], us, y, D, h, h', hx, HH, hg => by
    simp only [clsX, af, aG] at hx
    simp only [VRl] at hg
    obtain ⟨_, rfl⟩ := hx
    exact ⟨[], ⟨hg, rfl⟩, by simpa using HH, fun _ _ h => h⟩
  | bs, t :: ts, v :: vs, us, y, D, h, h', hx, HH, hg => by
    simp only [clsX, ax] at hx
    obtain ⟨cs, hcs, hx⟩ := hx
    simp only [VRl] at hg
    obtain ⟨u, us', rfl, hv0, hg'⟩ := hg
    obtain ⟨xs, rfl, hv⟩ := fS hcs hv0
    cases he : bs.headD true with
    | true =>
      rw [he] at hx
      simp only [ax] at hx
      obtain ⟨⟨fs, f, h1⟩, habs, hx⟩ := hx
      obtain ⟨hf, hx⟩ := ah.1 hx
      simp only [ax, af] at hx
      obtain ⟨d, hd, z, hz, hye⟩ := hx
      cases hye
      simp only [aA] at hf
      obtain ⟨L1, g1, g2⟩ := lU HH hv habs hf.1
      have hg1 : VRl w ab ok μ h1 n vs us' := VRl.mono (Kept.sub (hZ habs)) _ _ (aD _) hg'
      obtain ⟨L2, h3, h4, h5⟩ := qS hz g2 hg1
      refine ⟨L1 ++ L2, ⟨xs, us', L1, L2, rfl, rfl, ?_, h3⟩, h4.lq ?_, fun r x hx => hZ habs r x (h5 r x hx)⟩
      · rw [he]; exact iA.eF hd (g1.oF (by rw [show f = true from hf.2]; rfl))
      · rw [← List.append_assoc]
        exact List.Perm.append_right _ List.perm_append_comm
    | false =>
      rw [he] at hx
      obtain ⟨hf, hx⟩ := ah.1 hx
      simp only [ax, af] at hx
      obtain ⟨d, hd, z, hz, hye⟩ := hx
      cases hye
      obtain ⟨L2, h3, h4, h5⟩ := qS hz HH hg'
      refine ⟨L2, ⟨xs, us', [], L2, rfl, rfl, ?_, h3⟩, h4, h5⟩
      rw [he]; exact ⟨CT.eF hd (CT.nB hf hv), rfl⟩
  | _, [], _ :: _, _, _, _, _, _, hx, _, _ => by simp [clsX] at hx
  | _, _ :: _, [], _, _, _, _, _, hx, _, _ => by simp [clsX] at hx
theorem ve : ∀ {ps : List (Ty × Bool)} {vs : List Value} {y : den (bg (qE ps))} {L : List Nat}, vs.length = ps.length → EH w ab ok (qE ps) y (mutV ps vs) L → MutR w ab ok ps y vs L
  | [], vs, y, L, _, H => H.2
  | (t, false) :: ps, vs, y, L, hl, H => by
    simp only [MutR]
    have H' : EH w ab ok (qE ps) y (mutV ps vs.tail) L := H
    exact ve (ps := ps) (by rw [List.length_tail, hl]; rfl) H'
  | (t, true) :: ps, vs, y, L, hl, H => by
    simp only [mutV] at H
    obtain ⟨us, vs', L1, L2, e, rfl, h1, h2⟩ := H
    simp only [List.cons.injEq] at e
    obtain ⟨e1, e2⟩ := e
    cases vs with
    | nil => simp at hl
    | cons v vs =>
      simp only [List.headD_cons] at e1
      refine ⟨us, L1, L2, by simp [e1], rfl, h1, ve (ps := ps) (by simpa using hl) (by rw [e2]; exact h2)⟩
theorem sy {tm : Nat → Value} : ∀ {ps : List (Ty × Bool)} {vs : List Value} (i k : Nat) (gv : List Value), vs.length = ps.length → (∀ (j : Nat) v, vs[j]? = some v → tm (i + j) = v) → (∀ j, gv.getD (k + j) undef = (mutV ps vs).getD j undef) → ∀ q ∈ parI ps i k, tm q.1 = gv.getD q.2 undef
  | [], vs, i, k, gv, _, _, _, q, hq => by simp [parI] at hq
  | (t, false) :: ps, v :: vs, i, k, gv, hl, ht, hg, q, hq => by
    simp only [parI] at hq
    exact sy (i + 1) k gv (by simpa using hl) (fun j v hj => by rw [show i + 1 + j = i + (j + 1) by omega]; exact ht (j + 1) v (by simpa using hj)) (by simpa [mutV] using hg) q hq
  | (t, true) :: ps, v :: vs, i, k, gv, hl, ht, hg, q, hq => by
    simp only [parI, List.mem_cons] at hq
    rcases hq with rfl | hq
    · have := ht 0 v rfl
      have h2 := hg 0
      simp only [Nat.add_zero, mutV, List.headD_cons, List.getD_cons_zero] at this h2
      rw [this, h2]
    · exact sy (i + 1) (k + 1) gv (by simpa using hl) (fun j v hj => by rw [show i + 1 + j = i + (j + 1) by omega]; exact ht (j + 1) v (by simpa using hj)) (fun j => by
        have := hg (j + 1)
        rw [show k + 1 + j = k + (j + 1) by omega, this]; simp [mutV]) q hq
  | _ :: _, [], _, _, _, hl, _, _, _, _ => by simp at hl
def rvar (tmps : Array Value) : ResultVar → Sem Value
  | .tmp t => pure (tmps.getD t undef)
  | .cell b t => do loadVar t (← asAddr (tmps.getD b undef))
end
section
variable {c : Cx} {σ : St} {a : Act} {w : World}
theorem Br {o : Operand} {t : Tmp} {ty : TypeId} {av : Bool × Nat} {A : lp} (hs : dH c σ a w) {μ : Nat → Mu} (hH : HR w c.ab c.ok μ σ.h σ.n []) (hl : SR w c.ab c.ok μ σ.h σ.n σ.s a.tmps) (hav : tv c.P ty = some av) (hA : loadS av (sget σ.s t) σ.h σ.n = some A) (hc : A.c = true) :
    ∃ u, ((do loadVar ty (← asAddr (a.tmps.getD t undef))) : Sem Value).run c.P w = .ok u w ∧ VR w c.ab c.ok μ σ.h σ.n A.v u := by
  obtain ⟨g, m⟩ := av
  have hv := hl t
  unfold loadS at hA
  obtain ⟨hgm, hA⟩ := ah.1 hA
  have hgm' : g = true ∨ m = 1 := by
    simp only [Bool.or_eq_true] at hgm
    rcases hgm with h | h
    · exact .inl h
    · exact .inr (Nat.eq_of_beq_eq_true h)
  simp only at hA
  split at hA
  · rename_i t0 l i off hq
    obtain ⟨hb, hA⟩ := ah.1 hA
    simp only [af] at hA; subst hA
    simp only [bF] at hc
    have hle : off + m ≤ sz t0 := Nat.le_of_ble_eq_true hb
    rw [hq] at hv
    simp only [VR] at hv
    obtain ⟨b, of, e1, him, hte⟩ := hv
    obtain ⟨L1, L2, L3, hL, _, ⟨us, g1, g2⟩, _⟩ := RL.at (eX t0) hc hte
    obtain ⟨_, hL2⟩ := jo hL
    obtain ⟨rfl, _⟩ := jo hL2.symm
    obtain ⟨u1, u2, u3, La, Lb, Lc, rfl, hLL, k1, k2, _, k3, _⟩ := g1.oZ.Kz (off := off) (m := m) (by rw [dg]; exact hle)
    obtain ⟨_, hLL⟩ := jo hLL
    obtain ⟨rfl, _⟩ := jo hLL.symm
    obtain ⟨_, g2⟩ := At.app.1 g2
    obtain ⟨g2, _⟩ := At.app.1 g2
    rw [k1] at g2
    exact ⟨_, by simp [e1, asAddr, lX hav k2 g2 hgm'], kE k3.zJ⟩
  · rename_i r i off hq
    rw [hq] at hv
    simp only [VR] at hv
    obtain ⟨hr, B, e1, hm⟩ := hv
    split at hA
    · rename_i fr t0 l hgr
      obtain ⟨hb, hA⟩ := ah.1 hA
      simp only [af] at hA; subst hA
      simp only [bF] at hc
      have hle : off + m ≤ sz t0 := Nat.le_of_ble_eq_true hb
      simp only [hgr] at hm; subst hm
      obtain ⟨L, hR⟩ := hH.row hgr
      have hbk := hR.bk (by rintro rfl; simp at hc)
      obtain ⟨L', rfl, q1, q2, q3⟩ := hR.oX hbk
      obtain ⟨L1, L2, L3, hL, _, ⟨us, g1, g2⟩, _⟩ := RL.at (eX t0) hc q3
      obtain ⟨u1, u2, u3, La, Lb, Lc, rfl, hLL, k1, k2, _, k3, _⟩ := g1.oZ.Kz (off := off) (m := m) (by rw [dg]; exact hle)
      obtain ⟨_, g2⟩ := At.app.1 g2
      obtain ⟨g2, _⟩ := At.app.1 g2
      rw [k1] at g2
      exact ⟨_, by simp [e1, asAddr, lX hav k2 g2 hgm'], kE (yE hr hc hgr hbk (fun t' l' hmem => nV (List.mem_of_mem_drop (List.mem_of_mem_take hmem))) k3 g2)⟩
    · rename_i cs hgr
      obtain ⟨hb, hA⟩ := ah.1 hA
      simp only [af] at hA; subst hA
      have hle : off + m ≤ cs.length := Nat.le_of_ble_eq_true hb
      simp only [hgr] at hm; subst hm
      obtain ⟨L, hR⟩ := hH.row hgr
      simp only [RR] at hR
      obtain ⟨rfl, q1, q2, us, q3, q4⟩ := hR
      have k3 := (q3.drop off).take m
      have k2 : ((us.drop off).take m).length = m := by rw [List.length_take, List.length_drop, ← q3.length]; omega
      have g2 := q4.sub off m
      exact ⟨_, by simp [e1, asAddr, lX hav k2 g2 hgm'], kE k3⟩
    · simp at hA
  · simp at hA
theorem nW (hs : dH c σ a w) {μ : Nat → Mu} (hH : HR w c.ab c.ok μ σ.h σ.n []) (hl : SR w c.ab c.ok μ σ.h σ.n σ.s a.tmps) : ∀ (rs : List ResultVar) (vs : List TV), rets c.P σ rs = some vs →
    ∃ us, VRl w c.ab c.ok μ σ.h σ.n vs us ∧ (rs.mapM (rvar a.tmps)).run c.P w = .ok us w
  | [], vs, hr => by
    simp only [rets, af] at hr; subst hr
    exact ⟨[], by simp [VRl], by simp⟩
  | .tmp t :: r, vs, hr => by
    simp only [rets, ax, af] at hr
    obtain ⟨q, hq, rfl⟩ := hr
    obtain ⟨us, h1, h2⟩ := nW hs hH hl r q hq
    refine ⟨a.tmps.getD t undef :: us, ?_, by simp only [List.mapM_cons, Sem.run_bind, h2, rvar, Sem.run_pure, Result.andThen_ok]⟩
    simp only [VRl]
    exact ⟨_, _, rfl, hl t, h1⟩
  | .cell t ty :: r, vs, hr => by
    simp only [rets, ax] at hr
    obtain ⟨q, hq, av, hav, A, hA, hr⟩ := hr
    obtain ⟨hc, hr⟩ := ah.1 hr
    simp only [af] at hr; subst hr
    obtain ⟨us, h1, h2⟩ := nW hs hH hl r q hq
    obtain ⟨u, hu, hV⟩ := Br (o := .tmp t) hs hH hl hav hA hc
    refine ⟨u :: us, ?_, by simp only [List.mapM_cons, Sem.run_bind, h2, rvar, Sem.run_pure, Result.andThen_ok] at hu ⊢; rw [hu]; simp only [Result.andThen_ok]; rw [h2]; simp⟩
    simp only [VRl]; exact ⟨_, _, rfl, hV, h1⟩
end
theorem qT (us : List Value) : (if h : us.toArray.size = 1 then us.toArray[0] else .tuple us.toArray) = retV us := by
  match us with
  | [] => simp [retV]
  | [x] => simp [retV]
  | x :: y :: us => simp [retV]
theorem wM {P : Program} {fn : Func} {tmps : Array Value} {us : List Value} {w' : World} (k2 : (fn.results.toList.mapM (rvar tmps)).run P w' = .ok us w') : (results fn tmps).run P w' = .ok (retV us) w' := by
  have e1 : results fn tmps = (do let vs ← fn.results.mapM (rvar tmps); pure (if h : vs.size = 1 then vs[0] else .tuple vs)) := by
    unfold results
    congr 1
  have e2 : (fn.results.mapM (rvar tmps)).run P w' = .ok us.toArray w' := by
    rw [Array.mapM_eq_mapM_toList]
    simp [k2]
  rw [e1, Sem.run_bind, e2]
  simp only [Result.andThen_ok, Sem.run_pure]
  rw [qT]
theorem tQ : ∀ (xs : List TV) (i t : Nat), sget (slotsOf i xs) t = if i ≤ t then xs.getD (t - i) .undef else .undef
  | [], i, t => by simp [slotsOf, sget]
  | x :: xs, i, t => by
    simp only [slotsOf]
    rw [bZ, tQ xs (i + 1) t]
    by_cases h : t = i
    · subst h; simp
    · rw [if_neg h]
      by_cases h2 : i ≤ t
      · rw [if_pos (by omega), if_pos h2]
        have : t - i = (t - (i + 1)) + 1 := by omega
        rw [this]; rfl
      · rw [if_neg (by omega), if_neg h2]
theorem pG {P : Program} {F : List bj} (hF : ∀ cn ∈ F, an P cn) : ∀ d, qk P (inlN P F d)
  | 0 => fun _ _ _ _ _ _ _ _ _ h => by cases h
  | d + 1 => by
    rintro c rfl ρ f xs h n K r hev
    simp only [inlN] at hev
    split at hev
    · rename_i fn hfn
      split at hev
      · rename_i code hb
        obtain ⟨hc, hev⟩ := ah.1 hev
        simp only [aA] at hc
        refine ⟨by unfold callable; rw [hfn]; simp only [hb, Option.isSome_some, Bool.and_true]; exact hc.2, fun w vals μ hfr hH hx hg => ?_⟩
        refine calls_of_wp hfn hb ?_
        let c2 : Cx := { P := c.P, m := ⟨fn.ntmps, []⟩, w0 := c.w0, ab := c.ab, ok := c.ok, lu := c.lu, iZ := c.iZ, mH := c.mH, gs := c.gs, gv := c.gv, Bw := c.Bw, gG := c.gG, gJ := c.gJ }
        have hlen : vals.length = xs.length := hx.length.symm
        have hle : xs.length ≤ fn.ntmps := Nat.le_of_ble_eq_true hc.1
        let tmps : Array Value := vals.toArray ++ Array.replicate (fn.ntmps - vals.toArray.size) undef
        have htm : ∀ t, VR w c.ab c.ok μ h n (sget (slotsOf 0 xs) t) (tmps.getD t undef) := by
          intro t
          rw [tQ]
          simp only [Nat.zero_le, ↓reduceIte, Nat.sub_zero]
          by_cases ht : t < xs.length
          · have e : tmps.getD t undef = vals.getD t undef := by
              simp only [tmps, Array.getD_eq_getD_getElem?]
              rw [Array.getElem?_append_left (by simp; omega)]
              simp [List.getD]
            rw [e]; exact hx.get t
          · have : xs.getD t .undef = .undef := by simp [List.getD, List.getElem?_eq_none (show xs.length ≤ t by omega)]
            rw [this]; simp [VR]
        have hsim : dH c2 ⟨slotsOf 0 xs, h, n⟩ { tmps := tmps, defers := [] } w := by
          refine ⟨⟨hfr.os, hfr.tape, hfr.output, hfr.size, hfr.block, hfr.row⟩, rfl, ⟨?_, fun q hq => by cases hq⟩, μ, hH, htm, hg⟩
          show tmps.size = fn.ntmps
          simp only [tmps, Array.size_append, List.size_toArray, Array.size_replicate]; omega
        have he := lD (c := c2) (pG hF d) hF code _ _ (fun b _ lo hlo => by cases hlo) (r := r) hev
        refine wp_mono (he _ _ hsim) ?_
        rintro e a' w' ⟨σ', hq, hs⟩
        have key : ((rets c.P σ' fn.results.toList).bind fun vs => K (retT vs) σ'.h σ'.n) = some r ∧ (e = .normal ∨ e = .ret) := by
          cases e with
          | normal => exact ⟨hq, .inl rfl⟩
          | ret => exact ⟨hq, .inr rfl⟩
          | _ => cases hq
        obtain ⟨hq, he⟩ := key
        obtain ⟨vs, hrets, hq⟩ := ax.1 hq
        have hfr' := hs.fr
        have hdf := hs.defers
        obtain ⟨_, _, _, μ', hH', hl', hg'⟩ := id hs
        obtain ⟨us, k1, k2⟩ := nW (c := c2) hs hH' hl' fn.results.toList vs hrets
        have hret := wM (P := c.P) k2
        have hpost : ∃ v, (results fn a'.tmps).run c.P w' = .ok v w' ∧ ∃ rv v2 h' n' μ', Ending.returned v = .returned rv ∧ K v2 h' n' = some r ∧ Fr c w' ∧ HR w' c.ab c.ok μ' h' n' [] ∧ VR w' c.ab c.ok μ' h' n' v2 rv ∧ VRl w' c.ab c.ok μ' h' n' c.gs c.gv :=
          ⟨_, hret, retV us, retT vs, σ'.h, σ'.n, μ', rfl, hq, ⟨hfr'.os, hfr'.tape, hfr'.output, hfr'.size, hfr'.block, hfr'.row⟩, hH', oE k1, hg'⟩
        rcases he with rfl | rfl
        · exact ⟨hdf, hpost⟩
        · exact ⟨hdf, hpost⟩
      · simp at hev
    · simp at hev
theorem ND {P : Program} {F : List bj} {N : A8} (hN : qk P N) (hF : ∀ cn ∈ F, an P cn) {cn : bj} {fn : Func} {code : Code} (hf : P.funcs[cn.f]? = some fn) (hb : fn.body = some code) (hcall : callable P cn.f = true) (hpar : cn.ps.length ≤ fn.ntmps)
    (L : den (bg (cn.ps.map (·.1))) → List (Nat × LO))
    (hL : ∀ x (c : Cx), c.P = P → c.m = ⟨fn.ntmps, parI cn.ps 0 0⟩ → c.gs = parG cn.ps x [] 0 → ∀ b ∈ loopsIn code, ∀ lo, qF (L x) (zW b) = some lo → ch c lo b)
    (hm : ∀ x, om P F N (L x) fn code cn.ps cn.rs cn.rm x = cn.m x) (hmv : cn.rm.isMv = false) : an P cn := by
  refine ⟨hcall, fun w ab vals x Lm y himm hgd hLm harg hy => ?_⟩
  refine calls_of_wp hf hb ?_
  rw [← hm] at hy
  have hvl := harg.length
  let c : Cx := { P := P, m := ⟨fn.ntmps, parI cn.ps 0 0⟩, w0 := w, ab := ab, ok := k8 Lm w, lu := fun b h => (himm b h).1,
                  iZ := fun b h ho => by
                    rcases ho with ho | ho
                    · exact (himm b h).2 ho
                    · have := (himm b h).1; omega,
                  mH := fun b h => .inr h, gs := parG cn.ps x [] 0, gv := mutV cn.ps vals, Bw := sw _, gG := hgd.1, gJ := hgd.2 }
  have harg' : mo w ab (k8 Lm w) cn.ps x vals Lm := by
    have : ∀ (ps : List (Ty × Bool)) (x) (vs : List Value) (L : List Nat), mo w ab (· ∈ Lm) ps x vs L → mo w ab (k8 Lm w) ps x vs L := by
      intro ps
      induction ps with
      | nil => intro x vs L H; exact H
      | cons p ps ih =>
        intro x vs L H
        obtain ⟨us, vs', L1, L2, e1, e2, h1, h2, h3⟩ := H
        exact ⟨us, vs', L1, L2, e1, e2, fun e => ⟨(h1 e).1.mono (fun _ h => h) (fun b h => .inl h) (fun _ _ => rfl) (by simp), (h1 e).2⟩, fun e => (h2 e).mono (fun _ h => h) (fun b h => .inl h) (fun _ _ => rfl) (fun _ _ => rfl), ih _ _ _ h3⟩
    exact this _ _ _ _ harg
  let tmps : Array Value := vals.toArray ++ Array.replicate (fn.ntmps - vals.toArray.size) undef
  have htm : ∀ (j : Nat) v, vals[j]? = some v → tmps.getD (0 + j) undef = v := by
    intro j v hj
    have hlt : j < vals.length := by
      rcases Nat.lt_or_ge j vals.length with h | h
      · exact h
      · rw [List.getElem?_eq_none h] at hj; simp at hj
    simp only [tmps, Nat.zero_add, Array.getD_eq_getD_getElem?]
    rw [Array.getElem?_append_left (by simpa using hlt)]
    simp [hj]
  have H0 : HR w ab (k8 Lm w) (fun _ => ⟨0, 0, false⟩) [] 0 (Lm ++ []) := ⟨fun _ => none, fun r x hx => by simp [hget] at hx, by simpa using hLm, fun _ _ => rfl⟩
  obtain ⟨μ, a1, a2, ⟨a3, a6⟩, a4, a5⟩ := qQ (tm := fun t => tmps.getD t undef) 0 harg' (fun _ _ => trivial) H0 htm
  have hsim : dH c ⟨(parS cn.ps 0 x [] 0).1, (parS cn.ps 0 x [] 0).2.1, (parS cn.ps 0 x [] 0).2.2⟩ { tmps := tmps, defers := [] } w := by
    refine ⟨⟨rfl, rfl, rfl, Nat.le_refl _, fun _ _ _ => rfl, fun _ _ h => h⟩, rfl, ⟨?_, ?_⟩, μ, a2, a3, a6⟩
    · show tmps.size = fn.ntmps
      simp only [tmps, Array.size_append, List.size_toArray, Array.size_replicate]; omega
    · exact sy (tm := fun t => tmps.getD t undef) 0 0 _ hvl htm (fun j => by rw [Nat.zero_add]; show (mutV cn.ps vals ++ []).getD j undef = _; rw [List.append_nil])
  have hev := lD (c := c) hN hF code _ _ (hL x c rfl rfl rfl) (r := y) hy
  refine wp_mono (hev _ _ hsim) ?_
  rintro e a' w' ⟨σ', hq, hs⟩
  have key : ((rets P σ' fn.results.toList).bind fun vs => (Bs cn.rm cn.rs vs σ'.h).bind fun q => (exG (parG cn.ps x [] 0) (qE cn.ps) q.2).bind fun g => some (q.1, g.1)) = some y ∧ (e = .normal ∨ e = .ret) := by
    cases e with
    | normal => exact ⟨hq, .inl rfl⟩
    | ret => exact ⟨hq, .inr rfl⟩
    | _ => cases hq
  obtain ⟨hq, he⟩ := key
  obtain ⟨vs, hrets, hq⟩ := ax.1 hq
  obtain ⟨⟨y1, h1⟩, hcls, hq⟩ := ax.1 hq
  obtain ⟨⟨y2, h2⟩, hex, hq⟩ := ax.1 hq
  cases hq
  have hfr := hs.fr
  have hdf := hs.defers
  obtain ⟨_, _, _, μ', hH, hl, hg⟩ := id hs
  obtain ⟨us, k1, k2⟩ := nW (c := c) hs hH hl fn.results.toList vs hrets
  have hres : ∃ L, ResM w' ab (k8 Lm w) cn.rm cn.rs y1 us L ∧ HR w' ab (k8 Lm w) μ' h1 σ'.n (L ++ []) ∧ ∀ r x, hget h1 r = some x → hget σ'.h r = some x := by
    unfold Bs at hcls
    cases hrm : cn.rm with
    | mv => rw [hrm] at hmv; cases hmv
    | own fr => rw [hrm] at hcls; exact qR hcls hH k1
    | mix bs => rw [hrm] at hcls; exact qS hcls hH k1
    | GZ =>
      rw [hrm] at hcls
      simp only [Option.map_eq_some_iff, aG] at hcls
      obtain ⟨z, hz, rfl, rfl⟩ := hcls
      exact ⟨[], ⟨vd hz k1, rfl⟩, by simpa using hH, fun _ _ h => h⟩
  obtain ⟨L, r1, r2, r3⟩ := hres
  have hg1 : VRl w' ab (k8 Lm w) μ' h1 σ'.n (parG cn.ps x [] 0) (mutV cn.ps vals) := VRl.mono (Kept.sub r3) _ _ (aD _) hg
  obtain ⟨Lm', s1, s2, _⟩ := yD hex r2 hg1
  have hret : (results fn a'.tmps).run P w' = .ok (retV us) w' := by
    have e1 : results fn a'.tmps = (do let vs ← fn.results.mapM (rvar a'.tmps); pure (if h : vs.size = 1 then vs[0] else .tuple vs)) := by
      unfold results
      congr 1
    have e2 : (fn.results.mapM (rvar a'.tmps)).run P w' = .ok us.toArray w' := by
      rw [Array.mapM_eq_mapM_toList]
      have k2' : (fn.results.toList.mapM (rvar a'.tmps)).run P w' = .ok us w' := k2
      simp [k2']
    rw [e1, Sem.run_bind, e2]
    simp only [Result.andThen_ok, Sem.run_pure]
    rw [qT]
  have hnd := s2.nodup
  have hpost : ∃ v, (results fn a'.tmps).run P w' = .ok v w' ∧ ∃ vs L Lm', Ending.returned v = .returned (retV vs) ∧ By Lm w w' ∧ ResM w' ab (k8 Lm w) cn.rm cn.rs y1 vs L ∧ MutM w' ab (k8 Lm w) cn.rm cn.ps y2 vals Lm' ∧ (L ++ Lm').Nodup := by
    have hM : MutM w' ab (k8 Lm w) cn.rm cn.ps y2 vals Lm' := by
      unfold MutM
      cases hrm : cn.rm with
      | mv => rw [hrm] at hmv; cases hmv
      | _ => exact ve hvl s1
    refine ⟨_, hret, us, L, Lm', rfl, ⟨hfr.os, hfr.tape, hfr.output, hfr.size, fun k hk hn => hfr.block k hk (fun ho => ?_), hfr.row⟩, r1, hM, ?_⟩
    · rcases ho with ho | ho
      · exact hn ho
      · omega
    · refine (List.Perm.nodup_iff ?_).1 hnd
      simpa using List.perm_append_comm
  rcases he with rfl | rfl
  · exact ⟨hdf, hpost⟩
  · exact ⟨hdf, hpost⟩
theorem Kn {P : Program} {F : List bj} {N : A8} (hN : qk P N) (hF : ∀ cn ∈ F, an P cn) {cn : bj} {fn : Func} {code : Code} (hf : P.funcs[cn.f]? = some fn) (hb : fn.body = some code) (hcall : callable P cn.f = true) (hpar : cn.ps.length ≤ fn.ntmps)
    (L : den (bg (cn.ps.map (·.1))) → List (Nat × LO))
    (hL : ∀ x (c : Cx), c.P = P → c.m = ⟨fn.ntmps, []⟩ → c.gs = [] → ∀ b ∈ loopsIn code, ∀ lo, qF (L x) (zW b) = some lo → ch c lo b)
    (hm : ∀ x, FL P F N (L x) fn code cn.ps cn.rs x = cn.m x) (hrm : cn.rm = .mv) : an P cn := by
  refine ⟨hcall, fun w ab vals x Lm y himm hgd hLm harg hy => ?_⟩
  refine calls_of_wp hf hb ?_
  rw [← hm] at hy
  have hvl := harg.length
  let c : Cx := { P := P, m := ⟨fn.ntmps, []⟩, w0 := w, ab := ab, ok := k8 Lm w, lu := fun b h => (himm b h).1,
                  iZ := fun b h ho => by
                    rcases ho with ho | ho
                    · exact (himm b h).2 ho
                    · have := (himm b h).1; omega,
                  mH := fun b h => .inr h, gs := [], gv := [], Bw := trivial, gG := hgd.1, gJ := hgd.2 }
  have harg' : mo w ab (k8 Lm w) cn.ps x vals Lm := by
    have : ∀ (ps : List (Ty × Bool)) (x) (vs : List Value) (L : List Nat), mo w ab (· ∈ Lm) ps x vs L → mo w ab (k8 Lm w) ps x vs L := by
      intro ps
      induction ps with
      | nil => intro x vs L H; exact H
      | cons p ps ih =>
        intro x vs L H
        obtain ⟨us, vs', L1, L2, e1, e2, h1, h2, h3⟩ := H
        exact ⟨us, vs', L1, L2, e1, e2, fun e => ⟨(h1 e).1.mono (fun _ h => h) (fun b h => .inl h) (fun _ _ => rfl) (by simp), (h1 e).2⟩, fun e => (h2 e).mono (fun _ h => h) (fun b h => .inl h) (fun _ _ => rfl) (fun _ _ => rfl), ih _ _ _ h3⟩
    exact this _ _ _ _ harg
  let tmps : Array Value := vals.toArray ++ Array.replicate (fn.ntmps - vals.toArray.size) undef
  have htm : ∀ (j : Nat) v, vals[j]? = some v → tmps.getD (0 + j) undef = v := by
    intro j v hj
    have hlt : j < vals.length := by
      rcases Nat.lt_or_ge j vals.length with h | h
      · exact h
      · rw [List.getElem?_eq_none h] at hj; simp at hj
    simp only [tmps, Nat.zero_add, Array.getD_eq_getD_getElem?]
    rw [Array.getElem?_append_left (by simpa using hlt)]
    simp [hj]
  have H0 : HR w ab (k8 Lm w) (fun _ => ⟨0, 0, false⟩) [] 0 (Lm ++ []) := ⟨fun _ => none, fun r x hx => by simp [hget] at hx, by simpa using hLm, fun _ _ => rfl⟩
  obtain ⟨μ, a1, a2, ⟨a3, a6⟩, a4, a5⟩ := qQ (tm := fun t => tmps.getD t undef) 0 harg' (fun _ _ => trivial) H0 htm
  have hsim : dH c ⟨(parS cn.ps 0 x [] 0).1, (parS cn.ps 0 x [] 0).2.1, (parS cn.ps 0 x [] 0).2.2⟩ { tmps := tmps, defers := [] } w := by
    refine ⟨⟨rfl, rfl, rfl, Nat.le_refl _, fun _ _ _ => rfl, fun _ _ h => h⟩, rfl, ⟨?_, fun q hq => by cases hq⟩, μ, a2, a3, by simp [VRl, c]⟩
    show tmps.size = fn.ntmps
    simp only [tmps, Array.size_append, List.size_toArray, Array.size_replicate]; omega
  have hev := lD (c := c) hN hF code _ _ (hL x c rfl rfl rfl) (r := y) hy
  refine wp_mono (hev _ _ hsim) ?_
  rintro e a' w' ⟨σ', hq, hs⟩
  have key : ((rets P σ' fn.results.toList).bind fun vs => (clsL true cn.rs vs σ'.h).bind fun q => some (q.1, eX _)) = some y ∧ (e = .normal ∨ e = .ret) := by
    cases e with
    | normal => exact ⟨hq, .inl rfl⟩
    | ret => exact ⟨hq, .inr rfl⟩
    | _ => cases hq
  obtain ⟨hq, he⟩ := key
  obtain ⟨vs, hrets, hq⟩ := ax.1 hq
  obtain ⟨⟨y1, h1⟩, hcls, hq⟩ := ax.1 hq
  cases hq
  have hfr := hs.fr
  have hdf := hs.defers
  obtain ⟨_, _, _, μ', hH, hl, hg⟩ := id hs
  obtain ⟨us, k1, k2⟩ := nW (c := c) hs hH hl fn.results.toList vs hrets
  obtain ⟨L, r1, r2, _⟩ := qR hcls hH k1
  have hret : (results fn a'.tmps).run P w' = .ok (retV us) w' := by
    have e1 : results fn a'.tmps = (do let vs ← fn.results.mapM (rvar a'.tmps); pure (if h : vs.size = 1 then vs[0] else .tuple vs)) := by
      unfold results
      congr 1
    have e2 : (fn.results.mapM (rvar a'.tmps)).run P w' = .ok us.toArray w' := by
      rw [Array.mapM_eq_mapM_toList]
      have k2' : (fn.results.toList.mapM (rvar a'.tmps)).run P w' = .ok us w' := k2
      simp [k2']
    rw [e1, Sem.run_bind, e2]
    simp only [Result.andThen_ok, Sem.run_pure]
    rw [qT]
  have hnd := r2.nodup
  have hpost : ∃ v, (results fn a'.tmps).run P w' = .ok v w' ∧ ∃ vs L Lm', Ending.returned v = .returned (retV vs) ∧ By Lm w w' ∧ ResM w' ab (k8 Lm w) cn.rm cn.rs y1 vs L ∧ MutM w' ab (k8 Lm w) cn.rm cn.ps (eX _) vals Lm' ∧ (L ++ Lm').Nodup := by
    rw [hrm]
    refine ⟨_, hret, us, L, [], rfl, ⟨hfr.os, hfr.tape, hfr.output, hfr.size, fun k hk hn => hfr.block k hk (fun ho => ?_), hfr.row⟩, r1, rfl, hnd⟩
    rcases ho with ho | ho
    · exact hn ho
    · omega
  rcases he with rfl | rfl
  · exact ⟨hdf, hpost⟩
  · exact ⟨hdf, hpost⟩
end Go.Tw
