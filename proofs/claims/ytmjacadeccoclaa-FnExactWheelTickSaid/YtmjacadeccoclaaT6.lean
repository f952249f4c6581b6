/- A step of the typed logic of this claim is proved here: what an operation does to the data that slots and memory stand for. -/
import Derived.Test.YtmjacadeccoclaaT5
set_option linter.all false
namespace Go.Tw
open Go Go.RowKit

section
variable (w : World) (imm ok : Nat → Prop)
mutual
/-- Flat values. -/
def FV : TV → Value → Prop
  | .p u, v => v = u
  | .tr t l, v => TRl w imm ok (.sl t) l [v] []
  | .iptr t l i off, v => ∃ b o, v = .pointer (some ⟨b, o + i * sz t + off, none⟩) ∧ (l ≠ [] → imm b) ∧ RL (TRc w imm ok t) (sz t) l b o []
  | .fn f fi ca, v => ∃ us vs : List Value, v = .func f us.toArray vs.toArray ∧ FVl fi us ∧ FVl ca vs
  | _, _ => False
def FVl : List TV → List Value → Prop
  | [], us => us = []
  | c :: cs, us => ∃ u us', us = u :: us' ∧ FV c u ∧ FVl cs us'
end
end
/-! Flat cells: trees. -/
def CR1 (w : World) (imm ok : Nat → Prop) : TV → Value → List Nat → Prop
  | .p u, v, L => v = u ∧ L = []
  | .tr t l, v, L => TRl w imm ok (.sl t) l [v] L
  | .iptr t l i off, v, L => L = [] ∧ FV w imm ok (.iptr t l i off) v
  | .fn f fi ca, v, L => L = [] ∧ FV w imm ok (.fn f fi ca) v
  | _, _, _ => False
def CT (w : World) (imm ok : Nat → Prop) : List TV → List Value → List Nat → Prop
  | [], us, L => us = [] ∧ L = []
  | c :: cs, us, L => ∃ u us' L1 L2, us = u :: us' ∧ L = L1 ++ L2 ∧ CR1 w imm ok c u L1 ∧ CT w imm ok cs us' L2

section
variable {w w' : World} {imm imm' ok ok' : Nat → Prop} {μ : Nat → Mu} {h : Heap} {n : Nat}
theorem CT.length : ∀ {cs : List TV} {us : List Value} {L : List Nat}, CT w imm ok cs us L → us.length = cs.length
  | [], us, L, H => by rw [H.1]; rfl
  | c :: cs, us, L, H => by obtain ⟨u, us', L1, L2, rfl, rfl, _, h2⟩ := H; simp [CT.length h2]
theorem CT.app : ∀ {xs ys : List TV} {us : List Value} {L : List Nat}, CT w imm ok (xs ++ ys) us L ↔ ∃ us1 us2 L1 L2, us = us1 ++ us2 ∧ L = L1 ++ L2 ∧ CT w imm ok xs us1 L1 ∧ CT w imm ok ys us2 L2
  | [], ys, us, L => by
    simp only [List.nil_append]
    exact ⟨fun h => ⟨[], us, [], L, rfl, rfl, ⟨rfl, rfl⟩, h⟩, fun ⟨us1, us2, L1, L2, e1, e2, h1, h2⟩ => by
      obtain ⟨rfl, rfl⟩ := h1; simpa [e1, e2] using h2⟩
  | x :: xs, ys, us, L => by
    simp only [List.cons_append]
    constructor
    · rintro ⟨u, us', L1, L2, rfl, rfl, h1, h2⟩
      obtain ⟨us1, us2, L3, L4, rfl, rfl, h3, h4⟩ := CT.app.1 h2
      exact ⟨u :: us1, us2, L1 ++ L3, L4, rfl, by simp, ⟨u, us1, L1, L3, rfl, rfl, h1, h3⟩, h4⟩
    · rintro ⟨us1, us2, L1, L2, rfl, rfl, ⟨u, us', L3, L4, rfl, rfl, h1, h2⟩, h3⟩
      exact ⟨u, us' ++ us2, L3, L4 ++ L2, rfl, by simp, h1, CT.app.2 ⟨us', us2, L4, L2, rfl, rfl, h2, h3⟩⟩
mutual
theorem FV.mono (hi : ∀ b, imm b → imm' b) (ho : ∀ b, ok b → ok' b) (hw : ∀ b, imm b → w'.heap[b]? = w.heap[b]?) : ∀ (x : TV) (v : Value), FV w imm ok x v → FV w' imm' ok' x v
  | .p u, v, H => by simpa [FV] using H
  | .tr t l, v, H => by simp only [FV] at H ⊢; exact H.mono hi ho hw (by simp)
  | .iptr t l i off, v, H => by
    simp only [FV] at H ⊢
    obtain ⟨b, o, hv, hb, he⟩ := H
    refine ⟨b, o, hv, fun hl => hi b (hb hl), ?_⟩
    cases l with
    | nil => simpa [RL] using he
    | cons y l => exact RL.imp (fun x hx o L' hL hr => TRc.mono hi ho hw (fun b hb => by simpa using hL b hb) (hw b (hb (by simp))) hr) he
  | .fn f fi ca, v, H => by
    simp only [FV] at H ⊢
    obtain ⟨us, vs, hv, h1, h2⟩ := H
    exact ⟨us, vs, hv, FVl.mono hi ho hw fi us h1, FVl.mono hi ho hw ca vs h2⟩
  | .full _, _, H => by simp [FV] at H
  | .sub _ _ _, _, H => by simp [FV] at H
  | .inn _ _ _, _, H => by simp [FV] at H
  | .ptr _ _ _, _, H => by simp [FV] at H
  | .agg _, _, H => by simp [FV] at H
  | .tup _, _, H => by simp [FV] at H
  | .ifc _ _, _, H => by simp [FV] at H
  | .mp _, _, H => by simp [FV] at H
  | .undef, _, H => by simp [FV] at H
theorem FVl.mono (hi : ∀ b, imm b → imm' b) (ho : ∀ b, ok b → ok' b) (hw : ∀ b, imm b → w'.heap[b]? = w.heap[b]?) : ∀ (cs : List TV) (us : List Value), FVl w imm ok cs us → FVl w' imm' ok' cs us
  | [], us, H => by simpa [FVl] using H
  | c :: cs, us, H => by
    simp only [FVl] at H ⊢
    obtain ⟨u, us', hu, h1, h2⟩ := H
    exact ⟨u, us', hu, FV.mono hi ho hw c u h1, FVl.mono hi ho hw cs us' h2⟩
end
mutual
theorem FV.vr : ∀ (x : TV) (v : Value), FV w imm ok x v → VR w imm ok μ h n x v
  | .p u, v, H => by simpa [FV, VR] using H
  | .tr t l, v, H => by simp only [FV, VR] at H ⊢; exact H
  | .iptr t l i off, v, H => by simp only [FV, VR] at H ⊢; exact H
  | .fn f fi ca, v, H => by
    simp only [FV, VR] at H ⊢
    obtain ⟨us, vs, hv, h1, h2⟩ := H
    exact ⟨us, vs, hv, FVl.vrl fi us h1, FVl.vrl ca vs h2⟩
  | .full _, _, H => by simp [FV] at H
  | .sub _ _ _, _, H => by simp [FV] at H
  | .inn _ _ _, _, H => by simp [FV] at H
  | .ptr _ _ _, _, H => by simp [FV] at H
  | .agg _, _, H => by simp [FV] at H
  | .tup _, _, H => by simp [FV] at H
  | .ifc _ _, _, H => by simp [FV] at H
  | .mp _, _, H => by simp [FV] at H
  | .undef, _, H => by simp [FV] at H
theorem FVl.vrl : ∀ (cs : List TV) (us : List Value), FVl w imm ok cs us → VRl w imm ok μ h n cs us
  | [], us, H => by simpa [FVl, VRl] using H
  | c :: cs, us, H => by
    simp only [FVl, VRl] at H ⊢
    obtain ⟨u, us', hu, h1, h2⟩ := H
    exact ⟨u, us', hu, FV.vr c u h1, FVl.vrl cs us' h2⟩
end
mutual
theorem FV.of : ∀ (x : TV) (v : Value), flatV x = true → VR w imm ok μ h n x v → FV w imm ok x v
  | .p u, v, _, H => by simpa [FV, VR] using H
  | .tr t l, v, _, H => by simp only [FV, VR] at H ⊢; exact H
  | .iptr t l i off, v, _, H => by simp only [FV, VR] at H ⊢; exact H
  | .fn f fi ca, v, hf, H => by
    simp only [flatV, Bool.and_eq_true] at hf
    simp only [FV, VR] at H ⊢
    obtain ⟨us, vs, hv, h1, h2⟩ := H
    exact ⟨us, vs, hv, FVl.of fi us hf.1 h1, FVl.of ca vs hf.2 h2⟩
  | .full _, _, hf, _ => by simp [flatV] at hf
  | .sub _ _ _, _, hf, _ => by simp [flatV] at hf
  | .inn _ _ _, _, hf, _ => by simp [flatV] at hf
  | .ptr _ _ _, _, hf, _ => by simp [flatV] at hf
  | .agg _, _, hf, _ => by simp [flatV] at hf
  | .tup _, _, hf, _ => by simp [flatV] at hf
  | .ifc _ _, _, hf, _ => by simp [flatV] at hf
  | .mp _, _, hf, _ => by simp [flatV] at hf
  | .undef, _, hf, _ => by simp [flatV] at hf
theorem FVl.of : ∀ (cs : List TV) (us : List Value), flatB cs = true → VRl w imm ok μ h n cs us → FVl w imm ok cs us
  | [], us, _, H => by simpa [FVl, VRl] using H
  | c :: cs, us, hf, H => by
    simp only [flatB, Bool.and_eq_true] at hf
    simp only [FVl, VRl] at H ⊢
    obtain ⟨u, us', hu, h1, h2⟩ := H
    exact ⟨u, us', hu, FV.of c u hf.1 h1, FVl.of cs us' hf.2 h2⟩
end
theorem FV.cr1 {x : TV} {v : Value} (H : FV w imm ok x v) : CR1 w imm ok x v [] := by
  cases x with
  | p u => simp only [FV] at H; exact ⟨H, rfl⟩
  | tr t l => simp only [FV] at H; exact H
  | iptr t l i off => exact ⟨rfl, H⟩
  | fn f fi ca => exact ⟨rfl, H⟩
  | _ => simp [FV] at H
theorem CR1.fv {x : TV} {v : Value} (H : CR1 w imm ok x v []) : FV w imm ok x v := by
  cases x with
  | p u => simp only [FV]; exact H.1
  | tr t l => simp only [FV]; exact H
  | iptr t l i off => exact H.2
  | fn f fi ca => exact H.2
  | _ => exact H.elim
theorem FVl.ct : ∀ {cs : List TV} {us : List Value}, FVl w imm ok cs us → CT w imm ok cs us []
  | [], us, H => by simp only [FVl] at H; exact ⟨H, rfl⟩
  | c :: cs, us, H => by
    simp only [FVl] at H
    obtain ⟨u, us', rfl, h1, h2⟩ := H
    exact ⟨u, us', [], [], rfl, rfl, h1.cr1, FVl.ct h2⟩
theorem CT.fvl : ∀ {cs : List TV} {us : List Value}, CT w imm ok cs us [] → FVl w imm ok cs us
  | [], us, H => by simp only [FVl]; exact H.1
  | c :: cs, us, H => by
    obtain ⟨u, us', L1, L2, rfl, hL, h1, h2⟩ := H
    obtain ⟨rfl, rfl⟩ := List.append_eq_nil_iff.1 hL.symm
    simp only [FVl]
    exact ⟨u, us', rfl, h1.fv, CT.fvl h2⟩
theorem CR1.mono (hi : ∀ b, imm b → imm' b) (ho : ∀ b, ok b → ok' b) (hw : ∀ b, imm b → w'.heap[b]? = w.heap[b]?) {x : TV} {v : Value} {L : List Nat} (hL : ∀ b ∈ L, w'.heap[b]? = w.heap[b]?) (H : CR1 w imm ok x v L) : CR1 w' imm' ok' x v L := by
  cases x with
  | p u => exact H
  | tr t l => exact TRl.mono (t := .sl t) hi ho hw hL H
  | iptr t l i off => exact ⟨H.1, FV.mono hi ho hw _ _ H.2⟩
  | fn f fi ca => exact ⟨H.1, FV.mono hi ho hw _ _ H.2⟩
  | _ => exact H.elim
theorem CT.mono (hi : ∀ b, imm b → imm' b) (ho : ∀ b, ok b → ok' b) (hw : ∀ b, imm b → w'.heap[b]? = w.heap[b]?) : ∀ {cs : List TV} {us : List Value} {L : List Nat}, (∀ b ∈ L, w'.heap[b]? = w.heap[b]?) → CT w imm ok cs us L → CT w' imm' ok' cs us L
  | [], us, L, _, H => H
  | c :: cs, us, L, hL, H => by
    obtain ⟨u, us', L1, L2, rfl, rfl, h1, h2⟩ := H
    exact ⟨u, us', L1, L2, rfl, rfl, h1.mono hi ho hw (fun b hb => hL b (by simp [hb])), CT.mono hi ho hw (fun b hb => hL b (by simp [hb])) h2⟩
theorem TRl.toCT : ∀ {t : Ty} {x : den t} {us : List Value} {L : List Nat}, TRl w imm ok t x us L → CT w imm ok (encT t x) us L
  | .int _, x, us, L, H => by obtain ⟨rfl, rfl⟩ := H; exact ⟨_, [], [], [], rfl, rfl, ⟨rfl, rfl⟩, rfl, rfl⟩
  | .bool, x, us, L, H => by obtain ⟨rfl, rfl⟩ := H; exact ⟨_, [], [], [], rfl, rfl, ⟨rfl, rfl⟩, rfl, rfl⟩
  | .str, x, us, L, H => by obtain ⟨rfl, rfl⟩ := H; exact ⟨_, [], [], [], rfl, rfl, ⟨rfl, rfl⟩, rfl, rfl⟩
  | .un, x, us, L, H => H
  | .pr a b, x, us, L, H => by
    obtain ⟨u1, u2, L1, L2, rfl, rfl, h1, h2⟩ := H
    exact CT.app.2 ⟨u1, u2, L1, L2, rfl, rfl, TRl.toCT h1, TRl.toCT h2⟩
  | .sl t, x, us, L, H => by
    obtain ⟨v, rfl, h⟩ := id H
    exact ⟨v, [], L, [], rfl, by simp, H, rfl, rfl⟩
  | .ref t, x, us, L, H => by
    obtain ⟨b, o, vs, rfl, rfl, h1, h2, h3⟩ := H
    refine ⟨_, [], [], [], rfl, rfl, ⟨rfl, ?_⟩, rfl, rfl⟩
    simp only [FV]
    exact ⟨b, o, by simp, fun _ => h1, [], [], rfl, ⟨vs, h2, h3⟩, rfl⟩
  | .cl g t, x, us, L, H => by
    obtain ⟨vs, rfl, rfl, h1⟩ := H
    refine ⟨_, [], [], [], rfl, rfl, ⟨rfl, ?_⟩, rfl, rfl⟩
    simp only [FV]
    exact ⟨[], vs, rfl, by simp [FVl], CT.fvl (TRl.toCT h1)⟩
theorem cast_some {t t' : Ty} {l : List (den t)} {l' : List (den t')} (h : cast t t' l = some l') : ∃ e : t = t', e ▸ l = l' := by
  unfold cast at h
  split at h
  · rename_i e; exact ⟨e, by simpa using h⟩
  · simp at h
theorem cast_len {t t' : Ty} {l : List (den t)} {l' : List (den t')} (h : cast t t' l = some l') : l'.length = l.length := by
  obtain ⟨rfl, rfl⟩ := cast_some h; rfl
theorem CT.dec : ∀ {t : Ty} {cs r : List TV} {x : den t} {us : List Value} {L : List Nat}, decT t cs = some (x, r) → CT w imm ok cs us L →
    ∃ us1 us2 L1 L2, us = us1 ++ us2 ∧ L = L1 ++ L2 ∧ TRl w imm ok t x us1 L1 ∧ CT w imm ok r us2 L2
  | .int k, cs, r, x, us, L, hd, H => by
    simp only [decT] at hd
    split at hd <;> first | (simp at hd; done) | skip
    split at hd
    · simp only [Option.some.injEq, Prod.mk.injEq] at hd
      obtain ⟨rfl, rfl⟩ := hd
      subst_vars
      obtain ⟨u, us', L1, L2, rfl, rfl, ⟨rfl, rfl⟩, h2⟩ := H
      exact ⟨[_], us', [], L2, rfl, rfl, ⟨rfl, rfl⟩, h2⟩
    · simp at hd
  | .bool, cs, r, x, us, L, hd, H => by
    simp only [decT] at hd
    split at hd <;> first | (simp at hd; done) | skip
    simp only [Option.some.injEq, Prod.mk.injEq] at hd
    obtain ⟨rfl, rfl⟩ := hd
    obtain ⟨u, us', L1, L2, rfl, rfl, ⟨rfl, rfl⟩, h2⟩ := H
    exact ⟨[_], us', [], L2, rfl, rfl, ⟨rfl, rfl⟩, h2⟩
  | .str, cs, r, x, us, L, hd, H => by
    simp only [decT] at hd
    split at hd <;> first | (simp at hd; done) | skip
    simp only [Option.some.injEq, Prod.mk.injEq] at hd
    obtain ⟨rfl, rfl⟩ := hd
    obtain ⟨u, us', L1, L2, rfl, rfl, ⟨rfl, rfl⟩, h2⟩ := H
    exact ⟨[_], us', [], L2, rfl, rfl, ⟨rfl, rfl⟩, h2⟩
  | .un, cs, r, x, us, L, hd, H => by
    simp only [decT, Option.some.injEq, Prod.mk.injEq] at hd
    obtain ⟨_, rfl⟩ := hd
    exact ⟨[], us, [], L, rfl, rfl, ⟨rfl, rfl⟩, H⟩
  | .pr a b, cs, r, x, us, L, hd, H => by
    simp only [decT, Option.bind_eq_some_iff, Option.some.injEq, Prod.mk.injEq] at hd
    obtain ⟨⟨x1, r1⟩, hd1, ⟨x2, r2⟩, hd2, rfl, rfl⟩ := hd
    obtain ⟨us1, us2, L1, L2, rfl, rfl, h1, h2⟩ := CT.dec hd1 H
    obtain ⟨us3, us4, L3, L4, rfl, rfl, h3, h4⟩ := CT.dec hd2 h2
    exact ⟨us1 ++ us3, us4, L1 ++ L3, L4, by simp, by simp, ⟨us1, us3, L1, L3, rfl, rfl, h1, h3⟩, h4⟩
  | .sl t, cs, r, x, us, L, hd, H => by
    simp only [decT] at hd
    split at hd <;> first | (simp at hd; done) | skip
    · simp only [Option.bind_eq_some_iff, Option.some.injEq, Prod.mk.injEq] at hd
      obtain ⟨l', hc, rfl, rfl⟩ := hd
      obtain ⟨rfl, rfl⟩ := cast_some hc
      obtain ⟨u, us', L1, L2, rfl, rfl, h1, h2⟩ := H
      exact ⟨[u], us', L1, L2, rfl, rfl, h1, h2⟩
    · simp only [Option.some.injEq, Prod.mk.injEq] at hd
      obtain ⟨rfl, rfl⟩ := hd
      obtain ⟨u, us', L1, L2, rfl, rfl, ⟨rfl, rfl⟩, h2⟩ := H
      exact ⟨[_], us', [], L2, rfl, rfl, ⟨_, rfl, .inl ⟨rfl, rfl, rfl⟩⟩, h2⟩
  | .ref t, cs, r, x, us, L, hd, H => by
    simp only [decT] at hd
    split at hd <;> first | (simp at hd; done) | skip
    simp only [Option.bind_eq_some_iff, Option.some.injEq, Prod.mk.injEq] at hd
    obtain ⟨l', hc, rfl, rfl⟩ := hd
    obtain ⟨rfl, rfl⟩ := cast_some hc
    obtain ⟨u, us', L1, L2, rfl, rfl, ⟨rfl, h1⟩, h2⟩ := H
    simp only [FV] at h1
    obtain ⟨b, o, rfl, hb, L1, L3, e, ⟨vs, g1, g2⟩, _⟩ := h1
    obtain ⟨rfl, rfl⟩ := List.append_eq_nil_iff.1 e.symm
    exact ⟨[_], us', [], L2, rfl, rfl, ⟨b, o, vs, by simp, rfl, hb (by simp), g1, g2⟩, h2⟩
  | .cl g t, cs, r, x, us, L, hd, H => by
    simp only [decT] at hd
    split at hd <;> first | (simp at hd; done) | skip
    rename_i g' ca r'
    cases hb : Nat.beq g' g with
    | false => rw [hb] at hd; simp at hd
    | true =>
      have hg := Nat.eq_of_beq_eq_true hb
      subst hg
      rw [hb] at hd
      simp only [cond_true] at hd
      split at hd
      · rename_i y hy
        simp only [Option.some.injEq, Prod.mk.injEq] at hd
        obtain ⟨rfl, rfl⟩ := hd
        obtain ⟨u, us', L1, L2, rfl, rfl, ⟨rfl, h1⟩, h2⟩ := H
        simp only [FV, FVl] at h1
        obtain ⟨us0, vs, rfl, rfl, g2⟩ := h1
        obtain ⟨v1, v2, La, Lb, rfl, e, k1, k2⟩ := CT.dec hy g2.ct
        obtain ⟨rfl, rfl⟩ := List.append_eq_nil_iff.1 e.symm
        obtain ⟨rfl, _⟩ := k2
        exact ⟨[_], us', [], L2, rfl, rfl, ⟨v1, by simp, rfl, k1⟩, h2⟩
      · simp at hd
theorem CT.dec1 {t : Ty} {cs : List TV} {x : den t} {us : List Value} {L : List Nat} (hd : dec1 t cs = some x) (H : CT w imm ok cs us L) : TRl w imm ok t x us L := by
  unfold Go.Tw.dec1 at hd
  split at hd
  · rename_i y hy
    simp only [Option.some.injEq] at hd; subst hd
    obtain ⟨us1, us2, L1, L2, rfl, rfl, h1, h2⟩ := CT.dec hy H
    obtain ⟨rfl, rfl⟩ := h2
    simpa using h1
  · simp at hd
theorem CR1.vr {x : TV} {v : Value} (H : CR1 w imm ok x v []) : VR w imm ok μ h n x v := FV.vr _ _ H.fv
theorem nil_app {L1 L2 : List Nat} (h : [] = L1 ++ L2) : L1 = [] ∧ L2 = [] := List.append_eq_nil_iff.1 h.symm
theorem CT.vrl : ∀ {cs : List TV} {us : List Value}, CT w imm ok cs us [] → VRl w imm ok μ h n cs us
  | [], us, H => by simp [VRl, H.1]
  | c :: cs, us, H => by
    obtain ⟨u, us', L1, L2, rfl, hL, h1, h2⟩ := H
    obtain ⟨rfl, rfl⟩ := nil_app hL
    simp only [VRl]; exact ⟨u, us', rfl, h1.vr, CT.vrl h2⟩
theorem CT.pmap : ∀ l : List Value, CT w imm ok (l.map .p) l []
  | [] => ⟨rfl, rfl⟩
  | x :: l => ⟨x, l, [], [], rfl, rfl, ⟨rfl, rfl⟩, CT.pmap l⟩
theorem CT.of_vrl {cs : List TV} {us : List Value} (hf : flatB cs = true) (H : VRl w imm ok μ h n cs us) : CT w imm ok cs us [] := (FVl.of _ _ hf H).ct

/-- A tree whose blocks do not turn, seen as borrowed. -/
theorem TRl.lent (hi : ∀ b, imm b → imm' b) : ∀ {t : Ty} {x : den t} {us : List Value} {L : List Nat}, (∀ b ∈ L, imm' b) → TRl w imm ok t x us L → TRl w imm' ok' t x us []
  | .int _, _, _, _, _, h => ⟨h.1, rfl⟩
  | .bool, _, _, _, _, h => ⟨h.1, rfl⟩
  | .str, _, _, _, _, h => ⟨h.1, rfl⟩
  | .un, _, _, _, _, h => ⟨h.1, rfl⟩
  | .pr a b, x, us, L, hL, h => by
    obtain ⟨u1, u2, L1, L2, rfl, rfl, h1, h2⟩ := h
    exact ⟨u1, u2, [], [], rfl, rfl, TRl.lent hi (fun b hb => hL b (by simp [hb])) h1, TRl.lent hi (fun b hb => hL b (by simp [hb])) h2⟩
  | .sl t, l, us, L, hL, h => by
    obtain ⟨v, rfl, h⟩ := h
    refine ⟨v, rfl, ?_⟩
    rcases h with ⟨h1, h2, _⟩ | ⟨A, cap, L', h1, h2, h3, h4⟩
    · exact .inl ⟨h1, h2, rfl⟩
    · refine .inr ⟨A, cap, [], h1, h2, ?_, .inl ⟨rfl, rfl, ?_, ?_⟩⟩
      · have hL' : ∀ k ∈ L', imm' k := by
          rcases h4 with ⟨_, rfl, _⟩ | ⟨rfl, _⟩
          · simp
          · exact fun k hk => hL k (by simp [hk])
        clear h1 h2 h4 hL
        generalize A.off = o at h3
        induction l generalizing o L' with
        | nil => simp [RL]
        | cons y l ih =>
          simp only [RL] at h3 ⊢
          obtain ⟨La, Lb, rfl, ⟨us, g1, g2⟩, g3⟩ := h3
          exact ⟨[], [], rfl, ⟨us, TRl.lent hi (fun k hk => hL' k (by simp [hk])) g1, g2⟩, ih _ (fun k hk => hL' k (by simp [hk])) _ g3⟩
      · rcases h4 with ⟨_, _, ⟨b0, h0⟩, h4⟩ | ⟨rfl, h4, _⟩
        · exact ⟨b0, hi _ h0⟩
        · exact ⟨A.block, hL _ (by simp)⟩
      · rcases h4 with ⟨_, _, _, h4⟩ | ⟨rfl, h4, _⟩
        · exact fun hl => ⟨(h4 hl).1, hi _ (h4 hl).2⟩
        · exact fun _ => ⟨h4, hL _ (by simp)⟩
  | .ref t, x, us, L, hL, h => by
    obtain ⟨b, o, vs, rfl, rfl, h1, h2, h3⟩ := h
    exact ⟨b, o, vs, rfl, rfl, hi b h1, TRl.lent hi (by simp) h2, h3⟩
  | .cl g t, x, us, L, hL, h => by
    obtain ⟨vs, rfl, rfl, h1⟩ := h
    exact ⟨vs, rfl, rfl, TRl.lent hi (by simp) h1⟩

theorem RL.lent {t : Ty} (hi : ∀ b, imm b → imm' b) : ∀ {l : List (den t)} {b o : Nat} {L : List Nat}, (∀ k ∈ L, imm' k) → RL (TRc w imm ok t) (sz t) l b o L → RL (TRc w imm' ok' t) (sz t) l b o []
  | [], _, _, _, _, _ => rfl
  | x :: l, b, o, L, hL, h => by
    simp only [RL] at h ⊢
    obtain ⟨L1, L2, rfl, ⟨us, g1, g2⟩, g3⟩ := h
    exact ⟨[], [], rfl, ⟨us, TRl.lent hi (fun k hk => hL k (by simp [hk])) g1, g2⟩, RL.lent hi (fun k hk => hL k (by simp [hk])) g3⟩
/-- A region's slice, as a tree that owns nothing. -/
theorem SlR.tree {m : Mu} {t : Ty} {l : List (den t)} {off len : Nat} {v : Value} {L : List Nat} (H : SlR w m (sz t) off len v) (hle : off + len ≤ l.length) (hii : ∀ b, imm b → imm' b)
    (hR : m.bk = true → RL (TRc w imm ok t) (sz t) l m.blk m.off L ∧ (∀ b ∈ L, imm' b) ∧ imm' m.blk) : TRl w imm' ok' (.sl t) ((l.drop off).take len) [v] [] := by
  refine ⟨v, rfl, ?_⟩
  have hlen : ((l.drop off).take len).length = len := by simp; omega
  rcases H with ⟨rfl, rfl⟩ | ⟨o, cap, rfl, h1, h2, h3, h4⟩
  · exact .inl ⟨rfl, by simp, rfl⟩
  · obtain ⟨q1, q2, q3⟩ := hR h2
    refine .inr ⟨_, cap, [], by rw [hlen], by omega, ?_, .inl ⟨rfl, rfl, ⟨_, q3⟩, fun _ => ⟨rfl, q3⟩⟩⟩
    obtain ⟨L1, L2, L3, rfl, hs⟩ := RL.sub off len (by omega) q1
    rcases Nat.eq_zero_or_pos cap with hz | hp
    · have hl0 : len = 0 := by omega
      subst hl0; simp [RL]
    · simp only; rw [(h4 hp).1]; exact RL.lent hii (fun k hk => q2 k (by simp [hk])) hs
end
end Go.Tw
