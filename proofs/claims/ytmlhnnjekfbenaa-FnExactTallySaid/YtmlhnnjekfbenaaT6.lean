/- A step of the typed logic of this claim is proved here: what an operation does to the data that slots and memory stand for. -/
import Derived.Test.YtmlhnnjekfbenaaT5
set_option linter.all false
namespace Go.Tw
open Go Go.RowKit

/-! Flat cells: trees. -/
def CR1 (w : World) (imm ok : Nat → Prop) : TV → Value → List Nat → Prop
  | .p u, v, L => v = u ∧ L = []
  | .tr t l, v, L => TRl w imm ok (.sl t) l [v] L
  | _, _, _ => False
def CT (w : World) (imm ok : Nat → Prop) : List TV → List Value → List Nat → Prop
  | [], us, L => us = [] ∧ L = []
  | c :: cs, us, L => ∃ u us' L1 L2, us = u :: us' ∧ L = L1 ++ L2 ∧ CR1 w imm ok c u L1 ∧ CT w imm ok cs us' L2

section
variable {w w' : World} {imm imm' ok ok' : Nat → Prop} {μ : Nat → Mu} {h : Heap} {n : Nat}
theorem CT.length : ∀ {cs : List TV} {us : List Value} {L : List Nat}, CT w imm ok cs us L → us.length = cs.length
  | [], us, L, H => by rw [H.1]; rfl
  | c :: cs, us, L, H => by obtain ⟨u, us', L1, L2, rfl, rfl, _, h2⟩ := H; simp [CT.length h2]
theorem CT.app : ∀ {xs ys : List TV} {us : List Value} {L : List Nat}, CT w imm ok (xs ++ ys) us L ↔ ∃ us1 us2 L1 L2, us = us1 ++ us2 ∧ L = L1 ++ L2 ∧ CT w imm ok xs us1 L1 ∧ CT w imm ok ys us2 L2
  | [], ys, us, L => by
    simp only [List.nil_append]
    exact ⟨fun h => ⟨[], us, [], L, rfl, rfl, ⟨rfl, rfl⟩, h⟩, fun ⟨us1, us2, L1, L2, e1, e2, h1, h2⟩ => by
      obtain ⟨rfl, rfl⟩ := h1; simpa [e1, e2] using h2⟩
  | x :: xs, ys, us, L => by
    simp only [List.cons_append]
    constructor
    · rintro ⟨u, us', L1, L2, rfl, rfl, h1, h2⟩
      obtain ⟨us1, us2, L3, L4, rfl, rfl, h3, h4⟩ := CT.app.1 h2
      exact ⟨u :: us1, us2, L1 ++ L3, L4, rfl, by simp, ⟨u, us1, L1, L3, rfl, rfl, h1, h3⟩, h4⟩
    · rintro ⟨us1, us2, L1, L2, rfl, rfl, ⟨u, us', L3, L4, rfl, rfl, h1, h2⟩, h3⟩
      exact ⟨u, us' ++ us2, L3, L4 ++ L2, rfl, by simp, h1, CT.app.2 ⟨us', us2, L4, L2, rfl, rfl, h2, h3⟩⟩
theorem CR1.mono (hi : ∀ b, imm b → imm' b) (ho : ∀ b, ok b → ok' b) (hw : ∀ b, imm b → w'.heap[b]? = w.heap[b]?) {x : TV} {v : Value} {L : List Nat} (hL : ∀ b ∈ L, w'.heap[b]? = w.heap[b]?) (H : CR1 w imm ok x v L) : CR1 w' imm' ok' x v L := by
  cases x with
  | p u => exact H
  | tr t l => exact TRl.mono (t := .sl t) hi ho hw hL H
  | _ => exact H.elim
theorem CT.mono (hi : ∀ b, imm b → imm' b) (ho : ∀ b, ok b → ok' b) (hw : ∀ b, imm b → w'.heap[b]? = w.heap[b]?) : ∀ {cs : List TV} {us : List Value} {L : List Nat}, (∀ b ∈ L, w'.heap[b]? = w.heap[b]?) → CT w imm ok cs us L → CT w' imm' ok' cs us L
  | [], us, L, _, H => H
  | c :: cs, us, L, hL, H => by
    obtain ⟨u, us', L1, L2, rfl, rfl, h1, h2⟩ := H
    exact ⟨u, us', L1, L2, rfl, rfl, h1.mono hi ho hw (fun b hb => hL b (by simp [hb])), CT.mono hi ho hw (fun b hb => hL b (by simp [hb])) h2⟩
theorem TRl.toCT : ∀ {t : Ty} {x : den t} {us : List Value} {L : List Nat}, TRl w imm ok t x us L → CT w imm ok (encT t x) us L
  | .int _, x, us, L, H => by obtain ⟨rfl, rfl⟩ := H; exact ⟨_, [], [], [], rfl, rfl, ⟨rfl, rfl⟩, rfl, rfl⟩
  | .bool, x, us, L, H => by obtain ⟨rfl, rfl⟩ := H; exact ⟨_, [], [], [], rfl, rfl, ⟨rfl, rfl⟩, rfl, rfl⟩
  | .str, x, us, L, H => by obtain ⟨rfl, rfl⟩ := H; exact ⟨_, [], [], [], rfl, rfl, ⟨rfl, rfl⟩, rfl, rfl⟩
  | .un, x, us, L, H => H
  | .pr a b, x, us, L, H => by
    obtain ⟨u1, u2, L1, L2, rfl, rfl, h1, h2⟩ := H
    exact CT.app.2 ⟨u1, u2, L1, L2, rfl, rfl, TRl.toCT h1, TRl.toCT h2⟩
  | .sl t, x, us, L, H => by
    obtain ⟨v, rfl, h⟩ := id H
    exact ⟨v, [], L, [], rfl, by simp, H, rfl, rfl⟩
theorem cast_some {t t' : Ty} {l : List (den t)} {l' : List (den t')} (h : cast t t' l = some l') : ∃ e : t = t', e ▸ l = l' := by
  unfold cast at h
  split at h
  · rename_i e; exact ⟨e, by simpa using h⟩
  · simp at h
theorem cast_len {t t' : Ty} {l : List (den t)} {l' : List (den t')} (h : cast t t' l = some l') : l'.length = l.length := by
  obtain ⟨rfl, rfl⟩ := cast_some h; rfl
theorem CT.dec : ∀ {t : Ty} {cs r : List TV} {x : den t} {us : List Value} {L : List Nat}, decT t cs = some (x, r) → CT w imm ok cs us L →
    ∃ us1 us2 L1 L2, us = us1 ++ us2 ∧ L = L1 ++ L2 ∧ TRl w imm ok t x us1 L1 ∧ CT w imm ok r us2 L2
  | .int k, cs, r, x, us, L, hd, H => by
    simp only [decT] at hd
    split at hd <;> first | (simp at hd; done) | skip
    split at hd
    · simp only [Option.some.injEq, Prod.mk.injEq] at hd
      obtain ⟨rfl, rfl⟩ := hd
      subst_vars
      obtain ⟨u, us', L1, L2, rfl, rfl, ⟨rfl, rfl⟩, h2⟩ := H
      exact ⟨[_], us', [], L2, rfl, rfl, ⟨rfl, rfl⟩, h2⟩
    · simp at hd
  | .bool, cs, r, x, us, L, hd, H => by
    simp only [decT] at hd
    split at hd <;> first | (simp at hd; done) | skip
    simp only [Option.some.injEq, Prod.mk.injEq] at hd
    obtain ⟨rfl, rfl⟩ := hd
    obtain ⟨u, us', L1, L2, rfl, rfl, ⟨rfl, rfl⟩, h2⟩ := H
    exact ⟨[_], us', [], L2, rfl, rfl, ⟨rfl, rfl⟩, h2⟩
  | .str, cs, r, x, us, L, hd, H => by
    simp only [decT] at hd
    split at hd <;> first | (simp at hd; done) | skip
    simp only [Option.some.injEq, Prod.mk.injEq] at hd
    obtain ⟨rfl, rfl⟩ := hd
    obtain ⟨u, us', L1, L2, rfl, rfl, ⟨rfl, rfl⟩, h2⟩ := H
    exact ⟨[_], us', [], L2, rfl, rfl, ⟨rfl, rfl⟩, h2⟩
  | .un, cs, r, x, us, L, hd, H => by
    simp only [decT, Option.some.injEq, Prod.mk.injEq] at hd
    obtain ⟨_, rfl⟩ := hd
    exact ⟨[], us, [], L, rfl, rfl, ⟨rfl, rfl⟩, H⟩
  | .pr a b, cs, r, x, us, L, hd, H => by
    simp only [decT, Option.bind_eq_some_iff, Option.some.injEq, Prod.mk.injEq] at hd
    obtain ⟨⟨x1, r1⟩, hd1, ⟨x2, r2⟩, hd2, rfl, rfl⟩ := hd
    obtain ⟨us1, us2, L1, L2, rfl, rfl, h1, h2⟩ := CT.dec hd1 H
    obtain ⟨us3, us4, L3, L4, rfl, rfl, h3, h4⟩ := CT.dec hd2 h2
    exact ⟨us1 ++ us3, us4, L1 ++ L3, L4, by simp, by simp, ⟨us1, us3, L1, L3, rfl, rfl, h1, h3⟩, h4⟩
  | .sl t, cs, r, x, us, L, hd, H => by
    simp only [decT] at hd
    split at hd <;> first | (simp at hd; done) | skip
    · simp only [Option.bind_eq_some_iff, Option.some.injEq, Prod.mk.injEq] at hd
      obtain ⟨l', hc, rfl, rfl⟩ := hd
      obtain ⟨rfl, rfl⟩ := cast_some hc
      obtain ⟨u, us', L1, L2, rfl, rfl, h1, h2⟩ := H
      exact ⟨[u], us', L1, L2, rfl, rfl, h1, h2⟩
    · simp only [Option.some.injEq, Prod.mk.injEq] at hd
      obtain ⟨rfl, rfl⟩ := hd
      obtain ⟨u, us', L1, L2, rfl, rfl, ⟨rfl, rfl⟩, h2⟩ := H
      exact ⟨[_], us', [], L2, rfl, rfl, ⟨_, rfl, .inl ⟨rfl, rfl, rfl⟩⟩, h2⟩
theorem CT.dec1 {t : Ty} {cs : List TV} {x : den t} {us : List Value} {L : List Nat} (hd : dec1 t cs = some x) (H : CT w imm ok cs us L) : TRl w imm ok t x us L := by
  unfold Go.Tw.dec1 at hd
  split at hd
  · rename_i y hy
    simp only [Option.some.injEq] at hd; subst hd
    obtain ⟨us1, us2, L1, L2, rfl, rfl, h1, h2⟩ := CT.dec hy H
    obtain ⟨rfl, rfl⟩ := h2
    simpa using h1
  · simp at hd
theorem CR1.vr {x : TV} {v : Value} (H : CR1 w imm ok x v []) : VR w imm ok μ h n x v := by
  cases x with
  | p u => simpa [VR] using H.1
  | tr t l => simp only [VR]; exact H
  | _ => exact H.elim
theorem nil_app {L1 L2 : List Nat} (h : [] = L1 ++ L2) : L1 = [] ∧ L2 = [] := List.append_eq_nil_iff.1 h.symm
theorem CT.vrl : ∀ {cs : List TV} {us : List Value}, CT w imm ok cs us [] → VRl w imm ok μ h n cs us
  | [], us, H => by simp [VRl, H.1]
  | c :: cs, us, H => by
    obtain ⟨u, us', L1, L2, rfl, hL, h1, h2⟩ := H
    obtain ⟨rfl, rfl⟩ := nil_app hL
    simp only [VRl]; exact ⟨u, us', rfl, h1.vr, CT.vrl h2⟩
theorem CT.pmap : ∀ l : List Value, CT w imm ok (l.map .p) l []
  | [] => ⟨rfl, rfl⟩
  | x :: l => ⟨x, l, [], [], rfl, rfl, ⟨rfl, rfl⟩, CT.pmap l⟩
theorem CT.of_vrl : ∀ {cs : List TV} {us : List Value}, flatB cs = true → VRl w imm ok μ h n cs us → CT w imm ok cs us []
  | [], us, _, H => by simp only [VRl] at H; exact ⟨H, rfl⟩
  | .p u :: cs, us, hf, H => by
    simp only [VRl, VR] at H
    obtain ⟨v, us', rfl, rfl, h2⟩ := H
    exact ⟨_, us', [], [], rfl, rfl, ⟨rfl, rfl⟩, CT.of_vrl (by simpa [flatB] using hf) h2⟩
  | .tr t l :: cs, us, hf, H => by
    simp only [VRl, VR] at H
    obtain ⟨v, us', rfl, h1, h2⟩ := H
    exact ⟨_, us', [], [], rfl, rfl, h1, CT.of_vrl (by simpa [flatB] using hf) h2⟩
  | .full _ :: _, _, hf, _ => by simp [flatB] at hf
  | .sub _ _ _ :: _, _, hf, _ => by simp [flatB] at hf
  | .inn _ _ _ :: _, _, hf, _ => by simp [flatB] at hf
  | .ptr _ _ _ :: _, _, hf, _ => by simp [flatB] at hf
  | .iptr _ _ _ _ :: _, _, hf, _ => by simp [flatB] at hf
  | .agg _ :: _, _, hf, _ => by simp [flatB] at hf
  | .tup _ :: _, _, hf, _ => by simp [flatB] at hf
  | .ifc _ _ :: _, _, hf, _ => by simp [flatB] at hf
  | .fn _ _ _ :: _, _, hf, _ => by simp [flatB] at hf
  | .mp _ :: _, _, hf, _ => by simp [flatB] at hf
  | .undef :: _, _, hf, _ => by simp [flatB] at hf

/-- A tree whose blocks do not turn, seen as borrowed. -/
theorem TRl.lent (hi : ∀ b, imm b → imm' b) : ∀ {t : Ty} {x : den t} {us : List Value} {L : List Nat}, (∀ b ∈ L, imm' b) → TRl w imm ok t x us L → TRl w imm' ok' t x us []
  | .int _, _, _, _, _, h => ⟨h.1, rfl⟩
  | .bool, _, _, _, _, h => ⟨h.1, rfl⟩
  | .str, _, _, _, _, h => ⟨h.1, rfl⟩
  | .un, _, _, _, _, h => ⟨h.1, rfl⟩
  | .pr a b, x, us, L, hL, h => by
    obtain ⟨u1, u2, L1, L2, rfl, rfl, h1, h2⟩ := h
    exact ⟨u1, u2, [], [], rfl, rfl, TRl.lent hi (fun b hb => hL b (by simp [hb])) h1, TRl.lent hi (fun b hb => hL b (by simp [hb])) h2⟩
  | .sl t, l, us, L, hL, h => by
    obtain ⟨v, rfl, h⟩ := h
    refine ⟨v, rfl, ?_⟩
    rcases h with ⟨h1, h2, _⟩ | ⟨A, cap, L', h1, h2, h3, h4⟩
    · exact .inl ⟨h1, h2, rfl⟩
    · refine .inr ⟨A, cap, [], h1, h2, ?_, .inl ⟨rfl, rfl, ?_, ?_⟩⟩
      · have hL' : ∀ k ∈ L', imm' k := by
          rcases h4 with ⟨_, rfl, _⟩ | ⟨rfl, _⟩
          · simp
          · exact fun k hk => hL k (by simp [hk])
        clear h1 h2 h4 hL
        generalize A.off = o at h3
        induction l generalizing o L' with
        | nil => simp [RL]
        | cons y l ih =>
          simp only [RL] at h3 ⊢
          obtain ⟨La, Lb, rfl, ⟨us, g1, g2⟩, g3⟩ := h3
          exact ⟨[], [], rfl, ⟨us, TRl.lent hi (fun k hk => hL' k (by simp [hk])) g1, g2⟩, ih _ (fun k hk => hL' k (by simp [hk])) _ g3⟩
      · rcases h4 with ⟨_, _, ⟨b0, h0⟩, h4⟩ | ⟨rfl, h4, _⟩
        · exact ⟨b0, hi _ h0⟩
        · exact ⟨A.block, hL _ (by simp)⟩
      · rcases h4 with ⟨_, _, _, h4⟩ | ⟨rfl, h4, _⟩
        · exact fun hl => ⟨(h4 hl).1, hi _ (h4 hl).2⟩
        · exact fun _ => ⟨h4, hL _ (by simp)⟩

theorem RL.lent {t : Ty} (hi : ∀ b, imm b → imm' b) : ∀ {l : List (den t)} {b o : Nat} {L : List Nat}, (∀ k ∈ L, imm' k) → RL (TRc w imm ok t) (sz t) l b o L → RL (TRc w imm' ok' t) (sz t) l b o []
  | [], _, _, _, _, _ => rfl
  | x :: l, b, o, L, hL, h => by
    simp only [RL] at h ⊢
    obtain ⟨L1, L2, rfl, ⟨us, g1, g2⟩, g3⟩ := h
    exact ⟨[], [], rfl, ⟨us, TRl.lent hi (fun k hk => hL k (by simp [hk])) g1, g2⟩, RL.lent hi (fun k hk => hL k (by simp [hk])) g3⟩
/-- A region's slice, as a tree that owns nothing. -/
theorem SlR.tree {m : Mu} {t : Ty} {l : List (den t)} {off len : Nat} {v : Value} {L : List Nat} (H : SlR w m (sz t) off len v) (hle : off + len ≤ l.length) (hii : ∀ b, imm b → imm' b)
    (hR : m.bk = true → RL (TRc w imm ok t) (sz t) l m.blk m.off L ∧ (∀ b ∈ L, imm' b) ∧ imm' m.blk) : TRl w imm' ok' (.sl t) ((l.drop off).take len) [v] [] := by
  refine ⟨v, rfl, ?_⟩
  have hlen : ((l.drop off).take len).length = len := by simp; omega
  rcases H with ⟨rfl, rfl⟩ | ⟨o, cap, rfl, h1, h2, h3, h4⟩
  · exact .inl ⟨rfl, by simp, rfl⟩
  · obtain ⟨q1, q2, q3⟩ := hR h2
    refine .inr ⟨_, cap, [], by rw [hlen], by omega, ?_, .inl ⟨rfl, rfl, ⟨_, q3⟩, fun _ => ⟨rfl, q3⟩⟩⟩
    obtain ⟨L1, L2, L3, rfl, hs⟩ := RL.sub off len (by omega) q1
    rcases Nat.eq_zero_or_pos cap with hz | hp
    · have hl0 : len = 0 := by omega
      subst hl0; simp [RL]
    · simp only; rw [(h4 hp).1]; exact RL.lent hii (fun k hk => q2 k (by simp [hk])) hs
end
end Go.Tw
