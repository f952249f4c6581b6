/- A step of the typed logic of this claim is proved here: what an operation does to the data that slots and memory stand for. -/
import Derived.Test.YtmjacadeccoclaaT6
set_option linter.all false
namespace Go.Tw
open Go Go.RowKit

section
variable {w : World} {imm ok : Nat → Prop} {μ : Nat → Mu} {h : Heap} {n : Nat}

theorem enc_hasSl : ∀ {t : Ty} {x : den t} {t' : Ty} {l : List (den t')}, TV.tr t' l ∈ encT t x → hasSl t = true
  | .int _, _, _, _, H => by simp [encT] at H
  | .bool, _, _, _, H => by simp [encT] at H
  | .str, _, _, _, H => by simp [encT] at H
  | .un, _, _, _, H => by simp [encT] at H
  | .pr a b, x, t', l, H => by
    simp only [encT, List.mem_append] at H
    simp only [hasSl, Bool.or_eq_true]
    rcases H with H | H
    · exact .inl (enc_hasSl H)
    · exact .inr (enc_hasSl H)
  | .sl t, _, _, _, H => rfl
  | .ref t, _, _, _, H => rfl
  | .cl g t, _, _, _, H => rfl
theorem inn_vr {r i : Nat} {fr : Bool} {t : Ty} {l : List (den t)} {im ok' : Nat → Prop} (hr : r < n) (hil : i < l.length) (hg : hget h r = some (.row fr t l)) (hb : (μ r).bk = true) : ∀ {cs : List TV} {us : List Value} {L : List Nat} {off : Nat},
    (∀ t' l', TV.tr t' l' ∈ cs → hasSl t = true) → CT w im ok' cs us L → At w (μ r).blk ((μ r).off + i * sz t + off) us → VRl w imm ok μ h n (innL r i off cs) us
  | [], us, L, off, _, H, _ => by simp [innL, VRl, H.1]
  | c :: cs, us, L, off, hs, H, ha => by
    obtain ⟨u, us', L1, L2, rfl, rfl, h1, h2⟩ := H
    obtain ⟨a1, a2⟩ := At.cons.1 ha
    have ih := inn_vr hr hil hg hb (off := off + 1) (fun t' l' hm => hs t' l' (by simp [hm])) h2 (by rwa [show (μ r).off + i * sz t + (off + 1) = (μ r).off + i * sz t + off + 1 by omega])
    cases c with
    | p v => simp only [innL, VRl]; exact ⟨u, us', rfl, by simpa [VR] using h1.1, ih⟩
    | tr t' l' =>
      simp only [innL, VRl]
      refine ⟨u, us', rfl, ?_, ih⟩
      simp only [VR, hg]
      obtain ⟨v, e, hv⟩ := h1
      simp only [List.cons.injEq, and_true] at e
      subst e
      exact ⟨hr, hv.one, hs t' l' (by simp), hil, hb, a1⟩
    | iptr => simp only [innL, VRl]; exact ⟨u, us', rfl, by simp [VR], ih⟩
    | fn => simp only [innL, VRl]; exact ⟨u, us', rfl, by simp [VR], ih⟩
    | _ => exact h1.elim

/-- A region's row, with its blocks. -/
theorem RR.rowd {r : Nat} {fr : Bool} {t : Ty} {l : List (den t)} {L : List Nat} (H : RR w imm ok μ h n r (.row fr t l) L) : (μ r).bk = true → ∃ L', L = (μ r).blk :: L' ∧ ok (μ r).blk ∧ Row w (μ r).blk ((μ r).off + l.length * sz t) ∧ RL (TRc w (immf fr imm) ok t) (sz t) l (μ r).blk (μ r).off L' := by
  intro hb
  simp only [RR] at H
  rcases H with ⟨h1, _⟩ | ⟨_, H⟩
  · rw [hb] at h1; simp at h1
  · exact H
theorem RR.bk {r : Nat} {fr : Bool} {t : Ty} {l : List (den t)} {L : List Nat} (H : RR w imm ok μ h n r (.row fr t l) L) (hl : l ≠ []) : (μ r).bk = true := by
  simp only [RR] at H
  rcases H with ⟨_, h1, _⟩ | ⟨h1, _⟩
  · exact absurd h1 hl
  · exact h1
theorem HR.lt {D : List Nat} (H : HR w imm ok μ h n D) {r : Nat} {x : Reg} (hg : hget h r = some x) : r < n := by
  obtain ⟨own, H, _⟩ := H; exact (H r x hg).1

/-- What is seen of a value in a quiet moment. -/
theorem frzC_I {I ok' : Nat → Prop} (H : ∀ r x, hget h r = some x → ∃ L, RR w imm ok μ h n r x L ∧ ∀ b ∈ L, I b) (hlt : ∀ b, imm b → I b) : ∀ {c f : TV} {v : Value}, frzC h c = some f → VR w imm ok μ h n c v → CR1 w I ok' f v [] := by
  intro c f v hf hv
  unfold frzC at hf
  split at hf
  · simp only [Option.some.injEq] at hf; subst hf; exact ⟨by simpa [VR] using hv, rfl⟩
  · simp only [Option.some.injEq] at hf; subst hf
    simp only [VR] at hv
    exact TRl.lent (t := .sl _) hlt (by simp) hv
  · rename_i r
    split at hf
    · rename_i fr t l hg
      simp only [Option.some.injEq] at hf; subst hf
      simp only [VR, hg] at hv
      obtain ⟨L, hR, hLI⟩ := H r _ hg
      have := SlR.tree (imm := immf fr imm) (ok := ok) (imm' := I) (ok' := ok') (l := l) hv.2 (by omega) (fun b hb => hlt b hb.2) (L := L.tail) (fun hb => by
        obtain ⟨L', rfl, g1, g2, g3⟩ := hR.rowd hb
        exact ⟨g3, fun b hb => hLI b (by simp at hb; simp [hb]), hLI _ (by simp)⟩)
      simp only [List.drop_zero, List.take_length] at this; exact this
    · simp at hf
  · rename_i r off len
    split at hf
    · rename_i fr t l hg
      simp only [Option.some.injEq] at hf; subst hf
      simp only [VR, hg] at hv
      obtain ⟨L, hR, hLI⟩ := H r _ hg
      exact SlR.tree (imm := immf fr imm) (ok := ok) (l := l) hv.2.2 hv.2.1 (fun b hb => hlt b hb.2) (L := L.tail) (fun hb => by
        obtain ⟨L', rfl, g1, g2, g3⟩ := hR.rowd hb
        exact ⟨g3, fun b hb => hLI b (by simp at hb; simp [hb]), hLI _ (by simp)⟩)
    · simp at hf
  · rename_i r i off
    split at hf
    · rename_i fr t l hg
      split at hf
      · rename_i t' l' he
        simp only [Option.some.injEq] at hf; subst hf
        simp only [VR, hg] at hv
        obtain ⟨hr, h0, g1, hil, g2, g3⟩ := hv
        obtain ⟨L, hR, hLI⟩ := H r _ hg
        obtain ⟨L', rfl, k1, k2, k3⟩ := hR.rowd g2
        obtain ⟨La, Lb, Lc, e, m1, ⟨us, m2, m3⟩, m4⟩ := RL.at (dflt t) hil k3
        have hct := m2.toCT
        have hdrop : ∃ cs, (encT t (l.getD i (dflt t))) = (encT t (l.getD i (dflt t))).take off ++ (.tr t' l' :: cs) := by
          cases hd : (encT t (l.getD i (dflt t))).drop off with
          | nil => rw [hd] at he; simp at he
          | cons y ys => rw [hd] at he; simp at he; subst he; exact ⟨ys, by rw [← hd]; simp⟩
        obtain ⟨cs, hcs⟩ := hdrop
        rw [hcs] at hct
        obtain ⟨us1, us2, L1, L2, rfl, rfl, c1, u, us', L3, L4, rfl, rfl, c2, c3⟩ := CT.app.1 hct
        have hl1 := c1.length
        have hofl : off < (encT t (l.getD i (dflt t))).length := by
          rcases Nat.lt_or_ge off (encT t (l.getD i (dflt t))).length with hl | hl
          · exact hl
          · rw [List.drop_of_length_le hl] at he; simp at he
        have hol : us1.length = off := by rw [hl1, List.length_take]; omega
        obtain ⟨_, a2⟩ := At.app.1 m3
        obtain ⟨a3, _⟩ := At.cons.1 a2
        rw [hol] at a3
        rw [a3] at g3
        simp only [Option.some.injEq] at g3; subst g3
        exact TRl.lent (t := .sl _) (fun b hb => hlt b hb.2) (fun b hb => hLI b (by rw [e]; simp [hb])) c2
      · simp at hf
    · simp at hf
  · simp at hf
theorem HR.rowI {D : List Nat} (H : HR w imm ok μ h n D) : ∀ r x, hget h r = some x → ∃ L, RR w imm ok μ h n r x L ∧ ∀ b ∈ L, b < w.heap.size ∧ b ∉ D := by
  intro r x hx
  obtain ⟨own, H, hD⟩ := H
  obtain ⟨_, L, hR, _, ho⟩ := H r x hx
  exact ⟨L, hR, fun b hb => ⟨(hR.blocks b hb).2, fun hd => by have := hD.2 b hd; rw [ho b hb] at this; simp at this⟩⟩
theorem frzC_ok {D : List Nat} (H : HR w imm ok μ h n D) (hlt : ∀ b, imm b → b < w.heap.size) {c f : TV} {v : Value} (hf : frzC h c = some f) (hv : VR w imm ok μ h n c v) : CR1 w (· < w.heap.size) (fun b => w.heap.size ≤ b) f v [] :=
  frzC_I (I := (· < w.heap.size)) (fun r x hx => by obtain ⟨L, h1, h2⟩ := H.rowI r x hx; exact ⟨L, h1, fun b hb => (h2 b hb).1⟩) hlt hf hv
end
end Go.Tw
