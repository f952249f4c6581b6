/- A step of the typed logic of this claim is proved here: what an operation does to the data that slots and memory stand for. -/
import Derived.Test.YtmjacadeccoclaaT18g
set_option linter.all false
namespace Go.Tw
open Go Go.RowKit

section
variable {w w' : World} {imm imm' ok ok' : Nat → Prop} {μ μ' : Nat → Mu} {h h' : Heap} {n n' : Nat}
theorem TRl.rk : ∀ {t : Ty} {x : den t} {us : List Value} {L : List Nat}, (∀ b ∈ L, ok' b) → TRl w imm ok t x us L → TRl w imm ok' t x us L
  | .int _, _, _, _, _, H => H
  | .bool, _, _, _, _, H => H
  | .str, _, _, _, _, H => H
  | .un, _, _, _, _, H => H
  | .pr a b, x, us, L, hL, H => by
    obtain ⟨u1, u2, L1, L2, rfl, rfl, h1, h2⟩ := H
    exact ⟨u1, u2, L1, L2, rfl, rfl, TRl.rk (fun b hb => hL b (by simp [hb])) h1, TRl.rk (fun b hb => hL b (by simp [hb])) h2⟩
  | .sl t, l, us, L, hL, H => by
    obtain ⟨v, rfl, H⟩ := H
    refine ⟨v, rfl, ?_⟩
    rcases H with H | ⟨A, cap, L', h1, h2, h3, h4⟩
    · exact .inl H
    · refine .inr ⟨A, cap, L', h1, h2, ?_, ?_⟩
      · have hL' : ∀ b ∈ L', ok' b := by
          rcases h4 with ⟨_, rfl, _⟩ | ⟨rfl, _⟩
          · simp
          · exact fun b hb => hL b (by simp [hb])
        exact RL.imp (fun x _ o L'' hl ⟨us, g1, g2⟩ => ⟨us, TRl.rk (fun b hb => hL' b (hl b hb)) g1, g2⟩) h3
      · rcases h4 with h4 | ⟨rfl, g1, _, g3⟩
        · exact .inl h4
        · exact .inr ⟨rfl, g1, hL _ (by simp), g3⟩
  | .ref t, x, us, L, hL, H => by
    obtain ⟨b, o, vs, rfl, rfl, h1, h2, h3⟩ := H
    exact ⟨b, o, vs, rfl, rfl, h1, TRl.rk (by simp) h2, h3⟩
  | .cl g t, x, us, L, hL, H => by
    obtain ⟨vs, rfl, rfl, h1⟩ := H
    exact ⟨vs, rfl, rfl, TRl.rk (by simp) h1⟩
mutual
theorem VR.reok : ∀ (x : TV) (v : Value), VR w imm ok μ h n x v → VR w imm ok' μ h n x v
  | .p u, v, H => by simpa [VR] using H
  | .tr t l, v, H => by simp only [VR] at H ⊢; exact H.rk (by simp)
  | .full r, v, H => by simpa only [VR] using H
  | .sub r off len, v, H => by simpa only [VR] using H
  | .inn r i off, v, H => by simpa only [VR] using H
  | .ptr r i off, v, H => by simpa only [VR] using H
  | .iptr t l i off, v, H => by
    simp only [VR] at H ⊢
    obtain ⟨b, o, h1, h2, h3⟩ := H
    exact ⟨b, o, h1, h2, RL.imp (fun x _ o L'' hl ⟨us, g1, g2⟩ => ⟨us, g1.rk (fun b hb => by have := hl b hb; simp at this), g2⟩) h3⟩
  | .agg cs, v, H => by simp only [VR] at H ⊢; obtain ⟨us, h1, h2⟩ := H; exact ⟨us, h1, VRl.reok cs us h2⟩
  | .tup cs, v, H => by simp only [VR] at H ⊢; obtain ⟨us, h1, h2⟩ := H; exact ⟨us, h1, VRl.reok cs us h2⟩
  | .ifc t x, v, H => by simp only [VR] at H ⊢; obtain ⟨u, h1, h2⟩ := H; exact ⟨u, h1, VR.reok x u h2⟩
  | .fn f fi ca, v, H => by simp only [VR] at H ⊢; obtain ⟨us, vs, h1, h2, h3⟩ := H; exact ⟨us, vs, h1, VRl.reok fi us h2, VRl.reok ca vs h3⟩
  | .mp r, v, H => by simpa only [VR] using H
  | .undef, _, _ => by simp [VR]
theorem VRl.reok : ∀ (xs : List TV) (us : List Value), VRl w imm ok μ h n xs us → VRl w imm ok' μ h n xs us
  | [], us, H => by simpa [VRl] using H
  | x :: xs, us, H => by
    simp only [VRl] at H ⊢
    obtain ⟨u, us', h1, h2, h3⟩ := H
    exact ⟨u, us', h1, VR.reok x u h2, VRl.reok xs us' h3⟩
end
theorem RR.reok {r : Nat} {x : Reg} {L : List Nat} (hL : ∀ b ∈ L, ok' b) (H : RR w imm ok μ h n r x L) : RR w imm ok' μ h n r x L := by
  cases x with
  | row fr t l =>
    simp only [RR] at H ⊢
    rcases H with H | ⟨h1, L', rfl, h2, h3, h4⟩
    · exact .inl H
    · exact .inr ⟨h1, L', rfl, hL _ (by simp), h3, RL.imp (fun x _ o L'' hl ⟨us, g1, g2⟩ => ⟨us, g1.rk (fun b hb => hL b (by simp [hl b hb])), g2⟩) h4⟩
  | box cs =>
    simp only [RR] at H ⊢
    obtain ⟨rfl, h1, h2, us, h3, h4⟩ := H
    exact ⟨rfl, hL _ (by simp), h2, us, VRl.reok _ _ h3, h4⟩
  | mp k l =>
    simp only [RR] at H ⊢
    obtain ⟨rfl, h1, h2⟩ := H
    exact ⟨rfl, hL _ (by simp), h2⟩
/-- What is held aside is out of reach. -/
theorem HR.frame_out {D : List Nat} (H : HR w imm ok μ h n D) : HR w imm (fun b => ok b ∧ b ∉ D) μ h n [] := by
  obtain ⟨own, H, h1, h2⟩ := H
  refine ⟨own, fun r x hx => ?_, by simp, by simp⟩
  obtain ⟨ha, L, hR, hn, ho⟩ := H r x hx
  exact ⟨ha, L, hR.reok fun b hb => ⟨(hR.blocks b hb).1, fun hd => by have e1 := h2 b hd; rw [ho b hb] at e1; simp at e1⟩, hn, ho⟩
theorem HR.frame_in {D E : List Nat} (H : HR w imm ok' μ h n E) (hok : ∀ b, ok' b → ok b ∧ b ∉ D) (hE : ∀ b ∈ E, b ∉ D) (hD : D.Nodup) : HR w imm ok μ h n (E ++ D) := by
  obtain ⟨own, H, h1, h2⟩ := H
  refine ⟨fun b => if b ∈ D then none else own b, fun r x hx => ?_, List.nodup_append.2 ⟨h1, hD, fun a ha b hb e => by subst e; exact hE a ha hb⟩, fun b hb => ?_⟩
  · obtain ⟨ha, L, hR, hn, ho⟩ := H r x hx
    exact ⟨ha, L, hR.reok fun b hb => (hok b (hR.blocks b hb).1).1, hn, fun b hb => by
      show (if b ∈ D then none else own b) = some r
      rw [if_neg (hok b (hR.blocks b hb).1).2]; exact ho b hb⟩
  · show (if b ∈ D then none else own b) = none
    rcases List.mem_append.1 hb with hb | hb
    · split
      · rfl
      · exact h2 b hb
    · rw [if_pos hb]
mutual
/-- A new number is not meant by what was there. -/
theorem VR.low {im ik : Nat → Prop} {w0 : World} {μ0 : Nat → Mu} {reg : Reg} (hn : hget h n = none) : ∀ (x : TV) (v v' : Value), VR w0 im ik μ0 h n x v → VR w imm ok μ ((n, reg) :: h) (n + 1) x v' → VR w imm ok μ h n x v'
  | .p u, v, v', _, H => by simpa [VR] using H
  | .tr t l, v, v', _, H => by simpa only [VR] using H
  | .full r, v, v', H0, H => by
    simp only [VR] at H0 H ⊢
    have hne : r ≠ n := by omega
    refine ⟨H0.1, ?_⟩
    have := H.2
    simp only [hget, hne, ↓reduceIte] at this; exact this
  | .sub r off len, v, v', H0, H => by
    simp only [VR] at H0 H ⊢
    have hne : r ≠ n := by omega
    refine ⟨H0.1, ?_⟩
    have := H.2
    simp only [hget, hne, ↓reduceIte] at this; exact this
  | .inn r i off, v, v', H0, H => by
    simp only [VR] at H0 H ⊢
    have hne : r ≠ n := by omega
    refine ⟨H0.1, H.2.1, ?_⟩
    have := H.2.2
    simp only [hget, hne, ↓reduceIte] at this; exact this
  | .ptr r i off, v, v', H0, H => by
    simp only [VR] at H0 H ⊢
    have hne : r ≠ n := by omega
    refine ⟨H0.1, ?_⟩
    obtain ⟨_, A, h1, h2⟩ := H
    simp only [hget, hne, ↓reduceIte] at h2
    exact ⟨A, h1, h2⟩
  | .iptr t l i off, v, v', _, H => by simpa only [VR] using H
  | .agg cs, v, v', H0, H => by
    simp only [VR] at H0 H ⊢
    obtain ⟨us0, _, g0⟩ := H0
    obtain ⟨us, h1, h2⟩ := H
    exact ⟨us, h1, VRl.low hn cs us0 us g0 h2⟩
  | .tup cs, v, v', H0, H => by
    simp only [VR] at H0 H ⊢
    obtain ⟨us0, _, g0⟩ := H0
    obtain ⟨us, h1, h2⟩ := H
    exact ⟨us, h1, VRl.low hn cs us0 us g0 h2⟩
  | .ifc t x, v, v', H0, H => by
    simp only [VR] at H0 H ⊢
    obtain ⟨u0, _, g0⟩ := H0
    obtain ⟨u, h1, h2⟩ := H
    exact ⟨u, h1, VR.low hn x u0 u g0 h2⟩
  | .fn f fi ca, v, v', H0, H => by
    simp only [VR] at H0 H ⊢
    obtain ⟨us0, vs0, _, g0, g1⟩ := H0
    obtain ⟨us, vs, h1, h2, h3⟩ := H
    exact ⟨us, vs, h1, VRl.low hn fi us0 us g0 h2, VRl.low hn ca vs0 vs g1 h3⟩
  | .mp r, v, v', H0, H => by
    simp only [VR] at H0 H ⊢
    have hne : r ≠ n := by omega
    refine ⟨H0.1, ?_⟩
    obtain ⟨_, A, h1, h2⟩ := H
    simp only [hget, hne, ↓reduceIte] at h2
    exact ⟨A, h1, h2⟩
  | .undef, _, _, _, _ => by simp [VR]
theorem VRl.low {im ik : Nat → Prop} {w0 : World} {μ0 : Nat → Mu} {reg : Reg} (hn : hget h n = none) : ∀ (xs : List TV) (us us' : List Value), VRl w0 im ik μ0 h n xs us → VRl w imm ok μ ((n, reg) :: h) (n + 1) xs us' → VRl w imm ok μ h n xs us'
  | [], us, us', _, H => by simpa [VRl] using H
  | x :: xs, us, us', H0, H => by
    simp only [VRl] at H0 H ⊢
    obtain ⟨u0, us0, _, g1, g2⟩ := H0
    obtain ⟨u, us1, h1, h2, h3⟩ := H
    exact ⟨u, us1, h1, VR.low hn x u0 u g1 h2, VRl.low hn xs us0 us1 g2 h3⟩
end
theorem HR.nomore {D : List Nat} (H : HR w imm ok μ h n D) : hget h n = none := by
  cases hg : hget h n with
  | none => rfl
  | some x => exact absurd (H.lt hg) (by omega)
/-- The newest region is taken out again. -/
theorem HR.pop {im ik : Nat → Prop} {w0 : World} {μ0 : Nat → Mu} {reg : Reg} (H0 : HR w0 im ik μ0 h n []) (H : HR w imm ok μ ((n, reg) :: h) (n + 1) []) :
    ∃ L, RR w imm ok μ ((n, reg) :: h) (n + 1) n reg L ∧ HR w imm ok μ h n L := by
  have hn := H0.nomore
  obtain ⟨own, H, _⟩ := H
  obtain ⟨own0, H0, _⟩ := H0
  obtain ⟨_, L, hR, hnd, ho⟩ := H n reg (by simp [hget])
  refine ⟨L, hR, fun b => if own b = some n then none else own b, fun r x hx => ?_, hnd, fun b hb => by
    show (if own b = some n then none else own b) = none
    rw [if_pos (ho b hb)]⟩
  obtain ⟨hr, L0, hR0, _⟩ := H0 r x hx
  have hne : r ≠ n := by omega
  obtain ⟨_, L1, hR1, hn1, ho1⟩ := H r x (by simp only [hget, hne, ↓reduceIte]; exact hx)
  refine ⟨hr, L1, ?_, hn1, fun b hb => ?_⟩
  · cases x with
    | row fr t l => simpa only [RR] using hR1
    | mp k l => simpa only [RR] using hR1
    | box cs =>
      simp only [RR] at hR1 hR0 ⊢
      obtain ⟨e1, h1, h2, us, h3, h4⟩ := hR1
      obtain ⟨_, _, _, us0, g3, _⟩ := hR0
      exact ⟨e1, h1, h2, us, VRl.low hn cs us0 us g3 h3, h4⟩
  · show (if own b = some n then none else own b) = some r
    rw [ho1 b hb, if_neg (by simpa using hne)]

/-- A thing that was made and has no number yet. -/
def PR (w : World) (imm ok : Nat → Prop) : Reg → Value → List Nat → Prop
  | .row fr t l, v, L => ∃ m : Mu, RR w imm ok (fun _ => m) [] 1 0 (.row fr t l) L ∧ SlR w m (sz t) 0 l.length v
  | .box cs, v, L => ∃ b o us, v = .pointer (some ⟨b, o, none⟩) ∧ L = [b] ∧ ok b ∧ Row w b (o + cs.length) ∧ CT w imm ok cs us [] ∧ At w b o us
  | .mp k l, v, L => ∃ b, v = .map (some b) ∧ L = [b] ∧ ok b ∧ MapAt w b k l
theorem PR.mono {reg : Reg} {v : Value} {L : List Nat} (hs : Step imm w w') (hL : ∀ b ∈ L, w'.heap[b]? = w.heap[b]?) (H : PR w imm ok reg v L) : PR w' imm ok reg v L := by
  cases reg with
  | row fr t l =>
    obtain ⟨m, h1, h2⟩ := H
    refine ⟨m, ?_, h2.mono hs.row⟩
    exact RR.mono (K := fun _ => True) ⟨hs, fun _ h => h, fun _ h => h, fun _ _ => rfl, Nat.le_refl _, fun _ _ => Fit.refl _, fun r fr t l _ _ hg => by simp [hget] at hg⟩ (by omega) trivial hL h1
  | box cs =>
    obtain ⟨b, o, us, h1, rfl, h3, h4, h5, h6⟩ := H
    exact ⟨b, o, us, h1, rfl, h3, hs.row _ _ h4, h5.mono (fun _ h => h) (fun _ h => h) hs.low (by simp), h6.same (hL b (by simp))⟩
  | mp k l =>
    obtain ⟨b, h1, rfl, h3, h4⟩ := H
    exact ⟨b, h1, rfl, h3, h4.same (hL b (by simp))⟩
theorem PR.blocks {reg : Reg} {v : Value} {L : List Nat} (H : PR w imm ok reg v L) : ∀ b ∈ L, ok b ∧ b < w.heap.size := by
  cases reg with
  | row fr t l => obtain ⟨m, h1, _⟩ := H; exact h1.blocks
  | box cs => obtain ⟨b, o, us, h1, rfl, h3, h4, _⟩ := H; intro k hk; simp at hk; subst hk; exact ⟨h3, h4.lt⟩
  | mp k l => obtain ⟨b, h1, rfl, h3, h4⟩ := H; intro k hk; simp at hk; subst hk; exact ⟨h3, h4.lt⟩
/-- It gets its number. -/
theorem PR.attach {reg : Reg} {v : Value} {L D : List Nat} (H : PR w imm ok reg v L) (HH : HR w imm ok μ h n (L ++ D)) :
    ∃ m, HR w imm ok (muP μ n m) ((n, reg) :: h) (n + 1) D ∧ VR w imm ok (muP μ n m) ((n, reg) :: h) (n + 1) (ptrOf reg n) v := by
  cases reg with
  | row fr t l =>
    obtain ⟨m, h1, h2⟩ := H
    refine ⟨m, HR.attach HH (Nat.le_refl _) (Nat.lt_succ_self _) (fun r hr => by simp [muP, show r ≠ n by omega]) ?_, ?_⟩
    · simp only [RR, muP_self] at h1 ⊢; exact h1
    · simp only [ptrOf, VR, hget, muP_self, ↓reduceIte]; exact ⟨by omega, h2⟩
  | box cs =>
    obtain ⟨b, o, us, rfl, rfl, h3, h4, h5, h6⟩ := H
    refine ⟨⟨b, o, true⟩, HR.attach HH (Nat.le_refl _) (Nat.lt_succ_self _) (fun r hr => by simp [muP, show r ≠ n by omega]) ?_, ?_⟩
    · simp only [RR, muP_self]; exact ⟨trivial, h3, h4, us, h5.vrl, h6⟩
    · simp only [ptrOf, VR, hget, muP_self, ↓reduceIte]; exact ⟨by omega, _, rfl, by simp⟩
  | mp k l =>
    obtain ⟨b, rfl, rfl, h3, h4⟩ := H
    refine ⟨⟨b, 0, true⟩, HR.attach HH (Nat.le_refl _) (Nat.lt_succ_self _) (fun r hr => by simp [muP, show r ≠ n by omega]) ?_, ?_⟩
    · simp only [RR, muP_self]; exact ⟨trivial, h3, h4⟩
    · simp only [ptrOf, VR, hget, muP_self, ↓reduceIte]; exact ⟨by omega, _, rfl, rfl⟩
/-- It was made just now. -/
theorem PR.of {reg : Reg} {v : Value} {L : List Nat} (hf : ∀ cs, reg = .box cs → flatB cs = true) (hR : RR w imm ok μ ((n, reg) :: h) (n + 1) n reg L) (hV : VR w imm ok μ ((n, reg) :: h) (n + 1) (ptrOf reg n) v) : PR w imm ok reg v L := by
  cases reg with
  | row fr t l =>
    simp only [ptrOf, VR, hget, ↓reduceIte] at hV
    refine ⟨μ n, ?_, hV.2⟩
    simp only [RR] at hR ⊢; exact hR
  | box cs =>
    simp only [ptrOf, VR, hget, ↓reduceIte] at hV
    obtain ⟨_, A, rfl, rfl⟩ := hV
    simp only [RR] at hR
    obtain ⟨rfl, h1, h2, us, h3, h4⟩ := hR
    exact ⟨_, _, us, by simp, rfl, h1, h2, CT.of_vrl (hf cs rfl) h3, h4⟩
  | mp k l =>
    simp only [ptrOf, VR, hget, ↓reduceIte] at hV
    obtain ⟨_, b, rfl, rfl⟩ := hV
    simp only [RR] at hR
    obtain ⟨rfl, h1, h2⟩ := hR
    exact ⟨_, rfl, rfl, h1, h2⟩
end
theorem flatB_pmap : ∀ l : List Value, flatB (l.map .p) = true
  | [] => rfl
  | v :: l => by simp only [List.map_cons, flatB, flatV, Bool.true_and]; exact flatB_pmap l
theorem alcS_flat {P : Program} {op : Op} {σ : Operand → TV} {reg : Reg} {c : Bool} (H : alcS P op σ = some (reg, c)) : ∀ cs, reg = .box cs → flatB cs = true := by
  rintro cs rfl
  cases op <;> simp only [alcS] at H <;> first | (simp at H; done) | skip
  case alloc t =>
    simp only [Option.bind_eq_some_iff] at H
    obtain ⟨z, _, H⟩ := H
    obtain ⟨_, H⟩ := cond_some.1 H
    simp only [Option.some.injEq, Prod.mk.injEq, Reg.box.injEq] at H
    rw [← H.1]; exact flatB_pmap z
  case box t x =>
    obtain ⟨hb, H⟩ := cond_some.1 H
    simp only [Option.some.injEq, Prod.mk.injEq, Reg.box.injEq] at H
    simp only [Bool.and_eq_true] at hb
    rw [← H.1]; exact hb.2
  case buildSlice t l ps =>
    split at H
    · obtain ⟨_, H⟩ := cond_some.1 H
      simp only [Option.bind_eq_some_iff, Option.map_eq_some_iff, Prod.mk.injEq] at H
      obtain ⟨_, _, _, _, h, _⟩ := H
      cases h
    · simp at H
  case makeSlice t l k =>
    split at H
    · simp only [Option.bind_eq_some_iff] at H
      obtain ⟨_, _, H⟩ := H
      obtain ⟨_, H⟩ := cond_some.1 H
      simp at H
    · simp at H
end Go.Tw
