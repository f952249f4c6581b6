/- A step of the typed logic of this claim is proved here: what an operation does to the data that slots and memory stand for. -/
import Derived.Test.YtmjacadeccoclaaT11
set_option linter.all false
namespace Go.Tw
open Go Go.RowKit

section
variable {w w' : World} {imm ok : Nat → Prop} {μ : Nat → Mu} {h : Heap} {n : Nat}

theorem immf_mono {f f' : Bool} (hf : f = false → f' = false) {b : Nat} (h : immf f imm b) : immf f' imm b := ⟨hf h.1, h.2⟩

/-- A region's slice, taken out as a tree. -/
theorem SlR.abs {r : Nat} {fr : Bool} {t : Ty} {l : List (den t)} {off len : Nat} {v : Value} {L : List Nat} (H : SlR w (μ r) (sz t) off len v) (hle : off + len ≤ l.length) (hR : RR w imm ok μ h n r (.row fr t l) L) :
    ∃ L', TRl w (immf fr imm) ok (.sl t) ((l.drop off).take len) [v] L' ∧ L'.Sublist L := by
  have hlen : ((l.drop off).take len).length = len := by simp; omega
  rcases H with ⟨rfl, rfl⟩ | ⟨o, cap, rfl, h1, h2, h3, h4⟩
  · exact ⟨[], ⟨_, rfl, .inl ⟨rfl, by simp, rfl⟩⟩, List.nil_sublist _⟩
  · obtain ⟨L', rfl, g1, g2, g3⟩ := hR.rowd h2
    obtain ⟨L1, L2, L3, rfl, hs⟩ := RL.sub off len (by omega) g3
    rcases Nat.eq_zero_or_pos cap with hz | hp
    · have hl0 : len = 0 := by omega
      subst hl0
      refine ⟨[(μ r).blk], ⟨_, rfl, .inr ⟨_, cap, [], by rw [hlen], by omega, by simp [RL], .inr ⟨rfl, rfl, g1, h3, fun hp => by omega⟩⟩⟩, by simp⟩
    · obtain ⟨rfl, h6⟩ := h4 hp
      refine ⟨(μ r).blk :: L2, ⟨_, rfl, .inr ⟨⟨(μ r).blk, (μ r).off + off * sz t, none⟩, cap, L2, by rw [hlen], by omega, hs, .inr ⟨rfl, rfl, g1, h3, fun _ => h6⟩⟩⟩, ?_⟩
      exact List.Sublist.cons_cons _ ((List.sublist_append_left L2 L3).trans (List.sublist_append_right L1 _))

theorem absC_ok {D : List Nat} {c f : TV} {v : Value} {fr : Bool} {h' : Heap} (H : HR w imm ok μ h n D) (hv : VR w imm ok μ h n c v) (ha : absC h c = some (f, fr, h')) :
    ∃ L, CR1 w (immf fr imm) ok f v L ∧ HR w imm ok μ h' n (L ++ D) ∧ ∀ r x, hget h' r = some x → hget h r = some x := by
  unfold absC at ha
  split at ha
  · simp only [Option.some.injEq, Prod.mk.injEq] at ha
    obtain ⟨rfl, rfl, rfl⟩ := ha
    exact ⟨[], ⟨by simpa [VR] using hv, rfl⟩, by simpa using H, fun _ _ h => h⟩
  · simp only [Option.some.injEq, Prod.mk.injEq] at ha
    obtain ⟨rfl, rfl, rfl⟩ := ha
    simp only [VR] at hv
    exact ⟨[], TRl.mono (t := .sl _) (fun b hb => ⟨rfl, hb⟩) (fun _ h => h) (fun _ _ => rfl) (by simp) hv, by simpa using H, fun _ _ h => h⟩
  · rename_i r
    split at ha
    · rename_i fr0 t l hg
      simp only [Option.some.injEq, Prod.mk.injEq] at ha
      obtain ⟨rfl, rfl, rfl⟩ := ha
      simp only [VR, hg] at hv
      obtain ⟨L, hR, H'⟩ := H.detach hg
      obtain ⟨L', h1, h2⟩ := SlR.abs (l := l) hv.2 (by omega) hR
      simp only [List.drop_zero, List.take_length] at h1
      exact ⟨L', h1, H'.dsub (List.Sublist.append h2 (List.Sublist.refl D)), fun _ _ => hsub_hdel⟩
    · simp at ha
  · rename_i r off len
    split at ha
    · rename_i fr0 t l hg
      simp only [Option.some.injEq, Prod.mk.injEq] at ha
      obtain ⟨rfl, rfl, rfl⟩ := ha
      simp only [VR, hg] at hv
      obtain ⟨L, hR, H'⟩ := H.detach hg
      obtain ⟨L', h1, h2⟩ := SlR.abs (l := l) hv.2.2 hv.2.1 hR
      exact ⟨L', h1, H'.dsub (List.Sublist.append h2 (List.Sublist.refl D)), fun _ _ => hsub_hdel⟩
    · simp at ha
  · simp at ha

theorem absL_ok : ∀ {cs fs : List TV} {us : List Value} {D : List Nat} {h : Heap} {fr : Bool} {h' : Heap}, HR w imm ok μ h n D → VRl w imm ok μ h n cs us → absL h cs = some (fs, fr, h') →
    ∃ L, CT w (immf fr imm) ok fs us L ∧ HR w imm ok μ h' n (L ++ D) ∧ ∀ r x, hget h' r = some x → hget h r = some x
  | [], fs, us, D, h, fr, h', H, hv, ha => by
    simp only [VRl] at hv; subst hv
    simp only [absL, Option.some.injEq, Prod.mk.injEq] at ha
    obtain ⟨rfl, rfl, rfl⟩ := ha
    exact ⟨[], ⟨rfl, rfl⟩, by simpa using H, fun _ _ h => h⟩
  | c :: cs, fs, us, D, h, fr, h', H, hv, ha => by
    simp only [VRl] at hv
    obtain ⟨u, us', rfl, h1, h2⟩ := hv
    simp only [absL, Option.bind_eq_some_iff, Option.some.injEq, Prod.mk.injEq] at ha
    obtain ⟨⟨f1, b1, hh1⟩, ha1, ⟨f2, b2, hh2⟩, ha2, rfl, rfl, rfl⟩ := ha
    obtain ⟨L1, g1, g2, g3⟩ := absC_ok H h1 ha1
    have h2' : VRl w imm ok μ hh1 n cs us' := VRl.mono (Kept.sub g3) _ _ (innOkl_true _) h2
    obtain ⟨L2, k1, k2, k3⟩ := absL_ok g2 h2' ha2
    refine ⟨L1 ++ L2, ⟨u, us', L1, L2, rfl, rfl, g1.mono (fun b hb => immf_mono (fun e => by simp [e]) hb) (fun _ h => h) (fun _ _ => rfl) (fun _ _ => rfl), k1.mono (fun b hb => immf_mono (fun e => by simp [e]) hb) (fun _ h => h) (fun _ _ => rfl) (fun _ _ => rfl)⟩, k2.dperm ?_, fun r x hx => g3 r x (k3 r x hx)⟩
    rw [← List.append_assoc]
    exact List.Perm.append_right _ List.perm_append_comm

/-! What is killed. -/
theorem hget_killH (r : Nat) : ∀ (h : Heap) (r' : Nat), hget (killH r h) r' = (hget h r').map fun x => match x with | .box cs => .box (killL r cs) | x => x
  | [], r' => rfl
  | (k, .box cs) :: h, r' => by simp only [killH, hget]; split <;> simp [hget_killH r h r']
  | (k, .mp q l) :: h, r' => by simp only [killH, hget]; split <;> simp [hget_killH r h r']
  | (k, .row fr t l) :: h, r' => by simp only [killH, hget]; split <;> simp [hget_killH r h r']
theorem sget_killS (r : Nat) : ∀ (s : List (Nat × TV)) (t : Nat), sget (killS r s) t = kill r (sget s t)
  | [], t => rfl
  | (k, x) :: s, t => by
    simp only [killS, sget]
    cases Nat.beq t k <;> simp [sget_killS r s t]
mutual
theorem VR.kill (r : Nat) : ∀ (x : TV) (v : Value), VR w imm ok μ h n x v → VR w imm ok μ h n (Tw.kill r x) v
  | .inn r' i off, v, H => by
    simp only [Tw.kill]
    cases Nat.beq r' r
    · exact H
    · simp [VR]
  | .agg cs, v, H => by simp only [Tw.kill, VR] at H ⊢; obtain ⟨us, e, H⟩ := H; exact ⟨us, e, VRl.kill r cs us H⟩
  | .tup cs, v, H => by simp only [Tw.kill, VR] at H ⊢; obtain ⟨us, e, H⟩ := H; exact ⟨us, e, VRl.kill r cs us H⟩
  | .ifc t x, v, H => by simp only [Tw.kill, VR] at H ⊢; obtain ⟨u, e, H⟩ := H; exact ⟨u, e, VR.kill r x u H⟩
  | .fn f fi ca, v, H => by simp only [Tw.kill, VR] at H ⊢; obtain ⟨us, vs, e, H1, H2⟩ := H; exact ⟨us, vs, e, VRl.kill r fi us H1, VRl.kill r ca vs H2⟩
  | .p _, v, H => H
  | .tr _ _, v, H => H
  | .full _, v, H => H
  | .sub _ _ _, v, H => H
  | .ptr _ _ _, v, H => H
  | .iptr _ _ _ _, v, H => H
  | .mp _, v, H => H
  | .undef, v, H => H
theorem VRl.kill (r : Nat) : ∀ (xs : List TV) (us : List Value), VRl w imm ok μ h n xs us → VRl w imm ok μ h n (killL r xs) us
  | [], us, H => H
  | x :: xs, us, H => by
    simp only [killL, VRl] at H ⊢
    obtain ⟨u, us', e, h1, h2⟩ := H
    exact ⟨u, us', e, VR.kill r x u h1, VRl.kill r xs us' h2⟩
end
mutual
theorem innOk_kill (r : Nat) : ∀ x, innOk (· ≠ r) (kill r x)
  | .inn r' i off => by
    simp only [kill]
    cases hb : Nat.beq r' r
    · simp only [cond_false, innOk]; intro e; subst e; simp at hb
    · trivial
  | .agg cs => by simp only [kill, innOk]; exact innOkl_kill r cs
  | .tup cs => by simp only [kill, innOk]; exact innOkl_kill r cs
  | .ifc t x => by simp only [kill, innOk]; exact innOk_kill r x
  | .fn f fi ca => by simp only [kill, innOk]; exact ⟨innOkl_kill r fi, innOkl_kill r ca⟩
  | .p _ => trivial
  | .tr _ _ => trivial
  | .full _ => trivial
  | .sub _ _ _ => trivial
  | .ptr _ _ _ => trivial
  | .iptr _ _ _ _ => trivial
  | .mp _ => trivial
  | .undef => trivial
theorem innOkl_kill (r : Nat) : ∀ xs, innOkl (· ≠ r) (killL r xs)
  | [] => trivial
  | x :: xs => ⟨innOk_kill r x, innOkl_kill r xs⟩
end
theorem killL_length (r : Nat) : ∀ xs : List TV, (killL r xs).length = xs.length
  | [] => rfl
  | x :: xs => by simp only [killL, List.length_cons, killL_length r xs]
theorem Kept.kill (r : Nat) : Kept (fun _ => True) imm imm ok ok w w μ μ h (killH r h) n n := by
  refine ⟨Step.refl _ _, fun _ h => h, fun _ h => h, fun _ _ => rfl, Nat.le_refl _, fun r' _ => ?_, fun _ _ _ _ _ _ _ _ _ => rfl⟩
  rw [hget_killH]
  cases hget h r' with
  | none => trivial
  | some x => cases x <;> simp [Fit]
theorem HR.kill {D : List Nat} (r : Nat) (H : HR w imm ok μ h n D) : HR w imm ok μ (killH r h) n D := by
  obtain ⟨own, H, hD⟩ := H
  refine ⟨own, fun r' x hx => ?_, hD⟩
  rw [hget_killH, Option.map_eq_some_iff] at hx
  obtain ⟨y, hy, rfl⟩ := hx
  obtain ⟨hr, L, hR, hn, ho⟩ := H r' y hy
  refine ⟨hr, L, ?_, hn, ho⟩
  have := RR.mono (Kept.kill (w := w) (imm := imm) (ok := ok) (μ := μ) (h := h) (n := n) r) hr (innOkR_true _) (fun _ _ => rfl) hR
  cases y with
  | row fr t l => exact this
  | mp k l => exact this
  | box cs =>
    simp only [RR] at this ⊢
    obtain ⟨h1, h2, h3, us, h4, h5⟩ := this
    exact ⟨h1, h2, by rw [killL_length]; exact h3, us, VRl.kill r _ _ h4, h5⟩
theorem HR.congr {D : List Nat} {h' : Heap} (hh : ∀ r, hget h' r = hget h r) (H : HR w imm ok μ h n D) : HR w imm ok μ h' n D :=
  H.sub (fun r x hx => by rw [← hh]; exact hx)

/-- A region is written; what was held aside (D1) may lie in it now. -/
theorem HR.write {D1 D : List Nat} {r : Nat} {x x' : Reg} {K : Nat → Prop} (H : HR w imm ok μ h n (D1 ++ D)) (hr : hget h r = some x) (hf : Fit (some x) (some x')) (hs : Step imm w w')
    (hw : ∀ b, b ≠ (μ r).blk → w'.heap[b]? = w.heap[b]?) (hblk : ∀ L, RR w imm ok μ h n r x L → (μ r).blk ∈ L) (hK : ∀ fr t l, K r → x = .row fr t l → hasSl t = false)
    (hbx : ∀ r' cs, r' ≠ r → hget h r' = some (.box cs) → innOkl K cs)
    (hh : ∀ L, Kept K imm imm ok ok w w' μ μ h (hset h r x') n n → RR w imm ok μ h n r x L → L.Nodup → (∀ b ∈ L, b ∉ D1) → D1.Nodup → ∃ L', RR w' imm ok μ (hset h r x') n r x' L' ∧ L'.Nodup ∧ ∀ b ∈ L', b ∈ L ∨ b ∈ D1) :
    HR w' imm ok μ (hset h r x') n D ∧ Kept K imm imm ok ok w w' μ μ h (hset h r x') n n := by
  obtain ⟨own, H, hD⟩ := H
  obtain ⟨hD1, hDn, hdis⟩ := List.nodup_append.1 hD.1
  obtain ⟨har, L, hR, hn, ho⟩ := H r x hr
  have hmem := hblk L hR
  have hob : own (μ r).blk = some r := ho _ hmem
  have kp : Kept K imm imm ok ok w w' μ μ h (hset h r x') n n := by
    refine ⟨hs, fun _ h => h, fun _ h => h, fun _ _ => rfl, Nat.le_refl _, fun r' _ => ?_, ?_⟩
    · rw [hget_hset]; split
      · subst_vars; rw [hr]; exact hf
      · exact Fit.refl _
    · intro r' fr t l hr' hKr hg hsl hbk
      obtain ⟨_, L1, hR1, _, ho1⟩ := H r' _ hg
      have h1 := ho1 _ (hR1.blk hbk)
      refine hw _ (fun e => ?_)
      rw [e, hob] at h1
      simp only [Option.some.injEq] at h1
      subst h1
      rw [hr] at hg
      simp only [Option.some.injEq] at hg
      rw [hK fr t l hKr hg] at hsl
      simp at hsl
  obtain ⟨L', hR', hn', hsub⟩ := hh L kp hR hn (fun b hb hb1 => by have h1 := hD.2 b (by simp [hb1]); rw [ho b hb] at h1; simp at h1) hD1
  refine ⟨⟨fun b => if b ∈ L' then some r else if own b = some r then none else own b, fun r' y hy => ?_, hDn, fun b hb => ?_⟩, kp⟩
  · rw [hget_hset] at hy
    split at hy
    · subst_vars
      simp only [Option.some.injEq] at hy; subst hy
      exact ⟨har, L', hR', hn', fun b hb => by simp [hb]⟩
    · rename_i hne
      obtain ⟨ha, L1, hR1, hn1, ho1⟩ := H r' y hy
      refine ⟨ha, L1, RR.mono kp ha ?_ (fun b hb => hw b ?_) hR1, hn1, fun b hb => ?_⟩
      · cases y with
        | row => trivial
        | mp => trivial
        | box cs => exact hbx r' cs hne hy
      · intro e; subst e
        have h1 := ho1 _ hb; rw [hob] at h1; simp at h1; exact hne h1.symm
      · have h1 := ho1 b hb
        have h2 : b ∉ L' := fun hm => by
          rcases hsub b hm with h3 | h3
          · rw [ho b h3] at h1; simp at h1; exact hne h1.symm
          · rw [hD.2 b (by simp [h3])] at h1; simp at h1
        simp [h2, h1, hne]
  · have h2 : b ∉ L' := fun hm => by
      rcases hsub b hm with h3 | h3
      · have h1 := hD.2 b (by simp [hb]); rw [ho b h3] at h1; simp at h1
      · exact hdis b h3 b hb rfl
    simp [h2, hD.2 b (by simp [hb])]
/-- A region's own memory is turned. -/
theorem HR.rewrite {D : List Nat} {r : Nat} {x : Reg} (H : HR w imm ok μ h n D) (hr : hget h r = some x) :
    ∃ L, RR w imm ok μ h n r x L ∧ L.Nodup ∧ (∀ b ∈ L, b ∉ D) ∧ (∀ r' y, r' ≠ r → hget h r' = some y → ∃ L1, RR w imm ok μ h n r' y L1 ∧ ∀ b ∈ L1, b < w.heap.size ∧ b ∉ L) ∧
      ∀ {w' : World} {x' : Reg} {K : Nat → Prop} {L' : List Nat}, Fit (some x) (some x') → Step imm w w' → (∀ b, b < w.heap.size → b ∉ L → w'.heap[b]? = w.heap[b]?) →
        (∀ fr t l, K r → x = .row fr t l → hasSl t = true → (μ r).bk = true → w'.heap[(μ r).blk]? = w.heap[(μ r).blk]?) → (∀ r' cs, r' ≠ r → hget h r' = some (.box cs) → innOkl K cs) → (∀ b ∈ D, b < w.heap.size) →
        (Kept K imm imm ok ok w w' μ μ h (hset h r x') n n → RR w' imm ok μ (hset h r x') n r x' L') → L'.Nodup → (∀ b ∈ L', b ∈ L ∨ w.heap.size ≤ b) → ∀ {E : List Nat}, E.Nodup → (∀ b ∈ E, b ∉ L' ∧ (b ∈ L ∨ w.heap.size ≤ b)) →
        HR w' imm ok μ (hset h r x') n (E ++ D) ∧ Kept K imm imm ok ok w w' μ μ h (hset h r x') n n := by
  obtain ⟨own, H, hD⟩ := H
  obtain ⟨har, L, hR, hn, ho⟩ := H r x hr
  refine ⟨L, hR, hn, fun b hb hd => by have := hD.2 b hd; rw [ho b hb] at this; simp at this, fun r' y hne hy => ?_, ?_⟩
  · obtain ⟨_, L1, hR1, _, ho1⟩ := H r' y hy
    exact ⟨L1, hR1, fun b hb => ⟨(hR1.blocks b hb).2, fun hb' => by have h1 := ho1 b hb; rw [ho b hb'] at h1; simp at h1; exact hne h1.symm⟩⟩
  intro w' x' K L' hf hs hw hK hbx hDl hh hn' hsub E hE1 hE2
  have kp : Kept K imm imm ok ok w w' μ μ h (hset h r x') n n := by
    refine ⟨hs, fun _ h => h, fun _ h => h, fun _ _ => rfl, Nat.le_refl _, fun r' _ => ?_, ?_⟩
    · rw [hget_hset]; split
      · subst_vars; rw [hr]; exact hf
      · exact Fit.refl _
    · intro r' fr t l hr' hKr hg hsl hbk
      by_cases hne : r' = r
      · subst hne
        rw [hr] at hg
        simp only [Option.some.injEq] at hg
        exact hK fr t l hKr hg hsl hbk
      · obtain ⟨_, L1, hR1, _, ho1⟩ := H r' _ hg
        have hm := hR1.blk hbk
        exact hw _ (hR1.blocks _ hm).2 (fun hb' => by have h1 := ho1 _ hm; rw [ho _ hb'] at h1; simp at h1; exact hne h1.symm)
  have hR' := hh kp
  refine ⟨⟨fun b => if b ∈ L' then some r else if own b = some r then none else if b < w.heap.size then own b else none, fun r' y hy => ?_, ?_, fun b hb => ?_⟩, kp⟩
  · rw [hget_hset] at hy
    split at hy
    · subst_vars
      simp only [Option.some.injEq] at hy; subst hy
      exact ⟨har, L', hR', hn', fun b hb => by simp [hb]⟩
    · rename_i hne
      obtain ⟨ha, L1, hR1, hn1, ho1⟩ := H r' y hy
      have hout : ∀ b ∈ L1, b < w.heap.size ∧ b ∉ L := fun b hb => ⟨(hR1.blocks b hb).2, fun hb' => by have h1 := ho1 b hb; rw [ho b hb'] at h1; simp at h1; exact hne h1.symm⟩
      refine ⟨ha, L1, RR.mono kp ha ?_ (fun b hb => hw b (hout b hb).1 (hout b hb).2) hR1, hn1, fun b hb => ?_⟩
      · cases y with
        | row => trivial
        | mp => trivial
        | box cs => exact hbx r' cs hne hy
      · have h1 := ho1 b hb
        have h2 : b ∉ L' := fun hm => by
          rcases hsub b hm with h3 | h3
          · exact (hout b hb).2 h3
          · have := (hout b hb).1; omega
        simp [h2, h1, hne, (hout b hb).1]
  · refine List.nodup_append.2 ⟨hE1, hD.1, fun b hb b' hb' e => ?_⟩
    subst e
    rcases (hE2 b hb).2 with h3 | h3
    · have h1 := hD.2 b hb'; rw [ho b h3] at h1; simp at h1
    · have := hDl b hb'; omega
  · rcases List.mem_append.1 hb with hb | hb
    · obtain ⟨h2, h3⟩ := hE2 b hb
      rcases h3 with h3 | h3
      · simp [h2, ho b h3]
      · have : ¬ b < w.heap.size := by omega
        simp [h2, this]
    · have h2 : b ∉ L' := fun hm => by
        rcases hsub b hm with h3 | h3
        · have h1 := hD.2 b hb; rw [ho b h3] at h1; simp at h1
        · have := hDl b hb; omega
      simp [h2, hD.2 b hb]
end

theorem Fr.set {c : Cx} {w : World} (h : Fr c w) (us : List Value) {b o : Nat} (hb : c.ok b) : Fr c (setCells w b o us) := by
  have hbel : Below 0 w (setCells w b o us) := by
    have : ∀ (us : List Value) (w0 w : World) (o : Nat), Below 0 w0 w → Below 0 w0 (setCells w b o us) := by
      intro us
      induction us with
      | nil => intro _ _ _ h; exact h
      | cons u us ih => intro w0 w o h; exact ih _ _ _ (h.setCell (p := ⟨b, o, none⟩) (Nat.zero_le _) u)
    exact this us w w o (Below.refl _ _)
  refine ⟨hbel.os.trans h.os, hbel.tape.trans h.tape, hbel.output.trans h.output, Nat.le_trans h.size hbel.size, fun k hk hok => ?_, fun b' m hr => setCells_row _ _ _ _ (h.row b' m hr)⟩
  have hne : k ≠ b := by rintro rfl; exact hok hb
  rw [setCells_heap _ _ _ _ _ hne]
  exact h.block k hk hok
end Go.Tw
