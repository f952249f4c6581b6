/- The logic: a step. -/
import Derived.Test.YtemcbhjheebnnaaGreatT16
import Derived.Deep.Quiet
set_option linter.all false
namespace Go.Tw
open Go Go.RowKit
variable [k7]
def oh (w : World) (ab ok : Nat → Prop) (fr : Bool) : TV → Value → List Nat → Prop
  | .p u, v, L => v = u ∧ L = []
  | .tr t l, v, L => (v = .slice none 0 0 ∧ l = [] ∧ L = []) ∨
      ∃ b o cap L', v = .slice (some ⟨b, o, none⟩) l.length cap ∧ l.length ≤ cap ∧ RL (oW w (cI fr ab) ok t) (sz t) l b o L' ∧ L = b :: L' ∧ ok b ∧ Row w b o ∧ (0 < cap → Row w b (o + cap * sz t))
  | .fm t l i off, v, L => i = 0 ∧ off = 0 ∧ ∃ x b o us, l = [x] ∧ v = .pointer (some ⟨b, o, none⟩) ∧ L = [b] ∧ ok b ∧ Row w b (o + sz t) ∧ TRl w (cI fr ab) ok t x us [] ∧ At w b o us
  | _, _, _ => False
def iA (w : World) (ab ok : Nat → Prop) (fr : Bool) : List TV → List Value → List Nat → Prop
  | [], us, L => us = [] ∧ L = []
  | c :: cs, us, L => ∃ u us' L1 L2, us = u :: us' ∧ L = L1 ++ L2 ∧ oh w ab ok fr c u L1 ∧ iA w ab ok fr cs us' L2
def retV : List Value → Value
  | [v] => v
  | vs => .tuple vs.toArray
def k8 (Lm : List Nat) (w : World) (b : Nat) : Prop := b ∈ Lm ∨ w.heap.size ≤ b
structure By (Lm : List Nat) (w w' : World) : Prop where
  os : w'.os = w.os
  tape : w'.tape = w.tape
  output : w'.output = w.output
  size : w.heap.size ≤ w'.heap.size
  block : ∀ k, k < w.heap.size → k ∉ Lm → w'.heap[k]? = w.heap[k]?
  row : ∀ b m, Row w b m → Row w' b m
def mo (w : World) (ab ok : Nat → Prop) : (ps : List (Ty × Bool)) → den (bg (ps.map (·.1))) → List Value → List Nat → Prop
  | [], _, vs, L => vs = [] ∧ L = []
  | p :: ps, x, vs, L => ∃ us vs' L1 L2, vs = fh (isAg p.1) us :: vs' ∧ L = L1 ++ L2 ∧ (p.2 = false → TRl w ab ok p.1 x.1 us [] ∧ L1 = []) ∧ (p.2 = true → iA w ab ok (Fl p.1) (encT p.1 x.1) us L1) ∧ mo w ab ok ps x.2 vs' L2
def MutR (w : World) (ab ok : Nat → Prop) : (ps : List (Ty × Bool)) → den (bg ((ps.filter (·.2)).map (·.1))) → List Value → List Nat → Prop
  | [], _, _, L => L = []
  | (t, false) :: ps, y, vs, L => MutR w ab ok ps y vs.tail L
  | (t, true) :: ps, y, vs, L => ∃ us L1 L2, vs.head? = some (fh (isAg t) us) ∧ L = L1 ++ L2 ∧ iA w ab ok (Fl t) (encT t y.1) us L1 ∧ MutR w ab ok ps y.2 vs.tail L2
def MutM (w : World) (ab ok : Nat → Prop) (rm : RM) (ps : List (Ty × Bool)) (y : den (bg ((ps.filter (·.2)).map (·.1)))) (vs : List Value) (L : List Nat) : Prop :=
  match rm with
  | .mv => L = []
  | _ => MutR w ab ok ps y vs L
def kX (w : World) (ab ok : Nat → Prop) (fr : Bool) : (ts : List Ty) → den (bg ts) → List Value → List Nat → Prop
  | [], _, vs, L => vs = [] ∧ L = []
  | t :: ts, x, vs, L => ∃ us vs' L1 L2, vs = fh (isAg t) us :: vs' ∧ L = L1 ++ L2 ∧ iA w ab ok fr (encT t x.1) us L1 ∧ kX w ab ok fr ts x.2 vs' L2
def EH (w : World) (ab ok : Nat → Prop) : (ts : List Ty) → den (bg ts) → List Value → List Nat → Prop
  | [], _, vs, L => vs = [] ∧ L = []
  | t :: ts, x, vs, L => ∃ us vs' L1 L2, vs = fh (isAg t) us :: vs' ∧ L = L1 ++ L2 ∧ iA w ab ok (Fl t) (encT t x.1) us L1 ∧ EH w ab ok ts x.2 vs' L2
def ResB (w : World) (ab ok : Nat → Prop) : (ts : List Ty) → den (bg ts) → List Value → Prop
  | [], _, vs => vs = []
  | t :: ts, x, vs => ∃ us vs', vs = fh (isAg t) us :: vs' ∧ TRl w ab ok t x.1 us [] ∧ ResB w ab ok ts x.2 vs'
def oC (w : World) (ab ok : Nat → Prop) : List Bool → (ts : List Ty) → den (bg ts) → List Value → List Nat → Prop
  | _, [], _, vs, L => vs = [] ∧ L = []
  | bs, t :: ts, x, vs, L => ∃ us vs' L1 L2, vs = fh (isAg t) us :: vs' ∧ L = L1 ++ L2 ∧ (match bs.headD true with | true => iA w ab ok true (encT t x.1) us L1 | false => TRl w ab ok t x.1 us [] ∧ L1 = []) ∧ oC w ab ok bs.tail ts x.2 vs' L2
def ResM (w : World) (ab ok : Nat → Prop) (rm : RM) (ts : List Ty) (x : den (bg ts)) (vs : List Value) (L : List Nat) : Prop :=
  match rm with
  | .own fr => kX w ab ok fr ts x vs L
  | .GZ => ResB w ab ok ts x vs ∧ L = []
  | .mv => kX w ab ok true ts x vs L
  | .mix bs => oC w ab ok bs ts x vs L
def callable (P : Program) (f : FuncId) : Bool :=
  match P.funcs[f]? with
  | some fn => fn.name != "runtime.NumGoroutine" && fn.body.isSome
  | none => false
def an (P : Program) (cn : bj) : Prop :=
  callable P cn.f = true ∧ ∀ (w : World) (ab : Nat → Prop) (vals : List Value) (x : den (bg (cn.ps.map (·.1)))) (Lm : List Nat) (y), (∀ b, ab b → b < w.heap.size ∧ b ∉ Lm) → ((∀ g ∈ k7.G, ab g) ∧ k7.J w) → Lm.Nodup →
    mo w ab (· ∈ Lm) cn.ps x vals Lm → cn.m x = some y → Calls P cn.f vals.toArray w fun e w' => ∃ vs L Lm', e = .returned (retV vs) ∧ By Lm w w' ∧ ResM w' ab (k8 Lm w) cn.rm cn.rs y.1 vs L ∧ MutM w' ab (k8 Lm w) cn.rm cn.ps y.2 vals Lm' ∧ (L ++ Lm').Nodup
section
variable {w w' : World} {ab imm' ok ok' : Nat → Prop} {μ : Nat → Mu} {h : ay} {n : Nat} {fr : Bool}
theorem oh.mono (hi : ∀ b, cI fr ab b → cI fr imm' b) (ho : ∀ b, ok b → ok' b) (hw : ∀ b, cI fr ab b → w'.heap[b]? = w.heap[b]?) {x : TV} {v : Value} {L : List Nat} (hL : ∀ b ∈ L, w'.heap[b]? = w.heap[b]?) (H : oh w ab ok fr x v L) : oh w' imm' ok' fr x v L := by
  cases x with
  | p u => exact H
  | tr t l =>
    rcases H with H | ⟨b, o, cap, L', h1, h2, h3, rfl, h5, h6, h7⟩
    · exact .inl H
    · have hb := hL b (by simp)
      exact .inr ⟨b, o, cap, L', h1, h2, RL.imp (fun x _ o L'' hL'' hr => oW.mono hi ho hw (fun k hk => hL k (by simp [hL'' k hk])) hb hr) h3, rfl, ho b h5, h6.same hb, fun hp => (h7 hp).same hb⟩
  | fm t l i off =>
    obtain ⟨h1, h2, x, b, o, us, h3, h4, rfl, h6, h7, h8, h9⟩ := H
    have hb := hL b (by simp)
    exact ⟨h1, h2, x, b, o, us, h3, h4, rfl, ho b h6, h7.same hb, h8.mono hi ho hw (by simp), h9.same hb⟩
  | _ => exact H.elim
theorem iA.mono (hi : ∀ b, cI fr ab b → cI fr imm' b) (ho : ∀ b, ok b → ok' b) (hw : ∀ b, cI fr ab b → w'.heap[b]? = w.heap[b]?) : ∀ {cs : List TV} {us : List Value} {L : List Nat}, (∀ b ∈ L, w'.heap[b]? = w.heap[b]?) → iA w ab ok fr cs us L → iA w' imm' ok' fr cs us L
  | [], us, L, _, H => H
  | c :: cs, us, L, hL, H => by
    obtain ⟨u, us', L1, L2, rfl, rfl, h1, h2⟩ := H
    exact ⟨u, us', L1, L2, rfl, rfl, h1.mono hi ho hw (fun b hb => hL b (by simp [hb])), iA.mono hi ho hw (fun b hb => hL b (by simp [hb])) h2⟩
theorem oh.blocks {x : TV} {v : Value} {L : List Nat} (H : oh w ab ok fr x v L) : ∀ b ∈ L, ok b ∧ b < w.heap.size := by
  cases x with
  | p u => obtain ⟨_, rfl⟩ := H; simp
  | tr t l =>
    rcases H with ⟨_, _, rfl⟩ | ⟨b, o, cap, L', h1, h2, h3, rfl, h5, h6, h7⟩
    · simp
    · intro k hk
      rcases List.mem_cons.1 hk with rfl | hk
      · exact ⟨h5, h6.lt⟩
      · exact RL.mem (p := fun b => ok b ∧ b < w.heap.size) (fun x _ o L' ⟨us, h, _⟩ => TRl.blocks h) h3 k hk
  | fm t l i off =>
    obtain ⟨_, _, x, b, o, us, _, _, rfl, h6, h7, _⟩ := H
    intro k hk
    simp only [List.mem_singleton] at hk; subst hk
    exact ⟨h6, h7.lt⟩
  | _ => exact H.elim
theorem iA.blocks : ∀ {cs : List TV} {us : List Value} {L : List Nat}, iA w ab ok fr cs us L → ∀ b ∈ L, ok b ∧ b < w.heap.size
  | [], us, L, H, b, hb => by rw [H.2] at hb; simp at hb
  | c :: cs, us, L, H, b, hb => by
    obtain ⟨u, us', L1, L2, rfl, rfl, h1, h2⟩ := H
    rcases List.mem_append.1 hb with hb | hb
    · exact h1.blocks b hb
    · exact iA.blocks h2 b hb
theorem kX.mono (hi : ∀ b, cI fr ab b → cI fr imm' b) (ho : ∀ b, ok b → ok' b) (hw : ∀ b, cI fr ab b → w'.heap[b]? = w.heap[b]?) : ∀ {ts : List Ty} {x : den (bg ts)} {vs : List Value} {L : List Nat}, (∀ b ∈ L, w'.heap[b]? = w.heap[b]?) → kX w ab ok fr ts x vs L → kX w' imm' ok' fr ts x vs L
  | [], _, _, _, _, H => H
  | t :: ts, x, vs, L, hL, H => by
    obtain ⟨us, vs', L1, L2, rfl, rfl, h1, h2⟩ := H
    exact ⟨us, vs', L1, L2, rfl, rfl, h1.mono hi ho hw (fun b hb => hL b (by simp [hb])), kX.mono hi ho hw (fun b hb => hL b (by simp [hb])) h2⟩
theorem kX.blocks : ∀ {ts : List Ty} {x : den (bg ts)} {vs : List Value} {L : List Nat}, kX w ab ok fr ts x vs L → ∀ b ∈ L, ok b ∧ b < w.heap.size
  | [], _, _, _, H, b, hb => by rw [H.2] at hb; simp at hb
  | t :: ts, x, vs, L, H, b, hb => by
    obtain ⟨us, vs', L1, L2, rfl, rfl, h1, h2⟩ := H
    rcases List.mem_append.1 hb with hb | hb
    · exact h1.blocks b hb
    · exact kX.blocks h2 b hb
theorem EI {ab : Nat → Prop} {b : Nat} (h : cI true ab b) : False := by simp [cI] at h
theorem oC.mono (hi : ∀ b, ab b → imm' b) (ho : ∀ b, ok b → ok' b) (hw : ∀ b, ab b → w'.heap[b]? = w.heap[b]?) : ∀ {bs : List Bool} {ts : List Ty} {x : den (bg ts)} {vs : List Value} {L : List Nat}, (∀ b ∈ L, w'.heap[b]? = w.heap[b]?) → oC w ab ok bs ts x vs L → oC w' imm' ok' bs ts x vs L
  | _, [], _, _, _, _, H => H
  | bs, t :: ts, x, vs, L, hL, H => by
    obtain ⟨us, vs', L1, L2, rfl, rfl, h1, h2⟩ := H
    refine ⟨us, vs', L1, L2, rfl, rfl, ?_, oC.mono hi ho hw (fun b hb => hL b (by simp [hb])) h2⟩
    cases hb : bs.headD true with
    | true =>
      rw [hb] at h1
      exact iA.mono (fun b h => (EI h).elim) ho (fun b h => (EI h).elim) (fun b hb => hL b (by simp [hb])) h1
    | false =>
      rw [hb] at h1
      exact ⟨h1.1.mono hi ho hw (by simp), h1.2⟩
theorem oC.blocks : ∀ {bs : List Bool} {ts : List Ty} {x : den (bg ts)} {vs : List Value} {L : List Nat}, oC w ab ok bs ts x vs L → ∀ b ∈ L, ok b ∧ b < w.heap.size
  | _, [], _, _, _, H, b, hb => by rw [H.2] at hb; simp at hb
  | bs, t :: ts, x, vs, L, H, b, hb => by
    obtain ⟨us, vs', L1, L2, rfl, rfl, h1, h2⟩ := H
    rcases List.mem_append.1 hb with hb | hb
    · cases he : bs.headD true with
      | true => rw [he] at h1; exact iA.blocks h1 b hb
      | false => rw [he] at h1; rw [h1.2] at hb; simp at hb
    · exact oC.blocks h2 b hb
theorem ResB.mono (hi : ∀ b, ab b → imm' b) (ho : ∀ b, ok b → ok' b) (hw : ∀ b, ab b → w'.heap[b]? = w.heap[b]?) : ∀ {ts : List Ty} {x : den (bg ts)} {vs : List Value}, ResB w ab ok ts x vs → ResB w' imm' ok' ts x vs
  | [], _, _, H => H
  | t :: ts, x, vs, H => by
    obtain ⟨us, vs', rfl, h1, h2⟩ := H
    exact ⟨us, vs', rfl, h1.mono hi ho hw (by simp), ResB.mono hi ho hw h2⟩
def oD (w : World) (ab ok : Nat → Prop) (μ : Nat → Mu) (h : ay) (n : Nat) (D : List Nat) (R : (Nat → Mu) → Prop) (h' : ay) (n' : Nat) : Prop :=
  ∃ μ', (∀ r, r < n → μ' r = μ r) ∧ HR w ab ok μ' h' n' D ∧ R μ' ∧ n ≤ n' ∧ ∀ r, r < n → hget h' r = hget h r
theorem Kept.opened {μ' : Nat → Mu} {h' : ay} {n' : Nat} (h1 : ∀ r, r < n → μ' r = μ r) (h2 : n ≤ n') (h3 : ∀ r, r < n → hget h' r = hget h r) : Kept (fun _ => True) ab ab ok ok w w μ μ' h h' n n' :=
  ⟨Step.refl _ _, fun _ h => h, fun _ h => h, h1, h2, fun r hr => by rw [h3 r hr]; exact Fit.refl _, fun _ _ _ _ _ _ _ _ _ => rfl⟩
theorem jS : ∀ {cs : List TV} {us : List Value} {L D : List Nat} {h : ay} {n : Nat} {μ : Nat → Mu}, iA w ab ok fr cs us L → HR w ab ok μ h n (L ++ D) →
    oD w ab ok μ h n D (fun μ' => VRl w ab ok μ' (opnC fr cs h n).2.1 (opnC fr cs h n).2.2 (opnC fr cs h n).1 us) (opnC fr cs h n).2.1 (opnC fr cs h n).2.2
  | [], us, L, D, h, n, μ, H, HH => by
    obtain ⟨rfl, rfl⟩ := H
    exact ⟨μ, fun _ _ => rfl, by simpa [opnC] using HH, by simp [opnC, VRl], Nat.le_refl _, fun _ _ => rfl⟩
  | .p u :: cs, us, L, D, h, n, μ, H, HH => by
    obtain ⟨v, us', L1, L2, rfl, rfl, ⟨rfl, rfl⟩, h2⟩ := H
    obtain ⟨μ', a1, a2, a3, a4, a5⟩ := jS h2 (by simpa using HH)
    simp only [opnC]
    exact ⟨μ', a1, a2, by simp only [VRl]; exact ⟨_, us', rfl, by simp [VR], a3⟩, a4, a5⟩
  | .tr t l :: cs, us, L, D, h, n, μ, H, HH => by
    obtain ⟨v, us', L1, L2, rfl, rfl, h1, h2⟩ := H
    have key : ∃ m : Mu, RR w ab ok (kh μ n m) ((n, .row fr t l) :: h) (n + 1) n (.row fr t l) L1 ∧ mM w m (sz t) 0 l.length v := by
      rcases h1 with ⟨rfl, rfl, rfl⟩ | ⟨b, o, cap, L', rfl, hc, h3, rfl, h5, h6, h7⟩
      · exact ⟨⟨0, 0, false⟩, by simp only [RR, cf]; exact .inl ⟨trivial, trivial, trivial⟩, .inl ⟨rfl, rfl⟩⟩
      · refine ⟨⟨b, o, true⟩, ?_, .inr ⟨o, cap, rfl, hc, rfl, h6, fun hp => ⟨by simp, h7 hp⟩⟩⟩
        simp only [RR, cf]
        refine .inr ⟨trivial, L', rfl, h5, ?_, h3⟩
        rcases Nat.eq_zero_or_pos cap with hz | hp
        · have : l.length = 0 := by omega
          rw [this]; simpa using h6
        · exact (h7 hp).le (by have : l.length * sz t ≤ cap * sz t := Nat.mul_le_mul_right _ hc; omega)
    obtain ⟨m, hRR, hS⟩ := key
    rw [List.append_assoc] at HH
    have H1 := HR.attach (n' := n + 1) (μ' := kh μ n m) HH (Nat.le_refl _) (Nat.lt_succ_self _) (fun r hr => by simp [kh, show r ≠ n by omega]) hRR
    obtain ⟨μ', a1, a2, a3, a4, a5⟩ := jS h2 H1
    simp only [opnC]
    refine ⟨μ', fun r hr => by rw [a1 r (by omega)]; simp [kh, show r ≠ n by omega], a2, ?_, by omega, fun r hr => by rw [a5 r (by omega)]; simp [hget, show r ≠ n by omega]⟩
    simp only [VRl]
    refine ⟨v, us', rfl, ?_, a3⟩
    simp only [VR, a5 n (Nat.lt_succ_self _), hget, ↓reduceIte]
    exact ⟨by omega, by rw [a1 n (Nat.lt_succ_self _), cf]; exact hS⟩
  | .fm t l i off :: cs, us, L, D, h, n, μ, H, HH => by
    obtain ⟨v, us', L1, L2, rfl, rfl, ⟨_, _, x, b, o, xs, rfl, rfl, rfl, h6, h7, h8, h9⟩, h2⟩ := H
    have h8' : TRl w ab ok t x xs [] := h8.mono (fun _ h => h.2) (fun _ h => h) (fun _ _ => rfl) (by simp)
    have hRR : RR w ab ok (kh μ n ⟨b, o, true⟩) ((n, .box (encT t x)) :: h) (n + 1) n (.box (encT t x)) [b] := by
      simp only [RR, cf]
      exact ⟨trivial, h6, by rw [dg]; exact h7, xs, h8'.oZ.zJ, h9⟩
    rw [List.append_assoc] at HH
    have H1 := HR.attach (n' := n + 1) (μ' := kh μ n ⟨b, o, true⟩) HH (Nat.le_refl _) (Nat.lt_succ_self _) (fun r hr => by simp [kh, show r ≠ n by omega]) hRR
    obtain ⟨μ', a1, a2, a3, a4, a5⟩ := jS h2 H1
    simp only [opnC, List.headD_cons]
    refine ⟨μ', fun r hr => by rw [a1 r (by omega)]; simp [kh, show r ≠ n by omega], a2, ?_, by omega, fun r hr => by rw [a5 r (by omega)]; simp [hget, show r ≠ n by omega]⟩
    simp only [VRl]
    refine ⟨_, us', rfl, ?_, a3⟩
    simp only [VR, a5 n (Nat.lt_succ_self _), hget, ↓reduceIte]
    exact ⟨by omega, _, rfl, by rw [a1 n (Nat.lt_succ_self _), cf]; simp⟩
  | .full _ :: _, _, _, _, _, _, _, H, _ => by obtain ⟨_, _, _, _, _, _, h1, _⟩ := H; exact h1.elim
  | .sub _ _ _ :: _, _, _, _, _, _, _, H, _ => by obtain ⟨_, _, _, _, _, _, h1, _⟩ := H; exact h1.elim
  | .mJ _ _ _ :: _, _, _, _, _, _, _, H, _ => by obtain ⟨_, _, _, _, _, _, h1, _⟩ := H; exact h1.elim
  | .ptr _ _ _ :: _, _, _, _, _, _, _, H, _ => by obtain ⟨_, _, _, _, _, _, h1, _⟩ := H; exact h1.elim
  | .agg _ :: _, _, _, _, _, _, _, H, _ => by obtain ⟨_, _, _, _, _, _, h1, _⟩ := H; exact h1.elim
  | .mF _ :: _, _, _, _, _, _, _, H, _ => by obtain ⟨_, _, _, _, _, _, h1, _⟩ := H; exact h1.elim
  | .oV _ _ :: _, _, _, _, _, _, _, H, _ => by obtain ⟨_, _, _, _, _, _, h1, _⟩ := H; exact h1.elim
  | .fn _ _ _ :: _, _, _, _, _, _, _, H, _ => by obtain ⟨_, _, _, _, _, _, h1, _⟩ := H; exact h1.elim
  | .mp _ :: _, _, _, _, _, _, _, H, _ => by obtain ⟨_, _, _, _, _, _, h1, _⟩ := H; exact h1.elim
  | .undef :: _, _, _, _, _, _, _, H, _ => by obtain ⟨_, _, _, _, _, _, h1, _⟩ := H; exact h1.elim
theorem nn {g : Bool} {cs : List TV} {us : List Value} (H : VRl w ab ok μ h n cs us) : VR w ab ok μ h n (pack g cs) (fh g us) := kE H
theorem pg : ∀ {ts : List Ty} {x : den (bg ts)} {vs : List Value} {L D : List Nat} {h : ay} {n : Nat} {μ : Nat → Mu}, kX w ab ok fr ts x vs L → HR w ab ok μ h n (L ++ D) →
    oD w ab ok μ h n D (fun μ' => VRl w ab ok μ' (opnL fr ts x h n).2.1 (opnL fr ts x h n).2.2 (opnL fr ts x h n).1 vs) (opnL fr ts x h n).2.1 (opnL fr ts x h n).2.2
  | [], _, vs, L, D, h, n, μ, H, HH => by
    obtain ⟨rfl, rfl⟩ := H
    exact ⟨μ, fun _ _ => rfl, by simpa [opnL] using HH, by simp [opnL, VRl], Nat.le_refl _, fun _ _ => rfl⟩
  | t :: ts, x, vs, L, D, h, n, μ, H, HH => by
    obtain ⟨us, vs', L1, L2, rfl, rfl, h1, h2⟩ := H
    rw [List.append_assoc] at HH
    obtain ⟨μ1, a1, a2, a3, a4, a5⟩ := jS h1 HH
    obtain ⟨μ2, b1, b2, b3, b4, b5⟩ := pg h2 a2
    simp only [opnL, np]
    refine ⟨μ2, fun r hr => by rw [b1 r (by omega), a1 r hr], b2, ?_, by omega, fun r hr => by rw [b5 r (by omega), a5 r hr]⟩
    simp only [VRl]
    exact ⟨_, vs', rfl, nn (VRl.mono (Kept.opened b1 b4 b5) _ _ (aD _) a3), b3⟩
theorem zK : ∀ {ts : List Ty} {x : den (bg ts)} {vs : List Value} {L D : List Nat} {h : ay} {n : Nat} {μ : Nat → Mu}, EH w ab ok ts x vs L → HR w ab ok μ h n (L ++ D) →
    oD w ab ok μ h n D (fun μ' => VRl w ab ok μ' (rU ts x h n).2.1 (rU ts x h n).2.2 (rU ts x h n).1 vs) (rU ts x h n).2.1 (rU ts x h n).2.2
  | [], _, vs, L, D, h, n, μ, H, HH => by
    obtain ⟨rfl, rfl⟩ := H
    exact ⟨μ, fun _ _ => rfl, by simpa [rU] using HH, by simp [rU, VRl], Nat.le_refl _, fun _ _ => rfl⟩
  | t :: ts, x, vs, L, D, h, n, μ, H, HH => by
    obtain ⟨us, vs', L1, L2, rfl, rfl, h1, h2⟩ := H
    rw [List.append_assoc] at HH
    obtain ⟨μ1, a1, a2, a3, a4, a5⟩ := jS h1 HH
    obtain ⟨μ2, b1, b2, b3, b4, b5⟩ := zK h2 a2
    simp only [rU, np]
    refine ⟨μ2, fun r hr => by rw [b1 r (by omega), a1 r hr], b2, ?_, by omega, fun r hr => by rw [b5 r (by omega), a5 r hr]⟩
    simp only [VRl]
    exact ⟨_, vs', rfl, nn (VRl.mono (Kept.opened b1 b4 b5) _ _ (aD _) a3), b3⟩
theorem oE {vs : List TV} {us : List Value} (H : VRl w ab ok μ h n vs us) : VR w ab ok μ h n (retT vs) (retV us) := by
  match vs with
  | [] => simp only [VRl] at H; subst H; simp only [retT, retV, VR]; exact ⟨[], rfl, by simp [VRl]⟩
  | [x] =>
    simp only [VRl] at H
    obtain ⟨u, us', rfl, h1, rfl⟩ := H
    exact h1
  | x :: y :: vs =>
    have H0 := H
    simp only [VRl] at H
    obtain ⟨u, us', rfl, h1, u2, us2, rfl, h2, h3⟩ := H
    simp only [retT, retV, VR]
    exact ⟨_, rfl, H0⟩
theorem qN {t : Ty} {x : den t} {us : List Value} (H : TRl w ab ok t x us []) : VR w ab ok μ h n (yu t x) (fh (isAg t) us) := by
  have := kE (g := isAg t) (H.oZ.zJ (μ := μ) (h := h) (n := n))
  unfold yu; exact this
theorem zL : ∀ {ts : List Ty} {x : den (bg ts)} {vs : List Value}, ResB w ab ok ts x vs → VRl w ab ok μ h n (valL ts x) vs
  | [], _, vs, H => by simp only [ResB] at H; simp [valL, VRl, H]
  | t :: ts, x, vs, H => by
    obtain ⟨us, vs', rfl, h1, h2⟩ := H
    simp only [valL, VRl]
    exact ⟨_, vs', rfl, qN h1, zL h2⟩
theorem uU : ∀ {bs : List Bool} {ts : List Ty} {x : den (bg ts)} {vs : List Value} {L D : List Nat} {h : ay} {n : Nat} {μ : Nat → Mu}, oC w ab ok bs ts x vs L → HR w ab ok μ h n (L ++ D) →
    oD w ab ok μ h n D (fun μ' => VRl w ab ok μ' (opnX bs ts x h n).2.1 (opnX bs ts x h n).2.2 (opnX bs ts x h n).1 vs) (opnX bs ts x h n).2.1 (opnX bs ts x h n).2.2
  | _, [], _, vs, L, D, h, n, μ, H, HH => by
    obtain ⟨rfl, rfl⟩ := H
    exact ⟨μ, fun _ _ => rfl, by simpa [opnX] using HH, by simp [opnX, VRl], Nat.le_refl _, fun _ _ => rfl⟩
  | bs, t :: ts, x, vs, L, D, h, n, μ, H, HH => by
    obtain ⟨us, vs', L1, L2, rfl, rfl, h1, h2⟩ := H
    rw [List.append_assoc] at HH
    cases he : bs.headD true with
    | true =>
      rw [he] at h1
      obtain ⟨μ1, a1, a2, a3, a4, a5⟩ := jS h1 HH
      obtain ⟨μ2, b1, b2, b3, b4, b5⟩ := uU h2 a2
      simp only [opnX, he, np]
      refine ⟨μ2, fun r hr => by rw [b1 r (by omega), a1 r hr], b2, ?_, by omega, fun r hr => by rw [b5 r (by omega), a5 r hr]⟩
      simp only [VRl]
      exact ⟨_, vs', rfl, nn (VRl.mono (Kept.opened b1 b4 b5) _ _ (aD _) a3), b3⟩
    | false =>
      rw [he] at h1
      obtain ⟨h1, rfl⟩ := h1
      obtain ⟨μ2, b1, b2, b3, b4, b5⟩ := uU h2 (by simpa using HH)
      simp only [opnX, he]
      refine ⟨μ2, b1, b2, ?_, b4, b5⟩
      simp only [VRl]
      exact ⟨_, vs', rfl, qN h1, b3⟩
theorem fS {t : Ty} {x : TV} {v : Value} {cs : List TV} (hc : cellsOf t x = some cs) (H : VR w ab ok μ h n x v) : ∃ us, v = fh (isAg t) us ∧ VRl w ab ok μ h n cs us := by
  unfold cellsOf at hc
  split at hc
  · obtain ⟨hb, hc⟩ := ah.1 hc
    simp only [af] at hc; subst hc
    simp only [VR] at H
    obtain ⟨us, rfl, H⟩ := H
    exact ⟨us, by simp [fh, hb], H⟩
  · cases hb : isAg t with
    | true => simp [hb] at hc
    | false =>
      simp only [hb, al, af] at hc; subst hc
      exact ⟨[v], rfl, by simp only [VRl]; exact ⟨v, [], rfl, H, rfl⟩⟩
theorem rV {I ok' : Nat → Prop} (HH : ∀ r x, hget h r = some x → ∃ L, RR w ab ok μ h n r x L ∧ ∀ b ∈ L, I b) (hlt : ∀ b, ab b → I b) : ∀ {t : Ty} {cs r : List TV} {x : den t} {us : List Value}, seeT h t cs = some (x, r) → VRl w ab ok μ h n cs us →
    ∃ u1 u2, us = u1 ++ u2 ∧ TRl w I ok' t x u1 [] ∧ VRl w ab ok μ h n r u2
  | .int k, cs, r, x, us, hd, H => by
    simp only [seeT] at hd
    split at hd <;> first | (simp at hd; done) | skip
    split at hd
    · simp only [af, aG] at hd
      obtain ⟨rfl, rfl⟩ := hd
      subst_vars
      simp only [VRl, VR] at H
      obtain ⟨_, us', rfl, rfl, h2⟩ := H
      exact ⟨[_], us', rfl, ⟨rfl, rfl⟩, h2⟩
    · simp at hd
  | .bool, cs, r, x, us, hd, H => by
    simp only [seeT] at hd
    split at hd <;> first | (simp at hd; done) | skip
    simp only [af, aG] at hd
    obtain ⟨rfl, rfl⟩ := hd
    simp only [VRl, VR] at H
    obtain ⟨_, us', rfl, rfl, h2⟩ := H
    exact ⟨[_], us', rfl, ⟨rfl, rfl⟩, h2⟩
  | .str, cs, r, x, us, hd, H => by
    simp only [seeT] at hd
    split at hd <;> first | (simp at hd; done) | skip
    simp only [af, aG] at hd
    obtain ⟨rfl, rfl⟩ := hd
    simp only [VRl, VR] at H
    obtain ⟨_, us', rfl, rfl, h2⟩ := H
    exact ⟨[_], us', rfl, ⟨rfl, rfl⟩, h2⟩
  | .un, cs, r, x, us, hd, H => by
    simp only [seeT, af, aG] at hd
    obtain ⟨_, rfl⟩ := hd
    exact ⟨[], us, rfl, ⟨rfl, rfl⟩, H⟩
  | .pr a b, cs, r, x, us, hd, H => by
    simp only [seeT, ax, af, aG] at hd
    obtain ⟨⟨x1, r1⟩, hd1, ⟨x2, r2⟩, hd2, rfl, rfl⟩ := hd
    obtain ⟨u1, u2, rfl, h1, h2⟩ := rV HH hlt hd1 H
    obtain ⟨u3, u4, rfl, h3, h4⟩ := rV HH hlt hd2 h2
    exact ⟨u1 ++ u3, u4, by simp, ⟨u1, u3, [], [], rfl, rfl, h1, h3⟩, h4⟩
  | .sl t, cs, r, x, us, hd, H => by
    simp only [seeT] at hd
    split at hd <;> first | (simp at hd; done) | skip
    simp only [ax] at hd
    obtain ⟨f, hf, hd⟩ := hd
    simp only [VRl] at H
    obtain ⟨u, us', rfl, h1, h2⟩ := H
    have hc := EJ (ok' := ok') HH hlt hf h1
    split at hd
    · simp only [ax, af, aG] at hd
      obtain ⟨l', hc', rfl, rfl⟩ := hd
      obtain ⟨rfl, rfl⟩ := eY hc'
      exact ⟨[u], us', rfl, hc, h2⟩
    · simp only [af, aG] at hd
      obtain ⟨rfl, rfl⟩ := hd
      obtain ⟨rfl, _⟩ := hc
      exact ⟨[_], us', rfl, ⟨_, rfl, .inl ⟨rfl, rfl, rfl⟩⟩, h2⟩
    · simp at hd
  | .ref t, cs, r, x, us, hd, H => by
    simp only [seeT] at hd
    split at hd <;> first | (simp at hd; done) | skip
    · simp only [ax, af, aG] at hd
      obtain ⟨l', hc, rfl, rfl⟩ := hd
      obtain ⟨rfl, rfl⟩ := eY hc
      simp only [VRl, VR] at H
      obtain ⟨u, us', rfl, ⟨b, o, rfl, hb, L1, L3, e, ⟨vs, g1, g2⟩, _⟩, h2⟩ := H
      obtain ⟨rfl, rfl⟩ := List.append_eq_nil_iff.1 e.symm
      exact ⟨[_], us', rfl, ⟨b, o, vs, by simp, rfl, hlt b (hb (by simp)), TRl.qD hlt (by simp) g1, g2⟩, h2⟩
    · rename_i k r'
      split at hd
      · rename_i bs hg
        split at hd
        · rename_i y hy
          simp only [af, aG] at hd
          obtain ⟨rfl, rfl⟩ := hd
          simp only [VRl, VR, hg] at H
          obtain ⟨u, us', rfl, ⟨_, A, rfl, rfl⟩, h2⟩ := H
          obtain ⟨L, hR, hI⟩ := HH k _ hg
          simp only [RR] at hR
          obtain ⟨rfl, _, _, vs, g1, g2⟩ := hR
          obtain ⟨v1, v2, rfl, k1, k2⟩ := rV HH hlt hy g1
          simp only [VRl] at k2
          subst k2
          exact ⟨[_], us', rfl, ⟨(μ k).cY, (μ k).off, v1, by simp, rfl, hI _ (by simp), k1, by simpa using g2⟩, h2⟩
        · simp at hd
      · simp at hd
  | .cl g t, cs, r, x, us, hd, H => by
    simp only [seeT] at hd
    split at hd <;> first | (simp at hd; done) | skip
    rename_i g' ca r'
    cases hb : Nat.beq g' g with
    | false => rw [hb] at hd; simp at hd
    | true =>
      have hg := Nat.eq_of_beq_eq_true hb
      subst hg
      rw [hb] at hd
      simp only [ag] at hd
      split at hd
      · rename_i y hy
        simp only [af, aG] at hd
        obtain ⟨rfl, rfl⟩ := hd
        simp only [VRl, VR] at H
        obtain ⟨u, us', rfl, ⟨u0, vs, rfl, rfl, g2⟩, h2⟩ := H
        obtain ⟨v1, v2, rfl, k1, k2⟩ := rV HH hlt hy g2
        simp only [VRl] at k2
        subst k2
        exact ⟨[_], us', rfl, ⟨v1, by simp, rfl, k1⟩, h2⟩
      · simp at hd
theorem rW {I ok' : Nat → Prop} (HH : ∀ r x, hget h r = some x → ∃ L, RR w ab ok μ h n r x L ∧ ∀ b ∈ L, I b) (hlt : ∀ b, ab b → I b) {t : Ty} {cs : List TV} {x : den t} {us : List Value} (hd : sR h t cs = some x) (H : VRl w ab ok μ h n cs us) : TRl w I ok' t x us [] := by
  unfold sR at hd
  split at hd
  · rename_i y hy
    simp only [af] at hd; subst hd
    obtain ⟨u1, u2, rfl, h1, h2⟩ := rV (ok' := ok') HH hlt hy H
    simp only [VRl] at h2
    subst h2
    simpa using h1
  · simp at hd
theorem G0 {D : List Nat} (HH : HR w ab ok μ h n D) (hlt : ∀ b, ab b → b < w.heap.size) {t : Ty} {cs : List TV} {x : den t} {us : List Value} (hd : sR h t cs = some x) (H : VRl w ab ok μ h n cs us) : TRl w (· < w.heap.size) (· ∈ ([] : List Nat)) t x us [] :=
  rW (fun r x hx => by obtain ⟨L, h1, h2⟩ := HH.JX r x hx; exact ⟨L, h1, fun b hb => (h2 b hb).1⟩) hlt hd H
theorem A4 {c : TV} (hf : flatV c = true) : frzC h c = frzC [] c := by
  cases c <;> first | rfl | (simp [flatV] at hf)
theorem lT : ∀ {t : Ty} {cs : List TV}, flatB cs = true → seeT h t cs = seeT [] t cs ∧ ∀ x r, seeT h t cs = some (x, r) → flatB r = true
  | .int k, cs, hf => by
    refine ⟨rfl, fun x r hd => ?_⟩
    simp only [seeT] at hd
    split at hd <;> first | (simp at hd; done) | skip
    split at hd
    · simp only [af, aG] at hd; obtain ⟨_, rfl⟩ := hd
      simp only [flatB, aA] at hf; exact hf.2
    · simp at hd
  | .bool, cs, hf => by
    refine ⟨rfl, fun x r hd => ?_⟩
    simp only [seeT] at hd
    split at hd <;> first | (simp at hd; done) | skip
    simp only [af, aG] at hd; obtain ⟨_, rfl⟩ := hd
    simp only [flatB, aA] at hf; exact hf.2
  | .str, cs, hf => by
    refine ⟨rfl, fun x r hd => ?_⟩
    simp only [seeT] at hd
    split at hd <;> first | (simp at hd; done) | skip
    simp only [af, aG] at hd; obtain ⟨_, rfl⟩ := hd
    simp only [flatB, aA] at hf; exact hf.2
  | .un, cs, hf => by
    refine ⟨rfl, fun x r hd => ?_⟩
    simp only [seeT, af, aG] at hd; obtain ⟨_, rfl⟩ := hd; exact hf
  | .pr a b, cs, hf => by
    obtain ⟨e1, f1⟩ := lT (t := a) hf
    refine ⟨?_, fun x r hd => ?_⟩
    · simp only [seeT]
      rw [← e1]
      cases he : seeT h a cs with
      | none => rfl
      | some p => simp only [ai]; rw [(lT (t := b) (f1 p.1 p.2 he)).1]
    · simp only [seeT, ax, af, aG] at hd
      obtain ⟨⟨x1, r1⟩, hd1, ⟨x2, r2⟩, hd2, _, rfl⟩ := hd
      exact (lT (t := b) (f1 _ _ hd1)).2 _ _ hd2
  | .sl t, cs, hf => by
    cases cs with
    | nil => exact ⟨rfl, fun x r hd => by simp [seeT] at hd⟩
    | cons c cs =>
      simp only [flatB, aA] at hf
      refine ⟨by simp only [seeT]; rw [A4 hf.1], fun x r hd => ?_⟩
      simp only [seeT, ax] at hd
      obtain ⟨f, _, hd⟩ := hd
      split at hd
      · simp only [ax, af, aG] at hd
        obtain ⟨_, _, _, rfl⟩ := hd; exact hf.2
      · simp only [af, aG] at hd; obtain ⟨_, rfl⟩ := hd; exact hf.2
      · simp at hd
  | .ref t, cs, hf => by
    simp only [seeT]
    split
    · simp only [flatB, aA] at hf
      refine ⟨rfl, fun x r hd => ?_⟩
      simp only [ax, af, aG] at hd
      obtain ⟨_, _, _, rfl⟩ := hd; exact hf.2
    · simp [flatB, flatV] at hf
    · exact ⟨rfl, fun x r hd => by simp at hd⟩
  | .cl g t, cs, hf => by
    simp only [seeT]
    split
    · rename_i g' ca r'
      simp only [flatB, flatV, aA] at hf
      obtain ⟨e1, f1⟩ := lT (t := t) hf.1.2
      rw [← e1]
      refine ⟨rfl, fun x r hd => ?_⟩
      cases hb : Nat.beq g' g with
      | false => rw [hb] at hd; simp at hd
      | true =>
        rw [hb] at hd
        simp only [ag] at hd
        split at hd
        · simp only [af, aG] at hd; obtain ⟨_, rfl⟩ := hd; exact hf.2
        · simp at hd
    · exact ⟨rfl, fun x r hd => by simp at hd⟩
theorem A5 {t : Ty} {cs : List TV} {x : den t} {us : List Value} (hf : flatB cs = true) (hd : sR h t cs = some x) (H : VRl w ab ok μ h n cs us) : TRl w ab (· ∈ ([] : List Nat)) t x us [] := by
  have hd' : sR [] t cs = some x := by unfold sR at hd ⊢; rw [← (lT hf).1]; exact hd
  exact rW (h := []) (fun r x hx => by simp [hget] at hx) (fun _ h => h) hd' (FVl.zJ (μ := μ) (h := []) (n := n) _ _ (FVl.of _ _ hf H))
theorem oi {t : Ty} {x : TV} {cs : List TV} (hc : cellsOf t x = some cs) : clist x = cs := by
  unfold cellsOf at hc
  split at hc
  · obtain ⟨_, hc⟩ := ah.1 hc; simp only [af] at hc; subst hc; rfl
  · rename_i hne
    cases hb : isAg t with
    | true => simp [hb] at hc
    | false =>
      simp only [hb, al, af] at hc; subst hc
      unfold clist; split
      · rename_i cs; exact absurd rfl (hne cs)
      · rfl
theorem zM (HH : HR w ab ok μ h n []) (hlt : ∀ b, ab b → b < w.heap.size) : ∀ {ps : List (Ty × Bool)} {xs : List TV} {vs : List Value} {x : den (bg (ps.map (·.1)))}, argL h ps xs = some x → VRl w ab ok μ h n xs vs → ps.all (!·.2) = true →
    mo w (· < w.heap.size) (· ∈ ([] : List Nat)) ps x vs [] ∧ (qj xs = true → mo w ab (· ∈ ([] : List Nat)) ps x vs [])
  | [], [], vs, x, ha, H, _ => by
    simp only [VRl] at H; subst H
    exact ⟨⟨rfl, rfl⟩, fun _ => ⟨rfl, rfl⟩⟩
  | [], _ :: _, _, _, ha, _, _ => by simp [argL] at ha
  | _ :: _, [], _, _, ha, _, _ => by simp [argL] at ha
  | p :: ps, y :: xs, vs, x, ha, H, hp => by
    simp only [argL, ax, af] at ha
    obtain ⟨cs, hcs, d, hd, z, hz, hxe⟩ := ha
    cases hxe
    simp only [VRl] at H
    obtain ⟨u, vs', rfl, h1, h2⟩ := H
    simp only [List.all_cons, aA, Bool.not_eq_true'] at hp
    obtain ⟨us, rfl, hv⟩ := fS hcs h1
    obtain ⟨ih1, ih2⟩ := zM HH hlt hz h2 hp.2
    refine ⟨⟨us, vs', [], [], rfl, rfl, fun _ => ⟨?_, rfl⟩, fun e => by rw [hp.1] at e; simp at e, ih1⟩, fun hf => ?_⟩
    · exact G0 HH hlt hd hv
    · simp only [qj, List.all_cons, aA] at hf
      rw [oi hcs] at hf
      refine ⟨us, vs', [], [], rfl, rfl, fun _ => ⟨?_, rfl⟩, fun e => by rw [hp.1] at e; simp at e, ih2 hf.2⟩
      exact A5 hf.1 hd hv
end
end Go.Tw
namespace Go.Tw
open Go Go.RowKit
variable [k7]
section
variable {w w' : World} {ab imm' ok ok' : Nat → Prop} {μ : Nat → Mu} {h : ay} {n : Nat} {fr : Bool}
theorem mM.top {r : Nat} {t : Ty} {l : List (den t)} {off len : Nat} {v : Value} {L : List Nat} (H : mM w (μ r) (sz t) off len v) (hle : off + len ≤ l.length) (hR : RR w ab ok μ h n r (.row fr t l) L) :
    ∃ L', oh w ab ok fr (.tr t ((l.drop off).take len)) v L' ∧ L'.Sublist L := by
  have hlen : ((l.drop off).take len).length = len := by simp; omega
  rcases H with ⟨rfl, rfl⟩ | ⟨o, cap, rfl, h1, h2, h3, h4⟩
  · exact ⟨[], .inl ⟨rfl, by simp, rfl⟩, List.nil_sublist _⟩
  · obtain ⟨L', rfl, g1, g2, g3⟩ := hR.oX h2
    obtain ⟨L1, L2, L3, rfl, hs⟩ := RL.sub off len (by omega) g3
    rcases Nat.eq_zero_or_pos cap with hz | hp
    · have hl0 : len = 0 := by omega
      subst hl0
      refine ⟨[(μ r).cY], .inr ⟨_, _, cap, [], by rw [hlen], by omega, by simp [RL], rfl, g1, h3, fun hp => by omega⟩, by simp⟩
    · obtain ⟨rfl, h6⟩ := h4 hp
      refine ⟨(μ r).cY :: L2, .inr ⟨_, _, cap, L2, by rw [hlen], by omega, hs, rfl, g1, h3, fun _ => h6⟩, ?_⟩
      exact List.Sublist.cons_cons _ ((List.sublist_append_left L2 L3).trans (List.sublist_append_right L1 _))
theorem TRl.fT : ∀ {t : Ty} {x : den t} {us : List Value} {L : List Nat}, (∀ b, ab b → imm' b) → (∀ b ∈ L, ok' b) → TRl w ab ok t x us L → TRl w imm' ok' t x us L
  | .int _, _, _, _, _, _, h => h
  | .bool, _, _, _, _, _, h => h
  | .str, _, _, _, _, _, h => h
  | .un, _, _, _, _, _, h => h
  | .pr a b, x, us, L, hi, hL, h => by
    obtain ⟨u1, u2, L1, L2, rfl, rfl, h1, h2⟩ := h
    exact ⟨u1, u2, L1, L2, rfl, rfl, TRl.fT hi (fun b hb => hL b (by simp [hb])) h1, TRl.fT hi (fun b hb => hL b (by simp [hb])) h2⟩
  | .sl t, l, us, L, hi, hL, h => by
    obtain ⟨v, rfl, h⟩ := h
    refine ⟨v, rfl, ?_⟩
    rcases h with h | ⟨A, cap, L', h1, h2, h3, h4⟩
    · exact .inl h
    · rcases h4 with ⟨rfl, rfl, ⟨b0, h0⟩, h4⟩ | ⟨rfl, h4, h5, h6, h7⟩
      · exact .inr ⟨A, cap, [], h1, h2, RL.imp (fun x _ o L'' hL'' ⟨us, k1, k2⟩ => ⟨us, TRl.fT hi (fun b hb => hL b (by have := hL'' b hb; simp at this)) k1, k2⟩) h3, .inl ⟨rfl, rfl, ⟨b0, hi _ h0⟩, fun hne => ⟨(h4 hne).1, hi _ (h4 hne).2⟩⟩⟩
      · exact .inr ⟨A, cap, L', h1, h2, RL.imp (fun x _ o L'' hL'' ⟨us, k1, k2⟩ => ⟨us, TRl.fT hi (fun b hb => hL b (by simp [hL'' b hb])) k1, k2⟩) h3, .inr ⟨rfl, h4, hL _ (by simp), h6, h7⟩⟩
  | .ref t, x, us, L, hi, hL, h => by
    obtain ⟨b, o, vs, rfl, rfl, h1, h2, h3⟩ := h
    exact ⟨b, o, vs, rfl, rfl, hi b h1, TRl.fT hi (by simp) h2, h3⟩
  | .cl g t, x, us, L, hi, hL, h => by
    obtain ⟨vs, rfl, rfl, h1⟩ := h
    exact ⟨vs, rfl, rfl, TRl.fT hi (by simp) h1⟩
theorem oh.fT {x : TV} {v : Value} {L : List Nat} (hL : ∀ b ∈ L, ok' b) (H : oh w ab ok true x v L) : oh w imm' ok' true x v L := by
  have hi : ∀ b, cI true ab b → cI true imm' b := fun b hb => by simp [cI] at hb
  cases x with
  | p u => exact H
  | tr t l =>
    rcases H with H | ⟨b, o, cap, L', h1, h2, h3, h4, h5, h6, h7⟩
    · exact .inl H
    · subst h4
      exact .inr ⟨b, o, cap, L', h1, h2, RL.imp (fun x _ o L'' hL'' ⟨us, k1, k2⟩ => ⟨us, TRl.fT hi (fun b hb => hL b (by simp [hL'' b hb])) k1, k2⟩) h3, rfl, hL _ (by simp), h6, h7⟩
  | fm t l i off =>
    obtain ⟨h1, h2, x, b, o, us, h3, h4, rfl, h6, h7, h8, h9⟩ := H
    exact ⟨h1, h2, x, b, o, us, h3, h4, rfl, hL _ (by simp), h7, TRl.fT hi (by simp) h8, h9⟩
  | _ => exact H.elim
theorem iA.zN : ∀ {cs : List TV} {us : List Value} {L : List Nat}, iA w ab ok fr cs us L → us.length = cs.length
  | [], _, _, H => by rw [H.1]; rfl
  | c :: cs, us, L, H => by obtain ⟨u, us', L1, L2, rfl, rfl, _, h2⟩ := H; simp [iA.zN h2]
theorem oh.JY {t : Ty} {l : List (den t)} {v : Value} {L : List Nat} (H : TRl w (cI true ab) ok (.sl t) l [v] L) : oh w ab ok true (.tr t l) v L := by
  obtain ⟨v', e, H⟩ := H
  simp only [List.cons.injEq, and_true] at e; subst e
  rcases H with ⟨h1, h2, h3⟩ | ⟨A, cap, L', h1, h2, h3, h4⟩
  · exact .inl ⟨h1, h2, h3⟩
  · rcases h4 with ⟨rfl, rfl, ⟨b0, h0⟩, h4⟩ | ⟨rfl, h4, h5, h6, h7⟩
    · simp [cI] at h0
    · obtain ⟨b, o, s⟩ := A
      simp only at h4; subst h4
      exact .inr ⟨b, o, cap, L', h1, h2, h3, rfl, h5, h6, h7⟩
theorem oh.JZ {t : Ty} {l : List (den t)} {v : Value} {L : List Nat} (H : oh w ab ok true (.tr t l) v L) : TRl w (cI true ab) ok (.sl t) l [v] L := by
  refine ⟨v, rfl, ?_⟩
  rcases H with ⟨h1, h2, h3⟩ | ⟨b, o, cap, L', h1, h2, h3, h4, h5, h6, h7⟩
  · exact .inl ⟨h1, h2, h3⟩
  · exact .inr ⟨⟨b, o, none⟩, cap, L', h1, h2, h3, .inr ⟨h4, rfl, h5, h6, h7⟩⟩
theorem A6 {r : Nat} {t : Ty} {l : List (den t)} {v : Value} {L : List Nat} (H : mM w (μ r) (sz t) 0 l.length v) (hR : RR w ab ok μ h n r (.row true t l) L) (hn : L.Nodup) (hnew : ∀ b, w.heap.size ≤ b → ok b) :
    ∃ Lm, oh w ab ok true (.tr t l) v Lm ∧ Lm.Sublist L ∧ ∀ {w' : World} {imm0 : Nat → Prop} {l' : List (den t)} {Lm' : List Nat} {h' : ay}, By Lm w w' → oh w' imm0 (k8 Lm w) true (.tr t l') v Lm' → Lm'.Nodup →
      l'.length = l.length ∧ ∃ L', RR w' ab ok μ h' n r (.row true t l') L' ∧ L'.Nodup ∧ ∀ b ∈ L', b ∈ Lm' ∨ (b ∈ L ∧ b ∉ Lm) := by
  obtain ⟨Lm, h1, h2⟩ := mM.top (l := l) H (by omega) hR
  simp only [List.drop_zero, List.take_length] at h1
  refine ⟨Lm, h1, h2, fun {w' imm0 l' Lm' h'} hF hT hn' => ?_⟩
  have hok : ∀ b ∈ Lm', ok b ∧ (b ∈ L ∨ w.heap.size ≤ b) := by
    intro b hb
    have : k8 Lm w b := (oh.blocks hT b hb).1
    rcases this with h3 | h3
    · exact ⟨(RR.blocks hR b (h2.subset h3)).1, .inl (h2.subset h3)⟩
    · exact ⟨hnew b h3, .inr h3⟩
  have hT' : oh w' ab ok true (.tr t l') v Lm' := hT.fT (fun b hb => (hok b hb).1)
  rcases H with ⟨rfl, hl⟩ | ⟨o, cap, rfl, g1, g2, g3, g4⟩
  ·
    have hl0 : l = [] := List.eq_nil_of_length_eq_zero hl
    subst hl0
    rcases hT' with ⟨_, rfl, rfl⟩ | ⟨b, o, cap, L', h3, _⟩
    · refine ⟨rfl, ?_⟩
      rcases hR with ⟨k1, _, rfl⟩ | ⟨k1, L', rfl, k2, k3, k4⟩
      · exact ⟨[], .inl ⟨k1, rfl, rfl⟩, by simp, by simp⟩
      · refine ⟨[(μ r).cY], .inr ⟨k1, [], rfl, k2, hF.row _ _ k3, by simp [RL]⟩, by simp, fun b hb => .inr ⟨by simp at hb; simp [hb], ?_⟩⟩
        rcases h1 with ⟨_, _, rfl⟩ | ⟨b, o, cap, L', h3, _⟩
        · simp
        · simp at h3
    · simp at h3
  · rcases hT' with ⟨h3, _⟩ | ⟨b, o', cap', L', h3, h4, h5, h6, h7, h8, h9⟩
    · simp at h3
    · simp only [Value.slice.injEq, af, Addr.mk.injEq, and_true] at h3
      obtain ⟨⟨rfl, rfl⟩, hlen, rfl⟩ := h3
      refine ⟨hlen.symm, ?_⟩
      obtain ⟨L0, rfl, k1, k2, k3⟩ := hR.oX g2
      subst h6
      rcases Nat.eq_zero_or_pos cap with hz | hp
      · have hl0 : l' = [] := List.eq_nil_of_length_eq_zero (by omega)
        have hl1 : l = [] := List.eq_nil_of_length_eq_zero (by omega)
        subst hl0 hl1
        refine ⟨[(μ r).cY], .inr ⟨g2, [], rfl, k1, hF.row _ _ k2, by simp [RL]⟩, by simp, fun b hb => .inl (by simp at hb; simp [hb])⟩
      · obtain ⟨e0, g5⟩ := g4 hp
        simp only [Nat.zero_mul, Nat.add_zero] at e0; subst e0
        refine ⟨(μ r).cY :: L', .inr ⟨g2, L', rfl, k1, (h9 hp).le ?_, h5⟩, hn', fun b hb => .inl hb⟩
        have := Nat.mul_le_mul_right (sz t) h4
        omega
theorem EK {r i off : Nat} {t0 t2 : Ty} {l : List (den t0)} {l2 : List (den t2)} {v : Value} {L : List Nat} (hi : i < l.length) (hbk : (μ r).bk = true) (hcell : w.cell? ⟨(μ r).cY, (μ r).off + i * sz t0 + off, none⟩ = some v)
    (hd : ((encT t0 (l.getD i (eX t0))).drop off).headD .undef = .tr t2 l2) (hR : RR w ab ok μ h n r (.row true t0 l) L) (hn : L.Nodup) (hnew : ∀ b, w.heap.size ≤ b → ok b) (hs : ∀ b, ab b → w.heap.size > b) :
    ∃ Lm, oh w ab ok true (.tr t2 l2) v Lm ∧ Lm.Sublist L ∧ ∀ {w' : World} {imm0 : Nat → Prop} {l' : List (den t2)} {Lm' : List Nat} {h' : ay} {e : den t0}, By Lm w w' → oh w' imm0 (k8 Lm w) true (.tr t2 l') v Lm' → Lm'.Nodup →
      eF t0 (vj (encT t0 (l.getD i (eX t0))) off [.tr t2 l']) = some e → ∃ L', RR w' ab ok μ h' n r (.row true t0 (l.set i e)) L' ∧ L'.Nodup ∧ ∀ b ∈ L', b ∈ Lm' ∨ (b ∈ L ∧ b ∉ Lm) := by
  obtain ⟨L', rfl, g1, g2, g3⟩ := hR.oX hbk
  obtain ⟨L1, L2, L3, rfl, m1, ⟨us, m2, m3⟩, m4⟩ := RL.at (eX t0) hi g3
  have hofl : off < (encT t0 (l.getD i (eX t0))).length := by
    rcases Nat.lt_or_ge off (encT t0 (l.getD i (eX t0))).length with hl | hl
    · exact hl
    · rw [List.drop_of_length_le hl] at hd; simp at hd
  obtain ⟨u1, u2, u3, La, Lb, Lc, rfl, rfl, k1, k2, c1, c2, c3⟩ := m2.oZ.Kz (off := off) (m := 1) (by omega)
  have htake : ((encT t0 (l.getD i (eX t0))).drop off).take 1 = [.tr t2 l2] := by
    cases hc : (encT t0 (l.getD i (eX t0))).drop off with
    | nil => rw [hc] at hd; simp at hd
    | cons y ys => rw [hc] at hd; simp at hd; subst hd; rfl
  rw [htake] at c2
  obtain ⟨u, us', Lx, Ly, rfl, rfl, c4, rfl, rfl⟩ := c2
  have hu : u = v := by
    obtain ⟨_, a2⟩ := At.app.1 m3
    obtain ⟨a3, _⟩ := At.cons.1 a2
    rw [k1, hcell] at a3
    simpa using a3.symm
  subst hu
  have hT := oh.JY (ok := ok) c4
  simp only [List.append_nil] at hn ⊢
  have hnd := hn
  refine ⟨Lx, hT, ?_, fun {w' imm0 l' Lm' h' e} hF hT2 hn' he => ?_⟩
  · refine List.Sublist.cons _ ?_
    exact ((List.sublist_append_left Lx Lc).trans (List.sublist_append_right La _)).trans ((List.sublist_append_left _ L3).trans (List.sublist_append_right L1 _))
  obtain ⟨hnb, hnd⟩ := List.nodup_cons.1 hnd
  have hnot : ∀ b, (b = (μ r).cY ∨ b ∈ L1 ∨ b ∈ La ∨ b ∈ Lc ∨ b ∈ L3) → b ∉ Lx := by
    intro b hb hx
    rcases hb with rfl | hb
    · exact hnb (by simp [hx])
    · obtain ⟨n1, n2, n3⟩ := List.nodup_append.1 hnd
      obtain ⟨n4, n5, n6⟩ := List.nodup_append.1 n2
      obtain ⟨n7, n8, n9⟩ := List.nodup_append.1 n4
      obtain ⟨n10, n11, n12⟩ := List.nodup_append.1 n8
      rcases hb with h | h | h | h
      · exact n3 b h b (by simp [hx]) rfl
      · exact n9 b h b (by simp [hx]) rfl
      · exact n12 b hx b h rfl
      · exact n6 b (by simp [hx]) b h rfl
  have hsame : ∀ b, (b = (μ r).cY ∨ b ∈ L1 ∨ b ∈ La ∨ b ∈ Lc ∨ b ∈ L3) → w'.heap[b]? = w.heap[b]? := by
    intro b hb
    have hlt : b < w.heap.size := by
      rcases hb with rfl | hb
      · exact g2.lt
      · exact (RR.blocks hR b (by rcases hb with h | h | h | h <;> simp [h])).2
    exact hF.block b hlt (hnot b hb)
  have hok : ∀ b ∈ Lm', ok b ∧ (b ∈ Lx ∨ w.heap.size ≤ b) := by
    intro b hb
    have : k8 Lx w b := (oh.blocks hT2 b hb).1
    rcases this with h3 | h3
    · exact ⟨(RR.blocks hR b (by simp [h3])).1, .inl h3⟩
    · exact ⟨hnew b h3, .inr h3⟩
  have hT3 : TRl w' (cI true ab) ok (.sl t2) l' [u] Lm' := (oh.fT (imm' := ab) (ok' := ok) (fun b hb => (hok b hb).1) hT2).JZ
  have hii : ∀ b, cI true ab b → cI true ab b := fun _ h => h
  have hiw : ∀ b, cI true ab b → w'.heap[b]? = w.heap[b]? := fun b hb => by simp [cI] at hb
  have d1 := c1.mono (w' := w') hii (fun _ h => h) hiw (fun b hb => hsame b (by simp [hb]))
  have d3 := c3.mono (w' := w') hii (fun _ h => h) hiw (fun b hb => hsame b (by simp [hb]))
  have hct : CT w' (cI true ab) ok (vj (encT t0 (l.getD i (eX t0))) off [.tr t2 l']) (u1 ++ [u] ++ u3) (La ++ Lm' ++ Lc) := by
    unfold vj
    exact CT.app.2 ⟨u1 ++ [u], u3, La ++ Lm', Lc, rfl, rfl, CT.app.2 ⟨u1, [u], La, Lm', rfl, rfl, d1, ⟨u, [], Lm', [], rfl, by simp, hT3, rfl, rfl⟩⟩, d3⟩
  have htr := CT.eF he hct
  have hblk := hsame (μ r).cY (.inl rfl)
  have hat : At w' (μ r).cY ((μ r).off + i * sz t0) (u1 ++ [u] ++ u3) := by
    rw [show u1 ++ [u] ++ u3 = u1 ++ ([u] ++ u3) by simp]; exact m3.same hblk
  have hrest : ∀ {l0 : List (den t0)} {o' : Nat} {L0 : List Nat}, (∀ b ∈ L0, b ∈ L1 ∨ b ∈ L3) → RL (oW w (cI true ab) ok t0) (sz t0) l0 (μ r).cY o' L0 → RL (oW w' (cI true ab) ok t0) (sz t0) l0 (μ r).cY o' L0 :=
    fun hL hr => RL.imp (fun x _ o L'' hL'' hr => oW.mono hii (fun _ h => h) hiw (fun b hb => hsame b (by rcases hL b (hL'' b hb) with h | h <;> simp [h])) hblk hr) hr
  have hRL := RL.put (l := l) (i := i) (x := e) (L1 := L1) (L2 := La ++ Lm' ++ Lc) (L3 := L3) hi (hrest (fun b hb => .inl hb) m1) ⟨_, htr, hat⟩ (hrest (fun b hb => .inr hb) m4)
  refine ⟨(μ r).cY :: (L1 ++ ((La ++ Lm' ++ Lc) ++ L3)), .inr ⟨hbk, _, rfl, g1, ?_, hRL⟩, ?_, ?_⟩
  · rw [List.length_set]; exact hF.row _ _ g2
  · have hLm : ∀ b ∈ Lm', b ∉ (μ r).cY :: (L1 ++ ((La ++ Lc) ++ L3)) := by
      intro b hb hm
      have hlt : b < w.heap.size := by
        rcases List.mem_cons.1 hm with rfl | hm
        · exact g2.lt
        · exact (RR.blocks hR b (by simp only [List.mem_append, List.mem_cons] at hm ⊢; rcases hm with h | (h | h) | h <;> simp [h])).2
      rcases (hok b hb).2 with hx | hx
      · rcases List.mem_cons.1 hm with rfl | hm
        · exact hnb (by simp [hx])
        · obtain ⟨n1, n2, n3⟩ := List.nodup_append.1 hnd
          obtain ⟨n4, n5, n6⟩ := List.nodup_append.1 n2
          obtain ⟨n7, n8, n9⟩ := List.nodup_append.1 n4
          obtain ⟨n10, n11, n12⟩ := List.nodup_append.1 n8
          simp only [List.mem_append] at hm
          rcases hm with h | (h | h) | h
          · exact n3 b h b (by simp [hx]) rfl
          · exact n9 b h b (by simp [hx]) rfl
          · exact n12 b hx b h rfl
          · exact n6 b (by simp [hx]) b h rfl
      · omega
    have hn2 : ((μ r).cY :: (L1 ++ ((La ++ Lc) ++ L3))).Nodup := by
      refine hn.sublist ?_
      refine List.Sublist.cons_cons _ (List.Sublist.append (List.Sublist.refl _) (List.Sublist.append ?_ (List.Sublist.refl _)))
      exact List.Sublist.append (List.Sublist.refl _) (List.sublist_append_right _ _)
    have hp : ((μ r).cY :: (L1 ++ ((La ++ Lm' ++ Lc) ++ L3))).Perm (Lm' ++ ((μ r).cY :: (L1 ++ ((La ++ Lc) ++ L3)))) := by
      refine List.perm_iff_count.2 (fun x => ?_)
      simp only [List.count_cons, List.count_append]; omega
    exact hp.nodup_iff.2 (List.nodup_append.2 ⟨hn', hn2, fun b hb b' hb' e => by subst e; exact hLm b hb hb'⟩)
  · intro b hb
    simp only [List.mem_cons, List.mem_append] at hb
    rcases hb with h | h | ((h | h) | h) | h
    · exact .inr ⟨by simp [h], hnot b (by simp [h])⟩
    · exact .inr ⟨by simp [h], hnot b (by simp [h])⟩
    · exact .inr ⟨by simp [h], hnot b (by simp [h])⟩
    · exact .inl h
    · exact .inr ⟨by simp [h], hnot b (by simp [h])⟩
    · exact .inr ⟨by simp [h], hnot b (by simp [h])⟩
theorem EM {t : Ty} {a : TV} {y : den t} {v : Value} {r : Nat} {reg0 : dq} {L : List Nat} {hk : ay} (hr : (match a with | .full r => some r | .mJ r _ _ => some r | _ => none) = some r) (hd : wDat h t a = some y) (hv : VR w ab ok μ h n a v)
    (hg : hget h r = some reg0) (hR : RR w ab ok μ hk n r reg0 L) (hn : L.Nodup) (hnew : ∀ b, w.heap.size ≤ b → ok b) (hs : ∀ b, ab b → b < w.heap.size) :
    isAg t = false ∧ Fl t = true ∧ ∃ Lm, iA w ab ok true (encT t y) [v] Lm ∧ Lm.Sublist L ∧ ∀ {w' : World} {imm0 : Nat → Prop} {y' : den t} {Lm' : List Nat} {g : dq} {h' : ay}, By Lm w w' → iA w' imm0 (k8 Lm w) true (encT t y') [v] Lm' → Lm'.Nodup → wNew h t a y' = some g →
      Fit (some reg0) (some g) ∧ ∃ L', RR w' ab ok μ h' n r g L' ∧ L'.Nodup ∧ ∀ b ∈ L', b ∈ Lm' ∨ (b ∈ L ∧ b ∉ Lm) := by
  have one : ∀ {w : World} {ab ok : Nat → Prop} {c : TV} {v : Value} {L : List Nat}, oh w ab ok true c v L → iA w ab ok true [c] [v] L := fun H => ⟨_, [], _, [], rfl, by simp, H, rfl, rfl⟩
  have uno : ∀ {w : World} {ab ok : Nat → Prop} {c : TV} {v : Value} {L : List Nat}, iA w ab ok true [c] [v] L → oh w ab ok true c v L := fun ⟨u, us', L1, L2, e1, e2, H, e3, e4⟩ => by
    subst e3 e4 e2; simp only [List.cons.injEq, and_true] at e1; subst e1; simpa using H
  cases t with
  | sl t1 =>
    refine ⟨rfl, rfl, ?_⟩
    cases a with
    | full r0 =>
      simp only [af] at hr; subst hr
      simp only [wDat, hg] at hd
      cases reg0 with
      | box cs => cases hd
      | mp k l => cases hd
      | row f t' l =>
        cases f with
        | false => cases hd
        | true =>
          obtain ⟨e, hd⟩ := eY hd
          subst e
          subst hd
          simp only [VR, hg] at hv
          obtain ⟨Lm, h1, h2, h3⟩ := A6 (h := hk) (n := n) hv.2 hR hn hnew
          refine ⟨Lm, one h1, h2, fun {w' imm0 y' Lm' g h'} hF hT hn' hw => ?_⟩
          simp only [wNew, af] at hw; subst hw
          obtain ⟨h4, h5⟩ := h3 (h' := h') hF (uno hT) hn'
          exact ⟨by simp [Fit, h4], h5⟩
    | mJ r0 i off =>
      simp only [af] at hr; subst hr
      simp only [wDat, hg] at hd
      split at hd
      · rename_i t0 l e
        simp only [af] at e; subst e
        cases he : ((encT t0 (l.getD i (eX t0))).drop off).headD .undef with
        | tr t2 l2 =>
          rw [he] at hd
          obtain ⟨e, hd⟩ := eY hd
          subst e
          subst hd
          simp only [VR, hg] at hv
          obtain ⟨_, _, _, hil, hbk, hcell⟩ := hv
          obtain ⟨Lm, h1, h2, h3⟩ := EK (h := hk) (n := n) hil hbk hcell he hR hn hnew hs
          refine ⟨Lm, one h1, h2, fun {w' imm0 y' Lm' g h'} hF hT hn' hw => ?_⟩
          simp only [wNew, hg, Option.map_eq_some_iff] at hw
          obtain ⟨e, he2, rfl⟩ := hw
          exact ⟨by simp [Fit], h3 (h' := h') hF (uno hT) hn' he2⟩
        | _ => rw [he] at hd; cases hd
      · simp at hd
    | _ => simp at hr
  | _ => simp [wDat] at hd
theorem zO {hd : ay} {I okm : Nat → Prop} (HI : ∀ r x, hget hd r = some x → ∃ L, RR w ab ok μ hd n r x L ∧ ∀ b ∈ L, I b) (hiI : ∀ b, ab b → I b) : ∀ {ps : List (Ty × Bool)} {xs : List TV} {vs : List Value} {x : den (bg (ps.map (·.1)))}, argW h hd ps xs = some x → VRl w ab ok μ hd n xs vs → ps.all (fun p => !p.2) = true →
    mo w I okm ps x vs []
  | [], [], vs, x, ha, H, _ => by simp only [VRl] at H; exact ⟨H, rfl⟩
  | [], _ :: _, _, _, ha, _, _ => by simp [argW] at ha
  | (t, b) :: _, [], _, _, ha, _, _ => by cases b <;> simp [argW] at ha
  | (t, true) :: ps, y :: xs, vs, x, ha, H, hp => by simp at hp
  | (t, false) :: ps, y :: xs, vs, x, ha, H, hp => by
    simp only [argW, ax, af] at ha
    obtain ⟨cs, hcs, d, hd', z, hz, hxe⟩ := ha
    cases hxe
    simp only [VRl] at H
    obtain ⟨u, vs', rfl, h1, h2⟩ := H
    obtain ⟨us, rfl, hv⟩ := fS hcs h1
    simp only [List.all_cons, bT, Bool.true_and] at hp
    exact ⟨us, vs', [], [], rfl, rfl, fun _ => ⟨rW (ok' := okm) HI hiI hd' hv, rfl⟩, fun e => by simp at e, zO HI hiI hz h2 hp⟩
theorem rX {hd : ay} (HH : HR w ab ok μ h n []) (hlt : ∀ b, ab b → b < w.heap.size) (hio : ∀ b, ab b → ¬ ok b) (hnew : ∀ b, w.heap.size ≤ b → ok b) {r : Nat} {reg0 : dq} (hg : hget h r = some reg0) {L : List Nat} (hR : RR w ab ok μ (killH r h) n r reg0 L) (hn : L.Nodup)
    (HI : ∀ r' x, hget hd r' = some x → ∃ L1, RR w ab ok μ hd n r' x L1 ∧ ∀ b ∈ L1, b < w.heap.size ∧ b ∉ L) :
    ∀ {ps : List (Ty × Bool)} {xs : List TV} {vs : List Value} {x : den (bg (ps.map (·.1)))}, wReg ps xs = some r → argW h hd ps xs = some x → VRl w ab ok μ h n xs vs → VRl w ab ok μ hd n xs vs →
    ∃ Lm, Lm.Sublist L ∧ mo w (fun b => b < w.heap.size ∧ b ∉ Lm) (· ∈ Lm) ps x vs Lm ∧ ∀ {w' : World} {imm0 : Nat → Prop} {y : den (bg (qE ps))} {Lm' : List Nat} {g : dq} {h' : ay}, By Lm w w' → MutR w' imm0 (k8 Lm w) ps y vs Lm' → Lm'.Nodup → wPut h ps xs y = some g →
      Fit (some reg0) (some g) ∧ ∃ L', RR w' ab ok μ h' n r g L' ∧ L'.Nodup ∧ ∀ b ∈ L', b ∈ Lm' ∨ (b ∈ L ∧ b ∉ Lm)
  | [], _, _, _, hw, _, _, _ => by simp [wReg] at hw
  | (t, b) :: _, [], _, _, hw, _, _, _ => by cases b <;> simp [wReg] at hw
  | (t, false) :: ps, a :: xs, vs, x, hw, ha, H, H2 => by
    simp only [argW, ax, af] at ha
    obtain ⟨cs, hcs, d, hd', z, hz, hxe⟩ := ha
    cases hxe
    simp only [VRl] at H H2
    obtain ⟨u, vs', rfl, h1, h2⟩ := H
    obtain ⟨u', vs'', e, h3, h4⟩ := H2
    simp only [List.cons.injEq] at e
    obtain ⟨rfl, rfl⟩ := e
    obtain ⟨us, rfl, hv⟩ := fS hcs h3
    obtain ⟨Lm, q1, q2, q3⟩ := rX HH hlt hio hnew hg hR hn HI (ps := ps) (by simpa [wReg] using hw) hz h2 h4
    have hLok : ∀ b ∈ Lm, ok b := fun b hb => (RR.blocks hR b (q1.subset hb)).1
    refine ⟨Lm, q1, ⟨us, vs', [], Lm, rfl, rfl, fun _ => ⟨rW (I := fun b => b < w.heap.size ∧ b ∉ Lm) (ok' := (· ∈ Lm)) (fun r' x hx => ?_) (fun b hb => ⟨hlt b hb, fun hm => hio b hb (hLok b hm)⟩) hd' hv, rfl⟩, fun e => by simp at e, q2⟩, fun {w' imm0 y Lm' g h'} hF hM hn' hp => q3 (h' := h') hF hM hn' hp⟩
    obtain ⟨L1, k1, k2⟩ := HI r' x hx
    exact ⟨L1, k1, fun b hb => ⟨(k2 b hb).1, fun hm => (k2 b hb).2 (q1.subset hm)⟩⟩
  | (t, true) :: ps, a :: xs, vs, x, hw, ha, H, H2 => by
    simp only [argW, ax, af] at ha
    obtain ⟨d, hd', z, hz, hxe⟩ := ha
    cases hxe
    simp only [VRl] at H H2
    obtain ⟨u, vs', rfl, h1, h2⟩ := H
    obtain ⟨u', vs'', e, h3, h4⟩ := H2
    simp only [List.cons.injEq] at e
    obtain ⟨rfl, rfl⟩ := e
    simp only [wReg] at hw
    obtain ⟨hall, hw⟩ := ah.1 hw
    obtain ⟨hag, hfrT, Lm, q1, q2, q3⟩ := EM hw hd' h1 hg hR hn hnew hlt
    have hLok : ∀ b ∈ Lm, ok b := fun b hb => (RR.blocks hR b (q2.subset hb)).1
    have hrest : mo w (fun b => b < w.heap.size ∧ b ∉ Lm) (· ∈ Lm) ps z vs' [] := zO (fun r' x hx => by
      obtain ⟨L1, k1, k2⟩ := HI r' x hx
      exact ⟨L1, k1, fun b hb => ⟨(k2 b hb).1, fun hm => (k2 b hb).2 (q2.subset hm)⟩⟩) (fun b hb => ⟨hlt b hb, fun hm => hio b hb (hLok b hm)⟩) hz h4 hall
    refine ⟨Lm, q2, ⟨[u], vs', Lm, [], by simp [fh, hag], by simp, fun e => by simp at e, fun _ => ?_, hrest⟩, fun {w' imm0 y Lm' g h'} hF hM hn' hp => ?_⟩
    · have : ∀ {cs : List TV} {us : List Value} {L : List Nat}, iA w ab ok true cs us L → (∀ b ∈ L, b ∈ Lm) → iA w (fun b => b < w.heap.size ∧ b ∉ Lm) (· ∈ Lm) true cs us L := by
        intro cs
        induction cs with
        | nil => intro us L H _; exact H
        | cons c cs ih =>
          rintro us L ⟨u, us', L1, L2, rfl, rfl, k1, k2⟩ hL
          exact ⟨u, us', L1, L2, rfl, rfl, k1.fT (fun b hb => hL b (by simp [hb])), ih k2 (fun b hb => hL b (by simp [hb]))⟩
      rw [hfrT]; exact this q1 (fun b hb => hb)
    · obtain ⟨us, L1, L2, k1, rfl, k2, k3⟩ := hM
      rw [hfrT] at k2
      have hz2 : L2 = [] := by
        have : ∀ {ps : List (Ty × Bool)} {y : den (bg (qE ps))} {vs : List Value} {L : List Nat}, ps.all (fun p => !p.2) = true → MutR w' imm0 (k8 Lm w) ps y vs L → L = [] := by
          intro ps
          induction ps with
          | nil => intro _ _ _ _ H; exact H
          | cons p ps ih =>
            obtain ⟨t, b⟩ := p
            intro y vs L hp H
            cases b with
            | true => simp at hp
            | false => exact ih (y := y) (by simpa using hp) H
        exact this hall k3
      subst hz2
      have hul : us = [u] := by
        have := iA.zN k2
        simp only [List.head?_cons, af] at k1
        cases t with
        | sl t1 =>
          simp only [encT, List.length_cons, List.length_nil] at this
          match us, this with
          | [u'], _ => simp [fh, isAg] at k1; rw [k1]
        | _ => simp [wDat] at hd'
      subst hul
      simp only [List.append_nil] at hn' ⊢
      exact q3 (h' := h') hF k2 hn' (by simpa [wPut] using hp)
end
end Go.Tw
namespace Go.Tw
open Go Go.RowKit
end Go.Tw
namespace Go.Tw
open Go Go.RowKit
variable [k7]
theorem rY : ∀ {F : List bj} {f : FuncId} {xs : List TV} {cn : bj}, cget F f xs = some cn → cn ∈ F ∧ cn.f = f
  | [], f, xs, cn, h => by simp [cget] at h
  | c :: cs, f, xs, cn, h => by
    simp only [cget] at h
    cases hb : Nat.beq f c.f && G1 c.ps xs with
    | true =>
      simp only [hb, ag, af] at h; subst h
      simp only [aA] at hb
      exact ⟨by simp, (Nat.eq_of_beq_eq_true hb.1).symm⟩
    | false => simp only [hb, al] at h; obtain ⟨h1, h2⟩ := rY h; exact ⟨by simp [h1], h2⟩
section
variable {c : Cx} {σ : St} {a : Act} {w w' : World} {o : Oper} {ρ : Type} {F : List bj} {r : ρ}
theorem EN {K' : Act → World → Prop} {Q : Exit → Act → World → Prop} {σ' : St} (h : bR c o a w σ') (hK : ∀ a' w', dH c σ' a' w' → K' a' w') : o.wp c.P a w K' Q := by
  obtain ⟨nx, w', hr, _, h⟩ := h
  unfold Oper.wp
  rw [hr]
  rcases h with ⟨v, rfl, hs⟩ | ⟨rfl, hs⟩
  · exact hK _ _ hs
  · exact hK _ _ hs
theorem By.below {w w' : World} (h : By [] w w') : Below w.heap.size w w' := ⟨h.os, h.tape, h.output, h.size, fun k hk => h.block k hk (by simp)⟩
theorem ph {w : World} {b : Nat} (h : k8 [] w b) : w.heap.size ≤ b := by rcases h with h | h; simp at h; exact h
theorem iA.fT {ab imm' ok ok' : Nat → Prop} : ∀ {cs : List TV} {us : List Value} {L : List Nat}, (∀ b ∈ L, ok' b) → iA w ab ok true cs us L → iA w imm' ok' true cs us L
  | [], _, _, _, H => H
  | c :: cs, us, L, hL, H => by
    obtain ⟨u, us', L1, L2, rfl, rfl, k1, k2⟩ := H
    exact ⟨u, us', L1, L2, rfl, rfl, k1.fT (fun b hb => hL b (by simp [hb])), iA.fT (fun b hb => hL b (by simp [hb])) k2⟩
theorem kX.fT {ab imm' ok ok' : Nat → Prop} : ∀ {ts : List Ty} {x : den (bg ts)} {vs : List Value} {L : List Nat}, (∀ b ∈ L, ok' b) → kX w ab ok true ts x vs L → kX w imm' ok' true ts x vs L
  | [], _, _, _, _, H => H
  | t :: ts, x, vs, L, hL, H => by
    obtain ⟨us, vs', L1, L2, rfl, rfl, k1, k2⟩ := H
    exact ⟨us, vs', L1, L2, rfl, rfl, k1.fT (fun b hb => hL b (by simp [hb])), kX.fT (fun b hb => hL b (by simp [hb])) k2⟩
theorem MutR.blocks {ab ok : Nat → Prop} : ∀ {ps : List (Ty × Bool)} {y : den (bg (qE ps))} {vs : List Value} {L : List Nat}, MutR w ab ok ps y vs L → ∀ b ∈ L, ok b
  | [], _, _, _, H, b, hb => by rw [H] at hb; simp at hb
  | (t, false) :: ps, y, vs, L, H, b, hb => MutR.blocks (ps := ps) (y := y) H b hb
  | (t, true) :: ps, y, vs, L, H, b, hb => by
    obtain ⟨us, L1, L2, _, rfl, k1, k2⟩ := H
    rcases List.mem_append.1 hb with h | h
    · exact (iA.blocks k1 b h).1
    · exact MutR.blocks k2 b h
theorem By.fr {c : Cx} {Lm : List Nat} (h : By Lm w w') (hf : Fr c w) (hok : ∀ b ∈ Lm, c.ok b) : Fr c w' :=
  ⟨h.os.trans hf.os, h.tape.trans hf.tape, h.output.trans hf.output, Nat.le_trans hf.size h.size, fun k hk ho => (h.block k (Nat.lt_of_lt_of_le hk hf.size) (fun hm => ho (hok k hm))).trans (hf.block k hk ho), fun b m hr => h.row b m (hf.row b m hr)⟩
theorem HR.Nw {ab ok : Nat → Prop} {μ : Nat → Mu} {h : ay} {n : Nat} {D D' : List Nat} (H : HR w ab ok μ h n D) (hs : Step ab w w') (hw : ∀ k, k ∉ D → k < w.heap.size → w'.heap[k]? = w.heap[k]?) (hn : D'.Nodup) (hD : ∀ b ∈ D', b ∈ D ∨ w.heap.size ≤ b) :
    HR w' ab ok μ h n D' ∧ Kept (fun _ => True) ab ab ok ok w w' μ μ h h n n := by
  obtain ⟨own, H, h1, h2⟩ := H
  have key : ∀ r x L, RR w ab ok μ h n r x L → (∀ b ∈ L, own b = some r) → ∀ b ∈ L, w'.heap[b]? = w.heap[b]? := by
    intro r x L hR ho b hb
    refine hw b (fun hd => ?_) (RR.blocks hR b hb).2
    have := h2 b hd; rw [ho b hb] at this; simp at this
  have hk : Kept (fun _ => True) ab ab ok ok w w' μ μ h h n n := by
    refine ⟨hs, fun _ h => h, fun _ h => h, fun _ _ => rfl, Nat.le_refl _, fun _ _ => Fit.refl _, ?_⟩
    intro r fr t l _ _ hg _ hbk
    obtain ⟨_, L, hR, _, ho⟩ := H r _ hg
    exact key r _ L hR ho _ (hR.cY hbk)
  refine ⟨⟨fun b => if w.heap.size ≤ b then none else own b, fun r x hx => ?_, hn, fun b hb => ?_⟩, hk⟩
  · obtain ⟨ha, L, hR, hn, ho⟩ := H r x hx
    refine ⟨ha, L, RR.mono hk ha (fF _) (key r x L hR ho) hR, hn, fun b hb => ?_⟩
    have := (RR.blocks hR b hb).2
    show (if w.heap.size ≤ b then none else own b) = some r
    rw [if_neg (by omega)]; exact ho b hb
  · show (if w.heap.size ≤ b then none else own b) = none
    split
    · rfl
    · rcases hD b hb with h3 | h3
      · exact h2 b h3
      · omega
end
section
variable {w w' : World} {ab imm' ok ok' : Nat → Prop} {μ : Nat → Mu} {h : ay} {n : Nat} {fr : Bool}
theorem oh.oF {f f' : Bool} (hf : IF f f' = true) {x : TV} {v : Value} {L : List Nat} (H : oh w ab ok f' x v L) : oh w ab ok f x v L := by
  have hi : ∀ b, cI f' ab b → cI f ab b := fun b hb => ⟨by cases f <;> cases f' <;> simp_all [IF, cI], hb.2⟩
  cases x with
  | p u => exact H
  | tr t l =>
    rcases H with H | ⟨b, o, cap, L', h1, h2, h3, h4, h5, h6, h7⟩
    · exact .inl H
    · exact .inr ⟨b, o, cap, L', h1, h2, RL.imp (fun x _ o L'' hL'' hr => oW.mono hi (fun _ h => h) (fun _ _ => rfl) (fun _ _ => rfl) rfl hr) h3, h4, h5, h6, h7⟩
  | fm t l i off =>
    obtain ⟨h1, h2, x, b, o, us, h3, h4, h5, h6, h7, h8, h9⟩ := H
    exact ⟨h1, h2, x, b, o, us, h3, h4, h5, h6, h7, h8.mono hi (fun _ h => h) (fun _ _ => rfl) (by simp), h9⟩
  | _ => exact H.elim
theorem iA.oF {f f' : Bool} (hf : IF f f' = true) : ∀ {cs : List TV} {us : List Value} {L : List Nat}, iA w ab ok f' cs us L → iA w ab ok f cs us L
  | [], us, L, H => H
  | c :: cs, us, L, H => by
    obtain ⟨u, us', L1, L2, rfl, rfl, h1, h2⟩ := H
    exact ⟨u, us', L1, L2, rfl, rfl, h1.oF hf, h2.oF hf⟩
theorem wi {D : List Nat} {c f : TV} {v : Value} {h' : ay} (H : HR w ab ok μ h n D) (hv : VR w ab ok μ h n c v) (ha : absC h c = some (f, fr, h')) (ht : topB [c] = true) :
    ∃ L, oh w ab ok fr f v L ∧ HR w ab ok μ h' n (L ++ D) := by
  unfold absC at ha
  split at ha
  · simp only [af, aG] at ha
    obtain ⟨rfl, rfl, rfl⟩ := ha
    exact ⟨[], ⟨by simpa [VR] using hv, rfl⟩, by simpa using H⟩
  · simp [topB] at ht
  · rename_i r
    split at ha
    · rename_i fr0 t l hg
      simp only [af, aG] at ha
      obtain ⟨rfl, rfl, rfl⟩ := ha
      simp only [VR, hg] at hv
      obtain ⟨L, hR, H'⟩ := H.kb hg
      obtain ⟨L', h1, h2⟩ := mM.top (l := l) hv.2 (by omega) hR
      simp only [List.drop_zero, List.take_length] at h1
      exact ⟨L', h1, H'.ni (List.Sublist.append h2 (List.Sublist.refl D))⟩
    · simp at ha
  · rename_i r off len
    split at ha
    · rename_i fr0 t l hg
      simp only [af, aG] at ha
      obtain ⟨rfl, rfl, rfl⟩ := ha
      simp only [VR, hg] at hv
      obtain ⟨L, hR, H'⟩ := H.kb hg
      obtain ⟨L', h1, h2⟩ := mM.top (l := l) hv.2.2 hv.2.1 hR
      exact ⟨L', h1, H'.ni (List.Sublist.append h2 (List.Sublist.refl D))⟩
    · simp at ha
  · simp at ha
theorem A7 {c : TV} {cs : List TV} (h : topB (c :: cs) = true) : topB [c] = true ∧ topB cs = true := by
  cases c <;> simp_all [topB]
theorem lU : ∀ {cs fs : List TV} {us : List Value} {D : List Nat} {h : ay} {f : Bool} {h' : ay}, HR w ab ok μ h n D → VRl w ab ok μ h n cs us → absL h cs = some (fs, f, h') → topB cs = true →
    ∃ L, iA w ab ok f fs us L ∧ HR w ab ok μ h' n (L ++ D)
  | [], fs, us, D, h, fr, h', H, hv, ha, _ => by
    simp only [VRl] at hv; subst hv
    simp only [absL, af, aG] at ha
    obtain ⟨rfl, rfl, rfl⟩ := ha
    exact ⟨[], ⟨rfl, rfl⟩, by simpa using H⟩
  | c :: cs, fs, us, D, h, fr, h', H, hv, ha, ht => by
    simp only [VRl] at hv
    obtain ⟨u, us', rfl, h1, h2⟩ := hv
    simp only [absL, ax, af, aG] at ha
    obtain ⟨⟨f1, b1, hh1⟩, ha1, ⟨f2, b2, hh2⟩, ha2, rfl, rfl, rfl⟩ := ha
    obtain ⟨t1, t2⟩ := A7 ht
    obtain ⟨L1, g1, g2⟩ := wi H h1 ha1 t1
    have hsub : ∀ r x, hget hh1 r = some x → hget h r = some x := hZ (cs := [c]) (fs := [f1]) (fr := b1) (by simp [absL, ha1])
    have h2' : VRl w ab ok μ hh1 n cs us' := VRl.mono (Kept.sub hsub) _ _ (aD _) h2
    obtain ⟨L2, k1, k2⟩ := lU g2 h2' ha2 t2
    refine ⟨L1 ++ L2, ⟨u, us', L1, L2, rfl, rfl, g1.oF (by cases b1 <;> cases b2 <;> rfl), k1.oF (by cases b1 <;> cases b2 <;> rfl)⟩, k2.lq ?_⟩
    rw [← List.append_assoc]
    exact List.Perm.append_right _ List.perm_append_comm
theorem iA.app : ∀ {xs ys : List TV} {us vs : List Value} {L M : List Nat}, iA w ab ok fr xs us L → iA w ab ok fr ys vs M → iA w ab ok fr (xs ++ ys) (us ++ vs) (L ++ M)
  | [], ys, us, vs, L, M, H, K => by obtain ⟨rfl, rfl⟩ := H; simpa using K
  | x :: xs, ys, us, vs, L, M, H, K => by
    obtain ⟨u, us', L1, L2, rfl, rfl, h1, h2⟩ := H
    exact ⟨u, us' ++ vs, L1, L2 ++ M, rfl, by simp, h1, iA.app h2 K⟩
theorem iA.dec : ∀ {t : Ty} {cs r : List TV} {x : den t} {us : List Value} {L : List Nat}, decT t cs = some (x, r) → iA w ab ok fr cs us L →
    ∃ us1 us2 L1 L2, us = us1 ++ us2 ∧ L = L1 ++ L2 ∧ iA w ab ok fr (encT t x) us1 L1 ∧ iA w ab ok fr r us2 L2
  | .int k, cs, r, x, us, L, hd, H => by
    simp only [decT] at hd
    split at hd <;> first | (simp at hd; done) | skip
    split at hd
    · simp only [af, aG] at hd
      obtain ⟨rfl, rfl⟩ := hd
      subst_vars
      obtain ⟨u, us', L1, L2, rfl, rfl, ⟨rfl, rfl⟩, h2⟩ := H
      exact ⟨[_], us', [], L2, rfl, rfl, ⟨_, [], [], [], rfl, rfl, ⟨rfl, rfl⟩, rfl, rfl⟩, h2⟩
    · simp at hd
  | .bool, cs, r, x, us, L, hd, H => by
    simp only [decT] at hd
    split at hd <;> first | (simp at hd; done) | skip
    simp only [af, aG] at hd
    obtain ⟨rfl, rfl⟩ := hd
    obtain ⟨u, us', L1, L2, rfl, rfl, ⟨rfl, rfl⟩, h2⟩ := H
    exact ⟨[_], us', [], L2, rfl, rfl, ⟨_, [], [], [], rfl, rfl, ⟨rfl, rfl⟩, rfl, rfl⟩, h2⟩
  | .str, cs, r, x, us, L, hd, H => by
    simp only [decT] at hd
    split at hd <;> first | (simp at hd; done) | skip
    simp only [af, aG] at hd
    obtain ⟨rfl, rfl⟩ := hd
    obtain ⟨u, us', L1, L2, rfl, rfl, ⟨rfl, rfl⟩, h2⟩ := H
    exact ⟨[_], us', [], L2, rfl, rfl, ⟨_, [], [], [], rfl, rfl, ⟨rfl, rfl⟩, rfl, rfl⟩, h2⟩
  | .un, cs, r, x, us, L, hd, H => by
    simp only [decT, af, aG] at hd
    obtain ⟨_, rfl⟩ := hd
    exact ⟨[], us, [], L, rfl, rfl, ⟨rfl, rfl⟩, H⟩
  | .pr a b, cs, r, x, us, L, hd, H => by
    simp only [decT, ax, af, aG] at hd
    obtain ⟨⟨x1, r1⟩, hd1, ⟨x2, r2⟩, hd2, rfl, rfl⟩ := hd
    obtain ⟨us1, us2, L1, L2, rfl, rfl, h1, h2⟩ := iA.dec hd1 H
    obtain ⟨us3, us4, L3, L4, rfl, rfl, h3, h4⟩ := iA.dec hd2 h2
    exact ⟨us1 ++ us3, us4, L1 ++ L3, L4, by simp, by simp, h1.app h3, h4⟩
  | .sl t, cs, r, x, us, L, hd, H => by
    simp only [decT] at hd
    split at hd <;> first | (simp at hd; done) | skip
    · simp only [ax, af, aG] at hd
      obtain ⟨l', hc, rfl, rfl⟩ := hd
      obtain ⟨rfl, rfl⟩ := eY hc
      obtain ⟨u, us', L1, L2, rfl, rfl, h1, h2⟩ := H
      exact ⟨[u], us', L1, L2, rfl, rfl, ⟨u, [], L1, [], rfl, by simp, h1, rfl, rfl⟩, h2⟩
    · simp only [af, aG] at hd
      obtain ⟨rfl, rfl⟩ := hd
      obtain ⟨u, us', L1, L2, rfl, rfl, ⟨rfl, rfl⟩, h2⟩ := H
      exact ⟨[_], us', [], L2, rfl, rfl, ⟨_, [], [], [], rfl, rfl, .inl ⟨rfl, rfl, rfl⟩, rfl, rfl⟩, h2⟩
  | .ref t, cs, r, x, us, L, hd, H => by
    simp only [decT] at hd
    split at hd <;> first | (simp at hd; done) | skip
    simp only [ax, af, aG] at hd
    obtain ⟨l', hc, rfl, rfl⟩ := hd
    obtain ⟨rfl, rfl⟩ := eY hc
    obtain ⟨u, us', L1, L2, rfl, rfl, h1, h2⟩ := H
    exact ⟨[u], us', L1, L2, rfl, rfl, ⟨u, [], L1, [], rfl, by simp, h1, rfl, rfl⟩, h2⟩
  | .cl g t, cs, r, x, us, L, hd, H => by
    simp only [decT] at hd
    split at hd <;> first | (simp at hd; done) | skip
    obtain ⟨u, us', L1, L2, rfl, rfl, h1, _⟩ := H
    exact h1.elim
theorem iA.eF {t : Ty} {cs : List TV} {x : den t} {us : List Value} {L : List Nat} (hd : eF t cs = some x) (H : iA w ab ok fr cs us L) : iA w ab ok fr (encT t x) us L := by
  unfold Go.Tw.eF at hd
  split at hd
  · rename_i y hy
    simp only [af] at hd; subst hd
    obtain ⟨us1, us2, L1, L2, rfl, rfl, h1, h2⟩ := iA.dec hy H
    obtain ⟨rfl, rfl⟩ := h2
    simpa using h1
  · simp at hd
theorem iA.length : ∀ {cs : List TV} {us : List Value} {L : List Nat}, iA w ab ok fr cs us L → us.length = cs.length
  | [], us, L, H => by rw [H.1]; rfl
  | c :: cs, us, L, H => by obtain ⟨u, us', L1, L2, rfl, rfl, _, h2⟩ := H; simp [iA.length h2]
theorem wj {g : TV} {t : Ty} {v : Value} {y : den t} {D : List Nat} {h h' : ay} (hx : tF g t h = some (y, h')) (HH : HR w ab ok μ h n D) (hg : VR w ab ok μ h n g v) :
    ∃ us L, v = fh (isAg t) us ∧ iA w ab ok true (encT t y) us L ∧ HR w ab ok μ h' n (L ++ D) ∧ ∀ r x, hget h' r = some x → hget h r = some x := by
  simp only [tF, ax] at hx
  obtain ⟨cs, hcs, ⟨fs, f, h1⟩, habs, hx⟩ := hx
  obtain ⟨hf, hx⟩ := ah.1 hx
  simp only [ax, af, aG] at hx
  obtain ⟨d, hd, rfl, rfl⟩ := hx
  simp only [aA] at hf
  obtain ⟨vs, rfl, hv⟩ := fS hcs hg
  obtain ⟨L1, g1, g2⟩ := lU HH hv habs hf.1
  exact ⟨vs, L1, rfl, iA.eF hd (by rw [← hf.2]; exact g1), g2, fun r x hx => hZ habs r x hx⟩
theorem uV {hd : ay} : ∀ {ps : List (Ty × Bool)} {xs : List TV} {vals : List Value} {h : ay} {D : List Nat} {x : den (bg (ps.map (·.1)))}, remN h ps xs = some hd → wk hd h ps xs = some x → HR w ab ok μ h n D → VRl w ab ok μ h n xs vals →
    ∃ Lm, HR w ab ok μ hd n (Lm ++ D) ∧ (∀ b ∈ Lm, ok b ∧ b < w.heap.size) ∧ (∀ r x, hget hd r = some x → hget h r = some x) ∧ ∀ (imm2 ok2 : Nat → Prop), (∀ b ∈ Lm, ok2 b) → (∀ (t : Ty) (d : den t) (cs : List TV) (us : List Value), sR hd t cs = some d → VRl w ab ok μ hd n cs us → TRl w imm2 ok2 t d us []) → mo w imm2 ok2 ps x vals Lm
  | [], [], vals, h, D, x, hr, ha, H, hv => by
    simp only [remN, af] at hr; subst hr
    simp only [VRl] at hv; subst hv
    exact ⟨[], by simpa using H, fun b hb => by simp at hb, fun _ _ h => h, fun _ _ _ _ => ⟨rfl, rfl⟩⟩
  | [], _ :: _, _, _, _, _, hr, _, _, _ => by simp [remN] at hr
  | (_, b) :: _, [], _, _, _, _, hr, _, _, _ => by cases b <;> simp [remN] at hr
  | (t, false) :: ps, y :: xs, vals, h, D, x, hr, ha, H, hv => by
    simp only [remN] at hr
    simp only [wk, ax, af] at ha
    obtain ⟨cs, hcs, d, hd', z, hz, hxe⟩ := ha
    cases hxe
    obtain ⟨u, vals', rfl, h1, h2⟩ := hv
    obtain ⟨Lm, g1, g4, g2, g3⟩ := uV hr hz H h2
    obtain ⟨us, rfl, hv⟩ := fS hcs h1
    refine ⟨Lm, g1, g4, g2, fun imm2 ok2 hk hs => ⟨us, vals', [], Lm, rfl, rfl, fun _ => ⟨hs t d cs us hd' (VRl.mono (Kept.sub g2) _ _ (aD _) hv), rfl⟩, fun e => by simp at e, g3 imm2 ok2 hk hs⟩⟩
  | (t, true) :: ps, y :: xs, vals, h, D, x, hr, ha, H, hv => by
    simp only [remN] at hr
    obtain ⟨hft, hr⟩ := ah.1 hr
    simp only [ax] at hr
    obtain ⟨⟨d, h1⟩, hex, hr⟩ := hr
    simp only [wk, hex, ai, ax, af] at ha
    obtain ⟨z, hz, hxe⟩ := ha
    cases hxe
    obtain ⟨u, vals', rfl, k1, k2⟩ := hv
    obtain ⟨us, L, rfl, q1, q2, q3⟩ := wj hex H k1
    have k2' : VRl w ab ok μ h1 n xs vals' := VRl.mono (Kept.sub q3) _ _ (aD _) k2
    obtain ⟨Lm, g1, g4, g2, g3⟩ := uV hr hz q2 k2'
    refine ⟨L ++ Lm, g1.lq ?_, fun b hb => (List.mem_append.1 hb).elim (fun h => iA.blocks q1 b h) (fun h => g4 b h), fun r x hx => q3 r x (g2 r x hx), fun imm2 ok2 hk hs => ⟨us, vals', L, Lm, rfl, rfl, fun e => by simp at e, fun _ => ?_, g3 imm2 ok2 (fun b hb => hk b (by simp [hb])) hs⟩⟩
    · rw [← List.append_assoc]
      exact List.Perm.append_right _ List.perm_append_comm
    · rw [hft]
      exact q1.fT (fun b hb => hk b (by simp [hb]))
end
section
variable {c : Cx} {σ : St} {a : Act} {w w' : World} {o : Oper} {ρ : Type} {F : List bj} {r : ρ}
theorem EO {cn : bj} (hcon : an c.P cn) {s s' : List (Nat × TV)} {h hd : ay} {n : Nat} (hs : dH c ⟨s, h, n⟩ a w) {μ : Nat → Mu} (hH : HR w c.ab c.ok μ h n []) (hl : SR w c.ab c.ok μ h n s a.tmps) (hgs : VRl w c.ab c.ok μ h n c.gs c.gv)
    {xs : List TV} {vals : List Value} (hall : VRl w c.ab c.ok μ h n xs vals) (hown : cn.rm.isMv = true) {x : den (bg (cn.ps.map (·.1)))} {y} (hr : remN h cn.ps xs = some hd)
    (hx : wk hd h cn.ps xs = some x) (hy : cn.m x = some y) (hput : sput c.m o.dst (retT (opnL true cn.rs y.1 hd n).1) s = some s') :
    Calls c.P cn.f vals.toArray w fun e w' => ∃ rv, e = .returned rv ∧ dH c ⟨s', (opnL true cn.rs y.1 hd n).2.1, (opnL true cn.rs y.1 hd n).2.2⟩ (a.put o.dst rv) w' := by
  have hlt := hs.lt
  have hnew := hs.new
  have hio := c.iZ
  obtain ⟨Lm, HD0, hLok0, hsub, hA⟩ := uV hr hx hH hall
  have HD0 : HR w c.ab c.ok μ hd n Lm := by simpa using HD0
  have hn0 : Lm.Nodup := HD0.nodup
  have hLok : ∀ b ∈ Lm, c.ok b := fun b hb => (hLok0 b hb).1
  have HI : ∀ r' x, hget hd r' = some x → ∃ L1, RR w c.ab c.ok μ hd n r' x L1 ∧ ∀ b ∈ L1, b < w.heap.size ∧ b ∉ Lm := by
    intro r' x hx
    obtain ⟨L1, k1, k2⟩ := HR.JX HD0 r' x hx
    exact ⟨L1, k1, fun b hb => ⟨(k2 b hb).1, (k2 b hb).2⟩⟩
  have q2 := hA (fun b => b < w.heap.size ∧ b ∉ Lm) (fun b => b ∈ Lm) (fun b hb => hb) (fun t d cs us h1 h2 => rW HI (fun b hb => ⟨hlt b hb, fun hm => hio b hb (hLok b hm)⟩) h1 h2)
  refine (hcon.2 w (fun b => b < w.heap.size ∧ b ∉ Lm) vals x Lm y (fun b hb => hb) ⟨fun g hg => ⟨hlt g (c.gG g hg), fun hm => hio g (c.gG g hg) (hLok g hm)⟩, hs.fr.gJ⟩ hn0 q2 hy).mono ?_
  rintro e w' ⟨vs, Lr, Lm', he, hF, hres, hM, hnd⟩
  obtain ⟨hn1, hn2, hn3⟩ := List.nodup_append.1 hnd
  have hrm : cn.rm = .mv := by
    cases hrm : cn.rm with
    | mv => rfl
    | mix bs => rw [hrm] at hown; simp [RM.isMv] at hown
    | GZ => rw [hrm] at hown; simp [RM.isMv] at hown
    | own fr => rw [hrm] at hown; simp [RM.isMv] at hown
  rw [hrm] at hres
  have hres : kX w' (fun b => b < w.heap.size ∧ b ∉ Lm) (k8 Lm w) true cn.rs y.1 vs Lr := hres
  have hLr : ∀ b ∈ Lr, b ∈ Lm ∨ w.heap.size ≤ b := fun b hb => (hres.blocks b hb).1
  have hstep : Step c.ab w w' := ⟨fun b hb => hF.block b (hlt b hb) (fun hm => hio b hb (hLok b hm)), hF.row⟩
  obtain ⟨H1, kp⟩ := HR.Nw (D' := Lr ++ []) HD0 hstep (fun k hk hkl => hF.block k hkl hk) (by simpa using hn1) (fun b hb => hLr b (by simpa using hb))
  have hl3 : SR w' c.ab c.ok μ hd n s a.tmps := fun t => SR.mono kp (SR.mono (Kept.sub hsub) hl) t
  have hgs3 : VRl w' c.ab c.ok μ hd n c.gs c.gv := dm kp c (dm (Kept.sub hsub) c hgs)
  have hres' : kX w' c.ab c.ok true cn.rs y.1 vs Lr := hres.fT (fun b hb => by
    rcases hLr b hb with h3 | h3
    · exact hLok b h3
    · exact hnew b h3)
  obtain ⟨μ', b1, b2, b3, b4, b5⟩ := pg hres' H1
  have kpo : Kept (fun _ => True) c.ab c.ab c.ok c.ok w' w' μ μ' hd (opnL true cn.rs y.1 hd n).2.1 n (opnL true cn.rs y.1 hd n).2.2 := Kept.opened b1 b4 b5
  obtain ⟨hfr, hdf, hsz, _⟩ := id hs
  exact ⟨retV vs, he, dH.put (hF.fr hfr hLok) hdf hsz b2 (SR.mono kpo hl3) (dm kpo c hgs3) (oE b3) hput⟩
theorem wo {cn : bj} (hcon : an c.P cn) {s s2 s' : List (Nat × TV)} {h h2 h3 : ay} {n : Nat} (hs : dH c ⟨s, h, n⟩ a w) {μ : Nat → Mu} (hH : HR w c.ab c.ok μ h n []) (hl : SR w c.ab c.ok μ h n s a.tmps) (hgs : VRl w c.ab c.ok μ h n c.gs c.gv)
    {xs : List TV} {vals : List Value} (hall : VRl w c.ab c.ok μ h n xs vals) (hown : cn.rm.isOwnF = true) {r : Nat} {x : den (bg (cn.ps.map (·.1)))} {y} {g : dq} (hr : wReg cn.ps xs = some r) (hrow : wq (hget h r) = true)
    (hh : ∀ r', hget h2 r' = hget (iV (killH r h) r) r') (hs2 : ∀ t, sget s2 t = sget (killS r s) t) (hx : argW h h2 cn.ps xs = some x) (hy : cn.m x = some y) (hp : wPut h cn.ps xs y.2 = some g) (hh3 : ∀ r', hget h3 r' = hget (killH r (hset h r g)) r') (hput : sput c.m o.dst (opnR cn.rm cn.rs y.1 h3 n).1 s2 = some s') :
    Calls c.P cn.f vals.toArray w fun e w' => ∃ rv, e = .returned rv ∧ dH c ⟨s', (opnR cn.rm cn.rs y.1 h3 n).2.1, (opnR cn.rm cn.rs y.1 h3 n).2.2⟩ (a.put o.dst rv) w' := by
  have hlt := hs.lt
  have hnew := hs.new
  have hio := c.iZ
  have HK := HR.kill r hH
  cases hg : hget h r with
  | none => rw [hg] at hrow; cases hrow
  | some reg0 =>
    cases reg0 with
    | box cs => rw [hg] at hrow; cases hrow
    | mp k l => rw [hg] at hrow; cases hrow
    | row f0 t0 l0 =>
      have hgk : hget (killH r h) r = some (.row f0 t0 l0) := by rw [hget_killH, hg]; rfl
      obtain ⟨L, hR, hn, _, hoth, hre⟩ := HR.rewrite HK hgk
      have hsub : ∀ r' x, hget h2 r' = some x → hget (killH r h) r' = some x := fun r' x hx => dz (by rw [← hh]; exact hx)
      have HI : ∀ r' x, hget h2 r' = some x → ∃ L1, RR w c.ab c.ok μ h2 n r' x L1 ∧ ∀ b ∈ L1, b < w.heap.size ∧ b ∉ L := by
        intro r' x hx
        have hx' := hsub r' x hx
        have hne : r' ≠ r := by rintro rfl; rw [hh, gi] at hx; simp at hx
        obtain ⟨L1, k1, k2⟩ := hoth r' x hne hx'
        exact ⟨L1, RR.mono (K := fun _ => True) (Kept.sub hsub) (HR.lt HK hx') (fF _) (fun _ _ => rfl) k1, k2⟩
      have H2 : VRl w c.ab c.ok μ h2 n xs vals := VRl.mono (Kept.sub hsub) _ _ (aD _) (VRl.mono (Kept.kill r) _ _ (aD _) hall)
      obtain ⟨Lm, q1, q2, q3⟩ := rX hH hlt hio hnew hg hR hn HI hr hx hall H2
      have hLok : ∀ b ∈ Lm, c.ok b := fun b hb => (RR.blocks hR b (q1.subset hb)).1
      refine (hcon.2 w (fun b => b < w.heap.size ∧ b ∉ Lm) vals x Lm y (fun b hb => hb) ⟨fun g hg => ⟨hlt g (c.gG g hg), fun hm => hio g (c.gG g hg) (hLok g hm)⟩, hs.fr.gJ⟩ (hn.sublist q1) q2 hy).mono ?_
      rintro e w' ⟨vs, Lr, Lm', he, hF, hres, hM, hnd⟩
      obtain ⟨hn1, hn2, hn3⟩ := List.nodup_append.1 hnd
      have hrm : cn.rm = .own true := by
        cases hrm : cn.rm with
        | GZ => rw [hrm] at hown; simp [RM.isOwnF] at hown
        | mv => rw [hrm] at hown; simp [RM.isOwnF] at hown
        | mix bs => rw [hrm] at hown; simp [RM.isOwnF] at hown
        | own fr => rw [hrm] at hown; cases fr with
          | true => rfl
          | false => simp [RM.isOwnF] at hown
      rw [hrm] at hM
      have hM : MutR w' (fun b => b < w.heap.size ∧ b ∉ Lm) (k8 Lm w) cn.ps y.2 vals Lm' := hM
      obtain ⟨hfit, L', hR', hn', hL'⟩ := q3 (h' := hset (killH r h) r g) hF hM hn2 hp
      have hLm' : ∀ b ∈ Lm', b ∈ L ∨ w.heap.size ≤ b := fun b hb => by
        rcases hM.blocks b hb with h3 | h3
        · exact .inl (q1.subset h3)
        · exact .inr h3
      rw [hrm] at hres
      have hres : kX w' (fun b => b < w.heap.size ∧ b ∉ Lm) (k8 Lm w) true cn.rs y.1 vs Lr := hres
      have hLr : ∀ b ∈ Lr, b ∈ Lm ∨ w.heap.size ≤ b := fun b hb => (hres.blocks b hb).1
      have hstep : Step c.ab w w' := ⟨fun b hb => hF.block b (hlt b hb) (fun hm => hio b hb (hLok b hm)), hF.row⟩
      obtain ⟨H1, kp⟩ := hre (w' := w') (x' := g) (K := (· ≠ r)) (L' := L') hfit hstep (fun b hb hbl => hF.block b hb (fun hm => hbl (q1.subset hm))) (fun _ _ _ hk => absurd rfl hk) (fun r' cs hne hcs => by
            rw [hget_killH, Option.map_eq_some_iff] at hcs
            obtain ⟨z, _, hz⟩ := hcs
            cases z with
            | row => simp at hz
            | mp => simp at hz
            | box cs' => simp only [dq.box.injEq] at hz; subst hz; exact hY r _) (by simp) (fun _ => hR') hn' (fun b hb => by
            rcases hL' b hb with h3 | ⟨h3, _⟩
            · exact hLm' b h3
            · exact .inl h3) (E := Lr) hn1 (fun b hb => by
            refine ⟨fun hb' => ?_, ?_⟩
            · rcases hL' b hb' with h3 | ⟨h3, h4⟩
              · exact hn3 b hb b h3 rfl
              · rcases hLr b hb with h5 | h5
                · exact h4 h5
                · have := (RR.blocks hR b h3).2; omega
            · rcases hLr b hb with h5 | h5
              · exact .inl (q1.subset h5)
              · exact .inr h5)
      have hgrow : ∃ f1 t1 l1, g = .row f1 t1 l1 := by
        cases g with
        | row f1 t1 l1 => exact ⟨_, _, _, rfl⟩
        | box cs => simp [Fit] at hfit
        | mp => simp [Fit] at hfit
      obtain ⟨f1, t1, l1, rfl⟩ := hgrow
      have hcong : ∀ r', hget h3 r' = hget (hset (killH r h) r (.row f1 t1 l1)) r' := by
        intro r'
        rw [hh3, hget_killH, eW, eW]
        split
        · rfl
        · rw [hget_killH]
      have H3 : HR w' c.ab c.ok μ h3 n (Lr ++ []) := H1.congr hcong
      have hl3 : SR w' c.ab c.ok μ h3 n s2 a.tmps := fun t => by rw [hs2]; exact SR.congr hcong (SR.IC (K := (· ≠ r)) kp (fun t => by rw [kV]; exact mi r _) (SR.Er r hl)) t
      have hgs3 : VRl w' c.ab c.ok μ h3 n c.gs c.gv := VRl.congr hcong (dm kp c (dm (Kept.kill r) c hgs))
      have hres' : kX w' c.ab c.ok true cn.rs y.1 vs Lr := hres.fT (fun b hb => by
        rcases hLr b hb with h3 | h3
        · exact hLok b h3
        · exact hnew b h3)
      rw [hrm] at hput ⊢
      obtain ⟨μ', b1, b2, b3, b4, b5⟩ := pg hres' H3
      have kpo : Kept (fun _ => True) c.ab c.ab c.ok c.ok w' w' μ μ' h3 (opnL true cn.rs y.1 h3 n).2.1 n (opnL true cn.rs y.1 h3 n).2.2 := Kept.opened b1 b4 b5
      obtain ⟨hfr, hd, hsz, _⟩ := id hs
      exact ⟨retV vs, he, dH.put (hF.fr hfr hLok) hd hsz b2 (SR.mono kpo hl3) (dm kpo c hgs3) (oE b3) hput⟩
end
section
variable {w : World} {ab ok : Nat → Prop} {μ : Nat → Mu} {h : ay} {n : Nat} {K : Nat → Prop}
mutual
theorem VR.noI : ∀ (x : TV) (v : Value), VR w ab ok μ h n x v → VR w ab ok μ h n (Tw.noI x) v
  | .mJ _ _ _, v, _ => by simp [Tw.noI, VR]
  | .agg cs, v, H => by simp only [Tw.noI, VR] at H ⊢; obtain ⟨us, h1, h2⟩ := H; exact ⟨us, h1, VRl.noI cs us h2⟩
  | .mF cs, v, H => by simp only [Tw.noI, VR] at H ⊢; obtain ⟨us, h1, h2⟩ := H; exact ⟨us, h1, VRl.noI cs us h2⟩
  | .oV t x, v, H => by simp only [Tw.noI, VR] at H ⊢; obtain ⟨u, h1, h2⟩ := H; exact ⟨u, h1, VR.noI x u h2⟩
  | .fn f fi ca, v, H => by simp only [Tw.noI, VR] at H ⊢; obtain ⟨us, vs, h1, h2, h3⟩ := H; exact ⟨us, vs, h1, VRl.noI fi us h2, VRl.noI ca vs h3⟩
  | .p _, v, H => H
  | .tr _ _, v, H => H
  | .full _, v, H => H
  | .sub _ _ _, v, H => H
  | .ptr _ _ _, v, H => H
  | .fm _ _ _ _, v, H => H
  | .mp _, v, H => H
  | .undef, v, H => H
theorem VRl.noI : ∀ (xs : List TV) (us : List Value), VRl w ab ok μ h n xs us → VRl w ab ok μ h n (wu xs) us
  | [], us, H => H
  | x :: xs, us, H => by
    simp only [wu, VRl] at H ⊢
    obtain ⟨u, us', h1, h2, h3⟩ := H
    exact ⟨u, us', h1, VR.noI x u h2, VRl.noI xs us' h3⟩
end
mutual
theorem pX : ∀ x, innOk K (noI x)
  | .mJ _ _ _ => trivial
  | .agg cs => by simp only [noI, innOk]; exact kY cs
  | .mF cs => by simp only [noI, innOk]; exact kY cs
  | .oV t x => by simp only [noI, innOk]; exact pX x
  | .fn f fi ca => by simp only [noI, innOk]; exact ⟨kY fi, kY ca⟩
  | .p _ => trivial
  | .tr _ _ => trivial
  | .full _ => trivial
  | .sub _ _ _ => trivial
  | .ptr _ _ _ => trivial
  | .fm _ _ _ _ => trivial
  | .mp _ => trivial
  | .undef => trivial
theorem kY : ∀ xs, innOkl K (wu xs)
  | [] => trivial
  | x :: xs => ⟨pX x, kY xs⟩
end
theorem pj : ∀ (s : List (Nat × TV)) (t : Nat), sget (noIS s) t = noI (sget s t)
  | [], t => rfl
  | (k, x) :: s, t => by
    simp only [noIS, sget]
    cases Nat.beq t k with
    | true => rfl
    | false => exact pj s t
theorem rZ {f : Nat → TV} (hf : ∀ t, innOk K (f t)) : ∀ l : List Nat, innOkl K (l.map f)
  | [] => trivial
  | t :: l => ⟨hf t, rZ hf l⟩
theorem sc : ∀ {xs ys : List TV}, innOkl K xs → innOkl K ys → innOkl K (xs ++ ys)
  | [], ys, _, h => h
  | x :: xs, ys, h1, h2 => ⟨h1.1, sc h1.2 h2⟩
theorem zP {f : Nat → TV} {g : Nat → Value} : ∀ {l : List Nat}, (∀ t ∈ l, VR w ab ok μ h n (f t) (g t)) → VRl w ab ok μ h n (l.map f) (l.map g)
  | [], _ => by simp [VRl]
  | t :: l, H => by simp only [List.map_cons, VRl]; exact ⟨_, _, rfl, H t (by simp), zP fun u hu => H u (by simp [hu])⟩
theorem sd {f : Nat → TV} {g : Nat → Value} : ∀ {l : List Nat}, VRl w ab ok μ h n (l.map f) (l.map g) → ∀ t ∈ l, VR w ab ok μ h n (f t) (g t)
  | [], _, t, ht => by simp at ht
  | u :: l, H, t, ht => by
    simp only [List.map_cons, VRl] at H
    obtain ⟨v, vs, e, h1, h2⟩ := H
    simp only [List.cons.injEq] at e
    obtain ⟨rfl, rfl⟩ := e
    rcases List.mem_cons.1 ht with rfl | ht
    · exact h1
    · exact sd h2 t ht
theorem tG : ∀ (s : List (Nat × TV)) (t : Nat), t ∉ s.map (·.1) → sget s t = .undef
  | [], t, _ => rfl
  | (k, x) :: s, t, h => by
    simp only [List.map_cons, List.mem_cons, not_or] at h
    rw [bZ, if_neg h.1]; exact tG s t h.2
end
def qk (P : Program) (N : A8) : Prop := ∀ (c : Cx), c.P = P → ∀ (ρ : Type) (f : FuncId) (xs : List TV) (h : ay) (n : Nat) (K : TV → ay → Nat → Option ρ) (r : ρ), N ρ f xs h n K = some r → callable P f = true ∧
  ∀ (w : World) (vals : List Value) (μ : Nat → Mu), Fr c w → HR w c.ab c.ok μ h n [] → VRl w c.ab c.ok μ h n xs vals → VRl w c.ab c.ok μ h n c.gs c.gv →
    Calls P f vals.toArray w fun e w' => ∃ rv v h' n' μ', e = .returned rv ∧ K v h' n' = some r ∧ Fr c w' ∧ HR w' c.ab c.ok μ' h' n' [] ∧ VR w' c.ab c.ok μ' h' n' v rv ∧ VRl w' c.ab c.ok μ' h' n' c.gs c.gv
section
variable {w : World} {ab ok : Nat → Prop} {μ : Nat → Mu} {h : ay} {n r : Nat}
theorem pk (hf : flatRow (hget h r) = true) : ∃ f t l, hget h r = some (.row f t l) ∧ hasSl t = false := by
  cases hg : hget h r with
  | none => rw [hg] at hf; cases hf
  | some x =>
    cases x with
    | row f t l => rw [hg] at hf; exact ⟨f, t, l, rfl, by simpa [flatRow] using hf⟩
    | box cs => rw [hg] at hf; cases hf
    | mp k l => rw [hg] at hf; cases hf
theorem sT (hf : flatRow (hget h r) = true) : wq (hget h r) = true := by
  obtain ⟨f, t, l, e, _⟩ := pk hf
  rw [e]; rfl
mutual
theorem VR.gH (hf : flatRow (hget h r) = true) : ∀ (x : TV) (v : Value), VR w ab ok μ h n x v → kill r x = x
  | .mJ r' i off, v, H => by
    simp only [kill]
    cases hb : Nat.beq r' r with
    | false => rfl
    | true =>
      have e : r' = r := Nat.eq_of_beq_eq_true hb
      subst e
      obtain ⟨f, t, l, e, hs⟩ := pk hf
      simp only [VR, e] at H
      rw [hs] at H
      exact absurd H.2.2.1 (by simp)
  | .agg cs, v, H => by
    simp only [VR] at H
    obtain ⟨us, _, H⟩ := H
    simp only [kill, VRl.gH hf cs us H]
  | .mF cs, v, H => by
    simp only [VR] at H
    obtain ⟨us, _, H⟩ := H
    simp only [kill, VRl.gH hf cs us H]
  | .oV t x, v, H => by
    simp only [VR] at H
    obtain ⟨u, _, H⟩ := H
    simp only [kill, VR.gH hf x u H]
  | .fn f fi ca, v, H => by
    simp only [VR] at H
    obtain ⟨us, vs, _, H1, H2⟩ := H
    simp only [kill, VRl.gH hf fi us H1, VRl.gH hf ca vs H2]
  | .p _, v, H => rfl
  | .tr _ _, v, H => rfl
  | .full _, v, H => rfl
  | .sub _ _ _, v, H => rfl
  | .ptr _ _ _, v, H => rfl
  | .fm _ _ _ _, v, H => rfl
  | .mp _, v, H => rfl
  | .undef, v, H => rfl
theorem VRl.gH (hf : flatRow (hget h r) = true) : ∀ (xs : List TV) (us : List Value), VRl w ab ok μ h n xs us → lr r xs = xs
  | [], us, H => rfl
  | x :: xs, us, H => by
    simp only [VRl] at H
    obtain ⟨u, us', _, H1, H2⟩ := H
    simp only [lr, VR.gH hf x u H1, VRl.gH hf xs us' H2]
end
theorem tH {D : List Nat} (hf : flatRow (hget h r) = true) (HH : HR w ab ok μ h n D) (r' : Nat) : hget (killH r h) r' = hget h r' := by
  rw [hget_killH]
  cases hg : hget h r' with
  | none => rfl
  | some x =>
    cases x with
    | row f t l => rfl
    | mp k l => rfl
    | box cs =>
      obtain ⟨L, hR⟩ := HH.row hg
      simp only [RR] at hR
      obtain ⟨_, _, _, us, hus, _⟩ := hR
      simp only [Option.map_some, VRl.gH hf cs us hus]
theorem A9 {D : List Nat} (hf : flatRow (hget h r) = true) (HH : HR w ab ok μ h n D) (r' : Nat) : hget (iV h r) r' = hget (iV (killH r h) r) r' := by
  rw [gi, gi, tH hf HH]
theorem Ba {D : List Nat} {g : dq} (hf : flatRow (hget h r) = true) (hg : wq (some g) = true) (HH : HR w ab ok μ h n D) (r' : Nat) : hget (hset h r g) r' = hget (killH r (hset h r g)) r' := by
  rw [hget_killH, eW]
  split
  · cases g with
    | row f t l => rfl
    | box cs => cases hg
    | mp k l => cases hg
  · have := tH hf HH r'
    rw [hget_killH] at this
    exact this.symm
theorem Bb {s : List (Nat × TV)} {us : Array Value} (hf : flatRow (hget h r) = true) (HS : SR w ab ok μ h n s us) (t : Nat) : sget s t = sget (killS r s) t := by
  rw [kV, VR.gH hf _ _ (HS t)]
end
theorem wv {h : ay} : ∀ {ps : List (Ty × Bool)} {xs : List TV} {y : den (bg ((ps.filter (·.2)).map (·.1)))} {g : dq}, wPut h ps xs y = some g → wq (some g) = true
  | [], _, _, _, H => by simp [wPut] at H
  | (t, b) :: _, [], _, _, H => by cases b <;> simp [wPut] at H
  | (t, false) :: ps, x :: xs, y, g, H => wv (ps := ps) (by simpa [wPut] using H)
  | (t, true) :: ps, x :: xs, y, g, H => by
    simp only [wPut] at H
    unfold wNew at H
    split at H
    · simp only [af] at H; subst H; rfl
    · split at H
      · simp only [Option.map_eq_some_iff] at H
        obtain ⟨_, _, rfl⟩ := H; rfl
      · simp at H
    · simp at H
theorem pn {P : Program} {k : FuncId} {o : Oper} {cl : Call} {ρ : Operand → Value} {us vs : List Value} {fo : Operand} {w : World} (hcallable : callable P k = true) (ho : o.op = .call cl) (hcallee : cl.callee = .value fo) (hfx : ρ fo = .func (.func k) us.toArray vs.toArray) :
    (execOp ρ o).run P w = .ok (.enter k (us ++ cl.args.toList.map ρ ++ vs).toArray) w := by
  unfold callable at hcallable
  split at hcallable
  · rename_i fn hfn
    simp only [bne_iff_ne, ne_eq, aA] at hcallable
    have hbody : fn.body.isNone = false := by cases hb : fn.body <;> simp_all
    have harr : us.toArray ++ (cl.args.map ρ ++ vs.toArray) = (us ++ (cl.args.toList.map ρ ++ vs)).toArray := by apply Array.ext'; simp
    have hnn : fn.body ≠ none := by intro hb; rw [hb] at hbody; simp at hbody
    simp [execOp, ho, resolve, hcallee, hfx, Deferred.ofValue, invoke, callFunc, hfn, hcallable.1, hnn, harr]
  · simp at hcallable
section
variable {c : Cx} {σ : St} {a : Act} {w w' : World} {o : Oper} {ρ : Type} {F : List bj} {N : A8} {r : ρ}
theorem evOp_ok (hN : qk c.P N) (hF : ∀ cn ∈ F, an c.P cn) {s : List (Nat × TV)} {h : ay} {n : Nat} (hs : dH c ⟨s, h, n⟩ a w) {K : St → Option ρ} (hev : evOp c.P c.m F N o s h n K = some r) {K' : Act → World → Prop} {Q : Exit → Act → World → Prop}
    (hK : ∀ σ' a' w', K σ' = some r → dH c σ' a' w' → K' a' w') : o.wp c.P a w K' Q := by
  have plain : ((ex c.P o.op (ev s) h n).bind fun A => (sput c.m o.dst A.v (match A.k with | some r => killS r s | none => s)).bind fun s => bif A.c then K ⟨s, A.h, A.n⟩ else none) = some r → o.wp c.P a w K' Q := by
    intro hev
    simp only [ax] at hev
    obtain ⟨A, hA, s', hput, hev⟩ := hev
    obtain ⟨hc, hev⟩ := ah.1 hev
    exact EN (EF (σ := ⟨s, h, n⟩) hs o hA hc hput) fun a' w' hs' => hK _ _ _ hev hs'
  unfold evOp at hev
  split at hev
  · rename_i cl ho
    cases hic : mq (.call cl) with
    | false =>
      rw [ho] at hev; simp only [hic, al] at hev
      rw [← ho] at hev; exact plain hev
    | true =>
      rw [ho] at hev
      simp only [hic, ag, ax] at hev
      obtain ⟨⟨f, xs⟩, hcal, hev⟩ := hev
      split at hev
      ·
        rename_i hcn
        simp only at hcn hev
        have hlt := hs.lt
        obtain ⟨hfr, hd, hsz, μ, hH, hl, hgs⟩ := id hs
        simp only at hH hl hgs
        unfold calleeOf at hcal
        split at hcal
        · rename_i fo hcallee
          split at hcal
          · rename_i k fi ca hq
            simp only [af, aG] at hcal
            obtain ⟨rfl, rfl⟩ := hcal
            have hvx := SR.iR hl fo
            rw [hq] at hvx
            simp only [VR] at hvx
            obtain ⟨us, vs, hfx, hus, hvs⟩ := hvx
            have hall : VRl w c.ab c.ok μ h n (fi ++ cl.args.toList.map (ev s) ++ ca) (us ++ cl.args.toList.map a.eval ++ vs) := VRl.append (VRl.append hus (SR.map hl _)) hvs
            let ks := s.map (·.1)
            let c2 : Cx := { P := c.P, m := c.m, w0 := c.w0, ab := c.ab, ok := c.ok, lu := c.lu, iZ := c.iZ, mH := c.mH, gs := c.gs ++ ks.map (sget (noIS s)), gv := c.gv ++ ks.map (fun t => a.tmps.getD t undef), Bw := sc c.Bw (rZ (fun t => by rw [pj]; exact pX _) _), gG := c.gG, gJ := c.gJ }
            obtain ⟨hcallable, hcall⟩ := hN c2 rfl _ _ _ _ _ _ _ hev
            have hrun := pn (w := w) hcallable ho hcallee hfx
            have hfr2 : Fr c2 w := ⟨hfr.os, hfr.tape, hfr.output, hfr.size, hfr.block, hfr.row⟩
            have hg2 : VRl w c2.ab c2.ok μ h n c2.gs c2.gv := VRl.append hgs (zP fun t _ => by rw [pj]; exact VR.noI _ _ (hl t))
            unfold Oper.wp
            rw [hrun]
            refine (hcall w _ μ hfr2 hH hall hg2).mono ?_
            rintro e w' ⟨rv, v, h', n', μ', rfl, hK2, hfr3, hH3, hv3, hg3⟩
            simp only [ax] at hK2
            obtain ⟨s', hput, hfin⟩ := hK2
            have hgl : c.gs.length = c.gv.length := hgs.length
            have e1 := hg3.take c.gs.length
            have e2 := hg3.drop c.gs.length
            have t1 : (c2.gs.take c.gs.length) = c.gs := by simp [c2]
            have t2 : (c2.gv.take c.gs.length) = c.gv := by simp [c2, hgl]
            have t3 : (c2.gs.drop c.gs.length) = ks.map (sget (noIS s)) := by simp [c2]
            have t4 : (c2.gv.drop c.gs.length) = ks.map (fun t => a.tmps.getD t undef) := by simp [c2, hgl]
            rw [t1, t2] at e1
            rw [t3, t4] at e2
            have hsl : SR w' c.ab c.ok μ' h' n' (noIS s) a.tmps := by
              intro t
              by_cases ht : t ∈ ks
              · exact sd e2 t ht
              · have : sget (noIS s) t = .undef := by rw [pj, tG s t ht]; rfl
                rw [this]; simp [VR]
            exact hK _ _ _ hfin (dH.put ⟨hfr3.os, hfr3.tape, hfr3.output, hfr3.size, hfr3.block, hfr3.row⟩ hd hsz hH3 hsl e1 hv3 hput)
          · simp at hcal
        · simp at hcal
      rename_i cn hcn
      simp only at hcn hev
      cases hmu : cn.ps.all (fun x => !x.2) with
      | true =>
        simp only [hmu, ag] at hev
        obtain ⟨hfl, hev⟩ := ah.1 hev
        simp only [ax] at hev
        obtain ⟨x, hx, y, hy, s', hput, hfin⟩ := hev
        obtain ⟨hmem, hf⟩ := rY hcn
        try simp only at hf hx hfl
        have hlt := hs.lt
        have hnew := hs.new
        obtain ⟨hfr, hd, hsz, μ, hH, hl, hgs⟩ := id hs
        simp only at hH hl hgs
        unfold calleeOf at hcal
        split at hcal
        · rename_i fo hcallee
          split at hcal
          · rename_i k fi ca hq
            simp only [af, aG] at hcal
            obtain ⟨rfl, rfl⟩ := hcal
            have hvx := SR.iR hl fo
            rw [hq] at hvx
            simp only [VR] at hvx
            obtain ⟨us, vs, hfx, hus, hvs⟩ := hvx
            have hall : VRl w c.ab c.ok μ h n (fi ++ cl.args.toList.map (ev s) ++ ca) (us ++ cl.args.toList.map a.eval ++ vs) := VRl.append (VRl.append hus (SR.map hl _)) hvs
            obtain ⟨hcallable, hcon⟩ := hF cn hmem
            rw [hf] at hcallable hcon
            have hrun : (execOp a.eval o).run c.P w = .ok (.enter k (us ++ cl.args.toList.map a.eval ++ vs).toArray) w := by
              unfold callable at hcallable
              split at hcallable
              · rename_i fn hfn
                simp only [bne_iff_ne, ne_eq, aA] at hcallable
                have hbody : fn.body.isNone = false := by cases hb : fn.body <;> simp_all
                have harr : us.toArray ++ (cl.args.map a.eval ++ vs.toArray) = (us ++ (cl.args.toList.map a.eval ++ vs)).toArray := by apply Array.ext'; simp
                have hnn : fn.body ≠ none := by intro hb; rw [hb] at hbody; simp at hbody
                simp [execOp, ho, resolve, hcallee, hfx, Deferred.ofValue, invoke, callFunc, hfn, hcallable.1, hnn, harr]
              · simp at hcallable
            obtain ⟨harg1, harg2⟩ := zM hH hlt hx hall hmu
            have hcalls : Calls c.P k (us ++ cl.args.toList.map a.eval ++ vs).toArray w fun e w' => ∃ vs L, e = .returned (retV vs) ∧ Below w.heap.size w w' ∧ ResM w' c.ab (fun b => w.heap.size ≤ b) cn.rm cn.rs y.1 vs L ∧ L.Nodup := by
              cases hfa : qj (fi ++ cl.args.toList.map (ev s) ++ ca) with
              | true =>
                refine (hcon w c.ab _ x [] y (fun b hb => ⟨hlt b hb, by simp⟩) ⟨c.gG, hs.fr.gJ⟩ (by simp) (harg2 hfa) hy).mono ?_
                rintro e w' ⟨vs, L, Lm', he, h1, h2, h3, h4⟩
                refine ⟨vs, L, he, h1.below, ?_, (List.nodup_append.1 h4).1⟩
                unfold ResM at h2 ⊢
                split at h2
                · exact h2.mono (fun _ h => h) (fun b hb => ph hb) (fun _ _ => rfl) (fun _ _ => rfl)
                · exact ⟨h2.1.mono (fun _ h => h) (fun b hb => ph hb) (fun _ _ => rfl), h2.2⟩
                · exact h2.mono (fun _ h => h) (fun b hb => ph hb) (fun _ _ => rfl) (fun _ _ => rfl)
                · exact oC.mono (fun _ h => h) (fun b hb => ph hb) (fun _ _ => rfl) (fun _ _ => rfl) h2
              | false =>
                have hown : cn.rm = .own true := by
                  simp only [hfa, Bool.or_false] at hfl
                  cases hrm : cn.rm with
                  | GZ => rw [hrm] at hfl; simp [RM.isOwnF] at hfl
                  | mv => rw [hrm] at hfl; simp [RM.isOwnF] at hfl
                  | mix bs => rw [hrm] at hfl; simp [RM.isOwnF] at hfl
                  | own fr => rw [hrm] at hfl; cases fr with
                    | true => rfl
                    | false => simp [RM.isOwnF] at hfl
                refine (hcon w (· < w.heap.size) _ x [] y (fun b hb => ⟨hb, by simp⟩) ⟨fun g hg => hlt g (c.gG g hg), hs.fr.gJ⟩ (by simp) harg1 hy).mono ?_
                rintro e w' ⟨vs, L, Lm', he, h1, h2, h3, h4⟩
                refine ⟨vs, L, he, h1.below, ?_, (List.nodup_append.1 h4).1⟩
                rw [hown] at h2 ⊢
                exact kX.mono (fun b hb => by simp [cI] at hb) (fun b hb => ph hb) (fun _ _ => rfl) (fun _ _ => rfl) h2
            unfold Oper.wp
            rw [hrun]
            refine hcalls.mono ?_
            rintro e w' ⟨rvs, L, rfl, hbw, hres, hnd⟩
            have hfr' := hfr.below hbw
            have kpw := hH.fQ hbw hlt (Nat.le_refl _)
            unfold ResM at hres
            cases hrm : cn.rm with
            | own fr =>
              rw [hrm] at hres hput hfin
              simp only at hres
              have hok : ∀ b ∈ L, w.heap.size ≤ b := fun b hb => (hres.blocks b hb).1
              have H1 : HR w' c.ab c.ok μ h n (L ++ []) := hH.fresh hbw hlt hnd hok (by simp)
              have hres' : kX w' c.ab c.ok fr cn.rs y.1 rvs L := hres.mono (fun _ h => h) (fun b hb => hnew b hb) (fun _ _ => rfl) (fun _ _ => rfl)
              obtain ⟨μ', b1, b2, b3, b4, b5⟩ := pg hres' H1
              have kpo : Kept (fun _ => True) c.ab c.ab c.ok c.ok w' w' μ μ' h (opnL fr cn.rs y.1 h n).2.1 n (opnL fr cn.rs y.1 h n).2.2 := Kept.opened b1 b4 b5
              exact hK _ _ _ hfin (dH.put hfr' hd hsz b2 (SR.mono kpo (SR.mono kpw hl)) (dm kpo c (dm kpw c hgs)) (oE b3) hput)
            | mv =>
              rw [hrm] at hres hput hfin
              simp only at hres
              have hok : ∀ b ∈ L, w.heap.size ≤ b := fun b hb => (hres.blocks b hb).1
              have H1 : HR w' c.ab c.ok μ h n (L ++ []) := hH.fresh hbw hlt hnd hok (by simp)
              have hres' : kX w' c.ab c.ok true cn.rs y.1 rvs L := hres.mono (fun _ h => h) (fun b hb => hnew b hb) (fun _ _ => rfl) (fun _ _ => rfl)
              obtain ⟨μ', b1, b2, b3, b4, b5⟩ := pg hres' H1
              have kpo : Kept (fun _ => True) c.ab c.ab c.ok c.ok w' w' μ μ' h (opnL true cn.rs y.1 h n).2.1 n (opnL true cn.rs y.1 h n).2.2 := Kept.opened b1 b4 b5
              exact hK _ _ _ hfin (dH.put hfr' hd hsz b2 (SR.mono kpo (SR.mono kpw hl)) (dm kpo c (dm kpw c hgs)) (oE b3) hput)
            | mix bs =>
              rw [hrm] at hres hput hfin
              simp only at hres
              have hok : ∀ b ∈ L, w.heap.size ≤ b := fun b hb => (oC.blocks hres b hb).1
              have H1 : HR w' c.ab c.ok μ h n (L ++ []) := hH.fresh hbw hlt hnd hok (by simp)
              have hres' : oC w' c.ab c.ok bs cn.rs y.1 rvs L := oC.mono (fun _ h => h) (fun b hb => hnew b hb) (fun _ _ => rfl) (fun _ _ => rfl) hres
              obtain ⟨μ', b1, b2, b3, b4, b5⟩ := uU hres' H1
              have kpo : Kept (fun _ => True) c.ab c.ab c.ok c.ok w' w' μ μ' h (opnX bs cn.rs y.1 h n).2.1 n (opnX bs cn.rs y.1 h n).2.2 := Kept.opened b1 b4 b5
              exact hK _ _ _ hfin (dH.put hfr' hd hsz b2 (SR.mono kpo (SR.mono kpw hl)) (dm kpo c (dm kpw c hgs)) (oE b3) hput)
            | GZ =>
              rw [hrm] at hres hput hfin
              simp only at hres
              obtain ⟨hres, rfl⟩ := hres
              have hres' : ResB w' c.ab c.ok cn.rs y.1 rvs := hres.mono (fun _ h => h) (fun b hb => hnew b hb) (fun _ _ => rfl)
              exact hK _ _ _ hfin (dH.put hfr' hd hsz (hH.quiet hbw hlt (Nat.le_refl _)) (SR.mono kpw hl) (dm kpw c hgs) (oE (zL hres')) hput)
          · simp at hcal
        · simp at hcal
      | false =>
        simp only [hmu, al] at hev
        obtain ⟨hfr, hd, hsz, μ, hH, hl, hgs⟩ := id hs
        simp only at hH hl hgs
        obtain ⟨hmem, hf⟩ := rY hcn
        try simp only at hf
        have hcon := hF cn hmem
        have hcallable := hcon.1
        rw [hf] at hcallable
        have hq : ∃ fo us vs us2, cl.callee = .value fo ∧ a.eval fo = .func (.func f) us.toArray vs.toArray ∧ us2 = us ++ cl.args.toList.map a.eval ++ vs ∧ VRl w c.ab c.ok μ h n xs us2 := by
          unfold calleeOf at hcal
          split at hcal
          · rename_i fo hcallee
            split at hcal
            · rename_i k fi ca hq
              simp only [af, aG] at hcal
              obtain ⟨rfl, rfl⟩ := hcal
              have hvx := SR.iR hl fo
              rw [hq] at hvx
              simp only [VR] at hvx
              obtain ⟨us, vs, hfx, hus, hvs⟩ := hvx
              exact ⟨fo, us, vs, _, hcallee, hfx, rfl, VRl.append (VRl.append hus (SR.map hl _)) hvs⟩
            · simp at hcal
          · simp at hcal
        obtain ⟨fo, us, vs, us2, hcallee, hfx, rfl, hall⟩ := hq
        have hrun := pn (w := w) hcallable ho hcallee hfx
        unfold Oper.wp
        rw [hrun]
        · cases hmv : cn.rm.isMv with
          | true =>
            simp only [hmv, ag] at hev
            split at hev
            · simp only [ax] at hev
              obtain ⟨hd2, hr2, x, hx, y, hy, s', hput, hfin⟩ := hev
              have := EO (o := o) (a := a) hcon hs hH hl hgs hall hmv hr2 hx hy hput
              rw [hf] at this
              refine this.mono ?_
              rintro e w' ⟨rv, rfl, hs'⟩
              exact hK _ _ _ hfin hs'
            simp at hev
          | false =>
            simp only [hmv, al] at hev
            obtain ⟨hown, hev⟩ := ah.1 hev
            simp only [ax] at hev
            obtain ⟨r0, hr0, hev⟩ := hev
            cases hfr0 : flatRow (hget h r0) with
            | true =>
              simp only [hfr0, ag, ax] at hev
              obtain ⟨x, hx, y, hy, g, hp, s', hput, hfin⟩ := hev
              have := wo (o := o) (a := a) hcon hs hH hl hgs hall hown hr0 (sT hfr0) (A9 hfr0 hH) (Bb hfr0 hl) hx hy hp (Ba hfr0 (wv hp) hH) hput
              rw [hf] at this
              refine this.mono ?_
              rintro e w' ⟨rv, rfl, hs'⟩
              exact hK _ _ _ hfin hs'
            | false =>
            simp only [hfr0, al] at hev
            obtain ⟨hrow, hev⟩ := ah.1 hev
            simp only [ax] at hev
            obtain ⟨x, hx, y, hy, g, hp, s', hput, hfin⟩ := hev
            have := wo (o := o) (a := a) hcon hs hH hl hgs hall hown hr0 hrow (fun _ => rfl) (fun _ => rfl) hx hy hp (fun _ => rfl) hput
            rw [hf] at this
            refine this.mono ?_
            rintro e w' ⟨rv, rfl, hs'⟩
            exact hK _ _ _ hfin hs'
  · exact plain hev
theorem po {dl : List (Option Tmp)} {ops : Array Oper} {j t : Nat} (hd : ops.toList.map (·.dst) = dl) (ht : dl.getD j none = some t) : (ops[j]?).bind (·.dst) = some t := by
  subst hd
  have : ops[j]? = ops.toList[j]? := by simp
  rw [this]
  simp only [List.getD, List.getElem?_map] at ht
  cases h : ops.toList[j]? with
  | none => simp [h] at ht
  | some o => simp only [h, Option.map_some, Option.getD_some, ai] at ht ⊢; exact ht
theorem pY {dl : List (Option Tmp)} {ops : Array Oper} {j t : Nat} {want cw : Bool} (hs : dH c σ a w) (hd : ops.toList.map (·.dst) = dl) (ht : dl.getD j none = some t) (hg : o.guard = some (j, want)) (hv : gv want (sget σ.s t) = some cw) :
    Region.wanted o (yielded ops a.tmps) = cw ∧ ∃ b, a.tmps.getD t undef = .bool b ∧ cw = (bif want then b else !b) := by
  obtain ⟨_, _, _, μ, _, hl, _⟩ := hs
  have h1 := hl t
  have hy := po hd ht
  have hval : ∀ b : Bool, a.tmps.getD t undef = .bool b → a.tmps[t]? = some (.bool b) := by
    intro b hb
    rw [Array.getD_eq_getD_getElem?] at hb
    cases h : a.tmps[t]? with
    | none => simp [h, undef] at hb
    | some v => simp [h] at hb; rw [hb]
  simp only [Region.wanted, hg]
  unfold gv at hv
  split at hv
  · rename_i b hq
    rw [hq] at h1
    simp only [af] at hv; subst hv
    have := hval b h1.iy
    refine ⟨?_, b, h1.iy, rfl⟩
    cases want <;> cases b <;> simp [yielded, hy, this]
  · simp at hv
theorem tI {dl : List (Option Tmp)} {ops : Array Oper} {j t : Nat} {want : Bool} (hs : dH c σ a w) (hd : ops.toList.map (·.dst) = dl) (ht : dl.getD j none = some t) (hg : o.guard = some (j, want)) (hv : isUn (sget σ.s t) = true) :
    Region.wanted o (yielded ops a.tmps) = false := by
  obtain ⟨_, _, _, μ, _, hl, _⟩ := hs
  have h1 := hl t
  have hy := po hd ht
  unfold isUn at hv
  split at hv
  · rename_i hq
    rw [hq] at h1
    simp only [VR, VRl] at h1
    obtain ⟨us, h2, rfl⟩ := h1
    have h3 : ∀ b : Bool, a.tmps[t]? ≠ some (.bool b) := by
      intro b hb
      rw [Array.getD_eq_getD_getElem?, hb] at h2
      simp at h2
    simp only [Region.wanted, hg, yielded, hy, ai]
    rfl
  · simp at hv
theorem dH.Nx {t : Nat} {b : Bool} {s : List (Nat × TV)} {h : ay} {n : Nat} (hs : dH c ⟨s, h, n⟩ a w) (hb : a.tmps.getD t undef = .bool b) : dH c ⟨(t, .p (.bool b)) :: s, h, n⟩ a w := by
  obtain ⟨h1, h2, h3, μ, h4, h5, h6⟩ := hs
  refine ⟨h1, h2, h3, μ, h4, fun t' => ?_, h6⟩
  simp only
  rw [bZ]
  by_cases e : t' = t
  · subst e; rw [if_pos rfl]; simp only [VR]; exact hb
  · rw [if_neg e]; exact h5 t'
theorem nq (hN : qk c.P N) (hF : ∀ cn ∈ F, an c.P cn) {ops : Array Oper} {dl : List (Option Tmp)} (hd : ops.toList.map (·.dst) = dl) {Q : Exit → Act → World → Prop} {K : St → Option ρ} (hK : ∀ σ a w, K σ = some r → dH c σ a w → Q .normal a w) :
    ∀ (os : List Oper) (σ : St) (a : Act) (w : World), evOps c.P c.m F N dl os σ K = some r → dH c σ a w → wpList c.P ops Q os a w
  | [], σ, a, w, hev, hs => wpList_nil (hK σ a w hev hs)
  | o :: os, σ, a, w, hev, hs => by
    simp only [evOps] at hev
    unfold wpList
    split at hev
    · rename_i hg
      rw [if_pos (by simp [Region.wanted, hg])]
      exact .inl (evOp_ok hN hF (s := σ.s) (h := σ.h) (n := σ.n) hs hev fun σ' a' w' h1 h2 => nq hN hF hd hK os σ' a' w' h1 h2)
    · rename_i j want hg
      split at hev
      · simp at hev
      · rename_i t ht
        split at hev
        · obtain ⟨hun, hev⟩ := ah.1 hev
          simp only [ax] at hev
          obtain ⟨s', hput, hev⟩ := hev
          rw [if_neg (by rw [tI hs hd ht hg hun]; simp)]
          obtain ⟨h1, h2, h3, μ, h4, h5, h6⟩ := hs
          exact nq hN hF hd hK os _ _ _ hev (dH.IB h1 h2 h3 h4 h5 h6 hput)
        · rename_i cw hv
          obtain ⟨hw, b, hb, hcw⟩ := pY hs hd ht hg hv
          cases cw with
          | true =>
            simp only [ag] at hev
            rw [if_pos hw]
            have hbw : b = want := by revert hcw; cases b <;> cases want <;> simp
            subst hbw
            exact .inl (evOp_ok hN hF (dH.Nx (s := σ.s) (h := σ.h) (n := σ.n) hs hb) hev fun σ' a' w' h1 h2 => nq hN hF hd hK os σ' a' w' h1 h2)
          | false =>
            simp only [al, ax] at hev
            obtain ⟨s', hput, hev⟩ := hev
            rw [if_neg (by rw [hw]; simp)]
            have hbw : b = !want := by revert hcw; cases b <;> cases want <;> simp
            subst hbw
            have hs2 := dH.Nx (s := σ.s) (h := σ.h) (n := σ.n) hs hb
            obtain ⟨h1, h2, h3, μ, h4, h5, h6⟩ := hs2
            exact nq hN hF hd hK os _ _ _ hev (dH.IB h1 h2 h3 h4 h5 h6 hput)
end
def Sy (c : Cx) (code : Code) (Q : Exit → St → Prop) (σ : St) : Prop :=
  ∀ a w, dH c σ a w → code.wp c.P (fun e a' w' => ∃ σ', Q e σ' ∧ dH c σ' a' w') a w
def ch (c : Cx) (lo : LO) (body : Code) : Prop := ∀ (ρ : Type) (σ : St) (K : Exit → St → Option ρ) (r : ρ), lo ρ σ K = some r → Sy c (.loop body) (fun e σ' => K e σ' = some r) σ
theorem dH.drew {c : Cx} {σ : St} {a : Act} {w : World} (hs : dH c σ a w) : dH c σ a w.drew := by
  have hlt := hs.lt
  obtain ⟨h1, h2, h3, μ, h4, h5, h6⟩ := hs
  have hb : Below w.heap.size w w.drew := (Below.refl _ _).drew
  have kp := h4.fQ hb hlt (Nat.le_refl _)
  exact ⟨h1.below hb, h2, h3, μ, h4.quiet hb hlt (Nat.le_refl _), SR.mono kp h5, dm kp c h6⟩
end Go.Tw
