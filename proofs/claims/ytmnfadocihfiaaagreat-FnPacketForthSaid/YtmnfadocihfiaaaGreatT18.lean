/- The logic: a step. -/
import Derived.Test.YtmnfadocihfiaaaGreatT16
import Derived.Deep.Quiet
set_option linter.all false
namespace Go.Tw
open Go Go.RowKit
variable [Grd]
def TO1 (w : World) (imm ok : Nat → Prop) (fr : Bool) : TV → Value → List Nat → Prop
  | .p u, v, L => v = u ∧ L = []
  | .tr t l, v, L => (v = .slice none 0 0 ∧ l = [] ∧ L = []) ∨
      ∃ b o cap L', v = .slice (some ⟨b, o, none⟩) l.length cap ∧ l.length ≤ cap ∧ RL (TRc w (immf fr imm) ok t) (sz t) l b o L' ∧ L = b :: L' ∧ ok b ∧ Row w b o ∧ (0 < cap → Row w b (o + cap * sz t))
  | .iptr t l i off, v, L => i = 0 ∧ off = 0 ∧ ∃ x b o us, l = [x] ∧ v = .pointer (some ⟨b, o, none⟩) ∧ L = [b] ∧ ok b ∧ Row w b (o + sz t) ∧ TRl w (immf fr imm) ok t x us [] ∧ At w b o us
  | _, _, _ => False
def TOC (w : World) (imm ok : Nat → Prop) (fr : Bool) : List TV → List Value → List Nat → Prop
  | [], us, L => us = [] ∧ L = []
  | c :: cs, us, L => ∃ u us' L1 L2, us = u :: us' ∧ L = L1 ++ L2 ∧ TO1 w imm ok fr c u L1 ∧ TOC w imm ok fr cs us' L2
def retV : List Value → Value
  | [v] => v
  | vs => .tuple vs.toArray
def okL (Lm : List Nat) (w : World) (b : Nat) : Prop := b ∈ Lm ∨ w.heap.size ≤ b
structure FrL (Lm : List Nat) (w w' : World) : Prop where
  os : w'.os = w.os
  tape : w'.tape = w.tape
  output : w'.output = w.output
  size : w.heap.size ≤ w'.heap.size
  block : ∀ k, k < w.heap.size → k ∉ Lm → w'.heap[k]? = w.heap[k]?
  row : ∀ b m, Row w b m → Row w' b m
def ArgR (w : World) (imm ok : Nat → Prop) : (ps : List (Ty × Bool)) → den (prodT (ps.map (·.1))) → List Value → List Nat → Prop
  | [], _, vs, L => vs = [] ∧ L = []
  | p :: ps, x, vs, L => ∃ us vs' L1 L2, vs = valOf (isAg p.1) us :: vs' ∧ L = L1 ++ L2 ∧ (p.2 = false → TRl w imm ok p.1 x.1 us [] ∧ L1 = []) ∧ (p.2 = true → TOC w imm ok (frT p.1) (encT p.1 x.1) us L1) ∧ ArgR w imm ok ps x.2 vs' L2
def MutR (w : World) (imm ok : Nat → Prop) : (ps : List (Ty × Bool)) → den (prodT ((ps.filter (·.2)).map (·.1))) → List Value → List Nat → Prop
  | [], _, _, L => L = []
  | (t, false) :: ps, y, vs, L => MutR w imm ok ps y vs.tail L
  | (t, true) :: ps, y, vs, L => ∃ us L1 L2, vs.head? = some (valOf (isAg t) us) ∧ L = L1 ++ L2 ∧ TOC w imm ok (frT t) (encT t y.1) us L1 ∧ MutR w imm ok ps y.2 vs.tail L2
def MutM (w : World) (imm ok : Nat → Prop) (rm : RM) (ps : List (Ty × Bool)) (y : den (prodT ((ps.filter (·.2)).map (·.1)))) (vs : List Value) (L : List Nat) : Prop :=
  match rm with
  | .mv => L = []
  | _ => MutR w imm ok ps y vs L
def ResO (w : World) (imm ok : Nat → Prop) (fr : Bool) : (ts : List Ty) → den (prodT ts) → List Value → List Nat → Prop
  | [], _, vs, L => vs = [] ∧ L = []
  | t :: ts, x, vs, L => ∃ us vs' L1 L2, vs = valOf (isAg t) us :: vs' ∧ L = L1 ++ L2 ∧ TOC w imm ok fr (encT t x.1) us L1 ∧ ResO w imm ok fr ts x.2 vs' L2
def ResG (w : World) (imm ok : Nat → Prop) : (ts : List Ty) → den (prodT ts) → List Value → List Nat → Prop
  | [], _, vs, L => vs = [] ∧ L = []
  | t :: ts, x, vs, L => ∃ us vs' L1 L2, vs = valOf (isAg t) us :: vs' ∧ L = L1 ++ L2 ∧ TOC w imm ok (frT t) (encT t x.1) us L1 ∧ ResG w imm ok ts x.2 vs' L2
def ResB (w : World) (imm ok : Nat → Prop) : (ts : List Ty) → den (prodT ts) → List Value → Prop
  | [], _, vs => vs = []
  | t :: ts, x, vs => ∃ us vs', vs = valOf (isAg t) us :: vs' ∧ TRl w imm ok t x.1 us [] ∧ ResB w imm ok ts x.2 vs'
def ResX (w : World) (imm ok : Nat → Prop) : List Bool → (ts : List Ty) → den (prodT ts) → List Value → List Nat → Prop
  | _, [], _, vs, L => vs = [] ∧ L = []
  | bs, t :: ts, x, vs, L => ∃ us vs' L1 L2, vs = valOf (isAg t) us :: vs' ∧ L = L1 ++ L2 ∧ (match bs.headD true with | true => TOC w imm ok true (encT t x.1) us L1 | false => TRl w imm ok t x.1 us [] ∧ L1 = []) ∧ ResX w imm ok bs.tail ts x.2 vs' L2
def ResM (w : World) (imm ok : Nat → Prop) (rm : RM) (ts : List Ty) (x : den (prodT ts)) (vs : List Value) (L : List Nat) : Prop :=
  match rm with
  | .own fr => ResO w imm ok fr ts x vs L
  | .bor => ResB w imm ok ts x vs ∧ L = []
  | .mv => ResO w imm ok true ts x vs L
  | .mix bs => ResX w imm ok bs ts x vs L
def callable (P : Program) (f : FuncId) : Bool :=
  match P.funcs[f]? with
  | some fn => fn.name != "runtime.NumGoroutine" && fn.body.isSome
  | none => false
def ConOk (P : Program) (cn : Con) : Prop :=
  callable P cn.f = true ∧ ∀ (w : World) (imm : Nat → Prop) (vals : List Value) (x : den (prodT (cn.ps.map (·.1)))) (Lm : List Nat) (y), (∀ b, imm b → b < w.heap.size ∧ b ∉ Lm) → ((∀ g ∈ Grd.G, imm g) ∧ Grd.J w) → Lm.Nodup →
    ArgR w imm (· ∈ Lm) cn.ps x vals Lm → cn.m x = some y → Calls P cn.f vals.toArray w fun e w' => ∃ vs L Lm', e = .returned (retV vs) ∧ FrL Lm w w' ∧ ResM w' imm (okL Lm w) cn.rm cn.rs y.1 vs L ∧ MutM w' imm (okL Lm w) cn.rm cn.ps y.2 vals Lm' ∧ (L ++ Lm').Nodup
section
variable {w w' : World} {imm imm' ok ok' : Nat → Prop} {μ : Nat → Mu} {h : Heap} {n : Nat} {fr : Bool}
theorem TO1.mono (hi : ∀ b, immf fr imm b → immf fr imm' b) (ho : ∀ b, ok b → ok' b) (hw : ∀ b, immf fr imm b → w'.heap[b]? = w.heap[b]?) {x : TV} {v : Value} {L : List Nat} (hL : ∀ b ∈ L, w'.heap[b]? = w.heap[b]?) (H : TO1 w imm ok fr x v L) : TO1 w' imm' ok' fr x v L := by
  cases x with
  | p u => exact H
  | tr t l =>
    rcases H with H | ⟨b, o, cap, L', h1, h2, h3, rfl, h5, h6, h7⟩
    · exact .inl H
    · have hb := hL b (by simp)
      exact .inr ⟨b, o, cap, L', h1, h2, RL.imp (fun x _ o L'' hL'' hr => TRc.mono hi ho hw (fun k hk => hL k (by simp [hL'' k hk])) hb hr) h3, rfl, ho b h5, h6.same hb, fun hp => (h7 hp).same hb⟩
  | iptr t l i off =>
    obtain ⟨h1, h2, x, b, o, us, h3, h4, rfl, h6, h7, h8, h9⟩ := H
    have hb := hL b (by simp)
    exact ⟨h1, h2, x, b, o, us, h3, h4, rfl, ho b h6, h7.same hb, h8.mono hi ho hw (by simp), h9.same hb⟩
  | _ => exact H.elim
theorem TOC.mono (hi : ∀ b, immf fr imm b → immf fr imm' b) (ho : ∀ b, ok b → ok' b) (hw : ∀ b, immf fr imm b → w'.heap[b]? = w.heap[b]?) : ∀ {cs : List TV} {us : List Value} {L : List Nat}, (∀ b ∈ L, w'.heap[b]? = w.heap[b]?) → TOC w imm ok fr cs us L → TOC w' imm' ok' fr cs us L
  | [], us, L, _, H => H
  | c :: cs, us, L, hL, H => by
    obtain ⟨u, us', L1, L2, rfl, rfl, h1, h2⟩ := H
    exact ⟨u, us', L1, L2, rfl, rfl, h1.mono hi ho hw (fun b hb => hL b (by simp [hb])), TOC.mono hi ho hw (fun b hb => hL b (by simp [hb])) h2⟩
theorem TO1.blocks {x : TV} {v : Value} {L : List Nat} (H : TO1 w imm ok fr x v L) : ∀ b ∈ L, ok b ∧ b < w.heap.size := by
  cases x with
  | p u => obtain ⟨_, rfl⟩ := H; simp
  | tr t l =>
    rcases H with ⟨_, _, rfl⟩ | ⟨b, o, cap, L', h1, h2, h3, rfl, h5, h6, h7⟩
    · simp
    · intro k hk
      rcases List.mem_cons.1 hk with rfl | hk
      · exact ⟨h5, h6.lt⟩
      · exact RL.mem (p := fun b => ok b ∧ b < w.heap.size) (fun x _ o L' ⟨us, h, _⟩ => TRl.blocks h) h3 k hk
  | iptr t l i off =>
    obtain ⟨_, _, x, b, o, us, _, _, rfl, h6, h7, _⟩ := H
    intro k hk
    simp only [List.mem_singleton] at hk; subst hk
    exact ⟨h6, h7.lt⟩
  | _ => exact H.elim
theorem TOC.blocks : ∀ {cs : List TV} {us : List Value} {L : List Nat}, TOC w imm ok fr cs us L → ∀ b ∈ L, ok b ∧ b < w.heap.size
  | [], us, L, H, b, hb => by rw [H.2] at hb; simp at hb
  | c :: cs, us, L, H, b, hb => by
    obtain ⟨u, us', L1, L2, rfl, rfl, h1, h2⟩ := H
    rcases List.mem_append.1 hb with hb | hb
    · exact h1.blocks b hb
    · exact TOC.blocks h2 b hb
theorem ResO.mono (hi : ∀ b, immf fr imm b → immf fr imm' b) (ho : ∀ b, ok b → ok' b) (hw : ∀ b, immf fr imm b → w'.heap[b]? = w.heap[b]?) : ∀ {ts : List Ty} {x : den (prodT ts)} {vs : List Value} {L : List Nat}, (∀ b ∈ L, w'.heap[b]? = w.heap[b]?) → ResO w imm ok fr ts x vs L → ResO w' imm' ok' fr ts x vs L
  | [], _, _, _, _, H => H
  | t :: ts, x, vs, L, hL, H => by
    obtain ⟨us, vs', L1, L2, rfl, rfl, h1, h2⟩ := H
    exact ⟨us, vs', L1, L2, rfl, rfl, h1.mono hi ho hw (fun b hb => hL b (by simp [hb])), ResO.mono hi ho hw (fun b hb => hL b (by simp [hb])) h2⟩
theorem ResO.blocks : ∀ {ts : List Ty} {x : den (prodT ts)} {vs : List Value} {L : List Nat}, ResO w imm ok fr ts x vs L → ∀ b ∈ L, ok b ∧ b < w.heap.size
  | [], _, _, _, H, b, hb => by rw [H.2] at hb; simp at hb
  | t :: ts, x, vs, L, H, b, hb => by
    obtain ⟨us, vs', L1, L2, rfl, rfl, h1, h2⟩ := H
    rcases List.mem_append.1 hb with hb | hb
    · exact h1.blocks b hb
    · exact ResO.blocks h2 b hb
theorem immf_t {imm : Nat → Prop} {b : Nat} (h : immf true imm b) : False := by simp [immf] at h
theorem ResX.mono (hi : ∀ b, imm b → imm' b) (ho : ∀ b, ok b → ok' b) (hw : ∀ b, imm b → w'.heap[b]? = w.heap[b]?) : ∀ {bs : List Bool} {ts : List Ty} {x : den (prodT ts)} {vs : List Value} {L : List Nat}, (∀ b ∈ L, w'.heap[b]? = w.heap[b]?) → ResX w imm ok bs ts x vs L → ResX w' imm' ok' bs ts x vs L
  | _, [], _, _, _, _, H => H
  | bs, t :: ts, x, vs, L, hL, H => by
    obtain ⟨us, vs', L1, L2, rfl, rfl, h1, h2⟩ := H
    refine ⟨us, vs', L1, L2, rfl, rfl, ?_, ResX.mono hi ho hw (fun b hb => hL b (by simp [hb])) h2⟩
    cases hb : bs.headD true with
    | true =>
      rw [hb] at h1
      exact TOC.mono (fun b h => (immf_t h).elim) ho (fun b h => (immf_t h).elim) (fun b hb => hL b (by simp [hb])) h1
    | false =>
      rw [hb] at h1
      exact ⟨h1.1.mono hi ho hw (by simp), h1.2⟩
theorem ResX.blocks : ∀ {bs : List Bool} {ts : List Ty} {x : den (prodT ts)} {vs : List Value} {L : List Nat}, ResX w imm ok bs ts x vs L → ∀ b ∈ L, ok b ∧ b < w.heap.size
  | _, [], _, _, _, H, b, hb => by rw [H.2] at hb; simp at hb
  | bs, t :: ts, x, vs, L, H, b, hb => by
    obtain ⟨us, vs', L1, L2, rfl, rfl, h1, h2⟩ := H
    rcases List.mem_append.1 hb with hb | hb
    · cases he : bs.headD true with
      | true => rw [he] at h1; exact TOC.blocks h1 b hb
      | false => rw [he] at h1; rw [h1.2] at hb; simp at hb
    · exact ResX.blocks h2 b hb
theorem ResB.mono (hi : ∀ b, imm b → imm' b) (ho : ∀ b, ok b → ok' b) (hw : ∀ b, imm b → w'.heap[b]? = w.heap[b]?) : ∀ {ts : List Ty} {x : den (prodT ts)} {vs : List Value}, ResB w imm ok ts x vs → ResB w' imm' ok' ts x vs
  | [], _, _, H => H
  | t :: ts, x, vs, H => by
    obtain ⟨us, vs', rfl, h1, h2⟩ := H
    exact ⟨us, vs', rfl, h1.mono hi ho hw (by simp), ResB.mono hi ho hw h2⟩
def Opened (w : World) (imm ok : Nat → Prop) (μ : Nat → Mu) (h : Heap) (n : Nat) (D : List Nat) (R : (Nat → Mu) → Prop) (h' : Heap) (n' : Nat) : Prop :=
  ∃ μ', (∀ r, r < n → μ' r = μ r) ∧ HR w imm ok μ' h' n' D ∧ R μ' ∧ n ≤ n' ∧ ∀ r, r < n → hget h' r = hget h r
theorem Kept.opened {μ' : Nat → Mu} {h' : Heap} {n' : Nat} (h1 : ∀ r, r < n → μ' r = μ r) (h2 : n ≤ n') (h3 : ∀ r, r < n → hget h' r = hget h r) : Kept (fun _ => True) imm imm ok ok w w μ μ' h h' n n' :=
  ⟨Step.refl _ _, fun _ h => h, fun _ h => h, h1, h2, fun r hr => by rw [h3 r hr]; exact Fit.refl _, fun _ _ _ _ _ _ _ _ _ => rfl⟩
theorem opnC_ok : ∀ {cs : List TV} {us : List Value} {L D : List Nat} {h : Heap} {n : Nat} {μ : Nat → Mu}, TOC w imm ok fr cs us L → HR w imm ok μ h n (L ++ D) →
    Opened w imm ok μ h n D (fun μ' => VRl w imm ok μ' (opnC fr cs h n).2.1 (opnC fr cs h n).2.2 (opnC fr cs h n).1 us) (opnC fr cs h n).2.1 (opnC fr cs h n).2.2
  | [], us, L, D, h, n, μ, H, HH => by
    obtain ⟨rfl, rfl⟩ := H
    exact ⟨μ, fun _ _ => rfl, by simpa [opnC] using HH, by simp [opnC, VRl], Nat.le_refl _, fun _ _ => rfl⟩
  | .p u :: cs, us, L, D, h, n, μ, H, HH => by
    obtain ⟨v, us', L1, L2, rfl, rfl, ⟨rfl, rfl⟩, h2⟩ := H
    obtain ⟨μ', a1, a2, a3, a4, a5⟩ := opnC_ok h2 (by simpa using HH)
    simp only [opnC]
    exact ⟨μ', a1, a2, by simp only [VRl]; exact ⟨_, us', rfl, by simp [VR], a3⟩, a4, a5⟩
  | .tr t l :: cs, us, L, D, h, n, μ, H, HH => by
    obtain ⟨v, us', L1, L2, rfl, rfl, h1, h2⟩ := H
    have key : ∃ m : Mu, RR w imm ok (muP μ n m) ((n, .row fr t l) :: h) (n + 1) n (.row fr t l) L1 ∧ SlR w m (sz t) 0 l.length v := by
      rcases h1 with ⟨rfl, rfl, rfl⟩ | ⟨b, o, cap, L', rfl, hc, h3, rfl, h5, h6, h7⟩
      · exact ⟨⟨0, 0, false⟩, by simp only [RR, muP_self]; exact .inl ⟨trivial, trivial, trivial⟩, .inl ⟨rfl, rfl⟩⟩
      · refine ⟨⟨b, o, true⟩, ?_, .inr ⟨o, cap, rfl, hc, rfl, h6, fun hp => ⟨by simp, h7 hp⟩⟩⟩
        simp only [RR, muP_self]
        refine .inr ⟨trivial, L', rfl, h5, ?_, h3⟩
        rcases Nat.eq_zero_or_pos cap with hz | hp
        · have : l.length = 0 := by omega
          rw [this]; simpa using h6
        · exact (h7 hp).le (by have : l.length * sz t ≤ cap * sz t := Nat.mul_le_mul_right _ hc; omega)
    obtain ⟨m, hRR, hS⟩ := key
    rw [List.append_assoc] at HH
    have H1 := HR.attach (n' := n + 1) (μ' := muP μ n m) HH (Nat.le_refl _) (Nat.lt_succ_self _) (fun r hr => by simp [muP, show r ≠ n by omega]) hRR
    obtain ⟨μ', a1, a2, a3, a4, a5⟩ := opnC_ok h2 H1
    simp only [opnC]
    refine ⟨μ', fun r hr => by rw [a1 r (by omega)]; simp [muP, show r ≠ n by omega], a2, ?_, by omega, fun r hr => by rw [a5 r (by omega)]; simp [hget, show r ≠ n by omega]⟩
    simp only [VRl]
    refine ⟨v, us', rfl, ?_, a3⟩
    simp only [VR, a5 n (Nat.lt_succ_self _), hget, ↓reduceIte]
    exact ⟨by omega, by rw [a1 n (Nat.lt_succ_self _), muP_self]; exact hS⟩
  | .iptr t l i off :: cs, us, L, D, h, n, μ, H, HH => by
    obtain ⟨v, us', L1, L2, rfl, rfl, ⟨_, _, x, b, o, xs, rfl, rfl, rfl, h6, h7, h8, h9⟩, h2⟩ := H
    have h8' : TRl w imm ok t x xs [] := h8.mono (fun _ h => h.2) (fun _ h => h) (fun _ _ => rfl) (by simp)
    have hRR : RR w imm ok (muP μ n ⟨b, o, true⟩) ((n, .box (encT t x)) :: h) (n + 1) n (.box (encT t x)) [b] := by
      simp only [RR, muP_self]
      exact ⟨trivial, h6, by rw [enc_length]; exact h7, xs, h8'.toCT.vrl, h9⟩
    rw [List.append_assoc] at HH
    have H1 := HR.attach (n' := n + 1) (μ' := muP μ n ⟨b, o, true⟩) HH (Nat.le_refl _) (Nat.lt_succ_self _) (fun r hr => by simp [muP, show r ≠ n by omega]) hRR
    obtain ⟨μ', a1, a2, a3, a4, a5⟩ := opnC_ok h2 H1
    simp only [opnC, List.headD_cons]
    refine ⟨μ', fun r hr => by rw [a1 r (by omega)]; simp [muP, show r ≠ n by omega], a2, ?_, by omega, fun r hr => by rw [a5 r (by omega)]; simp [hget, show r ≠ n by omega]⟩
    simp only [VRl]
    refine ⟨_, us', rfl, ?_, a3⟩
    simp only [VR, a5 n (Nat.lt_succ_self _), hget, ↓reduceIte]
    exact ⟨by omega, _, rfl, by rw [a1 n (Nat.lt_succ_self _), muP_self]; simp⟩
  | .full _ :: _, _, _, _, _, _, _, H, _ => by obtain ⟨_, _, _, _, _, _, h1, _⟩ := H; exact h1.elim
  | .sub _ _ _ :: _, _, _, _, _, _, _, H, _ => by obtain ⟨_, _, _, _, _, _, h1, _⟩ := H; exact h1.elim
  | .inn _ _ _ :: _, _, _, _, _, _, _, H, _ => by obtain ⟨_, _, _, _, _, _, h1, _⟩ := H; exact h1.elim
  | .ptr _ _ _ :: _, _, _, _, _, _, _, H, _ => by obtain ⟨_, _, _, _, _, _, h1, _⟩ := H; exact h1.elim
  | .agg _ :: _, _, _, _, _, _, _, H, _ => by obtain ⟨_, _, _, _, _, _, h1, _⟩ := H; exact h1.elim
  | .tup _ :: _, _, _, _, _, _, _, H, _ => by obtain ⟨_, _, _, _, _, _, h1, _⟩ := H; exact h1.elim
  | .ifc _ _ :: _, _, _, _, _, _, _, H, _ => by obtain ⟨_, _, _, _, _, _, h1, _⟩ := H; exact h1.elim
  | .fn _ _ _ :: _, _, _, _, _, _, _, H, _ => by obtain ⟨_, _, _, _, _, _, h1, _⟩ := H; exact h1.elim
  | .mp _ :: _, _, _, _, _, _, _, H, _ => by obtain ⟨_, _, _, _, _, _, h1, _⟩ := H; exact h1.elim
  | .undef :: _, _, _, _, _, _, _, H, _ => by obtain ⟨_, _, _, _, _, _, h1, _⟩ := H; exact h1.elim
theorem pack_vr' {g : Bool} {cs : List TV} {us : List Value} (H : VRl w imm ok μ h n cs us) : VR w imm ok μ h n (pack g cs) (valOf g us) := pack_vr H
theorem opnL_ok : ∀ {ts : List Ty} {x : den (prodT ts)} {vs : List Value} {L D : List Nat} {h : Heap} {n : Nat} {μ : Nat → Mu}, ResO w imm ok fr ts x vs L → HR w imm ok μ h n (L ++ D) →
    Opened w imm ok μ h n D (fun μ' => VRl w imm ok μ' (opnL fr ts x h n).2.1 (opnL fr ts x h n).2.2 (opnL fr ts x h n).1 vs) (opnL fr ts x h n).2.1 (opnL fr ts x h n).2.2
  | [], _, vs, L, D, h, n, μ, H, HH => by
    obtain ⟨rfl, rfl⟩ := H
    exact ⟨μ, fun _ _ => rfl, by simpa [opnL] using HH, by simp [opnL, VRl], Nat.le_refl _, fun _ _ => rfl⟩
  | t :: ts, x, vs, L, D, h, n, μ, H, HH => by
    obtain ⟨us, vs', L1, L2, rfl, rfl, h1, h2⟩ := H
    rw [List.append_assoc] at HH
    obtain ⟨μ1, a1, a2, a3, a4, a5⟩ := opnC_ok h1 HH
    obtain ⟨μ2, b1, b2, b3, b4, b5⟩ := opnL_ok h2 a2
    simp only [opnL, opnV]
    refine ⟨μ2, fun r hr => by rw [b1 r (by omega), a1 r hr], b2, ?_, by omega, fun r hr => by rw [b5 r (by omega), a5 r hr]⟩
    simp only [VRl]
    exact ⟨_, vs', rfl, pack_vr' (VRl.mono (Kept.opened b1 b4 b5) _ _ (innOkl_true _) a3), b3⟩
theorem opnG_ok : ∀ {ts : List Ty} {x : den (prodT ts)} {vs : List Value} {L D : List Nat} {h : Heap} {n : Nat} {μ : Nat → Mu}, ResG w imm ok ts x vs L → HR w imm ok μ h n (L ++ D) →
    Opened w imm ok μ h n D (fun μ' => VRl w imm ok μ' (opnG ts x h n).2.1 (opnG ts x h n).2.2 (opnG ts x h n).1 vs) (opnG ts x h n).2.1 (opnG ts x h n).2.2
  | [], _, vs, L, D, h, n, μ, H, HH => by
    obtain ⟨rfl, rfl⟩ := H
    exact ⟨μ, fun _ _ => rfl, by simpa [opnG] using HH, by simp [opnG, VRl], Nat.le_refl _, fun _ _ => rfl⟩
  | t :: ts, x, vs, L, D, h, n, μ, H, HH => by
    obtain ⟨us, vs', L1, L2, rfl, rfl, h1, h2⟩ := H
    rw [List.append_assoc] at HH
    obtain ⟨μ1, a1, a2, a3, a4, a5⟩ := opnC_ok h1 HH
    obtain ⟨μ2, b1, b2, b3, b4, b5⟩ := opnG_ok h2 a2
    simp only [opnG, opnV]
    refine ⟨μ2, fun r hr => by rw [b1 r (by omega), a1 r hr], b2, ?_, by omega, fun r hr => by rw [b5 r (by omega), a5 r hr]⟩
    simp only [VRl]
    exact ⟨_, vs', rfl, pack_vr' (VRl.mono (Kept.opened b1 b4 b5) _ _ (innOkl_true _) a3), b3⟩
theorem ret_vr {vs : List TV} {us : List Value} (H : VRl w imm ok μ h n vs us) : VR w imm ok μ h n (retT vs) (retV us) := by
  match vs with
  | [] => simp only [VRl] at H; subst H; simp only [retT, retV, VR]; exact ⟨[], rfl, by simp [VRl]⟩
  | [x] =>
    simp only [VRl] at H
    obtain ⟨u, us', rfl, h1, rfl⟩ := H
    exact h1
  | x :: y :: vs =>
    have H0 := H
    simp only [VRl] at H
    obtain ⟨u, us', rfl, h1, u2, us2, rfl, h2, h3⟩ := H
    simp only [retT, retV, VR]
    exact ⟨_, rfl, H0⟩
theorem valT_vr {t : Ty} {x : den t} {us : List Value} (H : TRl w imm ok t x us []) : VR w imm ok μ h n (valT t x) (valOf (isAg t) us) := by
  have := pack_vr (g := isAg t) (H.toCT.vrl (μ := μ) (h := h) (n := n))
  unfold valT; exact this
theorem valL_vr : ∀ {ts : List Ty} {x : den (prodT ts)} {vs : List Value}, ResB w imm ok ts x vs → VRl w imm ok μ h n (valL ts x) vs
  | [], _, vs, H => by simp only [ResB] at H; simp [valL, VRl, H]
  | t :: ts, x, vs, H => by
    obtain ⟨us, vs', rfl, h1, h2⟩ := H
    simp only [valL, VRl]
    exact ⟨_, vs', rfl, valT_vr h1, valL_vr h2⟩
theorem opnX_ok : ∀ {bs : List Bool} {ts : List Ty} {x : den (prodT ts)} {vs : List Value} {L D : List Nat} {h : Heap} {n : Nat} {μ : Nat → Mu}, ResX w imm ok bs ts x vs L → HR w imm ok μ h n (L ++ D) →
    Opened w imm ok μ h n D (fun μ' => VRl w imm ok μ' (opnX bs ts x h n).2.1 (opnX bs ts x h n).2.2 (opnX bs ts x h n).1 vs) (opnX bs ts x h n).2.1 (opnX bs ts x h n).2.2
  | _, [], _, vs, L, D, h, n, μ, H, HH => by
    obtain ⟨rfl, rfl⟩ := H
    exact ⟨μ, fun _ _ => rfl, by simpa [opnX] using HH, by simp [opnX, VRl], Nat.le_refl _, fun _ _ => rfl⟩
  | bs, t :: ts, x, vs, L, D, h, n, μ, H, HH => by
    obtain ⟨us, vs', L1, L2, rfl, rfl, h1, h2⟩ := H
    rw [List.append_assoc] at HH
    cases he : bs.headD true with
    | true =>
      rw [he] at h1
      obtain ⟨μ1, a1, a2, a3, a4, a5⟩ := opnC_ok h1 HH
      obtain ⟨μ2, b1, b2, b3, b4, b5⟩ := opnX_ok h2 a2
      simp only [opnX, he, opnV]
      refine ⟨μ2, fun r hr => by rw [b1 r (by omega), a1 r hr], b2, ?_, by omega, fun r hr => by rw [b5 r (by omega), a5 r hr]⟩
      simp only [VRl]
      exact ⟨_, vs', rfl, pack_vr' (VRl.mono (Kept.opened b1 b4 b5) _ _ (innOkl_true _) a3), b3⟩
    | false =>
      rw [he] at h1
      obtain ⟨h1, rfl⟩ := h1
      obtain ⟨μ2, b1, b2, b3, b4, b5⟩ := opnX_ok h2 (by simpa using HH)
      simp only [opnX, he]
      refine ⟨μ2, b1, b2, ?_, b4, b5⟩
      simp only [VRl]
      exact ⟨_, vs', rfl, valT_vr h1, b3⟩
theorem cellsOf_vr {t : Ty} {x : TV} {v : Value} {cs : List TV} (hc : cellsOf t x = some cs) (H : VR w imm ok μ h n x v) : ∃ us, v = valOf (isAg t) us ∧ VRl w imm ok μ h n cs us := by
  unfold cellsOf at hc
  split at hc
  · obtain ⟨hb, hc⟩ := cond_some.1 hc
    simp only [Option.some.injEq] at hc; subst hc
    simp only [VR] at H
    obtain ⟨us, rfl, H⟩ := H
    exact ⟨us, by simp [valOf, hb], H⟩
  · cases hb : isAg t with
    | true => simp [hb] at hc
    | false =>
      simp only [hb, cond_false, Option.some.injEq] at hc; subst hc
      exact ⟨[v], rfl, by simp only [VRl]; exact ⟨v, [], rfl, H, rfl⟩⟩
theorem seeT_I {I ok' : Nat → Prop} (HH : ∀ r x, hget h r = some x → ∃ L, RR w imm ok μ h n r x L ∧ ∀ b ∈ L, I b) (hlt : ∀ b, imm b → I b) : ∀ {t : Ty} {cs r : List TV} {x : den t} {us : List Value}, seeT h t cs = some (x, r) → VRl w imm ok μ h n cs us →
    ∃ u1 u2, us = u1 ++ u2 ∧ TRl w I ok' t x u1 [] ∧ VRl w imm ok μ h n r u2
  | .int k, cs, r, x, us, hd, H => by
    simp only [seeT] at hd
    split at hd <;> first | (simp at hd; done) | skip
    split at hd
    · simp only [Option.some.injEq, Prod.mk.injEq] at hd
      obtain ⟨rfl, rfl⟩ := hd
      subst_vars
      simp only [VRl, VR] at H
      obtain ⟨_, us', rfl, rfl, h2⟩ := H
      exact ⟨[_], us', rfl, ⟨rfl, rfl⟩, h2⟩
    · simp at hd
  | .bool, cs, r, x, us, hd, H => by
    simp only [seeT] at hd
    split at hd <;> first | (simp at hd; done) | skip
    simp only [Option.some.injEq, Prod.mk.injEq] at hd
    obtain ⟨rfl, rfl⟩ := hd
    simp only [VRl, VR] at H
    obtain ⟨_, us', rfl, rfl, h2⟩ := H
    exact ⟨[_], us', rfl, ⟨rfl, rfl⟩, h2⟩
  | .str, cs, r, x, us, hd, H => by
    simp only [seeT] at hd
    split at hd <;> first | (simp at hd; done) | skip
    simp only [Option.some.injEq, Prod.mk.injEq] at hd
    obtain ⟨rfl, rfl⟩ := hd
    simp only [VRl, VR] at H
    obtain ⟨_, us', rfl, rfl, h2⟩ := H
    exact ⟨[_], us', rfl, ⟨rfl, rfl⟩, h2⟩
  | .un, cs, r, x, us, hd, H => by
    simp only [seeT, Option.some.injEq, Prod.mk.injEq] at hd
    obtain ⟨_, rfl⟩ := hd
    exact ⟨[], us, rfl, ⟨rfl, rfl⟩, H⟩
  | .pr a b, cs, r, x, us, hd, H => by
    simp only [seeT, Option.bind_eq_some_iff, Option.some.injEq, Prod.mk.injEq] at hd
    obtain ⟨⟨x1, r1⟩, hd1, ⟨x2, r2⟩, hd2, rfl, rfl⟩ := hd
    obtain ⟨u1, u2, rfl, h1, h2⟩ := seeT_I HH hlt hd1 H
    obtain ⟨u3, u4, rfl, h3, h4⟩ := seeT_I HH hlt hd2 h2
    exact ⟨u1 ++ u3, u4, by simp, ⟨u1, u3, [], [], rfl, rfl, h1, h3⟩, h4⟩
  | .sl t, cs, r, x, us, hd, H => by
    simp only [seeT] at hd
    split at hd <;> first | (simp at hd; done) | skip
    simp only [Option.bind_eq_some_iff] at hd
    obtain ⟨f, hf, hd⟩ := hd
    simp only [VRl] at H
    obtain ⟨u, us', rfl, h1, h2⟩ := H
    have hc := frzC_I (ok' := ok') HH hlt hf h1
    split at hd
    · simp only [Option.bind_eq_some_iff, Option.some.injEq, Prod.mk.injEq] at hd
      obtain ⟨l', hc', rfl, rfl⟩ := hd
      obtain ⟨rfl, rfl⟩ := cast_some hc'
      exact ⟨[u], us', rfl, hc, h2⟩
    · simp only [Option.some.injEq, Prod.mk.injEq] at hd
      obtain ⟨rfl, rfl⟩ := hd
      obtain ⟨rfl, _⟩ := hc
      exact ⟨[_], us', rfl, ⟨_, rfl, .inl ⟨rfl, rfl, rfl⟩⟩, h2⟩
    · simp at hd
  | .ref t, cs, r, x, us, hd, H => by
    simp only [seeT] at hd
    split at hd <;> first | (simp at hd; done) | skip
    · simp only [Option.bind_eq_some_iff, Option.some.injEq, Prod.mk.injEq] at hd
      obtain ⟨l', hc, rfl, rfl⟩ := hd
      obtain ⟨rfl, rfl⟩ := cast_some hc
      simp only [VRl, VR] at H
      obtain ⟨u, us', rfl, ⟨b, o, rfl, hb, L1, L3, e, ⟨vs, g1, g2⟩, _⟩, h2⟩ := H
      obtain ⟨rfl, rfl⟩ := List.append_eq_nil_iff.1 e.symm
      exact ⟨[_], us', rfl, ⟨b, o, vs, by simp, rfl, hlt b (hb (by simp)), TRl.lent hlt (by simp) g1, g2⟩, h2⟩
    · rename_i k r'
      split at hd
      · rename_i bs hg
        split at hd
        · rename_i y hy
          simp only [Option.some.injEq, Prod.mk.injEq] at hd
          obtain ⟨rfl, rfl⟩ := hd
          simp only [VRl, VR, hg] at H
          obtain ⟨u, us', rfl, ⟨_, A, rfl, rfl⟩, h2⟩ := H
          obtain ⟨L, hR, hI⟩ := HH k _ hg
          simp only [RR] at hR
          obtain ⟨rfl, _, _, vs, g1, g2⟩ := hR
          obtain ⟨v1, v2, rfl, k1, k2⟩ := seeT_I HH hlt hy g1
          simp only [VRl] at k2
          subst k2
          exact ⟨[_], us', rfl, ⟨(μ k).blk, (μ k).off, v1, by simp, rfl, hI _ (by simp), k1, by simpa using g2⟩, h2⟩
        · simp at hd
      · simp at hd
  | .cl g t, cs, r, x, us, hd, H => by
    simp only [seeT] at hd
    split at hd <;> first | (simp at hd; done) | skip
    rename_i g' ca r'
    cases hb : Nat.beq g' g with
    | false => rw [hb] at hd; simp at hd
    | true =>
      have hg := Nat.eq_of_beq_eq_true hb
      subst hg
      rw [hb] at hd
      simp only [cond_true] at hd
      split at hd
      · rename_i y hy
        simp only [Option.some.injEq, Prod.mk.injEq] at hd
        obtain ⟨rfl, rfl⟩ := hd
        simp only [VRl, VR] at H
        obtain ⟨u, us', rfl, ⟨u0, vs, rfl, rfl, g2⟩, h2⟩ := H
        obtain ⟨v1, v2, rfl, k1, k2⟩ := seeT_I HH hlt hy g2
        simp only [VRl] at k2
        subst k2
        exact ⟨[_], us', rfl, ⟨v1, by simp, rfl, k1⟩, h2⟩
      · simp at hd
theorem see1_I {I ok' : Nat → Prop} (HH : ∀ r x, hget h r = some x → ∃ L, RR w imm ok μ h n r x L ∧ ∀ b ∈ L, I b) (hlt : ∀ b, imm b → I b) {t : Ty} {cs : List TV} {x : den t} {us : List Value} (hd : see1 h t cs = some x) (H : VRl w imm ok μ h n cs us) : TRl w I ok' t x us [] := by
  unfold see1 at hd
  split at hd
  · rename_i y hy
    simp only [Option.some.injEq] at hd; subst hd
    obtain ⟨u1, u2, rfl, h1, h2⟩ := seeT_I (ok' := ok') HH hlt hy H
    simp only [VRl] at h2
    subst h2
    simpa using h1
  · simp at hd
theorem see1_ok {D : List Nat} (HH : HR w imm ok μ h n D) (hlt : ∀ b, imm b → b < w.heap.size) {t : Ty} {cs : List TV} {x : den t} {us : List Value} (hd : see1 h t cs = some x) (H : VRl w imm ok μ h n cs us) : TRl w (· < w.heap.size) (· ∈ ([] : List Nat)) t x us [] :=
  see1_I (fun r x hx => by obtain ⟨L, h1, h2⟩ := HH.rowI r x hx; exact ⟨L, h1, fun b hb => (h2 b hb).1⟩) hlt hd H
theorem frzC_flat {c : TV} (hf : flatV c = true) : frzC h c = frzC [] c := by
  cases c <;> first | rfl | (simp [flatV] at hf)
theorem seeT_flat : ∀ {t : Ty} {cs : List TV}, flatB cs = true → seeT h t cs = seeT [] t cs ∧ ∀ x r, seeT h t cs = some (x, r) → flatB r = true
  | .int k, cs, hf => by
    refine ⟨rfl, fun x r hd => ?_⟩
    simp only [seeT] at hd
    split at hd <;> first | (simp at hd; done) | skip
    split at hd
    · simp only [Option.some.injEq, Prod.mk.injEq] at hd; obtain ⟨_, rfl⟩ := hd
      simp only [flatB, Bool.and_eq_true] at hf; exact hf.2
    · simp at hd
  | .bool, cs, hf => by
    refine ⟨rfl, fun x r hd => ?_⟩
    simp only [seeT] at hd
    split at hd <;> first | (simp at hd; done) | skip
    simp only [Option.some.injEq, Prod.mk.injEq] at hd; obtain ⟨_, rfl⟩ := hd
    simp only [flatB, Bool.and_eq_true] at hf; exact hf.2
  | .str, cs, hf => by
    refine ⟨rfl, fun x r hd => ?_⟩
    simp only [seeT] at hd
    split at hd <;> first | (simp at hd; done) | skip
    simp only [Option.some.injEq, Prod.mk.injEq] at hd; obtain ⟨_, rfl⟩ := hd
    simp only [flatB, Bool.and_eq_true] at hf; exact hf.2
  | .un, cs, hf => by
    refine ⟨rfl, fun x r hd => ?_⟩
    simp only [seeT, Option.some.injEq, Prod.mk.injEq] at hd; obtain ⟨_, rfl⟩ := hd; exact hf
  | .pr a b, cs, hf => by
    obtain ⟨e1, f1⟩ := seeT_flat (t := a) hf
    refine ⟨?_, fun x r hd => ?_⟩
    · simp only [seeT]
      rw [← e1]
      cases he : seeT h a cs with
      | none => rfl
      | some p => simp only [Option.bind_some]; rw [(seeT_flat (t := b) (f1 p.1 p.2 he)).1]
    · simp only [seeT, Option.bind_eq_some_iff, Option.some.injEq, Prod.mk.injEq] at hd
      obtain ⟨⟨x1, r1⟩, hd1, ⟨x2, r2⟩, hd2, _, rfl⟩ := hd
      exact (seeT_flat (t := b) (f1 _ _ hd1)).2 _ _ hd2
  | .sl t, cs, hf => by
    cases cs with
    | nil => exact ⟨rfl, fun x r hd => by simp [seeT] at hd⟩
    | cons c cs =>
      simp only [flatB, Bool.and_eq_true] at hf
      refine ⟨by simp only [seeT]; rw [frzC_flat hf.1], fun x r hd => ?_⟩
      simp only [seeT, Option.bind_eq_some_iff] at hd
      obtain ⟨f, _, hd⟩ := hd
      split at hd
      · simp only [Option.bind_eq_some_iff, Option.some.injEq, Prod.mk.injEq] at hd
        obtain ⟨_, _, _, rfl⟩ := hd; exact hf.2
      · simp only [Option.some.injEq, Prod.mk.injEq] at hd; obtain ⟨_, rfl⟩ := hd; exact hf.2
      · simp at hd
  | .ref t, cs, hf => by
    simp only [seeT]
    split
    · simp only [flatB, Bool.and_eq_true] at hf
      refine ⟨rfl, fun x r hd => ?_⟩
      simp only [Option.bind_eq_some_iff, Option.some.injEq, Prod.mk.injEq] at hd
      obtain ⟨_, _, _, rfl⟩ := hd; exact hf.2
    · simp [flatB, flatV] at hf
    · exact ⟨rfl, fun x r hd => by simp at hd⟩
  | .cl g t, cs, hf => by
    simp only [seeT]
    split
    · rename_i g' ca r'
      simp only [flatB, flatV, Bool.and_eq_true] at hf
      obtain ⟨e1, f1⟩ := seeT_flat (t := t) hf.1.2
      rw [← e1]
      refine ⟨rfl, fun x r hd => ?_⟩
      cases hb : Nat.beq g' g with
      | false => rw [hb] at hd; simp at hd
      | true =>
        rw [hb] at hd
        simp only [cond_true] at hd
        split at hd
        · simp only [Option.some.injEq, Prod.mk.injEq] at hd; obtain ⟨_, rfl⟩ := hd; exact hf.2
        · simp at hd
    · exact ⟨rfl, fun x r hd => by simp at hd⟩
theorem see1_flat {t : Ty} {cs : List TV} {x : den t} {us : List Value} (hf : flatB cs = true) (hd : see1 h t cs = some x) (H : VRl w imm ok μ h n cs us) : TRl w imm (· ∈ ([] : List Nat)) t x us [] := by
  have hd' : see1 [] t cs = some x := by unfold see1 at hd ⊢; rw [← (seeT_flat hf).1]; exact hd
  exact see1_I (h := []) (fun r x hx => by simp [hget] at hx) (fun _ h => h) hd' (FVl.vrl (μ := μ) (h := []) (n := n) _ _ (FVl.of _ _ hf H))
theorem cellsOf_clist {t : Ty} {x : TV} {cs : List TV} (hc : cellsOf t x = some cs) : clist x = cs := by
  unfold cellsOf at hc
  split at hc
  · obtain ⟨_, hc⟩ := cond_some.1 hc; simp only [Option.some.injEq] at hc; subst hc; rfl
  · rename_i hne
    cases hb : isAg t with
    | true => simp [hb] at hc
    | false =>
      simp only [hb, cond_false, Option.some.injEq] at hc; subst hc
      unfold clist; split
      · rename_i cs; exact absurd rfl (hne cs)
      · rfl
theorem argL_ok (HH : HR w imm ok μ h n []) (hlt : ∀ b, imm b → b < w.heap.size) : ∀ {ps : List (Ty × Bool)} {xs : List TV} {vs : List Value} {x : den (prodT (ps.map (·.1)))}, argL h ps xs = some x → VRl w imm ok μ h n xs vs → ps.all (!·.2) = true →
    ArgR w (· < w.heap.size) (· ∈ ([] : List Nat)) ps x vs [] ∧ (flatA xs = true → ArgR w imm (· ∈ ([] : List Nat)) ps x vs [])
  | [], [], vs, x, ha, H, _ => by
    simp only [VRl] at H; subst H
    exact ⟨⟨rfl, rfl⟩, fun _ => ⟨rfl, rfl⟩⟩
  | [], _ :: _, _, _, ha, _, _ => by simp [argL] at ha
  | _ :: _, [], _, _, ha, _, _ => by simp [argL] at ha
  | p :: ps, y :: xs, vs, x, ha, H, hp => by
    simp only [argL, Option.bind_eq_some_iff, Option.some.injEq] at ha
    obtain ⟨cs, hcs, d, hd, z, hz, hxe⟩ := ha
    cases hxe
    simp only [VRl] at H
    obtain ⟨u, vs', rfl, h1, h2⟩ := H
    simp only [List.all_cons, Bool.and_eq_true, Bool.not_eq_true'] at hp
    obtain ⟨us, rfl, hv⟩ := cellsOf_vr hcs h1
    obtain ⟨ih1, ih2⟩ := argL_ok HH hlt hz h2 hp.2
    refine ⟨⟨us, vs', [], [], rfl, rfl, fun _ => ⟨?_, rfl⟩, fun e => by rw [hp.1] at e; simp at e, ih1⟩, fun hf => ?_⟩
    · exact see1_ok HH hlt hd hv
    · simp only [flatA, List.all_cons, Bool.and_eq_true] at hf
      rw [cellsOf_clist hcs] at hf
      refine ⟨us, vs', [], [], rfl, rfl, fun _ => ⟨?_, rfl⟩, fun e => by rw [hp.1] at e; simp at e, ih2 hf.2⟩
      exact see1_flat hf.1 hd hv
end
end Go.Tw
namespace Go.Tw
open Go Go.RowKit
variable [Grd]
section
variable {w w' : World} {imm imm' ok ok' : Nat → Prop} {μ : Nat → Mu} {h : Heap} {n : Nat} {fr : Bool}
theorem SlR.top {r : Nat} {t : Ty} {l : List (den t)} {off len : Nat} {v : Value} {L : List Nat} (H : SlR w (μ r) (sz t) off len v) (hle : off + len ≤ l.length) (hR : RR w imm ok μ h n r (.row fr t l) L) :
    ∃ L', TO1 w imm ok fr (.tr t ((l.drop off).take len)) v L' ∧ L'.Sublist L := by
  have hlen : ((l.drop off).take len).length = len := by simp; omega
  rcases H with ⟨rfl, rfl⟩ | ⟨o, cap, rfl, h1, h2, h3, h4⟩
  · exact ⟨[], .inl ⟨rfl, by simp, rfl⟩, List.nil_sublist _⟩
  · obtain ⟨L', rfl, g1, g2, g3⟩ := hR.rowd h2
    obtain ⟨L1, L2, L3, rfl, hs⟩ := RL.sub off len (by omega) g3
    rcases Nat.eq_zero_or_pos cap with hz | hp
    · have hl0 : len = 0 := by omega
      subst hl0
      refine ⟨[(μ r).blk], .inr ⟨_, _, cap, [], by rw [hlen], by omega, by simp [RL], rfl, g1, h3, fun hp => by omega⟩, by simp⟩
    · obtain ⟨rfl, h6⟩ := h4 hp
      refine ⟨(μ r).blk :: L2, .inr ⟨_, _, cap, L2, by rw [hlen], by omega, hs, rfl, g1, h3, fun _ => h6⟩, ?_⟩
      exact List.Sublist.cons_cons _ ((List.sublist_append_left L2 L3).trans (List.sublist_append_right L1 _))
theorem TRl.reok : ∀ {t : Ty} {x : den t} {us : List Value} {L : List Nat}, (∀ b, imm b → imm' b) → (∀ b ∈ L, ok' b) → TRl w imm ok t x us L → TRl w imm' ok' t x us L
  | .int _, _, _, _, _, _, h => h
  | .bool, _, _, _, _, _, h => h
  | .str, _, _, _, _, _, h => h
  | .un, _, _, _, _, _, h => h
  | .pr a b, x, us, L, hi, hL, h => by
    obtain ⟨u1, u2, L1, L2, rfl, rfl, h1, h2⟩ := h
    exact ⟨u1, u2, L1, L2, rfl, rfl, TRl.reok hi (fun b hb => hL b (by simp [hb])) h1, TRl.reok hi (fun b hb => hL b (by simp [hb])) h2⟩
  | .sl t, l, us, L, hi, hL, h => by
    obtain ⟨v, rfl, h⟩ := h
    refine ⟨v, rfl, ?_⟩
    rcases h with h | ⟨A, cap, L', h1, h2, h3, h4⟩
    · exact .inl h
    · rcases h4 with ⟨rfl, rfl, ⟨b0, h0⟩, h4⟩ | ⟨rfl, h4, h5, h6, h7⟩
      · exact .inr ⟨A, cap, [], h1, h2, RL.imp (fun x _ o L'' hL'' ⟨us, k1, k2⟩ => ⟨us, TRl.reok hi (fun b hb => hL b (by have := hL'' b hb; simp at this)) k1, k2⟩) h3, .inl ⟨rfl, rfl, ⟨b0, hi _ h0⟩, fun hne => ⟨(h4 hne).1, hi _ (h4 hne).2⟩⟩⟩
      · exact .inr ⟨A, cap, L', h1, h2, RL.imp (fun x _ o L'' hL'' ⟨us, k1, k2⟩ => ⟨us, TRl.reok hi (fun b hb => hL b (by simp [hL'' b hb])) k1, k2⟩) h3, .inr ⟨rfl, h4, hL _ (by simp), h6, h7⟩⟩
  | .ref t, x, us, L, hi, hL, h => by
    obtain ⟨b, o, vs, rfl, rfl, h1, h2, h3⟩ := h
    exact ⟨b, o, vs, rfl, rfl, hi b h1, TRl.reok hi (by simp) h2, h3⟩
  | .cl g t, x, us, L, hi, hL, h => by
    obtain ⟨vs, rfl, rfl, h1⟩ := h
    exact ⟨vs, rfl, rfl, TRl.reok hi (by simp) h1⟩
theorem TO1.reok {x : TV} {v : Value} {L : List Nat} (hL : ∀ b ∈ L, ok' b) (H : TO1 w imm ok true x v L) : TO1 w imm' ok' true x v L := by
  have hi : ∀ b, immf true imm b → immf true imm' b := fun b hb => by simp [immf] at hb
  cases x with
  | p u => exact H
  | tr t l =>
    rcases H with H | ⟨b, o, cap, L', h1, h2, h3, h4, h5, h6, h7⟩
    · exact .inl H
    · subst h4
      exact .inr ⟨b, o, cap, L', h1, h2, RL.imp (fun x _ o L'' hL'' ⟨us, k1, k2⟩ => ⟨us, TRl.reok hi (fun b hb => hL b (by simp [hL'' b hb])) k1, k2⟩) h3, rfl, hL _ (by simp), h6, h7⟩
  | iptr t l i off =>
    obtain ⟨h1, h2, x, b, o, us, h3, h4, rfl, h6, h7, h8, h9⟩ := H
    exact ⟨h1, h2, x, b, o, us, h3, h4, rfl, hL _ (by simp), h7, TRl.reok hi (by simp) h8, h9⟩
  | _ => exact H.elim
theorem TOC.length' : ∀ {cs : List TV} {us : List Value} {L : List Nat}, TOC w imm ok fr cs us L → us.length = cs.length
  | [], _, _, H => by rw [H.1]; rfl
  | c :: cs, us, L, H => by obtain ⟨u, us', L1, L2, rfl, rfl, _, h2⟩ := H; simp [TOC.length' h2]
theorem TO1.of_TRl {t : Ty} {l : List (den t)} {v : Value} {L : List Nat} (H : TRl w (immf true imm) ok (.sl t) l [v] L) : TO1 w imm ok true (.tr t l) v L := by
  obtain ⟨v', e, H⟩ := H
  simp only [List.cons.injEq, and_true] at e; subst e
  rcases H with ⟨h1, h2, h3⟩ | ⟨A, cap, L', h1, h2, h3, h4⟩
  · exact .inl ⟨h1, h2, h3⟩
  · rcases h4 with ⟨rfl, rfl, ⟨b0, h0⟩, h4⟩ | ⟨rfl, h4, h5, h6, h7⟩
    · simp [immf] at h0
    · obtain ⟨b, o, s⟩ := A
      simp only at h4; subst h4
      exact .inr ⟨b, o, cap, L', h1, h2, h3, rfl, h5, h6, h7⟩
theorem TO1.to_TRl {t : Ty} {l : List (den t)} {v : Value} {L : List Nat} (H : TO1 w imm ok true (.tr t l) v L) : TRl w (immf true imm) ok (.sl t) l [v] L := by
  refine ⟨v, rfl, ?_⟩
  rcases H with ⟨h1, h2, h3⟩ | ⟨b, o, cap, L', h1, h2, h3, h4, h5, h6, h7⟩
  · exact .inl ⟨h1, h2, h3⟩
  · exact .inr ⟨⟨b, o, none⟩, cap, L', h1, h2, h3, .inr ⟨h4, rfl, h5, h6, h7⟩⟩
theorem full_back {r : Nat} {t : Ty} {l : List (den t)} {v : Value} {L : List Nat} (H : SlR w (μ r) (sz t) 0 l.length v) (hR : RR w imm ok μ h n r (.row true t l) L) (hn : L.Nodup) (hnew : ∀ b, w.heap.size ≤ b → ok b) :
    ∃ Lm, TO1 w imm ok true (.tr t l) v Lm ∧ Lm.Sublist L ∧ ∀ {w' : World} {imm0 : Nat → Prop} {l' : List (den t)} {Lm' : List Nat} {h' : Heap}, FrL Lm w w' → TO1 w' imm0 (okL Lm w) true (.tr t l') v Lm' → Lm'.Nodup →
      l'.length = l.length ∧ ∃ L', RR w' imm ok μ h' n r (.row true t l') L' ∧ L'.Nodup ∧ ∀ b ∈ L', b ∈ Lm' ∨ (b ∈ L ∧ b ∉ Lm) := by
  obtain ⟨Lm, h1, h2⟩ := SlR.top (l := l) H (by omega) hR
  simp only [List.drop_zero, List.take_length] at h1
  refine ⟨Lm, h1, h2, fun {w' imm0 l' Lm' h'} hF hT hn' => ?_⟩
  have hok : ∀ b ∈ Lm', ok b ∧ (b ∈ L ∨ w.heap.size ≤ b) := by
    intro b hb
    have : okL Lm w b := (TO1.blocks hT b hb).1
    rcases this with h3 | h3
    · exact ⟨(RR.blocks hR b (h2.subset h3)).1, .inl (h2.subset h3)⟩
    · exact ⟨hnew b h3, .inr h3⟩
  have hT' : TO1 w' imm ok true (.tr t l') v Lm' := hT.reok (fun b hb => (hok b hb).1)
  rcases H with ⟨rfl, hl⟩ | ⟨o, cap, rfl, g1, g2, g3, g4⟩
  ·
    have hl0 : l = [] := List.eq_nil_of_length_eq_zero hl
    subst hl0
    rcases hT' with ⟨_, rfl, rfl⟩ | ⟨b, o, cap, L', h3, _⟩
    · refine ⟨rfl, ?_⟩
      rcases hR with ⟨k1, _, rfl⟩ | ⟨k1, L', rfl, k2, k3, k4⟩
      · exact ⟨[], .inl ⟨k1, rfl, rfl⟩, by simp, by simp⟩
      · refine ⟨[(μ r).blk], .inr ⟨k1, [], rfl, k2, hF.row _ _ k3, by simp [RL]⟩, by simp, fun b hb => .inr ⟨by simp at hb; simp [hb], ?_⟩⟩
        rcases h1 with ⟨_, _, rfl⟩ | ⟨b, o, cap, L', h3, _⟩
        · simp
        · simp at h3
    · simp at h3
  · rcases hT' with ⟨h3, _⟩ | ⟨b, o', cap', L', h3, h4, h5, h6, h7, h8, h9⟩
    · simp at h3
    · simp only [Value.slice.injEq, Option.some.injEq, Addr.mk.injEq, and_true] at h3
      obtain ⟨⟨rfl, rfl⟩, hlen, rfl⟩ := h3
      refine ⟨hlen.symm, ?_⟩
      obtain ⟨L0, rfl, k1, k2, k3⟩ := hR.rowd g2
      subst h6
      rcases Nat.eq_zero_or_pos cap with hz | hp
      · have hl0 : l' = [] := List.eq_nil_of_length_eq_zero (by omega)
        have hl1 : l = [] := List.eq_nil_of_length_eq_zero (by omega)
        subst hl0 hl1
        refine ⟨[(μ r).blk], .inr ⟨g2, [], rfl, k1, hF.row _ _ k2, by simp [RL]⟩, by simp, fun b hb => .inl (by simp at hb; simp [hb])⟩
      · obtain ⟨e0, g5⟩ := g4 hp
        simp only [Nat.zero_mul, Nat.add_zero] at e0; subst e0
        refine ⟨(μ r).blk :: L', .inr ⟨g2, L', rfl, k1, (h9 hp).le ?_, h5⟩, hn', fun b hb => .inl hb⟩
        have := Nat.mul_le_mul_right (sz t) h4
        omega
theorem inn_back {r i off : Nat} {t0 t2 : Ty} {l : List (den t0)} {l2 : List (den t2)} {v : Value} {L : List Nat} (hi : i < l.length) (hbk : (μ r).bk = true) (hcell : w.cell? ⟨(μ r).blk, (μ r).off + i * sz t0 + off, none⟩ = some v)
    (hd : ((encT t0 (l.getD i (dflt t0))).drop off).headD .undef = .tr t2 l2) (hR : RR w imm ok μ h n r (.row true t0 l) L) (hn : L.Nodup) (hnew : ∀ b, w.heap.size ≤ b → ok b) (hs : ∀ b, imm b → w.heap.size > b) :
    ∃ Lm, TO1 w imm ok true (.tr t2 l2) v Lm ∧ Lm.Sublist L ∧ ∀ {w' : World} {imm0 : Nat → Prop} {l' : List (den t2)} {Lm' : List Nat} {h' : Heap} {e : den t0}, FrL Lm w w' → TO1 w' imm0 (okL Lm w) true (.tr t2 l') v Lm' → Lm'.Nodup →
      dec1 t0 (spl (encT t0 (l.getD i (dflt t0))) off [.tr t2 l']) = some e → ∃ L', RR w' imm ok μ h' n r (.row true t0 (l.set i e)) L' ∧ L'.Nodup ∧ ∀ b ∈ L', b ∈ Lm' ∨ (b ∈ L ∧ b ∉ Lm) := by
  obtain ⟨L', rfl, g1, g2, g3⟩ := hR.rowd hbk
  obtain ⟨L1, L2, L3, rfl, m1, ⟨us, m2, m3⟩, m4⟩ := RL.at (dflt t0) hi g3
  have hofl : off < (encT t0 (l.getD i (dflt t0))).length := by
    rcases Nat.lt_or_ge off (encT t0 (l.getD i (dflt t0))).length with hl | hl
    · exact hl
    · rw [List.drop_of_length_le hl] at hd; simp at hd
  obtain ⟨u1, u2, u3, La, Lb, Lc, rfl, rfl, k1, k2, c1, c2, c3⟩ := m2.toCT.win (off := off) (m := 1) (by omega)
  have htake : ((encT t0 (l.getD i (dflt t0))).drop off).take 1 = [.tr t2 l2] := by
    cases hc : (encT t0 (l.getD i (dflt t0))).drop off with
    | nil => rw [hc] at hd; simp at hd
    | cons y ys => rw [hc] at hd; simp at hd; subst hd; rfl
  rw [htake] at c2
  obtain ⟨u, us', Lx, Ly, rfl, rfl, c4, rfl, rfl⟩ := c2
  have hu : u = v := by
    obtain ⟨_, a2⟩ := At.app.1 m3
    obtain ⟨a3, _⟩ := At.cons.1 a2
    rw [k1, hcell] at a3
    simpa using a3.symm
  subst hu
  have hT := TO1.of_TRl (ok := ok) c4
  simp only [List.append_nil] at hn ⊢
  have hnd := hn
  refine ⟨Lx, hT, ?_, fun {w' imm0 l' Lm' h' e} hF hT2 hn' he => ?_⟩
  · refine List.Sublist.cons _ ?_
    exact ((List.sublist_append_left Lx Lc).trans (List.sublist_append_right La _)).trans ((List.sublist_append_left _ L3).trans (List.sublist_append_right L1 _))
  obtain ⟨hnb, hnd⟩ := List.nodup_cons.1 hnd
  have hnot : ∀ b, (b = (μ r).blk ∨ b ∈ L1 ∨ b ∈ La ∨ b ∈ Lc ∨ b ∈ L3) → b ∉ Lx := by
    intro b hb hx
    rcases hb with rfl | hb
    · exact hnb (by simp [hx])
    · obtain ⟨n1, n2, n3⟩ := List.nodup_append.1 hnd
      obtain ⟨n4, n5, n6⟩ := List.nodup_append.1 n2
      obtain ⟨n7, n8, n9⟩ := List.nodup_append.1 n4
      obtain ⟨n10, n11, n12⟩ := List.nodup_append.1 n8
      rcases hb with h | h | h | h
      · exact n3 b h b (by simp [hx]) rfl
      · exact n9 b h b (by simp [hx]) rfl
      · exact n12 b hx b h rfl
      · exact n6 b (by simp [hx]) b h rfl
  have hsame : ∀ b, (b = (μ r).blk ∨ b ∈ L1 ∨ b ∈ La ∨ b ∈ Lc ∨ b ∈ L3) → w'.heap[b]? = w.heap[b]? := by
    intro b hb
    have hlt : b < w.heap.size := by
      rcases hb with rfl | hb
      · exact g2.lt
      · exact (RR.blocks hR b (by rcases hb with h | h | h | h <;> simp [h])).2
    exact hF.block b hlt (hnot b hb)
  have hok : ∀ b ∈ Lm', ok b ∧ (b ∈ Lx ∨ w.heap.size ≤ b) := by
    intro b hb
    have : okL Lx w b := (TO1.blocks hT2 b hb).1
    rcases this with h3 | h3
    · exact ⟨(RR.blocks hR b (by simp [h3])).1, .inl h3⟩
    · exact ⟨hnew b h3, .inr h3⟩
  have hT3 : TRl w' (immf true imm) ok (.sl t2) l' [u] Lm' := (TO1.reok (imm' := imm) (ok' := ok) (fun b hb => (hok b hb).1) hT2).to_TRl
  have hii : ∀ b, immf true imm b → immf true imm b := fun _ h => h
  have hiw : ∀ b, immf true imm b → w'.heap[b]? = w.heap[b]? := fun b hb => by simp [immf] at hb
  have d1 := c1.mono (w' := w') hii (fun _ h => h) hiw (fun b hb => hsame b (by simp [hb]))
  have d3 := c3.mono (w' := w') hii (fun _ h => h) hiw (fun b hb => hsame b (by simp [hb]))
  have hct : CT w' (immf true imm) ok (spl (encT t0 (l.getD i (dflt t0))) off [.tr t2 l']) (u1 ++ [u] ++ u3) (La ++ Lm' ++ Lc) := by
    unfold spl
    exact CT.app.2 ⟨u1 ++ [u], u3, La ++ Lm', Lc, rfl, rfl, CT.app.2 ⟨u1, [u], La, Lm', rfl, rfl, d1, ⟨u, [], Lm', [], rfl, by simp, hT3, rfl, rfl⟩⟩, d3⟩
  have htr := CT.dec1 he hct
  have hblk := hsame (μ r).blk (.inl rfl)
  have hat : At w' (μ r).blk ((μ r).off + i * sz t0) (u1 ++ [u] ++ u3) := by
    rw [show u1 ++ [u] ++ u3 = u1 ++ ([u] ++ u3) by simp]; exact m3.same hblk
  have hrest : ∀ {l0 : List (den t0)} {o' : Nat} {L0 : List Nat}, (∀ b ∈ L0, b ∈ L1 ∨ b ∈ L3) → RL (TRc w (immf true imm) ok t0) (sz t0) l0 (μ r).blk o' L0 → RL (TRc w' (immf true imm) ok t0) (sz t0) l0 (μ r).blk o' L0 :=
    fun hL hr => RL.imp (fun x _ o L'' hL'' hr => TRc.mono hii (fun _ h => h) hiw (fun b hb => hsame b (by rcases hL b (hL'' b hb) with h | h <;> simp [h])) hblk hr) hr
  have hRL := RL.put (l := l) (i := i) (x := e) (L1 := L1) (L2 := La ++ Lm' ++ Lc) (L3 := L3) hi (hrest (fun b hb => .inl hb) m1) ⟨_, htr, hat⟩ (hrest (fun b hb => .inr hb) m4)
  refine ⟨(μ r).blk :: (L1 ++ ((La ++ Lm' ++ Lc) ++ L3)), .inr ⟨hbk, _, rfl, g1, ?_, hRL⟩, ?_, ?_⟩
  · rw [List.length_set]; exact hF.row _ _ g2
  · have hLm : ∀ b ∈ Lm', b ∉ (μ r).blk :: (L1 ++ ((La ++ Lc) ++ L3)) := by
      intro b hb hm
      have hlt : b < w.heap.size := by
        rcases List.mem_cons.1 hm with rfl | hm
        · exact g2.lt
        · exact (RR.blocks hR b (by simp only [List.mem_append, List.mem_cons] at hm ⊢; rcases hm with h | (h | h) | h <;> simp [h])).2
      rcases (hok b hb).2 with hx | hx
      · rcases List.mem_cons.1 hm with rfl | hm
        · exact hnb (by simp [hx])
        · obtain ⟨n1, n2, n3⟩ := List.nodup_append.1 hnd
          obtain ⟨n4, n5, n6⟩ := List.nodup_append.1 n2
          obtain ⟨n7, n8, n9⟩ := List.nodup_append.1 n4
          obtain ⟨n10, n11, n12⟩ := List.nodup_append.1 n8
          simp only [List.mem_append] at hm
          rcases hm with h | (h | h) | h
          · exact n3 b h b (by simp [hx]) rfl
          · exact n9 b h b (by simp [hx]) rfl
          · exact n12 b hx b h rfl
          · exact n6 b (by simp [hx]) b h rfl
      · omega
    have hn2 : ((μ r).blk :: (L1 ++ ((La ++ Lc) ++ L3))).Nodup := by
      refine hn.sublist ?_
      refine List.Sublist.cons_cons _ (List.Sublist.append (List.Sublist.refl _) (List.Sublist.append ?_ (List.Sublist.refl _)))
      exact List.Sublist.append (List.Sublist.refl _) (List.sublist_append_right _ _)
    have hp : ((μ r).blk :: (L1 ++ ((La ++ Lm' ++ Lc) ++ L3))).Perm (Lm' ++ ((μ r).blk :: (L1 ++ ((La ++ Lc) ++ L3)))) := by
      refine List.perm_iff_count.2 (fun x => ?_)
      simp only [List.count_cons, List.count_append]; omega
    exact hp.nodup_iff.2 (List.nodup_append.2 ⟨hn', hn2, fun b hb b' hb' e => by subst e; exact hLm b hb hb'⟩)
  · intro b hb
    simp only [List.mem_cons, List.mem_append] at hb
    rcases hb with h | h | ((h | h) | h) | h
    · exact .inr ⟨by simp [h], hnot b (by simp [h])⟩
    · exact .inr ⟨by simp [h], hnot b (by simp [h])⟩
    · exact .inr ⟨by simp [h], hnot b (by simp [h])⟩
    · exact .inl h
    · exact .inr ⟨by simp [h], hnot b (by simp [h])⟩
    · exact .inr ⟨by simp [h], hnot b (by simp [h])⟩
theorem wArg_one {t : Ty} {a : TV} {y : den t} {v : Value} {r : Nat} {reg0 : Reg} {L : List Nat} {hk : Heap} (hr : (match a with | .full r => some r | .inn r _ _ => some r | _ => none) = some r) (hd : wDat h t a = some y) (hv : VR w imm ok μ h n a v)
    (hg : hget h r = some reg0) (hR : RR w imm ok μ hk n r reg0 L) (hn : L.Nodup) (hnew : ∀ b, w.heap.size ≤ b → ok b) (hs : ∀ b, imm b → b < w.heap.size) :
    isAg t = false ∧ frT t = true ∧ ∃ Lm, TOC w imm ok true (encT t y) [v] Lm ∧ Lm.Sublist L ∧ ∀ {w' : World} {imm0 : Nat → Prop} {y' : den t} {Lm' : List Nat} {g : Reg} {h' : Heap}, FrL Lm w w' → TOC w' imm0 (okL Lm w) true (encT t y') [v] Lm' → Lm'.Nodup → wNew h t a y' = some g →
      Fit (some reg0) (some g) ∧ ∃ L', RR w' imm ok μ h' n r g L' ∧ L'.Nodup ∧ ∀ b ∈ L', b ∈ Lm' ∨ (b ∈ L ∧ b ∉ Lm) := by
  have one : ∀ {w : World} {imm ok : Nat → Prop} {c : TV} {v : Value} {L : List Nat}, TO1 w imm ok true c v L → TOC w imm ok true [c] [v] L := fun H => ⟨_, [], _, [], rfl, by simp, H, rfl, rfl⟩
  have uno : ∀ {w : World} {imm ok : Nat → Prop} {c : TV} {v : Value} {L : List Nat}, TOC w imm ok true [c] [v] L → TO1 w imm ok true c v L := fun ⟨u, us', L1, L2, e1, e2, H, e3, e4⟩ => by
    subst e3 e4 e2; simp only [List.cons.injEq, and_true] at e1; subst e1; simpa using H
  cases t with
  | sl t1 =>
    refine ⟨rfl, rfl, ?_⟩
    cases a with
    | full r0 =>
      simp only [Option.some.injEq] at hr; subst hr
      simp only [wDat, hg] at hd
      cases reg0 with
      | box cs => cases hd
      | mp k l => cases hd
      | row f t' l =>
        cases f with
        | false => cases hd
        | true =>
          obtain ⟨e, hd⟩ := cast_some hd
          subst e
          subst hd
          simp only [VR, hg] at hv
          obtain ⟨Lm, h1, h2, h3⟩ := full_back (h := hk) (n := n) hv.2 hR hn hnew
          refine ⟨Lm, one h1, h2, fun {w' imm0 y' Lm' g h'} hF hT hn' hw => ?_⟩
          simp only [wNew, Option.some.injEq] at hw; subst hw
          obtain ⟨h4, h5⟩ := h3 (h' := h') hF (uno hT) hn'
          exact ⟨by simp [Fit, h4], h5⟩
    | inn r0 i off =>
      simp only [Option.some.injEq] at hr; subst hr
      simp only [wDat, hg] at hd
      split at hd
      · rename_i t0 l e
        simp only [Option.some.injEq] at e; subst e
        cases he : ((encT t0 (l.getD i (dflt t0))).drop off).headD .undef with
        | tr t2 l2 =>
          rw [he] at hd
          obtain ⟨e, hd⟩ := cast_some hd
          subst e
          subst hd
          simp only [VR, hg] at hv
          obtain ⟨_, _, _, hil, hbk, hcell⟩ := hv
          obtain ⟨Lm, h1, h2, h3⟩ := inn_back (h := hk) (n := n) hil hbk hcell he hR hn hnew hs
          refine ⟨Lm, one h1, h2, fun {w' imm0 y' Lm' g h'} hF hT hn' hw => ?_⟩
          simp only [wNew, hg, Option.map_eq_some_iff] at hw
          obtain ⟨e, he2, rfl⟩ := hw
          exact ⟨by simp [Fit], h3 (h' := h') hF (uno hT) hn' he2⟩
        | _ => rw [he] at hd; cases hd
      · simp at hd
    | _ => simp at hr
  | _ => simp [wDat] at hd
theorem argW_rd {hd : Heap} {I okm : Nat → Prop} (HI : ∀ r x, hget hd r = some x → ∃ L, RR w imm ok μ hd n r x L ∧ ∀ b ∈ L, I b) (hiI : ∀ b, imm b → I b) : ∀ {ps : List (Ty × Bool)} {xs : List TV} {vs : List Value} {x : den (prodT (ps.map (·.1)))}, argW h hd ps xs = some x → VRl w imm ok μ hd n xs vs → ps.all (fun p => !p.2) = true →
    ArgR w I okm ps x vs []
  | [], [], vs, x, ha, H, _ => by simp only [VRl] at H; exact ⟨H, rfl⟩
  | [], _ :: _, _, _, ha, _, _ => by simp [argW] at ha
  | (t, b) :: _, [], _, _, ha, _, _ => by cases b <;> simp [argW] at ha
  | (t, true) :: ps, y :: xs, vs, x, ha, H, hp => by simp at hp
  | (t, false) :: ps, y :: xs, vs, x, ha, H, hp => by
    simp only [argW, Option.bind_eq_some_iff, Option.some.injEq] at ha
    obtain ⟨cs, hcs, d, hd', z, hz, hxe⟩ := ha
    cases hxe
    simp only [VRl] at H
    obtain ⟨u, vs', rfl, h1, h2⟩ := H
    obtain ⟨us, rfl, hv⟩ := cellsOf_vr hcs h1
    simp only [List.all_cons, Bool.not_false, Bool.true_and] at hp
    exact ⟨us, vs', [], [], rfl, rfl, fun _ => ⟨see1_I (ok' := okm) HI hiI hd' hv, rfl⟩, fun e => by simp at e, argW_rd HI hiI hz h2 hp⟩
theorem wcall_args {hd : Heap} (HH : HR w imm ok μ h n []) (hlt : ∀ b, imm b → b < w.heap.size) (hio : ∀ b, imm b → ¬ ok b) (hnew : ∀ b, w.heap.size ≤ b → ok b) {r : Nat} {reg0 : Reg} (hg : hget h r = some reg0) {L : List Nat} (hR : RR w imm ok μ (killH r h) n r reg0 L) (hn : L.Nodup)
    (HI : ∀ r' x, hget hd r' = some x → ∃ L1, RR w imm ok μ hd n r' x L1 ∧ ∀ b ∈ L1, b < w.heap.size ∧ b ∉ L) :
    ∀ {ps : List (Ty × Bool)} {xs : List TV} {vs : List Value} {x : den (prodT (ps.map (·.1)))}, wReg ps xs = some r → argW h hd ps xs = some x → VRl w imm ok μ h n xs vs → VRl w imm ok μ hd n xs vs →
    ∃ Lm, Lm.Sublist L ∧ ArgR w (fun b => b < w.heap.size ∧ b ∉ Lm) (· ∈ Lm) ps x vs Lm ∧ ∀ {w' : World} {imm0 : Nat → Prop} {y : den (prodT (mutT ps))} {Lm' : List Nat} {g : Reg} {h' : Heap}, FrL Lm w w' → MutR w' imm0 (okL Lm w) ps y vs Lm' → Lm'.Nodup → wPut h ps xs y = some g →
      Fit (some reg0) (some g) ∧ ∃ L', RR w' imm ok μ h' n r g L' ∧ L'.Nodup ∧ ∀ b ∈ L', b ∈ Lm' ∨ (b ∈ L ∧ b ∉ Lm)
  | [], _, _, _, hw, _, _, _ => by simp [wReg] at hw
  | (t, b) :: _, [], _, _, hw, _, _, _ => by cases b <;> simp [wReg] at hw
  | (t, false) :: ps, a :: xs, vs, x, hw, ha, H, H2 => by
    simp only [argW, Option.bind_eq_some_iff, Option.some.injEq] at ha
    obtain ⟨cs, hcs, d, hd', z, hz, hxe⟩ := ha
    cases hxe
    simp only [VRl] at H H2
    obtain ⟨u, vs', rfl, h1, h2⟩ := H
    obtain ⟨u', vs'', e, h3, h4⟩ := H2
    simp only [List.cons.injEq] at e
    obtain ⟨rfl, rfl⟩ := e
    obtain ⟨us, rfl, hv⟩ := cellsOf_vr hcs h3
    obtain ⟨Lm, q1, q2, q3⟩ := wcall_args HH hlt hio hnew hg hR hn HI (ps := ps) (by simpa [wReg] using hw) hz h2 h4
    have hLok : ∀ b ∈ Lm, ok b := fun b hb => (RR.blocks hR b (q1.subset hb)).1
    refine ⟨Lm, q1, ⟨us, vs', [], Lm, rfl, rfl, fun _ => ⟨see1_I (I := fun b => b < w.heap.size ∧ b ∉ Lm) (ok' := (· ∈ Lm)) (fun r' x hx => ?_) (fun b hb => ⟨hlt b hb, fun hm => hio b hb (hLok b hm)⟩) hd' hv, rfl⟩, fun e => by simp at e, q2⟩, fun {w' imm0 y Lm' g h'} hF hM hn' hp => q3 (h' := h') hF hM hn' hp⟩
    obtain ⟨L1, k1, k2⟩ := HI r' x hx
    exact ⟨L1, k1, fun b hb => ⟨(k2 b hb).1, fun hm => (k2 b hb).2 (q1.subset hm)⟩⟩
  | (t, true) :: ps, a :: xs, vs, x, hw, ha, H, H2 => by
    simp only [argW, Option.bind_eq_some_iff, Option.some.injEq] at ha
    obtain ⟨d, hd', z, hz, hxe⟩ := ha
    cases hxe
    simp only [VRl] at H H2
    obtain ⟨u, vs', rfl, h1, h2⟩ := H
    obtain ⟨u', vs'', e, h3, h4⟩ := H2
    simp only [List.cons.injEq] at e
    obtain ⟨rfl, rfl⟩ := e
    simp only [wReg] at hw
    obtain ⟨hall, hw⟩ := cond_some.1 hw
    obtain ⟨hag, hfrT, Lm, q1, q2, q3⟩ := wArg_one hw hd' h1 hg hR hn hnew hlt
    have hLok : ∀ b ∈ Lm, ok b := fun b hb => (RR.blocks hR b (q2.subset hb)).1
    have hrest : ArgR w (fun b => b < w.heap.size ∧ b ∉ Lm) (· ∈ Lm) ps z vs' [] := argW_rd (fun r' x hx => by
      obtain ⟨L1, k1, k2⟩ := HI r' x hx
      exact ⟨L1, k1, fun b hb => ⟨(k2 b hb).1, fun hm => (k2 b hb).2 (q2.subset hm)⟩⟩) (fun b hb => ⟨hlt b hb, fun hm => hio b hb (hLok b hm)⟩) hz h4 hall
    refine ⟨Lm, q2, ⟨[u], vs', Lm, [], by simp [valOf, hag], by simp, fun e => by simp at e, fun _ => ?_, hrest⟩, fun {w' imm0 y Lm' g h'} hF hM hn' hp => ?_⟩
    · have : ∀ {cs : List TV} {us : List Value} {L : List Nat}, TOC w imm ok true cs us L → (∀ b ∈ L, b ∈ Lm) → TOC w (fun b => b < w.heap.size ∧ b ∉ Lm) (· ∈ Lm) true cs us L := by
        intro cs
        induction cs with
        | nil => intro us L H _; exact H
        | cons c cs ih =>
          rintro us L ⟨u, us', L1, L2, rfl, rfl, k1, k2⟩ hL
          exact ⟨u, us', L1, L2, rfl, rfl, k1.reok (fun b hb => hL b (by simp [hb])), ih k2 (fun b hb => hL b (by simp [hb]))⟩
      rw [hfrT]; exact this q1 (fun b hb => hb)
    · obtain ⟨us, L1, L2, k1, rfl, k2, k3⟩ := hM
      rw [hfrT] at k2
      have hz2 : L2 = [] := by
        have : ∀ {ps : List (Ty × Bool)} {y : den (prodT (mutT ps))} {vs : List Value} {L : List Nat}, ps.all (fun p => !p.2) = true → MutR w' imm0 (okL Lm w) ps y vs L → L = [] := by
          intro ps
          induction ps with
          | nil => intro _ _ _ _ H; exact H
          | cons p ps ih =>
            obtain ⟨t, b⟩ := p
            intro y vs L hp H
            cases b with
            | true => simp at hp
            | false => exact ih (y := y) (by simpa using hp) H
        exact this hall k3
      subst hz2
      have hul : us = [u] := by
        have := TOC.length' k2
        simp only [List.head?_cons, Option.some.injEq] at k1
        cases t with
        | sl t1 =>
          simp only [encT, List.length_cons, List.length_nil] at this
          match us, this with
          | [u'], _ => simp [valOf, isAg] at k1; rw [k1]
        | _ => simp [wDat] at hd'
      subst hul
      simp only [List.append_nil] at hn' ⊢
      exact q3 (h' := h') hF k2 hn' (by simpa [wPut] using hp)
end
end Go.Tw
namespace Go.Tw
open Go Go.RowKit
variable [Grd]
theorem zc_rep {z : Array Value} (hz : z.size ≠ 0) (n : Nat) : (Builtin.zeroCells z n).toList = (List.replicate n z.toList).flatten := by
  apply List.ext_getElem?
  intro j
  by_cases hj : j < n * z.size
  · rw [rep_flat_get z.toList (by simpa using hz) n j (by simpa using hj)]
    have hm : j % z.size < z.size := Nat.mod_lt _ (by omega)
    simp [Builtin.zeroCells, hj, hm]
  · rw [List.getElem?_eq_none (by simp [Builtin.zeroCells]; omega), List.getElem?_eq_none (by simp; omega)]
theorem setCells_app : ∀ (us vs : List Value) (w : World) (b o : Nat), setCells w b o (us ++ vs) = setCells (setCells w b o us) b (o + us.length) vs
  | [], vs, w, b, o => rfl
  | u :: us, vs, w, b, o => by
    simp only [List.cons_append, setCells, List.length_cons]
    rw [setCells_app us vs, show o + 1 + us.length = o + (us.length + 1) by omega]
section
variable {imm ok : Nat → Prop} {μ : Nat → Mu} {n : Nat}
theorem HR.clear {r : Nat} {fr : Bool} {t : Ty} {d : den t} {z : List Value} (hio : ∀ b, imm b → ¬ ok b) (hsl : hasSl t = false) (hd : dec1 t (z.map .p) = some d) (hz : z.length = sz t) : ∀ (k off : Nat) (l : List (den t)) (w : World) (h : Heap), HR w imm ok μ h n [] → hget h r = some (.row fr t l) → off + k ≤ l.length →
    HR (setCells w (μ r).blk ((μ r).off + off * sz t) (List.replicate k z).flatten) imm ok μ (hset h r (.row fr t (clr d off k l))) n [] ∧
      ∀ xs us, VRl w imm ok μ h n xs us → VRl (setCells w (μ r).blk ((μ r).off + off * sz t) (List.replicate k z).flatten) imm ok μ (hset h r (.row fr t (clr d off k l))) n xs us
  | 0, off, l, w, h, H, hg, _ => by
    have hc : ∀ r', hget (hset h r (.row fr t l)) r' = hget h r' := by
      intro r'; rw [hget_hset]; split
      · subst_vars; exact hg.symm
      · rfl
    simp only [List.replicate_zero, List.flatten_nil, setCells, clr]
    exact ⟨H.congr hc, fun xs us hv => VRl.congr hc hv⟩
  | k + 1, off, l, w, h, H, hg, hle => by
    have he : dec1 t (spl (encT t (l.getD off (dflt t))) 0 (z.map .p)) = some d := by
      have : spl (encT t (l.getD off (dflt t))) 0 (z.map .p) = z.map .p := by
        simp only [spl, List.take_zero, List.nil_append, Nat.zero_add, List.length_map, hz]
        rw [List.drop_of_length_le (by rw [enc_length]; exact Nat.le_refl _)]; simp
      rw [this]; exact hd
    obtain ⟨_, _, h1, kp⟩ := HR.store (K := fun _ => True) (D := []) (D1 := []) (f2 := true) (i := off) (off := 0) (fs := z.map .p) (us := z) hio (by simpa using H) hg (fun _ => hsl) (fun _ _ _ _ => innOkl_true _) (by omega) (by simp [hz]) (CT.pmap z) he
    rw [Bool.and_true] at h1 kp
    obtain ⟨h2, h3⟩ := HR.clear hio hsl hd hz k (off + 1) (l.set off d) _ _ h1 (by rw [hget_hset, if_pos rfl]) (by simp; omega)
    have hc : ∀ r', hget (hset h r (.row fr t (clr d (off + 1) k (l.set off d)))) r' = hget (hset (hset h r (.row fr t (l.set off d))) r (.row fr t (clr d (off + 1) k (l.set off d)))) r' := by
      intro r'; rw [hget_hset, hget_hset, hget_hset]; split <;> rfl
    have hw : setCells w (μ r).blk ((μ r).off + off * sz t) (List.replicate (k + 1) z).flatten = setCells (setCells w (μ r).blk ((μ r).off + off * sz t + 0) z) (μ r).blk ((μ r).off + (off + 1) * sz t) (List.replicate k z).flatten := by
      rw [List.replicate_succ, List.flatten_cons, setCells_app, Nat.add_zero, hz]
      congr 1; rw [Nat.succ_mul]; omega
    rw [hw]
    exact ⟨h2.congr hc, fun xs us hv => VRl.congr hc (h3 xs us (VRl.mono kp _ _ (innOkl_true _) hv))⟩
end
theorem SR.of_VRl {w w' : World} {imm ok : Nat → Prop} {μ : Nat → Mu} {h h' : Heap} {n : Nat} (H : ∀ xs us, VRl w imm ok μ h n xs us → VRl w' imm ok μ h' n xs us) {s : List (Nat × TV)} {us : Array Value} (hs : SR w imm ok μ h n s us) : SR w' imm ok μ h' n s us := by
  intro t
  have := H [sget s t] [us.getD t undef] (by simp only [VRl]; exact ⟨_, _, rfl, hs t, rfl⟩)
  simp only [VRl] at this
  obtain ⟨_, _, e, h1, _⟩ := this
  simp only [List.cons.injEq] at e
  rw [e.1]; exact h1
theorem isClear_some {op : Op} {cl : Call} (h : isClear op = some cl) : op = .call cl ∧ cl.callee = .builtin .clear := by
  unfold isClear at h
  split at h
  · split at h
    · simp only [Option.some.injEq] at h; subst h; exact ⟨rfl, by assumption⟩
    · simp at h
  · simp at h
section
variable {c : Cx} {σ : St} {a : Act} {w w' : World} {o : Oper} {s' : List (Nat × TV)} {h' : Heap}
theorem ok_clear (hs : Sim c σ a w) {cl : Call} {x : Operand} (ho : o.op = .call cl) (hcl : cl.callee = .builtin .clear) (hargs : cl.args.toList = [x]) (hx : clearS c.P cl (ev σ.s x) σ.h = some h') (hput : sput c.m o.dst (.tup []) σ.s = some s') : OpOk c o a w ⟨s', h', σ.n⟩ := by
  obtain ⟨hfr, hdf, hsz, μ, hH, hl, hgs⟩ := id hs
  have hv := SR.evl hl x
  have ha : cl.args = #[x] := by rw [← Array.toList_inj]; exact hargs
  unfold clearS at hx
  split at hx
  · rename_i size bytes z e ht he
    obtain ⟨hb, hx1⟩ := cond_some.1 hx
    clear hx
    simp only [Bool.and_eq_true, Bool.not_eq_true'] at hb
    obtain ⟨hb1, hsl⟩ := hb
    have hes : sz e = size := Nat.eq_of_beq_eq_true hb1
    simp only [Option.bind_eq_some_iff] at hx1
    obtain ⟨d, hd, hx⟩ := hx1
    cases hat : cl.argTypes[0]? with
    | none => simp [hat] at ht
    | some tt =>
      simp only [hat, Option.bind_some] at ht
      obtain ⟨el, i, zv, hu, hi, hz, rfl, rfl, rfl, hzl, hs0, hb0, hzone⟩ := tsl_some ht
      have hzsz : zv.cells.size ≠ 0 := by simpa using (show zv.cells.toList.length ≠ 0 by rw [hzl]; exact hs0)
      have run0 : ∀ {v : Value}, a.eval x = v → ∀ {w1}, (Builtin.clear_ cl.argTypes o.type #[v]).run c.P w = .ok (.tuple #[]) w1 → (execOp a.eval o).run c.P w = .ok (.value (.tuple #[])) w1 := by
        rintro v rfl w1 h
        simp [execOp, ho, resolve, hcl, invoke, builtin, ha, h]
      have main : ∀ {r off len : Nat} {fr : Bool} {l : List (den e)}, hget σ.h r = some (.row fr e l) → off + len ≤ l.length → SlR w (μ r) (sz e) off len (a.eval x) → OpOk c o a w ⟨s', hset σ.h r (.row fr e (clr d off len l)), σ.n⟩ := by
        intro r off len fr l hg hle hS
        have hcl := HR.clear (imm := c.imm) c.immok hsl hd (by rw [hzl, hes]) len off l w σ.h hH hg hle
        rcases Nat.eq_zero_or_pos len with h0 | hp
        · subst h0
          simp only [List.replicate_zero, List.flatten_nil, setCells] at hcl
          have hrun : (Builtin.clear_ cl.argTypes o.type #[a.eval x]).run c.P w = .ok (.tuple #[]) w := by
            rcases hS with ⟨h1, _⟩ | ⟨o', cap, h1, _⟩ <;> simp [Builtin.clear_, hat, h1, underlying, hu]
          exact ⟨_, _, run0 rfl hrun, fun e => (by simp [ho, hcl, stillB, ‹cl.callee = _›] at e), .inl ⟨_, rfl, Sim.put hfr hdf hsz hcl.1 (SR.of_VRl hcl.2 hl) (hcl.2 _ _ hgs) (by simp [VR, VRl]) hput⟩⟩
        · rcases hS with ⟨_, h1⟩ | ⟨o', cap, h1, h2, h3, h4, h5⟩
          · omega
          obtain ⟨ho', h6⟩ := h5 (by omega)
          obtain ⟨L0, hR0⟩ := hH.row hg
          obtain ⟨_, _, hob, hrow, _⟩ := hR0.rowd h3
          have hmul : (off + len) * sz e ≤ l.length * sz e := Nat.mul_le_mul_right _ hle
          rw [Nat.add_mul] at hmul
          have hfl : (List.replicate len zv.cells.toList).flatten.length = len * sz e := by simp [hes, ← hzl]
          have hst : (storeCells ⟨(μ r).blk, o', none⟩ (Builtin.zeroCells zv.cells len).toList).run c.P w = .ok () (setCells w (μ r).blk ((μ r).off + off * sz e) (List.replicate len zv.cells.toList).flatten) := by
            rw [zc_rep hzsz]
            have := run_storeCells c.P (List.replicate len zv.cells.toList).flatten w (μ r).blk o' 0 (by rw [hfl, ho']; exact hrow.le (by omega)) (fun u hu => by
              simp only [List.mem_flatten, List.mem_replicate] at hu
              obtain ⟨y, ⟨_, rfl⟩, hu⟩ := hu
              exact List.all_eq_true.1 hzone u hu)
            rw [Nat.add_zero, ho'] at this
            rw [ho']; exact this
          have hrun : (Builtin.clear_ cl.argTypes o.type #[a.eval x]).run c.P w = .ok (.tuple #[]) (setCells w (μ r).blk ((μ r).off + off * sz e) (List.replicate len zv.cells.toList).flatten) := by
            cases len with
            | zero => omega
            | succ m => simp [Builtin.clear_, hat, h1, underlying, hu, zeroValue, typeInfo, hi, hz, hst]
          exact ⟨_, _, run0 rfl hrun, fun e => (by simp [ho, hcl, stillB, ‹cl.callee = _›] at e), .inl ⟨_, rfl, Sim.put (hfr.set _ hob) hdf hsz hcl.1 (SR.of_VRl hcl.2 hl) (hcl.2 _ _ hgs) (by simp [VR, VRl]) hput⟩⟩
      split at hx
      · rename_i r hq
        rw [hq] at hv
        split at hx
        · rename_i fr t l hg
          simp only [Option.map_eq_some_iff] at hx
          obtain ⟨l', hc, rfl⟩ := hx
          obtain ⟨rfl, rfl⟩ := cast_some hc
          simp only [VR, hg] at hv
          exact main hg (by omega) hv.2
        · simp at hx
      · rename_i r off len hq
        rw [hq] at hv
        split at hx
        · rename_i fr t l hg
          simp only [Option.map_eq_some_iff] at hx
          obtain ⟨l', hc, rfl⟩ := hx
          obtain ⟨rfl, rfl⟩ := cast_some hc
          simp only [VR, hg] at hv
          exact main hg hv.2.1 hv.2.2
        · simp at hx
      · rename_i hq
        rw [hq] at hv
        simp only [Option.some.injEq] at hx; subst hx
        have hrun : (Builtin.clear_ cl.argTypes o.type #[.slice none 0 0]).run c.P w = .ok (.tuple #[]) w := by
          simp [Builtin.clear_, hat, underlying, hu]
        exact ⟨_, _, run0 hv.p_eq hrun, fun e => (by simp [ho, hcl, stillB] at e), .inl ⟨_, rfl, Sim.put hfr hdf hsz hH hl hgs (by simp [VR, VRl]) hput⟩⟩
      · simp at hx
  · simp at hx
end
end Go.Tw
namespace Go.Tw
open Go Go.RowKit
variable [Grd]
theorem cget_mem : ∀ {F : List Con} {f : FuncId} {xs : List TV} {cn : Con}, cget F f xs = some cn → cn ∈ F ∧ cn.f = f
  | [], f, xs, cn, h => by simp [cget] at h
  | c :: cs, f, xs, cn, h => by
    simp only [cget] at h
    cases hb : Nat.beq f c.f && fitB c.ps xs with
    | true =>
      simp only [hb, cond_true, Option.some.injEq] at h; subst h
      simp only [Bool.and_eq_true] at hb
      exact ⟨by simp, (Nat.eq_of_beq_eq_true hb.1).symm⟩
    | false => simp only [hb, cond_false] at h; obtain ⟨h1, h2⟩ := cget_mem h; exact ⟨by simp [h1], h2⟩
section
variable {c : Cx} {σ : St} {a : Act} {w w' : World} {o : Oper} {ρ : Type} {F : List Con} {r : ρ}
theorem wp_of_ok {K' : Act → World → Prop} {Q : Exit → Act → World → Prop} {σ' : St} (h : OpOk c o a w σ') (hK : ∀ a' w', Sim c σ' a' w' → K' a' w') : o.wp c.P a w K' Q := by
  obtain ⟨nx, w', hr, _, h⟩ := h
  unfold Oper.wp
  rw [hr]
  rcases h with ⟨v, rfl, hs⟩ | ⟨rfl, hs⟩
  · exact hK _ _ hs
  · exact hK _ _ hs
theorem FrL.below {w w' : World} (h : FrL [] w w') : Below w.heap.size w w' := ⟨h.os, h.tape, h.output, h.size, fun k hk => h.block k hk (by simp)⟩
theorem okL_nil {w : World} {b : Nat} (h : okL [] w b) : w.heap.size ≤ b := by rcases h with h | h; simp at h; exact h
theorem TOC.reok {imm imm' ok ok' : Nat → Prop} : ∀ {cs : List TV} {us : List Value} {L : List Nat}, (∀ b ∈ L, ok' b) → TOC w imm ok true cs us L → TOC w imm' ok' true cs us L
  | [], _, _, _, H => H
  | c :: cs, us, L, hL, H => by
    obtain ⟨u, us', L1, L2, rfl, rfl, k1, k2⟩ := H
    exact ⟨u, us', L1, L2, rfl, rfl, k1.reok (fun b hb => hL b (by simp [hb])), TOC.reok (fun b hb => hL b (by simp [hb])) k2⟩
theorem ResO.reok {imm imm' ok ok' : Nat → Prop} : ∀ {ts : List Ty} {x : den (prodT ts)} {vs : List Value} {L : List Nat}, (∀ b ∈ L, ok' b) → ResO w imm ok true ts x vs L → ResO w imm' ok' true ts x vs L
  | [], _, _, _, _, H => H
  | t :: ts, x, vs, L, hL, H => by
    obtain ⟨us, vs', L1, L2, rfl, rfl, k1, k2⟩ := H
    exact ⟨us, vs', L1, L2, rfl, rfl, k1.reok (fun b hb => hL b (by simp [hb])), ResO.reok (fun b hb => hL b (by simp [hb])) k2⟩
theorem MutR.blocks {imm ok : Nat → Prop} : ∀ {ps : List (Ty × Bool)} {y : den (prodT (mutT ps))} {vs : List Value} {L : List Nat}, MutR w imm ok ps y vs L → ∀ b ∈ L, ok b
  | [], _, _, _, H, b, hb => by rw [H] at hb; simp at hb
  | (t, false) :: ps, y, vs, L, H, b, hb => MutR.blocks (ps := ps) (y := y) H b hb
  | (t, true) :: ps, y, vs, L, H, b, hb => by
    obtain ⟨us, L1, L2, _, rfl, k1, k2⟩ := H
    rcases List.mem_append.1 hb with h | h
    · exact (TOC.blocks k1 b h).1
    · exact MutR.blocks k2 b h
theorem FrL.fr {c : Cx} {Lm : List Nat} (h : FrL Lm w w') (hf : Fr c w) (hok : ∀ b ∈ Lm, c.ok b) : Fr c w' :=
  ⟨h.os.trans hf.os, h.tape.trans hf.tape, h.output.trans hf.output, Nat.le_trans hf.size h.size, fun k hk ho => (h.block k (Nat.lt_of_lt_of_le hk hf.size) (fun hm => ho (hok k hm))).trans (hf.block k hk ho), fun b m hr => h.row b m (hf.row b m hr)⟩
theorem HR.moved {imm ok : Nat → Prop} {μ : Nat → Mu} {h : Heap} {n : Nat} {D D' : List Nat} (H : HR w imm ok μ h n D) (hs : Step imm w w') (hw : ∀ k, k ∉ D → k < w.heap.size → w'.heap[k]? = w.heap[k]?) (hn : D'.Nodup) (hD : ∀ b ∈ D', b ∈ D ∨ w.heap.size ≤ b) :
    HR w' imm ok μ h n D' ∧ Kept (fun _ => True) imm imm ok ok w w' μ μ h h n n := by
  obtain ⟨own, H, h1, h2⟩ := H
  have key : ∀ r x L, RR w imm ok μ h n r x L → (∀ b ∈ L, own b = some r) → ∀ b ∈ L, w'.heap[b]? = w.heap[b]? := by
    intro r x L hR ho b hb
    refine hw b (fun hd => ?_) (RR.blocks hR b hb).2
    have := h2 b hd; rw [ho b hb] at this; simp at this
  have hk : Kept (fun _ => True) imm imm ok ok w w' μ μ h h n n := by
    refine ⟨hs, fun _ h => h, fun _ h => h, fun _ _ => rfl, Nat.le_refl _, fun _ _ => Fit.refl _, ?_⟩
    intro r fr t l _ _ hg _ hbk
    obtain ⟨_, L, hR, _, ho⟩ := H r _ hg
    exact key r _ L hR ho _ (hR.blk hbk)
  refine ⟨⟨fun b => if w.heap.size ≤ b then none else own b, fun r x hx => ?_, hn, fun b hb => ?_⟩, hk⟩
  · obtain ⟨ha, L, hR, hn, ho⟩ := H r x hx
    refine ⟨ha, L, RR.mono hk ha (innOkR_true _) (key r x L hR ho) hR, hn, fun b hb => ?_⟩
    have := (RR.blocks hR b hb).2
    show (if w.heap.size ≤ b then none else own b) = some r
    rw [if_neg (by omega)]; exact ho b hb
  · show (if w.heap.size ≤ b then none else own b) = none
    split
    · rfl
    · rcases hD b hb with h3 | h3
      · exact h2 b h3
      · omega
theorem callM_ok {cn : Con} (hcon : ConOk c.P cn) {s s2 s' : List (Nat × TV)} {h h2 : Heap} {n : Nat} (hs : Sim c ⟨s, h, n⟩ a w) {μ : Nat → Mu} (hH : HR w c.imm c.ok μ h n []) (hl : SR w c.imm c.ok μ h n s a.tmps) (hgs : VRl w c.imm c.ok μ h n c.gs c.gv)
    {xs : List TV} {vals : List Value} (hall : VRl w c.imm c.ok μ h n xs vals) (hown : cn.rm.isMv = true) {r : Nat} {x : den (prodT (cn.ps.map (·.1)))} {y} (hr : wReg cn.ps xs = some r) (hrow : isRow (hget h r) = true)
    (hh : ∀ r', hget h2 r' = hget (hdel (killH r h) r) r') (hs2 : ∀ t, sget s2 t = sget (killS r s) t) (hx : argW h h2 cn.ps xs = some x) (hy : cn.m x = some y) (hput : sput c.m o.dst (retT (opnL true cn.rs y.1 h2 n).1) s2 = some s') :
    Calls c.P cn.f vals.toArray w fun e w' => ∃ rv, e = .returned rv ∧ Sim c ⟨s', (opnL true cn.rs y.1 h2 n).2.1, (opnL true cn.rs y.1 h2 n).2.2⟩ (a.put o.dst rv) w' := by
  have hlt := hs.lt
  have hnew := hs.new
  have hio := c.immok
  have HK := HR.kill r hH
  cases hg : hget h r with
  | none => rw [hg] at hrow; cases hrow
  | some reg0 =>
    cases reg0 with
    | box cs => rw [hg] at hrow; cases hrow
    | mp k l => rw [hg] at hrow; cases hrow
    | row f0 t0 l0 =>
      have hgk : hget (killH r h) r = some (.row f0 t0 l0) := by rw [hget_killH, hg]; rfl
      obtain ⟨L, hR, hn, _, hoth, _⟩ := HR.rewrite HK hgk
      obtain ⟨L0, hR0, HD1⟩ := HR.detach HK hgk
      have HD0 := HR.congr hh HD1
      have hsub : ∀ r' x, hget h2 r' = some x → hget (killH r h) r' = some x := fun r' x hx => hsub_hdel (by rw [← hh]; exact hx)
      have hn0 : L0.Nodup := by have := HD0.nodup; simpa using this
      have HI : ∀ r' x, hget h2 r' = some x → ∃ L1, RR w c.imm c.ok μ h2 n r' x L1 ∧ ∀ b ∈ L1, b < w.heap.size ∧ b ∉ L0 := by
        intro r' x hx
        obtain ⟨L1, k1, k2⟩ := HR.rowI HD0 r' x hx
        exact ⟨L1, k1, fun b hb => ⟨(k2 b hb).1, by simpa using (k2 b hb).2⟩⟩
      have H2 : VRl w c.imm c.ok μ h2 n xs vals := VRl.mono (Kept.sub hsub) _ _ (innOkl_true _) (VRl.mono (Kept.kill r) _ _ (innOkl_true _) hall)
      obtain ⟨Lm, q1, q2, q3⟩ := wcall_args hH hlt hio hnew hg hR0 hn0 HI hr hx hall H2
      have hLok : ∀ b ∈ Lm, c.ok b := fun b hb => (RR.blocks hR0 b (q1.subset hb)).1
      refine (hcon.2 w (fun b => b < w.heap.size ∧ b ∉ Lm) vals x Lm y (fun b hb => hb) ⟨fun g hg => ⟨hlt g (c.gG g hg), fun hm => hio g (c.gG g hg) (RR.blocks hR0 g (q1.subset hm)).1⟩, hs.fr.gJ⟩ (hn0.sublist q1) q2 hy).mono ?_
      rintro e w' ⟨vs, Lr, Lm', he, hF, hres, hM, hnd⟩
      obtain ⟨hn1, hn2, hn3⟩ := List.nodup_append.1 hnd
      have hrm : cn.rm = .mv := by
        cases hrm : cn.rm with
        | mv => rfl
        | mix bs => rw [hrm] at hown; simp [RM.isMv] at hown
        | bor => rw [hrm] at hown; simp [RM.isMv] at hown
        | own fr => rw [hrm] at hown; simp [RM.isMv] at hown
      rw [hrm] at hres
      have hres : ResO w' (fun b => b < w.heap.size ∧ b ∉ Lm) (okL Lm w) true cn.rs y.1 vs Lr := hres
      have hLr : ∀ b ∈ Lr, b ∈ Lm ∨ w.heap.size ≤ b := fun b hb => (hres.blocks b hb).1
      have hstep : Step c.imm w w' := ⟨fun b hb => hF.block b (hlt b hb) (fun hm => hio b hb (hLok b hm)), hF.row⟩
      obtain ⟨H1, kp⟩ := HR.moved (D' := Lr ++ []) HD0 hstep (fun k hk hkl => hF.block k hkl (fun hm => hk (by simp [q1.subset hm]))) (by simpa using hn1) (fun b hb => by
        rcases hLr b (by simpa using hb) with h3 | h3
        · exact .inl (by simp [q1.subset h3])
        · exact .inr h3)
      have hl3 : SR w' c.imm c.ok μ h2 n s2 a.tmps := fun t => by rw [hs2]; exact SR.mono kp (SR.mono (Kept.sub hsub) (SR.killed r hl)) t
      have hgs3 : VRl w' c.imm c.ok μ h2 n c.gs c.gv := vrl_gs kp c (vrl_gs (Kept.sub hsub) c (vrl_gs (Kept.kill r) c hgs))
      have hres' : ResO w' c.imm c.ok true cn.rs y.1 vs Lr := hres.reok (fun b hb => by
        rcases hLr b hb with h3 | h3
        · exact hLok b h3
        · exact hnew b h3)
      obtain ⟨μ', b1, b2, b3, b4, b5⟩ := opnL_ok hres' H1
      have kpo : Kept (fun _ => True) c.imm c.imm c.ok c.ok w' w' μ μ' h2 (opnL true cn.rs y.1 h2 n).2.1 n (opnL true cn.rs y.1 h2 n).2.2 := Kept.opened b1 b4 b5
      obtain ⟨hfr, hd, hsz, _⟩ := id hs
      exact ⟨retV vs, he, Sim.put (hF.fr hfr hLok) hd hsz b2 (SR.mono kpo hl3) (vrl_gs kpo c hgs3) (ret_vr b3) hput⟩
theorem argB_ok {imm ok : Nat → Prop} {μ : Nat → Mu} {h : Heap} {n : Nat} {cs : List TV} {us : List Value} {r : Nat} (hg : hget h r = some (.box cs)) (hcs : flatB cs = true) (hrow : Row w (μ r).blk ((μ r).off + cs.length)) (hus : VRl w imm ok μ h n cs us) (hat : At w (μ r).blk (μ r).off us) :
    ∀ {ps : List (Ty × Bool)} {xs : List TV} {vs : List Value} {x : den (prodT (ps.map (·.1)))}, wBox ps xs = some r → argB h ps xs = some x → flatX ps xs = true → VRl w imm ok μ h n xs vs →
    ArgR w imm (· ∈ [(μ r).blk]) ps x vs [(μ r).blk] ∧ ∀ {w' : World} {imm' ok' : Nat → Prop} {y : den (prodT (mutT ps))} {g : Reg} {Lm' : List Nat}, MutR w' imm' ok' ps y vs Lm' → boxPut ps y = some g →
      Lm' = [(μ r).blk] ∧ ∃ t z us', g = .box (encT t z) ∧ Row w' (μ r).blk ((μ r).off + (encT t z).length) ∧ TRl w' imm' ok' t z us' [] ∧ At w' (μ r).blk (μ r).off us'
  | [], _, _, _, hw, _, _, _ => by simp [wBox] at hw
  | (t, b) :: _, [], _, _, hw, _, _, _ => by cases b <;> cases t <;> simp [wBox] at hw
  | (t, false) :: ps, a :: xs, vs, x, hw, ha, hf, H => by
    simp only [argB, Option.bind_eq_some_iff, Option.some.injEq] at ha
    obtain ⟨cs', hcs', d, hd', z, hz, hxe⟩ := ha
    cases hxe
    simp only [VRl] at H
    obtain ⟨u, vs', rfl, h1, h2⟩ := H
    simp only [flatX, Bool.and_eq_true] at hf
    obtain ⟨xs1, rfl, hv⟩ := cellsOf_vr hcs' h1
    rw [cellsOf_clist hcs'] at hf
    obtain ⟨q1, q2⟩ := argB_ok hg hcs hrow hus hat (ps := ps) (by simpa [wBox] using hw) hz hf.2 h2
    have hT : TRl w imm (· ∈ [(μ r).blk]) t d xs1 [] := see1_I (h := []) (μ := μ) (n := n) (ok := ok) (fun r x hx => by simp [hget] at hx) (fun _ h => h) hd' (FVl.vrl (μ := μ) (h := []) (n := n) _ _ (FVl.of _ _ hf.1 hv))
    refine ⟨⟨xs1, vs', [], _, rfl, rfl, fun _ => ⟨hT, rfl⟩, fun e => by simp at e, q1⟩, fun hM hp => ?_⟩
    exact q2 (by simpa [MutR] using hM) (by simpa [boxPut] using hp)
  | (t, true) :: ps, a :: xs, vs, x, hw, ha, hf, H => by
    cases t with
    | ref t =>
      simp only [wBox] at hw
      obtain ⟨hall, hw⟩ := cond_some.1 hw
      split at hw
      · rename_i r' h0
        simp only [Option.some.injEq] at hw; subst hw
        simp only [argB, hg, Option.bind_eq_some_iff, Option.some.injEq] at ha
        obtain ⟨d, hd, z, hz, hxe⟩ := ha
        cases hxe
        simp only [VRl] at H
        obtain ⟨u, vs', rfl, h1, h2⟩ := H
        simp only [VR, hg] at h1
        obtain ⟨_, A, rfl, hA⟩ := h1
        simp only [Nat.add_zero] at hA; subst hA
        simp only [flatX] at hf
        have rest : ∀ {ps : List (Ty × Bool)} {xs : List TV} {vs : List Value} {x : den (prodT (ps.map (·.1)))}, argB h ps xs = some x → ps.all (fun p => !p.2) = true → flatX ps xs = true → VRl w imm ok μ h n xs vs → ArgR w imm (· ∈ [(μ r').blk]) ps x vs [] := by
          intro ps
          induction ps with
          | nil =>
            intro xs vs x ha _ _ H
            cases xs with
            | nil => simp only [VRl] at H; exact ⟨H, rfl⟩
            | cons => simp [argB] at ha
          | cons p ps ih =>
            intro xs vs x ha hp hf H
            obtain ⟨t, b⟩ := p
            cases b with
            | true => simp at hp
            | false =>
              cases xs with
              | nil => simp [argB] at ha
              | cons a xs =>
                simp only [argB, Option.bind_eq_some_iff, Option.some.injEq] at ha
                obtain ⟨cs', hcs', d, hd', z, hz, hxe⟩ := ha
                cases hxe
                simp only [VRl] at H
                obtain ⟨u, vs', rfl, h1, h2⟩ := H
                simp only [flatX, Bool.and_eq_true] at hf
                obtain ⟨xs1, rfl, hv⟩ := cellsOf_vr hcs' h1
                rw [cellsOf_clist hcs'] at hf
                have hT : TRl w imm (· ∈ [(μ r').blk]) t d xs1 [] := see1_I (h := []) (μ := μ) (n := n) (ok := ok) (fun r x hx => by simp [hget] at hx) (fun _ h => h) hd' (FVl.vrl (μ := μ) (h := []) (n := n) _ _ (FVl.of _ _ hf.1 hv))
                exact ⟨xs1, vs', [], [], rfl, rfl, fun _ => ⟨hT, rfl⟩, fun e => by simp at e, ih hz (by simpa using hp) hf.2 h2⟩
        have hd1 : TRl w imm ok t d us [] := CT.dec1 hd (CT.of_vrl hcs hus)
        have hlen : sz t = cs.length := by rw [← hd1.length, hus.length]
        have hd2 : TRl w (immf false imm) (· ∈ [(μ r').blk]) t d us [] := TRl.reok (fun b hb => ⟨rfl, hb⟩) (by simp) hd1
        refine ⟨⟨[.pointer (some ⟨(μ r').blk, (μ r').off, none⟩)], vs', [(μ r').blk], [], by simp [valOf, isAg], by simp, fun e => by simp at e, fun _ => ?_, rest hz hall hf h2⟩, fun {w' imm' ok' y g Lm'} hM hp => ?_⟩
        · exact ⟨_, [], [(μ r').blk], [], rfl, by simp, ⟨rfl, rfl, d, _, _, us, rfl, rfl, rfl, by simp, by rw [hlen]; exact hrow, hd2, hat⟩, rfl, rfl⟩
        · obtain ⟨us1, L1, L2, k1, rfl, k2, k3⟩ := hM
          have hz2 : L2 = [] := by
            have : ∀ {ps : List (Ty × Bool)} {y : den (prodT (mutT ps))} {vs : List Value} {L : List Nat}, ps.all (fun p => !p.2) = true → MutR w' imm' ok' ps y vs L → L = [] := by
              intro ps
              induction ps with
              | nil => intro _ _ _ _ H; exact H
              | cons p ps ih =>
                obtain ⟨t, b⟩ := p
                intro y vs L hp H
                cases b with
                | true => simp at hp
                | false => exact ih (y := y) (by simpa using hp) H
            exact this hall k3
          subst hz2
          obtain ⟨u1, us1', La, Lb, rfl, rfl, ⟨_, _, z2, b2, o2, us2, e1, rfl, rfl, _, g2, g3, g4⟩, rfl, rfl⟩ := k2
          simp only [encT, List.cons.injEq, and_true] at e1
          simp only [List.head?_cons, Option.some.injEq, valOf, isAg, List.headD_cons, Bool.false_eq_true, ↓reduceIte, Value.pointer.injEq, Addr.mk.injEq, and_true] at k1
          obtain ⟨rfl, rfl⟩ := k1
          simp only [boxPut, Option.some.injEq] at hp; subst hp
          refine ⟨by simp, t, z2, us2, congrArg (fun z => Reg.box (encT t z)) (List.cons.inj e1).1, by rw [enc_length]; exact g2, ?_, g4⟩
          exact g3.mono (fun _ h => h.2) (fun _ h => h) (fun _ _ => rfl) (by simp)
      · simp at hw
    | _ => simp [wBox] at hw
theorem callB_ok {cn : Con} (hcon : ConOk c.P cn) {s s' : List (Nat × TV)} {h : Heap} {n : Nat} (hs : Sim c ⟨s, h, n⟩ a w) {μ : Nat → Mu} (hH : HR w c.imm c.ok μ h n []) (hl : SR w c.imm c.ok μ h n s a.tmps) (hgs : VRl w c.imm c.ok μ h n c.gs c.gv)
    {xs : List TV} {vals : List Value} (hall : VRl w c.imm c.ok μ h n xs vals) (hmv : cn.rm.isMv = false) {r : Nat} {x : den (prodT (cn.ps.map (·.1)))} {y} {g : Reg} (hr : wBox cn.ps xs = some r) (hbox : flatBox (hget h r) = true) (hfx : flatX cn.ps xs = true)
    (hx : argB h cn.ps xs = some x) (hy : cn.m x = some y) (hp : boxPut cn.ps y.2 = some g) (hput : sput c.m o.dst (opnR cn.rm cn.rs y.1 (hset h r g) n).1 s = some s') :
    Calls c.P cn.f vals.toArray w fun e w' => ∃ rv, e = .returned rv ∧ Sim c ⟨s', (opnR cn.rm cn.rs y.1 (hset h r g) n).2.1, (opnR cn.rm cn.rs y.1 (hset h r g) n).2.2⟩ (a.put o.dst rv) w' := by
  have hlt := hs.lt
  have hnew := hs.new
  have hio := c.immok
  cases hg : hget h r with
  | none => rw [hg] at hbox; cases hbox
  | some reg0 =>
    cases reg0 with
    | row _ _ _ => rw [hg] at hbox; cases hbox
    | mp k l => rw [hg] at hbox; cases hbox
    | box cs =>
      rw [hg] at hbox
      have hbox : flatB cs = true := hbox
      obtain ⟨L, hR, hn, _, hoth, hre⟩ := HR.rewrite hH hg
      have hR' := hR
      simp only [RR] at hR'
      obtain ⟨rfl, p1, p2, us, p3, p4⟩ := hR'
      obtain ⟨q1, q2⟩ := argB_ok hg hbox p2 p3 p4 hr hx hfx hall
      refine (hcon.2 w c.imm vals x [(μ r).blk] y (fun b hb => ⟨hlt b hb, fun hm => hio b hb (by simp at hm; subst hm; exact p1)⟩) ⟨c.gG, hs.fr.gJ⟩ (by simp) q1 hy).mono ?_
      rintro e w' ⟨vs, Lr, Lm', he, hF, hres, hM, hnd⟩
      have hM : MutR w' c.imm (okL [(μ r).blk] w) cn.ps y.2 vals Lm' := by
        unfold MutM at hM
        cases hrm : cn.rm with
        | mv => rw [hrm] at hmv; simp [RM.isMv] at hmv
        | own fr => rw [hrm] at hM; exact hM
        | bor => rw [hrm] at hM; exact hM
        | mix bs => rw [hrm] at hM; exact hM
      obtain ⟨rfl, t, z, us', rfl, g2, g3, g4⟩ := q2 hM hp
      obtain ⟨hn1, hn2, hn3⟩ := List.nodup_append.1 hnd
      have hok : ∀ b, okL [(μ r).blk] w b → c.ok b := fun b hb => by
        rcases hb with h3 | h3
        · simp at h3; subst h3; exact p1
        · exact hnew b h3
      have hstep : Step c.imm w w' := ⟨fun b hb => hF.block b (hlt b hb) (fun hm => hio b hb (by simp at hm; subst hm; exact p1)), hF.row⟩
      have hLr : ∀ b ∈ Lr, b ≠ (μ r).blk ∧ w.heap.size ≤ b := by
        have hblk : ∀ b ∈ Lr, okL [(μ r).blk] w b := by
          unfold ResM at hres
          cases hrm : cn.rm with
          | own fr => rw [hrm] at hres; exact fun b hb => (hres.blocks b hb).1
          | bor => rw [hrm] at hres; obtain ⟨_, rfl⟩ := hres; simp
          | mv => rw [hrm] at hres; exact fun b hb => (ResO.blocks hres b hb).1
          | mix bs => rw [hrm] at hres; exact fun b hb => (ResX.blocks hres b hb).1
        intro b hb
        have hne : b ≠ (μ r).blk := fun e => hn3 b hb _ (by simp) e
        rcases hblk b hb with h3 | h3
        · simp at h3; exact absurd h3 hne
        · exact ⟨hne, h3⟩
      obtain ⟨H1, kp⟩ := hre (w' := w') (x' := .box (encT t z)) (K := fun _ => True) (L' := [(μ r).blk]) (by simp [Fit]) hstep (fun b hb hbl => hF.block b hb (fun hm => hbl hm)) (fun _ _ _ _ e => by cases e) (fun _ _ _ _ => innOkl_true _) (by simp)
        (fun kp => by
          simp only [RR]
          exact ⟨trivial, p1, g2, us', (g3.mono (fun _ h => h) (fun b hb => hok b hb) (fun _ _ => rfl) (by simp)).toCT.vrl, g4⟩) (by simp) (fun b hb => .inl hb) (E := Lr) hn1 (fun b hb => ⟨by simp [(hLr b hb).1], .inr (hLr b hb).2⟩)
      have hl3 : SR w' c.imm c.ok μ (hset h r (.box (encT t z))) n s a.tmps := SR.mono kp hl
      have hgs3 : VRl w' c.imm c.ok μ (hset h r (.box (encT t z))) n c.gs c.gv := vrl_gs kp c hgs
      have hLok : ∀ b ∈ [(μ r).blk], c.ok b := fun b hb => by simp at hb; subst hb; exact p1
      obtain ⟨hfr, hd, hsz, _⟩ := id hs
      unfold ResM at hres
      have own : ∀ {fr : Bool}, ResO w' c.imm (okL [(μ r).blk] w) fr cn.rs y.1 vs Lr → sput c.m o.dst (retT (opnL fr cn.rs y.1 (hset h r (.box (encT t z))) n).1) s = some s' →
          Sim c ⟨s', (opnL fr cn.rs y.1 (hset h r (.box (encT t z))) n).2.1, (opnL fr cn.rs y.1 (hset h r (.box (encT t z))) n).2.2⟩ (a.put o.dst (retV vs)) w' := by
        intro fr hres hput
        have hres' : ResO w' c.imm c.ok fr cn.rs y.1 vs Lr := hres.mono (fun _ h => h) hok (fun _ _ => rfl) (fun _ _ => rfl)
        obtain ⟨μ', b1, b2, b3, b4, b5⟩ := opnL_ok hres' H1
        have kpo : Kept (fun _ => True) c.imm c.imm c.ok c.ok w' w' μ μ' (hset h r (.box (encT t z))) (opnL fr cn.rs y.1 (hset h r (.box (encT t z))) n).2.1 n (opnL fr cn.rs y.1 (hset h r (.box (encT t z))) n).2.2 := Kept.opened b1 b4 b5
        exact Sim.put (hF.fr hfr hLok) hd hsz b2 (SR.mono kpo hl3) (vrl_gs kpo c hgs3) (ret_vr b3) hput
      refine ⟨retV vs, he, ?_⟩
      cases hrm : cn.rm with
      | mv => rw [hrm] at hmv; simp [RM.isMv] at hmv
      | own fr => rw [hrm] at hres hput; exact own hres hput
      | mix bs =>
        rw [hrm] at hres hput
        have hres' : ResX w' c.imm c.ok bs cn.rs y.1 vs Lr := ResX.mono (fun _ h => h) hok (fun _ _ => rfl) (fun _ _ => rfl) hres
        obtain ⟨μ', b1, b2, b3, b4, b5⟩ := opnX_ok hres' H1
        have kpo : Kept (fun _ => True) c.imm c.imm c.ok c.ok w' w' μ μ' (hset h r (.box (encT t z))) (opnX bs cn.rs y.1 (hset h r (.box (encT t z))) n).2.1 n (opnX bs cn.rs y.1 (hset h r (.box (encT t z))) n).2.2 := Kept.opened b1 b4 b5
        exact Sim.put (hF.fr hfr hLok) hd hsz b2 (SR.mono kpo hl3) (vrl_gs kpo c hgs3) (ret_vr b3) hput
      | bor =>
        rw [hrm] at hres hput
        obtain ⟨hres, rfl⟩ := hres
        have hres' : ResB w' c.imm c.ok cn.rs y.1 vs := hres.mono (fun _ h => h) hok (fun _ _ => rfl)
        exact Sim.put (hF.fr hfr hLok) hd hsz H1 hl3 hgs3 (ret_vr (valL_vr hres')) hput
theorem callW_ok {cn : Con} (hcon : ConOk c.P cn) {s s2 s' : List (Nat × TV)} {h h2 h3 : Heap} {n : Nat} (hs : Sim c ⟨s, h, n⟩ a w) {μ : Nat → Mu} (hH : HR w c.imm c.ok μ h n []) (hl : SR w c.imm c.ok μ h n s a.tmps) (hgs : VRl w c.imm c.ok μ h n c.gs c.gv)
    {xs : List TV} {vals : List Value} (hall : VRl w c.imm c.ok μ h n xs vals) (hown : cn.rm.isOwnF = true) {r : Nat} {x : den (prodT (cn.ps.map (·.1)))} {y} {g : Reg} (hr : wReg cn.ps xs = some r) (hrow : isRow (hget h r) = true)
    (hh : ∀ r', hget h2 r' = hget (hdel (killH r h) r) r') (hs2 : ∀ t, sget s2 t = sget (killS r s) t) (hx : argW h h2 cn.ps xs = some x) (hy : cn.m x = some y) (hp : wPut h cn.ps xs y.2 = some g) (hh3 : ∀ r', hget h3 r' = hget (killH r (hset h r g)) r') (hput : sput c.m o.dst (opnR cn.rm cn.rs y.1 h3 n).1 s2 = some s') :
    Calls c.P cn.f vals.toArray w fun e w' => ∃ rv, e = .returned rv ∧ Sim c ⟨s', (opnR cn.rm cn.rs y.1 h3 n).2.1, (opnR cn.rm cn.rs y.1 h3 n).2.2⟩ (a.put o.dst rv) w' := by
  have hlt := hs.lt
  have hnew := hs.new
  have hio := c.immok
  have HK := HR.kill r hH
  cases hg : hget h r with
  | none => rw [hg] at hrow; cases hrow
  | some reg0 =>
    cases reg0 with
    | box cs => rw [hg] at hrow; cases hrow
    | mp k l => rw [hg] at hrow; cases hrow
    | row f0 t0 l0 =>
      have hgk : hget (killH r h) r = some (.row f0 t0 l0) := by rw [hget_killH, hg]; rfl
      obtain ⟨L, hR, hn, _, hoth, hre⟩ := HR.rewrite HK hgk
      have hsub : ∀ r' x, hget h2 r' = some x → hget (killH r h) r' = some x := fun r' x hx => hsub_hdel (by rw [← hh]; exact hx)
      have HI : ∀ r' x, hget h2 r' = some x → ∃ L1, RR w c.imm c.ok μ h2 n r' x L1 ∧ ∀ b ∈ L1, b < w.heap.size ∧ b ∉ L := by
        intro r' x hx
        have hx' := hsub r' x hx
        have hne : r' ≠ r := by rintro rfl; rw [hh, hget_hdel] at hx; simp at hx
        obtain ⟨L1, k1, k2⟩ := hoth r' x hne hx'
        exact ⟨L1, RR.mono (K := fun _ => True) (Kept.sub hsub) (HR.lt HK hx') (innOkR_true _) (fun _ _ => rfl) k1, k2⟩
      have H2 : VRl w c.imm c.ok μ h2 n xs vals := VRl.mono (Kept.sub hsub) _ _ (innOkl_true _) (VRl.mono (Kept.kill r) _ _ (innOkl_true _) hall)
      obtain ⟨Lm, q1, q2, q3⟩ := wcall_args hH hlt hio hnew hg hR hn HI hr hx hall H2
      have hLok : ∀ b ∈ Lm, c.ok b := fun b hb => (RR.blocks hR b (q1.subset hb)).1
      refine (hcon.2 w (fun b => b < w.heap.size ∧ b ∉ Lm) vals x Lm y (fun b hb => hb) ⟨fun g hg => ⟨hlt g (c.gG g hg), fun hm => hio g (c.gG g hg) (hLok g hm)⟩, hs.fr.gJ⟩ (hn.sublist q1) q2 hy).mono ?_
      rintro e w' ⟨vs, Lr, Lm', he, hF, hres, hM, hnd⟩
      obtain ⟨hn1, hn2, hn3⟩ := List.nodup_append.1 hnd
      have hrm : cn.rm = .own true := by
        cases hrm : cn.rm with
        | bor => rw [hrm] at hown; simp [RM.isOwnF] at hown
        | mv => rw [hrm] at hown; simp [RM.isOwnF] at hown
        | mix bs => rw [hrm] at hown; simp [RM.isOwnF] at hown
        | own fr => rw [hrm] at hown; cases fr with
          | true => rfl
          | false => simp [RM.isOwnF] at hown
      rw [hrm] at hM
      have hM : MutR w' (fun b => b < w.heap.size ∧ b ∉ Lm) (okL Lm w) cn.ps y.2 vals Lm' := hM
      obtain ⟨hfit, L', hR', hn', hL'⟩ := q3 (h' := hset (killH r h) r g) hF hM hn2 hp
      have hLm' : ∀ b ∈ Lm', b ∈ L ∨ w.heap.size ≤ b := fun b hb => by
        rcases hM.blocks b hb with h3 | h3
        · exact .inl (q1.subset h3)
        · exact .inr h3
      rw [hrm] at hres
      have hres : ResO w' (fun b => b < w.heap.size ∧ b ∉ Lm) (okL Lm w) true cn.rs y.1 vs Lr := hres
      have hLr : ∀ b ∈ Lr, b ∈ Lm ∨ w.heap.size ≤ b := fun b hb => (hres.blocks b hb).1
      have hstep : Step c.imm w w' := ⟨fun b hb => hF.block b (hlt b hb) (fun hm => hio b hb (hLok b hm)), hF.row⟩
      obtain ⟨H1, kp⟩ := hre (w' := w') (x' := g) (K := (· ≠ r)) (L' := L') hfit hstep (fun b hb hbl => hF.block b hb (fun hm => hbl (q1.subset hm))) (fun _ _ _ hk => absurd rfl hk) (fun r' cs hne hcs => by
            rw [hget_killH, Option.map_eq_some_iff] at hcs
            obtain ⟨z, _, hz⟩ := hcs
            cases z with
            | row => simp at hz
            | mp => simp at hz
            | box cs' => simp only [Reg.box.injEq] at hz; subst hz; exact innOkl_kill r _) (by simp) (fun _ => hR') hn' (fun b hb => by
            rcases hL' b hb with h3 | ⟨h3, _⟩
            · exact hLm' b h3
            · exact .inl h3) (E := Lr) hn1 (fun b hb => by
            refine ⟨fun hb' => ?_, ?_⟩
            · rcases hL' b hb' with h3 | ⟨h3, h4⟩
              · exact hn3 b hb b h3 rfl
              · rcases hLr b hb with h5 | h5
                · exact h4 h5
                · have := (RR.blocks hR b h3).2; omega
            · rcases hLr b hb with h5 | h5
              · exact .inl (q1.subset h5)
              · exact .inr h5)
      have hgrow : ∃ f1 t1 l1, g = .row f1 t1 l1 := by
        cases g with
        | row f1 t1 l1 => exact ⟨_, _, _, rfl⟩
        | box cs => simp [Fit] at hfit
        | mp => simp [Fit] at hfit
      obtain ⟨f1, t1, l1, rfl⟩ := hgrow
      have hcong : ∀ r', hget h3 r' = hget (hset (killH r h) r (.row f1 t1 l1)) r' := by
        intro r'
        rw [hh3, hget_killH, hget_hset, hget_hset]
        split
        · rfl
        · rw [hget_killH]
      have H3 : HR w' c.imm c.ok μ h3 n (Lr ++ []) := H1.congr hcong
      have hl3 : SR w' c.imm c.ok μ h3 n s2 a.tmps := fun t => by rw [hs2]; exact SR.congr hcong (SR.monoK (K := (· ≠ r)) kp (fun t => by rw [sget_killS]; exact innOk_kill r _) (SR.killed r hl)) t
      have hgs3 : VRl w' c.imm c.ok μ h3 n c.gs c.gv := VRl.congr hcong (vrl_gs kp c (vrl_gs (Kept.kill r) c hgs))
      have hres' : ResO w' c.imm c.ok true cn.rs y.1 vs Lr := hres.reok (fun b hb => by
        rcases hLr b hb with h3 | h3
        · exact hLok b h3
        · exact hnew b h3)
      rw [hrm] at hput ⊢
      obtain ⟨μ', b1, b2, b3, b4, b5⟩ := opnL_ok hres' H3
      have kpo : Kept (fun _ => True) c.imm c.imm c.ok c.ok w' w' μ μ' h3 (opnL true cn.rs y.1 h3 n).2.1 n (opnL true cn.rs y.1 h3 n).2.2 := Kept.opened b1 b4 b5
      obtain ⟨hfr, hd, hsz, _⟩ := id hs
      exact ⟨retV vs, he, Sim.put (hF.fr hfr hLok) hd hsz b2 (SR.mono kpo hl3) (vrl_gs kpo c hgs3) (ret_vr b3) hput⟩
end
section
variable {w : World} {imm ok : Nat → Prop} {μ : Nat → Mu} {h : Heap} {n : Nat} {K : Nat → Prop}
mutual
theorem VR.noI : ∀ (x : TV) (v : Value), VR w imm ok μ h n x v → VR w imm ok μ h n (Tw.noI x) v
  | .inn _ _ _, v, _ => by simp [Tw.noI, VR]
  | .agg cs, v, H => by simp only [Tw.noI, VR] at H ⊢; obtain ⟨us, h1, h2⟩ := H; exact ⟨us, h1, VRl.noI cs us h2⟩
  | .tup cs, v, H => by simp only [Tw.noI, VR] at H ⊢; obtain ⟨us, h1, h2⟩ := H; exact ⟨us, h1, VRl.noI cs us h2⟩
  | .ifc t x, v, H => by simp only [Tw.noI, VR] at H ⊢; obtain ⟨u, h1, h2⟩ := H; exact ⟨u, h1, VR.noI x u h2⟩
  | .fn f fi ca, v, H => by simp only [Tw.noI, VR] at H ⊢; obtain ⟨us, vs, h1, h2, h3⟩ := H; exact ⟨us, vs, h1, VRl.noI fi us h2, VRl.noI ca vs h3⟩
  | .p _, v, H => H
  | .tr _ _, v, H => H
  | .full _, v, H => H
  | .sub _ _ _, v, H => H
  | .ptr _ _ _, v, H => H
  | .iptr _ _ _ _, v, H => H
  | .mp _, v, H => H
  | .undef, v, H => H
theorem VRl.noI : ∀ (xs : List TV) (us : List Value), VRl w imm ok μ h n xs us → VRl w imm ok μ h n (noIL xs) us
  | [], us, H => H
  | x :: xs, us, H => by
    simp only [noIL, VRl] at H ⊢
    obtain ⟨u, us', h1, h2, h3⟩ := H
    exact ⟨u, us', h1, VR.noI x u h2, VRl.noI xs us' h3⟩
end
mutual
theorem innOk_noI : ∀ x, innOk K (noI x)
  | .inn _ _ _ => trivial
  | .agg cs => by simp only [noI, innOk]; exact innOkl_noI cs
  | .tup cs => by simp only [noI, innOk]; exact innOkl_noI cs
  | .ifc t x => by simp only [noI, innOk]; exact innOk_noI x
  | .fn f fi ca => by simp only [noI, innOk]; exact ⟨innOkl_noI fi, innOkl_noI ca⟩
  | .p _ => trivial
  | .tr _ _ => trivial
  | .full _ => trivial
  | .sub _ _ _ => trivial
  | .ptr _ _ _ => trivial
  | .iptr _ _ _ _ => trivial
  | .mp _ => trivial
  | .undef => trivial
theorem innOkl_noI : ∀ xs, innOkl K (noIL xs)
  | [] => trivial
  | x :: xs => ⟨innOk_noI x, innOkl_noI xs⟩
end
theorem sget_noI : ∀ (s : List (Nat × TV)) (t : Nat), sget (noIS s) t = noI (sget s t)
  | [], t => rfl
  | (k, x) :: s, t => by
    simp only [noIS, sget]
    cases Nat.beq t k with
    | true => rfl
    | false => exact sget_noI s t
theorem innOkl_map {f : Nat → TV} (hf : ∀ t, innOk K (f t)) : ∀ l : List Nat, innOkl K (l.map f)
  | [] => trivial
  | t :: l => ⟨hf t, innOkl_map hf l⟩
theorem innOkl_app : ∀ {xs ys : List TV}, innOkl K xs → innOkl K ys → innOkl K (xs ++ ys)
  | [], ys, _, h => h
  | x :: xs, ys, h1, h2 => ⟨h1.1, innOkl_app h1.2 h2⟩
theorem VRl_map {f : Nat → TV} {g : Nat → Value} : ∀ {l : List Nat}, (∀ t ∈ l, VR w imm ok μ h n (f t) (g t)) → VRl w imm ok μ h n (l.map f) (l.map g)
  | [], _ => by simp [VRl]
  | t :: l, H => by simp only [List.map_cons, VRl]; exact ⟨_, _, rfl, H t (by simp), VRl_map fun u hu => H u (by simp [hu])⟩
theorem VRl_of_map {f : Nat → TV} {g : Nat → Value} : ∀ {l : List Nat}, VRl w imm ok μ h n (l.map f) (l.map g) → ∀ t ∈ l, VR w imm ok μ h n (f t) (g t)
  | [], _, t, ht => by simp at ht
  | u :: l, H, t, ht => by
    simp only [List.map_cons, VRl] at H
    obtain ⟨v, vs, e, h1, h2⟩ := H
    simp only [List.cons.injEq] at e
    obtain ⟨rfl, rfl⟩ := e
    rcases List.mem_cons.1 ht with rfl | ht
    · exact h1
    · exact VRl_of_map h2 t ht
theorem sget_keys : ∀ (s : List (Nat × TV)) (t : Nat), t ∉ s.map (·.1) → sget s t = .undef
  | [], t, _ => rfl
  | (k, x) :: s, t, h => by
    simp only [List.map_cons, List.mem_cons, not_or] at h
    rw [sget_cons, if_neg h.1]; exact sget_keys s t h.2
end
def InlOk (P : Program) (N : Inl) : Prop := ∀ (c : Cx), c.P = P → ∀ (ρ : Type) (f : FuncId) (xs : List TV) (h : Heap) (n : Nat) (K : TV → Heap → Nat → Option ρ) (r : ρ), N ρ f xs h n K = some r → callable P f = true ∧
  ∀ (w : World) (vals : List Value) (μ : Nat → Mu), Fr c w → HR w c.imm c.ok μ h n [] → VRl w c.imm c.ok μ h n xs vals → VRl w c.imm c.ok μ h n c.gs c.gv →
    Calls P f vals.toArray w fun e w' => ∃ rv v h' n' μ', e = .returned rv ∧ K v h' n' = some r ∧ Fr c w' ∧ HR w' c.imm c.ok μ' h' n' [] ∧ VR w' c.imm c.ok μ' h' n' v rv ∧ VRl w' c.imm c.ok μ' h' n' c.gs c.gv
section
variable {w : World} {imm ok : Nat → Prop} {μ : Nat → Mu} {h : Heap} {n r : Nat}
theorem flatRow_some (hf : flatRow (hget h r) = true) : ∃ f t l, hget h r = some (.row f t l) ∧ hasSl t = false := by
  cases hg : hget h r with
  | none => rw [hg] at hf; cases hf
  | some x =>
    cases x with
    | row f t l => rw [hg] at hf; exact ⟨f, t, l, rfl, by simpa [flatRow] using hf⟩
    | box cs => rw [hg] at hf; cases hf
    | mp k l => rw [hg] at hf; cases hf
theorem flatRow_isRow (hf : flatRow (hget h r) = true) : isRow (hget h r) = true := by
  obtain ⟨f, t, l, e, _⟩ := flatRow_some hf
  rw [e]; rfl
mutual
theorem VR.flat_kill (hf : flatRow (hget h r) = true) : ∀ (x : TV) (v : Value), VR w imm ok μ h n x v → kill r x = x
  | .inn r' i off, v, H => by
    simp only [kill]
    cases hb : Nat.beq r' r with
    | false => rfl
    | true =>
      have e : r' = r := Nat.eq_of_beq_eq_true hb
      subst e
      obtain ⟨f, t, l, e, hs⟩ := flatRow_some hf
      simp only [VR, e] at H
      rw [hs] at H
      exact absurd H.2.2.1 (by simp)
  | .agg cs, v, H => by
    simp only [VR] at H
    obtain ⟨us, _, H⟩ := H
    simp only [kill, VRl.flat_kill hf cs us H]
  | .tup cs, v, H => by
    simp only [VR] at H
    obtain ⟨us, _, H⟩ := H
    simp only [kill, VRl.flat_kill hf cs us H]
  | .ifc t x, v, H => by
    simp only [VR] at H
    obtain ⟨u, _, H⟩ := H
    simp only [kill, VR.flat_kill hf x u H]
  | .fn f fi ca, v, H => by
    simp only [VR] at H
    obtain ⟨us, vs, _, H1, H2⟩ := H
    simp only [kill, VRl.flat_kill hf fi us H1, VRl.flat_kill hf ca vs H2]
  | .p _, v, H => rfl
  | .tr _ _, v, H => rfl
  | .full _, v, H => rfl
  | .sub _ _ _, v, H => rfl
  | .ptr _ _ _, v, H => rfl
  | .iptr _ _ _ _, v, H => rfl
  | .mp _, v, H => rfl
  | .undef, v, H => rfl
theorem VRl.flat_kill (hf : flatRow (hget h r) = true) : ∀ (xs : List TV) (us : List Value), VRl w imm ok μ h n xs us → killL r xs = xs
  | [], us, H => rfl
  | x :: xs, us, H => by
    simp only [VRl] at H
    obtain ⟨u, us', _, H1, H2⟩ := H
    simp only [killL, VR.flat_kill hf x u H1, VRl.flat_kill hf xs us' H2]
end
theorem flat_hget {D : List Nat} (hf : flatRow (hget h r) = true) (HH : HR w imm ok μ h n D) (r' : Nat) : hget (killH r h) r' = hget h r' := by
  rw [hget_killH]
  cases hg : hget h r' with
  | none => rfl
  | some x =>
    cases x with
    | row f t l => rfl
    | mp k l => rfl
    | box cs =>
      obtain ⟨L, hR⟩ := HH.row hg
      simp only [RR] at hR
      obtain ⟨_, _, _, us, hus, _⟩ := hR
      simp only [Option.map_some, VRl.flat_kill hf cs us hus]
theorem flat_hdel {D : List Nat} (hf : flatRow (hget h r) = true) (HH : HR w imm ok μ h n D) (r' : Nat) : hget (hdel h r) r' = hget (hdel (killH r h) r) r' := by
  rw [hget_hdel, hget_hdel, flat_hget hf HH]
theorem flat_hset {D : List Nat} {g : Reg} (hf : flatRow (hget h r) = true) (hg : isRow (some g) = true) (HH : HR w imm ok μ h n D) (r' : Nat) : hget (hset h r g) r' = hget (killH r (hset h r g)) r' := by
  rw [hget_killH, hget_hset]
  split
  · cases g with
    | row f t l => rfl
    | box cs => cases hg
    | mp k l => cases hg
  · have := flat_hget hf HH r'
    rw [hget_killH] at this
    exact this.symm
theorem flat_sget {s : List (Nat × TV)} {us : Array Value} (hf : flatRow (hget h r) = true) (HS : SR w imm ok μ h n s us) (t : Nat) : sget s t = sget (killS r s) t := by
  rw [sget_killS, VR.flat_kill hf _ _ (HS t)]
end
theorem wPut_row {h : Heap} : ∀ {ps : List (Ty × Bool)} {xs : List TV} {y : den (prodT ((ps.filter (·.2)).map (·.1)))} {g : Reg}, wPut h ps xs y = some g → isRow (some g) = true
  | [], _, _, _, H => by simp [wPut] at H
  | (t, b) :: _, [], _, _, H => by cases b <;> simp [wPut] at H
  | (t, false) :: ps, x :: xs, y, g, H => wPut_row (ps := ps) (by simpa [wPut] using H)
  | (t, true) :: ps, x :: xs, y, g, H => by
    simp only [wPut] at H
    unfold wNew at H
    split at H
    · simp only [Option.some.injEq] at H; subst H; rfl
    · split at H
      · simp only [Option.map_eq_some_iff] at H
        obtain ⟨_, _, rfl⟩ := H; rfl
      · simp at H
    · simp at H
theorem callable_run {P : Program} {k : FuncId} {o : Oper} {cl : Call} {ρ : Operand → Value} {us vs : List Value} {fo : Operand} {w : World} (hcallable : callable P k = true) (ho : o.op = .call cl) (hcallee : cl.callee = .value fo) (hfx : ρ fo = .func (.func k) us.toArray vs.toArray) :
    (execOp ρ o).run P w = .ok (.enter k (us ++ cl.args.toList.map ρ ++ vs).toArray) w := by
  unfold callable at hcallable
  split at hcallable
  · rename_i fn hfn
    simp only [bne_iff_ne, ne_eq, Bool.and_eq_true] at hcallable
    have hbody : fn.body.isNone = false := by cases hb : fn.body <;> simp_all
    have harr : us.toArray ++ (cl.args.map ρ ++ vs.toArray) = (us ++ (cl.args.toList.map ρ ++ vs)).toArray := by apply Array.ext'; simp
    have hnn : fn.body ≠ none := by intro hb; rw [hb] at hbody; simp at hbody
    simp [execOp, ho, resolve, hcallee, hfx, Deferred.ofValue, invoke, callFunc, hfn, hcallable.1, hnn, harr]
  · simp at hcallable
section
variable {c : Cx} {σ : St} {a : Act} {w w' : World} {o : Oper} {ρ : Type} {F : List Con} {N : Inl} {r : ρ}
theorem evOp_ok (hN : InlOk c.P N) (hF : ∀ cn ∈ F, ConOk c.P cn) {s : List (Nat × TV)} {h : Heap} {n : Nat} (hs : Sim c ⟨s, h, n⟩ a w) {K : St → Option ρ} (hev : evOp c.P c.m F N o s h n K = some r) {K' : Act → World → Prop} {Q : Exit → Act → World → Prop}
    (hK : ∀ σ' a' w', K σ' = some r → Sim c σ' a' w' → K' a' w') : o.wp c.P a w K' Q := by
  have plain : ((ex c.P o.op (ev s) h n).bind fun A => (sput c.m o.dst A.v (match A.k with | some r => killS r s | none => s)).bind fun s => bif A.c then K ⟨s, A.h, A.n⟩ else none) = some r → o.wp c.P a w K' Q := by
    intro hev
    simp only [Option.bind_eq_some_iff] at hev
    obtain ⟨A, hA, s', hput, hev⟩ := hev
    obtain ⟨hc, hev⟩ := cond_some.1 hev
    exact wp_of_ok (ex_ok (σ := ⟨s, h, n⟩) hs o hA hc hput) fun a' w' hs' => hK _ _ _ hev hs'
  unfold evOp at hev
  split at hev
  · rename_i cl ho
    cases hic : isCall (.call cl) with
    | false =>
      rw [ho] at hev; simp only [hic, cond_false] at hev
      split at hev
      · rename_i cl2 hcl2
        obtain ⟨e1, e2⟩ := isClear_some hcl2
        cases e1
        simp only [Option.bind_eq_some_iff] at hev
        obtain ⟨x, hx, h2, hh2, s', hput, hev⟩ := hev
        have hargs : cl.args.toList = [x] := by
          split at hx
          · rename_i y hy; simp only [Option.some.injEq] at hx; subst hx; exact hy
          · simp at hx
        exact wp_of_ok (ok_clear (σ := ⟨s, h, n⟩) hs ho e2 hargs hh2 hput) fun a' w' hs' => hK _ _ _ hev hs'
      · rw [← ho] at hev; exact plain hev
    | true =>
      rw [ho] at hev
      simp only [hic, cond_true, Option.bind_eq_some_iff] at hev
      obtain ⟨⟨f, xs⟩, hcal, hev⟩ := hev
      split at hev
      ·
        rename_i hcn
        simp only at hcn hev
        have hlt := hs.lt
        obtain ⟨hfr, hd, hsz, μ, hH, hl, hgs⟩ := id hs
        simp only at hH hl hgs
        unfold calleeOf at hcal
        split at hcal
        · rename_i fo hcallee
          split at hcal
          · rename_i k fi ca hq
            simp only [Option.some.injEq, Prod.mk.injEq] at hcal
            obtain ⟨rfl, rfl⟩ := hcal
            have hvx := SR.evl hl fo
            rw [hq] at hvx
            simp only [VR] at hvx
            obtain ⟨us, vs, hfx, hus, hvs⟩ := hvx
            have hall : VRl w c.imm c.ok μ h n (fi ++ cl.args.toList.map (ev s) ++ ca) (us ++ cl.args.toList.map a.eval ++ vs) := VRl.append (VRl.append hus (SR.map hl _)) hvs
            let ks := s.map (·.1)
            let c2 : Cx := { P := c.P, m := c.m, w0 := c.w0, imm := c.imm, ok := c.ok, immlt := c.immlt, immok := c.immok, oknew := c.oknew, gs := c.gs ++ ks.map (sget (noIS s)), gv := c.gv ++ ks.map (fun t => a.tmps.getD t undef), gin := innOkl_app c.gin (innOkl_map (fun t => by rw [sget_noI]; exact innOk_noI _) _), gG := c.gG, gJ := c.gJ }
            obtain ⟨hcallable, hcall⟩ := hN c2 rfl _ _ _ _ _ _ _ hev
            have hrun := callable_run (w := w) hcallable ho hcallee hfx
            have hfr2 : Fr c2 w := ⟨hfr.os, hfr.tape, hfr.output, hfr.size, hfr.block, hfr.row⟩
            have hg2 : VRl w c2.imm c2.ok μ h n c2.gs c2.gv := VRl.append hgs (VRl_map fun t _ => by rw [sget_noI]; exact VR.noI _ _ (hl t))
            unfold Oper.wp
            rw [hrun]
            refine (hcall w _ μ hfr2 hH hall hg2).mono ?_
            rintro e w' ⟨rv, v, h', n', μ', rfl, hK2, hfr3, hH3, hv3, hg3⟩
            simp only [Option.bind_eq_some_iff] at hK2
            obtain ⟨s', hput, hfin⟩ := hK2
            have hgl : c.gs.length = c.gv.length := hgs.length
            have e1 := hg3.take c.gs.length
            have e2 := hg3.drop c.gs.length
            have t1 : (c2.gs.take c.gs.length) = c.gs := by simp [c2]
            have t2 : (c2.gv.take c.gs.length) = c.gv := by simp [c2, hgl]
            have t3 : (c2.gs.drop c.gs.length) = ks.map (sget (noIS s)) := by simp [c2]
            have t4 : (c2.gv.drop c.gs.length) = ks.map (fun t => a.tmps.getD t undef) := by simp [c2, hgl]
            rw [t1, t2] at e1
            rw [t3, t4] at e2
            have hsl : SR w' c.imm c.ok μ' h' n' (noIS s) a.tmps := by
              intro t
              by_cases ht : t ∈ ks
              · exact VRl_of_map e2 t ht
              · have : sget (noIS s) t = .undef := by rw [sget_noI, sget_keys s t ht]; rfl
                rw [this]; simp [VR]
            exact hK _ _ _ hfin (Sim.put ⟨hfr3.os, hfr3.tape, hfr3.output, hfr3.size, hfr3.block, hfr3.row⟩ hd hsz hH3 hsl e1 hv3 hput)
          · simp at hcal
        · simp at hcal
      rename_i cn hcn
      simp only at hcn hev
      cases hmu : cn.ps.all (fun x => !x.2) with
      | true =>
        simp only [hmu, cond_true] at hev
        obtain ⟨hfl, hev⟩ := cond_some.1 hev
        simp only [Option.bind_eq_some_iff] at hev
        obtain ⟨x, hx, y, hy, s', hput, hfin⟩ := hev
        obtain ⟨hmem, hf⟩ := cget_mem hcn
        try simp only at hf hx hfl
        have hlt := hs.lt
        have hnew := hs.new
        obtain ⟨hfr, hd, hsz, μ, hH, hl, hgs⟩ := id hs
        simp only at hH hl hgs
        unfold calleeOf at hcal
        split at hcal
        · rename_i fo hcallee
          split at hcal
          · rename_i k fi ca hq
            simp only [Option.some.injEq, Prod.mk.injEq] at hcal
            obtain ⟨rfl, rfl⟩ := hcal
            have hvx := SR.evl hl fo
            rw [hq] at hvx
            simp only [VR] at hvx
            obtain ⟨us, vs, hfx, hus, hvs⟩ := hvx
            have hall : VRl w c.imm c.ok μ h n (fi ++ cl.args.toList.map (ev s) ++ ca) (us ++ cl.args.toList.map a.eval ++ vs) := VRl.append (VRl.append hus (SR.map hl _)) hvs
            obtain ⟨hcallable, hcon⟩ := hF cn hmem
            rw [hf] at hcallable hcon
            have hrun : (execOp a.eval o).run c.P w = .ok (.enter k (us ++ cl.args.toList.map a.eval ++ vs).toArray) w := by
              unfold callable at hcallable
              split at hcallable
              · rename_i fn hfn
                simp only [bne_iff_ne, ne_eq, Bool.and_eq_true] at hcallable
                have hbody : fn.body.isNone = false := by cases hb : fn.body <;> simp_all
                have harr : us.toArray ++ (cl.args.map a.eval ++ vs.toArray) = (us ++ (cl.args.toList.map a.eval ++ vs)).toArray := by apply Array.ext'; simp
                have hnn : fn.body ≠ none := by intro hb; rw [hb] at hbody; simp at hbody
                simp [execOp, ho, resolve, hcallee, hfx, Deferred.ofValue, invoke, callFunc, hfn, hcallable.1, hnn, harr]
              · simp at hcallable
            obtain ⟨harg1, harg2⟩ := argL_ok hH hlt hx hall hmu
            have hcalls : Calls c.P k (us ++ cl.args.toList.map a.eval ++ vs).toArray w fun e w' => ∃ vs L, e = .returned (retV vs) ∧ Below w.heap.size w w' ∧ ResM w' c.imm (fun b => w.heap.size ≤ b) cn.rm cn.rs y.1 vs L ∧ L.Nodup := by
              cases hfa : flatA (fi ++ cl.args.toList.map (ev s) ++ ca) with
              | true =>
                refine (hcon w c.imm _ x [] y (fun b hb => ⟨hlt b hb, by simp⟩) ⟨c.gG, hs.fr.gJ⟩ (by simp) (harg2 hfa) hy).mono ?_
                rintro e w' ⟨vs, L, Lm', he, h1, h2, h3, h4⟩
                refine ⟨vs, L, he, h1.below, ?_, (List.nodup_append.1 h4).1⟩
                unfold ResM at h2 ⊢
                split at h2
                · exact h2.mono (fun _ h => h) (fun b hb => okL_nil hb) (fun _ _ => rfl) (fun _ _ => rfl)
                · exact ⟨h2.1.mono (fun _ h => h) (fun b hb => okL_nil hb) (fun _ _ => rfl), h2.2⟩
                · exact h2.mono (fun _ h => h) (fun b hb => okL_nil hb) (fun _ _ => rfl) (fun _ _ => rfl)
                · exact ResX.mono (fun _ h => h) (fun b hb => okL_nil hb) (fun _ _ => rfl) (fun _ _ => rfl) h2
              | false =>
                have hown : cn.rm = .own true := by
                  simp only [hfa, Bool.or_false] at hfl
                  cases hrm : cn.rm with
                  | bor => rw [hrm] at hfl; simp [RM.isOwnF] at hfl
                  | mv => rw [hrm] at hfl; simp [RM.isOwnF] at hfl
                  | mix bs => rw [hrm] at hfl; simp [RM.isOwnF] at hfl
                  | own fr => rw [hrm] at hfl; cases fr with
                    | true => rfl
                    | false => simp [RM.isOwnF] at hfl
                refine (hcon w (· < w.heap.size) _ x [] y (fun b hb => ⟨hb, by simp⟩) ⟨fun g hg => hlt g (c.gG g hg), hs.fr.gJ⟩ (by simp) harg1 hy).mono ?_
                rintro e w' ⟨vs, L, Lm', he, h1, h2, h3, h4⟩
                refine ⟨vs, L, he, h1.below, ?_, (List.nodup_append.1 h4).1⟩
                rw [hown] at h2 ⊢
                exact ResO.mono (fun b hb => by simp [immf] at hb) (fun b hb => okL_nil hb) (fun _ _ => rfl) (fun _ _ => rfl) h2
            unfold Oper.wp
            rw [hrun]
            refine hcalls.mono ?_
            rintro e w' ⟨rvs, L, rfl, hbw, hres, hnd⟩
            have hfr' := hfr.below hbw
            have kpw := hH.kept_quiet hbw hlt (Nat.le_refl _)
            unfold ResM at hres
            cases hrm : cn.rm with
            | own fr =>
              rw [hrm] at hres hput hfin
              simp only at hres
              have hok : ∀ b ∈ L, w.heap.size ≤ b := fun b hb => (hres.blocks b hb).1
              have H1 : HR w' c.imm c.ok μ h n (L ++ []) := hH.fresh hbw hlt hnd hok (by simp)
              have hres' : ResO w' c.imm c.ok fr cn.rs y.1 rvs L := hres.mono (fun _ h => h) (fun b hb => hnew b hb) (fun _ _ => rfl) (fun _ _ => rfl)
              obtain ⟨μ', b1, b2, b3, b4, b5⟩ := opnL_ok hres' H1
              have kpo : Kept (fun _ => True) c.imm c.imm c.ok c.ok w' w' μ μ' h (opnL fr cn.rs y.1 h n).2.1 n (opnL fr cn.rs y.1 h n).2.2 := Kept.opened b1 b4 b5
              exact hK _ _ _ hfin (Sim.put hfr' hd hsz b2 (SR.mono kpo (SR.mono kpw hl)) (vrl_gs kpo c (vrl_gs kpw c hgs)) (ret_vr b3) hput)
            | mv =>
              rw [hrm] at hres hput hfin
              simp only at hres
              have hok : ∀ b ∈ L, w.heap.size ≤ b := fun b hb => (hres.blocks b hb).1
              have H1 : HR w' c.imm c.ok μ h n (L ++ []) := hH.fresh hbw hlt hnd hok (by simp)
              have hres' : ResO w' c.imm c.ok true cn.rs y.1 rvs L := hres.mono (fun _ h => h) (fun b hb => hnew b hb) (fun _ _ => rfl) (fun _ _ => rfl)
              obtain ⟨μ', b1, b2, b3, b4, b5⟩ := opnL_ok hres' H1
              have kpo : Kept (fun _ => True) c.imm c.imm c.ok c.ok w' w' μ μ' h (opnL true cn.rs y.1 h n).2.1 n (opnL true cn.rs y.1 h n).2.2 := Kept.opened b1 b4 b5
              exact hK _ _ _ hfin (Sim.put hfr' hd hsz b2 (SR.mono kpo (SR.mono kpw hl)) (vrl_gs kpo c (vrl_gs kpw c hgs)) (ret_vr b3) hput)
            | mix bs =>
              rw [hrm] at hres hput hfin
              simp only at hres
              have hok : ∀ b ∈ L, w.heap.size ≤ b := fun b hb => (ResX.blocks hres b hb).1
              have H1 : HR w' c.imm c.ok μ h n (L ++ []) := hH.fresh hbw hlt hnd hok (by simp)
              have hres' : ResX w' c.imm c.ok bs cn.rs y.1 rvs L := ResX.mono (fun _ h => h) (fun b hb => hnew b hb) (fun _ _ => rfl) (fun _ _ => rfl) hres
              obtain ⟨μ', b1, b2, b3, b4, b5⟩ := opnX_ok hres' H1
              have kpo : Kept (fun _ => True) c.imm c.imm c.ok c.ok w' w' μ μ' h (opnX bs cn.rs y.1 h n).2.1 n (opnX bs cn.rs y.1 h n).2.2 := Kept.opened b1 b4 b5
              exact hK _ _ _ hfin (Sim.put hfr' hd hsz b2 (SR.mono kpo (SR.mono kpw hl)) (vrl_gs kpo c (vrl_gs kpw c hgs)) (ret_vr b3) hput)
            | bor =>
              rw [hrm] at hres hput hfin
              simp only at hres
              obtain ⟨hres, rfl⟩ := hres
              have hres' : ResB w' c.imm c.ok cn.rs y.1 rvs := hres.mono (fun _ h => h) (fun b hb => hnew b hb) (fun _ _ => rfl)
              exact hK _ _ _ hfin (Sim.put hfr' hd hsz (hH.quiet hbw hlt (Nat.le_refl _)) (SR.mono kpw hl) (vrl_gs kpw c hgs) (ret_vr (valL_vr hres')) hput)
          · simp at hcal
        · simp at hcal
      | false =>
        simp only [hmu, cond_false] at hev
        obtain ⟨hfr, hd, hsz, μ, hH, hl, hgs⟩ := id hs
        simp only at hH hl hgs
        obtain ⟨hmem, hf⟩ := cget_mem hcn
        try simp only at hf
        have hcon := hF cn hmem
        have hcallable := hcon.1
        rw [hf] at hcallable
        have hq : ∃ fo us vs us2, cl.callee = .value fo ∧ a.eval fo = .func (.func f) us.toArray vs.toArray ∧ us2 = us ++ cl.args.toList.map a.eval ++ vs ∧ VRl w c.imm c.ok μ h n xs us2 := by
          unfold calleeOf at hcal
          split at hcal
          · rename_i fo hcallee
            split at hcal
            · rename_i k fi ca hq
              simp only [Option.some.injEq, Prod.mk.injEq] at hcal
              obtain ⟨rfl, rfl⟩ := hcal
              have hvx := SR.evl hl fo
              rw [hq] at hvx
              simp only [VR] at hvx
              obtain ⟨us, vs, hfx, hus, hvs⟩ := hvx
              exact ⟨fo, us, vs, _, hcallee, hfx, rfl, VRl.append (VRl.append hus (SR.map hl _)) hvs⟩
            · simp at hcal
          · simp at hcal
        obtain ⟨fo, us, vs, us2, hcallee, hfx, rfl, hall⟩ := hq
        have hrun := callable_run (w := w) hcallable ho hcallee hfx
        unfold Oper.wp
        rw [hrun]
        split at hev
        · rename_i r0 hr0
          obtain ⟨hb, hev⟩ := cond_some.1 hev
          simp only [Bool.and_eq_true, Bool.not_eq_true'] at hb
          obtain ⟨⟨hb1, hb2⟩, hb3⟩ := hb
          simp only [Option.bind_eq_some_iff] at hev
          obtain ⟨x, hx, y, hy, g, hp, s', hput, hfin⟩ := hev
          have := callB_ok (o := o) (a := a) hcon hs hH hl hgs hall hb3 hr0 hb1 hb2 hx hy hp hput
          rw [hf] at this
          refine this.mono ?_
          rintro e w' ⟨rv, rfl, hs'⟩
          exact hK _ _ _ hfin hs'
        · cases hmv : cn.rm.isMv with
          | true =>
            simp only [hmv, cond_true, Option.bind_eq_some_iff] at hev
            obtain ⟨r0, hr0, hev⟩ := hev
            cases hfr0 : flatRow (hget h r0) with
            | true =>
              simp only [hfr0, cond_true, Option.bind_eq_some_iff] at hev
              obtain ⟨x, hx, y, hy, s', hput, hfin⟩ := hev
              have := callM_ok (o := o) (a := a) hcon hs hH hl hgs hall hmv hr0 (flatRow_isRow hfr0) (flat_hdel hfr0 hH) (flat_sget hfr0 hl) hx hy hput
              rw [hf] at this
              refine this.mono ?_
              rintro e w' ⟨rv, rfl, hs'⟩
              exact hK _ _ _ hfin hs'
            | false =>
            simp only [hfr0, cond_false] at hev
            obtain ⟨hrow, hev⟩ := cond_some.1 hev
            simp only [Option.bind_eq_some_iff] at hev
            obtain ⟨x, hx, y, hy, s', hput, hfin⟩ := hev
            have := callM_ok (o := o) (a := a) hcon hs hH hl hgs hall hmv hr0 hrow (fun _ => rfl) (fun _ => rfl) hx hy hput
            rw [hf] at this
            refine this.mono ?_
            rintro e w' ⟨rv, rfl, hs'⟩
            exact hK _ _ _ hfin hs'
          | false =>
            simp only [hmv, cond_false] at hev
            obtain ⟨hown, hev⟩ := cond_some.1 hev
            simp only [Option.bind_eq_some_iff] at hev
            obtain ⟨r0, hr0, hev⟩ := hev
            cases hfr0 : flatRow (hget h r0) with
            | true =>
              simp only [hfr0, cond_true, Option.bind_eq_some_iff] at hev
              obtain ⟨x, hx, y, hy, g, hp, s', hput, hfin⟩ := hev
              have := callW_ok (o := o) (a := a) hcon hs hH hl hgs hall hown hr0 (flatRow_isRow hfr0) (flat_hdel hfr0 hH) (flat_sget hfr0 hl) hx hy hp (flat_hset hfr0 (wPut_row hp) hH) hput
              rw [hf] at this
              refine this.mono ?_
              rintro e w' ⟨rv, rfl, hs'⟩
              exact hK _ _ _ hfin hs'
            | false =>
            simp only [hfr0, cond_false] at hev
            obtain ⟨hrow, hev⟩ := cond_some.1 hev
            simp only [Option.bind_eq_some_iff] at hev
            obtain ⟨x, hx, y, hy, g, hp, s', hput, hfin⟩ := hev
            have := callW_ok (o := o) (a := a) hcon hs hH hl hgs hall hown hr0 hrow (fun _ => rfl) (fun _ => rfl) hx hy hp (fun _ => rfl) hput
            rw [hf] at this
            refine this.mono ?_
            rintro e w' ⟨rv, rfl, hs'⟩
            exact hK _ _ _ hfin hs'
  · exact plain hev
theorem yielded_slot {dl : List (Option Tmp)} {ops : Array Oper} {j t : Nat} (hd : ops.toList.map (·.dst) = dl) (ht : dl.getD j none = some t) : (ops[j]?).bind (·.dst) = some t := by
  subst hd
  have : ops[j]? = ops.toList[j]? := by simp
  rw [this]
  simp only [List.getD, List.getElem?_map] at ht
  cases h : ops.toList[j]? with
  | none => simp [h] at ht
  | some o => simp only [h, Option.map_some, Option.getD_some, Option.bind_some] at ht ⊢; exact ht
theorem wanted_gv {dl : List (Option Tmp)} {ops : Array Oper} {j t : Nat} {want cw : Bool} (hs : Sim c σ a w) (hd : ops.toList.map (·.dst) = dl) (ht : dl.getD j none = some t) (hg : o.guard = some (j, want)) (hv : gv want (sget σ.s t) = some cw) :
    Region.wanted o (yielded ops a.tmps) = cw ∧ ∃ b, a.tmps.getD t undef = .bool b ∧ cw = (bif want then b else !b) := by
  obtain ⟨_, _, _, μ, _, hl, _⟩ := hs
  have h1 := hl t
  have hy := yielded_slot hd ht
  have hval : ∀ b : Bool, a.tmps.getD t undef = .bool b → a.tmps[t]? = some (.bool b) := by
    intro b hb
    rw [Array.getD_eq_getD_getElem?] at hb
    cases h : a.tmps[t]? with
    | none => simp [h, undef] at hb
    | some v => simp [h] at hb; rw [hb]
  simp only [Region.wanted, hg]
  unfold gv at hv
  split at hv
  · rename_i b hq
    rw [hq] at h1
    simp only [Option.some.injEq] at hv; subst hv
    have := hval b h1.p_eq
    refine ⟨?_, b, h1.p_eq, rfl⟩
    cases want <;> cases b <;> simp [yielded, hy, this]
  · simp at hv
theorem wanted_un {dl : List (Option Tmp)} {ops : Array Oper} {j t : Nat} {want : Bool} (hs : Sim c σ a w) (hd : ops.toList.map (·.dst) = dl) (ht : dl.getD j none = some t) (hg : o.guard = some (j, want)) (hv : isUn (sget σ.s t) = true) :
    Region.wanted o (yielded ops a.tmps) = false := by
  obtain ⟨_, _, _, μ, _, hl, _⟩ := hs
  have h1 := hl t
  have hy := yielded_slot hd ht
  unfold isUn at hv
  split at hv
  · rename_i hq
    rw [hq] at h1
    simp only [VR, VRl] at h1
    obtain ⟨us, h2, rfl⟩ := h1
    have h3 : ∀ b : Bool, a.tmps[t]? ≠ some (.bool b) := by
      intro b hb
      rw [Array.getD_eq_getD_getElem?, hb] at h2
      simp at h2
    simp only [Region.wanted, hg, yielded, hy, Option.bind_some]
    rfl
  · simp at hv
theorem Sim.know {t : Nat} {b : Bool} {s : List (Nat × TV)} {h : Heap} {n : Nat} (hs : Sim c ⟨s, h, n⟩ a w) (hb : a.tmps.getD t undef = .bool b) : Sim c ⟨(t, .p (.bool b)) :: s, h, n⟩ a w := by
  obtain ⟨h1, h2, h3, μ, h4, h5, h6⟩ := hs
  refine ⟨h1, h2, h3, μ, h4, fun t' => ?_, h6⟩
  simp only
  rw [sget_cons]
  by_cases e : t' = t
  · subst e; rw [if_pos rfl]; simp only [VR]; exact hb
  · rw [if_neg e]; exact h5 t'
theorem evOps_ok (hN : InlOk c.P N) (hF : ∀ cn ∈ F, ConOk c.P cn) {ops : Array Oper} {dl : List (Option Tmp)} (hd : ops.toList.map (·.dst) = dl) {Q : Exit → Act → World → Prop} {K : St → Option ρ} (hK : ∀ σ a w, K σ = some r → Sim c σ a w → Q .normal a w) :
    ∀ (os : List Oper) (σ : St) (a : Act) (w : World), evOps c.P c.m F N dl os σ K = some r → Sim c σ a w → wpList c.P ops Q os a w
  | [], σ, a, w, hev, hs => wpList_nil (hK σ a w hev hs)
  | o :: os, σ, a, w, hev, hs => by
    simp only [evOps] at hev
    unfold wpList
    split at hev
    · rename_i hg
      rw [if_pos (by simp [Region.wanted, hg])]
      exact .inl (evOp_ok hN hF (s := σ.s) (h := σ.h) (n := σ.n) hs hev fun σ' a' w' h1 h2 => evOps_ok hN hF hd hK os σ' a' w' h1 h2)
    · rename_i j want hg
      split at hev
      · simp at hev
      · rename_i t ht
        split at hev
        · obtain ⟨hun, hev⟩ := cond_some.1 hev
          simp only [Option.bind_eq_some_iff] at hev
          obtain ⟨s', hput, hev⟩ := hev
          rw [if_neg (by rw [wanted_un hs hd ht hg hun]; simp)]
          obtain ⟨h1, h2, h3, μ, h4, h5, h6⟩ := hs
          exact evOps_ok hN hF hd hK os _ _ _ hev (Sim.skip' h1 h2 h3 h4 h5 h6 hput)
        · rename_i cw hv
          obtain ⟨hw, b, hb, hcw⟩ := wanted_gv hs hd ht hg hv
          cases cw with
          | true =>
            simp only [cond_true] at hev
            rw [if_pos hw]
            have hbw : b = want := by revert hcw; cases b <;> cases want <;> simp
            subst hbw
            exact .inl (evOp_ok hN hF (Sim.know (s := σ.s) (h := σ.h) (n := σ.n) hs hb) hev fun σ' a' w' h1 h2 => evOps_ok hN hF hd hK os σ' a' w' h1 h2)
          | false =>
            simp only [cond_false, Option.bind_eq_some_iff] at hev
            obtain ⟨s', hput, hev⟩ := hev
            rw [if_neg (by rw [hw]; simp)]
            have hbw : b = !want := by revert hcw; cases b <;> cases want <;> simp
            subst hbw
            have hs2 := Sim.know (s := σ.s) (h := σ.h) (n := σ.n) hs hb
            obtain ⟨h1, h2, h3, μ, h4, h5, h6⟩ := hs2
            exact evOps_ok hN hF hd hK os _ _ _ hev (Sim.skip' h1 h2 h3 h4 h5 h6 hput)
end
def Sy (c : Cx) (code : Code) (Q : Exit → St → Prop) (σ : St) : Prop :=
  ∀ a w, Sim c σ a w → code.wp c.P (fun e a' w' => ∃ σ', Q e σ' ∧ Sim c σ' a' w') a w
def LoopOk (c : Cx) (lo : LO) (body : Code) : Prop := ∀ (ρ : Type) (σ : St) (K : Exit → St → Option ρ) (r : ρ), lo ρ σ K = some r → Sy c (.loop body) (fun e σ' => K e σ' = some r) σ
theorem Sim.drew {c : Cx} {σ : St} {a : Act} {w : World} (hs : Sim c σ a w) : Sim c σ a w.drew := by
  have hlt := hs.lt
  obtain ⟨h1, h2, h3, μ, h4, h5, h6⟩ := hs
  have hb : Below w.heap.size w w.drew := (Below.refl _ _).drew
  have kp := h4.kept_quiet hb hlt (Nat.le_refl _)
  exact ⟨h1.below hb, h2, h3, μ, h4.quiet hb hlt (Nat.le_refl _), SR.mono kp h5, vrl_gs kp c h6⟩
end Go.Tw
