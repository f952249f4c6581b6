/- A step of the typed logic of this claim is proved here: what an operation does to the data that slots and memory stand for. -/
import Derived.Test.YtmjacadeccoclaaT16
set_option linter.all false
namespace Go.Tw
open Go Go.RowKit

/-! Cells that own their slices. -/
def TO1 (w : World) (imm ok : Nat → Prop) (fr : Bool) : TV → Value → List Nat → Prop
  | .p u, v, L => v = u ∧ L = []
  | .tr t l, v, L => (v = .slice none 0 0 ∧ l = [] ∧ L = []) ∨
      ∃ b o cap L', v = .slice (some ⟨b, o, none⟩) l.length cap ∧ l.length ≤ cap ∧ RL (TRc w (immf fr imm) ok t) (sz t) l b o L' ∧ L = b :: L' ∧ ok b ∧ Row w b o ∧ (0 < cap → Row w b (o + cap * sz t))
  | .iptr t l i off, v, L => i = 0 ∧ off = 0 ∧ ∃ x b o us, l = [x] ∧ v = .pointer (some ⟨b, o, none⟩) ∧ L = [b] ∧ ok b ∧ Row w b (o + sz t) ∧ TRl w (immf fr imm) ok t x us [] ∧ At w b o us
  | _, _, _ => False
def TOC (w : World) (imm ok : Nat → Prop) (fr : Bool) : List TV → List Value → List Nat → Prop
  | [], us, L => us = [] ∧ L = []
  | c :: cs, us, L => ∃ u us' L1 L2, us = u :: us' ∧ L = L1 ++ L2 ∧ TO1 w imm ok fr c u L1 ∧ TOC w imm ok fr cs us' L2

/-- the value of results -/
def retV : List Value → Value
  | [v] => v
  | vs => .tuple vs.toArray
def okL (Lm : List Nat) (w : World) (b : Nat) : Prop := b ∈ Lm ∨ w.heap.size ≤ b
structure FrL (Lm : List Nat) (w w' : World) : Prop where
  os : w'.os = w.os
  tape : w'.tape = w.tape
  output : w'.output = w.output
  size : w.heap.size ≤ w'.heap.size
  block : ∀ k, k < w.heap.size → k ∉ Lm → w'.heap[k]? = w.heap[k]?
  row : ∀ b m, Row w b m → Row w' b m

def ArgR (w : World) (imm ok : Nat → Prop) : (ps : List (Ty × Bool)) → den (prodT (ps.map (·.1))) → List Value → List Nat → Prop
  | [], _, vs, L => vs = [] ∧ L = []
  | p :: ps, x, vs, L => ∃ us vs' L1 L2, vs = valOf (isAg p.1) us :: vs' ∧ L = L1 ++ L2 ∧ (p.2 = false → TRl w imm ok p.1 x.1 us [] ∧ L1 = []) ∧ (p.2 = true → TOC w imm ok (frT p.1) (encT p.1 x.1) us L1) ∧ ArgR w imm ok ps x.2 vs' L2
def MutR (w : World) (imm ok : Nat → Prop) : (ps : List (Ty × Bool)) → den (prodT ((ps.filter (·.2)).map (·.1))) → List Value → List Nat → Prop
  | [], _, _, L => L = []
  | (t, false) :: ps, y, vs, L => MutR w imm ok ps y vs.tail L
  | (t, true) :: ps, y, vs, L => ∃ us L1 L2, vs.head? = some (valOf (isAg t) us) ∧ L = L1 ++ L2 ∧ TOC w imm ok (frT t) (encT t y.1) us L1 ∧ MutR w imm ok ps y.2 vs.tail L2
/-- .. or nothing, if it was moved -/
def MutM (w : World) (imm ok : Nat → Prop) (rm : RM) (ps : List (Ty × Bool)) (y : den (prodT ((ps.filter (·.2)).map (·.1)))) (vs : List Value) (L : List Nat) : Prop :=
  match rm with
  | .mv => L = []
  | _ => MutR w imm ok ps y vs L
def ResO (w : World) (imm ok : Nat → Prop) (fr : Bool) : (ts : List Ty) → den (prodT ts) → List Value → List Nat → Prop
  | [], _, vs, L => vs = [] ∧ L = []
  | t :: ts, x, vs, L => ∃ us vs' L1 L2, vs = valOf (isAg t) us :: vs' ∧ L = L1 ++ L2 ∧ TOC w imm ok fr (encT t x.1) us L1 ∧ ResO w imm ok fr ts x.2 vs' L2
def ResG (w : World) (imm ok : Nat → Prop) : (ts : List Ty) → den (prodT ts) → List Value → List Nat → Prop
  | [], _, vs, L => vs = [] ∧ L = []
  | t :: ts, x, vs, L => ∃ us vs' L1 L2, vs = valOf (isAg t) us :: vs' ∧ L = L1 ++ L2 ∧ TOC w imm ok (frT t) (encT t x.1) us L1 ∧ ResG w imm ok ts x.2 vs' L2
def ResB (w : World) (imm ok : Nat → Prop) : (ts : List Ty) → den (prodT ts) → List Value → Prop
  | [], _, vs => vs = []
  | t :: ts, x, vs => ∃ us vs', vs = valOf (isAg t) us :: vs' ∧ TRl w imm ok t x.1 us [] ∧ ResB w imm ok ts x.2 vs'
def ResM (w : World) (imm ok : Nat → Prop) (rm : RM) (ts : List Ty) (x : den (prodT ts)) (vs : List Value) (L : List Nat) : Prop :=
  match rm with
  | .own fr => ResO w imm ok fr ts x vs L
  | .bor => ResB w imm ok ts x vs ∧ L = []
  | .mv => ResO w imm ok true ts x vs L

def callable (P : Program) (f : FuncId) : Bool :=
  match P.funcs[f]? with
  | some fn => fn.name != "runtime.NumGoroutine" && fn.body.isSome
  | none => false

/-- The contract holds. -/
def ConOk (P : Program) (cn : Con) : Prop :=
  callable P cn.f = true ∧ ∀ (w : World) (imm : Nat → Prop) (vals : List Value) (x : den (prodT (cn.ps.map (·.1)))) (Lm : List Nat) (y), (∀ b, imm b → b < w.heap.size ∧ b ∉ Lm) → Lm.Nodup →
    ArgR w imm (· ∈ Lm) cn.ps x vals Lm → cn.m x = some y → Calls P cn.f vals.toArray w fun e w' => ∃ vs L Lm', e = .returned (retV vs) ∧ FrL Lm w w' ∧ ResM w' imm (okL Lm w) cn.rm cn.rs y.1 vs L ∧ MutM w' imm (okL Lm w) cn.rm cn.ps y.2 vals Lm' ∧ (L ++ Lm').Nodup

section
variable {w w' : World} {imm imm' ok ok' : Nat → Prop} {μ : Nat → Mu} {h : Heap} {n : Nat} {fr : Bool}

theorem TO1.mono (hi : ∀ b, immf fr imm b → immf fr imm' b) (ho : ∀ b, ok b → ok' b) (hw : ∀ b, immf fr imm b → w'.heap[b]? = w.heap[b]?) {x : TV} {v : Value} {L : List Nat} (hL : ∀ b ∈ L, w'.heap[b]? = w.heap[b]?) (H : TO1 w imm ok fr x v L) : TO1 w' imm' ok' fr x v L := by
  cases x with
  | p u => exact H
  | tr t l =>
    rcases H with H | ⟨b, o, cap, L', h1, h2, h3, rfl, h5, h6, h7⟩
    · exact .inl H
    · have hb := hL b (by simp)
      exact .inr ⟨b, o, cap, L', h1, h2, RL.imp (fun x _ o L'' hL'' hr => TRc.mono hi ho hw (fun k hk => hL k (by simp [hL'' k hk])) hb hr) h3, rfl, ho b h5, h6.same hb, fun hp => (h7 hp).same hb⟩
  | iptr t l i off =>
    obtain ⟨h1, h2, x, b, o, us, h3, h4, rfl, h6, h7, h8, h9⟩ := H
    have hb := hL b (by simp)
    exact ⟨h1, h2, x, b, o, us, h3, h4, rfl, ho b h6, h7.same hb, h8.mono hi ho hw (by simp), h9.same hb⟩
  | _ => exact H.elim
theorem TOC.mono (hi : ∀ b, immf fr imm b → immf fr imm' b) (ho : ∀ b, ok b → ok' b) (hw : ∀ b, immf fr imm b → w'.heap[b]? = w.heap[b]?) : ∀ {cs : List TV} {us : List Value} {L : List Nat}, (∀ b ∈ L, w'.heap[b]? = w.heap[b]?) → TOC w imm ok fr cs us L → TOC w' imm' ok' fr cs us L
  | [], us, L, _, H => H
  | c :: cs, us, L, hL, H => by
    obtain ⟨u, us', L1, L2, rfl, rfl, h1, h2⟩ := H
    exact ⟨u, us', L1, L2, rfl, rfl, h1.mono hi ho hw (fun b hb => hL b (by simp [hb])), TOC.mono hi ho hw (fun b hb => hL b (by simp [hb])) h2⟩
theorem TO1.blocks {x : TV} {v : Value} {L : List Nat} (H : TO1 w imm ok fr x v L) : ∀ b ∈ L, ok b ∧ b < w.heap.size := by
  cases x with
  | p u => obtain ⟨_, rfl⟩ := H; simp
  | tr t l =>
    rcases H with ⟨_, _, rfl⟩ | ⟨b, o, cap, L', h1, h2, h3, rfl, h5, h6, h7⟩
    · simp
    · intro k hk
      rcases List.mem_cons.1 hk with rfl | hk
      · exact ⟨h5, h6.lt⟩
      · exact RL.mem (p := fun b => ok b ∧ b < w.heap.size) (fun x _ o L' ⟨us, h, _⟩ => TRl.blocks h) h3 k hk
  | iptr t l i off =>
    obtain ⟨_, _, x, b, o, us, _, _, rfl, h6, h7, _⟩ := H
    intro k hk
    simp only [List.mem_singleton] at hk; subst hk
    exact ⟨h6, h7.lt⟩
  | _ => exact H.elim
theorem TOC.blocks : ∀ {cs : List TV} {us : List Value} {L : List Nat}, TOC w imm ok fr cs us L → ∀ b ∈ L, ok b ∧ b < w.heap.size
  | [], us, L, H, b, hb => by rw [H.2] at hb; simp at hb
  | c :: cs, us, L, H, b, hb => by
    obtain ⟨u, us', L1, L2, rfl, rfl, h1, h2⟩ := H
    rcases List.mem_append.1 hb with hb | hb
    · exact h1.blocks b hb
    · exact TOC.blocks h2 b hb
theorem ResO.mono (hi : ∀ b, immf fr imm b → immf fr imm' b) (ho : ∀ b, ok b → ok' b) (hw : ∀ b, immf fr imm b → w'.heap[b]? = w.heap[b]?) : ∀ {ts : List Ty} {x : den (prodT ts)} {vs : List Value} {L : List Nat}, (∀ b ∈ L, w'.heap[b]? = w.heap[b]?) → ResO w imm ok fr ts x vs L → ResO w' imm' ok' fr ts x vs L
  | [], _, _, _, _, H => H
  | t :: ts, x, vs, L, hL, H => by
    obtain ⟨us, vs', L1, L2, rfl, rfl, h1, h2⟩ := H
    exact ⟨us, vs', L1, L2, rfl, rfl, h1.mono hi ho hw (fun b hb => hL b (by simp [hb])), ResO.mono hi ho hw (fun b hb => hL b (by simp [hb])) h2⟩
theorem ResO.blocks : ∀ {ts : List Ty} {x : den (prodT ts)} {vs : List Value} {L : List Nat}, ResO w imm ok fr ts x vs L → ∀ b ∈ L, ok b ∧ b < w.heap.size
  | [], _, _, _, H, b, hb => by rw [H.2] at hb; simp at hb
  | t :: ts, x, vs, L, H, b, hb => by
    obtain ⟨us, vs', L1, L2, rfl, rfl, h1, h2⟩ := H
    rcases List.mem_append.1 hb with hb | hb
    · exact h1.blocks b hb
    · exact ResO.blocks h2 b hb
theorem ResB.mono (hi : ∀ b, imm b → imm' b) (ho : ∀ b, ok b → ok' b) (hw : ∀ b, imm b → w'.heap[b]? = w.heap[b]?) : ∀ {ts : List Ty} {x : den (prodT ts)} {vs : List Value}, ResB w imm ok ts x vs → ResB w' imm' ok' ts x vs
  | [], _, _, H => H
  | t :: ts, x, vs, H => by
    obtain ⟨us, vs', rfl, h1, h2⟩ := H
    exact ⟨us, vs', rfl, h1.mono hi ho hw (by simp), ResB.mono hi ho hw h2⟩

/-- What an opening comes to. -/
def Opened (w : World) (imm ok : Nat → Prop) (μ : Nat → Mu) (h : Heap) (n : Nat) (D : List Nat) (R : (Nat → Mu) → Prop) (h' : Heap) (n' : Nat) : Prop :=
  ∃ μ', (∀ r, r < n → μ' r = μ r) ∧ HR w imm ok μ' h' n' D ∧ R μ' ∧ n ≤ n' ∧ ∀ r, r < n → hget h' r = hget h r
theorem Kept.opened {μ' : Nat → Mu} {h' : Heap} {n' : Nat} (h1 : ∀ r, r < n → μ' r = μ r) (h2 : n ≤ n') (h3 : ∀ r, r < n → hget h' r = hget h r) : Kept (fun _ => True) imm imm ok ok w w μ μ' h h' n n' :=
  ⟨Step.refl _ _, fun _ h => h, fun _ h => h, h1, h2, fun r hr => by rw [h3 r hr]; exact Fit.refl _, fun _ _ _ _ _ _ _ _ _ => rfl⟩

theorem opnC_ok : ∀ {cs : List TV} {us : List Value} {L D : List Nat} {h : Heap} {n : Nat} {μ : Nat → Mu}, TOC w imm ok fr cs us L → HR w imm ok μ h n (L ++ D) →
    Opened w imm ok μ h n D (fun μ' => VRl w imm ok μ' (opnC fr cs h n).2.1 (opnC fr cs h n).2.2 (opnC fr cs h n).1 us) (opnC fr cs h n).2.1 (opnC fr cs h n).2.2
  | [], us, L, D, h, n, μ, H, HH => by
    obtain ⟨rfl, rfl⟩ := H
    exact ⟨μ, fun _ _ => rfl, by simpa [opnC] using HH, by simp [opnC, VRl], Nat.le_refl _, fun _ _ => rfl⟩
  | .p u :: cs, us, L, D, h, n, μ, H, HH => by
    obtain ⟨v, us', L1, L2, rfl, rfl, ⟨rfl, rfl⟩, h2⟩ := H
    obtain ⟨μ', a1, a2, a3, a4, a5⟩ := opnC_ok h2 (by simpa using HH)
    simp only [opnC]
    exact ⟨μ', a1, a2, by simp only [VRl]; exact ⟨_, us', rfl, by simp [VR], a3⟩, a4, a5⟩
  | .tr t l :: cs, us, L, D, h, n, μ, H, HH => by
    obtain ⟨v, us', L1, L2, rfl, rfl, h1, h2⟩ := H
    have key : ∃ m : Mu, RR w imm ok (muP μ n m) ((n, .row fr t l) :: h) (n + 1) n (.row fr t l) L1 ∧ SlR w m (sz t) 0 l.length v := by
      rcases h1 with ⟨rfl, rfl, rfl⟩ | ⟨b, o, cap, L', rfl, hc, h3, rfl, h5, h6, h7⟩
      · exact ⟨⟨0, 0, false⟩, by simp only [RR, muP_self]; exact .inl ⟨trivial, trivial, trivial⟩, .inl ⟨rfl, rfl⟩⟩
      · refine ⟨⟨b, o, true⟩, ?_, .inr ⟨o, cap, rfl, hc, rfl, h6, fun hp => ⟨by simp, h7 hp⟩⟩⟩
        simp only [RR, muP_self]
        refine .inr ⟨trivial, L', rfl, h5, ?_, h3⟩
        rcases Nat.eq_zero_or_pos cap with hz | hp
        · have : l.length = 0 := by omega
          rw [this]; simpa using h6
        · exact (h7 hp).le (by have : l.length * sz t ≤ cap * sz t := Nat.mul_le_mul_right _ hc; omega)
    obtain ⟨m, hRR, hS⟩ := key
    rw [List.append_assoc] at HH
    have H1 := HR.attach (n' := n + 1) (μ' := muP μ n m) HH (Nat.le_refl _) (Nat.lt_succ_self _) (fun r hr => by simp [muP, show r ≠ n by omega]) hRR
    obtain ⟨μ', a1, a2, a3, a4, a5⟩ := opnC_ok h2 H1
    simp only [opnC]
    refine ⟨μ', fun r hr => by rw [a1 r (by omega)]; simp [muP, show r ≠ n by omega], a2, ?_, by omega, fun r hr => by rw [a5 r (by omega)]; simp [hget, show r ≠ n by omega]⟩
    simp only [VRl]
    refine ⟨v, us', rfl, ?_, a3⟩
    simp only [VR, a5 n (Nat.lt_succ_self _), hget, ↓reduceIte]
    exact ⟨by omega, by rw [a1 n (Nat.lt_succ_self _), muP_self]; exact hS⟩
  | .iptr t l i off :: cs, us, L, D, h, n, μ, H, HH => by
    obtain ⟨v, us', L1, L2, rfl, rfl, ⟨_, _, x, b, o, xs, rfl, rfl, rfl, h6, h7, h8, h9⟩, h2⟩ := H
    have h8' : TRl w imm ok t x xs [] := h8.mono (fun _ h => h.2) (fun _ h => h) (fun _ _ => rfl) (by simp)
    have hRR : RR w imm ok (muP μ n ⟨b, o, true⟩) ((n, .box (encT t x)) :: h) (n + 1) n (.box (encT t x)) [b] := by
      simp only [RR, muP_self]
      exact ⟨trivial, h6, by rw [enc_length]; exact h7, xs, h8'.toCT.vrl, h9⟩
    rw [List.append_assoc] at HH
    have H1 := HR.attach (n' := n + 1) (μ' := muP μ n ⟨b, o, true⟩) HH (Nat.le_refl _) (Nat.lt_succ_self _) (fun r hr => by simp [muP, show r ≠ n by omega]) hRR
    obtain ⟨μ', a1, a2, a3, a4, a5⟩ := opnC_ok h2 H1
    simp only [opnC, List.headD_cons]
    refine ⟨μ', fun r hr => by rw [a1 r (by omega)]; simp [muP, show r ≠ n by omega], a2, ?_, by omega, fun r hr => by rw [a5 r (by omega)]; simp [hget, show r ≠ n by omega]⟩
    simp only [VRl]
    refine ⟨_, us', rfl, ?_, a3⟩
    simp only [VR, a5 n (Nat.lt_succ_self _), hget, ↓reduceIte]
    exact ⟨by omega, _, rfl, by rw [a1 n (Nat.lt_succ_self _), muP_self]; simp⟩
  | .full _ :: _, _, _, _, _, _, _, H, _ => by obtain ⟨_, _, _, _, _, _, h1, _⟩ := H; exact h1.elim
  | .sub _ _ _ :: _, _, _, _, _, _, _, H, _ => by obtain ⟨_, _, _, _, _, _, h1, _⟩ := H; exact h1.elim
  | .inn _ _ _ :: _, _, _, _, _, _, _, H, _ => by obtain ⟨_, _, _, _, _, _, h1, _⟩ := H; exact h1.elim
  | .ptr _ _ _ :: _, _, _, _, _, _, _, H, _ => by obtain ⟨_, _, _, _, _, _, h1, _⟩ := H; exact h1.elim
  | .agg _ :: _, _, _, _, _, _, _, H, _ => by obtain ⟨_, _, _, _, _, _, h1, _⟩ := H; exact h1.elim
  | .tup _ :: _, _, _, _, _, _, _, H, _ => by obtain ⟨_, _, _, _, _, _, h1, _⟩ := H; exact h1.elim
  | .ifc _ _ :: _, _, _, _, _, _, _, H, _ => by obtain ⟨_, _, _, _, _, _, h1, _⟩ := H; exact h1.elim
  | .fn _ _ _ :: _, _, _, _, _, _, _, H, _ => by obtain ⟨_, _, _, _, _, _, h1, _⟩ := H; exact h1.elim
  | .mp _ :: _, _, _, _, _, _, _, H, _ => by obtain ⟨_, _, _, _, _, _, h1, _⟩ := H; exact h1.elim
  | .undef :: _, _, _, _, _, _, _, H, _ => by obtain ⟨_, _, _, _, _, _, h1, _⟩ := H; exact h1.elim

theorem pack_vr' {g : Bool} {cs : List TV} {us : List Value} (H : VRl w imm ok μ h n cs us) : VR w imm ok μ h n (pack g cs) (valOf g us) := pack_vr H
theorem opnL_ok : ∀ {ts : List Ty} {x : den (prodT ts)} {vs : List Value} {L D : List Nat} {h : Heap} {n : Nat} {μ : Nat → Mu}, ResO w imm ok fr ts x vs L → HR w imm ok μ h n (L ++ D) →
    Opened w imm ok μ h n D (fun μ' => VRl w imm ok μ' (opnL fr ts x h n).2.1 (opnL fr ts x h n).2.2 (opnL fr ts x h n).1 vs) (opnL fr ts x h n).2.1 (opnL fr ts x h n).2.2
  | [], _, vs, L, D, h, n, μ, H, HH => by
    obtain ⟨rfl, rfl⟩ := H
    exact ⟨μ, fun _ _ => rfl, by simpa [opnL] using HH, by simp [opnL, VRl], Nat.le_refl _, fun _ _ => rfl⟩
  | t :: ts, x, vs, L, D, h, n, μ, H, HH => by
    obtain ⟨us, vs', L1, L2, rfl, rfl, h1, h2⟩ := H
    rw [List.append_assoc] at HH
    obtain ⟨μ1, a1, a2, a3, a4, a5⟩ := opnC_ok h1 HH
    obtain ⟨μ2, b1, b2, b3, b4, b5⟩ := opnL_ok h2 a2
    simp only [opnL, opnV]
    refine ⟨μ2, fun r hr => by rw [b1 r (by omega), a1 r hr], b2, ?_, by omega, fun r hr => by rw [b5 r (by omega), a5 r hr]⟩
    simp only [VRl]
    exact ⟨_, vs', rfl, pack_vr' (VRl.mono (Kept.opened b1 b4 b5) _ _ (innOkl_true _) a3), b3⟩

theorem opnG_ok : ∀ {ts : List Ty} {x : den (prodT ts)} {vs : List Value} {L D : List Nat} {h : Heap} {n : Nat} {μ : Nat → Mu}, ResG w imm ok ts x vs L → HR w imm ok μ h n (L ++ D) →
    Opened w imm ok μ h n D (fun μ' => VRl w imm ok μ' (opnG ts x h n).2.1 (opnG ts x h n).2.2 (opnG ts x h n).1 vs) (opnG ts x h n).2.1 (opnG ts x h n).2.2
  | [], _, vs, L, D, h, n, μ, H, HH => by
    obtain ⟨rfl, rfl⟩ := H
    exact ⟨μ, fun _ _ => rfl, by simpa [opnG] using HH, by simp [opnG, VRl], Nat.le_refl _, fun _ _ => rfl⟩
  | t :: ts, x, vs, L, D, h, n, μ, H, HH => by
    obtain ⟨us, vs', L1, L2, rfl, rfl, h1, h2⟩ := H
    rw [List.append_assoc] at HH
    obtain ⟨μ1, a1, a2, a3, a4, a5⟩ := opnC_ok h1 HH
    obtain ⟨μ2, b1, b2, b3, b4, b5⟩ := opnG_ok h2 a2
    simp only [opnG, opnV]
    refine ⟨μ2, fun r hr => by rw [b1 r (by omega), a1 r hr], b2, ?_, by omega, fun r hr => by rw [b5 r (by omega), a5 r hr]⟩
    simp only [VRl]
    exact ⟨_, vs', rfl, pack_vr' (VRl.mono (Kept.opened b1 b4 b5) _ _ (innOkl_true _) a3), b3⟩

theorem ret_vr {vs : List TV} {us : List Value} (H : VRl w imm ok μ h n vs us) : VR w imm ok μ h n (retT vs) (retV us) := by
  match vs with
  | [] => simp only [VRl] at H; subst H; simp only [retT, retV, VR]; exact ⟨[], rfl, by simp [VRl]⟩
  | [x] =>
    simp only [VRl] at H
    obtain ⟨u, us', rfl, h1, rfl⟩ := H
    exact h1
  | x :: y :: vs =>
    have H0 := H
    simp only [VRl] at H
    obtain ⟨u, us', rfl, h1, u2, us2, rfl, h2, h3⟩ := H
    simp only [retT, retV, VR]
    exact ⟨_, rfl, H0⟩
theorem valT_vr {t : Ty} {x : den t} {us : List Value} (H : TRl w imm ok t x us []) : VR w imm ok μ h n (valT t x) (valOf (isAg t) us) := by
  have := pack_vr (g := isAg t) (H.toCT.vrl (μ := μ) (h := h) (n := n))
  unfold valT; exact this
theorem valL_vr : ∀ {ts : List Ty} {x : den (prodT ts)} {vs : List Value}, ResB w imm ok ts x vs → VRl w imm ok μ h n (valL ts x) vs
  | [], _, vs, H => by simp only [ResB] at H; simp [valL, VRl, H]
  | t :: ts, x, vs, H => by
    obtain ⟨us, vs', rfl, h1, h2⟩ := H
    simp only [valL, VRl]
    exact ⟨_, vs', rfl, valT_vr h1, valL_vr h2⟩

theorem cellsOf_vr {t : Ty} {x : TV} {v : Value} {cs : List TV} (hc : cellsOf t x = some cs) (H : VR w imm ok μ h n x v) : ∃ us, v = valOf (isAg t) us ∧ VRl w imm ok μ h n cs us := by
  unfold cellsOf at hc
  split at hc
  · obtain ⟨hb, hc⟩ := cond_some.1 hc
    simp only [Option.some.injEq] at hc; subst hc
    simp only [VR] at H
    obtain ⟨us, rfl, H⟩ := H
    exact ⟨us, by simp [valOf, hb], H⟩
  · cases hb : isAg t with
    | true => simp [hb] at hc
    | false =>
      simp only [hb, cond_false, Option.some.injEq] at hc; subst hc
      exact ⟨[v], rfl, by simp only [VRl]; exact ⟨v, [], rfl, H, rfl⟩⟩
theorem frzL_ok {D : List Nat} (HH : HR w imm ok μ h n D) (hlt : ∀ b, imm b → b < w.heap.size) : ∀ {cs fs : List TV} {us : List Value}, frzL h cs = some fs → VRl w imm ok μ h n cs us → CT w (· < w.heap.size) (fun b => w.heap.size ≤ b) fs us []
  | [], fs, us, hf, H => by
    simp only [frzL, Option.some.injEq] at hf; subst hf
    simp only [VRl] at H; exact ⟨H, rfl⟩
  | c :: cs, fs, us, hf, H => by
    simp only [frzL, Option.bind_eq_some_iff, Option.some.injEq] at hf
    obtain ⟨f, h1, fs', h2, rfl⟩ := hf
    simp only [VRl] at H
    obtain ⟨u, us', rfl, h3, h4⟩ := H
    exact ⟨u, us', [], [], rfl, rfl, frzC_ok HH hlt h1 h3, frzL_ok HH hlt h2 h4⟩
theorem frzL_I {I ok' : Nat → Prop} (HH : ∀ r x, hget h r = some x → ∃ L, RR w imm ok μ h n r x L ∧ ∀ b ∈ L, I b) (hlt : ∀ b, imm b → I b) : ∀ {cs fs : List TV} {us : List Value}, frzL h cs = some fs → VRl w imm ok μ h n cs us → CT w I ok' fs us []
  | [], fs, us, hf, H => by
    simp only [frzL, Option.some.injEq] at hf; subst hf
    simp only [VRl] at H; exact ⟨H, rfl⟩
  | c :: cs, fs, us, hf, H => by
    simp only [frzL, Option.bind_eq_some_iff, Option.some.injEq] at hf
    obtain ⟨f, h1, fs', h2, rfl⟩ := hf
    simp only [VRl] at H
    obtain ⟨u, us', rfl, h3, h4⟩ := H
    exact ⟨u, us', [], [], rfl, rfl, frzC_I HH hlt h1 h3, frzL_I HH hlt h2 h4⟩
theorem seeT_I {I ok' : Nat → Prop} (HH : ∀ r x, hget h r = some x → ∃ L, RR w imm ok μ h n r x L ∧ ∀ b ∈ L, I b) (hlt : ∀ b, imm b → I b) : ∀ {t : Ty} {cs r : List TV} {x : den t} {us : List Value}, seeT h t cs = some (x, r) → VRl w imm ok μ h n cs us →
    ∃ u1 u2, us = u1 ++ u2 ∧ TRl w I ok' t x u1 [] ∧ VRl w imm ok μ h n r u2
  | .int k, cs, r, x, us, hd, H => by
    simp only [seeT] at hd
    split at hd <;> first | (simp at hd; done) | skip
    split at hd
    · simp only [Option.some.injEq, Prod.mk.injEq] at hd
      obtain ⟨rfl, rfl⟩ := hd
      subst_vars
      simp only [VRl, VR] at H
      obtain ⟨_, us', rfl, rfl, h2⟩ := H
      exact ⟨[_], us', rfl, ⟨rfl, rfl⟩, h2⟩
    · simp at hd
  | .bool, cs, r, x, us, hd, H => by
    simp only [seeT] at hd
    split at hd <;> first | (simp at hd; done) | skip
    simp only [Option.some.injEq, Prod.mk.injEq] at hd
    obtain ⟨rfl, rfl⟩ := hd
    simp only [VRl, VR] at H
    obtain ⟨_, us', rfl, rfl, h2⟩ := H
    exact ⟨[_], us', rfl, ⟨rfl, rfl⟩, h2⟩
  | .str, cs, r, x, us, hd, H => by
    simp only [seeT] at hd
    split at hd <;> first | (simp at hd; done) | skip
    simp only [Option.some.injEq, Prod.mk.injEq] at hd
    obtain ⟨rfl, rfl⟩ := hd
    simp only [VRl, VR] at H
    obtain ⟨_, us', rfl, rfl, h2⟩ := H
    exact ⟨[_], us', rfl, ⟨rfl, rfl⟩, h2⟩
  | .un, cs, r, x, us, hd, H => by
    simp only [seeT, Option.some.injEq, Prod.mk.injEq] at hd
    obtain ⟨_, rfl⟩ := hd
    exact ⟨[], us, rfl, ⟨rfl, rfl⟩, H⟩
  | .pr a b, cs, r, x, us, hd, H => by
    simp only [seeT, Option.bind_eq_some_iff, Option.some.injEq, Prod.mk.injEq] at hd
    obtain ⟨⟨x1, r1⟩, hd1, ⟨x2, r2⟩, hd2, rfl, rfl⟩ := hd
    obtain ⟨u1, u2, rfl, h1, h2⟩ := seeT_I HH hlt hd1 H
    obtain ⟨u3, u4, rfl, h3, h4⟩ := seeT_I HH hlt hd2 h2
    exact ⟨u1 ++ u3, u4, by simp, ⟨u1, u3, [], [], rfl, rfl, h1, h3⟩, h4⟩
  | .sl t, cs, r, x, us, hd, H => by
    simp only [seeT] at hd
    split at hd <;> first | (simp at hd; done) | skip
    simp only [Option.bind_eq_some_iff] at hd
    obtain ⟨f, hf, hd⟩ := hd
    simp only [VRl] at H
    obtain ⟨u, us', rfl, h1, h2⟩ := H
    have hc := frzC_I (ok' := ok') HH hlt hf h1
    split at hd
    · simp only [Option.bind_eq_some_iff, Option.some.injEq, Prod.mk.injEq] at hd
      obtain ⟨l', hc', rfl, rfl⟩ := hd
      obtain ⟨rfl, rfl⟩ := cast_some hc'
      exact ⟨[u], us', rfl, hc, h2⟩
    · simp only [Option.some.injEq, Prod.mk.injEq] at hd
      obtain ⟨rfl, rfl⟩ := hd
      obtain ⟨rfl, _⟩ := hc
      exact ⟨[_], us', rfl, ⟨_, rfl, .inl ⟨rfl, rfl, rfl⟩⟩, h2⟩
    · simp at hd
  | .ref t, cs, r, x, us, hd, H => by
    simp only [seeT] at hd
    split at hd <;> first | (simp at hd; done) | skip
    · simp only [Option.bind_eq_some_iff, Option.some.injEq, Prod.mk.injEq] at hd
      obtain ⟨l', hc, rfl, rfl⟩ := hd
      obtain ⟨rfl, rfl⟩ := cast_some hc
      simp only [VRl, VR] at H
      obtain ⟨u, us', rfl, ⟨b, o, rfl, hb, L1, L3, e, ⟨vs, g1, g2⟩, _⟩, h2⟩ := H
      obtain ⟨rfl, rfl⟩ := List.append_eq_nil_iff.1 e.symm
      exact ⟨[_], us', rfl, ⟨b, o, vs, by simp, rfl, hlt b (hb (by simp)), TRl.lent hlt (by simp) g1, g2⟩, h2⟩
    · rename_i k r'
      split at hd
      · rename_i bs hg
        split at hd
        · rename_i y hy
          simp only [Option.some.injEq, Prod.mk.injEq] at hd
          obtain ⟨rfl, rfl⟩ := hd
          simp only [VRl, VR, hg] at H
          obtain ⟨u, us', rfl, ⟨_, A, rfl, rfl⟩, h2⟩ := H
          obtain ⟨L, hR, hI⟩ := HH k _ hg
          simp only [RR] at hR
          obtain ⟨rfl, _, _, vs, g1, g2⟩ := hR
          obtain ⟨v1, v2, rfl, k1, k2⟩ := seeT_I HH hlt hy g1
          simp only [VRl] at k2
          subst k2
          exact ⟨[_], us', rfl, ⟨(μ k).blk, (μ k).off, v1, by simp, rfl, hI _ (by simp), k1, by simpa using g2⟩, h2⟩
        · simp at hd
      · simp at hd
  | .cl g t, cs, r, x, us, hd, H => by
    simp only [seeT] at hd
    split at hd <;> first | (simp at hd; done) | skip
    rename_i g' ca r'
    cases hb : Nat.beq g' g with
    | false => rw [hb] at hd; simp at hd
    | true =>
      have hg := Nat.eq_of_beq_eq_true hb
      subst hg
      rw [hb] at hd
      simp only [cond_true] at hd
      split at hd
      · rename_i y hy
        simp only [Option.some.injEq, Prod.mk.injEq] at hd
        obtain ⟨rfl, rfl⟩ := hd
        simp only [VRl, VR] at H
        obtain ⟨u, us', rfl, ⟨u0, vs, rfl, rfl, g2⟩, h2⟩ := H
        obtain ⟨v1, v2, rfl, k1, k2⟩ := seeT_I HH hlt hy g2
        simp only [VRl] at k2
        subst k2
        exact ⟨[_], us', rfl, ⟨v1, by simp, rfl, k1⟩, h2⟩
      · simp at hd
theorem see1_I {I ok' : Nat → Prop} (HH : ∀ r x, hget h r = some x → ∃ L, RR w imm ok μ h n r x L ∧ ∀ b ∈ L, I b) (hlt : ∀ b, imm b → I b) {t : Ty} {cs : List TV} {x : den t} {us : List Value} (hd : see1 h t cs = some x) (H : VRl w imm ok μ h n cs us) : TRl w I ok' t x us [] := by
  unfold see1 at hd
  split at hd
  · rename_i y hy
    simp only [Option.some.injEq] at hd; subst hd
    obtain ⟨u1, u2, rfl, h1, h2⟩ := seeT_I (ok' := ok') HH hlt hy H
    simp only [VRl] at h2
    subst h2
    simpa using h1
  · simp at hd
theorem see1_ok {D : List Nat} (HH : HR w imm ok μ h n D) (hlt : ∀ b, imm b → b < w.heap.size) {t : Ty} {cs : List TV} {x : den t} {us : List Value} (hd : see1 h t cs = some x) (H : VRl w imm ok μ h n cs us) : TRl w (· < w.heap.size) (· ∈ ([] : List Nat)) t x us [] :=
  see1_I (fun r x hx => by obtain ⟨L, h1, h2⟩ := HH.rowI r x hx; exact ⟨L, h1, fun b hb => (h2 b hb).1⟩) hlt hd H
/-- Flat cells are seen without the heap. -/
theorem frzC_flat {c : TV} (hf : flatV c = true) : frzC h c = frzC [] c := by
  cases c <;> first | rfl | (simp [flatV] at hf)
theorem seeT_flat : ∀ {t : Ty} {cs : List TV}, flatB cs = true → seeT h t cs = seeT [] t cs ∧ ∀ x r, seeT h t cs = some (x, r) → flatB r = true
  | .int k, cs, hf => by
    refine ⟨rfl, fun x r hd => ?_⟩
    simp only [seeT] at hd
    split at hd <;> first | (simp at hd; done) | skip
    split at hd
    · simp only [Option.some.injEq, Prod.mk.injEq] at hd; obtain ⟨_, rfl⟩ := hd
      simp only [flatB, Bool.and_eq_true] at hf; exact hf.2
    · simp at hd
  | .bool, cs, hf => by
    refine ⟨rfl, fun x r hd => ?_⟩
    simp only [seeT] at hd
    split at hd <;> first | (simp at hd; done) | skip
    simp only [Option.some.injEq, Prod.mk.injEq] at hd; obtain ⟨_, rfl⟩ := hd
    simp only [flatB, Bool.and_eq_true] at hf; exact hf.2
  | .str, cs, hf => by
    refine ⟨rfl, fun x r hd => ?_⟩
    simp only [seeT] at hd
    split at hd <;> first | (simp at hd; done) | skip
    simp only [Option.some.injEq, Prod.mk.injEq] at hd; obtain ⟨_, rfl⟩ := hd
    simp only [flatB, Bool.and_eq_true] at hf; exact hf.2
  | .un, cs, hf => by
    refine ⟨rfl, fun x r hd => ?_⟩
    simp only [seeT, Option.some.injEq, Prod.mk.injEq] at hd; obtain ⟨_, rfl⟩ := hd; exact hf
  | .pr a b, cs, hf => by
    obtain ⟨e1, f1⟩ := seeT_flat (t := a) hf
    refine ⟨?_, fun x r hd => ?_⟩
    · simp only [seeT]
      rw [← e1]
      cases he : seeT h a cs with
      | none => rfl
      | some p => simp only [Option.bind_some]; rw [(seeT_flat (t := b) (f1 p.1 p.2 he)).1]
    · simp only [seeT, Option.bind_eq_some_iff, Option.some.injEq, Prod.mk.injEq] at hd
      obtain ⟨⟨x1, r1⟩, hd1, ⟨x2, r2⟩, hd2, _, rfl⟩ := hd
      exact (seeT_flat (t := b) (f1 _ _ hd1)).2 _ _ hd2
  | .sl t, cs, hf => by
    cases cs with
    | nil => exact ⟨rfl, fun x r hd => by simp [seeT] at hd⟩
    | cons c cs =>
      simp only [flatB, Bool.and_eq_true] at hf
      refine ⟨by simp only [seeT]; rw [frzC_flat hf.1], fun x r hd => ?_⟩
      simp only [seeT, Option.bind_eq_some_iff] at hd
      obtain ⟨f, _, hd⟩ := hd
      split at hd
      · simp only [Option.bind_eq_some_iff, Option.some.injEq, Prod.mk.injEq] at hd
        obtain ⟨_, _, _, rfl⟩ := hd; exact hf.2
      · simp only [Option.some.injEq, Prod.mk.injEq] at hd; obtain ⟨_, rfl⟩ := hd; exact hf.2
      · simp at hd
  | .ref t, cs, hf => by
    simp only [seeT]
    split
    · simp only [flatB, Bool.and_eq_true] at hf
      refine ⟨rfl, fun x r hd => ?_⟩
      simp only [Option.bind_eq_some_iff, Option.some.injEq, Prod.mk.injEq] at hd
      obtain ⟨_, _, _, rfl⟩ := hd; exact hf.2
    · simp [flatB, flatV] at hf
    · exact ⟨rfl, fun x r hd => by simp at hd⟩
  | .cl g t, cs, hf => by
    simp only [seeT]
    split
    · rename_i g' ca r'
      simp only [flatB, flatV, Bool.and_eq_true] at hf
      obtain ⟨e1, f1⟩ := seeT_flat (t := t) hf.1.2
      rw [← e1]
      refine ⟨rfl, fun x r hd => ?_⟩
      cases hb : Nat.beq g' g with
      | false => rw [hb] at hd; simp at hd
      | true =>
        rw [hb] at hd
        simp only [cond_true] at hd
        split at hd
        · simp only [Option.some.injEq, Prod.mk.injEq] at hd; obtain ⟨_, rfl⟩ := hd; exact hf.2
        · simp at hd
    · exact ⟨rfl, fun x r hd => by simp at hd⟩
theorem see1_flat {t : Ty} {cs : List TV} {x : den t} {us : List Value} (hf : flatB cs = true) (hd : see1 h t cs = some x) (H : VRl w imm ok μ h n cs us) : TRl w imm (· ∈ ([] : List Nat)) t x us [] := by
  have hd' : see1 [] t cs = some x := by unfold see1 at hd ⊢; rw [← (seeT_flat hf).1]; exact hd
  exact see1_I (h := []) (fun r x hx => by simp [hget] at hx) (fun _ h => h) hd' (FVl.vrl (μ := μ) (h := []) (n := n) _ _ (FVl.of _ _ hf H))
theorem cellsOf_clist {t : Ty} {x : TV} {cs : List TV} (hc : cellsOf t x = some cs) : clist x = cs := by
  unfold cellsOf at hc
  split at hc
  · obtain ⟨_, hc⟩ := cond_some.1 hc; simp only [Option.some.injEq] at hc; subst hc; rfl
  · rename_i hne
    cases hb : isAg t with
    | true => simp [hb] at hc
    | false =>
      simp only [hb, cond_false, Option.some.injEq] at hc; subst hc
      unfold clist; split
      · rename_i cs; exact absurd rfl (hne cs)
      · rfl
/-- Arguments, as a callee sees them. -/
theorem argL_ok (HH : HR w imm ok μ h n []) (hlt : ∀ b, imm b → b < w.heap.size) : ∀ {ps : List (Ty × Bool)} {xs : List TV} {vs : List Value} {x : den (prodT (ps.map (·.1)))}, argL h ps xs = some x → VRl w imm ok μ h n xs vs → ps.all (!·.2) = true →
    ArgR w (· < w.heap.size) (· ∈ ([] : List Nat)) ps x vs [] ∧ (flatA xs = true → ArgR w imm (· ∈ ([] : List Nat)) ps x vs [])
  | [], [], vs, x, ha, H, _ => by
    simp only [VRl] at H; subst H
    exact ⟨⟨rfl, rfl⟩, fun _ => ⟨rfl, rfl⟩⟩
  | [], _ :: _, _, _, ha, _, _ => by simp [argL] at ha
  | _ :: _, [], _, _, ha, _, _ => by simp [argL] at ha
  | p :: ps, y :: xs, vs, x, ha, H, hp => by
    simp only [argL, Option.bind_eq_some_iff, Option.some.injEq] at ha
    obtain ⟨cs, hcs, d, hd, z, hz, hxe⟩ := ha
    cases hxe
    simp only [VRl] at H
    obtain ⟨u, vs', rfl, h1, h2⟩ := H
    simp only [List.all_cons, Bool.and_eq_true, Bool.not_eq_true'] at hp
    obtain ⟨us, rfl, hv⟩ := cellsOf_vr hcs h1
    obtain ⟨ih1, ih2⟩ := argL_ok HH hlt hz h2 hp.2
    refine ⟨⟨us, vs', [], [], rfl, rfl, fun _ => ⟨?_, rfl⟩, fun e => by rw [hp.1] at e; simp at e, ih1⟩, fun hf => ?_⟩
    · exact see1_ok HH hlt hd hv
    · simp only [flatA, List.all_cons, Bool.and_eq_true] at hf
      rw [cellsOf_clist hcs] at hf
      refine ⟨us, vs', [], [], rfl, rfl, fun _ => ⟨?_, rfl⟩, fun e => by rw [hp.1] at e; simp at e, ih2 hf.2⟩
      exact see1_flat hf.1 hd hv
end
end Go.Tw
