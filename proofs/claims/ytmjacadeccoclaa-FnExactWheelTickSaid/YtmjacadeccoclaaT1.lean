/- A step of the typed logic of this claim is proved here: what an operation does to the data that slots and memory stand for. -/
import Derived.Test.YtmjacadeccoclaaT0
set_option linter.all false
namespace Go.Tw
open Go Go.RowKit

inductive TV where
  | p (v : Value)
  | tr (t : Ty) (l : List (den t))
  | full (r : Nat)
  | sub (r off len : Nat)
  | inn (r i off : Nat)
  | ptr (r i off : Nat)
  | iptr (t : Ty) (l : List (den t)) (i off : Nat)
  | agg (cs : List TV)
  | tup (cs : List TV)
  | ifc (t : TypeId) (x : TV)
  | fn (f : Fn) (first cap : List TV)
  | mp (r : Nat)
  | undef
  deriving Inhabited

inductive Reg where
  | row (fr : Bool) (t : Ty) (l : List (den t))
  | box (cs : List TV)
  | mp (k : IntKind) (l : List (Int × Bool))
  deriving Inhabited

structure Mu where
  blk : Nat
  off : Nat
  bk : Bool

abbrev Heap := List (Nat × Reg)

def hget : Heap → Nat → Option Reg
  | [], _ => none
  | (k, x) :: h, r => if r = k then some x else hget h r
def hset : Heap → Nat → Reg → Heap
  | [], r, y => [(r, y)]
  | (k, x) :: h, r, y => if r = k then (k, y) :: h else (k, x) :: hset h r y
def hdel : Heap → Nat → Heap
  | [], _ => []
  | (k, x) :: h, r => if r = k then hdel h r else (k, x) :: hdel h r

theorem hget_hset (h : Heap) (r r' : Nat) (y : Reg) : hget (hset h r y) r' = if r' = r then some y else hget h r' := by
  induction h with
  | nil => simp [hset, hget]
  | cons p h ih =>
    obtain ⟨k, x⟩ := p
    simp only [hset]
    by_cases hk : r = k
    · subst hk; simp only [↓reduceIte, hget]; split <;> rfl
    · simp only [hk, ↓reduceIte, hget, ih]
      by_cases hr : r' = k
      · subst hr; simp [Ne.symm hk]
      · simp [hr]
theorem hget_hdel (h : Heap) (r r' : Nat) : hget (hdel h r) r' = if r' = r then none else hget h r' := by
  induction h with
  | nil => simp [hdel, hget]
  | cons p h ih =>
    obtain ⟨k, x⟩ := p
    simp only [hdel]
    by_cases hk : r = k
    · subst hk; simp only [↓reduceIte, hget, ih]; split <;> simp_all
    · simp only [hk, ↓reduceIte, hget, ih]
      by_cases hr : r' = k
      · subst hr; simp [Ne.symm hk]
      · simp [hr]
theorem hsub_hdel {h : Heap} {r r' : Nat} {x : Reg} (hx : hget (hdel h r) r' = some x) : hget h r' = some x := by
  rw [hget_hdel] at hx; split at hx
  · simp at hx
  · exact hx

/-- has slices in it -/
def hasSl : Ty → Bool
  | .sl _ => true
  | .ref _ => true
  | .cl _ _ => true
  | .pr a b => hasSl a || hasSl b
  | _ => false

/-- nothing borrowed -/
def immf (fr : Bool) (imm : Nat → Prop) : Nat → Prop := fun b => fr = false ∧ imm b
theorem immf_sub {fr : Bool} {imm : Nat → Prop} {b : Nat} (h : immf fr imm b) : imm b := h.2

/-- A slice of a region's elements. -/
def SlR (w : World) (m : Mu) (s off len : Nat) (v : Value) : Prop :=
  (v = .slice none 0 0 ∧ len = 0) ∨
  ∃ o cap, v = .slice (some ⟨m.blk, o, none⟩) len cap ∧ len ≤ cap ∧ m.bk = true ∧ Row w m.blk o ∧ (0 < cap → o = m.off + off * s ∧ Row w m.blk (o + cap * s))

/-- a map's block -/
def MapAt (w : World) (b : Nat) (k : IntKind) (l : List (Int × Bool)) : Prop :=
  ∃ es c, w.heap[b]? = some (.map es c) ∧ es.toList.map (fun e => (e.key, e.val)) = l.map fun p => (Value.int k p.1, Value.bool p.2)
theorem MapAt.same {w w' : World} {b : Nat} {k : IntKind} {l : List (Int × Bool)} (H : MapAt w b k l) (h : w'.heap[b]? = w.heap[b]?) : MapAt w' b k l := by
  obtain ⟨es, c, h1, h2⟩ := H
  exact ⟨es, c, h.trans h1, h2⟩
theorem MapAt.lt {w : World} {b : Nat} {k : IntKind} {l : List (Int × Bool)} (H : MapAt w b k l) : b < w.heap.size := by
  obtain ⟨es, c, h1, _⟩ := H
  exact (Array.getElem?_eq_some_iff.1 h1).1

section
variable (w : World) (imm ok : Nat → Prop) (μ : Nat → Mu) (h : Heap) (n : Nat)
mutual
def VR : TV → Value → Prop
  | .p u, v => v = u
  | .tr t l, v => TRl w imm ok (.sl t) l [v] []
  | .full r, v => r < n ∧ (match hget h r with
      | some (.row _ t l) => SlR w (μ r) (sz t) 0 l.length v
      | _ => ∃ A m c, v = .slice A m c)
  | .sub r off len, v => r < n ∧ (match hget h r with
      | some (.row _ t l) => off + len ≤ l.length ∧ SlR w (μ r) (sz t) off len v
      | _ => ∃ A m c, v = .slice A m c)
  | .inn r i off, v => r < n ∧ v.oneCell' = true ∧ (match hget h r with
      | some (.row _ t l) => hasSl t = true ∧ i < l.length ∧ (μ r).bk = true ∧ w.cell? ⟨(μ r).blk, (μ r).off + i * sz t + off, none⟩ = some v
      | _ => True)
  | .ptr r i off, v => r < n ∧ ∃ A, v = .pointer (some A) ∧ (match hget h r with
      | some (.row _ t _) => A = ⟨(μ r).blk, (μ r).off + i * sz t + off, none⟩
      | some (.box _) => A = ⟨(μ r).blk, (μ r).off + off, none⟩
      | _ => True)
  | .iptr t l i off, v => ∃ b o, v = .pointer (some ⟨b, o + i * sz t + off, none⟩) ∧ (l ≠ [] → imm b) ∧ RL (TRc w imm ok t) (sz t) l b o []
  | .agg cs, v => ∃ us : List Value, v = .agg us.toArray ∧ VRl cs us
  | .tup cs, v => ∃ us : List Value, v = .tuple us.toArray ∧ VRl cs us
  | .ifc t x, v => ∃ u, v = .iface t u ∧ VR x u
  | .fn f fi ca, v => ∃ us vs : List Value, v = .func f us.toArray vs.toArray ∧ VRl fi us ∧ VRl ca vs
  | .mp r, v => r < n ∧ ∃ b, v = .map (some b) ∧ (match hget h r with
      | some (.mp _ _) => b = (μ r).blk
      | _ => True)
  | .undef, _ => True
def VRl : List TV → List Value → Prop
  | [], us => us = []
  | c :: cs, us => ∃ u us', us = u :: us' ∧ VR c u ∧ VRl cs us'
end

def RR (r : Nat) : Reg → List Nat → Prop
  | .row fr t l, L => ((μ r).bk = false ∧ l = [] ∧ L = []) ∨
      ((μ r).bk = true ∧ ∃ L', L = (μ r).blk :: L' ∧ ok (μ r).blk ∧ Row w (μ r).blk ((μ r).off + l.length * sz t) ∧ RL (TRc w (immf fr imm) ok t) (sz t) l (μ r).blk (μ r).off L')
  | .box cs, L => L = [(μ r).blk] ∧ ok (μ r).blk ∧ Row w (μ r).blk ((μ r).off + cs.length) ∧ ∃ us, VRl w imm ok μ h n cs us ∧ At w (μ r).blk (μ r).off us
  | .mp k l, L => L = [(μ r).blk] ∧ ok (μ r).blk ∧ MapAt w (μ r).blk k l

/-- The heap: every region is there, and each block belongs to one region at most. D: blocks of trees that are held aside. -/
def HR (D : List Nat) : Prop := ∃ own : Nat → Option Nat, (∀ r x, hget h r = some x → r < n ∧ ∃ L, RR w imm ok μ h n r x L ∧ L.Nodup ∧ ∀ b ∈ L, own b = some r) ∧ D.Nodup ∧ (∀ b ∈ D, own b = none)
end

/-- A region may be read as before by whoever holds a reference. -/
def Fit : Option Reg → Option Reg → Prop
  | some (.row _ t l), some (.row _ t' l') => t' = t ∧ l'.length = l.length
  | some (.box _), some (.box _) => True
  | some (.mp _ _), some (.mp _ _) => True
  | _, none => True
  | _, _ => False
theorem Fit.refl (x : Option Reg) : Fit x x := by
  cases x with
  | none => trivial
  | some x => cases x <;> simp [Fit]

structure Step (imm : Nat → Prop) (w w' : World) : Prop where
  low : ∀ b, imm b → w'.heap[b]? = w.heap[b]?
  row : ∀ b m, Row w b m → Row w' b m
theorem Step.refl (imm : Nat → Prop) (w : World) : Step imm w w := ⟨fun _ _ => rfl, fun _ _ h => h⟩
theorem Step.trans {imm : Nat → Prop} {a b c : World} (h : Step imm a b) (k : Step imm b c) : Step imm a c :=
  ⟨fun x hx => (k.low x hx).trans (h.low x hx), fun x m hr => k.row x m (h.row x m hr)⟩
theorem Step.of_below {imm : Nat → Prop} {w w' : World} (hb : Below w.heap.size w w') (hi : ∀ b, imm b → b < w.heap.size) : Step imm w w' :=
  ⟨fun b h => hb.block b (hi b h), fun b m hr => hr.same (hb.block b hr.lt)⟩

mutual
/-- inner slices of such regions only -/
def innOk (K : Nat → Prop) : TV → Prop
  | .inn r _ _ => K r
  | .agg cs => innOkl K cs
  | .tup cs => innOkl K cs
  | .ifc _ x => innOk K x
  | .fn _ fi ca => innOkl K fi ∧ innOkl K ca
  | _ => True
def innOkl (K : Nat → Prop) : List TV → Prop
  | [] => True
  | c :: cs => innOk K c ∧ innOkl K cs
end
mutual
theorem innOk_true : ∀ x, innOk (fun _ => True) x
  | .inn _ _ _ => trivial
  | .agg cs => by simp only [innOk]; exact innOkl_true cs
  | .tup cs => by simp only [innOk]; exact innOkl_true cs
  | .ifc _ x => by simp only [innOk]; exact innOk_true x
  | .fn _ fi ca => by simp only [innOk]; exact ⟨innOkl_true fi, innOkl_true ca⟩
  | .p _ => trivial
  | .tr _ _ => trivial
  | .full _ => trivial
  | .sub _ _ _ => trivial
  | .ptr _ _ _ => trivial
  | .iptr _ _ _ _ => trivial
  | .mp _ => trivial
  | .undef => trivial
theorem innOkl_true : ∀ xs, innOkl (fun _ => True) xs
  | [] => trivial
  | x :: xs => ⟨innOk_true x, innOkl_true xs⟩
end

/-- What a change of the world and of the shadow keeps. -/
structure Kept (K : Nat → Prop) (imm imm' ok ok' : Nat → Prop) (w w' : World) (μ μ' : Nat → Mu) (h h' : Heap) (n n' : Nat) : Prop where
  step : Step imm w w'
  immL : ∀ b, imm b → imm' b
  okL : ∀ b, ok b → ok' b
  mu : ∀ r, r < n → μ' r = μ r
  nle : n ≤ n'
  fit : ∀ r, r < n → Fit (hget h r) (hget h' r)
  inn : ∀ r fr t l, r < n → K r → hget h r = some (.row fr t l) → hasSl t = true → (μ r).bk = true → w'.heap[(μ r).blk]? = w.heap[(μ r).blk]?

section
variable {K : Nat → Prop} {imm imm' ok ok' : Nat → Prop} {w w' : World} {μ μ' : Nat → Mu} {h h' : Heap} {n n' : Nat}

theorem SlR.mono {m : Mu} {s off len : Nat} {v : Value} (hs : ∀ b m, Row w b m → Row w' b m) (H : SlR w m s off len v) : SlR w' m s off len v := by
  rcases H with H | ⟨o, cap, h1, h2, h3, h4, h5⟩
  · exact .inl H
  · exact .inr ⟨o, cap, h1, h2, h3, hs _ _ h4, fun hp => ⟨(h5 hp).1, hs _ _ (h5 hp).2⟩⟩
theorem SlR.slice {m : Mu} {s off len : Nat} {v : Value} (H : SlR w m s off len v) : ∃ A m c, v = .slice A m c := by
  rcases H with ⟨rfl, _⟩ | ⟨o, cap, rfl, _⟩ <;> exact ⟨_, _, _, rfl⟩

mutual
theorem VR.mono (kp : Kept K imm imm' ok ok' w w' μ μ' h h' n n') : ∀ (x : TV) (v : Value), innOk K x → VR w imm ok μ h n x v → VR w' imm' ok' μ' h' n' x v
  | .p u, v, _, H => by simpa [VR] using H
  | .tr t l, v, _, H => by
    simp only [VR] at H ⊢
    exact H.mono kp.immL kp.okL kp.step.low (by simp)
  | .full r, v, _, H => by
    simp only [VR] at H ⊢
    obtain ⟨hr, H⟩ := H
    refine ⟨Nat.lt_of_lt_of_le hr kp.nle, ?_⟩
    have hf := kp.fit r hr
    cases h2 : hget h' r with
    | none =>
      simp only
      split at H
      · exact H.slice
      · exact H
    | some y =>
      cases y with
      | box cs =>
        simp only
        split at H
        · exact H.slice
        · exact H
      | mp k l =>
        simp only
        split at H
        · exact H.slice
        · exact H
      | row fr' t' l' =>
        cases h1 : hget h r with
        | none => simp [h1, h2, Fit] at hf
        | some x =>
          cases x with
          | box _ => simp [h1, h2, Fit] at hf
          | mp _ _ => simp [h1, h2, Fit] at hf
          | row fr t l =>
            simp only [h1, h2, Fit] at hf H ⊢
            obtain ⟨rfl, hl⟩ := hf
            rw [kp.mu r hr, hl]; exact H.mono kp.step.row
  | .sub r off len, v, _, H => by
    simp only [VR] at H ⊢
    obtain ⟨hr, H⟩ := H
    refine ⟨Nat.lt_of_lt_of_le hr kp.nle, ?_⟩
    have hf := kp.fit r hr
    cases h2 : hget h' r with
    | none =>
      simp only
      split at H
      · exact H.2.slice
      · exact H
    | some y =>
      cases y with
      | box cs =>
        simp only
        split at H
        · exact H.2.slice
        · exact H
      | mp k l =>
        simp only
        split at H
        · exact H.2.slice
        · exact H
      | row fr' t' l' =>
        cases h1 : hget h r with
        | none => simp [h1, h2, Fit] at hf
        | some x =>
          cases x with
          | box _ => simp [h1, h2, Fit] at hf
          | mp _ _ => simp [h1, h2, Fit] at hf
          | row fr t l =>
            simp only [h1, h2, Fit] at hf H ⊢
            obtain ⟨rfl, hl⟩ := hf
            rw [kp.mu r hr, hl]; exact ⟨H.1, H.2.mono kp.step.row⟩
  | .inn r i off, v, hi, H => by
    simp only [VR] at H ⊢
    obtain ⟨hr, h0, H⟩ := H
    refine ⟨Nat.lt_of_lt_of_le hr kp.nle, h0, ?_⟩
    have hf := kp.fit r hr
    cases h2 : hget h' r with
    | none => trivial
    | some y =>
      cases y with
      | box cs => trivial
      | mp k l => trivial
      | row fr' t' l' =>
        cases h1 : hget h r with
        | none => simp [h1, h2, Fit] at hf
        | some x =>
          cases x with
          | box _ => simp [h1, h2, Fit] at hf
          | mp _ _ => simp [h1, h2, Fit] at hf
          | row fr t l =>
            simp only [h1, h2, Fit] at hf H ⊢
            obtain ⟨rfl, hl⟩ := hf
            obtain ⟨g1, g4, g2, g3⟩ := H
            rw [kp.mu r hr, hl]
            exact ⟨g1, g4, g2, by rw [cell_same (kp.inn r _ _ _ hr (by simpa [innOk] using hi) h1 g1 g2)]; exact g3⟩
  | .ptr r i off, v, _, H => by
    simp only [VR] at H ⊢
    obtain ⟨hr, A, hv, H⟩ := H
    refine ⟨Nat.lt_of_lt_of_le hr kp.nle, A, hv, ?_⟩
    have hf := kp.fit r hr
    cases h2 : hget h' r with
    | none => trivial
    | some y =>
      cases h1 : hget h r with
      | none => simp [h1, h2, Fit] at hf
      | some x =>
        cases y with
        | box cs =>
          cases x with
          | row _ _ _ => simp [h1, h2, Fit] at hf
          | mp _ _ => simp [h1, h2, Fit] at hf
          | box _ => simp only [h1] at H ⊢; rw [kp.mu r hr]; exact H
        | mp _ _ => trivial
        | row fr' t' l' =>
          cases x with
          | box _ => simp [h1, h2, Fit] at hf
          | mp _ _ => simp [h1, h2, Fit] at hf
          | row fr t l =>
            simp only [h1, h2, Fit] at hf H ⊢
            obtain ⟨rfl, hl⟩ := hf
            rw [kp.mu r hr]; exact H
  | .iptr t l i off, v, _, H => by
    simp only [VR] at H ⊢
    obtain ⟨b, o, hv, hb, he⟩ := H
    refine ⟨b, o, hv, fun hl => kp.immL b (hb hl), ?_⟩
    cases l with
    | nil => simpa [RL] using he
    | cons y l => exact RL.imp (fun x hx o L' hL hr => TRc.mono kp.immL kp.okL kp.step.low (fun b hb => by simpa using hL b hb) (kp.step.low b (hb (by simp))) hr) he
  | .agg cs, v, hi, H => by
    simp only [VR, innOk] at hi H ⊢
    obtain ⟨us, hv, hx⟩ := H
    exact ⟨us, hv, VRl.mono kp cs us hi hx⟩
  | .tup cs, v, hi, H => by
    simp only [VR, innOk] at hi H ⊢
    obtain ⟨us, hv, hx⟩ := H
    exact ⟨us, hv, VRl.mono kp cs us hi hx⟩
  | .ifc t x, v, hi, H => by
    simp only [VR, innOk] at hi H ⊢
    obtain ⟨u, hv, hx⟩ := H
    exact ⟨u, hv, VR.mono kp x u hi hx⟩
  | .fn f fi ca, v, hi, H => by
    simp only [VR, innOk] at hi H ⊢
    obtain ⟨us, vs, hv, h1, h2⟩ := H
    exact ⟨us, vs, hv, VRl.mono kp fi us hi.1 h1, VRl.mono kp ca vs hi.2 h2⟩
  | .mp r, v, _, H => by
    simp only [VR] at H ⊢
    obtain ⟨hr, b, hv, H⟩ := H
    refine ⟨Nat.lt_of_lt_of_le hr kp.nle, b, hv, ?_⟩
    have hf := kp.fit r hr
    cases h2 : hget h' r with
    | none => trivial
    | some y =>
      cases y with
      | row _ _ _ => trivial
      | box _ => trivial
      | mp k' l' =>
        cases h1 : hget h r with
        | none => simp [h1, h2, Fit] at hf
        | some x =>
          cases x with
          | row _ _ _ => simp [h1, h2, Fit] at hf
          | box _ => simp [h1, h2, Fit] at hf
          | mp k l => simp only [h1] at H ⊢; rw [kp.mu r hr]; exact H
  | .undef, _, _, _ => by simp [VR]
theorem VRl.mono (kp : Kept K imm imm' ok ok' w w' μ μ' h h' n n') : ∀ (cs : List TV) (us : List Value), innOkl K cs → VRl w imm ok μ h n cs us → VRl w' imm' ok' μ' h' n' cs us
  | [], us, _, H => by simpa [VRl] using H
  | c :: cs, us, hi, H => by
    simp only [VRl, innOkl] at hi H ⊢
    obtain ⟨u, us', hu, h1, h2⟩ := H
    exact ⟨u, us', hu, VR.mono kp c u hi.1 h1, VRl.mono kp cs us' hi.2 h2⟩
end

def innOkR (K : Nat → Prop) : Reg → Prop
  | .row _ _ _ => True
  | .box cs => innOkl K cs
  | .mp _ _ => True
theorem innOkR_true (x : Reg) : innOkR (fun _ => True) x := by
  cases x with
  | row => trivial
  | box cs => exact innOkl_true cs
  | mp => trivial

theorem RR.mono (kp : Kept K imm imm' ok ok' w w' μ μ' h h' n n') {r : Nat} {x : Reg} {L : List Nat} (hr : r < n) (hx : innOkR K x) (hL : ∀ b ∈ L, w'.heap[b]? = w.heap[b]?) (H : RR w imm ok μ h n r x L) : RR w' imm' ok' μ' h' n' r x L := by
  cases x with
  | row fr t l =>
    simp only [RR] at H ⊢
    rw [kp.mu r hr]
    rcases H with H | ⟨hb, L', rfl, h1, h2, h3⟩
    · exact .inl H
    · refine .inr ⟨hb, L', rfl, kp.okL _ h1, kp.step.row _ _ h2, RL.imp (fun x hx o L' hL' hr => TRc.mono (fun b hb => ⟨hb.1, kp.immL b hb.2⟩) kp.okL (fun b hb => kp.step.low b hb.2) (fun b hb => hL b (by simp [hL' b hb])) (hL _ (by simp)) hr) h3⟩
  | box cs =>
    simp only [RR] at H ⊢
    rw [kp.mu r hr]
    obtain ⟨rfl, h1, h2, us, h3, h4⟩ := H
    exact ⟨rfl, kp.okL _ h1, kp.step.row _ _ h2, us, VRl.mono kp _ _ hx h3, h4.same (hL _ (by simp))⟩
  | mp k l =>
    simp only [RR] at H ⊢
    rw [kp.mu r hr]
    obtain ⟨rfl, h1, h2⟩ := H
    exact ⟨rfl, kp.okL _ h1, h2.same (hL _ (by simp))⟩

theorem RR.blocks {r : Nat} {x : Reg} {L : List Nat} (H : RR w imm ok μ h n r x L) : ∀ b ∈ L, ok b ∧ b < w.heap.size := by
  cases x with
  | row fr t l =>
    simp only [RR] at H
    rcases H with ⟨_, _, rfl⟩ | ⟨hb, L', rfl, h1, h2, h3⟩
    · simp
    · intro b hb
      rcases List.mem_cons.1 hb with rfl | hb
      · exact ⟨h1, h2.lt⟩
      · exact RL.mem (p := fun b => ok b ∧ b < w.heap.size) (fun x _ o L' ⟨us, h, _⟩ => TRl.blocks h) h3 b hb
  | box cs =>
    simp only [RR] at H
    obtain ⟨rfl, h1, h2, _⟩ := H
    intro b hb; simp at hb; subst hb; exact ⟨h1, h2.lt⟩
  | mp k l =>
    simp only [RR] at H
    obtain ⟨rfl, h1, h2⟩ := H
    intro b hb; simp at hb; subst hb; exact ⟨h1, h2.lt⟩
theorem RR.blk {r : Nat} {fr : Bool} {t : Ty} {l : List (den t)} {L : List Nat} (H : RR w imm ok μ h n r (.row fr t l) L) (hb : (μ r).bk = true) : (μ r).blk ∈ L := by
  simp only [RR] at H
  rcases H with ⟨h1, _⟩ | ⟨_, L', rfl, _⟩
  · rw [hb] at h1; simp at h1
  · simp

theorem Kept.id (hi : ∀ b, imm b → imm' b) (ho : ∀ b, ok b → ok' b) (hn : n ≤ n') : Kept (fun _ => True) imm imm' ok ok' w w μ μ h h n n' :=
  ⟨Step.refl _ _, hi, ho, fun _ _ => rfl, hn, fun _ _ => Fit.refl _, fun _ _ _ _ _ _ _ _ _ => rfl⟩

/-- Nothing that was there has turned. -/
theorem HR.quiet {D : List Nat} (hb : Below w.heap.size w w') (hi : ∀ b, imm b → b < w.heap.size) (hn : n ≤ n') (H : HR w imm ok μ h n D) : HR w' imm ok μ h n' D := by
  obtain ⟨own, H, hD⟩ := H
  refine ⟨own, fun r x hx => ?_, hD⟩
  obtain ⟨hr, L, hR, hnd, ho⟩ := H r x hx
  refine ⟨Nat.lt_of_lt_of_le hr hn, L, RR.mono (K := fun _ => True) ⟨Step.of_below hb hi, fun _ h => h, fun _ h => h, fun _ _ => rfl, hn, fun _ _ => Fit.refl _, ?_⟩ hr (innOkR_true _) (fun b hm => hb.block b (RR.blocks hR b hm).2) hR, hnd, ho⟩
  intro r fr t l _ _ hg _ hbk
  obtain ⟨_, L, hR, _, _⟩ := H r _ hg
  exact hb.block _ (RR.blocks hR _ (hR.blk hbk)).2
theorem HR.kept_quiet {D : List Nat} (hb : Below w.heap.size w w') (hi : ∀ b, imm b → b < w.heap.size) (hn : n ≤ n') (H : HR w imm ok μ h n D) : Kept (fun _ => True) imm imm ok ok w w' μ μ h h n n' := by
  obtain ⟨own, H, hD⟩ := H
  refine ⟨Step.of_below hb hi, fun _ h => h, fun _ h => h, fun _ _ => rfl, hn, fun _ _ => Fit.refl _, ?_⟩
  intro r fr t l _ _ hg _ hbk
  obtain ⟨_, L, hR, _, _⟩ := H r _ hg
  exact hb.block _ (RR.blocks hR _ (hR.blk hbk)).2

theorem Fit.none_right (x : Option Reg) : Fit x none := by cases x with | none => trivial | some x => cases x <;> trivial
theorem Fit.sub (hh : ∀ r x, hget h' r = some x → hget h r = some x) (r : Nat) : Fit (hget h r) (hget h' r) := by
  cases h2 : hget h' r with
  | none => exact Fit.none_right _
  | some x => rw [hh r x h2]; exact Fit.refl _
theorem Kept.sub (hh : ∀ r x, hget h' r = some x → hget h r = some x) : Kept (fun _ => True) imm imm ok ok w w μ μ h h' n n :=
  ⟨Step.refl _ _, fun _ h => h, fun _ h => h, fun _ _ => rfl, Nat.le_refl _, fun r _ => Fit.sub hh r, fun _ _ _ _ _ _ _ _ _ => rfl⟩

/-- What is forgotten does no harm. -/
theorem HR.sub {D : List Nat} (hh : ∀ r x, hget h' r = some x → hget h r = some x) (H : HR w imm ok μ h n D) : HR w imm ok μ h' n D := by
  obtain ⟨own, H, hD⟩ := H
  refine ⟨own, fun r x hx => ?_, hD⟩
  obtain ⟨ha, L, hR, hn, ho⟩ := H r x (hh r x hx)
  exact ⟨ha, L, RR.mono (Kept.sub hh) ha (innOkR_true _) (fun _ _ => rfl) hR, hn, ho⟩
theorem HR.up {D : List Nat} (hn : n ≤ n') (H : HR w imm ok μ h n D) : HR w imm ok μ h n' D := by
  obtain ⟨own, H, hD⟩ := H
  refine ⟨own, fun r x hx => ?_, hD⟩
  obtain ⟨ha, L, hR, hnd, ho⟩ := H r x hx
  exact ⟨Nat.lt_of_lt_of_le ha hn, L, RR.mono (Kept.id (fun _ h => h) (fun _ h => h) hn) ha (innOkR_true _) (fun _ _ => rfl) hR, hnd, ho⟩

/-- New blocks are held aside. -/
theorem HR.fresh {D D' : List Nat} (hb : Below w.heap.size w w') (hi : ∀ b, imm b → b < w.heap.size) (H : HR w imm ok μ h n D) (hn : D'.Nodup) (hf : ∀ b ∈ D', w.heap.size ≤ b) (hDl : ∀ b ∈ D, b < w.heap.size) :
    HR w' imm ok μ h n (D' ++ D) := by
  have hk := HR.kept_quiet hb hi (Nat.le_refl _) H
  obtain ⟨own, H, hD⟩ := H
  refine ⟨fun b => if w.heap.size ≤ b then none else own b, fun r x hx => ?_, ?_, ?_⟩
  · obtain ⟨ha, L, hR, hn', ho⟩ := H r x hx
    have hlt := RR.blocks hR
    exact ⟨ha, L, RR.mono hk ha (innOkR_true _) (fun b hm => hb.block b (hlt b hm).2) hR, hn', fun b hb => by
      have := (hlt b hb).2
      show (if w.heap.size ≤ b then none else own b) = some r
      rw [if_neg (by omega)]; exact ho b hb⟩
  · exact List.nodup_append.2 ⟨hn, hD.1, fun a h1 b h2 => by have := hf a h1; have := hDl b h2; omega⟩
  · intro b hb'
    rcases List.mem_append.1 hb' with h1 | h1
    · simp [hf b h1]
    · simp [hD.2 b h1]

/-- A tree that is held aside becomes a region. -/
theorem HR.attach {D L : List Nat} {id : Nat} {reg : Reg} (H : HR w imm ok μ h n (L ++ D)) (hid : n ≤ id) (hid' : id < n') (hμ : ∀ r, r < n → μ' r = μ r)
    (hR : RR w imm ok μ' ((id, reg) :: h) n' id reg L) : HR w imm ok μ' ((id, reg) :: h) n' D := by
  obtain ⟨own, H, hD⟩ := H
  obtain ⟨hL, hDn, hdis⟩ := List.nodup_append.1 hD.1
  refine ⟨fun b => if b ∈ L then some id else own b, fun r x hx => ?_, hDn, fun b hb => ?_⟩
  · by_cases hr : r = id
    · subst hr
      simp only [hget, ↓reduceIte, Option.some.injEq] at hx
      subst hx
      exact ⟨hid', L, hR, hL, fun b hb => by simp [hb]⟩
    · simp only [hget, hr, ↓reduceIte] at hx
      obtain ⟨ha, L1, hR1, hn, ho⟩ := H r x hx
      refine ⟨by omega, L1, RR.mono (K := fun _ => True) ⟨Step.refl _ _, fun _ h => h, fun _ h => h, hμ, by omega, fun r' hr' => ?_, fun _ _ _ _ _ _ _ _ _ => rfl⟩ ha (innOkR_true _) (fun _ _ => rfl) hR1, hn, fun b hb => ?_⟩
      · simp only [hget, show r' ≠ id by omega, ↓reduceIte]; exact Fit.refl _
      · have hbL : b ∉ L := fun hm => by
          have h1 := hD.2 b (by simp [hm]); rw [ho b hb] at h1; simp at h1
        simp [hbL, ho b hb]
  · have hbL : b ∉ L := fun hm => hdis b hm b hb rfl
    simp only [hbL, ↓reduceIte]
    exact hD.2 b (by simp [hb])

theorem Fit.del (h : Heap) (r r' : Nat) : Fit (hget h r') (hget (hdel h r) r') := Fit.sub (fun _ _ => hsub_hdel) r'

/-- A region is taken out of the heap. -/
theorem HR.detach {D : List Nat} {r : Nat} {x : Reg} (H : HR w imm ok μ h n D) (hr : hget h r = some x) : ∃ L, RR w imm ok μ h n r x L ∧ HR w imm ok μ (hdel h r) n (L ++ D) := by
  obtain ⟨own, H, hD⟩ := H
  obtain ⟨har, L, hR, hn, ho⟩ := H r x hr
  refine ⟨L, hR, fun b => if own b = some r then none else own b, fun r' x' hx' => ?_, ?_, fun b hb => ?_⟩
  · have hx := hx'
    rw [hget_hdel] at hx'
    split at hx'
    · simp at hx'
    · rename_i hne
      obtain ⟨ha, L1, hR1, hn1, ho1⟩ := H r' x' hx'
      refine ⟨ha, L1, RR.mono (Kept.sub (fun _ _ => hsub_hdel)) ha (innOkR_true _) (fun _ _ => rfl) hR1, hn1, fun b hb => ?_⟩
      show (if own b = some r then none else own b) = some r'
      rw [ho1 b hb]; simp [hne]
  · refine List.nodup_append.2 ⟨hn, hD.1, fun a h1 b h2 e => ?_⟩
    subst e
    have h3 := hD.2 a h2; rw [ho a h1] at h3; simp at h3
  · rcases List.mem_append.1 hb with h1 | h1
    · simp [ho b h1]
    · simp [hD.2 b h1]
theorem HR.row {D : List Nat} {r : Nat} {x : Reg} (H : HR w imm ok μ h n D) (hr : hget h r = some x) : ∃ L, RR w imm ok μ h n r x L := by
  obtain ⟨own, H, _⟩ := H
  obtain ⟨_, L, hR, _⟩ := H r x hr
  exact ⟨L, hR⟩
theorem HR.dsub {D D' : List Nat} (H : HR w imm ok μ h n D) (hs : D'.Sublist D) : HR w imm ok μ h n D' := by
  obtain ⟨own, H, h1, h2⟩ := H
  exact ⟨own, H, h1.sublist hs, fun b hb => h2 b (hs.subset hb)⟩
theorem HR.dperm {D D' : List Nat} (H : HR w imm ok μ h n D) (hs : D.Perm D') : HR w imm ok μ h n D' := by
  obtain ⟨own, H, h1, h2⟩ := H
  exact ⟨own, H, hs.nodup_iff.1 h1, fun b hb => h2 b (hs.mem_iff.2 hb)⟩
theorem HR.nodup {D : List Nat} (H : HR w imm ok μ h n D) : D.Nodup := by
  obtain ⟨_, _, h1, _⟩ := H; exact h1

/-- Blocks that are held aside are written. -/
theorem HR.dset {D : List Nat} (H : HR w imm ok μ h n D) (hs : Step imm w w') (hw : ∀ k, k ∉ D → k < w.heap.size → w'.heap[k]? = w.heap[k]?) : HR w' imm ok μ h n D ∧ Kept (fun _ => True) imm imm ok ok w w' μ μ h h n n := by
  obtain ⟨own, H, h1, h2⟩ := H
  have key : ∀ r x L, RR w imm ok μ h n r x L → (∀ b ∈ L, own b = some r) → ∀ b ∈ L, w'.heap[b]? = w.heap[b]? := by
    intro r x L hR ho b hb
    refine hw b (fun hd => ?_) (RR.blocks hR b hb).2
    have := h2 b hd; rw [ho b hb] at this; simp at this
  have hk : Kept (fun _ => True) imm imm ok ok w w' μ μ h h n n := by
    refine ⟨hs, fun _ h => h, fun _ h => h, fun _ _ => rfl, Nat.le_refl _, fun _ _ => Fit.refl _, ?_⟩
    intro r fr t l _ _ hg _ hbk
    obtain ⟨_, L, hR, _, ho⟩ := H r _ hg
    exact key r _ L hR ho _ (hR.blk hbk)
  refine ⟨⟨own, fun r x hx => ?_, h1, h2⟩, hk⟩
  obtain ⟨ha, L, hR, hn, ho⟩ := H r x hx
  exact ⟨ha, L, RR.mono hk ha (innOkR_true _) (key r x L hR ho) hR, hn, ho⟩
end
end Go.Tw
