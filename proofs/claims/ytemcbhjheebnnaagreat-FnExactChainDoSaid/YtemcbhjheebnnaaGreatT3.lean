/- The logic: a step. -/
import Derived.Below
import Derived.Laws.Tables
import Derived.Laws.MakeOwn
import Derived.KernelRfl
import Derived.Deep.LoopGhost
import Derived.Still
set_option linter.all false
namespace Go.Tw
open Go Go.RowKit
theorem ae {p : Prop} [Decidable p] (h : p) : decide p = true := decide_eq_true h
theorem ao {p : Prop} [Decidable p] (h : ¬ p) : decide p = false := decide_eq_false h
theorem af.{u} {α : Type u} (a b : α) : (some a = some b) = (a = b) := Option.some.injEq a b
theorem ai.{u, v} {α : Type u} {β : Type v} (a : α) (f : α → Option β) : (some a).bind f = f a := rfl
theorem ax.{u, v} {α : Type u} {b : α} {β : Type v} {x : Option β} {f : β → Option α} : x.bind f = some b ↔ ∃ a, x = some a ∧ f a = some b := Option.bind_eq_some_iff
theorem ag.{u} {α : Sort u} (a b : α) : cond true a b = a := rfl
theorem al.{u} {α : Sort u} (a b : α) : cond false a b = b := rfl
theorem aA (a b : Bool) : ((a && b) = true) = (a = true ∧ b = true) := Bool.and_eq_true a b
theorem aG.{u, v} {α : Type u} {β : Type v} (a : α) (b : β) (c : α) (d : β) : ((a, b) = (c, d)) = (a = c ∧ b = d) := Prod.mk.injEq a b c d
theorem aI (h : Decidable True) : decide True = true := decide_true h
theorem bF {p : Prop} [Decidable p] : (decide p = true) = p := decide_eq_true_eq
theorem bI : (!true) = false := rfl
theorem bT : (!false) = true := rfl
theorem aT.{u} {α : Type u} {as bs : List α} : (as ++ bs).length = as.length + bs.length := List.length_append
inductive Ty where
  | int (k : IntKind) | bool | str | un
  | pr (a b : Ty)
  | sl (t : Ty)
  | ref (t : Ty)
  | cl (g : Nat) (t : Ty)
  deriving DecidableEq
def den : Ty → Type
  | .int _ => Int
  | .bool => Bool
  | .str => ByteArray
  | .un => Unit
  | .pr a b => den a × den b
  | .sl t => List (den t)
  | .ref t => den t
  | .cl _ t => den t
def eX : (t : Ty) → den t
  | .int _ => (0 : Int)
  | .bool => false
  | .str => ByteArray.empty
  | .un => ()
  | .pr a b => (eX a, eX b)
  | .sl _ => []
  | .ref t => eX t
  | .cl _ t => eX t
def sz : Ty → Nat
  | .un => 0
  | .pr a b => sz a + sz b
  | _ => 1
def Row (w : World) (b m : Nat) : Prop :=
  ∃ c e f, w.heap[b]? = some (.cells c e f) ∧ m ≤ c.size ∧ ∀ j, j < c.size → w.frozen? ⟨b, j, none⟩ = false
theorem Row.le {w : World} {b m m' : Nat} (h : Row w b m) (hm : m' ≤ m) : Row w b m' := by
  obtain ⟨c, e, f, h1, h2, h3⟩ := h; exact ⟨c, e, f, h1, by omega, h3⟩
theorem Row.lt {w : World} {b m : Nat} (h : Row w b m) : b < w.heap.size := by
  obtain ⟨c, e, f, h1, _⟩ := h
  rcases Nat.lt_or_ge b w.heap.size with h' | h'
  · exact h'
  · simp [Array.getElem?_eq_none h'] at h1
theorem wP {w w' : World} {b j : Nat} (h : w'.heap[b]? = w.heap[b]?) : w'.frozen? ⟨b, j, none⟩ = w.frozen? ⟨b, j, none⟩ := by
  simp [World.frozen?, h]
theorem tS {w w' : World} {b j : Nat} (h : w'.heap[b]? = w.heap[b]?) : w'.cell? ⟨b, j, none⟩ = w.cell? ⟨b, j, none⟩ := by
  simp [World.cell?, h]
theorem Row.same {w w' : World} {b m : Nat} (h : Row w b m) (hs : w'.heap[b]? = w.heap[b]?) : Row w' b m := by
  obtain ⟨c, e, f, h1, h2, h3⟩ := h
  exact ⟨c, e, f, by rw [hs, h1], h2, fun j hj => by rw [wP hs]; exact h3 j hj⟩
theorem Row.cell {w : World} {b m j : Nat} (h : Row w b m) (hj : j < m) : ∃ u, w.cell? ⟨b, j, none⟩ = some u := by
  obtain ⟨c, e, f, h1, h2, h3⟩ := h
  refine ⟨c[j]'(by omega), ?_⟩
  simp [World.cell?, h1, Array.getElem?_eq_getElem (show j < c.size by omega)]
theorem Row.frozen {w : World} {b m j : Nat} (h : Row w b m) (hj : j < m) : w.frozen? ⟨b, j, none⟩ = false := by
  obtain ⟨c, e, f, h1, h2, h3⟩ := h; exact h3 j (by omega)
theorem Row.setCell {w : World} {b m : Nat} (h : Row w b m) (a : Addr) (v : Value) : Row (w.setCell a v) b m := by
  obtain ⟨c, e, f, h1, h2, h3⟩ := h
  by_cases hb : a.block = b
  · refine ⟨_, e, f, by simp [World.setCell, Array.getElem?_modify, hb, h1]; rfl, ?_, ?_⟩
    · split <;> simpa using h2
    · intro j hj; rw [World.frozen?_setCell]; refine h3 j ?_; revert hj; split <;> simp
  · exact ⟨c, e, f, by rw [Below.heap_setCell _ _ _ _ (Ne.symm hb)]; exact h1, h2, fun j hj => by rw [World.frozen?_setCell]; exact h3 j hj⟩
def At (w : World) (b o : Nat) (us : List Value) : Prop := ∀ j u, us[j]? = some u → w.cell? ⟨b, o + j, none⟩ = some u
theorem At.nil {w : World} {b o : Nat} : At w b o [] := fun j u h => by simp at h
theorem At.same {w w' : World} {b o : Nat} {us : List Value} (h : At w b o us) (hs : w'.heap[b]? = w.heap[b]?) : At w' b o us :=
  fun j u hj => by rw [tS hs]; exact h j u hj
theorem At.app {w : World} {b o : Nat} {us vs : List Value} : At w b o (us ++ vs) ↔ At w b o us ∧ At w b (o + us.length) vs := by
  constructor
  · intro h
    refine ⟨fun j u hj => h j u ?_, fun j u hj => ?_⟩
    · have : j < us.length := by
        rcases Nat.lt_or_ge j us.length with h' | h'
        · exact h'
        · rw [List.getElem?_eq_none h'] at hj; simp at hj
      rw [List.getElem?_append_left this]; exact hj
    · rw [Nat.add_assoc]; refine h _ u ?_
      rw [List.getElem?_append_right (by omega)]; simpa using hj
  · rintro ⟨h1, h2⟩ j u hj
    by_cases hl : j < us.length
    · rw [List.getElem?_append_left hl] at hj; exact h1 j u hj
    · rw [List.getElem?_append_right (by omega)] at hj
      have := h2 _ u hj
      rwa [show o + us.length + (j - us.length) = o + j by omega] at this
theorem At.cons {w : World} {b o : Nat} {u : Value} {us : List Value} : At w b o (u :: us) ↔ w.cell? ⟨b, o, none⟩ = some u ∧ At w b (o + 1) us := by
  rw [show u :: us = [u] ++ us from rfl, At.app]
  refine ⟨fun ⟨h1, h2⟩ => ⟨by simpa using h1 0 u rfl, by simpa using h2⟩, fun ⟨h1, h2⟩ => ⟨fun j v hj => ?_, by simpa using h2⟩⟩
  cases j with
  | zero => simp at hj; subst hj; simpa using h1
  | succ j => simp at hj
theorem At.sub {w : World} {b o : Nat} {us : List Value} (h : At w b o us) (k n : Nat) : At w b (o + k) ((us.drop k).take n) := by
  intro j u hj
  rw [List.getElem?_take] at hj
  split at hj
  · rw [List.getElem?_drop] at hj; rw [Nat.add_assoc]; exact h _ u hj
  · simp at hj
def RL {α : Type} (R : α → Nat → Nat → List Nat → Prop) (s : Nat) : List α → Nat → Nat → List Nat → Prop
  | [], _, _, L => L = []
  | x :: l, b, o, L => ∃ L1 L2, L = L1 ++ L2 ∧ R x b o L1 ∧ RL R s l b (o + s) L2
section
variable {α : Type} {R R' : α → Nat → Nat → List Nat → Prop} {s : Nat}
theorem RL.imp : ∀ {l : List α} {b o : Nat} {L : List Nat}, (∀ x, x ∈ l → ∀ o L', (∀ k ∈ L', k ∈ L) → R x b o L' → R' x b o L') → RL R s l b o L → RL R' s l b o L
  | [], _, _, _, _, h => h
  | x :: l, b, o, L, hi, h => by
    simp only [RL] at h ⊢
    obtain ⟨L1, L2, rfl, h1, h2⟩ := h
    exact ⟨L1, L2, rfl, hi x (by simp) o L1 (fun k hk => by simp [hk]) h1, RL.imp (fun y hy o L' hL => hi y (by simp [hy]) o L' (fun k hk => by simp [hL k hk])) h2⟩
theorem RL.mem : ∀ {l : List α} {b o : Nat} {L : List Nat} {p : Nat → Prop}, (∀ x, x ∈ l → ∀ o L', R x b o L' → ∀ k ∈ L', p k) → RL R s l b o L → ∀ k ∈ L, p k
  | [], _, _, _, _, _, h, k, hk => by simp only [RL] at h; subst h; simp at hk
  | x :: l, b, o, L, p, hi, h, k, hk => by
    simp only [RL] at h
    obtain ⟨L1, L2, rfl, h1, h2⟩ := h
    rcases List.mem_append.1 hk with hk | hk
    · exact hi x (by simp) o L1 h1 k hk
    · exact RL.mem (fun y hy => hi y (by simp [hy])) h2 k hk
theorem RL.app : ∀ {l m : List α} {b o : Nat} {L : List Nat}, RL R s (l ++ m) b o L ↔ ∃ L1 L2, L = L1 ++ L2 ∧ RL R s l b o L1 ∧ RL R s m b (o + l.length * s) L2
  | [], m, b, o, L => by
    simp only [List.nil_append, RL, List.length_nil, Nat.zero_mul, Nat.add_zero]
    exact ⟨fun h => ⟨[], L, rfl, rfl, h⟩, fun ⟨L1, L2, h1, h2, h3⟩ => by subst h2; simpa [h1] using h3⟩
  | x :: l, m, b, o, L => by
    simp only [List.cons_append, RL, List.length_cons]
    have e : o + (l.length + 1) * s = o + s + l.length * s := by rw [Nat.succ_mul]; omega
    constructor
    · rintro ⟨L1, L2, rfl, h1, h2⟩
      obtain ⟨L3, L4, rfl, h3, h4⟩ := RL.app.1 h2
      exact ⟨L1 ++ L3, L4, by simp, ⟨L1, L3, rfl, h1, h3⟩, by rwa [e]⟩
    · rintro ⟨L1, L2, rfl, ⟨L3, L4, rfl, h1, h2⟩, h3⟩
      exact ⟨L3, L4 ++ L2, by simp, h1, RL.app.2 ⟨L4, L2, rfl, h2, by rwa [e] at h3⟩⟩
theorem RL.one {x : α} {b o : Nat} {L : List Nat} : RL R s [x] b o L ↔ R x b o L := by
  simp only [RL]
  exact ⟨fun ⟨L1, L2, h1, h2, h3⟩ => by subst h3; simpa [h1] using h2, fun h => ⟨L, [], by simp, h, rfl⟩⟩
theorem EB (l : List α) (d : α) (i : Nat) (hi : i < l.length) : l = l.take i ++ ([l.getD i d] ++ l.drop (i + 1)) := by
  have : l.getD i d = l[i] := by simp [List.getD, List.getElem?_eq_getElem hi]
  rw [this]; simp
theorem Nu (l : List α) (x : α) (i : Nat) (hi : i < l.length) : l.set i x = l.take i ++ ([x] ++ l.drop (i + 1)) := by
  rw [List.set_eq_take_append_cons_drop, if_pos hi]; rfl
theorem RL.at {l : List α} {b o : Nat} {L : List Nat} (d : α) {i : Nat} (hi : i < l.length) (h : RL R s l b o L) :
    ∃ L1 L2 L3, L = L1 ++ (L2 ++ L3) ∧ RL R s (l.take i) b o L1 ∧ R (l.getD i d) b (o + i * s) L2 ∧ RL R s (l.drop (i + 1)) b (o + i * s + s) L3 := by
  rw [EB l d i hi] at h
  obtain ⟨L1, L2, rfl, h1, h2⟩ := RL.app.1 h
  obtain ⟨L3, L4, rfl, h3, h4⟩ := RL.app.1 h2
  have e : (l.take i).length = i := by simp; omega
  rw [e] at h3 h4
  exact ⟨L1, L3, L4, rfl, h1, RL.one.1 h3, by simpa using h4⟩
theorem RL.put {l : List α} {b o : Nat} {L1 L2 L3 : List Nat} {x : α} {i : Nat} (hi : i < l.length) (h1 : RL R s (l.take i) b o L1) (h2 : R x b (o + i * s) L2) (h3 : RL R s (l.drop (i + 1)) b (o + i * s + s) L3) :
    RL R s (l.set i x) b o (L1 ++ (L2 ++ L3)) := by
  rw [Nu l x i hi]
  have e : (l.take i).length = i := by simp; omega
  exact RL.app.2 ⟨L1, L2 ++ L3, rfl, h1, RL.app.2 ⟨L2, L3, rfl, by rw [e]; exact RL.one.2 h2, by rw [e]; simpa using h3⟩⟩
theorem RL.sub {l : List α} {b o : Nat} {L : List Nat} (k n : Nat) (hk : k ≤ l.length) (h : RL R s l b o L) : ∃ L1 L2 L3, L = L1 ++ (L2 ++ L3) ∧ RL R s ((l.drop k).take n) b (o + k * s) L2 := by
  rw [← List.take_append_drop k l] at h
  obtain ⟨L1, L2, rfl, h1, h2⟩ := RL.app.1 h
  rw [← List.take_append_drop n (l.drop k)] at h2
  obtain ⟨L3, L4, rfl, h3, h4⟩ := RL.app.1 h2
  have e : (l.take k).length = k := by simp; omega
  rw [e] at h3
  exact ⟨L1, L3, L4, rfl, h3⟩
end
def ID {α : Type} (w : World) (ab ok : Nat → Prop) (R : α → Nat → Nat → List Nat → Prop) (s : Nat) (l : List α) (v : Value) (L : List Nat) : Prop :=
  (v = .slice none 0 0 ∧ l = [] ∧ L = []) ∨
  ∃ A cap L', v = .slice (some A) l.length cap ∧ l.length ≤ cap ∧ RL R s l A.block A.off L' ∧
    ((L = [] ∧ L' = [] ∧ (∃ b, ab b) ∧ (l ≠ [] → A.spot = none ∧ ab A.block)) ∨
     (L = A.block :: L' ∧ A.spot = none ∧ ok A.block ∧ Row w A.block A.off ∧ (0 < cap → Row w A.block (A.off + cap * s))))
def TRl (w : World) (ab ok : Nat → Prop) : (t : Ty) → den t → List Value → List Nat → Prop
  | .int k, n, us, L => us = [.int k n] ∧ L = []
  | .bool, b, us, L => us = [.bool b] ∧ L = []
  | .str, s, us, L => us = [.string s] ∧ L = []
  | .un, _, us, L => us = [] ∧ L = []
  | .pr a b, x, us, L => ∃ u1 u2 L1 L2, us = u1 ++ u2 ∧ L = L1 ++ L2 ∧ TRl w ab ok a x.1 u1 L1 ∧ TRl w ab ok b x.2 u2 L2
  | .sl t, l, us, L => ∃ v, us = [v] ∧ ID w ab ok (fun x b o L => ∃ us, TRl w ab ok t x us L ∧ At w b o us) (sz t) l v L
  | .ref t, x, us, L => ∃ b o vs, us = [.pointer (some ⟨b, o, none⟩)] ∧ L = [] ∧ ab b ∧ TRl w ab ok t x vs [] ∧ At w b o vs
  | .cl g t, x, us, L => ∃ vs : List Value, us = [.func (.func g) #[] vs.toArray] ∧ L = [] ∧ TRl w ab ok t x vs []
def oW (w : World) (ab ok : Nat → Prop) (t : Ty) (x : den t) (b o : Nat) (L : List Nat) : Prop := ∃ us, TRl w ab ok t x us L ∧ At w b o us
section
variable {w w' : World} {ab imm' ok ok' : Nat → Prop}
theorem ID.imp {α : Type} {R R' : α → Nat → Nat → List Nat → Prop} {s : Nat} {l : List α} {v : Value} {L : List Nat} (hi : ∀ b, ab b → imm' b) (ho : ∀ b, ok b → ok' b)
    (hs : ∀ b ∈ L, w'.heap[b]? = w.heap[b]?) (hR : ∀ x, x ∈ l → ∀ b o L', (∀ k ∈ L', k ∈ L) → (ab b ∨ b ∈ L) → R x b o L' → R' x b o L') (h : ID w ab ok R s l v L) : ID w' imm' ok' R' s l v L := by
  rcases h with h | ⟨A, cap, L', h1, h2, h3, h4⟩
  · exact .inl h
  · refine .inr ⟨A, cap, L', h1, h2, ?_, ?_⟩
    · rcases h4 with ⟨rfl, rfl, _, h4⟩ | ⟨rfl, h4⟩
      · cases l with
        | nil => simpa [RL] using h3
        | cons y l => exact RL.imp (fun x hx o L' hL hr => hR x hx _ _ _ (by simpa using hL) (.inl (h4 (by simp)).2) hr) h3
      · exact RL.imp (fun x hx o L' hL hr => hR x hx _ _ _ (fun k hk => by simp [hL k hk]) (.inr (by simp)) hr) h3
    · rcases h4 with ⟨rfl, rfl, ⟨b0, h0⟩, h4⟩ | ⟨rfl, h4, h5, h6, h7⟩
      · exact .inl ⟨rfl, rfl, ⟨b0, hi _ h0⟩, fun h => ⟨(h4 h).1, hi _ (h4 h).2⟩⟩
      · have := hs A.block (by simp)
        exact .inr ⟨rfl, h4, ho _ h5, h6.same this, fun hp => (h7 hp).same this⟩
theorem TRl.mono (hi : ∀ b, ab b → imm' b) (ho : ∀ b, ok b → ok' b) (hw : ∀ b, ab b → w'.heap[b]? = w.heap[b]?) : ∀ {t : Ty} {x : den t} {us : List Value} {L : List Nat}, (∀ b ∈ L, w'.heap[b]? = w.heap[b]?) →
    TRl w ab ok t x us L → TRl w' imm' ok' t x us L
  | .int _, _, _, _, _, h => h
  | .bool, _, _, _, _, h => h
  | .str, _, _, _, _, h => h
  | .un, _, _, _, _, h => h
  | .pr a b, x, us, L, hL, h => by
    obtain ⟨u1, u2, L1, L2, rfl, rfl, h1, h2⟩ := h
    exact ⟨u1, u2, L1, L2, rfl, rfl, TRl.mono hi ho hw (fun b hb => hL b (by simp [hb])) h1, TRl.mono hi ho hw (fun b hb => hL b (by simp [hb])) h2⟩
  | .sl t, l, us, L, hL, h => by
    obtain ⟨v, rfl, h⟩ := h
    refine ⟨v, rfl, ID.imp hi ho hL (fun x hx b o L' hL' hb ⟨us, h1, h2⟩ => ⟨us, TRl.mono hi ho hw (fun b hb => hL b (hL' b hb)) h1, h2.same ?_⟩) h⟩
    rcases hb with hb | hb
    · exact hw b hb
    · exact hL b hb
  | .ref t, x, us, L, hL, h => by
    obtain ⟨b, o, vs, rfl, rfl, h1, h2, h3⟩ := h
    exact ⟨b, o, vs, rfl, rfl, hi b h1, TRl.mono hi ho hw (by simp) h2, h3.same (hw b h1)⟩
  | .cl g t, x, us, L, hL, h => by
    obtain ⟨vs, rfl, rfl, h1⟩ := h
    exact ⟨vs, rfl, rfl, TRl.mono hi ho hw (by simp) h1⟩
theorem oW.mono (hi : ∀ b, ab b → imm' b) (ho : ∀ b, ok b → ok' b) (hw : ∀ b, ab b → w'.heap[b]? = w.heap[b]?) {t : Ty} {x : den t} {b o : Nat} {L : List Nat} (hL : ∀ b ∈ L, w'.heap[b]? = w.heap[b]?) (hb : w'.heap[b]? = w.heap[b]?)
    (h : oW w ab ok t x b o L) : oW w' imm' ok' t x b o L := by
  obtain ⟨us, h1, h2⟩ := h
  exact ⟨us, h1.mono hi ho hw hL, h2.same hb⟩
theorem TRl.blocks : ∀ {t : Ty} {x : den t} {us : List Value} {L : List Nat}, TRl w ab ok t x us L → ∀ b ∈ L, ok b ∧ b < w.heap.size
  | .int _, _, _, _, h, b, hb => by rw [h.2] at hb; simp at hb
  | .bool, _, _, _, h, b, hb => by rw [h.2] at hb; simp at hb
  | .str, _, _, _, h, b, hb => by rw [h.2] at hb; simp at hb
  | .un, _, _, _, h, b, hb => by rw [h.2] at hb; simp at hb
  | .pr a c, x, us, L, h, b, hb => by
    obtain ⟨u1, u2, L1, L2, rfl, rfl, h1, h2⟩ := h
    rcases List.mem_append.1 hb with hb | hb
    · exact TRl.blocks h1 b hb
    · exact TRl.blocks h2 b hb
  | .sl t, l, us, L, h, b, hb => by
    obtain ⟨v, rfl, h⟩ := h
    rcases h with ⟨_, _, rfl⟩ | ⟨A, cap, L', h1, h2, h3, h4⟩
    · simp at hb
    · rcases h4 with ⟨rfl, _⟩ | ⟨rfl, h4, h5, h6, h7⟩
      · simp at hb
      · rcases List.mem_cons.1 hb with rfl | hb
        · exact ⟨h5, h6.lt⟩
        · exact RL.mem (p := fun b => ok b ∧ b < w.heap.size) (fun x _ o L' ⟨us, h, _⟩ => TRl.blocks h) h3 b hb
  | .ref t, x, us, L, h, b, hb => by obtain ⟨_, _, _, _, rfl, _⟩ := h; simp at hb
  | .cl g t, x, us, L, h, b, hb => by obtain ⟨_, _, rfl, _⟩ := h; simp at hb
theorem TRl.length : ∀ {t : Ty} {x : den t} {us : List Value} {L : List Nat}, TRl w ab ok t x us L → us.length = sz t
  | .int _, _, _, _, h => by rw [h.1]; rfl
  | .bool, _, _, _, h => by rw [h.1]; rfl
  | .str, _, _, _, h => by rw [h.1]; rfl
  | .un, _, _, _, h => by rw [h.1]; rfl
  | .pr a b, x, us, L, h => by
    obtain ⟨u1, u2, L1, L2, rfl, rfl, h1, h2⟩ := h
    rw [aT, TRl.length h1, TRl.length h2]; rfl
  | .sl t, l, us, L, h => by obtain ⟨v, rfl, _⟩ := h; rfl
  | .ref t, x, us, L, h => by obtain ⟨_, _, _, rfl, _⟩ := h; rfl
  | .cl g t, x, us, L, h => by obtain ⟨_, rfl, _⟩ := h; rfl
theorem ID.one {α : Type} {R : α → Nat → Nat → List Nat → Prop} {s : Nat} {l : List α} {v : Value} {L : List Nat} (h : ID w ab ok R s l v L) : v.oneCell' = true := by
  rcases h with ⟨rfl, _⟩ | ⟨A, cap, L', rfl, _⟩ <;> rfl
theorem TRl.qL : ∀ {t : Ty} {x : den t} {us : List Value} {L : List Nat}, TRl w ab ok t x us L → ∀ u ∈ us, u.oneCell' = true
  | .int _, _, _, _, h, u, hu => by rw [h.1] at hu; simp at hu; subst hu; rfl
  | .bool, _, _, _, h, u, hu => by rw [h.1] at hu; simp at hu; subst hu; rfl
  | .str, _, _, _, h, u, hu => by rw [h.1] at hu; simp at hu; subst hu; rfl
  | .un, _, _, _, h, u, hu => by rw [h.1] at hu; simp at hu
  | .pr a b, x, us, L, h, u, hu => by
    obtain ⟨u1, u2, L1, L2, rfl, rfl, h1, h2⟩ := h
    rcases List.mem_append.1 hu with hu | hu
    · exact TRl.qL h1 u hu
    · exact TRl.qL h2 u hu
  | .sl t, l, us, L, h, u, hu => by obtain ⟨v, rfl, h⟩ := h; simp at hu; subst hu; exact h.one
  | .ref t, x, us, L, h, u, hu => by obtain ⟨_, _, _, rfl, _⟩ := h; simp at hu; subst hu; rfl
  | .cl g t, x, us, L, h, u, hu => by obtain ⟨_, rfl, _⟩ := h; simp at hu; subst hu; rfl
end
end Go.Tw
namespace Go.Tw
open Go Go.RowKit
inductive TV where
  | p (v : Value)
  | tr (t : Ty) (l : List (den t))
  | full (r : Nat)
  | sub (r off len : Nat)
  | mJ (r i off : Nat)
  | ptr (r i off : Nat)
  | fm (t : Ty) (l : List (den t)) (i off : Nat)
  | agg (cs : List TV)
  | mF (cs : List TV)
  | oV (t : TypeId) (x : TV)
  | fn (f : Fn) (first cap : List TV)
  | mp (r : Nat)
  | undef
  deriving Inhabited
structure MQ where
  k : Ty
  v : Ty
  deriving DecidableEq
def valK : (t : Ty) → den t → Value
  | .int k, n => .int k n
  | .bool, b => .bool b
  | .str, s => .string s
  | _, _ => undef
abbrev PV : Ty := .ref (.pr (.int .i64) (.int .i64))
abbrev PM : MQ := ⟨.bool, PV⟩
def padd (v : Value) (off : Int) : Value :=
  match v with
  | .pointer (some A) => .pointer (some ⟨A.block, A.off + off.toNat, A.spot⟩)
  | _ => undef
def Kj (pv : Nat → Value) (x : Int × Int) : Value := padd (pv (Int.toNat x.1)) x.2
def oI (pv : Nat → Value) (t : Ty) (x : den t) : Value := if h : t = PV then Kj pv (h ▸ x : den PV) else valK t x
inductive dq where
  | row (fr : Bool) (t : Ty) (l : List (den t))
  | box (cs : List TV)
  | mp (k : MQ) (l : List (den k.k × den k.v))
  deriving Inhabited
structure Mu where
  cY : Nat
  off : Nat
  bk : Bool
abbrev ay := List (Nat × dq)
def hget : ay → Nat → Option dq
  | [], _ => none
  | (k, x) :: h, r => if r = k then some x else hget h r
def hset : ay → Nat → dq → ay
  | [], r, y => [(r, y)]
  | (k, x) :: h, r, y => if r = k then (k, y) :: h else (k, x) :: hset h r y
def iV : ay → Nat → ay
  | [], _ => []
  | (k, x) :: h, r => if r = k then iV h r else (k, x) :: iV h r
theorem eW (h : ay) (r r' : Nat) (y : dq) : hget (hset h r y) r' = if r' = r then some y else hget h r' := by
  induction h with
  | nil => simp [hset, hget]
  | cons p h ih =>
    obtain ⟨k, x⟩ := p
    simp only [hset]
    by_cases hk : r = k
    · subst hk; simp only [↓reduceIte, hget]; split <;> rfl
    · simp only [hk, ↓reduceIte, hget, ih]
      by_cases hr : r' = k
      · subst hr; simp [Ne.symm hk]
      · simp [hr]
theorem gi (h : ay) (r r' : Nat) : hget (iV h r) r' = if r' = r then none else hget h r' := by
  induction h with
  | nil => simp [iV, hget]
  | cons p h ih =>
    obtain ⟨k, x⟩ := p
    simp only [iV]
    by_cases hk : r = k
    · subst hk; simp only [↓reduceIte, hget, ih]; split <;> simp_all
    · simp only [hk, ↓reduceIte, hget, ih]
      by_cases hr : r' = k
      · subst hr; simp [Ne.symm hk]
      · simp [hr]
theorem dz {h : ay} {r r' : Nat} {x : dq} (hx : hget (iV h r) r' = some x) : hget h r' = some x := by
  rw [gi] at hx; split at hx
  · simp at hx
  · exact hx
def hasSl : Ty → Bool
  | .sl _ => true
  | .ref _ => true
  | .cl _ _ => true
  | .pr a b => hasSl a || hasSl b
  | _ => false
def cI (fr : Bool) (ab : Nat → Prop) : Nat → Prop := fun b => fr = false ∧ ab b
def mM (w : World) (m : Mu) (s off len : Nat) (v : Value) : Prop :=
  (v = .slice none 0 0 ∧ len = 0) ∨
  ∃ o cap, v = .slice (some ⟨m.cY, o, none⟩) len cap ∧ len ≤ cap ∧ m.bk = true ∧ Row w m.cY o ∧ (0 < cap → o = m.off + off * s ∧ Row w m.cY (o + cap * s))
def v9 (f : (t : Ty) → den t → Value) (w : World) (b : Nat) (k : MQ) (l : List (den k.k × den k.v)) : Prop :=
  ∃ es c, w.heap[b]? = some (.map es c) ∧ es.toList.map (fun e => (e.key, e.val)) = l.map fun p => (valK k.k p.1, f k.v p.2)
abbrev Qn := v9 valK
def gh (f : (t : Ty) → den t → Value) (w : World) (b : Nat) (k : MQ) (l : List (den k.k × den k.v)) : Prop :=
  ∃ l', l'.Perm l ∧ l'.Pairwise (fun p r => p.1 ≠ r.1) ∧ v9 f w b k l'
abbrev tE := gh valK
theorem gh.same {f : (t : Ty) → den t → Value} {w w' : World} {b : Nat} {k : MQ} {l : List (den k.k × den k.v)} (H : gh f w b k l) (h : w'.heap[b]? = w.heap[b]?) : gh f w' b k l := by
  obtain ⟨l', h0, h3, es, c, h1, h2⟩ := H
  exact ⟨l', h0, h3, es, c, h.trans h1, h2⟩
theorem gh.lt {f : (t : Ty) → den t → Value} {w : World} {b : Nat} {k : MQ} {l : List (den k.k × den k.v)} (H : gh f w b k l) : b < w.heap.size := by
  obtain ⟨_, _, _, es, c, h1, _⟩ := H
  exact (Array.getElem?_eq_some_iff.1 h1).1
section
variable (w : World) (ab ok : Nat → Prop) (μ : Nat → Mu) (h : ay) (n : Nat)
mutual
def VR : TV → Value → Prop
  | .p u, v => v = u
  | .tr t l, v => TRl w ab ok (.sl t) l [v] []
  | .full r, v => r < n ∧ (match hget h r with
      | some (.row _ t l) => mM w (μ r) (sz t) 0 l.length v
      | _ => ∃ A m c, v = .slice A m c)
  | .sub r off len, v => r < n ∧ (match hget h r with
      | some (.row _ t l) => off + len ≤ l.length ∧ mM w (μ r) (sz t) off len v
      | _ => ∃ A m c, v = .slice A m c)
  | .mJ r i off, v => r < n ∧ v.oneCell' = true ∧ (match hget h r with
      | some (.row _ t l) => hasSl t = true ∧ i < l.length ∧ (μ r).bk = true ∧ w.cell? ⟨(μ r).cY, (μ r).off + i * sz t + off, none⟩ = some v
      | _ => True)
  | .ptr r i off, v => r < n ∧ ∃ A, v = .pointer (some A) ∧ (match hget h r with
      | some (.row _ t _) => A = ⟨(μ r).cY, (μ r).off + i * sz t + off, none⟩
      | some (.box _) => A = ⟨(μ r).cY, (μ r).off + off, none⟩
      | _ => True)
  | .fm t l i off, v => ∃ b o, v = .pointer (some ⟨b, o + i * sz t + off, none⟩) ∧ (l ≠ [] → ab b) ∧ RL (oW w ab ok t) (sz t) l b o []
  | .agg cs, v => ∃ us : List Value, v = .agg us.toArray ∧ VRl cs us
  | .mF cs, v => ∃ us : List Value, v = .tuple us.toArray ∧ VRl cs us
  | .oV t x, v => ∃ u, v = .iface t u ∧ VR x u
  | .fn f fi ca, v => ∃ us vs : List Value, v = .func f us.toArray vs.toArray ∧ VRl fi us ∧ VRl ca vs
  | .mp r, v => r < n ∧ ∃ b, v = .map (some b) ∧ (match hget h r with
      | some (.mp _ _) => b = (μ r).cY
      | _ => True)
  | .undef, _ => True
def VRl : List TV → List Value → Prop
  | [], us => us = []
  | c :: cs, us => ∃ u us', us = u :: us' ∧ VR c u ∧ VRl cs us'
end
def RR (r : Nat) : dq → List Nat → Prop
  | .row fr t l, L => ((μ r).bk = false ∧ l = [] ∧ L = []) ∨
      ((μ r).bk = true ∧ ∃ L', L = (μ r).cY :: L' ∧ ok (μ r).cY ∧ Row w (μ r).cY ((μ r).off + l.length * sz t) ∧ RL (oW w (cI fr ab) ok t) (sz t) l (μ r).cY (μ r).off L')
  | .box cs, L => L = [(μ r).cY] ∧ ok (μ r).cY ∧ Row w (μ r).cY ((μ r).off + cs.length) ∧ ∃ us, VRl w ab ok μ h n cs us ∧ At w (μ r).cY (μ r).off us
  | .mp k l, L => L = [(μ r).cY] ∧ ok (μ r).cY ∧ tE w (μ r).cY k l
def HR (D : List Nat) : Prop := ∃ own : Nat → Option Nat, (∀ r x, hget h r = some x → r < n ∧ ∃ L, RR w ab ok μ h n r x L ∧ L.Nodup ∧ ∀ b ∈ L, own b = some r) ∧ D.Nodup ∧ (∀ b ∈ D, own b = none)
end
def Fit : Option dq → Option dq → Prop
  | some (.row _ t l), some (.row _ t' l') => t' = t ∧ l'.length = l.length
  | some (.box _), some (.box _) => True
  | some (.mp _ _), some (.mp _ _) => True
  | _, none => True
  | _, _ => False
theorem Fit.refl (x : Option dq) : Fit x x := by
  cases x with
  | none => trivial
  | some x => cases x <;> simp [Fit]
structure Step (ab : Nat → Prop) (w w' : World) : Prop where
  low : ∀ b, ab b → w'.heap[b]? = w.heap[b]?
  row : ∀ b m, Row w b m → Row w' b m
theorem Step.refl (ab : Nat → Prop) (w : World) : Step ab w w := ⟨fun _ _ => rfl, fun _ _ h => h⟩
theorem Step.wQ {ab : Nat → Prop} {w w' : World} (hb : Below w.heap.size w w') (hi : ∀ b, ab b → b < w.heap.size) : Step ab w w' :=
  ⟨fun b h => hb.block b (hi b h), fun b m hr => hr.same (hb.block b hr.lt)⟩
mutual
def innOk (K : Nat → Prop) : TV → Prop
  | .mJ r _ _ => K r
  | .agg cs => innOkl K cs
  | .mF cs => innOkl K cs
  | .oV _ x => innOk K x
  | .fn _ fi ca => innOkl K fi ∧ innOkl K ca
  | _ => True
def innOkl (K : Nat → Prop) : List TV → Prop
  | [] => True
  | c :: cs => innOk K c ∧ innOkl K cs
end
mutual
theorem fe : ∀ x, innOk (fun _ => True) x
  | .mJ _ _ _ => trivial
  | .agg cs => by simp only [innOk]; exact aD cs
  | .mF cs => by simp only [innOk]; exact aD cs
  | .oV _ x => by simp only [innOk]; exact fe x
  | .fn _ fi ca => by simp only [innOk]; exact ⟨aD fi, aD ca⟩
  | .p _ => trivial
  | .tr _ _ => trivial
  | .full _ => trivial
  | .sub _ _ _ => trivial
  | .ptr _ _ _ => trivial
  | .fm _ _ _ _ => trivial
  | .mp _ => trivial
  | .undef => trivial
theorem aD : ∀ xs, innOkl (fun _ => True) xs
  | [] => trivial
  | x :: xs => ⟨fe x, aD xs⟩
end
structure Kept (K : Nat → Prop) (ab imm' ok ok' : Nat → Prop) (w w' : World) (μ μ' : Nat → Mu) (h h' : ay) (n n' : Nat) : Prop where
  step : Step ab w w'
  Hg : ∀ b, ab b → imm' b
  k8 : ∀ b, ok b → ok' b
  mu : ∀ r, r < n → μ' r = μ r
  NG : n ≤ n'
  fit : ∀ r, r < n → Fit (hget h r) (hget h' r)
  mJ : ∀ r fr t l, r < n → K r → hget h r = some (.row fr t l) → hasSl t = true → (μ r).bk = true → w'.heap[(μ r).cY]? = w.heap[(μ r).cY]?
section
variable {K : Nat → Prop} {ab imm' ok ok' : Nat → Prop} {w w' : World} {μ μ' : Nat → Mu} {h h' : ay} {n n' : Nat}
theorem mM.mono {m : Mu} {s off len : Nat} {v : Value} (hs : ∀ b m, Row w b m → Row w' b m) (H : mM w m s off len v) : mM w' m s off len v := by
  rcases H with H | ⟨o, cap, h1, h2, h3, h4, h5⟩
  · exact .inl H
  · exact .inr ⟨o, cap, h1, h2, h3, hs _ _ h4, fun hp => ⟨(h5 hp).1, hs _ _ (h5 hp).2⟩⟩
theorem mM.slice {m : Mu} {s off len : Nat} {v : Value} (H : mM w m s off len v) : ∃ A m c, v = .slice A m c := by
  rcases H with ⟨rfl, _⟩ | ⟨o, cap, rfl, _⟩ <;> exact ⟨_, _, _, rfl⟩
mutual
theorem VR.mono (kp : Kept K ab imm' ok ok' w w' μ μ' h h' n n') : ∀ (x : TV) (v : Value), innOk K x → VR w ab ok μ h n x v → VR w' imm' ok' μ' h' n' x v
  | .p u, v, _, H => by simpa [VR] using H
  | .tr t l, v, _, H => by
    simp only [VR] at H ⊢
    exact H.mono kp.Hg kp.k8 kp.step.low (by simp)
  | .full r, v, _, H => by
    simp only [VR] at H ⊢
    obtain ⟨hr, H⟩ := H
    refine ⟨Nat.lt_of_lt_of_le hr kp.NG, ?_⟩
    have hf := kp.fit r hr
    cases h2 : hget h' r with
    | none =>
      simp only
      split at H
      · exact H.slice
      · exact H
    | some y =>
      cases y with
      | box cs =>
        simp only
        split at H
        · exact H.slice
        · exact H
      | mp k l =>
        simp only
        split at H
        · exact H.slice
        · exact H
      | row fr' t' l' =>
        cases h1 : hget h r with
        | none => simp [h1, h2, Fit] at hf
        | some x =>
          cases x with
          | box _ => simp [h1, h2, Fit] at hf
          | mp _ _ => simp [h1, h2, Fit] at hf
          | row fr t l =>
            simp only [h1, h2, Fit] at hf H ⊢
            obtain ⟨rfl, hl⟩ := hf
            rw [kp.mu r hr, hl]; exact H.mono kp.step.row
  | .sub r off len, v, _, H => by
    simp only [VR] at H ⊢
    obtain ⟨hr, H⟩ := H
    refine ⟨Nat.lt_of_lt_of_le hr kp.NG, ?_⟩
    have hf := kp.fit r hr
    cases h2 : hget h' r with
    | none =>
      simp only
      split at H
      · exact H.2.slice
      · exact H
    | some y =>
      cases y with
      | box cs =>
        simp only
        split at H
        · exact H.2.slice
        · exact H
      | mp k l =>
        simp only
        split at H
        · exact H.2.slice
        · exact H
      | row fr' t' l' =>
        cases h1 : hget h r with
        | none => simp [h1, h2, Fit] at hf
        | some x =>
          cases x with
          | box _ => simp [h1, h2, Fit] at hf
          | mp _ _ => simp [h1, h2, Fit] at hf
          | row fr t l =>
            simp only [h1, h2, Fit] at hf H ⊢
            obtain ⟨rfl, hl⟩ := hf
            rw [kp.mu r hr, hl]; exact ⟨H.1, H.2.mono kp.step.row⟩
  | .mJ r i off, v, hi, H => by
    simp only [VR] at H ⊢
    obtain ⟨hr, h0, H⟩ := H
    refine ⟨Nat.lt_of_lt_of_le hr kp.NG, h0, ?_⟩
    have hf := kp.fit r hr
    cases h2 : hget h' r with
    | none => trivial
    | some y =>
      cases y with
      | box cs => trivial
      | mp k l => trivial
      | row fr' t' l' =>
        cases h1 : hget h r with
        | none => simp [h1, h2, Fit] at hf
        | some x =>
          cases x with
          | box _ => simp [h1, h2, Fit] at hf
          | mp _ _ => simp [h1, h2, Fit] at hf
          | row fr t l =>
            simp only [h1, h2, Fit] at hf H ⊢
            obtain ⟨rfl, hl⟩ := hf
            obtain ⟨g1, g4, g2, g3⟩ := H
            rw [kp.mu r hr, hl]
            exact ⟨g1, g4, g2, by rw [tS (kp.mJ r _ _ _ hr (by simpa [innOk] using hi) h1 g1 g2)]; exact g3⟩
  | .ptr r i off, v, _, H => by
    simp only [VR] at H ⊢
    obtain ⟨hr, A, hv, H⟩ := H
    refine ⟨Nat.lt_of_lt_of_le hr kp.NG, A, hv, ?_⟩
    have hf := kp.fit r hr
    cases h2 : hget h' r with
    | none => trivial
    | some y =>
      cases h1 : hget h r with
      | none => simp [h1, h2, Fit] at hf
      | some x =>
        cases y with
        | box cs =>
          cases x with
          | row _ _ _ => simp [h1, h2, Fit] at hf
          | mp _ _ => simp [h1, h2, Fit] at hf
          | box _ => simp only [h1] at H ⊢; rw [kp.mu r hr]; exact H
        | mp _ _ => trivial
        | row fr' t' l' =>
          cases x with
          | box _ => simp [h1, h2, Fit] at hf
          | mp _ _ => simp [h1, h2, Fit] at hf
          | row fr t l =>
            simp only [h1, h2, Fit] at hf H ⊢
            obtain ⟨rfl, hl⟩ := hf
            rw [kp.mu r hr]; exact H
  | .fm t l i off, v, _, H => by
    simp only [VR] at H ⊢
    obtain ⟨b, o, hv, hb, he⟩ := H
    refine ⟨b, o, hv, fun hl => kp.Hg b (hb hl), ?_⟩
    cases l with
    | nil => simpa [RL] using he
    | cons y l => exact RL.imp (fun x hx o L' hL hr => oW.mono kp.Hg kp.k8 kp.step.low (fun b hb => by simpa using hL b hb) (kp.step.low b (hb (by simp))) hr) he
  | .agg cs, v, hi, H => by
    simp only [VR, innOk] at hi H ⊢
    obtain ⟨us, hv, hx⟩ := H
    exact ⟨us, hv, VRl.mono kp cs us hi hx⟩
  | .mF cs, v, hi, H => by
    simp only [VR, innOk] at hi H ⊢
    obtain ⟨us, hv, hx⟩ := H
    exact ⟨us, hv, VRl.mono kp cs us hi hx⟩
  | .oV t x, v, hi, H => by
    simp only [VR, innOk] at hi H ⊢
    obtain ⟨u, hv, hx⟩ := H
    exact ⟨u, hv, VR.mono kp x u hi hx⟩
  | .fn f fi ca, v, hi, H => by
    simp only [VR, innOk] at hi H ⊢
    obtain ⟨us, vs, hv, h1, h2⟩ := H
    exact ⟨us, vs, hv, VRl.mono kp fi us hi.1 h1, VRl.mono kp ca vs hi.2 h2⟩
  | .mp r, v, _, H => by
    simp only [VR] at H ⊢
    obtain ⟨hr, b, hv, H⟩ := H
    refine ⟨Nat.lt_of_lt_of_le hr kp.NG, b, hv, ?_⟩
    have hf := kp.fit r hr
    cases h2 : hget h' r with
    | none => trivial
    | some y =>
      cases y with
      | row _ _ _ => trivial
      | box _ => trivial
      | mp k' l' =>
        cases h1 : hget h r with
        | none => simp [h1, h2, Fit] at hf
        | some x =>
          cases x with
          | row _ _ _ => simp [h1, h2, Fit] at hf
          | box _ => simp [h1, h2, Fit] at hf
          | mp k l => simp only [h1] at H ⊢; rw [kp.mu r hr]; exact H
  | .undef, _, _, _ => by simp [VR]
theorem VRl.mono (kp : Kept K ab imm' ok ok' w w' μ μ' h h' n n') : ∀ (cs : List TV) (us : List Value), innOkl K cs → VRl w ab ok μ h n cs us → VRl w' imm' ok' μ' h' n' cs us
  | [], us, _, H => by simpa [VRl] using H
  | c :: cs, us, hi, H => by
    simp only [VRl, innOkl] at hi H ⊢
    obtain ⟨u, us', hu, h1, h2⟩ := H
    exact ⟨u, us', hu, VR.mono kp c u hi.1 h1, VRl.mono kp cs us' hi.2 h2⟩
end
def Fi (K : Nat → Prop) : dq → Prop
  | .row _ _ _ => True
  | .box cs => innOkl K cs
  | .mp _ _ => True
theorem fF (x : dq) : Fi (fun _ => True) x := by
  cases x with
  | row => trivial
  | box cs => exact aD cs
  | mp => trivial
theorem RR.mono (kp : Kept K ab imm' ok ok' w w' μ μ' h h' n n') {r : Nat} {x : dq} {L : List Nat} (hr : r < n) (hx : Fi K x) (hL : ∀ b ∈ L, w'.heap[b]? = w.heap[b]?) (H : RR w ab ok μ h n r x L) : RR w' imm' ok' μ' h' n' r x L := by
  cases x with
  | row fr t l =>
    simp only [RR] at H ⊢
    rw [kp.mu r hr]
    rcases H with H | ⟨hb, L', rfl, h1, h2, h3⟩
    · exact .inl H
    · refine .inr ⟨hb, L', rfl, kp.k8 _ h1, kp.step.row _ _ h2, RL.imp (fun x hx o L' hL' hr => oW.mono (fun b hb => ⟨hb.1, kp.Hg b hb.2⟩) kp.k8 (fun b hb => kp.step.low b hb.2) (fun b hb => hL b (by simp [hL' b hb])) (hL _ (by simp)) hr) h3⟩
  | box cs =>
    simp only [RR] at H ⊢
    rw [kp.mu r hr]
    obtain ⟨rfl, h1, h2, us, h3, h4⟩ := H
    exact ⟨rfl, kp.k8 _ h1, kp.step.row _ _ h2, us, VRl.mono kp _ _ hx h3, h4.same (hL _ (by simp))⟩
  | mp k l =>
    simp only [RR] at H ⊢
    rw [kp.mu r hr]
    obtain ⟨rfl, h1, h2⟩ := H
    exact ⟨rfl, kp.k8 _ h1, h2.same (hL _ (by simp))⟩
theorem RR.blocks {r : Nat} {x : dq} {L : List Nat} (H : RR w ab ok μ h n r x L) : ∀ b ∈ L, ok b ∧ b < w.heap.size := by
  cases x with
  | row fr t l =>
    simp only [RR] at H
    rcases H with ⟨_, _, rfl⟩ | ⟨hb, L', rfl, h1, h2, h3⟩
    · simp
    · intro b hb
      rcases List.mem_cons.1 hb with rfl | hb
      · exact ⟨h1, h2.lt⟩
      · exact RL.mem (p := fun b => ok b ∧ b < w.heap.size) (fun x _ o L' ⟨us, h, _⟩ => TRl.blocks h) h3 b hb
  | box cs =>
    simp only [RR] at H
    obtain ⟨rfl, h1, h2, _⟩ := H
    intro b hb; simp at hb; subst hb; exact ⟨h1, h2.lt⟩
  | mp k l =>
    simp only [RR] at H
    obtain ⟨rfl, h1, h2⟩ := H
    intro b hb; simp at hb; subst hb; exact ⟨h1, h2.lt⟩
theorem RR.cY {r : Nat} {fr : Bool} {t : Ty} {l : List (den t)} {L : List Nat} (H : RR w ab ok μ h n r (.row fr t l) L) (hb : (μ r).bk = true) : (μ r).cY ∈ L := by
  simp only [RR] at H
  rcases H with ⟨h1, _⟩ | ⟨_, L', rfl, _⟩
  · rw [hb] at h1; simp at h1
  · simp
theorem Kept.id (hi : ∀ b, ab b → imm' b) (ho : ∀ b, ok b → ok' b) (hn : n ≤ n') : Kept (fun _ => True) ab imm' ok ok' w w μ μ h h n n' :=
  ⟨Step.refl _ _, hi, ho, fun _ _ => rfl, hn, fun _ _ => Fit.refl _, fun _ _ _ _ _ _ _ _ _ => rfl⟩
theorem HR.quiet {D : List Nat} (hb : Below w.heap.size w w') (hi : ∀ b, ab b → b < w.heap.size) (hn : n ≤ n') (H : HR w ab ok μ h n D) : HR w' ab ok μ h n' D := by
  obtain ⟨own, H, hD⟩ := H
  refine ⟨own, fun r x hx => ?_, hD⟩
  obtain ⟨hr, L, hR, hnd, ho⟩ := H r x hx
  refine ⟨Nat.lt_of_lt_of_le hr hn, L, RR.mono (K := fun _ => True) ⟨Step.wQ hb hi, fun _ h => h, fun _ h => h, fun _ _ => rfl, hn, fun _ _ => Fit.refl _, ?_⟩ hr (fF _) (fun b hm => hb.block b (RR.blocks hR b hm).2) hR, hnd, ho⟩
  intro r fr t l _ _ hg _ hbk
  obtain ⟨_, L, hR, _, _⟩ := H r _ hg
  exact hb.block _ (RR.blocks hR _ (hR.cY hbk)).2
theorem HR.fQ {D : List Nat} (hb : Below w.heap.size w w') (hi : ∀ b, ab b → b < w.heap.size) (hn : n ≤ n') (H : HR w ab ok μ h n D) : Kept (fun _ => True) ab ab ok ok w w' μ μ h h n n' := by
  obtain ⟨own, H, hD⟩ := H
  refine ⟨Step.wQ hb hi, fun _ h => h, fun _ h => h, fun _ _ => rfl, hn, fun _ _ => Fit.refl _, ?_⟩
  intro r fr t l _ _ hg _ hbk
  obtain ⟨_, L, hR, _, _⟩ := H r _ hg
  exact hb.block _ (RR.blocks hR _ (hR.cY hbk)).2
theorem Fit.yF (x : Option dq) : Fit x none := by cases x with | none => trivial | some x => cases x <;> trivial
theorem Fit.sub (hh : ∀ r x, hget h' r = some x → hget h r = some x) (r : Nat) : Fit (hget h r) (hget h' r) := by
  cases h2 : hget h' r with
  | none => exact Fit.yF _
  | some x => rw [hh r x h2]; exact Fit.refl _
theorem Kept.sub (hh : ∀ r x, hget h' r = some x → hget h r = some x) : Kept (fun _ => True) ab ab ok ok w w μ μ h h' n n :=
  ⟨Step.refl _ _, fun _ h => h, fun _ h => h, fun _ _ => rfl, Nat.le_refl _, fun r _ => Fit.sub hh r, fun _ _ _ _ _ _ _ _ _ => rfl⟩
theorem HR.sub {D : List Nat} (hh : ∀ r x, hget h' r = some x → hget h r = some x) (H : HR w ab ok μ h n D) : HR w ab ok μ h' n D := by
  obtain ⟨own, H, hD⟩ := H
  refine ⟨own, fun r x hx => ?_, hD⟩
  obtain ⟨ha, L, hR, hn, ho⟩ := H r x (hh r x hx)
  exact ⟨ha, L, RR.mono (Kept.sub hh) ha (fF _) (fun _ _ => rfl) hR, hn, ho⟩
theorem HR.fresh {D D' : List Nat} (hb : Below w.heap.size w w') (hi : ∀ b, ab b → b < w.heap.size) (H : HR w ab ok μ h n D) (hn : D'.Nodup) (hf : ∀ b ∈ D', w.heap.size ≤ b) (hDl : ∀ b ∈ D, b < w.heap.size) :
    HR w' ab ok μ h n (D' ++ D) := by
  have hk := HR.fQ hb hi (Nat.le_refl _) H
  obtain ⟨own, H, hD⟩ := H
  refine ⟨fun b => if w.heap.size ≤ b then none else own b, fun r x hx => ?_, ?_, ?_⟩
  · obtain ⟨ha, L, hR, hn', ho⟩ := H r x hx
    have hlt := RR.blocks hR
    exact ⟨ha, L, RR.mono hk ha (fF _) (fun b hm => hb.block b (hlt b hm).2) hR, hn', fun b hb => by
      have := (hlt b hb).2
      show (if w.heap.size ≤ b then none else own b) = some r
      rw [if_neg (by omega)]; exact ho b hb⟩
  · exact List.nodup_append.2 ⟨hn, hD.1, fun a h1 b h2 => by have := hf a h1; have := hDl b h2; omega⟩
  · intro b hb'
    rcases List.mem_append.1 hb' with h1 | h1
    · simp [hf b h1]
    · simp [hD.2 b h1]
theorem HR.attach {D L : List Nat} {id : Nat} {bh : dq} (H : HR w ab ok μ h n (L ++ D)) (hid : n ≤ id) (hid' : id < n') (hμ : ∀ r, r < n → μ' r = μ r)
    (hR : RR w ab ok μ' ((id, bh) :: h) n' id bh L) : HR w ab ok μ' ((id, bh) :: h) n' D := by
  obtain ⟨own, H, hD⟩ := H
  obtain ⟨hL, hDn, hdis⟩ := List.nodup_append.1 hD.1
  refine ⟨fun b => if b ∈ L then some id else own b, fun r x hx => ?_, hDn, fun b hb => ?_⟩
  · by_cases hr : r = id
    · subst hr
      simp only [hget, ↓reduceIte, af] at hx
      subst hx
      exact ⟨hid', L, hR, hL, fun b hb => by simp [hb]⟩
    · simp only [hget, hr, ↓reduceIte] at hx
      obtain ⟨ha, L1, hR1, hn, ho⟩ := H r x hx
      refine ⟨by omega, L1, RR.mono (K := fun _ => True) ⟨Step.refl _ _, fun _ h => h, fun _ h => h, hμ, by omega, fun r' hr' => ?_, fun _ _ _ _ _ _ _ _ _ => rfl⟩ ha (fF _) (fun _ _ => rfl) hR1, hn, fun b hb => ?_⟩
      · simp only [hget, show r' ≠ id by omega, ↓reduceIte]; exact Fit.refl _
      · have hbL : b ∉ L := fun hm => by
          have h1 := hD.2 b (by simp [hm]); rw [ho b hb] at h1; simp at h1
        simp [hbL, ho b hb]
  · have hbL : b ∉ L := fun hm => hdis b hm b hb rfl
    simp only [hbL, ↓reduceIte]
    exact hD.2 b (by simp [hb])
theorem HR.kb {D : List Nat} {r : Nat} {x : dq} (H : HR w ab ok μ h n D) (hr : hget h r = some x) : ∃ L, RR w ab ok μ h n r x L ∧ HR w ab ok μ (iV h r) n (L ++ D) := by
  obtain ⟨own, H, hD⟩ := H
  obtain ⟨har, L, hR, hn, ho⟩ := H r x hr
  refine ⟨L, hR, fun b => if own b = some r then none else own b, fun r' x' hx' => ?_, ?_, fun b hb => ?_⟩
  · have hx := hx'
    rw [gi] at hx'
    split at hx'
    · simp at hx'
    · rename_i hne
      obtain ⟨ha, L1, hR1, hn1, ho1⟩ := H r' x' hx'
      refine ⟨ha, L1, RR.mono (Kept.sub (fun _ _ => dz)) ha (fF _) (fun _ _ => rfl) hR1, hn1, fun b hb => ?_⟩
      show (if own b = some r then none else own b) = some r'
      rw [ho1 b hb]; simp [hne]
  · refine List.nodup_append.2 ⟨hn, hD.1, fun a h1 b h2 e => ?_⟩
    subst e
    have h3 := hD.2 a h2; rw [ho a h1] at h3; simp at h3
  · rcases List.mem_append.1 hb with h1 | h1
    · simp [ho b h1]
    · simp [hD.2 b h1]
theorem HR.row {D : List Nat} {r : Nat} {x : dq} (H : HR w ab ok μ h n D) (hr : hget h r = some x) : ∃ L, RR w ab ok μ h n r x L := by
  obtain ⟨own, H, _⟩ := H
  obtain ⟨_, L, hR, _⟩ := H r x hr
  exact ⟨L, hR⟩
theorem HR.ni {D D' : List Nat} (H : HR w ab ok μ h n D) (hs : D'.Sublist D) : HR w ab ok μ h n D' := by
  obtain ⟨own, H, h1, h2⟩ := H
  exact ⟨own, H, h1.sublist hs, fun b hb => h2 b (hs.subset hb)⟩
theorem HR.lq {D D' : List Nat} (H : HR w ab ok μ h n D) (hs : D.Perm D') : HR w ab ok μ h n D' := by
  obtain ⟨own, H, h1, h2⟩ := H
  exact ⟨own, H, hs.nodup_iff.1 h1, fun b hb => h2 b (hs.mem_iff.2 hb)⟩
theorem HR.nodup {D : List Nat} (H : HR w ab ok μ h n D) : D.Nodup := by
  obtain ⟨_, _, h1, _⟩ := H; exact h1
theorem HR.Nr {D : List Nat} (H : HR w ab ok μ h n D) (hs : Step ab w w') (hw : ∀ k, k ∉ D → k < w.heap.size → w'.heap[k]? = w.heap[k]?) : HR w' ab ok μ h n D ∧ Kept (fun _ => True) ab ab ok ok w w' μ μ h h n n := by
  obtain ⟨own, H, h1, h2⟩ := H
  have key : ∀ r x L, RR w ab ok μ h n r x L → (∀ b ∈ L, own b = some r) → ∀ b ∈ L, w'.heap[b]? = w.heap[b]? := by
    intro r x L hR ho b hb
    refine hw b (fun hd => ?_) (RR.blocks hR b hb).2
    have := h2 b hd; rw [ho b hb] at this; simp at this
  have hk : Kept (fun _ => True) ab ab ok ok w w' μ μ h h n n := by
    refine ⟨hs, fun _ h => h, fun _ h => h, fun _ _ => rfl, Nat.le_refl _, fun _ _ => Fit.refl _, ?_⟩
    intro r fr t l _ _ hg _ hbk
    obtain ⟨_, L, hR, _, ho⟩ := H r _ hg
    exact key r _ L hR ho _ (hR.cY hbk)
  refine ⟨⟨own, fun r x hx => ?_, h1, h2⟩, hk⟩
  obtain ⟨ha, L, hR, hn, ho⟩ := H r x hx
  exact ⟨ha, L, RR.mono hk ha (fF _) (key r x L hR ho) hR, hn, ho⟩
end
end Go.Tw
namespace Go.Tw
open Go Go.RowKit
structure St where
  s : List (Nat × TV)
  h : ay
  n : Nat
def sget : List (Nat × TV) → Nat → TV
  | [], _ => .undef
  | (k, x) :: s, t => bif Nat.beq t k then x else sget s t
structure Fm where
  n : Nat
  st : List (Nat × Nat)
class k7 where
  G : List Nat
  J : World → Prop
  st : ∀ w w' : World, (∀ g ∈ G, w'.heap[g]? = w.heap[g]?) → J w → J w'
instance (priority := low) k7.nil : k7 := ⟨[], fun _ => True, fun _ _ _ _ => trivial⟩
variable [k7]
structure Cx where
  P : Program
  m : Fm
  w0 : World
  ab : Nat → Prop
  ok : Nat → Prop
  lu : ∀ b, ab b → b < w0.heap.size
  iZ : ∀ b, ab b → ¬ ok b
  mH : ∀ b, w0.heap.size ≤ b → ok b
  gs : List TV
  gv : List Value
  Bw : innOkl (fun _ => False) gs
  gG : ∀ g ∈ k7.G, ab g
  gJ : k7.J w0
  kv : List Value := []
structure Fr (c : Cx) (w : World) : Prop where
  os : w.os = c.w0.os
  tape : w.tape = c.w0.tape
  output : w.output = c.w0.output
  size : c.w0.heap.size ≤ w.heap.size
  block : ∀ k, k < c.w0.heap.size → ¬ c.ok k → w.heap[k]? = c.w0.heap[k]?
  row : ∀ b m, Row c.w0 b m → Row w b m
theorem Fr.gJ {c : Cx} {w : World} (h : Fr c w) : k7.J w := k7.st c.w0 w (fun g hg => h.block g (c.lu g (c.gG g hg)) (c.iZ g (c.gG g hg))) c.gJ
structure dH (c : Cx) (σ : St) (a : Act) (w : World) : Prop where
  fr : Fr c w
  defers : a.defers = []
  size : a.tmps.size = c.m.n ∧ ∀ q ∈ c.m.st, a.tmps.getD q.1 undef = (c.gv ++ c.kv).getD q.2 undef
  ex : ∃ μ, HR w c.ab c.ok μ σ.h σ.n [] ∧ (∀ t, VR w c.ab c.ok μ σ.h σ.n (sget σ.s t) (a.tmps.getD t undef)) ∧ VRl w c.ab c.ok μ σ.h σ.n c.gs c.gv
theorem dH.lt {c : Cx} {σ : St} {a : Act} {w : World} (hs : dH c σ a w) : ∀ b, c.ab b → b < w.heap.size :=
  fun b hb => Nat.lt_of_lt_of_le (c.lu b hb) hs.fr.size
theorem dH.new {c : Cx} {σ : St} {a : Act} {w : World} (hs : dH c σ a w) : ∀ b, w.heap.size ≤ b → c.ok b :=
  fun b hb => c.mH b (Nat.le_trans hs.fr.size hb)
theorem Fr.below {c : Cx} {w w' : World} (h : Fr c w) (hb : Below w.heap.size w w') : Fr c w' :=
  ⟨hb.os.trans h.os, hb.tape.trans h.tape, hb.output.trans h.output, Nat.le_trans h.size hb.size, fun k hk ho => (hb.block k (Nat.lt_of_lt_of_le hk h.size)).trans (h.block k hk ho), fun b m hr => (h.row b m hr).same (hb.block b (h.row b m hr).lt)⟩
def ev (s : List (Nat × TV)) : Operand → TV
  | .tmp t => sget s t
  | .const v => .p v
  | .global g => .p (.pointer (some ⟨g, 0, none⟩))
  | .func f => .fn (.func f) [] []
def tz (P : Program) (t : TypeId) : Option (List Value) := (P.info? t).bind fun i => i.zero.map fun z => z.cells.toList
def tv (P : Program) (t : TypeId) : Option (Bool × Nat) :=
  (P.underlying t).bind fun d => (P.info? t).map fun i => ((match d with | .struct _ | .array _ _ => true | _ => false), i.size)
def tsl (P : Program) (t : TypeId) : Option (Nat × Nat × List Value) :=
  match P.underlying t with
  | some (.slice e) => (P.info? e).bind fun i => i.zero.bind fun z => if z.cells.size = i.size ∧ i.size ≠ 0 ∧ i.bytes ≠ 0 ∧ z.cells.toList.all Value.oneCell' then some (i.size, i.bytes, z.cells.toList) else none
  | _ => none
def tfld (P : Program) (t : TypeId) (f : Nat) : Option Nat :=
  match P.underlying t with
  | some (.struct fs) => (fs[f]?).bind fun d => (P.info? d.type).bind fun i => if i.size = 0 then none else some d.offset
  | _ => none
def Hh (P : Program) : Nat → TypeId → Option Ty
  | 0, _ => none
  | k + 1, t =>
    match P.underlying t with
    | some .bool => some .bool
    | some (.int i) => some (.int i)
    | some .string => some .str
    | some (.slice e) => (Hh P k e).map .sl
    | some (.struct fs) => fs.toList.foldr (fun f acc => match Hh P k f.type, acc with | some a, some b => some (.pr a b) | _, _ => none) (some .un)
    | some (.array n e) => (Hh P k e).map fun a => (List.replicate n a).foldr .pr .un
    | _ => none
def Bt (P : Program) (t : TypeId) : Option Ty :=
  match P.underlying t with
  | some (.slice e) => Hh P 12 e
  | _ => none
def encT : (t : Ty) → den t → List TV
  | .int k, n => [.p (.int k n)]
  | .bool, b => [.p (.bool b)]
  | .str, s => [.p (.string s)]
  | .un, _ => []
  | .pr a b, x => encT a x.1 ++ encT b x.2
  | .sl t, l => [.tr t l]
  | .ref t, x => [.fm t [x] 0 0]
  | .cl g t, x => [.fn (.func g) [] (encT t x)]
def cast (t t' : Ty) (l : List (den t)) : Option (List (den t')) :=
  if h : t = t' then some (h ▸ l) else none
def decT : (t : Ty) → List TV → Option (den t × List TV)
  | .int k, cs => match cs with
    | .p (.int k' n) :: r => if k' = k then some ((n : Int), r) else none
    | _ => none
  | .bool, cs => match cs with
    | .p (.bool b) :: r => some (b, r)
    | _ => none
  | .str, cs => match cs with
    | .p (.string s) :: r => some (s, r)
    | _ => none
  | .un, r => some ((), r)
  | .pr a b, r => (decT a r).bind fun p => (decT b p.2).bind fun q => some ((p.1, q.1), q.2)
  | .sl t, cs => match cs with
    | .tr t' l :: r => (cast t' t l).bind fun l => some (l, r)
    | .p (.slice none 0 0) :: r => some ([], r)
    | _ => none
  | .ref t, cs => match cs with
    | .fm t' [y] 0 0 :: r => (cast t' t [y]).bind fun l => some (l.headD (eX t), r)
    | _ => none
  | .cl g t, cs => match cs with
    | .fn (.func g') [] ca :: r => bif Nat.beq g' g then (match decT t ca with | some (x, []) => some (x, r) | _ => none) else none
    | _ => none
def eF (t : Ty) (cs : List TV) : Option (den t) :=
  match decT t cs with
  | some (x, []) => some x
  | _ => none
def isAg : Ty → Bool
  | .pr _ _ | .un => true
  | _ => false
def yu (t : Ty) (x : den t) : TV :=
  bif isAg t then .agg (encT t x) else (encT t x).headD .undef
def clist : TV → List TV
  | .agg cs => cs
  | x => [x]
def okc : TV → Bool
  | .p v => v.oneCell'
  | .agg _ | .mF _ | .undef | .mp _ => false
  | _ => true
def vj (e : List TV) (off : Nat) (cs : List TV) : List TV := e.take off ++ cs ++ e.drop (off + cs.length)
def absC (h : ay) : TV → Option (TV × Bool × ay)
  | .p v => some (.p v, true, h)
  | .tr t l => some (.tr t l, false, h)
  | .full r =>
    match hget h r with
    | some (.row fr t l) => some (.tr t l, fr, iV h r)
    | _ => none
  | .sub r off len =>
    match hget h r with
    | some (.row fr t l) => some (.tr t ((l.drop off).take len), fr, iV h r)
    | _ => none
  | _ => none
def absL (h : ay) : List TV → Option (List TV × Bool × ay)
  | [] => some ([], true, h)
  | c :: cs => (absC h c).bind fun q => (absL q.2.2 cs).bind fun z => some (q.1 :: z.1, q.2.1 && z.2.1, z.2.2)
def frzC (h : ay) : TV → Option TV
  | .p v => some (.p v)
  | .tr t l => some (.tr t l)
  | .full r =>
    match hget h r with
    | some (.row _ t l) => some (.tr t l)
    | _ => none
  | .sub r off len =>
    match hget h r with
    | some (.row _ t l) => some (.tr t ((l.drop off).take len))
    | _ => none
  | .mJ r i off =>
    match hget h r with
    | some (.row _ t l) => (match ((encT t (l.getD i (eX t))).drop off).headD .undef with | .tr t' l' => some (.tr t' l') | _ => none)
    | _ => none
  | _ => none
mutual
def kill (r : Nat) : TV → TV
  | .mJ r' i off => bif Nat.beq r' r then .undef else .mJ r' i off
  | .agg cs => .agg (lr r cs)
  | .mF cs => .mF (lr r cs)
  | .oV t x => .oV t (kill r x)
  | .fn f fi ca => .fn f (lr r fi) (lr r ca)
  | x => x
def lr (r : Nat) : List TV → List TV
  | [] => []
  | c :: cs => kill r c :: lr r cs
end
def killS (r : Nat) : List (Nat × TV) → List (Nat × TV)
  | [] => []
  | (k, x) :: s => (k, kill r x) :: killS r s
def killH (r : Nat) : ay → ay
  | [] => []
  | (k, .box cs) :: h => (k, .box (lr r cs)) :: killH r h
  | (k, x) :: h => (k, x) :: killH r h
structure lp where
  v : TV
  h : ay
  n : Nat
  c : Bool
  k : Option Nat := none
def innL (r i : Nat) : Nat → List TV → List TV
  | _, [] => []
  | off, .tr _ _ :: cs => .mJ r i off :: innL r i (off + 1) cs
  | off, .fm _ _ _ _ :: cs => .undef :: innL r i (off + 1) cs
  | off, .fn _ _ _ :: cs => .undef :: innL r i (off + 1) cs
  | off, c :: cs => c :: innL r i (off + 1) cs
def pack (g : Bool) (cs : List TV) : TV := bif g then .agg cs else cs.headD .undef
def loadS (av : Bool × Nat) (x : TV) (h : ay) (n : Nat) : Option lp :=
  bif av.1 || Nat.beq av.2 1 then
    match x with
    | .fm t l i off =>
      bif Nat.ble (off + av.2) (sz t) then
        some { v := pack av.1 (((encT t (l.getD i (eX t))).drop off).take av.2), h, n, c := decide (i < l.length) }
      else none
    | .ptr r i off =>
      match hget h r with
      | some (.row _ t l) =>
        bif Nat.ble (off + av.2) (sz t) then
          some { v := pack av.1 (innL r i off (((encT t (l.getD i (eX t))).drop off).take av.2)), h, n, c := decide (i < l.length) }
        else none
      | some (.box cs) => bif Nat.ble (off + av.2) cs.length then some { v := pack av.1 ((cs.drop off).take av.2), h, n, c := true } else none
      | _ => none
    | _ => none
  else none
def storeS (av : Bool × Nat) (x y : TV) (h : ay) (n : Nat) : Option lp :=
  match x with
  | .ptr r i off =>
    match hget h r with
    | some (.box cs) =>
      bif Nat.beq (clist y).length av.2 && Nat.ble (off + av.2) cs.length && (clist y).all okc then
        some { v := .undef, h := hset h r (.box (vj cs off (clist y))), n, c := true }
      else none
    | some (.row _ _ _) =>
      (absL h (clist y)).bind fun q =>
        match hget q.2.2 r with
        | some (.row fr t l) =>
          bif Nat.beq q.1.length av.2 && Nat.ble (off + av.2) (sz t) && (clist y).all okc then
            (eF t (vj (encT t (l.getD i (eX t))) off q.1)).bind fun e =>
              some { v := .undef, h := bif hasSl t then killH r (hset q.2.2 r (.row (fr && q.2.1) t (l.set i e))) else hset q.2.2 r (.row (fr && q.2.1) t (l.set i e)), n, c := decide (i < l.length), k := bif hasSl t then some r else none }
          else none
        | _ => none
    | _ => none
  | _ => none
def eq1 (P : Program) : Nat → TypeId → List TV → List TV → Option Bool
  | 0, _, _, _ => none
  | d + 1, t, xs, ys =>
    match P.underlying t with
    | some (.struct fs) =>
      bif P.stoodInHeld t then none else
      fs.toList.foldr (fun f acc => (tv P f.type).bind fun av =>
        bif f.name == "_" || !Nat.ble (f.offset + av.2) xs.length || !Nat.ble (f.offset + av.2) ys.length || !(av.1 || Nat.beq av.2 1) then none else
        (eq1 P d f.type ((xs.drop f.offset).take av.2) ((ys.drop f.offset).take av.2)).bind fun r => acc.map fun s => r && s) (some true)
    | some (.int _) => match xs, ys with
      | [.p (.int k a)], [.p (.int k' b)] => if k' = k then some (decide (a = b)) else none
      | _, _ => none
    | some .bool => match xs, ys with
      | [.p (.bool a)], [.p (.bool b)] => some (a == b)
      | _, _ => none
    | some .string => match xs, ys with
      | [.p (.string a)], [.p (.string b)] => some (decide (a.data.toList = b.data.toList))
      | _, _ => none
    | _ => none
def bin (op : BinOp) (k : IntKind) (x y : Int) : TV :=
  match op with
  | .add => .p (.int k (k.wrap (x + y)))
  | .sub => .p (.int k (k.wrap (x - y)))
  | .mul => .p (.int k (k.wrap (x * y)))
  | .quo => .p (.int k (k.wrap (x.tdiv y)))
  | .rem => .p (.int k (x.tmod y))
  | .and => .p (.int k (k.wrap (BitVec.ofInt k.bits x &&& BitVec.ofInt k.bits y).toNat))
  | .or => .p (.int k (k.wrap (BitVec.ofInt k.bits x ||| BitVec.ofInt k.bits y).toNat))
  | .xor => .p (.int k (k.wrap (BitVec.ofInt k.bits x ^^^ BitVec.ofInt k.bits y).toNat))
  | .andNot => .p (.int k (k.wrap (BitVec.ofInt k.bits x &&& ~~~BitVec.ofInt k.bits y).toNat))
  | .eql => .p (.bool (decide (x = y)))
  | .neq => .p (.bool (!decide (x = y)))
  | .lss => .p (.bool (decide (x < y)))
  | .leq => .p (.bool (decide (x ≤ y)))
  | .gtr => .p (.bool (decide (y < x)))
  | .geq => .p (.bool (decide (y ≤ x)))
  | _ => .undef
def strB (op : BinOp) (x y : ByteArray) : TV :=
  match op with
  | .add => .p (.string (x ++ y))
  | .eql => .p (.bool (decide (x.data.toList = y.data.toList)))
  | .neq => .p (.bool (!decide (x.data.toList = y.data.toList)))
  | .lss => .p (.bool (Op.bytesLess x.data.toList y.data.toList))
  | .leq => .p (.bool (Op.bytesLess x.data.toList y.data.toList || decide (x.data.toList = y.data.toList)))
  | .gtr => .p (.bool !(Op.bytesLess x.data.toList y.data.toList || decide (x.data.toList = y.data.toList)))
  | .geq => .p (.bool (!Op.bytesLess x.data.toList y.data.toList))
  | _ => .undef
def isNil (t : Option TypeDesc) (x y : TV) : Option Bool :=
  match t, x, y with
  | some .bool, .p (.bool a), .p (.bool b) => some (a == b)
  | some (.pointer _), .ptr _ _ _, .p (.pointer none) => some false
  | some (.pointer _), .p (.pointer none), .p (.pointer none) => some true
  | some (.interface _), .oV _ _, .p .nilIface => some false
  | some (.interface _), .p .nilIface, .oV _ _ => some false
  | some (.slice _), .tr _ _, .p (.slice none 0 0) => some false
  | some (.slice _), .p (.slice b 0 _), .p (.slice none 0 0) => some b.isNone
  | _, _, _ => none
def GK : TV → Bool
  | .tr _ l => !l.isEmpty
  | _ => true
def binS (P : Program) (op : BinOp) (t : TypeId) (x y : TV) (h : ay) (n : Nat) : Option lp :=
  match x, y with
  | .p (.int k a), .p (.int k' b) =>
    match op with
    | .shl => some { v := .p (.int k (k.wrap (a * 2 ^ min b.toNat k.bits))), h, n, c := decide (0 ≤ b) }
    | .shr => some { v := .p (.int k (a.fdiv (2 ^ min b.toNat k.bits))), h, n, c := decide (0 ≤ b) }
    | .quo | .rem => if k' = k then some { v := bin op k a b, h, n, c := !decide (b = 0) } else none
    | _ => if k' = k then some { v := bin op k a b, h, n, c := true } else none
  | .p (.string a), .p (.string b) =>
    match op with
    | .add => some { v := strB op a b, h, n, c := decide ((a.size + b.size : Nat) ≤ 1099511627776) }
    | .eql | .neq | .lss | .leq | .gtr | .geq => some { v := strB op a b, h, n, c := true }
    | _ => none
  | .agg xs, .agg ys =>
    bif P.eqGuardType P.depth t then none else
    match tv P t with
    | some (true, _) => (match op with
      | .eql => (eq1 P 8 t xs ys).map fun b => { v := .p (.bool b), h, n, c := true }
      | .neq => (eq1 P 8 t xs ys).map fun b => { v := .p (.bool !b), h, n, c := true }
      | _ => none)
    | _ => none
  | x, y =>
    match op, isNil (P.underlying t) x y with
    | .eql, some b => some { v := .p (.bool b), h, n, c := GK x }
    | .neq, some b => some { v := .p (.bool !b), h, n, c := GK x }
    | _, _ => none
def lenS (d : TypeDesc) (x : TV) (h : ay) : Option Nat :=
  match d, x with
  | .string, .p (.string s) => some s.size
  | .slice _, x => match frzC h x with
    | some (.p (.slice none 0 0)) => some 0
    | some (.tr _ l) => some l.length
    | _ => none
  | .map _ _, .mp r => match hget h r with
    | some (.mp _ l) => some l.length
    | _ => none
  | _, _ => none
def indexAddrS (P : Program) (t : TypeId) (x i : TV) (h : ay) (n : Nat) : Option lp :=
  match tsl P t, i with
  | some (size, _, _), .p (.int _ j) =>
    match x with
    | .tr t l => bif Nat.beq (sz t) size then some { v := .fm t l j.toNat 0, h, n, c := decide (0 ≤ j) && decide (j < l.length) } else none
    | .full r => match hget h r with
      | some (.row _ t l) => bif Nat.beq (sz t) size then some { v := .ptr r j.toNat 0, h, n, c := decide (0 ≤ j) && decide (j < l.length) } else none
      | _ => none
    | .sub r off len => match hget h r with
      | some (.row _ t l) => bif Nat.beq (sz t) size then some { v := .ptr r (off + j.toNat) 0, h, n, c := decide (0 ≤ j) && decide (j < len) } else none
      | _ => none
    | _ => none
  | _, _ => none
def bLo : Option TV → Option Int
  | some (.p (.int _ n)) => some n
  | some _ => none
  | none => some 0
def bHi : Option TV → Int → Option Int
  | some (.p (.int _ n)), _ => some n
  | some _, _ => none
  | none, d => some d
def sliceS (P : Program) (t : TypeId) (x : TV) (lo hi mx : Option TV) (h : ay) (n : Nat) : Option lp :=
  match mx, x, bLo lo with
  | none, .p (.string s), some l =>
    (bHi hi s.size).bind fun u => match P.underlying t with
      | some .string => some { v := .p (.string (s.extract l.toNat u.toNat)), h, n, c := decide (0 ≤ l) && decide (l ≤ u) && decide (u ≤ s.size) }
      | _ => none
  | none, .tr t0 es, some l =>
    (bHi hi es.length).bind fun u => match tsl P t with
      | some q => bif Nat.beq q.1 (sz t0) then some { v := .tr t0 ((es.drop l.toNat).take (u.toNat - l.toNat)), h, n, c := decide (0 ≤ l) && decide (l ≤ u) && decide (u ≤ es.length) } else none
      | _ => none
  | none, .full r, some l =>
    match hget h r with
    | some (.row _ t0 es) =>
      (bHi hi es.length).bind fun u => match tsl P t with
        | some q => bif Nat.beq q.1 (sz t0) then some { v := .sub r l.toNat (u.toNat - l.toNat), h, n, c := decide (0 ≤ l) && decide (l ≤ u) && decide (u ≤ es.length) } else none
        | _ => none
    | _ => none
  | none, .sub r off len, some l =>
    match hget h r with
    | some (.row _ t0 es) =>
      (bHi hi len).bind fun u => match tsl P t with
        | some q => bif Nat.beq q.1 (sz t0) then some { v := .sub r (off + l.toNat) (u.toNat - l.toNat), h, n, c := decide (0 ≤ l) && decide (l ≤ u) && decide (u ≤ len) } else none
        | _ => none
    | _ => none
  | none, .p (.slice none 0 0), some l =>
    (bHi hi 0).bind fun u => match tsl P t with
      | some _ => some { v := .p (.slice none 0 0), h, n, c := decide (l = 0) && decide (u = 0) }
      | _ => none
  | _, _, _ => none
def makeS (P : Program) (t : TypeId) (l c : TV) (h : ay) (n : Nat) : Option lp :=
  match tsl P t, Bt P t, l, c with
  | some (size, bytes, z), some e, .p (.int _ a), .p (.int _ b) =>
    (eF e (z.map .p)).bind fun d => bif Nat.beq (sz e) size then
      some { v := .full n, h := (n, .row true e (List.replicate a.toNat d)) :: h, n := n + 1, c := decide (0 ≤ a) && decide (a ≤ b) && decide ((bytes : Int) * b ≤ 1099511627776) }
    else none
  | _, _, _, _ => none
def JO (P : Program) (t : TypeId) : Option (List (Nat × Nat)) :=
  match P.underlying t with
  | some (.struct fs) => fs.toList.mapM fun f => (P.info? f.type).map fun i => (f.offset, i.size)
  | some (.array n e) => (P.info? e).map fun k => (List.range n).map fun i => (i * k.size, k.size)
  | _ => none
def fillS (pl : List (Nat × Nat)) (ρ : Operand → TV) : List TV → List (Nat × Operand) → Option (List TV)
  | z, [] => some z
  | z, (i, x) :: rest =>
    match pl[i]? with
    | none => none
    | some (off, size) => bif Nat.beq (clist (ρ x)).length size && Nat.ble (off + size) z.length && (clist (ρ x)).all okc then fillS pl ρ (vj z off (clist (ρ x))) rest else none
def fillE (e : Ty) (ρ : Operand → TV) : ay → Bool → List (den e) → List (Nat × Operand) → Option (ay × Bool × List (den e))
  | h, f, es, [] => some (h, f, es)
  | h, f, es, (i, x) :: rest =>
    (absL h (clist (ρ x))).bind fun q => (eF e q.1).bind fun y => bif Nat.blt i es.length && (clist (ρ x)).all okc then fillE e ρ q.2.2 (f && q.2.1) (es.set i y) rest else none
def elemsS (t : Ty) (x : TV) (h : ay) : Option (List (den t) × Bool × ay) :=
  match x with
  | .p (.slice none 0 0) => some ([], true, h)
  | .p (.slice (some _) 0 _) => some ([], true, h)
  | .tr t' l => (cast t' t l).map fun l => (l, !hasSl t, h)
  | .full r => match hget h r with | some (.row fr t' l) => (cast t' t l).map fun l => (l, fr, bif hasSl t then iV h r else h) | _ => none
  | .sub r off len => match hget h r with | some (.row fr t' l) => (cast t' t l).map fun l => ((l.drop off).take len, fr, bif hasSl t then iV h r else h) | _ => none
  | .p (.string s) => match t with
    | .int .u8 => some (s.data.toList.map fun b => (b.toNat : Int), true, h)
    | _ => none
  | _ => none
def strOf (l : List Int) : ByteArray := l.foldl (fun r n => r.push (UInt8.ofNat n.toNat)) ByteArray.empty
def isStr : TV → Bool
  | .p (.string _) => true
  | _ => false
def bytC (P : Program) (s d : TypeId) (x : TV) (h : ay) (n : Nat) : Option lp :=
  match P.underlying s, P.underlying d with
  | some (.slice e), some .string => match P.underlying e with
    | some (.int .u8) => bif isStr x then none else (elemsS (.int .u8) x h).map fun q => { v := .p (.string (strOf q.1)), h := h, n := n, c := true }
    | _ => none
  | _, _ => none
def appendS (P : Program) (t : TypeId) (s x : TV) (h : ay) (n : Nat) : Option lp :=
  match tsl P t, Bt P t with
  | some (size, bytes, _), some e =>
    bif Nat.beq (sz e) size then
      (elemsS e x h).bind fun q =>
        match s with
        | .p (.slice none 0 0) => some { v := .full n, h := (n, .row q.2.1 e q.1) :: q.2.2, n := n + 1, c := decide (q.1.length * bytes ≤ 1099511627776) }
        | .full r =>
          match hget q.2.2 r with
          | some (.row fr t' l) => (cast t' e l).bind fun l => some { v := .full n, h := (n, .row (fr && q.2.1) e (l ++ q.1)) :: iV q.2.2 r, n := n + 1, c := decide ((l.length + q.1.length) * bytes ≤ 1099511627776) }
          | _ => none
        | .sub r off len =>
          match hget q.2.2 r with
          | some (.row fr t' l) => (cast t' e l).bind fun l => some { v := .full n, h := (n, .row (fr && q.2.1) e ((l.drop off).take len ++ q.1)) :: iV q.2.2 r, n := n + 1, c := decide ((len + q.1.length) * bytes ≤ 1099511627776) }
          | _ => none
        | _ => none
    else none
  | _, _ => none
def ED (P : Program) (t : TypeId) (f : Nat) (x : TV) : Option TV :=
  match P.underlying t with
  | some (.struct fs) => (fs[f]?).bind fun d => (tv P d.type).bind fun av => match x with
    | .agg cs => bif (av.1 || Nat.beq av.2 1) && Nat.ble (d.offset + av.2) cs.length then some (pack av.1 ((cs.drop d.offset).take av.2)) else none
    | _ => none
  | _ => none
def imax (a b : Int) : Int := if a < b then b else a
def Nv (a b : Int) : Int := if b < a then b else a
def mmS (g : Int → Int → Int) : TV → List TV → Option TV
  | x, [] => some x
  | .p (.int k a), .p (.int _ b) :: xs => mmS g (.p (.int k (g a b))) xs
  | _, _ :: _ => none
def appendZ (P : Program) (t : TypeId) (s x : TV) (h : ay) (n : Nat) : Option lp :=
  match tsl P t, Bt P t, s, x with
  | some (size, bytes, z), some e, .p (.slice none 0 0), .p (.int _ a) =>
    (eF e (z.map .p)).bind fun d => bif Nat.beq (sz e) size then
      some { v := .full n, h := (n, .row true e (List.replicate a.toNat d)) :: h, n := n + 1, c := decide (0 ≤ a) && decide ((bytes : Int) * a ≤ 1099511627776) }
    else none
  | _, _, _, _ => none
def KA (a b : Int) : Bool := decide (a = b)
def GQ (a b : Bool) : Bool := a == b
def AW (a b : ByteArray) : Bool := decide (a.data.toList = b.data.toList)
def pK : (t : Ty) → den t → den t → Bool
  | .int _, a, b => KA a b
  | .bool, a, b => GQ a b
  | .str, a, b => AW a b
  | _, _, _ => false
def mget (k v : Ty) : List (den k × den v) → den k → den v
  | [], _ => eX v
  | p :: l, a => bif pK k a p.1 then p.2 else mget k v l a
def jb (k v : Ty) : List (den k × den v) → den k → Bool
  | [], _ => false
  | p :: l, a => bif pK k a p.1 then true else jb k v l a
def mset (k v : Ty) : List (den k × den v) → den k → den v → List (den k × den v)
  | [], a, b => [(a, b)]
  | p :: l, a, b => bif pK k a p.1 then (a, b) :: l else p :: mset k v l a b
def scT (P : Program) (t : TypeId) : Option Ty :=
  match P.underlying t with
  | some .bool => some .bool
  | some (.int k) => some (.int k)
  | some .string => some .str
  | _ => none
def zeroK : Ty → Value → Bool
  | .int k, .int k' n => decide (k' = k) && decide (n = 0)
  | .bool, .bool b => !b
  | .str, .string s => decide (s.data.toList = [])
  | _, _ => false
def mpT (P : Program) (t : TypeId) : Option MQ :=
  match P.underlying t with
  | some (.map kt et) => (scT P kt).bind fun k => (scT P et).bind fun v => ((P.info? et).bind (·.zero)).bind fun z => bif zeroK v z then some ⟨k, v⟩ else none
  | _ => none
def mpP (P : Program) (t : TypeId) : Bool :=
  match P.underlying t with
  | some (.map kt et) => (match P.underlying kt, P.underlying et with | some .bool, some (.pointer _) => true | _, _ => false)
  | _ => false
def yj (P : Program) (t : TypeId) : Option MQ := bif mpP P t then some PM else mpT P t
def keyV : (t : Ty) → TV → Option (den t)
  | .int k, .p (.int k' n) => if k' = k then some (n : Int) else none
  | .bool, .p (.bool b) => some b
  | .str, .p (.string s) => some s
  | _, _ => none
def lookupS (P : Program) (t : TypeId) (x y : TV) (ok : Bool) (h : ay) (n : Nat) : Option lp :=
  match mpT P t, x with
  | some q, .mp r => (match hget h r with
    | some (.mp q2 l) => if q2 = q then (keyV q2.k y).map fun a => { v := bif ok then .mF [.p (valK q2.v (mget q2.k q2.v l a)), .p (.bool (jb q2.k q2.v l a))] else .p (valK q2.v (mget q2.k q2.v l a)), h, n, c := true } else none
    | _ => none)
  | _, _ => none
def nT (P : Program) (t : TypeId) (x y z : TV) (h : ay) (n : Nat) : Option lp :=
  match mpT P t, x with
  | some q, .mp r => (match hget h r with
    | some (.mp q2 l) => if q2 = q then (keyV q2.k y).bind fun a => (keyV q2.v z).map fun b => { v := .undef, h := hset h r (.mp q2 (mset q2.k q2.v l a b)), n, c := true } else none
    | _ => none)
  | _, _ => none
def isInt : TV → Bool
  | .p (.int _ _) => true
  | _ => false
def ex (P : Program) (op : Op) (ρ : Operand → TV) (h : ay) (n : Nat) : Option lp :=
  match op with
  | .move x | .assign x => some { v := ρ x, h, n, c := true }
  | .pick k x y => match ρ k with
    | .p (.bool true) => some { v := ρ x, h, n, c := true }
    | .p (.bool false) => some { v := ρ y, h, n, c := true }
    | _ => none
  | .alloc t => (tz P t).bind fun z => bif z.all Value.oneCell' then some { v := .ptr n 0 0, h := (n, .box (z.map .p)) :: h, n := n + 1, c := true } else none
  | .box _ x => bif (clist (ρ x)).all okc then some { v := .ptr n 0 0, h := (n, .box (clist (ρ x))) :: h, n := n + 1, c := true } else none
  | .build t parts => (tz P t).bind fun z => (JO P t).bind fun pl => (fillS pl ρ (z.map .p) parts.toList).map fun cs => { v := .agg cs, h, n, c := true }
  | .buildSlice t len parts => match tsl P t, Bt P t with
    | some (size, _, z), some e => bif Nat.beq (sz e) size && Nat.ble (len * size) 16777216 then
        (eF e (z.map .p)).bind fun d => (fillE e ρ h true (List.replicate len d) parts.toList).map fun q => { v := .full n, h := (n, .row q.2.1 e q.2.2) :: q.1, n := n + 1, c := true }
      else none
    | _, _ => none
  | .load t x => (tv P t).bind fun av => loadS av (ρ x) h n
  | .store t x y => (tv P t).bind fun av => storeS av (ρ x) (ρ y) h n
  | .nilCheck x => match ρ x with | .ptr r i off => some { v := .ptr r i off, h, n, c := true } | .fm t l i off => some { v := .fm t l i off, h, n, c := true } | _ => none
  | .binOp op t x y _ => binS P op t (ρ x) (ρ y) h n
  | .unOp op _ x => match op, ρ x with
    | .not, .p (.bool b) => some { v := .p (.bool !b), h, n, c := true }
    | .neg, .p (.int k m) => some { v := .p (.int k (k.wrap (0 - m))), h, n, c := true }
    | _, _ => none
  | .convert s d x => match P.underlying s, P.underlying d, ρ x with
    | some (.int _), some (.int k), .p (.int _ m) => some { v := .p (.int k (k.wrap m)), h, n, c := true }
    | some .string, some .string, .p (.string b) => some { v := .p (.string b), h, n, c := true }
    | _, _, _ => bytC P s d (ρ x) h n
  | .makeInterface t x => match P.underlying t with | some (.interface _) | none => none | _ => some { v := .oV t (ρ x), h, n, c := true }
  | .makeFunc fn first cap => some { v := .fn fn (first.toList.map ρ) (cap.toList.map ρ), h, n, c := true }
  | .makeSlice t l c => makeS P t (ρ l) (ρ c) h n
  | .slice t x lo hi mx => sliceS P t (ρ x) (lo.map ρ) (hi.map ρ) (mx.map ρ) h n
  | .fieldAddr s x f => match tfld P s f, ρ x with
    | some fo, .ptr r i off => some { v := .ptr r i (off + fo), h, n, c := true }
    | some fo, .fm t l i off => some { v := .fm t l i (off + fo), h, n, c := true }
    | _, _ => none
  | .indexAddr t x i => indexAddrS P t (ρ x) (ρ i) h n
  | .index t x i => match P.underlying t, ρ x, ρ i with
    | some .string, .p (.string s), .p (.int _ j) => some { v := .p (.int .u8 (s.data.toList.getD j.toNat 0).toNat), h, n, c := decide (0 ≤ j) && decide (j < s.size) }
    | _, _, _ => none
  | .extract x i => match ρ x with
    | .mF vs => bif Nat.blt i vs.length then some { v := vs.getD i .undef, h, n, c := true } else none
    | _ => none
  | .call c => match c.callee with
    | .builtin .len => match c.args.toList, (c.argTypes[0]?).bind P.underlying with
      | [x], some d => (lenS d (ρ x) h).map fun (m : Nat) => { v := .p (.int .i64 (m : Int)), h, n, c := true }
      | _, _ => none
    | .builtin .append => match c.args.toList, c.argTypes.toList with
      | [s, x], t :: t2 :: _ => (match P.underlying t2 with
        | some (.slice _) => appendS P t (ρ s) (ρ x) h n
        | some .string => appendS P t (ρ s) (ρ x) h n
        | some (.int _) => appendZ P t (ρ s) (ρ x) h n
        | _ => none)
      | _, _ => none
    | .builtin .max => match c.args.toList with
      | x :: xs => bif isInt (ρ x) then (mmS imax (ρ x) (xs.map ρ)).map fun v => { v, h, n, c := true } else none
      | _ => none
    | .builtin .min => match c.args.toList with
      | x :: xs => bif isInt (ρ x) then (mmS Nv (ρ x) (xs.map ρ)).map fun v => { v, h, n, c := true } else none
      | _ => none
    | .builtin .cap => match c.args.toList, (c.argTypes[0]?).bind P.underlying with
      | [x], some (.slice _) => (match ρ x with
        | .p (.slice none 0 0) => some { v := .p (.int .i64 0), h, n, c := true }
        | _ => none)
      | _, _ => none
    | _ => none
  | .field t x f => (ED P t f (ρ x)).map fun v => { v, h, n, c := true }
  | .makeMap t r => (yj P t).bind fun k => bif r.isNone then some { v := .mp n, h := (n, .mp k []) :: h, n := n + 1, c := true } else none
  | .lookup t x y ok => lookupS P t (ρ x) (ρ y) ok h n
  | .mapUpdate t x y z => nT P t (ρ x) (ρ y) (ρ z) h n
  | .insert t x y z => nT P t (ρ x) (ρ y) (ρ z) h n
  | _ => none
end Go.Tw
namespace Go.Tw
open Go Go.RowKit
variable [k7]
def bg : List Ty → Ty
  | [] => .un
  | t :: ts => .pr t (bg ts)
inductive RM where
  | own (fr : Bool)
  | GZ
  | mv
  | mix (bs : List Bool)
def Fl : Ty → Bool
  | .ref _ => false
  | _ => true
structure bj where
  f : FuncId
  ps : List (Ty × Bool)
  rs : List Ty
  rm : RM
  m : den (bg (ps.map (·.1))) → Option (den (bg rs) × den (bg ((ps.filter (·.2)).map (·.1))))
def G1 : List (Ty × Bool) → List TV → Bool
  | (.cl g _, _) :: ps, .fn (.func g') _ _ :: xs => Nat.beq g g' && G1 ps xs
  | _ :: ps, _ :: xs => G1 ps xs
  | _, _ => true
def cget : List bj → FuncId → List TV → Option bj
  | [], _, _ => none
  | c :: cs, f, xs => bif Nat.beq f c.f && G1 c.ps xs then some c else cget cs f xs
def opnC (fr : Bool) : List TV → ay → Nat → List TV × ay × Nat
  | [], h, n => ([], h, n)
  | .tr t l :: cs, h, n => let q := opnC fr cs ((n, .row fr t l) :: h) (n + 1); (.full n :: q.1, q.2)
  | .fm t l _ _ :: cs, h, n => let q := opnC fr cs ((n, .box (encT t (l.headD (eX t)))) :: h) (n + 1); (.ptr n 0 0 :: q.1, q.2)
  | c :: cs, h, n => let q := opnC fr cs h n; (c :: q.1, q.2)
def np (fr : Bool) (t : Ty) (x : den t) (h : ay) (n : Nat) : TV × ay × Nat :=
  let q := opnC fr (encT t x) h n
  (pack (isAg t) q.1, q.2)
def opnL (fr : Bool) : (ts : List Ty) → den (bg ts) → ay → Nat → List TV × ay × Nat
  | [], _, h, n => ([], h, n)
  | t :: ts, x, h, n => let q := np fr t x.1 h n; let z := opnL fr ts x.2 q.2.1 q.2.2; (q.1 :: z.1, z.2)
def rU : (ts : List Ty) → den (bg ts) → ay → Nat → List TV × ay × Nat
  | [], _, h, n => ([], h, n)
  | t :: ts, x, h, n => let q := np (Fl t) t x.1 h n; let z := rU ts x.2 q.2.1 q.2.2; (q.1 :: z.1, z.2)
def retT : List TV → TV
  | [v] => v
  | vs => .mF vs
def valL : (ts : List Ty) → den (bg ts) → List TV
  | [], _ => []
  | t :: ts, x => yu t x.1 :: valL ts x.2
def opnX : List Bool → (ts : List Ty) → den (bg ts) → ay → Nat → List TV × ay × Nat
  | _, [], _, h, n => ([], h, n)
  | bs, t :: ts, x, h, n => match bs.headD true with
    | true => let q := np true t x.1 h n; let z := opnX bs.tail ts x.2 q.2.1 q.2.2; (q.1 :: z.1, z.2)
    | false => let z := opnX bs.tail ts x.2 h n; (yu t x.1 :: z.1, z.2)
def opnR (rm : RM) (ts : List Ty) (x : den (bg ts)) (h : ay) (n : Nat) : TV × ay × Nat :=
  match rm with
  | .own fr => let q := opnL fr ts x h n; (retT q.1, q.2)
  | .GZ => (retT (valL ts x), h, n)
  | .mv => let q := opnL true ts x h n; (retT q.1, q.2)
  | .mix bs => let q := opnX bs ts x h n; (retT q.1, q.2)
def cellsOf (t : Ty) (x : TV) : Option (List TV) :=
  match x with
  | .agg cs => bif isAg t then some cs else none
  | x => bif isAg t then none else some [x]
def seeT (h : ay) : (t : Ty) → List TV → Option (den t × List TV)
  | .int k, cs => match cs with
    | .p (.int k' n) :: r => if k' = k then some ((n : Int), r) else none
    | _ => none
  | .bool, cs => match cs with
    | .p (.bool b) :: r => some (b, r)
    | _ => none
  | .str, cs => match cs with
    | .p (.string s) :: r => some (s, r)
    | _ => none
  | .un, r => some ((), r)
  | .pr a b, r => (seeT h a r).bind fun p => (seeT h b p.2).bind fun q => some ((p.1, q.1), q.2)
  | .sl t, cs => match cs with
    | c :: r => (frzC h c).bind fun f => match f with
      | .tr t' l => (cast t' t l).bind fun l => some (l, r)
      | .p (.slice none 0 0) => some ([], r)
      | _ => none
    | _ => none
  | .ref t, cs => match cs with
    | .fm t' [y] 0 0 :: r => (cast t' t [y]).bind fun l => some (l.headD (eX t), r)
    | .ptr k 0 0 :: r => match hget h k with
      | some (.box cs) => (match seeT h t cs with | some (x, []) => some (x, r) | _ => none)
      | _ => none
    | _ => none
  | .cl g t, cs => match cs with
    | .fn (.func g') [] ca :: r => bif Nat.beq g' g then (match seeT h t ca with | some (x, []) => some (x, r) | _ => none) else none
    | _ => none
def sR (h : ay) (t : Ty) (cs : List TV) : Option (den t) :=
  match seeT h t cs with
  | some (x, []) => some x
  | _ => none
def argL (h : ay) : (ps : List (Ty × Bool)) → List TV → Option (den (bg (ps.map (·.1))))
  | [], [] => some ()
  | p :: ps, x :: xs => (cellsOf p.1 x).bind fun cs => (sR h p.1 cs).bind fun y => (argL h ps xs).bind fun z => some (y, z)
  | _, _ => none
def topB : List TV → Bool
  | [] => true
  | .p _ :: cs => topB cs
  | .full _ :: cs => topB cs
  | .sub _ _ _ :: cs => topB cs
  | _ => false
def tF (g : TV) (t : Ty) (h : ay) : Option (den t × ay) :=
  (cellsOf t g).bind fun cs => (absL h cs).bind fun q => bif topB cs && q.2.1 then (eF t q.1).bind fun x => some (x, q.2.2) else none
def remN : ay → List (Ty × Bool) → List TV → Option ay
  | h, [], [] => some h
  | h, (_, false) :: ps, _ :: xs => remN h ps xs
  | h, (t, true) :: ps, x :: xs => bif Fl t then (tF x t h).bind fun q => remN q.2 ps xs else none
  | _, _, _ => none
def wk (hd : ay) : ay → (ps : List (Ty × Bool)) → List TV → Option (den (bg (ps.map (·.1))))
  | _, [], [] => some ()
  | h, (t, false) :: ps, x :: xs => (cellsOf t x).bind fun cs => (sR hd t cs).bind fun y => (wk hd h ps xs).bind fun z => some (y, z)
  | h, (t, true) :: ps, x :: xs => (tF x t h).bind fun q => (wk hd q.2 ps xs).bind fun z => some (q.1, z)
  | _, _, _ => none
def wDat (h : ay) : (t : Ty) → TV → Option (den t)
  | .sl t, .full r => match hget h r with
    | some (.row true t' l) => cast t' t l
    | _ => none
  | .sl t, .mJ r i off => match hget h r with
    | some (.row true t0 l) => (match ((encT t0 (l.getD i (eX t0))).drop off).headD .undef with
      | .tr t' l' => cast t' t l'
      | _ => none)
    | _ => none
  | _, _ => none
def wNew (h : ay) : (t : Ty) → TV → den t → Option dq
  | .sl t, .full _, l => some (.row true t l)
  | .sl t, .mJ r i off, l' => match hget h r with
    | some (.row true t0 l) => (eF t0 (vj (encT t0 (l.getD i (eX t0))) off [.tr t l'])).map fun e => .row true t0 (l.set i e)
    | _ => none
  | _, _, _ => none
def flatRow : Option dq → Bool
  | some (.row _ t _) => !hasSl t
  | _ => false
def wq : Option dq → Bool
  | some (.row _ _ _) => true
  | _ => false
def wReg : List (Ty × Bool) → List TV → Option Nat
  | (_, false) :: ps, _ :: xs => wReg ps xs
  | (_, true) :: ps, x :: _ => bif ps.all (fun p => !p.2) then (match x with | .full r => some r | .mJ r _ _ => some r | _ => none) else none
  | _, _ => none
def argW (h hd : ay) : (ps : List (Ty × Bool)) → List TV → Option (den (bg (ps.map (·.1))))
  | [], [] => some ()
  | (t, false) :: ps, x :: xs => (cellsOf t x).bind fun cs => (sR hd t cs).bind fun y => (argW h hd ps xs).bind fun z => some (y, z)
  | (t, true) :: ps, x :: xs => (wDat h t x).bind fun y => (argW h hd ps xs).bind fun z => some (y, z)
  | _, _ => none
def wPut (h : ay) : (ps : List (Ty × Bool)) → List TV → den (bg ((ps.filter (·.2)).map (·.1))) → Option dq
  | (_, false) :: ps, _ :: xs, y => wPut h ps xs y
  | (t, true) :: _, x :: _, y => wNew h t x y.1
  | _, _, _ => none
def sput (m : Fm) (dst : Option Tmp) (x : TV) (s : List (Nat × TV)) : Option (List (Nat × TV)) :=
  match dst with
  | some d => bif Nat.blt d m.n && m.st.all (fun q => !Nat.beq q.1 d) then some ((d, x) :: s) else none
  | none => some s
def calleeOf (ρ : Operand → TV) (c : Call) : Option (FuncId × List TV) :=
  match c.callee with
  | .value x => match ρ x with
    | .fn (.func f) fi ca => some (f, fi ++ c.args.toList.map ρ ++ ca)
    | _ => none
  | _ => none
def mq : Op → Bool
  | .call c => match c.callee with | .builtin _ => false | _ => true
  | _ => false
def stillB : Op → Bool
  | .move _ | .assign _ | .pick _ _ _ | .build _ _ | .load _ _ | .nilCheck _ | .binOp _ _ _ _ _ | .unOp _ _ _ | .convert _ _ _ | .makeInterface _ _ | .makeFunc _ _ _ | .slice _ _ _ _ _ | .fieldAddr _ _ _ | .indexAddr _ _ _ | .index _ _ _ | .extract _ _ => true
  | .call c => match c.callee with | .builtin .len => true | .builtin .max => true | .builtin .min => true | .builtin .cap => true | _ => false
  | .field _ _ _ => true
  | _ => false
section
variable (P : Program) (m : Fm) (F : List bj) {ρ : Type}
mutual
def flatV : TV → Bool
  | .p _ => true
  | .tr _ _ => true
  | .fm _ _ _ _ => true
  | .fn _ fi ca => flatB fi && flatB ca
  | _ => false
def flatB : List TV → Bool
  | [] => true
  | c :: cs => flatV c && flatB cs
end
def qj (xs : List TV) : Bool := xs.all fun x => flatB (clist x)
def RM.isMv : RM → Bool
  | .mv => true
  | _ => false
def RM.isOwnF : RM → Bool
  | .own true => true
  | _ => false
mutual
def noI : TV → TV
  | .mJ _ _ _ => .undef
  | .agg cs => .agg (wu cs)
  | .mF cs => .mF (wu cs)
  | .oV t x => .oV t (noI x)
  | .fn f fi ca => .fn f (wu fi) (wu ca)
  | x => x
def wu : List TV → List TV
  | [] => []
  | c :: cs => noI c :: wu cs
end
def noIS : List (Nat × TV) → List (Nat × TV)
  | [] => []
  | (k, x) :: s => (k, noI x) :: noIS s
def A8 := (ρ : Type) → FuncId → List TV → ay → Nat → (TV → ay → Nat → Option ρ) → Option ρ
variable (N : A8)
def evOp (o : Oper) (s : List (Nat × TV)) (h : ay) (n : Nat) (K : St → Option ρ) : Option ρ :=
  match o.op with
  | .call c =>
    bif mq o.op then
      (calleeOf (ev s) c).bind fun q => match cget F q.1 q.2 with
      | none => N ρ q.1 q.2 h n fun v h n => (sput m o.dst v (noIS s)).bind fun s => K ⟨s, h, n⟩
      | some cn =>
        bif cn.ps.all (!·.2) then
          bif cn.rm.isOwnF || qj q.2 then
            (argL h cn.ps q.2).bind fun x => (cn.m x).bind fun y =>
              let v := opnR cn.rm cn.rs y.1 h n
              (sput m o.dst v.1 s).bind fun s => K ⟨s, v.2.1, v.2.2⟩
          else none
        else
          bif cn.rm.isMv then
            match wReg cn.ps q.2 with
            | none => (remN h cn.ps q.2).bind fun hd => (wk hd h cn.ps q.2).bind fun x => (cn.m x).bind fun y =>
              let v := opnL true cn.rs y.1 hd n
              (sput m o.dst (retT v.1) s).bind fun s => K ⟨s, v.2.1, v.2.2⟩
            | some _ => none
          else bif cn.rm.isOwnF then
            (wReg cn.ps q.2).bind fun r => bif flatRow (hget h r) then (argW h (iV h r) cn.ps q.2).bind fun x => (cn.m x).bind fun y => (wPut h cn.ps q.2 y.2).bind fun g =>
              let v := opnR cn.rm cn.rs y.1 (hset h r g) n
              (sput m o.dst v.1 s).bind fun s => K ⟨s, v.2.1, v.2.2⟩ else bif wq (hget h r) then (argW h (iV (killH r h) r) cn.ps q.2).bind fun x => (cn.m x).bind fun y => (wPut h cn.ps q.2 y.2).bind fun g =>
              let v := opnR cn.rm cn.rs y.1 (killH r (hset h r g)) n
              (sput m o.dst v.1 (killS r s)).bind fun s => K ⟨s, v.2.1, v.2.2⟩ else none
          else none
    else (ex P o.op (ev s) h n).bind fun a => (sput m o.dst a.v (match a.k with | some r => killS r s | none => s)).bind fun s => bif a.c then K ⟨s, a.h, a.n⟩ else none
  | _ => (ex P o.op (ev s) h n).bind fun a => (sput m o.dst a.v (match a.k with | some r => killS r s | none => s)).bind fun s => bif a.c then K ⟨s, a.h, a.n⟩ else none
def gv (want : Bool) : TV → Option Bool
  | .p (.bool b) => some (bif want then b else !b)
  | _ => none
def isUn : TV → Bool
  | .mF [] => true
  | _ => false
def evOps (dl : List (Option Tmp)) : List Oper → St → (St → Option ρ) → Option ρ
  | [], σ, K => K σ
  | o :: os, σ, K =>
    match o.guard with
    | none => evOp P m F N o σ.s σ.h σ.n fun σ => evOps dl os σ K
    | some (j, want) =>
      match dl.getD j none with
      | none => none
      | some t =>
        match gv want (sget σ.s t) with
        | none => bif isUn (sget σ.s t) then (sput m o.dst (.mF []) σ.s).bind fun s => evOps dl os ⟨s, σ.h, σ.n⟩ K else none
        | some cw =>
          bif cw then evOp P m F N o ((t, .p (.bool want)) :: σ.s) σ.h σ.n fun σ => evOps dl os σ K
          else (sput m o.dst (.mF []) ((t, .p (.bool !want)) :: σ.s)).bind fun s => evOps dl os ⟨s, σ.h, σ.n⟩ K
def pget : List (Nat × Option dq) → Nat → Option dq
  | [], _ => none
  | (k, x) :: s, t => bif Nat.beq t k then x else pget s t
def ptrOf : dq → Nat → TV
  | .row _ _ _, n => .full n
  | .box _, n => .ptr n 0 0
  | .mp _ _, n => .mp n
structure PX where
  d : Nat
  src : Nat
  r : Nat
  i : Nat
  off : Nat
  t : Ty
  l : List (den t)
structure DL where
  s : List (Nat × TV)
  pd : List (Nat × Option dq)
  h : ay
  n : Nat
  x : Option PX
def isPM : dq → Bool
  | .mp ⟨_, .ref _⟩ _ => true
  | _ => false
def ny (bh : dq) (h : ay) (n : Nat) : TV × ay × Nat := bif isPM bh then (.undef, h, n) else (ptrOf bh n, (n, bh) :: h, n + 1)
def attL : List Nat → DL → DL
  | [], τ => τ
  | t :: ts, τ => match pget τ.pd t with
    | some bh => attL ts ⟨(t, (ny bh τ.h τ.n).1) :: τ.s, (t, none) :: τ.pd, (ny bh τ.h τ.n).2.1, (ny bh τ.h τ.n).2.2, τ.x⟩
    | none => attL ts τ
def tmpsOf (xs : List Operand) : List Nat := xs.filterMap fun x => match x with | .tmp t => some t | _ => none
def dY (op : Op) : List Nat := tmpsOf op.operands.toList
def pB : List TV → Bool
  | [] => true
  | .p _ :: cs => pB cs
  | _ => false
def fillF (e : Ty) (ρ : Operand → TV) : List (den e) → List (Nat × Operand) → Option (List (den e))
  | es, [] => some es
  | es, (i, x) :: rest => bif pB (clist (ρ x)) && Nat.blt i es.length && (clist (ρ x)).all okc then (eF e (clist (ρ x))).bind fun y => fillF e ρ (es.set i y) rest else none
def alcS (op : Op) (ρ : Operand → TV) : Option (dq × Bool) :=
  match op with
  | .alloc t => (tz P t).bind fun z => bif z.all Value.oneCell' then some (.box (z.map .p), true) else none
  | .box _ x => bif (clist (ρ x)).all okc && flatB (clist (ρ x)) then some (.box (clist (ρ x)), true) else none
  | .makeSlice t l c => match tsl P t, Bt P t, ρ l, ρ c with
    | some (size, bytes, z), some e, .p (.int _ a), .p (.int _ b) =>
      (eF e (z.map .p)).bind fun d => bif Nat.beq (sz e) size then some (.row true e (List.replicate a.toNat d), decide (0 ≤ a) && decide (a ≤ b) && decide ((bytes : Int) * b ≤ 1099511627776)) else none
    | _, _, _, _ => none
  | .buildSlice t len parts => match tsl P t, Bt P t with
    | some (size, _, z), some e => bif Nat.beq (sz e) size && Nat.ble (len * size) 16777216 then
        (eF e (z.map .p)).bind fun d => (fillF e ρ (List.replicate len d) parts.toList).map fun es => (.row true e es, true)
      else none
    | _, _ => none
  | .makeMap t none => (yj P t).map fun q => (.mp q [], true)
  | _ => none
def refT : TV → List Nat
  | .full r => [r]
  | .sub r _ _ => [r]
  | .mJ r _ _ => [r]
  | .ptr r _ _ => [r]
  | .mp r => [r]
  | _ => []
def Bi (x : TV) : List Nat := (clist x).flatMap refT
def rdI (op : Op) (ρ : Operand → TV) : List Nat :=
  match op with
  | .load _ x => refT (ρ x)
  | .convert _ _ x => refT (ρ x)
  | .slice _ x _ _ _ => refT (ρ x)
  | .indexAddr _ x _ => refT (ρ x)
  | .call c => match c.callee with | .builtin .len => c.args.toList.flatMap fun x => refT (ρ x) | _ => []
  | _ => []
def wrI (op : Op) (ρ : Operand → TV) : List Nat :=
  match op with
  | .store _ x y => refT (ρ x) ++ Bi (ρ y)
  | .mapUpdate _ x _ _ => refT (ρ x)
  | .insert _ x _ _ => refT (ρ x)
  | .lookup _ x _ _ => refT (ρ x)
  | .buildSlice _ _ ps => ps.toList.flatMap fun p => Bi (ρ p.2)
  | .call c => match c.callee with
    | .builtin .append => c.args.toList.flatMap fun x => refT (ρ x)
    | _ => []
  | _ => []
structure KI where
  hv : Bool
  rd : List Nat
  wr : List Nat
  ta : List Nat
  kn : Nat
def KI.lt : KI := ⟨false, [], [], [], 0⟩
def Bz (o : Oper) (σ : Operand → TV) (h : ay) (n : Nat) (K : lp → Option ρ) : Option ρ :=
  match o.op with
  | .call c =>
    bif mq o.op then
      (calleeOf σ c).bind fun q => (cget F q.1 q.2).bind fun cn =>
        bif cn.ps.all (!·.2) && (cn.rm.isOwnF || qj q.2) then
          (argL h cn.ps q.2).bind fun x => (cn.m x).bind fun y =>
            let v := opnR cn.rm cn.rs y.1 h n
            K { v := v.1, h := v.2.1, n := v.2.2, c := true }
        else bif cn.ps.all (!·.2) then none else
            bif cn.rm.isMv then
              match wReg cn.ps q.2 with
              | none => (remN h cn.ps q.2).bind fun hd => (wk hd h cn.ps q.2).bind fun x => (cn.m x).bind fun y =>
                let v := opnL true cn.rs y.1 hd n
                K { v := retT v.1, h := v.2.1, n := v.2.2, c := true }
              | some _ => none
            else none
    else (ex P o.op σ h n).bind fun a => bif a.k.isNone && a.c then K a else none
  | _ => (ex P o.op σ h n).bind fun a => bif a.k.isNone && a.c then K a else none
def jn (dst : Option Nat) : Bool :=
  match dst with
  | some d => Nat.blt d m.n && m.st.all (fun q => !Nat.beq q.1 d)
  | none => true
def pt (dst : Option Nat) (x : TV) (p : Option dq) (τ : DL) : DL :=
  match dst with
  | some d => ⟨(d, x) :: τ.s, (d, p) :: τ.pd, τ.h, τ.n, τ.x⟩
  | none => τ
def apX (op : Op) (dst : Option Nat) (σ : Operand → TV) (h : ay) : Option (PX × Bool) := none
def evX (o : Oper) (σ : Operand → TV) (h : ay) (n : Nat) (K : lp → Option PX → Option ρ) : Option ρ :=
  match apX o.op o.dst σ h with
  | some (px, c) => bif c then K { v := .undef, h := h, n := n, c := true } (some px) else none
  | none => Bz P F o σ h n fun A => K A none
def IH (op : Op) (σ : Operand → TV) : List Nat :=
  match op with
  | .call c => bif mq op then (match calleeOf σ c with | some q => (match cget F q.1 q.2 with | some cn => bif cn.ps.all (!·.2) then [] else q.2.flatMap refT ++ q.2.flatMap Bi | none => []) | none => []) else []
  | _ => []
def G5 (o : Oper) (σ : Operand → TV) (h : ay) : List Nat :=
  match apX o.op o.dst σ h with
  | some _ => []
  | none => wrI o.op σ ++ IH F o.op σ
def stX (o : Oper) (τ : DL) (px : PX) : Option (ay × List (Nat × TV) × Bool) := none
def knX (x : Option PX) : Nat := match x with | some _ => 2 | none => 0
def NM (o : Oper) (τ : DL) (K : DL → KI → Option ρ) : Option ρ :=
  let τ1 := attL (dY o.op) τ
  evX P F o (ev τ1.s) τ1.h τ1.n fun A x => K (pt o.dst A.v none ⟨τ1.s, τ1.pd, A.h, A.n, x⟩) ⟨true, [], G5 F o (ev τ1.s) τ1.h ++ List.range' τ.n (A.n - τ.n), (dY o.op).filter fun t => (pget τ.pd t).isSome, knX x⟩
def Bp (d : Option Nat) (l : List Nat) : Bool :=
  match d with
  | some d => l.all fun x => !Nat.beq x d
  | none => true
def idxS (op : Op) (ρ : Operand → TV) (pd : Nat → Option dq) : Option (Nat × dq × Bool) :=
  match op with
  | .move (.tmp t) => match pd t with
    | some (.mp q l) => some (t, .mp q l, true)
    | _ => none
  | _ => none
def ldS (op : Op) (ρ : Operand → TV) (pd : Nat → Option dq) : Option TV :=
  match op with
  | .lookup ty (.tmp t) y ok => match pd t, mpT P ty with
    | some (.mp q l), some q2 => if q = q2 then (keyV q.k (ρ y)).map fun a => bif ok then .mF [.p (valK q.v (mget q.k q.v l a)), .p (.bool (jb q.k q.v l a))] else .p (valK q.v (mget q.k q.v l a)) else none
    | _, _ => none
  | _ => none
def AZ : Ty → Bool
  | .int _ | .bool => true
  | _ => false
def JU (a b : Int) : Bool := decide (a < b)
def AY (a b : Bool) : Bool := !a && b
def wb : (k : Ty) → den k → den k → Bool
  | .int _, a, b => JU a b
  | .bool, a, b => AY a b
  | _, _, _ => false
def sins (k v : Ty) : List (den k × den v) → den k → den v → List (den k × den v)
  | [], a, b => [(a, b)]
  | p :: l, a, b => bif wb k a p.1 then (a, b) :: p :: l else p :: sins k v l a b
def Kf : Option dq → Bool
  | some (.box _) => true
  | _ => false
def wZ (g : Nat) (h : ay) (t : Ty) (x : TV) : Option (den t × List Nat) :=
  if e : t = PV then (match x with | .ptr r i off => (bif Nat.beq i 0 && (Nat.blt r g && Kf (hget h r)) then some ((e.symm ▸ (((r : Nat) : Int), ((off : Nat) : Int)) : den t), [r]) else none) | _ => none)
  else (keyV t x).map fun b => (b, [])
def insS (g : Nat) (h : ay) (op : Op) (ρ : Operand → TV) (pd : Nat → Option dq) : Option (Nat × dq × Bool × List Nat) :=
  match op with
  | .insert ty (.tmp t) y z => match pd t, yj P ty with
    | some (.mp q l), some q2 => if q = q2 then (keyV q.k (ρ y)).bind fun a => (wZ g h q.v (ρ z)).map fun b => (t, .mp q (sins q.k q.v l a b.1), AZ q.k && !jb q.k q.v l a && (tmpsOf [y, z]).all fun u => (pd u).isNone, b.2) else none
    | _, _ => none
  | _ => none
def NC (g : Nat) (l : List (Bool × (Int × Int))) (b : Bool) : Option TV :=
  bif jb .bool PV l b then (bif Nat.blt (Int.toNat (mget .bool PV l b).1) g then some (.ptr (Int.toNat (mget .bool PV l b).1) 0 (Int.toNat (mget .bool PV l b).2)) else none) else none
def isPM2 (P : Program) (ty : TypeId) : dq → Option (List (Bool × (Int × Int)))
  | .mp q l => if e : q = PM then (bif mpP P ty then some (e ▸ l : List (den PM.k × den PM.v)) else none) else none
  | _ => none
def ldP (g : Nat) (op : Op) (ρ : Operand → TV) (pd : Nat → Option dq) : Option (Bool × TV × TV) :=
  match op with
  | .lookup ty (.tmp t) y false => match pd t, ρ y with
    | some bh, .p (.bool b) => (isPM2 P ty bh).bind fun l => (NC g l true).bind fun x => (NC g l false).map fun z => (b, x, z)
    | _, _ => none
  | _ => none
def evL (g : Nat) (hv : Bool) (o : Oper) (τ : DL) (K : DL → KI → Option ρ) : Option ρ :=
    match idxS o.op (ev τ.s) (pget τ.pd) with
    | some (t, bh, c) => bif (o.dst.isSome && Bp o.dst [t]) && c then K (pt o.dst .undef (some bh) (pt (some t) .undef none τ)) ⟨false, [], [], [t], 0⟩ else none
    | none => match ldS P o.op (ev τ.s) (pget τ.pd) with
    | some v => K (pt o.dst v none τ) KI.lt
    | none => match ldP P g o.op (ev τ.s) (pget τ.pd) with
    | some (b, x, y) => bif b then K (pt o.dst x none τ) KI.lt else K (pt o.dst y none τ) KI.lt
    | none => match insS P g τ.h o.op (ev τ.s) (pget τ.pd) with
    | some (t, bh, c, rd) => bif hv && o.dst.isNone && o.guard.isNone && c then K (pt (some t) .undef (some bh) τ) ⟨false, rd, [], [t], 4⟩ else none
    | none =>
    bif (dY o.op).any (fun t => (pget τ.pd t).isSome) then (bif hv then NM P F o τ K else none)
    else match alcS P o.op (ev τ.s) with
      | some (bh, c) => bif hv && o.dst.isSome && c then K (pt o.dst .undef (some bh) τ) ⟨false, [], [], [], 1⟩ else none
      | none =>
        bif stillB o.op then (ex P o.op (ev τ.s) τ.h τ.n).bind fun A => bif A.c then K (pt o.dst A.v none τ) ⟨false, rdI o.op (ev τ.s), [], [], 0⟩ else none
        else (bif hv then NM P F o τ K else none)
def evD1 (g : Nat) (o : Oper) (τ : DL) (K : DL → KI → Option ρ) : Option ρ :=
  bif jn m o.dst then
    match τ.x with
    | none => evL P F g true o τ K
    | some px => match stX o τ px with
      | some (h, s, c) => bif c then K ⟨s, τ.pd, h, τ.n, none⟩ ⟨true, [], [], [], 3⟩ else none
      | none => bif Bp o.dst [px.d, px.src] then evL P F g false o τ K else none
  else none
def J5 (x : Option PX) (d : Option Nat) : Bool :=
  match x with
  | none => true
  | some px => Bp d [px.d, px.src]
def evD (g : Nat) (dl : List (Option Tmp)) : List Oper → DL → List KI → (DL → List KI → Option ρ) → Option ρ
  | [], τ, acc, K => K τ acc
  | o :: os, τ, acc, K =>
    match o.guard with
    | none => evD1 P m F g o τ fun τ k => evD g dl os τ (k :: acc) K
    | some (j, want) =>
      match dl.getD j none with
      | none => none
      | some t =>
        match gv want (sget τ.s t) with
        | none => bif isUn (sget τ.s t) && jn m o.dst && J5 τ.x o.dst then evD g dl os (pt o.dst (.mF []) none τ) (KI.lt :: acc) K else none
        | some cw =>
          bif cw then evD1 P m F g o ⟨(t, .p (.bool want)) :: τ.s, τ.pd, τ.h, τ.n, τ.x⟩ fun τ k => evD g dl os τ (k :: acc) K
          else bif jn m o.dst && J5 τ.x o.dst then evD g dl os (pt o.dst (.mF []) none ⟨(t, .p (.bool !want)) :: τ.s, τ.pd, τ.h, τ.n, τ.x⟩) (KI.lt :: acc) K else none
def J0 (acc : List Nat) (o : Oper) : Nat := o.after.toList.foldl (fun m e => bif Region.binds .any e then m ||| (1 <<< e.on) ||| acc.getD e.on 0 else m) 0
def J3 : List Oper → List Nat → List Nat
  | [], acc => acc
  | o :: os, acc => J3 os (acc ++ [J0 acc o])
def sn (a b : List Nat) : Bool := a.all fun x => b.all fun y => !Nat.beq x y
def lkT (dl : List (Option Tmp)) (o : Oper) : List Nat :=
  dY o.op ++ (match o.guard with | some (j, _) => (match dl.getD j none with | some t => [t] | none => []) | none => [])
def neB : Option Nat → Option Nat → Bool
  | some a, some b => !Nat.beq a b
  | _, _ => true
def knB : Nat → Nat → Bool
  | 0, 0 => true
  | 0, 1 => true
  | 1, 0 => true
  | 1, 1 => true
  | 0, 2 => true
  | 2, 0 => true
  | 0, 4 => true
  | 4, 0 => true
  | 1, 4 => true
  | 4, 1 => true
  | 4, 4 => true
  | _, _ => false
def E3 (dl : List (Option Tmp)) (o1 : Oper) (k1 : KI) (o2 : Oper) (k2 : KI) : Bool :=
  knB k1.kn k2.kn && Bp o1.dst (lkT dl o2) && Bp o2.dst (lkT dl o1) && neB o1.dst o2.dst && !(k1.hv && k2.hv) && sn k1.rd k2.wr && sn k2.rd k1.wr && ((Nat.beq k1.kn 4 && Nat.beq k2.kn 4) || (sn k1.ta (lkT dl o2) && sn k2.ta (lkT dl o1)))
def chkD (dl : List (Option Tmp)) (os : List Oper) (ks : List KI) : Bool :=
  (List.range os.length).all fun i => match os[i]?, ks[i]? with
    | some o, some k => (o.after.toList.all fun e => !Region.binds .any e || Nat.blt e.on i) && (List.range i).all fun x => match os[x]?, ks[x]? with
      | some o1, some k1 => Nat.testBit ((J3 os []).getD i 0) x || E3 dl o1 k1 o k
      | _, _ => false
    | _, _ => false
def LO := (ρ : Type) → St → (Exit → St → Option ρ) → Option ρ
def qF : List (Nat × LO) → Nat → Option LO
  | [], _ => none
  | (k, x) :: l, i => bif Nat.beq i k then some x else qF l i
def zW : Code → Nat
  | .region i _ _ => i
  | .seq a b => zW a
  | .block _ a => zW a
  | .loop a => zW a
  | _ => 0
def evC (L : List (Nat × LO)) : Code → (Exit → St → Option ρ) → St → Option ρ
  | .skip, K, σ => K .normal σ
  | .exit id, K, σ => K (.exit id) σ
  | .ret, K, σ => K .ret σ
  | .region _ ops draw, K, σ =>
    bif draw then
      bif P.follows .mixedOrders then
        evD P m F σ.n (ops.toList.map (·.dst)) ops.toList ⟨σ.s, [], σ.h, σ.n, none⟩ [] fun τ ks =>
          bif chkD (ops.toList.map (·.dst)) ops.toList ks.reverse then
            let τ1 := attL ((ops.toList.map (·.dst)).filterMap fun x => x) τ
            K .normal ⟨τ1.s, τ1.h, τ1.n⟩
          else none
      else none
    else evOps P m F N (ops.toList.map (·.dst)) ops.toList σ fun σ => K .normal σ
  | .seq a b, K, σ => evC L a (fun e σ => match e with | .normal => evC L b K σ | e => K e σ) σ
  | .block id a, K, σ => evC L a (fun e σ => match e with | .exit j => bif Nat.beq j id then K .normal σ else K (.exit j) σ | e => K e σ) σ
  | .cond c a b, K, σ => match ev σ.s c with
    | .p (.bool x) => bif x then evC L a K σ else evC L b K σ
    | _ => none
  | .loop a, K, σ => match qF L (zW a) with
    | some lo => lo ρ σ K
    | none => none
  | _, _, _ => none
end
inductive SK where
  | v (t : Ty)
  | own (fr : Bool) (t : Ty)
  | box (fr : Bool) (t : Ty)
  | oM (t : Ty)
  | uw (ms : List Bool) (fr : Bool) (t : Ty)
  | mp (k : MQ)
  | arg (i : Nat)
  | fb (f : Nat) (ss : List Nat)
def SK.ty : SK → Ty
  | .v t => t
  | .own _ t => t
  | .box _ t => t
  | .oM t => t
  | .uw _ _ t => t
  | .mp k => .sl (.pr k.k k.v)
  | .arg _ => .un
  | .fb _ _ => .un
abbrev Shape := List (Nat × SK)
def Fo (S : Shape) : Ty := bg (S.map (·.2.ty))
def opnF (fr : Bool) : List Bool → List TV → ay → Nat → List TV × ay × Nat
  | _, [], h, n => ([], h, n)
  | ms, c :: cs, h, n => bif ms.headD true then (let q := opnC fr [c] h n; let z := opnF fr ms.tail cs q.2.1 q.2.2; (q.1 ++ z.1, z.2)) else (let z := opnF fr ms.tail cs h n; (c :: z.1, z.2))
def mkS (gs : List TV) : (S : Shape) → den (Fo S) → ay → Nat → List (Nat × TV) × ay × Nat
  | [], _, h, n => ([], h, n)
  | (t, .v y) :: S, x, h, n => let q := mkS gs S x.2 h n; ((t, yu y x.1) :: q.1, q.2)
  | (t, .own fr y) :: S, x, h, n => let z := np fr y x.1 h n; let q := mkS gs S x.2 z.2.1 z.2.2; ((t, z.1) :: q.1, q.2)
  | (t, .box fr y) :: S, x, h, n => let z := opnC fr (encT y x.1) h n; let q := mkS gs S x.2 ((z.2.2, .box z.1) :: z.2.1) (z.2.2 + 1); ((t, .ptr z.2.2 0 0) :: q.1, q.2)
  | (t, .oM y) :: S, x, h, n => let q := mkS gs S x.2 ((n, .box (encT y x.1)) :: h) (n + 1); ((t, .ptr n 0 0) :: q.1, q.2)
  | (t, .uw ms fr y) :: S, x, h, n => let z := opnF fr ms (encT y x.1) h n; let q := mkS gs S x.2 ((z.2.2, .box z.1) :: z.2.1) (z.2.2 + 1); ((t, .ptr z.2.2 0 0) :: q.1, q.2)
  | (t, .mp k) :: S, x, h, n => let q := mkS gs S x.2 ((n, .mp k x.1) :: h) (n + 1); ((t, .mp n) :: q.1, q.2)
  | (t, .arg i) :: S, x, h, n => let q := mkS gs S x.2 h n; ((t, gs.getD i .undef) :: q.1, q.2)
  | (t, .fb f ss) :: S, x, h, n => let q := mkS gs S x.2 h n; ((t, .fn (.func f) [] (ss.map (sget q.1))) :: q.1, q.2)
def gO (gs : List TV) (gt : List Ty) (S : Shape) (y : den (bg gt)) (x : den (Fo S)) : St :=
  let z := rU gt y [] 0
  let q := mkS gs S x z.2.1 z.2.2
  ⟨q.1, q.2.1, q.2.2⟩
def IF (a b : Bool) : Bool := !a || b
def capB (s : List (Nat × TV)) (h : ay) : List Nat → List TV → Bool
  | [], [] => true
  | a :: as, .ptr r 0 0 :: cs => (match sget s a, hget h r with | .ptr r' 0 0, some (.box _) => Nat.beq r' r | _, _ => false) && capB s h as cs
  | _, _ => false
def fbB (s : List (Nat × TV)) (h : ay) (f : Nat) (ss : List Nat) : TV → Bool
  | .fn (.func g) [] ca => Nat.beq g f && capB s h ss ca
  | _ => false
def absF (h : ay) : List Bool → List TV → Option (List TV × Bool × ay)
  | _, [] => some ([], true, h)
  | ms, c :: cs => bif ms.headD true then (absC h c).bind fun q => bif topB [c] then (absF q.2.2 ms.tail cs).bind fun z => some (q.1 :: z.1, q.2.1 && z.2.1, z.2.2) else none
    else bif flatV c then (absF h ms.tail cs).bind fun z => some (c :: z.1, z.2) else none
def exS (st : List (Nat × Nat)) (s : List (Nat × TV)) : (S : Shape) → ay → Option (den (Fo S))
  | [], _ => some ()
  | (t, .v y) :: S, h => (cellsOf y (sget s t)).bind fun cs => bif flatB cs then (eF y cs).bind fun x => (exS st s S h).bind fun z => some (x, z) else none
  | (t, .own fr y) :: S, h => (cellsOf y (sget s t)).bind fun cs => (absL h cs).bind fun q => bif topB cs && IF fr q.2.1 then (eF y q.1).bind fun x => (exS st s S q.2.2).bind fun z => some (x, z) else none
  | (t, .box fr y) :: S, h => match sget s t with
    | .ptr r 0 0 => match hget h r with
      | some (.box cs) => (absL (iV h r) cs).bind fun q => bif topB cs && IF fr q.2.1 then (eF y q.1).bind fun x => (exS st s S q.2.2).bind fun z => some (x, z) else none
      | _ => none
    | _ => none
  | (t, .oM y) :: S, h => match sget s t with
    | .ptr r 0 0 => match hget h r with
      | some (.box cs) => bif flatB cs then (eF y cs).bind fun x => (exS st s S (iV h r)).bind fun z => some (x, z) else none
      | _ => none
    | _ => none
  | (t, .uw ms fr y) :: S, h => match sget s t with
    | .ptr r 0 0 => match hget h r with
      | some (.box cs) => (absF (iV h r) ms cs).bind fun q => bif IF fr q.2.1 then (eF y q.1).bind fun x => (exS st s S q.2.2).bind fun z => some (x, z) else none
      | _ => none
    | _ => none
  | (t, .mp k) :: S, h => match sget s t with
    | .mp r => match hget h r with
      | some (.mp k' l) => if hk : k' = k then (exS st s S (iV h r)).bind fun z => some (hk ▸ l, z) else none
      | _ => none
    | _ => none
  | (t, .arg i) :: S, h => bif st.any (fun q => Nat.beq q.1 t && Nat.beq q.2 i) then (exS st s S h).bind fun z => some ((), z) else none
  | (t, .fb f ss) :: S, h => bif fbB s h f ss (sget s t) then (exS st s S h).bind fun z => some ((), z) else none
def Fa (g : TV) (t : Ty) (h : ay) : Option (den t × ay) :=
  match g with
  | .ptr r 0 0 => match hget h r with
    | some (.box cs) => bif flatB cs then (eF t cs).bind fun x => some (x, iV h r) else none
    | _ => none
  | _ => none
def AT (g : TV) : (t : Ty) → ay → Option (den t × ay)
  | .ref t, h => Fa g t h
  | t, h => tF g t h
def exG : (gs : List TV) → (gt : List Ty) → ay → Option (den (bg gt) × ay)
  | [], [], h => some ((), h)
  | g :: gs, t :: gt, h => (AT g t h).bind fun q => (exG gs gt q.2).bind fun z => some ((q.1, z.1), z.2)
  | _, _, _ => none
mutual
def eqG : TV → TV → Bool
  | .p _, .p _ => true
  | .full r, .full r' => Nat.beq r r'
  | .ptr r 0 0, .ptr r' 0 0 => Nat.beq r r'
  | .agg xs, .agg ys => eqGL xs ys
  | _, _ => false
def eqGL : List TV → List TV → Bool
  | [], [] => true
  | x :: xs, y :: ys => eqG x y && eqGL xs ys
  | _, _ => false
end
def IJ (st : List (Nat × Nat)) (gs : List TV) (gt : List Ty) (S : Shape) (σ : St) : Option (den (bg gt) × den (Fo S)) :=
  (exG gs gt σ.h).bind fun y => bif eqGL gs (rU gt y.1 [] 0).1 then (exS st σ.s S y.2).bind fun x => some (y.1, x) else none
def rets (P : Program) (σ : St) : List ResultVar → Option (List TV)
  | [] => some []
  | .tmp t :: r => (rets P σ r).bind fun q => some (sget σ.s t :: q)
  | .cell t ty :: r => (rets P σ r).bind fun q => (tv P ty).bind fun av => (loadS av (sget σ.s t) σ.h σ.n).bind fun a => bif a.c then some (a.v :: q) else none
def clsL (fr : Bool) : (ts : List Ty) → List TV → ay → Option (den (bg ts) × ay)
  | [], [], h => some ((), h)
  | t :: ts, v :: vs, h => (cellsOf t v).bind fun cs => (absL h cs).bind fun q => bif topB cs && IF fr q.2.1 then (eF t q.1).bind fun x => (clsL fr ts vs q.2.2).bind fun z => some ((x, z.1), z.2) else none
  | _, _, _ => none
def clsB : (ts : List Ty) → List TV → Option (den (bg ts))
  | [], [] => some ()
  | t :: ts, v :: vs => (cellsOf t v).bind fun cs => bif flatB cs then (eF t cs).bind fun x => (clsB ts vs).bind fun z => some (x, z) else none
  | _, _ => none
def clsX : List Bool → (ts : List Ty) → List TV → ay → Option (den (bg ts) × ay)
  | _, [], [], h => some ((), h)
  | bs, t :: ts, v :: vs, h => (cellsOf t v).bind fun cs => match bs.headD true with
    | true => (absL h cs).bind fun q => bif topB cs && q.2.1 then (eF t q.1).bind fun x => (clsX bs.tail ts vs q.2.2).bind fun z => some ((x, z.1), z.2) else none
    | false => bif flatB cs then (eF t cs).bind fun x => (clsX bs.tail ts vs h).bind fun z => some ((x, z.1), z.2) else none
  | _, _, _, _ => none
def Bs (rm : RM) (ts : List Ty) (vs : List TV) (h : ay) : Option (den (bg ts) × ay) :=
  match rm with
  | .own fr => clsL fr ts vs h
  | .GZ => (clsB ts vs).map fun x => (x, h)
  | .mv => clsL true ts vs h
  | .mix bs => clsX bs ts vs h
def parS : (ps : List (Ty × Bool)) → Nat → den (bg (ps.map (·.1))) → ay → Nat → List (Nat × TV) × ay × Nat
  | [], _, _, h, n => ([], h, n)
  | (t, false) :: ps, i, x, h, n => let q := parS ps (i + 1) x.2 h n; ((i, yu t x.1) :: q.1, q.2)
  | (t, true) :: ps, i, x, h, n => let z := np (Fl t) t x.1 h n; let q := parS ps (i + 1) x.2 z.2.1 z.2.2; ((i, z.1) :: q.1, q.2)
def parG : (ps : List (Ty × Bool)) → den (bg (ps.map (·.1))) → ay → Nat → List TV
  | [], _, _, _ => []
  | (t, false) :: ps, x, h, n => parG ps x.2 h n
  | (t, true) :: ps, x, h, n => let z := np (Fl t) t x.1 h n; z.1 :: parG ps x.2 z.2.1 z.2.2
def parI : List (Ty × Bool) → Nat → Nat → List (Nat × Nat)
  | [], _, _ => []
  | (_, false) :: ps, i, k => parI ps (i + 1) k
  | (_, true) :: ps, i, k => (i, k) :: parI ps (i + 1) (k + 1)
def qE (ps : List (Ty × Bool)) : List Ty := (ps.filter (·.2)).map (·.1)
def slotsOf : Nat → List TV → List (Nat × TV)
  | _, [] => []
  | i, x :: xs => (i, x) :: slotsOf (i + 1) xs
def inlN (P : Program) (F : List bj) : Nat → A8
  | 0, _, _, _, _, _, _ => none
  | d + 1, _, f, xs, h, n, K =>
    match P.funcs[f]? with
    | some fn => (match fn.body with
      | some code => bif Nat.ble xs.length fn.ntmps && fn.name != "runtime.NumGoroutine" then
          evC P ⟨fn.ntmps, []⟩ F (inlN P F d) [] code (fun e σ => match e with
            | .ret => (rets P σ fn.results.toList).bind fun vs => K (retT vs) σ.h σ.n
            | .normal => (rets P σ fn.results.toList).bind fun vs => K (retT vs) σ.h σ.n
            | _ => none) ⟨slotsOf 0 xs, h, n⟩
        else none
      | none => none)
    | none => none
def om (P : Program) (F : List bj) (N : A8) (L : List (Nat × LO)) (fn : Func) (code : Code) (ps : List (Ty × Bool)) (rs : List Ty) (rm : RM) (x : den (bg (ps.map (·.1)))) :
    Option (den (bg rs) × den (bg (qE ps))) :=
  let σ := parS ps 0 x [] 0
  evC P ⟨fn.ntmps, parI ps 0 0⟩ F N L code (fun e σ' => match e with
    | .ret | .normal => (rets P σ' fn.results.toList).bind fun vs => (Bs rm rs vs σ'.h).bind fun q => (exG (parG ps x [] 0) (qE ps) q.2).bind fun g => some (q.1, g.1)
    | _ => none) ⟨σ.1, σ.2.1, σ.2.2⟩
def FL (P : Program) (F : List bj) (N : A8) (L : List (Nat × LO)) (fn : Func) (code : Code) (ps : List (Ty × Bool)) (rs : List Ty) (x : den (bg (ps.map (·.1)))) :
    Option (den (bg rs) × den (bg (qE ps))) :=
  let σ := parS ps 0 x [] 0
  evC P ⟨fn.ntmps, []⟩ F N L code (fun e σ' => match e with
    | .ret | .normal => (rets P σ' fn.results.toList).bind fun vs => (clsL true rs vs σ'.h).bind fun q => some (q.1, eX _)
    | _ => none) ⟨σ.1, σ.2.1, σ.2.2⟩
end Go.Tw
