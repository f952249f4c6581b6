/- A step of the typed logic of this claim is proved here: what an operation does to the data that slots and memory stand for. -/
import Derived.Below
import Derived.Laws.Tables
import Derived.Laws.MakeOwn
import Derived.KernelRfl
set_option linter.all false
namespace Go.Tw
open Go Go.RowKit

/-- The kinds of data. -/
inductive Ty where
  | int (k : IntKind) | bool | str | un
  | pr (a b : Ty)
  | sl (t : Ty)
  /-- a pointer to what is only read -/
  | ref (t : Ty)
  /-- a function with what it holds -/
  | cl (g : Nat) (t : Ty)
  deriving DecidableEq

def den : Ty → Type
  | .int _ => Int
  | .bool => Bool
  | .str => ByteArray
  | .un => Unit
  | .pr a b => den a × den b
  | .sl t => List (den t)
  | .ref t => den t
  | .cl _ t => den t
def dflt : (t : Ty) → den t
  | .int _ => (0 : Int)
  | .bool => false
  | .str => ByteArray.empty
  | .un => ()
  | .pr a b => (dflt a, dflt b)
  | .sl _ => []
  | .ref t => dflt t
  | .cl _ t => dflt t
def sz : Ty → Nat
  | .un => 0
  | .pr a b => sz a + sz b
  | _ => 1

/-- Block b is a row of at least m cells, none of them frozen. -/
def Row (w : World) (b m : Nat) : Prop :=
  ∃ c e f, w.heap[b]? = some (.cells c e f) ∧ m ≤ c.size ∧ ∀ j, j < c.size → w.frozen? ⟨b, j, none⟩ = false

theorem Row.le {w : World} {b m m' : Nat} (h : Row w b m) (hm : m' ≤ m) : Row w b m' := by
  obtain ⟨c, e, f, h1, h2, h3⟩ := h; exact ⟨c, e, f, h1, by omega, h3⟩
theorem Row.lt {w : World} {b m : Nat} (h : Row w b m) : b < w.heap.size := by
  obtain ⟨c, e, f, h1, _⟩ := h
  rcases Nat.lt_or_ge b w.heap.size with h' | h'
  · exact h'
  · simp [Array.getElem?_eq_none h'] at h1
theorem frozen_same {w w' : World} {b j : Nat} (h : w'.heap[b]? = w.heap[b]?) : w'.frozen? ⟨b, j, none⟩ = w.frozen? ⟨b, j, none⟩ := by
  simp [World.frozen?, h]
theorem cell_same {w w' : World} {b j : Nat} (h : w'.heap[b]? = w.heap[b]?) : w'.cell? ⟨b, j, none⟩ = w.cell? ⟨b, j, none⟩ := by
  simp [World.cell?, h]
theorem Row.same {w w' : World} {b m : Nat} (h : Row w b m) (hs : w'.heap[b]? = w.heap[b]?) : Row w' b m := by
  obtain ⟨c, e, f, h1, h2, h3⟩ := h
  exact ⟨c, e, f, by rw [hs, h1], h2, fun j hj => by rw [frozen_same hs]; exact h3 j hj⟩
theorem Row.cell {w : World} {b m j : Nat} (h : Row w b m) (hj : j < m) : ∃ u, w.cell? ⟨b, j, none⟩ = some u := by
  obtain ⟨c, e, f, h1, h2, h3⟩ := h
  refine ⟨c[j]'(by omega), ?_⟩
  simp [World.cell?, h1, Array.getElem?_eq_getElem (show j < c.size by omega)]
theorem Row.frozen {w : World} {b m j : Nat} (h : Row w b m) (hj : j < m) : w.frozen? ⟨b, j, none⟩ = false := by
  obtain ⟨c, e, f, h1, h2, h3⟩ := h; exact h3 j (by omega)
theorem Row.setCell {w : World} {b m : Nat} (h : Row w b m) (a : Addr) (v : Value) : Row (w.setCell a v) b m := by
  obtain ⟨c, e, f, h1, h2, h3⟩ := h
  by_cases hb : a.block = b
  · refine ⟨_, e, f, by simp [World.setCell, Array.getElem?_modify, hb, h1]; rfl, ?_, ?_⟩
    · split <;> simpa using h2
    · intro j hj; rw [World.frozen?_setCell]; refine h3 j ?_; revert hj; split <;> simp
  · exact ⟨c, e, f, by rw [Below.heap_setCell _ _ _ _ (Ne.symm hb)]; exact h1, h2, fun j hj => by rw [World.frozen?_setCell]; exact h3 j hj⟩

/-- Cells from an address on hold these values. -/
def At (w : World) (b o : Nat) (us : List Value) : Prop := ∀ j u, us[j]? = some u → w.cell? ⟨b, o + j, none⟩ = some u
theorem At.nil {w : World} {b o : Nat} : At w b o [] := fun j u h => by simp at h
theorem At.same {w w' : World} {b o : Nat} {us : List Value} (h : At w b o us) (hs : w'.heap[b]? = w.heap[b]?) : At w' b o us :=
  fun j u hj => by rw [cell_same hs]; exact h j u hj
theorem At.app {w : World} {b o : Nat} {us vs : List Value} : At w b o (us ++ vs) ↔ At w b o us ∧ At w b (o + us.length) vs := by
  constructor
  · intro h
    refine ⟨fun j u hj => h j u ?_, fun j u hj => ?_⟩
    · have : j < us.length := by
        rcases Nat.lt_or_ge j us.length with h' | h'
        · exact h'
        · rw [List.getElem?_eq_none h'] at hj; simp at hj
      rw [List.getElem?_append_left this]; exact hj
    · rw [Nat.add_assoc]; refine h _ u ?_
      rw [List.getElem?_append_right (by omega)]; simpa using hj
  · rintro ⟨h1, h2⟩ j u hj
    by_cases hl : j < us.length
    · rw [List.getElem?_append_left hl] at hj; exact h1 j u hj
    · rw [List.getElem?_append_right (by omega)] at hj
      have := h2 _ u hj
      rwa [show o + us.length + (j - us.length) = o + j by omega] at this
theorem At.cons {w : World} {b o : Nat} {u : Value} {us : List Value} : At w b o (u :: us) ↔ w.cell? ⟨b, o, none⟩ = some u ∧ At w b (o + 1) us := by
  rw [show u :: us = [u] ++ us from rfl, At.app]
  refine ⟨fun ⟨h1, h2⟩ => ⟨by simpa using h1 0 u rfl, by simpa using h2⟩, fun ⟨h1, h2⟩ => ⟨fun j v hj => ?_, by simpa using h2⟩⟩
  cases j with
  | zero => simp at hj; subst hj; simpa using h1
  | succ j => simp at hj
theorem At.sub {w : World} {b o : Nat} {us : List Value} (h : At w b o us) (k n : Nat) : At w b (o + k) ((us.drop k).take n) := by
  intro j u hj
  rw [List.getElem?_take] at hj
  split at hj
  · rw [List.getElem?_drop] at hj; rw [Nat.add_assoc]; exact h _ u hj
  · simp at hj

/-- Elements that lie side by side. -/
def RL {α : Type} (R : α → Nat → Nat → List Nat → Prop) (s : Nat) : List α → Nat → Nat → List Nat → Prop
  | [], _, _, L => L = []
  | x :: l, b, o, L => ∃ L1 L2, L = L1 ++ L2 ∧ R x b o L1 ∧ RL R s l b (o + s) L2

section
variable {α : Type} {R R' : α → Nat → Nat → List Nat → Prop} {s : Nat}
theorem RL.imp : ∀ {l : List α} {b o : Nat} {L : List Nat}, (∀ x, x ∈ l → ∀ o L', (∀ k ∈ L', k ∈ L) → R x b o L' → R' x b o L') → RL R s l b o L → RL R' s l b o L
  | [], _, _, _, _, h => h
  | x :: l, b, o, L, hi, h => by
    simp only [RL] at h ⊢
    obtain ⟨L1, L2, rfl, h1, h2⟩ := h
    exact ⟨L1, L2, rfl, hi x (by simp) o L1 (fun k hk => by simp [hk]) h1, RL.imp (fun y hy o L' hL => hi y (by simp [hy]) o L' (fun k hk => by simp [hL k hk])) h2⟩
theorem RL.mem : ∀ {l : List α} {b o : Nat} {L : List Nat} {p : Nat → Prop}, (∀ x, x ∈ l → ∀ o L', R x b o L' → ∀ k ∈ L', p k) → RL R s l b o L → ∀ k ∈ L, p k
  | [], _, _, _, _, _, h, k, hk => by simp only [RL] at h; subst h; simp at hk
  | x :: l, b, o, L, p, hi, h, k, hk => by
    simp only [RL] at h
    obtain ⟨L1, L2, rfl, h1, h2⟩ := h
    rcases List.mem_append.1 hk with hk | hk
    · exact hi x (by simp) o L1 h1 k hk
    · exact RL.mem (fun y hy => hi y (by simp [hy])) h2 k hk
theorem RL.app : ∀ {l m : List α} {b o : Nat} {L : List Nat}, RL R s (l ++ m) b o L ↔ ∃ L1 L2, L = L1 ++ L2 ∧ RL R s l b o L1 ∧ RL R s m b (o + l.length * s) L2
  | [], m, b, o, L => by
    simp only [List.nil_append, RL, List.length_nil, Nat.zero_mul, Nat.add_zero]
    exact ⟨fun h => ⟨[], L, rfl, rfl, h⟩, fun ⟨L1, L2, h1, h2, h3⟩ => by subst h2; simpa [h1] using h3⟩
  | x :: l, m, b, o, L => by
    simp only [List.cons_append, RL, List.length_cons]
    have e : o + (l.length + 1) * s = o + s + l.length * s := by rw [Nat.succ_mul]; omega
    constructor
    · rintro ⟨L1, L2, rfl, h1, h2⟩
      obtain ⟨L3, L4, rfl, h3, h4⟩ := RL.app.1 h2
      exact ⟨L1 ++ L3, L4, by simp, ⟨L1, L3, rfl, h1, h3⟩, by rwa [e]⟩
    · rintro ⟨L1, L2, rfl, ⟨L3, L4, rfl, h1, h2⟩, h3⟩
      exact ⟨L3, L4 ++ L2, by simp, h1, RL.app.2 ⟨L4, L2, rfl, h2, by rwa [e] at h3⟩⟩
theorem RL.one {x : α} {b o : Nat} {L : List Nat} : RL R s [x] b o L ↔ R x b o L := by
  simp only [RL]
  exact ⟨fun ⟨L1, L2, h1, h2, h3⟩ => by subst h3; simpa [h1] using h2, fun h => ⟨L, [], by simp, h, rfl⟩⟩
theorem split3 (l : List α) (d : α) (i : Nat) (hi : i < l.length) : l = l.take i ++ ([l.getD i d] ++ l.drop (i + 1)) := by
  have : l.getD i d = l[i] := by simp [List.getD, List.getElem?_eq_getElem hi]
  rw [this]; simp
theorem set3 (l : List α) (x : α) (i : Nat) (hi : i < l.length) : l.set i x = l.take i ++ ([x] ++ l.drop (i + 1)) := by
  rw [List.set_eq_take_append_cons_drop, if_pos hi]; rfl
theorem RL.at {l : List α} {b o : Nat} {L : List Nat} (d : α) {i : Nat} (hi : i < l.length) (h : RL R s l b o L) :
    ∃ L1 L2 L3, L = L1 ++ (L2 ++ L3) ∧ RL R s (l.take i) b o L1 ∧ R (l.getD i d) b (o + i * s) L2 ∧ RL R s (l.drop (i + 1)) b (o + i * s + s) L3 := by
  rw [split3 l d i hi] at h
  obtain ⟨L1, L2, rfl, h1, h2⟩ := RL.app.1 h
  obtain ⟨L3, L4, rfl, h3, h4⟩ := RL.app.1 h2
  have e : (l.take i).length = i := by simp; omega
  rw [e] at h3 h4
  exact ⟨L1, L3, L4, rfl, h1, RL.one.1 h3, by simpa using h4⟩
theorem RL.put {l : List α} {b o : Nat} {L1 L2 L3 : List Nat} {x : α} {i : Nat} (hi : i < l.length) (h1 : RL R s (l.take i) b o L1) (h2 : R x b (o + i * s) L2) (h3 : RL R s (l.drop (i + 1)) b (o + i * s + s) L3) :
    RL R s (l.set i x) b o (L1 ++ (L2 ++ L3)) := by
  rw [set3 l x i hi]
  have e : (l.take i).length = i := by simp; omega
  exact RL.app.2 ⟨L1, L2 ++ L3, rfl, h1, RL.app.2 ⟨L2, L3, rfl, by rw [e]; exact RL.one.2 h2, by rw [e]; simpa using h3⟩⟩
theorem RL.sub {l : List α} {b o : Nat} {L : List Nat} (k n : Nat) (hk : k ≤ l.length) (h : RL R s l b o L) : ∃ L1 L2 L3, L = L1 ++ (L2 ++ L3) ∧ RL R s ((l.drop k).take n) b (o + k * s) L2 := by
  rw [← List.take_append_drop k l] at h
  obtain ⟨L1, L2, rfl, h1, h2⟩ := RL.app.1 h
  rw [← List.take_append_drop n (l.drop k)] at h2
  obtain ⟨L3, L4, rfl, h3, h4⟩ := RL.app.1 h2
  have e : (l.take k).length = k := by simp; omega
  rw [e] at h3
  exact ⟨L1, L3, L4, rfl, h3⟩
end

/-- A slice with these elements: nil; borrowed; owned. -/
def TSl {α : Type} (w : World) (imm ok : Nat → Prop) (R : α → Nat → Nat → List Nat → Prop) (s : Nat) (l : List α) (v : Value) (L : List Nat) : Prop :=
  (v = .slice none 0 0 ∧ l = [] ∧ L = []) ∨
  ∃ A cap L', v = .slice (some A) l.length cap ∧ l.length ≤ cap ∧ RL R s l A.block A.off L' ∧
    ((L = [] ∧ L' = [] ∧ (∃ b, imm b) ∧ (l ≠ [] → A.spot = none ∧ imm A.block)) ∨
     (L = A.block :: L' ∧ A.spot = none ∧ ok A.block ∧ Row w A.block A.off ∧ (0 < cap → Row w A.block (A.off + cap * s))))

/-- The cells of a datum. -/
def TRl (w : World) (imm ok : Nat → Prop) : (t : Ty) → den t → List Value → List Nat → Prop
  | .int k, n, us, L => us = [.int k n] ∧ L = []
  | .bool, b, us, L => us = [.bool b] ∧ L = []
  | .str, s, us, L => us = [.string s] ∧ L = []
  | .un, _, us, L => us = [] ∧ L = []
  | .pr a b, x, us, L => ∃ u1 u2 L1 L2, us = u1 ++ u2 ∧ L = L1 ++ L2 ∧ TRl w imm ok a x.1 u1 L1 ∧ TRl w imm ok b x.2 u2 L2
  | .sl t, l, us, L => ∃ v, us = [v] ∧ TSl w imm ok (fun x b o L => ∃ us, TRl w imm ok t x us L ∧ At w b o us) (sz t) l v L
  | .ref t, x, us, L => ∃ b o vs, us = [.pointer (some ⟨b, o, none⟩)] ∧ L = [] ∧ imm b ∧ TRl w imm ok t x vs [] ∧ At w b o vs
  | .cl g t, x, us, L => ∃ vs : List Value, us = [.func (.func g) #[] vs.toArray] ∧ L = [] ∧ TRl w imm ok t x vs []
def TRc (w : World) (imm ok : Nat → Prop) (t : Ty) (x : den t) (b o : Nat) (L : List Nat) : Prop := ∃ us, TRl w imm ok t x us L ∧ At w b o us

section
variable {w w' : World} {imm imm' ok ok' : Nat → Prop}
theorem TSl.imp {α : Type} {R R' : α → Nat → Nat → List Nat → Prop} {s : Nat} {l : List α} {v : Value} {L : List Nat} (hi : ∀ b, imm b → imm' b) (ho : ∀ b, ok b → ok' b)
    (hs : ∀ b ∈ L, w'.heap[b]? = w.heap[b]?) (hR : ∀ x, x ∈ l → ∀ b o L', (∀ k ∈ L', k ∈ L) → (imm b ∨ b ∈ L) → R x b o L' → R' x b o L') (h : TSl w imm ok R s l v L) : TSl w' imm' ok' R' s l v L := by
  rcases h with h | ⟨A, cap, L', h1, h2, h3, h4⟩
  · exact .inl h
  · refine .inr ⟨A, cap, L', h1, h2, ?_, ?_⟩
    · rcases h4 with ⟨rfl, rfl, _, h4⟩ | ⟨rfl, h4⟩
      · cases l with
        | nil => simpa [RL] using h3
        | cons y l => exact RL.imp (fun x hx o L' hL hr => hR x hx _ _ _ (by simpa using hL) (.inl (h4 (by simp)).2) hr) h3
      · exact RL.imp (fun x hx o L' hL hr => hR x hx _ _ _ (fun k hk => by simp [hL k hk]) (.inr (by simp)) hr) h3
    · rcases h4 with ⟨rfl, rfl, ⟨b0, h0⟩, h4⟩ | ⟨rfl, h4, h5, h6, h7⟩
      · exact .inl ⟨rfl, rfl, ⟨b0, hi _ h0⟩, fun h => ⟨(h4 h).1, hi _ (h4 h).2⟩⟩
      · have := hs A.block (by simp)
        exact .inr ⟨rfl, h4, ho _ h5, h6.same this, fun hp => (h7 hp).same this⟩

theorem TRl.mono (hi : ∀ b, imm b → imm' b) (ho : ∀ b, ok b → ok' b) (hw : ∀ b, imm b → w'.heap[b]? = w.heap[b]?) : ∀ {t : Ty} {x : den t} {us : List Value} {L : List Nat}, (∀ b ∈ L, w'.heap[b]? = w.heap[b]?) →
    TRl w imm ok t x us L → TRl w' imm' ok' t x us L
  | .int _, _, _, _, _, h => h
  | .bool, _, _, _, _, h => h
  | .str, _, _, _, _, h => h
  | .un, _, _, _, _, h => h
  | .pr a b, x, us, L, hL, h => by
    obtain ⟨u1, u2, L1, L2, rfl, rfl, h1, h2⟩ := h
    exact ⟨u1, u2, L1, L2, rfl, rfl, TRl.mono hi ho hw (fun b hb => hL b (by simp [hb])) h1, TRl.mono hi ho hw (fun b hb => hL b (by simp [hb])) h2⟩
  | .sl t, l, us, L, hL, h => by
    obtain ⟨v, rfl, h⟩ := h
    refine ⟨v, rfl, TSl.imp hi ho hL (fun x hx b o L' hL' hb ⟨us, h1, h2⟩ => ⟨us, TRl.mono hi ho hw (fun b hb => hL b (hL' b hb)) h1, h2.same ?_⟩) h⟩
    rcases hb with hb | hb
    · exact hw b hb
    · exact hL b hb
  | .ref t, x, us, L, hL, h => by
    obtain ⟨b, o, vs, rfl, rfl, h1, h2, h3⟩ := h
    exact ⟨b, o, vs, rfl, rfl, hi b h1, TRl.mono hi ho hw (by simp) h2, h3.same (hw b h1)⟩
  | .cl g t, x, us, L, hL, h => by
    obtain ⟨vs, rfl, rfl, h1⟩ := h
    exact ⟨vs, rfl, rfl, TRl.mono hi ho hw (by simp) h1⟩
theorem TRc.mono (hi : ∀ b, imm b → imm' b) (ho : ∀ b, ok b → ok' b) (hw : ∀ b, imm b → w'.heap[b]? = w.heap[b]?) {t : Ty} {x : den t} {b o : Nat} {L : List Nat} (hL : ∀ b ∈ L, w'.heap[b]? = w.heap[b]?) (hb : w'.heap[b]? = w.heap[b]?)
    (h : TRc w imm ok t x b o L) : TRc w' imm' ok' t x b o L := by
  obtain ⟨us, h1, h2⟩ := h
  exact ⟨us, h1.mono hi ho hw hL, h2.same hb⟩
theorem TRl.blocks : ∀ {t : Ty} {x : den t} {us : List Value} {L : List Nat}, TRl w imm ok t x us L → ∀ b ∈ L, ok b ∧ b < w.heap.size
  | .int _, _, _, _, h, b, hb => by rw [h.2] at hb; simp at hb
  | .bool, _, _, _, h, b, hb => by rw [h.2] at hb; simp at hb
  | .str, _, _, _, h, b, hb => by rw [h.2] at hb; simp at hb
  | .un, _, _, _, h, b, hb => by rw [h.2] at hb; simp at hb
  | .pr a c, x, us, L, h, b, hb => by
    obtain ⟨u1, u2, L1, L2, rfl, rfl, h1, h2⟩ := h
    rcases List.mem_append.1 hb with hb | hb
    · exact TRl.blocks h1 b hb
    · exact TRl.blocks h2 b hb
  | .sl t, l, us, L, h, b, hb => by
    obtain ⟨v, rfl, h⟩ := h
    rcases h with ⟨_, _, rfl⟩ | ⟨A, cap, L', h1, h2, h3, h4⟩
    · simp at hb
    · rcases h4 with ⟨rfl, _⟩ | ⟨rfl, h4, h5, h6, h7⟩
      · simp at hb
      · rcases List.mem_cons.1 hb with rfl | hb
        · exact ⟨h5, h6.lt⟩
        · exact RL.mem (p := fun b => ok b ∧ b < w.heap.size) (fun x _ o L' ⟨us, h, _⟩ => TRl.blocks h) h3 b hb
  | .ref t, x, us, L, h, b, hb => by obtain ⟨_, _, _, _, rfl, _⟩ := h; simp at hb
  | .cl g t, x, us, L, h, b, hb => by obtain ⟨_, _, rfl, _⟩ := h; simp at hb
theorem TRl.length : ∀ {t : Ty} {x : den t} {us : List Value} {L : List Nat}, TRl w imm ok t x us L → us.length = sz t
  | .int _, _, _, _, h => by rw [h.1]; rfl
  | .bool, _, _, _, h => by rw [h.1]; rfl
  | .str, _, _, _, h => by rw [h.1]; rfl
  | .un, _, _, _, h => by rw [h.1]; rfl
  | .pr a b, x, us, L, h => by
    obtain ⟨u1, u2, L1, L2, rfl, rfl, h1, h2⟩ := h
    rw [List.length_append, TRl.length h1, TRl.length h2]; rfl
  | .sl t, l, us, L, h => by obtain ⟨v, rfl, _⟩ := h; rfl
  | .ref t, x, us, L, h => by obtain ⟨_, _, _, rfl, _⟩ := h; rfl
  | .cl g t, x, us, L, h => by obtain ⟨_, rfl, _⟩ := h; rfl
theorem TSl.one {α : Type} {R : α → Nat → Nat → List Nat → Prop} {s : Nat} {l : List α} {v : Value} {L : List Nat} (h : TSl w imm ok R s l v L) : v.oneCell' = true := by
  rcases h with ⟨rfl, _⟩ | ⟨A, cap, L', rfl, _⟩ <;> rfl
theorem TRl.oneCell : ∀ {t : Ty} {x : den t} {us : List Value} {L : List Nat}, TRl w imm ok t x us L → ∀ u ∈ us, u.oneCell' = true
  | .int _, _, _, _, h, u, hu => by rw [h.1] at hu; simp at hu; subst hu; rfl
  | .bool, _, _, _, h, u, hu => by rw [h.1] at hu; simp at hu; subst hu; rfl
  | .str, _, _, _, h, u, hu => by rw [h.1] at hu; simp at hu; subst hu; rfl
  | .un, _, _, _, h, u, hu => by rw [h.1] at hu; simp at hu
  | .pr a b, x, us, L, h, u, hu => by
    obtain ⟨u1, u2, L1, L2, rfl, rfl, h1, h2⟩ := h
    rcases List.mem_append.1 hu with hu | hu
    · exact TRl.oneCell h1 u hu
    · exact TRl.oneCell h2 u hu
  | .sl t, l, us, L, h, u, hu => by obtain ⟨v, rfl, h⟩ := h; simp at hu; subst hu; exact h.one
  | .ref t, x, us, L, h, u, hu => by obtain ⟨_, _, _, rfl, _⟩ := h; simp at hu; subst hu; rfl
  | .cl g t, x, us, L, h, u, hu => by obtain ⟨_, rfl, _⟩ := h; simp at hu; subst hu; rfl
end
end Go.Tw
