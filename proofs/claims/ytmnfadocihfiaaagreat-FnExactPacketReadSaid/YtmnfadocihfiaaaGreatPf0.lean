/- Plain facts on the mirrors of the functions are proved here. -/
import Derived.Test.YtmnfadocihfiaaaGreatPu0
set_option linter.all false
namespace Go.Tw
open Go Go.RowKit

abbrev MM : Int := 1048576
def allB {α : Type} (p : α → Prop) (l : List α) : Prop := ((List.length l : Nat) : Int) ≤ MM ∧ ∀ e ∈ l, p e
/-- no list longer than so -/
def Bd : (t : Ty) → den t → Prop
  | .int _, _ => True
  | .bool, _ => True
  | .str, s => (ByteArray.size s : Int) ≤ MM
  | .un, _ => True
  | .pr a b, x => Bd a x.1 ∧ Bd b x.2
  | .sl t, l => allB (Bd t) l
  | .ref t, x => Bd t x
  | .cl _ t, x => Bd t x
section
variable {α β : Type} {f : α → Int → R1 Int} {g : β → Int → R1 Int} {M : Int} {W W' B B' : α → Prop} {W1 B1 : β → Prop}
theorem SzOk.imp (h : SzOk M f W B) (hW : ∀ e, W' e → W e) (hB : ∀ e, B e → B' e) : SzOk M f W' B' := by
  intro e m h1 h2 h3
  obtain ⟨n, g1, g2, g3, g4⟩ := h e m (hW e h1) h2 h3
  exact ⟨n, g1, g2, g3, fun h => hB e (g4 h)⟩
theorem SzOk.ret : SzOk M (fun (_ : α) m => some ((m, ()), ())) (fun _ => True) (fun _ => True) := fun e m _ h0 _ => ⟨m, rfl, by omega, Int.le_refl _, fun _ => trivial⟩
theorem SzOk.bind {p : α → β} (h1 : SzOk M g W1 B1) (h2 : SzOk M f W B) :
    SzOk M (fun e m => (g (p e) m).bind fun t1 => bif decide (t1.1.1 < (0 : Int)) then some (((-1 : Int), ()), ()) else f e t1.1.1) (fun e => W1 (p e) ∧ W e) (fun e => B1 (p e) ∧ B e) := by
  intro e m hW h0 hm
  obtain ⟨n, g1, g2, g3, g4⟩ := h1 (p e) m hW.1 h0 hm
  simp only [g1, Option.bind_some]
  by_cases h : n < 0
  · exact ⟨-1, by rw [bif_t (by simpa using h)], by omega, by omega, fun h => by omega⟩
  · obtain ⟨n2, k1, k2, k3, k4⟩ := h2 e n hW.2 (by omega) (by omega)
    refine ⟨n2, by rw [bif_f (by simpa using h)]; exact k1, k2, by omega, fun h5 => ⟨g4 (by omega), k4 h5⟩⟩
end
theorem wf_list {t : Ty} {x : List (den t)} (h : WF (.sl t) x) : x.length ≤ 9223372036854775807 ∧ ∀ e ∈ x, WF t e := h
theorem mm_nat {n : Nat} (h : (n : Int) ≤ MM) : n ≤ 1048576 := by have : MM = 1048576 := rfl; omega
/-- the first place that answers -/
def sch {O : Type} (hit : Nat → Option O) (fin : O) : Nat → Nat → O
  | 0, _ => fin
  | m + 1, i => match hit i with | some o => o | none => sch hit fin m (i + 1)
theorem search_run {V O : Type} {step : (V → Option O) → V → Option O} {st : Nat → V} {n : Nat} {hit : Nat → Option O} {fin : O} (h1 : ∀ i, i < n → ∀ rec, step rec (st i) = (hit i).elim (rec (st (i + 1))) some) (h2 : ∀ rec, step rec (st n) = some fin) :
    ∀ (m i k : Nat), i + m = n → m < k → iter step k (st i) = some (sch hit fin m i)
  | 0, i, k + 1, hi, _ => by
    have : i = n := by omega
    subst this
    rw [iter_succ, h2]; rfl
  | m + 1, i, k + 1, hi, hk => by
    rw [iter_succ, h1 i (by omega)]
    simp only [sch]
    cases hit i with
    | some o => rfl
    | none => exact search_run h1 h2 m (i + 1) k (by omega) (by omega)
theorem sch_cases {O : Type} {hit : Nat → Option O} {fin : O} : ∀ (m i : Nat), (∃ j o, i ≤ j ∧ j < i + m ∧ hit j = some o ∧ sch hit fin m i = o) ∨ ((∀ j, i ≤ j → j < i + m → hit j = none) ∧ sch hit fin m i = fin)
  | 0, i => .inr ⟨fun j h1 h2 => by omega, rfl⟩
  | m + 1, i => by
    simp only [sch]
    cases h : hit i with
    | some o => exact .inl ⟨i, o, by omega, by omega, h, rfl⟩
    | none =>
      rcases sch_cases (hit := hit) (fin := fin) m (i + 1) with ⟨j, o, h1, h2, h3, h4⟩ | ⟨h1, h2⟩
      · exact .inl ⟨j, o, by omega, by omega, h3, h4⟩
      · refine .inr ⟨fun j g1 g2 => ?_, h2⟩
        rcases Nat.lt_or_ge i j with h' | h'
        · exact h1 j (by omega) (by omega)
        · have : j = i := by omega
          rw [this]; exact h
/-- a search through a list -/
theorem sch_any {α O : Type} {x : List α} {z : α} {p : α → Bool} {f : Nat → O} {fin : O} : (x.any p = true ∧ ∃ j, j < x.length ∧ sch (fun i => bif p (x.getD i z) then some (f i) else none) fin x.length 0 = f j) ∨ (x.any p = false ∧ sch (fun i => bif p (x.getD i z) then some (f i) else none) fin x.length 0 = fin) := by
  rcases sch_cases (hit := fun i => bif p (x.getD i z) then some (f i) else none) (fin := fin) x.length 0 with ⟨j, o, _, h2, h3, h4⟩ | ⟨h1, h2⟩
  · cases hp : p (x.getD j z) with
    | true =>
      simp only [hp, cond_true, Option.some.injEq] at h3
      exact .inl ⟨List.any_eq_true.2 ⟨_, getD_mem x z j (by omega), hp⟩, j, by omega, by rw [h4, h3]⟩
    | false => simp only [hp, cond_false] at h3; cases h3
  · refine .inr ⟨List.any_eq_false.2 fun a ha => ?_, h2⟩
    obtain ⟨j, hj, rfl⟩ := List.mem_iff_getElem.1 ha
    have := h1 j (by omega) (by omega)
    rw [getD_at x z j hj] at this
    cases hp : p x[j] with
    | true => simp [hp] at this
    | false => simp

/-- a loop that goes through -/
def foldN {A : Type} (f : Nat → A → A) : Nat → Nat → A → A
  | 0, _, a => a
  | m + 1, i, a => foldN f m (i + 1) (f i a)
theorem fold_run {V O A : Type} {step : (V → Option O) → V → Option O} {st : Nat → A → V} {n : Nat} {f : Nat → A → A} {fin : A → O} (I : A → Prop) (hI : ∀ i a, i < n → I a → I (f i a)) (h1 : ∀ i a, i < n → I a → ∀ rec, step rec (st i a) = rec (st (i + 1) (f i a))) (h2 : ∀ a, I a → ∀ rec, step rec (st n a) = some (fin a)) :
    ∀ (m i k : Nat) (a : A), i + m = n → m < k → I a → iter step k (st i a) = some (fin (foldN f m i a))
  | 0, i, k + 1, a, hi, _, hIa => by
    have : i = n := by omega
    subst this
    rw [iter_succ, h2 a hIa]; rfl
  | m + 1, i, k + 1, a, hi, hk, hIa => by
    rw [iter_succ, h1 i a (by omega) hIa]
    exact fold_run I hI h1 h2 m (i + 1) k _ (by omega) (by omega) (hI i a (by omega) hIa)
theorem foldN_list {α A : Type} {x : List α} {z : α} {g : α → A → A} : ∀ (m i : Nat) (a : A), i + m = x.length → foldN (fun i a => g (x.getD i z) a) m i a = (x.drop i).foldl (fun a e => g e a) a
  | 0, i, a, hi => by rw [List.drop_of_length_le (by omega)]; rfl
  | m + 1, i, a, hi => by
    rw [drop_at x z i (by omega)]
    exact foldN_list m (i + 1) _ (by omega)
end Go.Tw
