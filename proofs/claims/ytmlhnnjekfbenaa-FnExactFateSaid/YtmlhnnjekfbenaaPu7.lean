/- Plain facts on the mirrors of the functions are proved here. -/
import Derived.Test.YtmlhnnjekfbenaaPu6
set_option linter.all false
namespace Go.Tw
open Go Go.RowKit

/-- the first place that answers -/
def sch {O : Type} (hit : Nat → Option O) (fin : O) : Nat → Nat → O
  | 0, _ => fin
  | m + 1, i => match hit i with | some o => o | none => sch hit fin m (i + 1)
theorem search_run {V O : Type} {step : (V → Option O) → V → Option O} {st : Nat → V} {n : Nat} {hit : Nat → Option O} {fin : O} (h1 : ∀ i, i < n → ∀ rec, step rec (st i) = (hit i).elim (rec (st (i + 1))) some) (h2 : ∀ rec, step rec (st n) = some fin) :
    ∀ (m i k : Nat), i + m = n → m < k → iter step k (st i) = some (sch hit fin m i)
  | 0, i, k + 1, hi, _ => by
    have : i = n := by omega
    subst this
    rw [iter_succ, h2]; rfl
  | m + 1, i, k + 1, hi, hk => by
    rw [iter_succ, h1 i (by omega)]
    simp only [sch]
    cases hit i with
    | some o => rfl
    | none => exact search_run h1 h2 m (i + 1) k (by omega) (by omega)
theorem sch_cases {O : Type} {hit : Nat → Option O} {fin : O} : ∀ (m i : Nat), (∃ j o, i ≤ j ∧ j < i + m ∧ hit j = some o ∧ sch hit fin m i = o) ∨ ((∀ j, i ≤ j → j < i + m → hit j = none) ∧ sch hit fin m i = fin)
  | 0, i => .inr ⟨fun j h1 h2 => by omega, rfl⟩
  | m + 1, i => by
    simp only [sch]
    cases h : hit i with
    | some o => exact .inl ⟨i, o, by omega, by omega, h, rfl⟩
    | none =>
      rcases sch_cases (hit := hit) (fin := fin) m (i + 1) with ⟨j, o, h1, h2, h3, h4⟩ | ⟨h1, h2⟩
      · exact .inl ⟨j, o, by omega, by omega, h3, h4⟩
      · refine .inr ⟨fun j g1 g2 => ?_, h2⟩
        rcases Nat.lt_or_ge i j with h' | h'
        · exact h1 j (by omega) (by omega)
        · have : j = i := by omega
          rw [this]; exact h
/-- a search through a list -/
theorem sch_any {α O : Type} {x : List α} {z : α} {p : α → Bool} {f : Nat → O} {fin : O} : (x.any p = true ∧ ∃ j, j < x.length ∧ sch (fun i => bif p (x.getD i z) then some (f i) else none) fin x.length 0 = f j) ∨ (x.any p = false ∧ sch (fun i => bif p (x.getD i z) then some (f i) else none) fin x.length 0 = fin) := by
  rcases sch_cases (hit := fun i => bif p (x.getD i z) then some (f i) else none) (fin := fin) x.length 0 with ⟨j, o, _, h2, h3, h4⟩ | ⟨h1, h2⟩
  · cases hp : p (x.getD j z) with
    | true =>
      simp only [hp, cond_true, Option.some.injEq] at h3
      exact .inl ⟨List.any_eq_true.2 ⟨_, getD_mem x z j (by omega), hp⟩, j, by omega, by rw [h4, h3]⟩
    | false => simp only [hp, cond_false] at h3; cases h3
  · refine .inr ⟨List.any_eq_false.2 fun a ha => ?_, h2⟩
    obtain ⟨j, hj, rfl⟩ := List.mem_iff_getElem.1 ha
    have := h1 j (by omega) (by omega)
    rw [getD_at x z j hj] at this
    cases hp : p x[j] with
    | true => simp [hp] at this
    | false => simp

def isO (kd id : Int) (e : D_Out) : Bool := decide (e.1 = kd) && decide (e.2.1 = id)
theorem idx_any (k : Nat) (hk : M1 < k) (x : List D_Out) (hx : (x.length : Int) ≤ M1) (kd id : Int) : ∃ n, slices_IndexFunc_impl_Out_impl_Out k x (kd, id, ()) = some ((n, ()), ()) ∧ decide (0 ≤ n) = x.any (isO kd id) := by
  have hM' : M1 = 1048576 := rfl
  have run := search_run (step := slices_IndexFunc_impl_Out_impl_Out_s2) (st := fun i => ((), x, (kd, id, ()), (((List.length x) : Nat) : Int), (i : Int), ())) (n := x.length) (hit := fun i => bif isO kd id (x.getD i z_Out) then some (Sum.inl ((), (i : Int), ())) else none) (fin := Sum.inr ((), ())) (fun i hi rec => by
      unfold slices_IndexFunc_impl_Out_impl_Out_s2 impl_isOver_1
      rw [bif_t (by simp; omega), bif_t (by simp; omega), bif_t (by simp; omega)]
      simp only [Int.toNat_natCast]
      rw [w64 (by omega)]
      unfold isO
      generalize decide ((x.getD i z_Out).1 = kd) = b1
      generalize decide ((x.getD i z_Out).2.1 = id) = b2
      cases b1 <;> cases b2 <;> rfl) (fun rec => by
      unfold slices_IndexFunc_impl_Out_impl_Out_s2
      rw [bif_f (by simp)]) x.length 0 k (by omega) (by omega)
  unfold slices_IndexFunc_impl_Out_impl_Out
  rw [show iter slices_IndexFunc_impl_Out_impl_Out_s2 k ((), x, (kd, id, ()), (((List.length x) : Nat) : Int), (0 : Int), ()) = _ from run]
  rcases sch_any (x := x) (z := z_Out) (p := isO kd id) (f := fun i => (Sum.inl ((), (i : Int), ()) : (Unit × (Int × Unit)) ⊕ (Unit × Unit))) (fin := Sum.inr ((), ())) with ⟨h1, j, _, h2⟩ | ⟨h1, h2⟩
  · rw [h2, h1]; exact ⟨(j : Int), rfl, by simp⟩
  · rw [h2, h1]; exact ⟨-1, rfl, by decide⟩
theorem isOver_eq (k : Nat) (hk : M1 < k) (x : List D_Out) (hx : (x.length : Int) ≤ M1) (kd id : Int) : impl_isOver k x kd id = some ((x.any (isO kd id), ()), ()) := by
  obtain ⟨n, h1, h2⟩ := idx_any k hk x hx kd id
  unfold impl_isOver slices_ContainsFunc_impl_Out_impl_Out
  simp only [h1, Option.bind_some, h2]
def isI (id : Int) (e : Int) : Bool := decide (id = e)
theorem contains_eq (k : Nat) (hk : M1 < k) (x : List Int) (hx : x.length ≤ 1048576) (id : Int) : slices_Contains_int k x id = some ((x.any (isI id), ()), ()) := by
  have hM' : M1 = 1048576 := rfl
  have run := search_run (step := slices_Index_int_s2) (st := fun i => ((), x, id, (((List.length x) : Nat) : Int), (i : Int), ())) (n := x.length) (hit := fun i => bif isI id (x.getD i 0) then some (Sum.inl ((), (i : Int), ())) else none) (fin := Sum.inr ((), ())) (fun i hi rec => by
      unfold slices_Index_int_s2
      rw [bif_t (by simp; omega), bif_t (by simp; omega), bif_t (by simp; omega)]
      simp only [Int.toNat_natCast]
      rw [w64 (by omega)]
      unfold isI
      cases decide (id = x.getD i 0) <;> rfl) (fun rec => by
      unfold slices_Index_int_s2
      rw [bif_f (by simp)]) x.length 0 k (by omega) (by omega)
  unfold slices_Contains_int slices_Index_int
  rw [show iter slices_Index_int_s2 k ((), x, id, (((List.length x) : Nat) : Int), (0 : Int), ()) = _ from run]
  rcases sch_any (x := x) (z := (0 : Int)) (p := isI id) (f := fun i => (Sum.inl ((), (i : Int), ()) : (Unit × (Int × Unit)) ⊕ (Unit × Unit))) (fin := Sum.inr ((), ())) with ⟨h1, j, _, h2⟩ | ⟨h1, h2⟩
  · rw [h2, h1]; simp
  · rw [h2, h1]; simp
theorem l19In_eq (k : Nat) (hk : M1 < k) (x : List Int) (hx : x.length ≤ 1048576) (id : Int) : spec_l19In k x id = some ((x.any (isI id), ()), ()) := by
  have hM' : M1 = 1048576 := rfl
  have run := search_run (step := spec_l19In_s2) (st := fun i => ((), x, id, (i : Int), ())) (n := x.length) (hit := fun i => bif isI id (x.getD i 0) then some (Sum.inl ((), true, ())) else none) (fin := Sum.inr ((), ())) (fun i hi rec => by
      unfold spec_l19In_s2
      rw [bif_t (by simp; omega), bif_t (by simp; omega), bif_t (by simp; omega)]
      simp only [Int.toNat_natCast]
      rw [w64 (by omega)]
      unfold isI
      rw [show decide (x.getD i 0 = id) = decide (id = x.getD i 0) from by simp [eq_comm]]
      cases decide (id = x.getD i 0) <;> rfl) (fun rec => by
      unfold spec_l19In_s2
      rw [bif_f (by simp)]) x.length 0 k (by omega) (by omega)
  unfold spec_l19In
  rw [show iter spec_l19In_s2 k ((), x, id, (0 : Int), ()) = _ from run]
  rcases sch_any (x := x) (z := (0 : Int)) (p := isI id) (f := fun i => (Sum.inl ((), true, ()) : (Unit × (Bool × Unit)) ⊕ (Unit × Unit))) (fin := Sum.inr ((), ())) with ⟨h1, j, _, h2⟩ | ⟨h1, h2⟩
  · rw [h2, h1]; rfl
  · rw [h2, h1]; rfl
theorem fate_inner (k : Nat) (hk : M1 < k) (x : List D_Out) (hx : (x.length : Int) ≤ M1) (id : Int) (l : D_Left) (kd : Int) : iter spec_Fate_s7 k ((), x, id, l, kd, (0 : Int), ()) = some (if x.any (isO kd id) then Sum.inl ((), kd, ()) else Sum.inr ((), x, id, l, kd, ())) := by
  have hM' : M1 = 1048576 := rfl
  have run := search_run (step := spec_Fate_s7) (st := fun i => ((), x, id, l, kd, (i : Int), ())) (n := x.length) (hit := fun i => bif isO kd id (x.getD i z_Out) then some (Sum.inl ((), kd, ())) else none) (fin := Sum.inr ((), x, id, l, kd, ())) (fun i hi rec => by
      unfold spec_Fate_s7
      rw [bif_t (by simp; omega), bif_t (by simp; omega), bif_t (by simp; omega)]
      simp only [Int.toNat_natCast]
      rw [w64 (by omega)]
      unfold isO
      rw [bif_t (b := decide ((0 : Int) ≤ (i : Int)) && decide ((i : Int) < (x.length : Int))) (by simp; omega), bif_t (b := decide (i < x.length)) (by simp; omega)]
      generalize decide ((x.getD i z_Out).1 = kd) = b1
      generalize decide ((x.getD i z_Out).2.1 = id) = b2
      cases b1 <;> cases b2 <;> rfl) (fun rec => by
      unfold spec_Fate_s7
      rw [bif_f (by simp)]) x.length 0 k (by omega) (by omega)
  rw [show iter spec_Fate_s7 k ((), x, id, l, kd, (0 : Int), ()) = _ from run]
  rcases sch_any (x := x) (z := z_Out) (p := isO kd id) (f := fun i => (Sum.inl ((), kd, ()) : (Unit × (Int × Unit)) ⊕ (Unit × (List D_Out × (Int × (D_Left × (Int × Unit))))))) (fin := Sum.inr ((), x, id, l, kd, ())) with ⟨h1, j, _, h2⟩ | ⟨h1, h2⟩
  · rw [h2, h1]; rfl
  · rw [h2, h1]; rfl
def fate (x : List D_Out) (l : D_Left) (id : Int) : Int :=
  if (x.length : Int) ≤ 2000 ∧ (l.2.1.length : Int) ≤ 2000 ∧ (l.2.2.1.length : Int) ≤ 2000 then
    if x.any (isO 1 id) then 1 else if x.any (isO 2 id) then 2 else if l.2.1.any (isI id) then 3 else if l.2.2.1.any (isI id) then 4 else 0
  else -1
def BLeft (l : D_Left) : Prop := l.2.1.length ≤ 1048576 ∧ l.2.2.1.length ≤ 1048576
theorem impl_Fate_eq (k : Nat) (hk : M1 < k) (x : List D_Out) (hx : (x.length : Int) ≤ M1) (l : D_Left) (hl : BLeft l) (id : Int) : impl_Fate k x l id = some ((fate x l id, ()), ()) := by
  unfold impl_Fate fate impl_areShort
  simp only [isOver_eq k hk x hx, contains_eq k hk _ hl.1, contains_eq k hk _ hl.2, Option.bind_some]
  generalize x.any (isO 1 id) = b1
  generalize x.any (isO 2 id) = b2
  generalize l.2.1.any (isI id) = b3
  generalize l.2.2.1.any (isI id) = b4
  by_cases h1 : (x.length : Int) ≤ 2000 <;> by_cases h2 : (l.2.1.length : Int) ≤ 2000 <;> by_cases h3 : (l.2.2.1.length : Int) ≤ 2000 <;> simp [h1, h2, h3]
  cases b1 <;> cases b2 <;> cases b3 <;> cases b4 <;> rfl
theorem fate_outer (k : Nat) (hk : M1 < k) (x : List D_Out) (hx : (x.length : Int) ≤ M1) (id : Int) (l : D_Left) : iter (spec_Fate_s4 k) k ((), x, id, l, (1 : Int), ()) = some (if x.any (isO 1 id) then Sum.inl ((), 1, ()) else if x.any (isO 2 id) then Sum.inl ((), 2, ()) else Sum.inr ((), id, l, ())) := by
  have hM' : M1 = 1048576 := rfl
  obtain ⟨j, rfl⟩ : ∃ j, k = j + 3 := ⟨k - 3, by omega⟩
  have step : ∀ (kd : Int) rec, kd = 1 ∨ kd = 2 → spec_Fate_s4 (j + 3) rec ((), x, id, l, kd, ()) = if x.any (isO kd id) then some (Sum.inl ((), kd, ())) else rec ((), x, id, l, kd + 1, ()) := by
    intro kd rec hkd
    unfold spec_Fate_s4
    rw [bif_t (by simp; omega)]
    simp only [fate_inner (j + 3) hk x hx, Option.bind_some]
    cases x.any (isO kd id) with
    | true => rfl
    | false =>
      show rec ((), x, id, l, IntKind.wrap .i64 (kd + 1), ()) = _
      rw [w64 (by omega)]; rfl
  have last : ∀ rec, spec_Fate_s4 (j + 3) rec ((), x, id, l, (3 : Int), ()) = some (Sum.inr ((), id, l, ())) := by
    intro rec; unfold spec_Fate_s4
    rw [bif_f (by simp)]
  rw [iter_succ, step 1 _ (.inl rfl), iter_succ, step (1 + 1) _ (.inr rfl), iter_succ, show (1 : Int) + 1 + 1 = 3 from rfl, last]
  simp only [show (1 : Int) + 1 = 2 from rfl]
  cases x.any (isO 1 id) <;> cases x.any (isO 2 id) <;> rfl
theorem spec_Fate_eq (k : Nat) (hk : M1 < k) (x : List D_Out) (hx : (x.length : Int) ≤ M1) (l : D_Left) (hl : BLeft l) (id : Int) : spec_Fate k x l id = some ((fate x l id, ()), ()) := by
  unfold spec_Fate fate spec_l24Few
  simp only [fate_outer k hk x hx, Option.bind_some]
  by_cases h1 : (x.length : Int) ≤ 2000
  · by_cases h2 : (l.2.1.length : Int) ≤ 2000
    · by_cases h3 : (l.2.2.1.length : Int) ≤ 2000
      · have h2' : ¬ (2000 : Int) < (l.2.1.length : Int) := by omega
        have h3' : ¬ (2000 : Int) < (l.2.2.1.length : Int) := by omega
        simp only [h1, h2, h3, h2', h3', decide_true, decide_false, Bool.not_true, Bool.not_false, cond_true, cond_false, and_self, ↓reduceIte]
        have e1 := l19In_eq k hk _ hl.1 id
        have e2 := l19In_eq k hk _ hl.2 id
        revert e1 e2
        generalize x.any (isO 1 id) = b1
        generalize x.any (isO 2 id) = b2
        generalize l.2.1.any (isI id) = b3
        generalize l.2.2.1.any (isI id) = b4
        intro e1 e2
        cases b1 <;> cases b2 <;> simp [e1, e2]
        cases b3 <;> cases b4 <;> rfl
      · have h2' : ¬ (2000 : Int) < (l.2.1.length : Int) := by omega
        have h3' : (2000 : Int) < (l.2.2.1.length : Int) := by omega
        simp [h1, h2', h3', h3]
    · have h2' : (2000 : Int) < (l.2.1.length : Int) := by omega
      simp [h1, h2', h2]
  · simp [h1]
def WLeft (l : D_Left) : Prop := l.2.1.length ≤ 9223372036854775807 ∧ l.2.2.1.length ≤ 9223372036854775807
theorem szLeft_ok : SzOk M1 laws_szLeft WLeft BLeft := by
  intro e m hW h0 hm
  obtain ⟨n, h1, h2, h3, h4⟩ := szFlat_ok (α := Int) (M := M1) (by decide) e.2.1 m hW.1 h0 hm
  have h1' : laws_szIntS e.2.1 m = some ((n, ()), ()) := h1
  unfold laws_szLeft
  rw [h1', Option.bind_some]
  by_cases h : n < 0
  · exact ⟨-1, by rw [bif_t (by simpa using h)], by omega, by omega, fun h => by omega⟩
  · rw [bif_f (by simpa using h)]
    obtain ⟨n2, g1, g2, g3, g4⟩ := szFlat_ok (α := Int) (M := M1) (by decide) e.2.2.1 n hW.2 (by omega) (by omega)
    have g1' : laws_szIntS e.2.2.1 n = some ((n2, ()), ()) := g1
    simp only
    rw [g1', Option.bind_some]
    by_cases hh : n2 < 0
    · exact ⟨-1, by rw [bif_t (by simpa using hh)], by omega, by omega, fun h => by omega⟩
    · exact ⟨n2, by rw [bif_f (by simpa using hh)], g2, by omega, fun h5 => by
        have hM' : M1 = 1048576 := rfl
        have a := h4 (by omega); have b := g4 h5
        exact ⟨by omega, by omega⟩⟩
theorem toLeft_ok (k : Nat) (hk : M1 < k) (l : D_Left) (hl : BLeft l) : laws_toLeft k l = some ((l, ()), ()) := by
  unfold laws_toLeft
  rw [toInt_ok k hk _ hl.1, Option.bind_some, toInt_ok k hk _ hl.2]; rfl
theorem eqLeft_ok (k : Nat) (hk : M1 < k) (l : D_Left) (hl : BLeft l) : laws_eqLeft k l l = some ((true, ()), ()) := by
  unfold laws_eqLeft
  simp only [eqInt_ok k hk _ hl.1, eqInt_ok k hk _ hl.2, Option.bind_some]
  simp
theorem law_FnExactFate (x : List D_Out) (l : D_Left) (id : Int) (h : WF (.sl T_Out) x) (h2 : WF T_Left l) (h3 : WF (.int .i64) id) : ∃ k y, laws_FnExactFate k x l id = some ((true, ()), y) := by
  have hM' : M1 = 1048576 := rfl
  have hk : M1 < (1048577 : Nat) := by decide
  refine ⟨1048577, (), ?_⟩
  revert hk
  generalize (1048577 : Nat) = k
  intro hk
  obtain ⟨n, h1, _, h3', h4⟩ := szOutS_ok k hk x M1 (wf_out h) (by decide) (by decide)
  unfold laws_FnExactFate
  rw [h1, Option.bind_some]
  by_cases hn : n < 0
  · rw [bif_t (by simpa using hn)]
  · rw [bif_f (by simpa using hn)]
    obtain ⟨h5, h6⟩ := h4 (by omega)
    obtain ⟨n2, g1, _, _, g4⟩ := szLeft_ok l n ⟨h2.2.1.1, h2.2.2.1.1⟩ (by omega) (by omega)
    simp only
    rw [g1, Option.bind_some]
    by_cases hn2 : n2 < 0
    · rw [bif_t (by simpa using hn2)]
    · rw [bif_f (by simpa using hn2)]
      have hl := g4 (by omega)
      simp only [toOutS_ok k hk x h5 h6, toLeft_ok k hk l hl, spec_Fate_eq k hk x h5 l hl, impl_Fate_eq k hk x h5 l hl, eqOutS_ok k hk x h5 h6, eqLeft_ok k hk l hl, Option.bind_some]
      simp
end Go.Tw
