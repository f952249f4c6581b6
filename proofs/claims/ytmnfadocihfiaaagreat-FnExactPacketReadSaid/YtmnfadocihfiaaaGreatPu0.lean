/- Plain facts on the mirrors of the functions are proved here. -/
import Derived.Test.YtmnfadocihfiaaaGreatT24
import Derived.IntWalk
set_option linter.all false
namespace Go.Tw
open Go Go.RowKit

theorem w64 {n : Int} (h : -9223372036854775808 ≤ n ∧ n ≤ 9223372036854775807) : IntKind.wrap .i64 n = n := IntWalk.i64_in n h
theorem bif_t {α : Type} {b : Bool} {x y : α} (h : b = true) : cond b x y = x := by rw [h]; rfl
theorem bif_f {α : Type} {b : Bool} {x y : α} (h : b = false) : cond b x y = y := by rw [h]; rfl
theorem iter_succ {V O : Type} (step : (V → Option O) → V → Option O) (k : Nat) (v : V) : iter step (k + 1) v = step (iter step k) v := rfl
theorem getD_at {α : Type} (l : List α) (d : α) (i : Nat) (h : i < l.length) : l.getD i d = l[i] := by simp [List.getD, List.getElem?_eq_getElem h]
theorem drop_at {α : Type} (l : List α) (d : α) (i : Nat) (h : i < l.length) : l.drop i = l.getD i d :: l.drop (i + 1) := by
  rw [List.drop_eq_getElem_cons h, getD_at l d i h]
theorem getD_mem {α : Type} (l : List α) (d : α) (i : Nat) (h : i < l.length) : l.getD i d ∈ l := by rw [getD_at l d i h]; exact List.getElem_mem h

/-! The laws' own helps: sizes, copies, likeness. -/
abbrev R1 (α : Type) := Option ((α × Unit) × Unit)
section
variable {α : Type}
/-- a round of a list's size -/
def szStep (f : α → Int → R1 Int) (z : α) (rec : Unit × List α × Int × Int × Unit → Option ((Unit × Int × Unit) ⊕ (Unit × Int × Unit))) (v : Unit × List α × Int × Int × Unit) : Option ((Unit × Int × Unit) ⊕ (Unit × Int × Unit)) :=
  bif decide (v.2.2.2.1 < ((v.2.1.length : Nat) : Int)) then
    bif decide ((0 : Int) ≤ v.2.2.2.1) && decide (v.2.2.2.1 < ((v.2.1.length : Nat) : Int)) then
      bif decide (v.2.2.2.1.toNat < v.2.1.length) then
        (f (v.2.1.getD v.2.2.2.1.toNat z) v.2.2.1).bind fun t1 =>
          bif decide (t1.1.1 < (0 : Int)) then some (Sum.inl ((), (-1 : Int), ()))
          else rec ((), v.2.1, t1.1.1, IntKind.wrap .i64 (v.2.2.2.1 + (1 : Int)), ())
      else none
    else none
  else some (Sum.inr ((), v.2.2.1, ()))
def szList (f : α → Int → R1 Int) (z : α) (k : Nat) (x0 : List α) (x1 : Int) : R1 Int :=
  bif decide (IntKind.wrap .i64 (x1 - ((x0.length : Nat) : Int)) < (0 : Int)) then some (((-1 : Int), ()), ())
  else (iter (szStep f z) k ((), x0, IntKind.wrap .i64 (x1 - ((x0.length : Nat) : Int)), (0 : Int), ())).bind fun o1 => Sum.elim (fun a2 => some (a2.2, ())) (fun b3 => some (b3.2, ())) o1
/-- f answers a rest that is no greater; if it is not negative, B holds. -/
def SzOk (M : Int) (f : α → Int → R1 Int) (W : α → Prop) (B : α → Prop) : Prop := ∀ e m, W e → 0 ≤ m → m ≤ M → ∃ n, f e m = some ((n, ()), ()) ∧ -1 ≤ n ∧ n ≤ m ∧ (0 ≤ n → B e)

theorem szStep_run {f : α → Int → R1 Int} {z : α} {M : Int} {W B : α → Prop} (hf : SzOk M f W B) (x : List α) (hl : x.length ≤ 9223372036854775807) (hW : ∀ e ∈ x, W e) : ∀ (n i k : Nat) (m : Int), i + n = x.length → n < k → 0 ≤ m → m ≤ M →
    ∃ o, iter (szStep f z) k ((), x, m, (i : Int), ()) = some o ∧ (o = Sum.inl ((), (-1 : Int), ()) ∨ ∃ r, 0 ≤ r ∧ r ≤ m ∧ o = Sum.inr ((), r, ()) ∧ ∀ e ∈ x.drop i, B e)
  | 0, i, k + 1, m, hi, _, h0, hM => by
    refine ⟨_, ?_, .inr ⟨m, h0, Int.le_refl _, rfl, ?_⟩⟩
    · rw [iter_succ]; unfold szStep
      rw [bif_f (by simp; omega)]
    · rw [List.drop_of_length_le (by omega)]; simp
  | n + 1, i, k + 1, m, hi, hk, h0, hM => by
    have hlt : i < x.length := by omega
    obtain ⟨r, h1, h2, h3, h4⟩ := hf (x.getD i z) m (hW _ (getD_mem x z i hlt)) h0 hM
    by_cases hr : r < 0
    · refine ⟨Sum.inl ((), (-1 : Int), ()), ?_, .inl rfl⟩
      rw [iter_succ]; unfold szStep
      rw [bif_t (by simp; omega), bif_t (by simp; omega), bif_t (by simp; omega)]
      simp only [Int.toNat_natCast, h1, Option.bind_some]
      rw [bif_t (by simp; omega)]
    · obtain ⟨o, h5, h6⟩ := szStep_run hf x hl hW n (i + 1) k r (by omega) (by omega) (by omega) (by omega)
      refine ⟨o, ?_, ?_⟩
      · rw [iter_succ]; unfold szStep
        rw [bif_t (by simp; omega), bif_t (by simp; omega), bif_t (by simp; omega)]
        simp only [Int.toNat_natCast, h1, Option.bind_some]
        rw [bif_f (by simp; omega), w64 (by omega)]
        exact h5
      · rcases h6 with h6 | ⟨r', h7, h8, h9, h10⟩
        · exact .inl h6
        · refine .inr ⟨r', h7, by omega, h9, ?_⟩
          rw [drop_at x z i hlt]
          intro e he
          rcases List.mem_cons.1 he with rfl | he
          · exact h4 (by omega)
          · exact h10 e he
theorem szList_ok {f : α → Int → R1 Int} {z : α} {M : Int} {W B : α → Prop} (hM : M ≤ 1152921504606846976) (hf : SzOk M f W B) (k : Nat) (hk : M < k) : SzOk M (szList f z k) (fun x => x.length ≤ 9223372036854775807 ∧ ∀ e ∈ x, W e) (fun x => (x.length : Int) ≤ M ∧ ∀ e ∈ x, B e) := by
  intro x m ⟨hl, hW⟩ h0 hm
  unfold szList
  rw [w64 (by omega)]
  by_cases h : m - (x.length : Int) < 0
  · exact ⟨-1, by rw [bif_t (by simpa using h)], by omega, by omega, fun h => by omega⟩
  · rw [bif_f (by simpa using h)]
    obtain ⟨o, h1, h2⟩ := szStep_run (z := z) hf x hl hW x.length 0 k (m - x.length) (by omega) (by omega) (by omega) (by omega)
    rw [show (0 : Int) = ((0 : Nat) : Int) from rfl, h1]
    rcases h2 with rfl | ⟨r, h3, h4, rfl, h5⟩
    · exact ⟨-1, rfl, by omega, by omega, fun h => by omega⟩
    · exact ⟨r, rfl, by omega, by omega, fun _ => ⟨by omega, fun e he => h5 e (by simpa using he)⟩⟩

/-- a flat list's size -/
def szFlat (x0 : List α) (x1 : Int) : R1 Int :=
  bif decide (IntKind.wrap .i64 (x1 - ((x0.length : Nat) : Int)) < (0 : Int)) then some (((-1 : Int), ()), ()) else some ((IntKind.wrap .i64 (x1 - ((x0.length : Nat) : Int)), ()), ())
theorem szFlat_ok {M : Int} (hM : M ≤ 1152921504606846976) : SzOk M (szFlat (α := α)) (fun x => x.length ≤ 9223372036854775807) (fun x => (x.length : Int) ≤ M) := by
  intro x m hl h0 hm
  unfold szFlat
  rw [w64 (by omega)]
  by_cases h : m - (x.length : Int) < 0
  · exact ⟨-1, by rw [bif_t (by simpa using h)], by omega, by omega, fun h => by omega⟩
  · exact ⟨m - x.length, by rw [bif_f (by simpa using h)], by omega, by omega, fun _ => by omega⟩

/-- a round of a copy -/
def toStep (f : α → R1 α) (z : α) (rec : Unit × List α × List α × Int × Unit → Option (Unit × List α × Unit)) (v : Unit × List α × List α × Int × Unit) : Option (Unit × List α × Unit) :=
  bif decide (v.2.2.2.1 < ((v.2.1.length : Nat) : Int)) then
    bif decide ((0 : Int) ≤ v.2.2.2.1) && decide (v.2.2.2.1 < ((v.2.1.length : Nat) : Int)) then
      bif decide (v.2.2.2.1.toNat < v.2.1.length) then
        (f (v.2.1.getD v.2.2.2.1.toNat z)).bind fun t1 =>
          bif decide ((0 : Int) ≤ v.2.2.2.1) && decide (v.2.2.2.1 < ((v.2.2.1.length : Nat) : Int)) then
            bif decide (v.2.2.2.1.toNat < v.2.2.1.length) then rec ((), v.2.1, v.2.2.1.set v.2.2.2.1.toNat t1.1.1, IntKind.wrap .i64 (v.2.2.2.1 + (1 : Int)), ())
            else none
          else none
      else none
    else none
  else some ((), v.2.2.1, ())
def toList (f : α → R1 α) (z d : α) (s : Int) (k : Nat) (x0 : List α) : R1 (List α) :=
  bif (decide ((0 : Int) ≤ ((x0.length : Nat) : Int)) && decide (((x0.length : Nat) : Int) ≤ ((x0.length : Nat) : Int))) && decide (s * ((x0.length : Nat) : Int) ≤ (1099511627776 : Int)) then
    (iter (toStep f z) k ((), x0, List.replicate x0.length d, (0 : Int), ())).bind fun o1 => some (o1.2, ())
  else none
theorem set_next (x acc : List α) (z : α) (i : Nat) (h : i < x.length) (hl : acc.length = x.length) (ha : acc.take i = x.take i) : (acc.set i (x.getD i z)).take (i + 1) = x.take (i + 1) := by
  rw [List.take_add_one, List.take_add_one, List.take_set_of_le (Nat.le_refl _), ha, getD_at x z i h]
  simp [h, hl]
theorem toStep_run {f : α → R1 α} {z : α} (x : List α) (hl : x.length ≤ 9223372036854775807) (hf : ∀ e ∈ x, f e = some ((e, ()), ())) : ∀ (n i k : Nat) (acc : List α), i + n = x.length → n < k → acc.length = x.length → acc.take i = x.take i →
    iter (toStep f z) k ((), x, acc, (i : Int), ()) = some ((), x, ())
  | 0, i, k + 1, acc, hi, _, ha, ht => by
    rw [iter_succ]; unfold toStep
    rw [bif_f (by simp; omega)]
    have : acc = x := by rw [← List.take_of_length_le (l := acc) (i := i) (by omega), ht, List.take_of_length_le (by omega)]
    simp [this]
  | n + 1, i, k + 1, acc, hi, hk, ha, ht => by
    have hlt : i < x.length := by omega
    rw [iter_succ]; unfold toStep
    rw [bif_t (by simp; omega), bif_t (by simp; omega), bif_t (by simp; omega)]
    simp only [Int.toNat_natCast, hf _ (getD_mem x z i hlt), Option.bind_some]
    rw [bif_t (by simp; omega), bif_t (by simp; omega), w64 (by omega)]
    exact toStep_run x hl hf n (i + 1) k _ (by omega) (by omega) (by simpa using ha) (set_next x acc z i hlt ha ht)
theorem toList_ok {f : α → R1 α} {z d : α} {s : Int} (k : Nat) (x : List α) {M : Int} (hx : (x.length : Int) ≤ M) (hk : M < k) (hs : 0 ≤ s) (hsM : s * M ≤ 1099511627776) (hM : M ≤ 1152921504606846976) (hf : ∀ e ∈ x, f e = some ((e, ()), ())) :
    toList f z d s k x = some ((x, ()), ()) := by
  unfold toList
  have h1 : s * (x.length : Int) ≤ s * M := Int.mul_le_mul_of_nonneg_left hx hs
  rw [bif_t (by simp; omega), show (0 : Int) = ((0 : Nat) : Int) from rfl, toStep_run x (by omega) hf x.length 0 k _ (by omega) (by omega) (by simp) (by simp)]
  rfl

/-- a round of a likeness -/
def eqStep (f : α → α → R1 Bool) (z : α) (rec : Unit × List α × List α × Int × Unit → Option ((Unit × Bool × Unit) ⊕ (Unit × Unit))) (v : Unit × List α × List α × Int × Unit) : Option ((Unit × Bool × Unit) ⊕ (Unit × Unit)) :=
  bif decide (v.2.2.2.1 < ((v.2.1.length : Nat) : Int)) then
    bif decide ((0 : Int) ≤ v.2.2.2.1) && decide (v.2.2.2.1 < ((v.2.1.length : Nat) : Int)) then
      bif decide (v.2.2.2.1.toNat < v.2.1.length) then
        bif decide ((0 : Int) ≤ v.2.2.2.1) && decide (v.2.2.2.1 < ((v.2.2.1.length : Nat) : Int)) then
          bif decide (v.2.2.2.1.toNat < v.2.2.1.length) then
            (f (v.2.1.getD v.2.2.2.1.toNat z) (v.2.2.1.getD v.2.2.2.1.toNat z)).bind fun t1 =>
              bif !t1.1.1 then some (Sum.inl ((), false, ()))
              else rec ((), v.2.1, v.2.2.1, IntKind.wrap .i64 (v.2.2.2.1 + (1 : Int)), ())
          else none
        else none
      else none
    else none
  else some (Sum.inr ((), ()))
def eqList (f : α → α → R1 Bool) (z : α) (k : Nat) (x0 x1 : List α) : R1 Bool :=
  bif !decide (((x0.length : Nat) : Int) = ((x1.length : Nat) : Int)) then some ((false, ()), ())
  else (iter (eqStep f z) k ((), x0, x1, (0 : Int), ())).bind fun o1 => Sum.elim (fun a2 => some (a2.2, ())) (fun b3 => some ((true, ()), ())) o1
theorem eqStep_run {f : α → α → R1 Bool} {z : α} (x : List α) (hl : x.length ≤ 9223372036854775807) (hf : ∀ e ∈ x, f e e = some ((true, ()), ())) : ∀ (n i k : Nat), i + n = x.length → n < k →
    iter (eqStep f z) k ((), x, x, (i : Int), ()) = some (Sum.inr ((), ()))
  | 0, i, k + 1, hi, _ => by
    rw [iter_succ]; unfold eqStep
    rw [bif_f (by simp; omega)]
  | n + 1, i, k + 1, hi, hk => by
    have hlt : i < x.length := by omega
    rw [iter_succ]; unfold eqStep
    rw [bif_t (by simp; omega), bif_t (by simp; omega), bif_t (by simp; omega), bif_t (by simp; omega), bif_t (by simp; omega)]
    simp only [Int.toNat_natCast, hf _ (getD_mem x z i hlt), Option.bind_some]
    rw [bif_f (b := !true) rfl, w64 (by omega)]
    exact eqStep_run x hl hf n (i + 1) k (by omega) (by omega)
theorem eqList_ok {f : α → α → R1 Bool} {z : α} (k : Nat) (x : List α) {M : Int} (hx : (x.length : Int) ≤ M) (hk : M < k) (hM : M ≤ 1152921504606846976) (hf : ∀ e ∈ x, f e e = some ((true, ()), ())) : eqList f z k x x = some ((true, ()), ()) := by
  unfold eqList
  rw [bif_f (by simp), show (0 : Int) = ((0 : Nat) : Int) from rfl, eqStep_run x (by omega) hf x.length 0 k (by omega) (by omega)]
  rfl
end
end Go.Tw
