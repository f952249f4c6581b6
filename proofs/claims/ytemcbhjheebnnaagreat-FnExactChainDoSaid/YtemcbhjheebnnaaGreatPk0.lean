/- Facts on mirrors. -/
import Derived.Test.YtemcbhjheebnnaaGreatT24
import Derived.IntWalk
set_option linter.all false
set_option maxRecDepth 100000
namespace Go.Tw
open Go Go.RowKit
open Go.IntKind renaming wrap → Wr
section
theorem bL {n : Int} (h : -9223372036854775808 ≤ n ∧ n ≤ 9223372036854775807) : Wr .i64 n = n := IntWalk.i64_in n h
theorem aw {α : Type} {b : Bool} {x y : α} (h : b = true) : cond b x y = x := by rw [h]; rfl
theorem aK {α : Type} {b : Bool} {x y : α} (h : b = false) : cond b x y = y := by rw [h]; rfl
theorem bd {V O : Type} (step : (V → Option O) → V → Option O) (k : Nat) (v : V) : iter step (k + 1) v = step (iter step k) v := rfl
theorem dT {α : Type} (l : List α) (d : α) (i : Nat) (h : i < l.length) : l.getD i d = l[i] := by simp [List.getD, List.getElem?_eq_getElem h]
theorem gM {α : Type} (l : List α) (d : α) (i : Nat) (h : i < l.length) : l.drop i = l.getD i d :: l.drop (i + 1) := by
  rw [List.drop_eq_getElem_cons h, dT l d i h]
theorem cb {α : Type} (l : List α) (d : α) (i : Nat) (h : i < l.length) : l.getD i d ∈ l := by rw [dT l d i h]; exact List.getElem_mem h
abbrev R1 (α : Type) := Option ((α × Unit) × Unit)
section
variable {α : Type}
def rA (f : α → Int → R1 Int) (z : α) (rec : Unit × List α × Int × Int × Unit → Option ((Unit × Int × Unit) ⊕ (Unit × Int × Unit))) (v : Unit × List α × Int × Int × Unit) : Option ((Unit × Int × Unit) ⊕ (Unit × Int × Unit)) :=
  bif decide (v.2.2.2.1 < (v.2.1.length : Int)) then
    bif decide ((0 : Int) ≤ v.2.2.2.1) && decide (v.2.2.2.1 < (v.2.1.length : Int)) then
      bif decide (v.2.2.2.1.toNat < v.2.1.length) then
        (f (v.2.1.getD v.2.2.2.1.toNat z) v.2.2.1).bind fun t1 =>
          bif decide (t1.1.1 < (0 : Int)) then some (Sum.inl ((), (-1 : Int), ()))
          else rec ((), v.2.1, t1.1.1, Wr .i64 (v.2.2.2.1 + (1 : Int)), ())
      else none
    else none
  else some (Sum.inr ((), v.2.2.1, ()))
def DH (f : α → Int → R1 Int) (z : α) (k : Nat) (x0 : List α) (x1 : Int) : R1 Int :=
  bif decide (Wr .i64 (x1 - (x0.length : Int)) < (0 : Int)) then some (((-1 : Int), ()), ())
  else (iter (rA f z) k ((), x0, Wr .i64 (x1 - (x0.length : Int)), (0 : Int), ())).bind fun o1 => Sum.elim (fun a2 => some (a2.2, ())) (fun b3 => some (b3.2, ())) o1
def gg (M : Int) (f : α → Int → R1 Int) (W : α → Prop) (B : α → Prop) : Prop := ∀ e m, W e → 0 ≤ m → m ≤ M → ∃ n, f e m = some ((n, ()), ()) ∧ -1 ≤ n ∧ n ≤ m ∧ (0 ≤ n → B e)
theorem rB {f : α → Int → R1 Int} {z : α} {M : Int} {W B : α → Prop} (hf : gg M f W B) (x : List α) (hl : x.length ≤ 9223372036854775807) (hW : ∀ e ∈ x, W e) : ∀ (n i k : Nat) (m : Int), i + n = x.length → n < k → 0 ≤ m → m ≤ M →
    ∃ o, iter (rA f z) k ((), x, m, (i : Int), ()) = some o ∧ (o = Sum.inl ((), (-1 : Int), ()) ∨ ∃ r, 0 ≤ r ∧ r ≤ m ∧ o = Sum.inr ((), r, ()) ∧ ∀ e ∈ x.drop i, B e)
  | 0, i, k + 1, m, hi, _, h0, hM => by
    refine ⟨_, ?_, .inr ⟨m, h0, Int.le_refl _, rfl, ?_⟩⟩
    · rw [bd]; unfold rA
      rw [aK (by simp; omega)]
    · rw [List.drop_of_length_le (by omega)]; simp
  | n + 1, i, k + 1, m, hi, hk, h0, hM => by
    have hlt : i < x.length := by omega
    obtain ⟨r, h1, h2, h3, h4⟩ := hf (x.getD i z) m (hW _ (cb x z i hlt)) h0 hM
    by_cases hr : r < 0
    · refine ⟨Sum.inl ((), (-1 : Int), ()), ?_, .inl rfl⟩
      rw [bd]; unfold rA
      rw [aw (by simp; omega), aw (by simp; omega), aw (by simp; omega)]
      simp only [Int.toNat_natCast, h1, ai]
      rw [aw (by simp; omega)]
    · obtain ⟨o, h5, h6⟩ := rB hf x hl hW n (i + 1) k r (by omega) (by omega) (by omega) (by omega)
      refine ⟨o, ?_, ?_⟩
      · rw [bd]; unfold rA
        rw [aw (by simp; omega), aw (by simp; omega), aw (by simp; omega)]
        simp only [Int.toNat_natCast, h1, ai]
        rw [aK (by simp; omega), bL (by omega)]
        exact h5
      · rcases h6 with h6 | ⟨r', h7, h8, h9, h10⟩
        · exact .inl h6
        · refine .inr ⟨r', h7, by omega, h9, ?_⟩
          rw [gM x z i hlt]
          intro e he
          rcases List.mem_cons.1 he with rfl | he
          · exact h4 (by omega)
          · exact h10 e he
theorem AG {f : α → Int → R1 Int} {z : α} {M : Int} {W B : α → Prop} (hM : M ≤ 1152921504606846976) (hf : gg M f W B) (k : Nat) (hk : M < k) : gg M (DH f z k) (fun x => x.length ≤ 9223372036854775807 ∧ ∀ e ∈ x, W e) (fun x => (x.length : Int) ≤ M ∧ ∀ e ∈ x, B e) := by
  intro x m ⟨hl, hW⟩ h0 hm
  unfold DH
  rw [bL (by omega)]
  by_cases h : m - (x.length : Int) < 0
  · exact ⟨-1, by rw [aw (by simpa using h)], by omega, by omega, fun h => by omega⟩
  · rw [aK (by simpa using h)]
    obtain ⟨o, h1, h2⟩ := rB (z := z) hf x hl hW x.length 0 k (m - x.length) (by omega) (by omega) (by omega) (by omega)
    rw [show (0 : Int) = ((0 : Nat) : Int) from rfl, h1]
    rcases h2 with rfl | ⟨r, h3, h4, rfl, h5⟩
    · exact ⟨-1, rfl, by omega, by omega, fun h => by omega⟩
    · exact ⟨r, rfl, by omega, by omega, fun _ => ⟨by omega, fun e he => h5 e (by simpa using he)⟩⟩
def DI (x0 : List α) (x1 : Int) : R1 Int :=
  bif decide (Wr .i64 (x1 - (x0.length : Int)) < (0 : Int)) then some (((-1 : Int), ()), ()) else some ((Wr .i64 (x1 - (x0.length : Int)), ()), ())
theorem AF {M : Int} (hM : M ≤ 1152921504606846976) : gg M (DI (α := α)) (fun x => x.length ≤ 9223372036854775807) (fun x => (x.length : Int) ≤ M) := by
  intro x m hl h0 hm
  unfold DI
  rw [bL (by omega)]
  by_cases h : m - (x.length : Int) < 0
  · exact ⟨-1, by rw [aw (by simpa using h)], by omega, by omega, fun h => by omega⟩
  · exact ⟨m - x.length, by rw [aK (by simpa using h)], by omega, by omega, fun _ => by omega⟩
def toStep (f : α → R1 α) (z : α) (rec : Unit × List α × List α × Int × Unit → Option (Unit × List α × Unit)) (v : Unit × List α × List α × Int × Unit) : Option (Unit × List α × Unit) :=
  bif decide (v.2.2.2.1 < (v.2.1.length : Int)) then
    bif decide ((0 : Int) ≤ v.2.2.2.1) && decide (v.2.2.2.1 < (v.2.1.length : Int)) then
      bif decide (v.2.2.2.1.toNat < v.2.1.length) then
        (f (v.2.1.getD v.2.2.2.1.toNat z)).bind fun t1 =>
          bif decide ((0 : Int) ≤ v.2.2.2.1) && decide (v.2.2.2.1 < (v.2.2.1.length : Int)) then
            bif decide (v.2.2.2.1.toNat < v.2.2.1.length) then rec ((), v.2.1, v.2.2.1.set v.2.2.2.1.toNat t1.1.1, Wr .i64 (v.2.2.2.1 + (1 : Int)), ())
            else none
          else none
      else none
    else none
  else some ((), v.2.2.1, ())
def toList (f : α → R1 α) (z d : α) (s : Int) (k : Nat) (x0 : List α) : R1 (List α) :=
  bif (decide ((0 : Int) ≤ (x0.length : Int)) && decide ((x0.length : Int) ≤ (x0.length : Int))) && decide (s * (x0.length : Int) ≤ (1099511627776 : Int)) then
    (iter (toStep f z) k ((), x0, List.replicate x0.length d, (0 : Int), ())).bind fun o1 => some (o1.2, ())
  else none
theorem DJ (x acc : List α) (z : α) (i : Nat) (h : i < x.length) (hl : acc.length = x.length) (ha : acc.take i = x.take i) : (acc.set i (x.getD i z)).take (i + 1) = x.take (i + 1) := by
  rw [List.take_add_one, List.take_add_one, List.take_set_of_le (Nat.le_refl _), ha, dT x z i h]
  simp [h, hl]
theorem rC {f : α → R1 α} {z : α} (x : List α) (hl : x.length ≤ 9223372036854775807) (hf : ∀ e ∈ x, f e = some ((e, ()), ())) : ∀ (n i k : Nat) (acc : List α), i + n = x.length → n < k → acc.length = x.length → acc.take i = x.take i →
    iter (toStep f z) k ((), x, acc, (i : Int), ()) = some ((), x, ())
  | 0, i, k + 1, acc, hi, _, ha, ht => by
    rw [bd]; unfold toStep
    rw [aK (by simp; omega)]
    have : acc = x := by rw [← List.take_of_length_le (l := acc) (i := i) (by omega), ht, List.take_of_length_le (by omega)]
    simp [this]
  | n + 1, i, k + 1, acc, hi, hk, ha, ht => by
    have hlt : i < x.length := by omega
    rw [bd]; unfold toStep
    rw [aw (by simp; omega), aw (by simp; omega), aw (by simp; omega)]
    simp only [Int.toNat_natCast, hf _ (cb x z i hlt), ai]
    rw [aw (by simp; omega), aw (by simp; omega), bL (by omega)]
    exact rC x hl hf n (i + 1) k _ (by omega) (by omega) (by simpa using ha) (DJ x acc z i hlt ha ht)
theorem sU {f : α → R1 α} {z d : α} {s : Int} (k : Nat) (x : List α) {M : Int} (hx : (x.length : Int) ≤ M) (hk : M < k) (hs : 0 ≤ s) (hsM : s * M ≤ 1099511627776) (hM : M ≤ 1152921504606846976) (hf : ∀ e ∈ x, f e = some ((e, ()), ())) :
    toList f z d s k x = some ((x, ()), ()) := by
  unfold toList
  have h1 : s * (x.length : Int) ≤ s * M := Int.mul_le_mul_of_nonneg_left hx hs
  rw [aw (by simp; omega), show (0 : Int) = ((0 : Nat) : Int) from rfl, rC x (by omega) hf x.length 0 k _ (by omega) (by omega) (by simp) (by simp)]
  rfl
def uF (f : α → α → R1 Bool) (z : α) (rec : Unit × List α × List α × Int × Unit → Option ((Unit × Bool × Unit) ⊕ (Unit × Unit))) (v : Unit × List α × List α × Int × Unit) : Option ((Unit × Bool × Unit) ⊕ (Unit × Unit)) :=
  bif decide (v.2.2.2.1 < (v.2.1.length : Int)) then
    bif decide ((0 : Int) ≤ v.2.2.2.1) && decide (v.2.2.2.1 < (v.2.1.length : Int)) then
      bif decide (v.2.2.2.1.toNat < v.2.1.length) then
        bif decide ((0 : Int) ≤ v.2.2.2.1) && decide (v.2.2.2.1 < (v.2.2.1.length : Int)) then
          bif decide (v.2.2.2.1.toNat < v.2.2.1.length) then
            (f (v.2.1.getD v.2.2.2.1.toNat z) (v.2.2.1.getD v.2.2.2.1.toNat z)).bind fun t1 =>
              bif !t1.1.1 then some (Sum.inl ((), false, ()))
              else rec ((), v.2.1, v.2.2.1, Wr .i64 (v.2.2.2.1 + (1 : Int)), ())
          else none
        else none
      else none
    else none
  else some (Sum.inr ((), ()))
def DK (f : α → α → R1 Bool) (z : α) (k : Nat) (x0 x1 : List α) : R1 Bool :=
  bif !decide ((x0.length : Int) = (x1.length : Int)) then some ((false, ()), ())
  else (iter (uF f z) k ((), x0, x1, (0 : Int), ())).bind fun o1 => Sum.elim (fun a2 => some (a2.2, ())) (fun b3 => some ((true, ()), ())) o1
theorem rD {f : α → α → R1 Bool} {z : α} (x : List α) (hl : x.length ≤ 9223372036854775807) (hf : ∀ e ∈ x, f e e = some ((true, ()), ())) : ∀ (n i k : Nat), i + n = x.length → n < k →
    iter (uF f z) k ((), x, x, (i : Int), ()) = some (Sum.inr ((), ()))
  | 0, i, k + 1, hi, _ => by
    rw [bd]; unfold uF
    rw [aK (by simp; omega)]
  | n + 1, i, k + 1, hi, hk => by
    have hlt : i < x.length := by omega
    rw [bd]; unfold uF
    rw [aw (by simp; omega), aw (by simp; omega), aw (by simp; omega), aw (by simp; omega), aw (by simp; omega)]
    simp only [Int.toNat_natCast, hf _ (cb x z i hlt), ai]
    rw [aK (b := !true) rfl, bL (by omega)]
    exact rD x hl hf n (i + 1) k (by omega) (by omega)
theorem sV {f : α → α → R1 Bool} {z : α} (k : Nat) (x : List α) {M : Int} (hx : (x.length : Int) ≤ M) (hk : M < k) (hM : M ≤ 1152921504606846976) (hf : ∀ e ∈ x, f e e = some ((true, ()), ())) : DK f z k x x = some ((true, ()), ()) := by
  unfold DK
  rw [aK (by simp), show (0 : Int) = ((0 : Nat) : Int) from rfl, rD x (by omega) hf x.length 0 k (by omega) (by omega)]
  rfl
end
end
section
abbrev MM : Int := 1048576
def PY {α : Type} (p : α → Prop) (l : List α) : Prop := (List.length l : Int) ≤ MM ∧ ∀ e ∈ l, p e
def Bd : (t : Ty) → den t → Prop
  | .int _, _ => True
  | .bool, _ => True
  | .str, s => (ByteArray.size s : Int) ≤ MM
  | .un, _ => True
  | .pr a b, x => Bd a x.1 ∧ Bd b x.2
  | .sl t, l => PY (Bd t) l
  | .ref t, x => Bd t x
  | .cl _ t, x => Bd t x
section
variable {α β : Type} {f : α → Int → R1 Int} {g : β → Int → R1 Int} {M : Int} {W W' B B' : α → Prop} {W1 B1 : β → Prop}
theorem gg.imp (h : gg M f W B) (hW : ∀ e, W' e → W e) (hB : ∀ e, B e → B' e) : gg M f W' B' := by
  intro e m h1 h2 h3
  obtain ⟨n, g1, g2, g3, g4⟩ := h e m (hW e h1) h2 h3
  exact ⟨n, g1, g2, g3, fun h => hB e (g4 h)⟩
theorem gg.ret : gg M (fun (_ : α) m => some ((m, ()), ())) (fun _ => True) (fun _ => True) := fun e m _ h0 _ => ⟨m, rfl, by omega, Int.le_refl _, fun _ => trivial⟩
theorem gg.bind {p : α → β} (h1 : gg M g W1 B1) (h2 : gg M f W B) :
    gg M (fun e m => (g (p e) m).bind fun t1 => bif decide (t1.1.1 < (0 : Int)) then some (((-1 : Int), ()), ()) else f e t1.1.1) (fun e => W1 (p e) ∧ W e) (fun e => B1 (p e) ∧ B e) := by
  intro e m hW h0 hm
  obtain ⟨n, g1, g2, g3, g4⟩ := h1 (p e) m hW.1 h0 hm
  simp only [g1, ai]
  by_cases h : n < 0
  · exact ⟨-1, by rw [aw (by simpa using h)], by omega, by omega, fun h => by omega⟩
  · obtain ⟨n2, k1, k2, k3, k4⟩ := h2 e n hW.2 (by omega) (by omega)
    refine ⟨n2, by rw [aK (by simpa using h)]; exact k1, k2, by omega, fun h5 => ⟨g4 (by omega), k4 h5⟩⟩
end
theorem mZ {n : Nat} (h : (n : Int) ≤ MM) : n ≤ 1048576 := by have : MM = 1048576 := rfl; omega
def sch {O : Type} (hit : Nat → Option O) (fin : O) : Nat → Nat → O
  | 0, _ => fin
  | m + 1, i => match hit i with | some o => o | none => sch hit fin m (i + 1)
theorem ow {V O : Type} {step : (V → Option O) → V → Option O} {st : Nat → V} {n : Nat} {hit : Nat → Option O} {fin : O} (h1 : ∀ i, i < n → ∀ rec, step rec (st i) = (hit i).elim (rec (st (i + 1))) some) (h2 : ∀ rec, step rec (st n) = some fin) :
    ∀ (m i k : Nat), i + m = n → m < k → iter step k (st i) = some (sch hit fin m i)
  | 0, i, k + 1, hi, _ => by
    have : i = n := by omega
    subst this
    rw [bd, h2]; rfl
  | m + 1, i, k + 1, hi, hk => by
    rw [bd, h1 i (by omega)]
    simp only [sch]
    cases hit i with
    | some o => rfl
    | none => exact ow h1 h2 m (i + 1) k (by omega) (by omega)
theorem SX {O : Type} {hit : Nat → Option O} {fin : O} : ∀ (m i : Nat), (∃ j o, i ≤ j ∧ j < i + m ∧ hit j = some o ∧ sch hit fin m i = o) ∨ ((∀ j, i ≤ j → j < i + m → hit j = none) ∧ sch hit fin m i = fin)
  | 0, i => .inr ⟨fun j h1 h2 => by omega, rfl⟩
  | m + 1, i => by
    simp only [sch]
    cases h : hit i with
    | some o => exact .inl ⟨i, o, by omega, by omega, h, rfl⟩
    | none =>
      rcases SX (hit := hit) (fin := fin) m (i + 1) with ⟨j, o, h1, h2, h3, h4⟩ | ⟨h1, h2⟩
      · exact .inl ⟨j, o, by omega, by omega, h3, h4⟩
      · refine .inr ⟨fun j g1 g2 => ?_, h2⟩
        rcases Nat.lt_or_ge i j with h' | h'
        · exact h1 j (by omega) (by omega)
        · have : j = i := by omega
          rw [this]; exact h
theorem SN {α O : Type} {x : List α} {z : α} {p : α → Bool} {f : Nat → O} {fin : O} : (x.any p = true ∧ ∃ j, j < x.length ∧ sch (fun i => bif p (x.getD i z) then some (f i) else none) fin x.length 0 = f j) ∨ (x.any p = false ∧ sch (fun i => bif p (x.getD i z) then some (f i) else none) fin x.length 0 = fin) := by
  rcases SX (hit := fun i => bif p (x.getD i z) then some (f i) else none) (fin := fin) x.length 0 with ⟨j, o, _, h2, h3, h4⟩ | ⟨h1, h2⟩
  · cases hp : p (x.getD j z) with
    | true =>
      simp only [hp, ag, af] at h3
      exact .inl ⟨List.any_eq_true.2 ⟨_, cb x z j (by omega), hp⟩, j, by omega, by rw [h4, h3]⟩
    | false => simp only [hp, al] at h3; cases h3
  · refine .inr ⟨List.any_eq_false.2 fun a ha => ?_, h2⟩
    obtain ⟨j, hj, rfl⟩ := List.mem_iff_getElem.1 ha
    have := h1 j (by omega) (by omega)
    rw [dT x z j hj] at this
    cases hp : p x[j] with
    | true => simp [hp] at this
    | false => simp
end
theorem lk {V O A : Type} {step : (V → Option O) → V → Option O} {n : Nat} {st : Nat → A → V} {fin : A → O} (I : Nat → A → Prop)
    (h1 : ∀ i a, i < n → I i a → ∃ a', I (i + 1) a' ∧ ∀ rec, step rec (st i a) = rec (st (i + 1) a'))
    (h2 : ∀ a, I n a → ∀ rec, step rec (st n a) = some (fin a)) : ∀ (m i k : Nat) (a : A), i + m = n → m < k → I i a → ∃ a', I n a' ∧ iter step k (st i a) = some (fin a')
  | 0, i, k + 1, a, hi, _, hIa => by
    have : i = n := by omega
    subst this
    exact ⟨a, hIa, by rw [bd, h2 a hIa]⟩
  | m + 1, i, k + 1, a, hi, hk, hIa => by
    obtain ⟨a', q1, q2⟩ := h1 i a (by omega) hIa
    obtain ⟨a2, q3, q4⟩ := lk I h1 h2 m (i + 1) k a' (by omega) (by omega) q1
    exact ⟨a2, q3, by rw [bd, q2]; exact q4⟩
def putB (n : Int) : Nat → List Int
  | 0 => []
  | m + 1 => (n / ((256 ^ m : Nat) : Int)) % 256 :: putB n m
def df (l : List Int) : Int := l.foldl (fun n b => n * 256 + b) 0
theorem aL (n : Int) : ∀ m, (putB n m).length = m
  | 0 => rfl
  | m + 1 => by simp [putB, aL n m]
theorem na (m : Nat) : 0 < ((256 ^ m : Nat) : Int) := by
  have : 0 < 256 ^ m := Nat.pow_pos (by decide)
  omega
theorem aC (n : Int) : ∀ m, ∀ b ∈ putB n m, 0 ≤ b ∧ b ≤ 255
  | 0, b, h => by simp [putB] at h
  | m + 1, b, h => by
    simp only [putB, List.mem_cons] at h
    rcases h with rfl | h
    · omega
    · exact aC n m b h
theorem rE : ∀ (l : List Int) (a : Int), l.foldl (fun n b => n * 256 + b) a = a * ((256 ^ l.length : Nat) : Int) + df l
  | [], a => by simp [df]
  | b :: l, a => by
    unfold df
    simp only [List.foldl_cons, List.length_cons]
    rw [rE l (a * 256 + b), rE l (0 * 256 + b), Nat.pow_succ]
    have : (((256 ^ l.length * 256 : Nat)) : Int) = ((256 ^ l.length : Nat) : Int) * 256 := by simp
    rw [this]
    generalize ((256 ^ l.length : Nat) : Int) = p
    rw [Int.add_mul, Int.add_mul, Int.zero_mul, Int.zero_mul, Int.zero_add, Int.mul_assoc, Int.mul_comm 256 p, Int.add_assoc]
theorem kR (b : Int) (l : List Int) : df (b :: l) = b * ((256 ^ l.length : Nat) : Int) + df l := by
  have := rE l (0 * 256 + b)
  simpa [df] using this
theorem zj : ∀ (a b : List Int), df (a ++ b) = df a * ((256 ^ b.length : Nat) : Int) + df b
  | [], b => by simp [df]
  | x :: a, b => by
    rw [List.cons_append, kR, kR, zj a b, aT, Nat.pow_add]
    have : (((256 ^ a.length * 256 ^ b.length : Nat)) : Int) = ((256 ^ a.length : Nat) : Int) * ((256 ^ b.length : Nat) : Int) := by simp
    rw [this, Int.add_mul, Int.mul_assoc, Int.add_assoc]
theorem xX (n : Int) {p : Int} (hp : 0 < p) : n % (p * 256) = n / p % 256 * p + n % p := by
  have h1 := Int.mul_ediv_add_emod n p
  have h2 := Int.mul_ediv_add_emod (n / p) 256
  have hr0 := Int.emod_nonneg n (show p ≠ 0 by omega)
  have hr1 := Int.emod_lt_of_pos n hp
  have hv : 0 ≤ n / p % 256 ∧ n / p % 256 ≤ 255 := by omega
  generalize n % p = r at *
  generalize hq : n / p = q at *
  generalize q % 256 = v at *
  generalize q / 256 = u at *
  have h3 : n = (v * p + r) + (p * 256) * u := by
    rw [← h1, ← h2, Int.mul_add, ← Int.mul_assoc, Int.mul_comm v p]
    omega
  have h4 : 0 ≤ v * p := Int.mul_nonneg hv.1 (by omega)
  have h5 : v * p ≤ 255 * p := Int.mul_le_mul_of_nonneg_right hv.2 (by omega)
  rw [h3, Int.add_mul_emod_self_left]
  exact Int.emod_eq_of_lt (by omega) (by omega)
theorem zk (n : Int) : ∀ m, df (putB n m) = n % ((256 ^ m : Nat) : Int)
  | 0 => by simp [putB, df]
  | m + 1 => by
    rw [putB, kR, aL, zk n m, Nat.pow_succ]
    have hp := na m
    have e : (((256 ^ m * 256 : Nat)) : Int) = ((256 ^ m : Nat) : Int) * 256 := by simp
    rw [e]
    generalize ((256 ^ m : Nat) : Int) = p at hp ⊢
    exact (xX n hp).symm
theorem nF : ∀ l : List Int, (∀ b ∈ l, 0 ≤ b ∧ b ≤ 255) → 0 ≤ df l ∧ df l < ((256 ^ l.length : Nat) : Int)
  | [], _ => by simp [df]
  | b :: l, h => by
    obtain ⟨h1, h2⟩ := nF l (fun x hx => h x (by simp [hx]))
    have hb := h b (by simp)
    have hp := na l.length
    rw [kR, List.length_cons, Nat.pow_succ]
    have e : (((256 ^ l.length * 256 : Nat)) : Int) = ((256 ^ l.length : Nat) : Int) * 256 := by simp
    rw [e]
    generalize ((256 ^ l.length : Nat) : Int) = p at h2 hp ⊢
    have h3 : 0 ≤ b * p := Int.mul_nonneg hb.1 (by omega)
    have h4 : b * p ≤ 255 * p := Int.mul_le_mul_of_nonneg_right hb.2 (by omega)
    omega
theorem uA : ∀ (l : List Int) , (∀ b ∈ l, 0 ≤ b ∧ b ≤ 255) → putB (df l) l.length = l
  | [], _ => rfl
  | b :: l, h => by
    have hl := fun x hx => h x (List.mem_cons_of_mem _ hx)
    have ih := uA l hl
    obtain ⟨h1, h2⟩ := nF l hl
    have hb := h b (by simp)
    have hp := na l.length
    rw [List.length_cons, putB, kR]
    have hq : ∀ m ≤ l.length, putB (b * ((256 ^ l.length : Nat) : Int) + df l) m = putB (df l) m := by
      intro m
      induction m with
      | zero => intro _; rfl
      | succ m ihm =>
        intro hm
        simp only [putB]
        rw [ihm (by omega)]
        congr 1
        have e : ((256 ^ l.length : Nat) : Int) = (((256 ^ (l.length - m - 1) : Nat) : Int) * 256) * ((256 ^ m : Nat) : Int) := by
          have : 256 ^ l.length = 256 ^ (l.length - m - 1) * 256 * 256 ^ m := by
            rw [← Nat.pow_succ, ← Nat.pow_add]; congr 1; omega
          rw [this]; simp
        have hpm := na m
        rw [e, ← Int.mul_assoc, ← Int.mul_assoc, Int.add_comm, Int.add_mul_ediv_right _ _ (by omega)]
        omega
    rw [hq _ (Nat.le_refl _), ih]
    congr 1
    rw [Int.add_comm, Int.add_mul_ediv_right _ _ (by omega), Int.ediv_eq_zero_of_lt h1 h2]
    omega
theorem xP {m : Nat} {n : Int} (h : 0 ≤ n ∧ n < ((256 ^ m : Nat) : Int)) : df (putB n m) = n := by rw [zk, Int.emod_eq_of_lt h.1 h.2]
section
theorem rF {O : Type} {fin : O} : ∀ (m i : Nat), sch (fun _ => (none : Option O)) fin m i = fin
  | 0, _ => rfl
  | m + 1, i => rF m (i + 1)
theorem Tb {α : Type} : ∀ (l : List α) (i : Nat) (e z : α), i < l.length → (l.set i e).getD i z = e
  | [], i, e, z, h => by simp at h
  | x :: l, 0, e, z, h => rfl
  | x :: l, i + 1, e, z, h => by
    simp only [List.set_cons_succ, List.getD_cons_succ]
    exact Tb l i e z (by simpa using h)
def markF {α : Type} (E : Int → α) (c : Nat) : Nat → Int → List α
  | 0, _ => []
  | n + 1, m => E m :: markF E c n (m + (c : Int))
theorem lQ {α : Type} (E : Int → α) (c : Nat) : ∀ n m, (markF E c n m).length = n
  | 0, _ => rfl
  | n + 1, m => by simp [markF, lQ E c n]
theorem te {α : Type} (E : Int → α) (c : Nat) (z : α) : ∀ n m i, i < n → (markF E c n m).getD i z = E (m + ((c * i : Nat) : Int))
  | 0, _, _, h => by omega
  | n + 1, m, 0, _ => by simp [markF]
  | n + 1, m, i + 1, h => by
    simp only [markF, List.getD_cons_succ]
    rw [te E c z n _ i (by omega)]
    congr 1
    rw [Nat.mul_succ]; omega
theorem rG {α : Type} (E : Int → α) (c : Nat) : ∀ n m, markF E c (n + 1) m = markF E c n m ++ [E (m + ((c * n : Nat) : Int))]
  | 0, m => by simp [markF]
  | n + 1, m => by
    rw [markF, rG E c n]
    simp only [markF, List.cons_append, List.cons.injEq, true_and]
    have : m + (c : Int) + ((c * n : Nat) : Int) = m + ((c * (n + 1) : Nat) : Int) := by rw [Nat.mul_succ]; omega
    rw [this]
theorem ry {α : Type} : ∀ (P : List α) (x e : α) (r : List α) (n : Nat), n = P.length → (P ++ x :: r).set n e = P ++ e :: r
  | [], x, e, r, n, h => by subst h; rfl
  | p :: P, x, e, r, n, h => by
    subst h
    simp only [List.cons_append, List.length_cons, List.set_cons_succ]
    rw [ry P x e r P.length rfl]
section
variable {α : Type} {E : Int → α} {c : Nat} {z : α}
theorem DD {step : (((List α × Unit) × (Unit × (Int × (Int × Unit)))) → Option ((List α × Unit) × (Int × Unit))) → ((List α × Unit) × (Unit × (Int × (Int × Unit)))) → Option ((List α × Unit) × (Int × Unit))} (z : α)
    (h1 : ∀ (L : List α) (m : Int) (i : Nat) rec, i < L.length → L.length ≤ 1048576 → 0 ≤ m → m ≤ 4398046511104 → step rec ((L, ()), (), m, (i : Int), ()) = rec ((L.set i (E m), ()), (), m + (c : Int), ((i + 1 : Nat) : Int), ()))
    (h2 : ∀ (L : List α) (m : Int) rec, step rec ((L, ()), (), m, (L.length : Int), ()) = some ((L, ()), m, ()))
    {k : Nat} (hk : MM < k) {L : List α} (hL : L.length ≤ 1048576) {m : Int} (h0 : 0 ≤ m) (hm : m + ((c * L.length : Nat) : Int) ≤ 4398046511104) :
    iter step k ((L, ()), (), m, (0 : Int), ()) = some ((markF E c L.length m, ()), m + ((c * L.length : Nat) : Int), ()) := by
  have hM : MM = 1048576 := rfl
  have run := ow (step := step) (st := fun i => ((markF E c i m ++ L.drop i, ()), (), m + ((c * i : Nat) : Int), (i : Int), ())) (n := L.length) (hit := fun i => none) (fin := ((markF E c L.length m, ()), m + ((c * L.length : Nat) : Int), ())) (fun i hi rec => by
      have hlen : (markF E c i m ++ L.drop i).length = L.length := by simp [lQ]; omega
      have hci : ((c * i : Nat) : Int) ≤ ((c * L.length : Nat) : Int) := by
        have := Nat.mul_le_mul_left c (Nat.le_of_lt hi)
        omega
      have hs := h1 (markF E c i m ++ L.drop i) (m + ((c * i : Nat) : Int)) i rec (by omega) (by omega) (by omega) (by omega)
      rw [hs]
      show rec _ = rec _
      congr 2
      · rw [gM L z i hi, ry _ _ _ _ _ (lQ E c i m).symm, rG]; simp
      · have : m + ((c * i : Nat) : Int) + (c : Int) = m + ((c * (i + 1) : Nat) : Int) := by rw [Nat.mul_succ]; omega
        rw [this]) (fun rec => by
      have hs := h2 (markF E c L.length m) (m + ((c * L.length : Nat) : Int)) rec
      rw [lQ] at hs
      simp only [List.drop_length, List.append_nil]
      exact hs) L.length 0 k (by omega) (by omega)
  rw [rF] at run
  simpa [markF] using run
theorem DE {step : ((Unit × (List α × (Int × (Int × Unit)))) → Option ((Unit × (Int × Unit)) ⊕ (Unit × (Int × Unit)))) → (Unit × (List α × (Int × (Int × Unit)))) → Option ((Unit × (Int × Unit)) ⊕ (Unit × (Int × Unit)))} (z : α)
    (h1 : ∀ (L : List α) (m : Int) (i : Nat) rec, i < L.length → L.length ≤ 1048576 → 0 ≤ m → m ≤ 4398046511104 → L.getD i z = E m → step rec ((), L, m, (i : Int), ()) = rec ((), L, m + (c : Int), ((i + 1 : Nat) : Int), ()))
    (h2 : ∀ (L : List α) (m : Int) rec, step rec ((), L, m, (L.length : Int), ()) = some (Sum.inr ((), m, ())))
    {k : Nat} (hk : MM < k) {n : Nat} (hn : n ≤ 1048576) {m : Int} (h0 : 0 ≤ m) (hm : m + ((c * n : Nat) : Int) ≤ 4398046511104) :
    iter step k ((), markF E c n m, m, (0 : Int), ()) = some (Sum.inr ((), m + ((c * n : Nat) : Int), ())) := by
  have hM : MM = 1048576 := rfl
  have hl := lQ E c n m
  have run := ow (step := step) (st := fun i => ((), markF E c n m, m + ((c * i : Nat) : Int), (i : Int), ())) (n := n) (hit := fun i => none) (fin := Sum.inr ((), m + ((c * n : Nat) : Int), ())) (fun i hi rec => by
      have hci : ((c * i : Nat) : Int) ≤ ((c * n : Nat) : Int) := by
        have := Nat.mul_le_mul_left c (Nat.le_of_lt hi)
        omega
      rw [h1 (markF E c n m) (m + ((c * i : Nat) : Int)) i rec (by omega) (by omega) (by omega) (by omega) (te E c z n m i hi)]
      have : m + ((c * i : Nat) : Int) + (c : Int) = m + ((c * (i + 1) : Nat) : Int) := by rw [Nat.mul_succ]; omega
      rw [this]; rfl) (fun rec => by
      have hs := h2 (markF E c n m) (m + ((c * n : Nat) : Int)) rec
      rw [hl] at hs
      exact hs) n 0 k (by omega) (by omega)
  rw [rF] at run
  simpa using run
end
end
end Go.Tw
