/- Plain facts on the mirrors of the functions are proved here. -/
import Derived.Test.YtmjacadeccoclaaPl0
set_option linter.all false
namespace Go.Tw
open Go Go.RowKit

def one (n : Int) : Bool := decide (1 ≤ n) && decide (n ≤ 1000)
def nC (e : D_Job) : Bool := decide (e.2.1.1 = 0) && (decide (e.2.1.2.1 = 0) && one e.2.1.2.2.1)
def nB (e : D_Job) : Bool := decide (e.2.1.1 = 0) && (one e.2.1.2.1 && one e.2.1.2.2.1)
def nA (e : D_Job) : Bool := one e.2.1.1 && (one e.2.1.2.1 && one e.2.1.2.2.1)
def idOk (e : D_Job) : Bool := decide (0 ≤ e.1) && decide (e.1 ≤ 1000000000000)
def dupAt (l : List D_Job) (i : Nat) : Bool := anyN (fun j => decide ((l.getD j z_Job).1 = (l.getD i z_Job).1)) i 0
/-- by where it stands: the specification's list begins with the last stage -/
def needS (nc nb i : Nat) (e : D_Job) : Bool := bif decide (nc ≤ i) then (bif decide (nc + nb ≤ i) then nA e else nB e) else nC e
def okS (nc nb : Nat) (l : List D_Job) (i : Nat) : Bool := idOk (l.getD i z_Job) && (!dupAt l i && needS nc nb i (l.getD i z_Job))

theorem inner_run (k : Nat) (hk : MM < k) (x : D_Line) (l : List D_Job) (hl : l.length ≤ 1048576) (i : Nat) (hi : i < l.length) :
    iter spec_LineOk_s12 k ((), x, l, (i : Int), (0 : Int), ()) = some (bif dupAt l i then Sum.inl ((), false, ()) else Sum.inr ((), x, l, (i : Int), ())) := by
  have hM : MM = 1048576 := rfl
  have run := search_run (step := spec_LineOk_s12) (st := fun j => ((), x, l, (i : Int), (j : Int), ())) (n := i) (hit := fun j => bif decide ((l.getD j z_Job).1 = (l.getD i z_Job).1) then some (Sum.inl ((), false, ())) else none) (fin := Sum.inr ((), x, l, (i : Int), ())) (fun j hj rec => by
      unfold spec_LineOk_s12
      rw [bif_t (by simp; omega), bif_t (by simp; omega), bif_t (by simp; omega), bif_t (by simp; omega), bif_t (by simp; omega)]
      rw [w64 (n := (j : Int) + 1) (by omega)]
      show (bif decide ((l.getD j z_Job).1 = (l.getD i z_Job).1) then _ else _) = _
      generalize decide ((l.getD j z_Job).1 = (l.getD i z_Job).1) = b
      cases b <;> rfl) (fun rec => by
      unfold spec_LineOk_s12
      rw [bif_f (by simp)]) i 0 k (by omega) (by omega)
  rw [show iter spec_LineOk_s12 k ((), x, l, (i : Int), (0 : Int), ()) = _ from run, sch_bool (p := fun j => decide ((l.getD j z_Job).1 = (l.getD i z_Job).1))]
  unfold dupAt
  cases anyN (fun j => decide ((l.getD j z_Job).1 = (l.getD i z_Job).1)) i 0 <;> rfl

theorem natLe (a b : Nat) : decide ((a : Int) ≤ (b : Int)) = decide (a ≤ b) := by simp
theorem specLine_run (k : Nat) (hk : MM < k) (x : D_Line) (hx : x.2.1.length ≤ 1048576 ∧ x.2.2.1.length ≤ 1048576 ∧ x.2.2.2.1.length ≤ 1048576) (l : List D_Job) (hl : l.length ≤ 1048576) :
    iter (spec_LineOk_s7 k) k ((), x, l, (0 : Int), ()) = some (bif anyN (fun i => !okS x.2.2.2.1.length x.2.2.1.length l i) l.length 0 then Sum.inl ((), false, ()) else Sum.inr ((), ())) := by
  have hM : MM = 1048576 := rfl
  have run := search_run (step := spec_LineOk_s7 k) (st := fun i => ((), x, l, (i : Int), ())) (n := l.length) (hit := fun i => bif !okS x.2.2.2.1.length x.2.2.1.length l i then some (Sum.inl ((), false, ())) else none) (fin := Sum.inr ((), ())) (fun i hi rec => by
      have hin := inner_run k hk x l hl i hi
      unfold spec_LineOk_s7
      rw [bif_t (by simp; omega), bif_t (by simp; omega), bif_t (by simp; omega)]
      have e1 : (bif (decide ((0 : Int) ≤ (i : Int))) && (decide ((i : Int) < ((l.length : Nat) : Int))) then true else false) = true := by simp; omega
      rw [show iter spec_LineOk_s12 k ((), x, l, (i : Int), (0 : Int), ()) = _ from hin]
      have hwi : IntKind.wrap .i64 ((i : Int) + 1) = ((i + 1 : Nat) : Int) := w64 (by omega)
      have hwc : IntKind.wrap .i64 (((x.2.2.2.1.length : Nat) : Int) + ((x.2.2.1.length : Nat) : Int)) = ((x.2.2.2.1.length + x.2.2.1.length : Nat) : Int) := by rw [w64 (by omega)]; omega
      have hb1 : ((decide ((0 : Int) ≤ (i : Int))) && (decide ((i : Int) < ((l.length : Nat) : Int)))) = true := by simp; omega
      have hb2 : decide ((i : Int).toNat < l.length) = true := by simp; omega
      simp only [hb1, hb2, cond_true, Option.bind_some]
      unfold okS idOk
      obtain ⟨e, he⟩ : ∃ e, e = l.getD (i : Int).toNat z_Job := ⟨_, rfl⟩
      have he' : e = l.getD i z_Job := he
      rw [← he, ← he']
      cases h1 : decide (0 ≤ e.1) with
      | false => simp only [leN, h1]; rfl
      | true =>
        cases h2 : decide (e.1 ≤ 1000000000000) with
        | false => simp only [leN, h1, h2]; rfl
        | true =>
          simp only [leN, h1, h2, Bool.not_true, Bool.not_false, cond_true, cond_false]
          cases h3 : dupAt l i with
          | true => rfl
          | false =>
            simp only [cond_false, Sum.elim_inr, hb1, hwi, hwc, natLe]
            rw [show (decide ((0 : Int) ≤ (i : Int)) && !decide (l.length ≤ i)) = true by simp; omega]
            simp only [hb2, cond_true]
            rw [← he]
            unfold needS nA nB nC one
            cases h4 : decide (x.2.2.2.1.length ≤ i) with
            | false =>
              simp only [Bool.not_false, cond_true, cond_false]
              generalize decide (e.2.1.1 = 0) = b1
              generalize decide (e.2.1.2.1 = 0) = b2
              generalize decide (1 ≤ e.2.1.2.2.1) = b3
              generalize decide (e.2.1.2.2.1 ≤ 1000) = b4
              cases b1 <;> cases b2 <;> cases b3 <;> cases b4 <;> rfl
            | true =>
              cases h5 : decide (x.2.2.2.1.length + x.2.2.1.length ≤ i) with
              | false =>
                simp only [Bool.not_false, Bool.not_true, cond_true, cond_false]
                generalize decide (e.2.1.1 = 0) = b1
                generalize decide (1 ≤ e.2.1.2.1) = b2
                generalize decide (e.2.1.2.1 ≤ 1000) = b3
                generalize decide (1 ≤ e.2.1.2.2.1) = b4
                generalize decide (e.2.1.2.2.1 ≤ 1000) = b5
                cases b1 <;> cases b2 <;> cases b3 <;> cases b4 <;> cases b5 <;> rfl
              | true =>
                simp only [Bool.not_false, Bool.not_true, cond_true, cond_false]
                generalize decide (1 ≤ e.2.1.1) = b1
                generalize decide (e.2.1.1 ≤ 1000) = b0
                generalize decide (1 ≤ e.2.1.2.1) = b2
                generalize decide (e.2.1.2.1 ≤ 1000) = b3
                generalize decide (1 ≤ e.2.1.2.2.1) = b4
                generalize decide (e.2.1.2.2.1 ≤ 1000) = b5
                cases b0 <;> cases b1 <;> cases b2 <;> cases b3 <;> cases b4 <;> cases b5 <;> rfl) (fun rec => by
      unfold spec_LineOk_s7
      rw [bif_f (by simp)]) l.length 0 k (by omega) (by omega)
  rw [show iter (spec_LineOk_s7 k) k ((), x, l, (0 : Int), ()) = _ from run, sch_bool (p := fun i => !okS x.2.2.2.1.length x.2.2.1.length l i)]
abbrev fits (x : D_Line) : Prop := x.2.1.length ≤ 1048576 ∧ x.2.2.1.length ≤ 1048576 ∧ x.2.2.2.1.length ≤ 1048576
def capB (x : D_Line) : Bool := (decide (1 ≤ x.1) && decide (x.1 ≤ 16)) && decide (((x.2.1.length + x.2.2.1.length + x.2.2.2.1.length : Nat) : Int) ≤ x.1)
def lineS (x : D_Line) : Bool := capB x && !anyN (fun i => !okS x.2.2.2.1.length x.2.2.1.length ((x.2.2.2.1 ++ x.2.2.1) ++ x.2.1) i) ((x.2.2.2.1 ++ x.2.2.1) ++ x.2.1).length 0
theorem specOk_eq (k : Nat) (hk : MM < k) (x : D_Line) (hx : fits x) : spec_LineOk k x = some ((lineS x, ()), ()) := by
  unfold spec_LineOk lineS capB
  rw [all_eq x hx]
  simp only [Option.bind_some]
  by_cases h1 : 1 ≤ x.1
  · by_cases h2 : x.1 ≤ 16
    · rw [bif_t (by simp; omega), bif_t (by simp; omega)]
      by_cases h3 : ((x.2.1.length + x.2.2.1.length + x.2.2.2.1.length : Nat) : Int) ≤ x.1
      · rw [bif_t (by simp; omega), bif_t (by simp; omega), bif_f (by simp; omega), bif_f (by simp; omega)]
        rw [specLine_run k hk x hx _ (by simp; omega)]
        rw [show decide (((x.2.1.length + x.2.2.1.length + x.2.2.2.1.length : Nat) : Int) ≤ x.1) = true by simpa using h3, show decide (1 ≤ x.1) = true by simpa using h1, show decide (x.1 ≤ 16) = true by simpa using h2]
        cases anyN (fun i => !okS x.2.2.2.1.length x.2.2.1.length ((x.2.2.2.1 ++ x.2.2.1) ++ x.2.1) i) ((x.2.2.2.1 ++ x.2.2.1) ++ x.2.1).length 0 <;> rfl
      · rw [show decide (((x.2.1.length + x.2.2.1.length + x.2.2.2.1.length : Nat) : Int) ≤ x.1) = false by simpa using h3]
        simp only [Bool.and_false, Bool.false_and]
        have h4 : decide (x.1 < (((x.2.2.2.1 ++ x.2.2.1 ++ x.2.1).length : Nat) : Int)) = true := by simp; omega
        rw [h4]
        simp only [cond_true]
        cases decide (x.1 < ((x.2.1.length : Nat) : Int)) <;> cases decide (x.1 < ((x.2.2.1.length : Nat) : Int)) <;> cases decide (x.1 < ((x.2.2.2.1.length : Nat) : Int)) <;> rfl
    · rw [show decide (x.1 ≤ 16) = false by simpa using h2, bif_t (by simp; omega), bif_f (by simp; omega)]
      simp
  · rw [show decide (1 ≤ x.1) = false by simpa using h1, bif_f (by simp; omega)]
    simp

/-! the implementation's -/
def seenN (l : List D_Job) : Nat → List (Int × Bool)
  | 0 => []
  | i + 1 => mset (seenN l i) (l.getD i z_Job).1 true
theorem mget_mset : ∀ (l : List (Int × Bool)) (a b : Int) (q : Bool), mget (mset l a q) b = bif decide (b = a) then q else mget l b
  | [], a, b, q => by simp only [mset, mget]
  | p :: l, a, b, q => by
    simp only [mset, mget]
    by_cases h1 : a = p.1
    · simp only [h1, decide_true, cond_true, mget]
      by_cases h2 : b = p.1 <;> simp [h2]
    · simp only [h1, decide_false, cond_false, mget, mget_mset l a b q]
      by_cases h2 : b = p.1
      · simp [h2, Ne.symm h1]
      · simp [h2]
theorem seen_iff (l : List D_Job) (a : Int) : ∀ i, mget (seenN l i) a = true ↔ ∃ j, j < i ∧ (l.getD j z_Job).1 = a
  | 0 => by simp [seenN, mget]
  | i + 1 => by
    simp only [seenN, mget_mset]
    by_cases h : a = (l.getD i z_Job).1
    · rw [show decide (a = (l.getD i z_Job).1) = true by simpa using h]
      simp only [cond_true, true_iff]
      exact ⟨i, by omega, h.symm⟩
    · rw [show decide (a = (l.getD i z_Job).1) = false by simpa using h]
      simp only [cond_false, seen_iff l a i]
      constructor
      · rintro ⟨j, h1, h2⟩; exact ⟨j, by omega, h2⟩
      · rintro ⟨j, h1, h2⟩
        by_cases hj : j = i
        · subst hj; exact absurd h2.symm h
        · exact ⟨j, by omega, h2⟩
theorem seen_eq (l : List D_Job) (i : Nat) : mget (seenN l i) (l.getD i z_Job).1 = dupAt l i := by
  rw [Bool.eq_iff_iff, seen_iff, dupAt, anyN_iff]
  simp
def needI (na nb i : Nat) (e : D_Job) : Bool := bif decide (na + nb ≤ i) then nC e else (bif decide (na ≤ i) then nB e else nA e)
def okI (na nb : Nat) (l : List D_Job) (i : Nat) : Bool := needI na nb i (l.getD i z_Job) && (idOk (l.getD i z_Job) && !dupAt l i)
theorem within_eq (x a b : Int) : impl_within x a b = some (((decide (a ≤ x) && decide (x ≤ b)), ()), ()) := by
  unfold impl_within
  cases decide (a ≤ x) <;> rfl
theorem isNeed_eq (n : Int) : impl_isNeed n = some ((one n, ()), ()) := by
  unfold impl_isNeed one
  simp only [within_eq, Option.bind_some]
theorem costOk_eq (e : D_Job) : impl_CostOk e.2.1 = some ((nA e, ()), ()) := by
  unfold impl_CostOk impl_Vec_isFrom nA one
  simp only [within_eq, Option.bind_some]
  cases (decide (1 ≤ e.2.1.1) && decide (e.2.1.1 ≤ 1000)) <;> cases (decide (1 ≤ e.2.1.2.1) && decide (e.2.1.2.1 ≤ 1000)) <;> rfl
theorem implLine_run (k : Nat) (hk : MM < k) (x : D_Line) (hx : fits x) (l : List D_Job) (hl : l.length ≤ 1048576) :
    iter impl_LineOk_s5 k ((), x, ([] : List (Int × Bool)), l, ((l.length : Nat) : Int), (0 : Int), ()) = some (bif anyN (fun i => !okI x.2.1.length x.2.2.1.length l i) l.length 0 then Sum.inl ((), false, ()) else Sum.inr ((), ())) := by
  have hM : MM = 1048576 := rfl
  obtain ⟨hx1, hx2, hx3⟩ := hx
  have run := search_run (step := impl_LineOk_s5) (st := fun i => ((), x, seenN l i, l, ((l.length : Nat) : Int), (i : Int), ())) (n := l.length) (hit := fun i => bif !okI x.2.1.length x.2.2.1.length l i then some (Sum.inl ((), false, ())) else none) (fin := Sum.inr ((), ())) (fun i hi rec => by
      unfold impl_LineOk_s5
      rw [bif_t (by simp; omega), bif_t (by simp; omega), bif_t (by simp; omega)]
      have hwi : IntKind.wrap .i64 ((i : Int) + 1) = ((i + 1 : Nat) : Int) := w64 (by omega)
      have hwc : IntKind.wrap .i64 (((x.2.1.length : Nat) : Int) + ((x.2.2.1.length : Nat) : Int)) = ((x.2.1.length + x.2.2.1.length : Nat) : Int) := by rw [w64 (by omega)]; omega
      rw [hwi, hwc]
      simp only [costOk_eq, isNeed_eq, within_eq, Option.bind_some, natLe]
      have hs := seen_eq l i
      have hs2 : mset (seenN l i) (l.getD i z_Job).1 true = seenN l (i + 1) := rfl
      unfold okI needI idOk
      rw [← hs]
      obtain ⟨e, he⟩ : ∃ e, e = l.getD (i : Int).toNat z_Job := ⟨_, rfl⟩
      have he' : e = l.getD i z_Job := he
      rw [← he'] at hs2
      rw [← he, ← he', hs2]
      generalize (decide (0 ≤ e.1) && decide (e.1 ≤ 1000000000000)) = b1
      generalize mget (seenN l i) e.1 = b2
      unfold nC nB nA
      cases h4 : decide (x.2.1.length + x.2.2.1.length ≤ i) with
      | true =>
        simp only [cond_true]
        generalize decide (e.2.1.1 = 0) = b3
        generalize decide (e.2.1.2.1 = 0) = b4
        generalize one e.2.1.2.2.1 = b5
        cases b1 <;> cases b2 <;> cases b3 <;> cases b4 <;> cases b5 <;> rfl
      | false =>
        simp only [cond_false]
        cases h5 : decide (x.2.1.length ≤ i) with
        | true =>
          simp only [cond_true]
          generalize decide (e.2.1.1 = 0) = b3
          generalize one e.2.1.2.1 = b4
          generalize one e.2.1.2.2.1 = b5
          cases b1 <;> cases b2 <;> cases b3 <;> cases b4 <;> cases b5 <;> rfl
        | false =>
          simp only [cond_false]
          generalize one e.2.1.1 = b3
          generalize one e.2.1.2.1 = b4
          generalize one e.2.1.2.2.1 = b5
          cases b1 <;> cases b2 <;> cases b3 <;> cases b4 <;> cases b5 <;> rfl) (fun rec => by
      unfold impl_LineOk_s5
      rw [bif_f (by simp)]) l.length 0 k (by omega) (by omega)
  rw [show iter impl_LineOk_s5 k ((), x, ([] : List (Int × Bool)), l, ((l.length : Nat) : Int), (0 : Int), ()) = _ from run, sch_bool (p := fun i => !okI x.2.1.length x.2.2.1.length l i)]
def lineI (x : D_Line) : Bool := capB x && !anyN (fun i => !okI x.2.1.length x.2.2.1.length ((x.2.1 ++ x.2.2.1) ++ x.2.2.2.1) i) ((x.2.1 ++ x.2.2.1) ++ x.2.2.2.1).length 0
theorem implOk_eq (k : Nat) (hk : MM < k) (x : D_Line) (hx : fits x) : impl_LineOk k x = some ((lineI x, ()), ()) := by
  unfold impl_LineOk lineI capB
  simp only [within_eq, Option.bind_some, jobs_eq k hk x hx]
  cases h1 : (decide (1 ≤ x.1) && decide (x.1 ≤ 16)) with
  | false => rfl
  | true =>
    simp only [Bool.and_eq_true, decide_eq_true_eq] at h1
    simp only [Bool.not_true, Bool.not_false, cond_true, Bool.true_and]
    by_cases h3 : ((x.2.1.length + x.2.2.1.length + x.2.2.2.1.length : Nat) : Int) ≤ x.1
    · rw [bif_f (by simp; omega), implLine_run k hk x hx _ (by simp; omega)]
      rw [show decide (((x.2.1.length + x.2.2.1.length + x.2.2.2.1.length : Nat) : Int) ≤ x.1) = true by simpa using h3]
      cases anyN (fun i => !okI x.2.1.length x.2.2.1.length ((x.2.1 ++ x.2.2.1) ++ x.2.2.2.1) i) ((x.2.1 ++ x.2.2.1) ++ x.2.2.2.1).length 0 <;> rfl
    · rw [show decide (((x.2.1.length + x.2.2.1.length + x.2.2.2.1.length : Nat) : Int) ≤ x.1) = false by simpa using h3, bif_t (by simp; omega)]
      rfl
end Go.Tw
