/- Plain facts on the mirrors of the functions are proved here. -/
import Derived.Test.YtaigepmndpefgaaPf1
import Derived.Test.YtaigepmndpefgaaPe2
set_option linter.all false
namespace Go.Tw
open Go Go.RowKit

theorem hkM {k : Nat} (hk : MM < k) : M0 < k := hk
theorem posF_lt : ∀ (x : List D_Event) (i m a : Int), posF x i m = some a → i ≤ a ∧ a < i + x.length
  | [], i, m, a, h => by simp [posF] at h
  | e :: l, i, m, a, h => by
    simp only [posF] at h
    simp only [List.length_cons]
    split at h
    · split at h
      · simp only [Option.some.injEq] at h; omega
      · have := posF_lt l _ _ _ h; omega
    · have := posF_lt l _ _ _ h; omega
def fAt (x : List D_Event) (m : Int) : Int := (posF x 0 m).getD (-1)
theorem fAt_lt (x : List D_Event) (m : Int) : -1 ≤ fAt x m ∧ (0 ≤ fAt x m → fAt x m < x.length) := by
  unfold fAt
  cases h : posF x 0 m with
  | none => simp
  | some a => have := posF_lt x 0 m a h; simp only [Option.getD_some]; omega
theorem specAt_eq (k : Nat) (hk : MM < k) (x : List D_Event) (hl : (x.length : Int) ≤ MM) (m : Int) : spec_l24Frame k x m = some ((fAt x m, ()), ()) := by
  have hM : MM = 1048576 := rfl
  unfold spec_l24Frame fAt
  have := specF_run x hl m x.length 0 k (-1) (by omega) (by omega) (by omega) (by omega)
  rw [show m - ((-1) + 1) = m by omega] at this
  rw [show iter spec_l24Frame_s3 k ((), x, m, (-1 : Int), (0 : Int), ()) = _ from this, List.drop_zero]
  simp only [Option.bind_some]
  cases posF x ((0 : Nat) : Int) m <;> rfl
theorem implAt_eq (k : Nat) (hk : MM < k) (x : List D_Event) (hl : (x.length : Int) ≤ MM) (m : Int) (hm : inR .i64 m) : impl_frameAt k x m = some ((fAt x m, ()), ()) := by
  have hM : MM = 1048576 := rfl
  have hm : -9223372036854775808 ≤ m ∧ m ≤ 9223372036854775807 := hm
  unfold impl_frameAt fAt
  have := implF_run x hl x.length 0 k m (by omega) (by omega) (by omega) (by omega)
  rw [w64 hm] at this
  rw [show iter impl_frameAt_s2 k ((), m, x, (((List.length x) : Nat) : Int), (0 : Int), ()) = _ from this, List.drop_zero]
  simp only [Option.bind_some]
  cases posF x ((0 : Nat) : Int) m <;> rfl

def served (d : D_Dealt) (o : D_Out) : Bool := decide (o.2.1 = d.1) && (decide (o.1 = 1) || (decide (o.1 = 2) && (decide (o.2.2.1 = 8) || decide (o.2.2.1 = 9))))
theorem spent1_eq (o : D_Out) (d : D_Dealt) : impl_Spent_1 o d = some ((served d o, ()), ()) := by
  unfold impl_Spent_1 impl_isServed served
  generalize decide (o.2.1 = d.1) = b1
  generalize decide (o.1 = 1) = b2
  generalize decide (o.1 = 2) = b3
  generalize decide (o.2.2.1 = 8) = b4
  generalize decide (o.2.2.1 = 9) = b5
  cases b1 <;> cases b2 <;> cases b3 <;> cases b4 <;> cases b5 <;> rfl
theorem containsS_eq (k : Nat) (hk : MM < k) (x : List D_Out) (hx : (x.length : Int) ≤ MM) (d : D_Dealt) : slices_ContainsFunc_impl_Out_impl_Out k x (d, ()) = some ((x.any (served d), ()), ()) := by
  have hM : MM = 1048576 := rfl
  have run := search_run (step := slices_IndexFunc_impl_Out_impl_Out_s2) (st := fun i => ((), x, (d, ()), (((List.length x) : Nat) : Int), (i : Int), ())) (n := x.length) (hit := fun i => bif served d (x.getD i z_Out) then some (Sum.inl ((), (i : Int), ())) else none) (fin := Sum.inr ((), ())) (fun i hi rec => by
      unfold slices_IndexFunc_impl_Out_impl_Out_s2
      rw [bif_t (by simp; omega), bif_t (by simp; omega), bif_t (by simp; omega)]
      simp only [Int.toNat_natCast, spent1_eq, Option.bind_some]
      rw [w64 (by omega)]
      cases served d (x.getD i z_Out) <;> rfl) (fun rec => by
      unfold slices_IndexFunc_impl_Out_impl_Out_s2
      rw [bif_f (by simp)]) x.length 0 k (by omega) (by omega)
  unfold slices_ContainsFunc_impl_Out_impl_Out slices_IndexFunc_impl_Out_impl_Out
  rw [show iter slices_IndexFunc_impl_Out_impl_Out_s2 k ((), x, (d, ()), (((List.length x) : Nat) : Int), (0 : Int), ()) = _ from run]
  rcases sch_any (x := x) (z := z_Out) (p := served d) (f := fun i => (Sum.inl ((), (i : Int), ()) : (Unit × (Int × Unit)) ⊕ (Unit × Unit))) (fin := Sum.inr ((), ())) with ⟨h1, j, _, h2⟩ | ⟨h1, h2⟩
  · rw [h2, h1]; simp
  · rw [h2, h1]; simp
theorem any_fold {α : Type} (p : α → Bool) : ∀ (x : List α) (b : Bool), x.foldl (fun a e => a || p e) b = (b || x.any p)
  | [], b => by simp
  | e :: x, b => by simp only [List.foldl_cons, any_fold p x, List.any_cons, Bool.or_assoc]
theorem spent14_eq (k : Nat) (hk : MM < k) (l : List D_Event) (x : List D_Out) (hx : (x.length : Int) ≤ MM) (ds : List D_Dealt) (t s : Int) (a b c e : D_Vec) (i : Int) (d : D_Dealt) :
    iter spec_Spent_s14 k ((), l, x, ds, t, s, a, b, c, e, i, d, false, (0 : Int), ()) = some ((), l, x, ds, t, s, a, b, c, e, i, d, x.any (served d), ()) := by
  have hM : MM = 1048576 := rfl
  have run := fold_run (step := spec_Spent_s14) (st := fun j q => ((), l, x, ds, t, s, a, b, c, e, i, d, q, (j : Int), ())) (n := x.length) (f := fun j q => q || served d (x.getD j z_Out)) (fin := fun q => ((), l, x, ds, t, s, a, b, c, e, i, d, q, ())) (fun _ => True) (fun _ _ _ _ => trivial) (fun j q hj _ rec => by
      unfold spec_Spent_s14
      rw [bif_t (by simp; omega), bif_t (by simp; omega), bif_t (by simp; omega)]
      simp only [Int.toNat_natCast]
      rw [w64 (by omega)]
      unfold served
      generalize decide ((x.getD j z_Out).2.1 = d.1) = b1
      generalize decide ((x.getD j z_Out).1 = 1) = b2
      generalize decide ((x.getD j z_Out).1 = 2) = b3
      generalize decide ((x.getD j z_Out).2.2.1 = 8) = b4
      generalize decide ((x.getD j z_Out).2.2.1 = 9) = b5
      cases q <;> cases b1 <;> cases b2 <;> cases b3 <;> cases b4 <;> cases b5 <;> rfl) (fun q _ rec => by
      unfold spec_Spent_s14
      rw [bif_f (by simp)]) x.length 0 k false (by omega) (by omega) trivial
  rw [show iter spec_Spent_s14 k ((), l, x, ds, t, s, a, b, c, e, i, d, false, (0 : Int), ()) = _ from run]
  rw [foldN_list (g := fun o q => q || served d o) x.length 0 false (by omega), List.drop_zero, any_fold, Bool.false_or]
def clipA (a : Int) : Int := if a < 1 then 1 else if 1000 < a then 1000 else a
theorem specClip_eq (a : Int) : spec_Clip a 1 1000 = some ((clipA a, ()), ()) := by
  unfold spec_Clip clipA
  by_cases h1 : a < 1 <;> by_cases h2 : 1000 < a <;> simp [h1, h2]
theorem implClip_eq (a : Int) : impl_Spent_2 a = some ((clipA a, ()), ()) := by
  unfold impl_Spent_2 impl_Clip clipA
  by_cases h1 : a < 1 <;> by_cases h2 : 1000 < a <;> simp [h1, h2]
def vplus (a b : D_Vec) : D_Vec := (IntKind.wrap .i64 (a.1 + b.1), IntKind.wrap .i64 (a.2.1 + b.2.1), IntKind.wrap .i64 (a.2.2.1 + b.2.2.1), ())
def vclip (a : D_Vec) : D_Vec := (clipA a.1, clipA a.2.1, clipA a.2.2.1, ())
theorem plus_eq (a b : D_Vec) : impl_Vec_plus a b = some ((vplus a b, ()), ()) := rfl
theorem each_eq (a : D_Vec) : impl_Vec_each a () = some ((vclip a, ()), ()) := by
  unfold impl_Vec_each
  simp only [implClip_eq, Option.bind_some]; rfl
def spStep (l : List D_Event) (x : List D_Out) (t s : Int) (d : D_Dealt) (q : D_Vec × D_Vec) : D_Vec × D_Vec :=
  bif decide (d.2.2.1.1.1 = t) && decide (d.2.2.1.2.1.1 = s) then
    (vplus q.1 d.2.2.1.2.1.2.2.1, bif x.any (served d) && decide (0 ≤ fAt l d.1) then vplus q.2 (vclip (l.getD (fAt l d.1).toNat z_Event).2.2.2.1) else q.2)
  else q
theorem specS_run (k : Nat) (hk : MM < k) (l : List D_Event) (hl : (l.length : Int) ≤ MM) (x : List D_Out) (hx : (x.length : Int) ≤ MM) (ds : List D_Dealt) (hd : (ds.length : Int) ≤ MM) (t s : Int) (a b : D_Vec) (q : D_Vec × D_Vec) :
    iter (spec_Spent_s6 k) k ((), l, x, ds, t, s, a, b, q.1, q.2, (0 : Int), ()) = some ((), a, b, (ds.foldl (fun q d => spStep l x t s d q) q).1, (ds.foldl (fun q d => spStep l x t s d q) q).2, ()) := by
  have hM : MM = 1048576 := rfl
  have run := fold_run (step := spec_Spent_s6 k) (st := fun j (q : D_Vec × D_Vec) => ((), l, x, ds, t, s, a, b, q.1, q.2, (j : Int), ())) (n := ds.length) (f := fun j q => spStep l x t s (ds.getD j z_Dealt) q) (fin := fun q => ((), a, b, q.1, q.2, ())) (fun _ => True) (fun _ _ _ _ => trivial) (fun j q hj _ rec => by
      unfold spec_Spent_s6
      rw [bif_t (by simp; omega), bif_t (by simp; omega), bif_t (by simp; omega)]
      have hwj : IntKind.wrap .i64 ((j : Int) + 1) = ((j + 1 : Nat) : Int) := w64 (by omega)
      rw [hwj]
      obtain ⟨d, hdd⟩ : ∃ d, d = ds.getD (j : Int).toNat z_Dealt := ⟨_, rfl⟩
      have hdd' : d = ds.getD j z_Dealt := hdd
      rw [← hdd, ← hdd']
      unfold spStep
      cases h1 : decide (d.2.2.1.1.1 = t) with
      | false => rfl
      | true =>
        cases h2 : decide (d.2.2.1.2.1.1 = s) with
        | false => rfl
        | true =>
          simp only [Bool.not_true, Bool.not_false, cond_true, cond_false, Bool.and_self]
          rw [spent14_eq k hk l x hx]
          simp only [Option.bind_some, specAt_eq k hk l hl, hwj]
          obtain ⟨f1, f2⟩ := fAt_lt l d.1
          cases h3 : x.any (served d) with
          | false => rfl
          | true =>
            by_cases h4 : 0 ≤ fAt l d.1
            · have h5 := f2 h4
              rw [bif_t rfl, bif_t (by simpa using h4), bif_t (by simp; omega), bif_t (by simp; omega)]
              simp only [specClip_eq, Option.bind_some, h4, decide_true, Bool.and_self, cond_true]
              rfl
            · rw [bif_t rfl, bif_f (by simpa using h4)]
              simp only [h4, decide_false, Bool.and_false, cond_false]
              rfl) (fun q _ rec => by
      unfold spec_Spent_s6
      rw [bif_f (by simp)]) ds.length 0 k q (by omega) (by omega) trivial
  rw [show iter (spec_Spent_s6 k) k ((), l, x, ds, t, s, a, b, q.1, q.2, (0 : Int), ()) = _ from run]
  rw [foldN_list (g := fun d q => spStep l x t s d q) ds.length 0 q (by omega), List.drop_zero]
theorem implS_run (k : Nat) (hk : MM < k) (l : List D_Event) (hl : (l.length : Int) ≤ MM) (x : List D_Out) (hx : (x.length : Int) ≤ MM) (ds : List D_Dealt) (hd : (ds.length : Int) ≤ MM) (hw : ∀ d ∈ ds, inR .i64 d.1) (t s : Int) (a b : D_Vec) (q : D_Vec × D_Vec) :
    iter (impl_Spent_s5 k) k ((), l, x, t, s, a, b, q.1, q.2, ds, ((ds.length : Nat) : Int), (0 : Int), ()) = some ((), a, b, (ds.foldl (fun q d => spStep l x t s d q) q).1, (ds.foldl (fun q d => spStep l x t s d q) q).2, ()) := by
  have hM : MM = 1048576 := rfl
  have run := fold_run (step := impl_Spent_s5 k) (st := fun j (q : D_Vec × D_Vec) => ((), l, x, t, s, a, b, q.1, q.2, ds, ((ds.length : Nat) : Int), (j : Int), ())) (n := ds.length) (f := fun j q => spStep l x t s (ds.getD j z_Dealt) q) (fin := fun q => ((), a, b, q.1, q.2, ())) (fun _ => True) (fun _ _ _ _ => trivial) (fun j q hj _ rec => by
      unfold impl_Spent_s5
      rw [bif_t (by simp; omega), bif_t (by simp; omega), bif_t (by simp; omega)]
      rw [w64 (n := (j : Int) + 1) (by omega)]
      have hin := hw _ (getD_mem ds z_Dealt j hj)
      obtain ⟨d, hdd⟩ : ∃ d, d = ds.getD (j : Int).toNat z_Dealt := ⟨_, rfl⟩
      have hdd' : d = ds.getD j z_Dealt := hdd
      rw [← hdd, ← hdd']
      rw [← hdd'] at hin
      unfold spStep
      cases h1 : decide (d.2.2.1.1.1 = t) with
      | false => rfl
      | true =>
        cases h2 : decide (d.2.2.1.2.1.1 = s) with
        | false => rfl
        | true =>
          simp only [Bool.not_true, Bool.not_false, cond_true, cond_false, Bool.and_self, plus_eq, Option.bind_some, implAt_eq k hk l hl d.1 hin]
          obtain ⟨f1, f2⟩ := fAt_lt l d.1
          by_cases h4 : 0 ≤ fAt l d.1
          · rw [bif_t (by simpa using h4)]
            simp only [containsS_eq k hk x hx, Option.bind_some]
            cases h3 : x.any (served d) with
            | false => rfl
            | true =>
              have h5 := f2 h4
              rw [bif_t rfl, bif_t (by simp; omega), bif_t (by simp; omega)]
              simp only [each_eq, Option.bind_some, h4, decide_true, Bool.and_self, cond_true]
              rfl
          · rw [bif_f (by simpa using h4)]
            simp only [h4, decide_false, Bool.and_false, cond_false]
            rfl) (fun q _ rec => by
      unfold impl_Spent_s5
      rw [bif_f (by simp)]) ds.length 0 k q (by omega) (by omega) trivial
  rw [show iter (impl_Spent_s5 k) k ((), l, x, t, s, a, b, q.1, q.2, ds, ((ds.length : Nat) : Int), (0 : Int), ()) = _ from run]
  rw [foldN_list (g := fun d q => spStep l x t s d q) ds.length 0 q (by omega), List.drop_zero]
def spent (l : List D_Event) (x : List D_Out) (ds : List D_Dealt) (t s : Int) : D_Vec × D_Vec × Unit :=
  if evsOk l = true ∧ (x.length : Int) ≤ 2000 ∧ (ds.length : Int) ≤ 2000 then
    ((ds.foldl (fun q d => spStep l x t s d q) (z_Vec, z_Vec)).1, (ds.foldl (fun q d => spStep l x t s d q) (z_Vec, z_Vec)).2, ())
  else (z_Vec, z_Vec, ())
theorem specSpent_eq (k : Nat) (hk : MM < k) (l : List D_Event) (hl : (l.length : Int) ≤ MM) (x : List D_Out) (hx : (x.length : Int) ≤ MM) (ds : List D_Dealt) (hd : (ds.length : Int) ≤ MM) (t s : Int) : spec_Spent k l x ds t s = some ((spent l x ds t s, ())) := by
  have run := specS_run k hk l hl x hx ds hd t s z_Vec z_Vec (z_Vec, z_Vec)
  unfold spec_Spent spent spec_l24Few
  rw [show iter (spec_Spent_s6 k) k ((), l, x, ds, t, s, ((0 : Int), (0 : Int), (0 : Int), ()), ((0 : Int), (0 : Int), (0 : Int), ()), ((0 : Int), (0 : Int), (0 : Int), ()), ((0 : Int), (0 : Int), (0 : Int), ()), (0 : Int), ()) = _ from run]
  rw [spec_EventsOk_eq k hk l hl]
  simp only [Option.bind_some]
  cases h1 : evsOk l with
  | false => rfl
  | true =>
    by_cases h2 : (x.length : Int) ≤ 2000 <;> by_cases h3 : (ds.length : Int) ≤ 2000
    · have h3' : ¬ (2000 : Int) < (ds.length : Int) := by omega
      simp [h2, h3, h3']
    · have h3' : (2000 : Int) < (ds.length : Int) := by omega
      simp [h2, h3, h3', z_Vec]
    · simp [h2, z_Vec]
    · simp [h2, z_Vec]
theorem implSpent_eq (k : Nat) (hk : MM < k) (l : List D_Event) (hl : (l.length : Int) ≤ MM) (x : List D_Out) (hx : (x.length : Int) ≤ MM) (ds : List D_Dealt) (hd : (ds.length : Int) ≤ MM) (hw : ∀ d ∈ ds, inR .i64 d.1) (t s : Int) : impl_Spent k l x ds t s = some ((spent l x ds t s, ())) := by
  have run := implS_run k hk l hl x hx ds hd hw t s z_Vec z_Vec (z_Vec, z_Vec)
  unfold impl_Spent spent
  rw [show iter (impl_Spent_s5 k) k ((), l, x, t, s, ((0 : Int), (0 : Int), (0 : Int), ()), ((0 : Int), (0 : Int), (0 : Int), ()), ((0 : Int), (0 : Int), (0 : Int), ()), ((0 : Int), (0 : Int), (0 : Int), ()), ds, (((List.length ds) : Nat) : Int), (0 : Int), ()) = _ from run]
  rw [impl_EventsOk_eq k hk l hl]
  simp only [Option.bind_some]
  cases h1 : evsOk l with
  | false => rfl
  | true =>
    by_cases h2 : (x.length : Int) ≤ 2000 <;> by_cases h3 : (ds.length : Int) ≤ 2000
    · have h3' : ¬ (2000 : Int) < (ds.length : Int) := by omega
      have h2' : ¬ (2000 : Int) < (x.length : Int) := by omega
      simp [h2, h3, h3', h2']
    · have h3' : (2000 : Int) < (ds.length : Int) := by omega
      have h2' : ¬ (2000 : Int) < (x.length : Int) := by omega
      simp [h2, h3, h3', h2', z_Vec]
    · have h2' : (2000 : Int) < (x.length : Int) := by omega
      simp [h2, h2', z_Vec]
    · have h2' : (2000 : Int) < (x.length : Int) := by omega
      simp [h2, h2', z_Vec]
theorem law_FnExactSpent (l : List D_Event) (x : List D_Out) (ds : List D_Dealt) (t s : Int) (h1 : WF (.sl T_Event) l) (h2 : WF (.sl T_Out) x) (h3 : WF (.sl T_Dealt) ds) (h4 : WF (.int .i64) t) (h5 : WF (.int .i64) s) : ∃ k y, laws_FnExactSpent k l x ds t s = some ((true, ()), y) := by
  have hk : MM < (1048577 : Nat) := by decide
  refine ⟨1048577, (), ?_⟩
  revert hk
  generalize (1048577 : Nat) = k
  intro hk
  unfold laws_FnExactSpent
  obtain ⟨n1, a1, _, a3, a4⟩ := laws_szEventS_bd k hk l MM h1 (by decide) (by decide)
  rw [a1, Option.bind_some]
  by_cases hn1 : n1 < 0
  · rw [bif_t (by simpa using hn1)]
  rw [bif_f (by simpa using hn1)]
  have b1 := a4 (by omega)
  obtain ⟨n2, c1, _, c3, c4⟩ := laws_szOutS_bd k hk x n1 h2 (by omega) (by omega)
  simp only
  rw [c1, Option.bind_some]
  by_cases hn2 : n2 < 0
  · rw [bif_t (by simpa using hn2)]
  rw [bif_f (by simpa using hn2)]
  have b2 := c4 (by omega)
  obtain ⟨n3, d1, _, d3, d4⟩ := laws_szDealtS_bd k hk ds n2 h3 (by omega) (by omega)
  simp only
  rw [d1, Option.bind_some]
  by_cases hn3 : n3 < 0
  · rw [bif_t (by simpa using hn3)]
  rw [bif_f (by simpa using hn3)]
  have b3 := d4 (by omega)
  have hw : ∀ d ∈ ds, inR .i64 d.1 := fun d hd => (h3.2 d hd).1
  have e1 : ∀ v : D_Vec, laws_eqVec v v = some ((true, ()), ()) := fun v => by simp [laws_eqVec]
  simp only [laws_toEventS_ok k hk l b1, laws_toOutS_ok k hk x b2, laws_toDealtS_ok k hk ds b3, specSpent_eq k hk l b1.1 x b2.1 ds b3.1, implSpent_eq k hk l b1.1 x b2.1 ds b3.1 hw, laws_eqEventS_ok k hk l b1, laws_eqOutS_ok k hk x b2, laws_eqDealtS_ok k hk ds b3, e1, Option.bind_some]
  simp
end Go.Tw
