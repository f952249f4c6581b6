/- Plain facts on the mirrors of the functions are proved here. -/
import Derived.Test.YtaigepmndpefgaaDoorPt6
import Derived.Test.YtaigepmndpefgaaDoorPt4
set_option linter.all false
namespace Go.Tw
open Go Go.RowKit
theorem rep_getD {α : Type} (z : α) : ∀ (n j : Nat), (List.replicate n z).getD j z = z
  | 0, j => by simp
  | n + 1, 0 => rfl
  | n + 1, j + 1 => by rw [List.replicate_succ, List.getD_cons_succ]; exact rep_getD z n j
theorem sch_none {O : Type} {fin : O} : ∀ (m i : Nat), sch (fun _ => (none : Option O)) fin m i = fin
  | 0, _ => rfl
  | m + 1, i => sch_none m (i + 1)
theorem count_run (k : Nat) (hk : MM < k) (s : Int) (n : Nat) (hn : n ≤ 64) :
    spec_l11Count k (s, List.replicate n z_Cell, ()) = some (((0 : Int), ()), ()) := by
  have hM : MM = 1048576 := rfl
  have run := search_run (step := spec_l11Count_s3) (st := fun i => ((), ((s, List.replicate n z_Cell, ()) : D_Table), (0 : Int), (i : Int), ())) (n := n) (hit := fun i => none) (fin := ((), (0 : Int), ())) (fun i hi rec => by
      unfold spec_l11Count_s3
      rw [bif_t (by simp; omega), bif_t (by simp; omega), bif_t (by simp; omega)]
      rw [w64 (n := (i : Int) + 1) (by omega)]
      simp only [rep_getD]
      rfl) (fun rec => by
      unfold spec_l11Count_s3
      rw [bif_f (by simp)]) n 0 k (by omega) (by omega)
  rw [sch_none] at run
  unfold spec_l11Count
  rw [show iter spec_l11Count_s3 k ((), (s, List.replicate n z_Cell, ()), (0 : Int), (0 : Int), ()) = _ from run]
  rfl
theorem cells_run (k : Nat) (hk : MM < k) (s : Int) (n : Nat) (hn : n ≤ 64) :
    iter (spec_TableOk_s7 k) k ((), (s, List.replicate n z_Cell, ()), (n : Int), (0 : Int), ()) = some (Sum.inr ((), ())) := by
  have hM : MM = 1048576 := rfl
  have run := search_run (step := spec_TableOk_s7 k) (st := fun i => ((), ((s, List.replicate n z_Cell, ()) : D_Table), (n : Int), (i : Int), ())) (n := n) (hit := fun i => none) (fin := Sum.inr ((), ())) (fun i hi rec => by
      unfold spec_TableOk_s7
      rw [bif_t (by simp; omega), bif_t (by simp; omega), bif_t (by simp; omega)]
      rw [w64 (n := (i : Int) + 1) (by omega)]
      simp only [rep_getD]
      rfl) (fun rec => by
      unfold spec_TableOk_s7
      rw [bif_f (by simp)]) n 0 k (by omega) (by omega)
  rw [sch_none] at run
  exact run
def cellsB (z : Int) : Bool := decide (z = 4) || (decide (z = 8) || (decide (z = 16) || (decide (z = 32) || decide (z = 64))))
theorem tableOk_eq (k : Nat) (hk : MM < k) (s : Int) (n : Nat) (hn : n ≤ 64) :
    spec_TableOk k (s, List.replicate n z_Cell, ()) = some (((decide (0 ≤ s) && (decide (s ≤ 4294967295) && cellsB n)), ()), ()) := by
  unfold spec_TableOk
  simp only [List.length_replicate, count_run k hk s n hn, cells_run k hk s n hn, Option.bind_some, leN]
  have hf : ((3 : Int) * n) ≤ 9223372036854775807 := by omega
  rw [w64 (n := (3 : Int) * n) (by omega), show IntKind.wrap .i64 (4 * 0) = 0 from rfl]
  have h0 : decide ((0 : Int) ≤ 3 * (n : Int)) = true := by simp; omega
  rw [h0]
  unfold cellsB
  generalize decide (0 ≤ s) = b1
  generalize decide (s ≤ 4294967295) = b2
  generalize decide ((n : Int) = 4) = b3
  generalize decide ((n : Int) = 8) = b4
  generalize decide ((n : Int) = 16) = b5
  generalize decide ((n : Int) = 32) = b6
  generalize decide ((n : Int) = 64) = b7
  cases b1 <;> cases b2 <;> cases b3 <;> cases b4 <;> cases b5 <;> cases b6 <;> cases b7 <;> rfl
theorem table_eq (k : Nat) (hk : MM < k) (s z : Int) : ∃ t, spec_TableNew k s z = some ((t, ()), ()) ∧ decide (((t.2.1.length : Nat) : Int) = 0) = !(decide (0 ≤ s) && (decide (s ≤ 4294967295) && cellsB z)) := by
  unfold spec_TableNew
  by_cases h1 : z < 4
  · rw [bif_f (by simpa using h1)]
    refine ⟨_, rfl, ?_⟩
    have : cellsB z = false := by unfold cellsB; simp; omega
    rw [this]; simp
  rw [bif_t (by simpa using h1)]
  by_cases h2 : 64 < z
  · rw [bif_t (by simpa using h2)]
    refine ⟨_, rfl, ?_⟩
    have : cellsB z = false := by unfold cellsB; simp; omega
    rw [this]; simp
  rw [bif_f (by simpa using h2), bif_t (by simp; omega)]
  have ht := tableOk_eq k hk s z.toNat (by omega)
  rw [show (((z.toNat : Nat) : Int)) = z by omega] at ht
  show ∃ t, ((spec_TableOk k (s, List.replicate z.toNat z_Cell, ())).bind fun t1 => bif !t1.1.1 then some ((((0 : Int), ([] : List D_Cell), ()), ()), ()) else some (((s, List.replicate z.toNat z_Cell, ()), ()), ())) = some ((t, ()), ()) ∧ _
  rw [ht, Option.bind_some]
  simp only
  cases hb : (decide (0 ≤ s) && (decide (s ≤ 4294967295) && cellsB z)) with
  | false => exact ⟨_, rfl, rfl⟩
  | true =>
    refine ⟨_, rfl, ?_⟩
    simp only [List.length_replicate]
    simp; omega
theorem line_eq (k : Nat) (hk : MM < k) (c : Int) : ∃ t, spec_LineNew k c = some ((t, ()), ()) ∧ decide (t.1 = 0) = !(decide (1 ≤ c) && decide (c ≤ 16)) := by
  have hM : MM = 1048576 := rfl
  have hl : spec_l21All (c, [], [], [], ()) = some (([], ()), ()) := rfl
  have hr : ∀ p, iter (spec_LineOk_s7 k) k ((), p, [], (0 : Int), ()) = some (Sum.inr ((), ())) := fun p => by
    obtain ⟨k', rfl⟩ : ∃ k', k = k' + 1 := ⟨k - 1, by omega⟩
    rw [iter_succ]; rfl
  unfold spec_LineNew spec_LineOk
  simp only [hl, hr, Option.bind_some, leN, List.length_nil]
  by_cases h1 : 1 ≤ c <;> by_cases h2 : c ≤ 16
  · have h3 : ((0 : Nat) : Int) ≤ c := by omega
    simp only [h1, h2, h3, decide_true, Bool.not_true, Bool.not_false, cond_true, cond_false]
    refine ⟨_, rfl, ?_⟩
    simp; omega
  · simp only [h1, h2, decide_true, decide_false, Bool.not_true, Bool.not_false, cond_true, cond_false]
    exact ⟨_, rfl, by simp⟩
  · simp only [h1, h2, decide_true, decide_false, Bool.not_true, Bool.not_false, cond_true, cond_false]
    exact ⟨_, rfl, by simp⟩
  · simp only [h1, h2, decide_true, decide_false, Bool.not_true, Bool.not_false, cond_true, cond_false]
    exact ⟨_, rfl, by simp⟩
def inV (v : D_Vec) : Bool := (decide (0 ≤ v.1) && decide (v.1 ≤ 1000)) && ((decide (0 ≤ v.2.1) && decide (v.2.1 ≤ 1000)) && (decide (0 ≤ v.2.2.1) && decide (v.2.2.1 ≤ 1000)))
def profB (p : D_Prof) : Bool := inV p.1 && inV p.2.1
theorem all_eq (v : D_Vec) : spec_l13All v 0 1000 = some ((inV v, ()), ()) := by
  unfold spec_l13All inV
  generalize decide (0 ≤ v.1) = b1
  generalize decide (v.1 ≤ 1000) = b2
  generalize decide (0 ≤ v.2.1) = b3
  generalize decide (v.2.1 ≤ 1000) = b4
  generalize decide (0 ≤ v.2.2.1) = b5
  generalize decide (v.2.2.1 ≤ 1000) = b6
  cases b1 <;> cases b2 <;> cases b3 <;> cases b4 <;> cases b5 <;> cases b6 <;> rfl
theorem within_eq (x a b : Int) : impl_within x a b = some (((decide (a ≤ x) && decide (x ≤ b)), ()), ()) := by
  unfold impl_within
  cases decide (a ≤ x) <;> rfl
theorem from_eq (v : D_Vec) : impl_Vec_isFrom v 0 1000 = some ((inV v, ()), ()) := by
  unfold impl_Vec_isFrom inV
  simp only [within_eq, Option.bind_some]
  cases (decide (0 ≤ v.1) && decide (v.1 ≤ 1000)) <;> cases (decide (0 ≤ v.2.1) && decide (v.2.1 ≤ 1000)) <;> rfl
theorem specProf_eq (p : D_Prof) : spec_ProfOk p = some ((profB p, ()), ()) := by
  unfold spec_ProfOk profB
  simp only [all_eq, Option.bind_some]
  cases inV p.1 <;> rfl
theorem implProf_eq (p : D_Prof) : impl_ProfOk p = some ((profB p, ()), ()) := by
  unfold impl_ProfOk profB
  simp only [from_eq, Option.bind_some]
  cases inV p.1 <;> rfl
theorem bad_eq (p : D_Prof) : impl_areProfs_1 p = some ((!profB p, ()), ()) := by
  unfold impl_areProfs_1
  simp only [implProf_eq, Option.bind_some]
theorem areProfs_eq (k : Nat) (hk : MM < k) (x : List D_Prof) (hx : (x.length : Int) ≤ MM) : impl_areProfs k x = some (((decide ((x.length : Int) = 7) && !x.any (fun p => !profB p)), ()), ()) := by
  have hM : MM = 1048576 := rfl
  have run := search_run (step := slices_IndexFunc_impl_Prof_impl_Prof_s2) (st := fun i => ((), x, (), (((List.length x) : Nat) : Int), (i : Int), ())) (n := x.length) (hit := fun i => bif !profB (x.getD i z_Prof) then some (Sum.inl ((), (i : Int), ())) else none) (fin := Sum.inr ((), ())) (fun i hi rec => by
      unfold slices_IndexFunc_impl_Prof_impl_Prof_s2
      rw [bif_t (by simp; omega), bif_t (by simp; omega), bif_t (by simp; omega)]
      simp only [Int.toNat_natCast, bad_eq, Option.bind_some]
      rw [w64 (by omega)]
      cases profB (x.getD i z_Prof) <;> rfl) (fun rec => by
      unfold slices_IndexFunc_impl_Prof_impl_Prof_s2
      rw [bif_f (by simp)]) x.length 0 k (by omega) (by omega)
  unfold impl_areProfs slices_ContainsFunc_impl_Prof_impl_Prof slices_IndexFunc_impl_Prof_impl_Prof
  rw [show iter slices_IndexFunc_impl_Prof_impl_Prof_s2 k ((), x, (), (((List.length x) : Nat) : Int), (0 : Int), ()) = _ from run]
  cases decide ((x.length : Int) = 7) with
  | false => rfl
  | true =>
    rcases sch_any (x := x) (z := z_Prof) (p := fun p => !profB p) (f := fun i => (Sum.inl ((), (i : Int), ()) : (Unit × (Int × Unit)) ⊕ (Unit × Unit))) (fin := Sum.inr ((), ())) with ⟨h1, j, _, h2⟩ | ⟨h1, h2⟩
    · rw [h2, h1]; simp
    · rw [h2, h1]; simp
theorem profs_run (k : Nat) (hk : MM < k) (c : D_Conf) (h7 : c.2.2.2.2.2.2.1.length = 7) :
    iter spec_ConfOk_s6 k ((), c, (0 : Int), ()) = some (bif c.2.2.2.2.2.2.1.any (fun p => !profB p) then Sum.inl ((), false, ()) else Sum.inr ((), ())) := by
  have hM : MM = 1048576 := rfl
  have run := search_run (step := spec_ConfOk_s6) (st := fun i => ((), c, (i : Int), ())) (n := c.2.2.2.2.2.2.1.length) (hit := fun i => bif !profB (c.2.2.2.2.2.2.1.getD i z_Prof) then some (Sum.inl ((), false, ())) else none) (fin := Sum.inr ((), ())) (fun i hi rec => by
      unfold spec_ConfOk_s6
      rw [bif_t (by simp; omega), bif_t (by simp; omega), bif_t (by simp; omega)]
      simp only [Int.toNat_natCast, specProf_eq, Option.bind_some]
      rw [w64 (by omega)]
      cases profB (c.2.2.2.2.2.2.1.getD i z_Prof) <;> rfl) (fun rec => by
      unfold spec_ConfOk_s6
      rw [bif_f (by simp; omega)]) c.2.2.2.2.2.2.1.length 0 k (by omega) (by omega)
  rw [show iter spec_ConfOk_s6 k ((), c, (0 : Int), ()) = _ from run]
  rcases sch_any (x := c.2.2.2.2.2.2.1) (z := z_Prof) (p := fun p => !profB p) (f := fun i => (Sum.inl ((), false, ()) : (Unit × (Bool × Unit)) ⊕ (Unit × Unit))) (fin := Sum.inr ((), ())) with ⟨h1, j, _, h2⟩ | ⟨h1, h2⟩
  · rw [h2, h1]; rfl
  · rw [h2, h1]; rfl
def limB (l : D_Limits) : Bool := (decide (1 ≤ l.1) && decide (l.1 ≤ 64)) && ((decide (1 ≤ l.2.1) && decide (l.2.1 ≤ 100000)) && ((decide (1 ≤ l.2.2.1) && decide (l.2.2.1 ≤ 1000000)) && (decide (0 ≤ l.2.2.2.1) && decide (l.2.2.2.1 ≤ 100000))))
theorem specLim_eq (l : D_Limits) : spec_LimitsOk l = some ((limB l, ()), ()) := by
  unfold spec_LimitsOk limB
  simp only [leN]
  generalize decide (1 ≤ l.1) = b1
  generalize decide (l.1 ≤ 64) = b2
  generalize decide (1 ≤ l.2.1) = b3
  generalize decide (l.2.1 ≤ 100000) = b4
  generalize decide (1 ≤ l.2.2.1) = b5
  generalize decide (l.2.2.1 ≤ 1000000) = b6
  generalize decide (0 ≤ l.2.2.2.1) = b7
  generalize decide (l.2.2.2.1 ≤ 100000) = b8
  cases b1 <;> cases b2 <;> cases b3 <;> cases b4 <;> cases b5 <;> cases b6 <;> cases b7 <;> rfl
theorem implLim_eq (l : D_Limits) : impl_LimitsOk l = some ((limB l, ()), ()) := by
  unfold impl_LimitsOk limB
  simp only [within_eq, Option.bind_some]
  cases (decide (1 ≤ l.1) && decide (l.1 ≤ 64)) <;> cases (decide (1 ≤ l.2.1) && decide (l.2.1 ≤ 100000)) <;> cases (decide (1 ≤ l.2.2.1) && decide (l.2.2.1 ≤ 1000000)) <;> rfl
theorem isCells_eq (z : Int) : impl_isCells z = some ((cellsB z, ()), ()) := by
  unfold impl_isCells cellsB
  generalize decide (z = 4) = b3
  generalize decide (z = 8) = b4
  generalize decide (z = 16) = b5
  generalize decide (z = 32) = b6
  generalize decide (z = 64) = b7
  cases b3 <;> cases b4 <;> cases b5 <;> cases b6 <;> cases b7 <;> rfl
def confB (c : D_Conf) : Bool :=
  (decide (0 ≤ c.1) && (decide (c.1 ≤ 4294967295) && cellsB c.2.1)) && ((decide (1 ≤ c.2.2.1) && decide (c.2.2.1 ≤ 16)) && ((decide (0 ≤ c.2.2.2.1) && decide (c.2.2.2.1 ≤ 10000000)) && ((decide (1 ≤ c.2.2.2.2.1) && decide (c.2.2.2.2.1 ≤ 1000)) && (limB c.2.2.2.2.2.1 && (decide ((c.2.2.2.2.2.2.1.length : Int) = 7) && !c.2.2.2.2.2.2.1.any (fun p => !profB p))))))
theorem specConf_eq (k : Nat) (hk : MM < k) (c : D_Conf) : spec_ConfOk k c = some ((confB c, ()), ()) := by
  obtain ⟨t, h1, h2⟩ := table_eq k hk c.1 c.2.1
  obtain ⟨l, h3, h4⟩ := line_eq k hk c.2.2.1
  unfold spec_ConfOk spec_l13Delta confB
  simp only [h1, h3, Option.bind_some, h2, h4, specLim_eq, leN, Bool.not_not]
  cases (decide (0 ≤ c.1) && (decide (c.1 ≤ 4294967295) && cellsB c.2.1)) with
  | false => rfl
  | true =>
    cases (decide (1 ≤ c.2.2.1) && decide (c.2.2.1 ≤ 16)) with
    | false => rfl
    | true =>
      cases hp : decide ((c.2.2.2.2.2.2.1.length : Int) = 7) with
      | false =>
        generalize decide (0 ≤ c.2.2.2.1) = b1
        generalize decide (c.2.2.2.1 ≤ 10000000) = b2
        generalize decide (1 ≤ c.2.2.2.2.1) = b3
        generalize decide (c.2.2.2.2.1 ≤ 1000) = b4
        generalize limB c.2.2.2.2.2.1 = b5
        cases b1 <;> cases b2 <;> cases b3 <;> cases b4 <;> cases b5 <;> rfl
      | true =>
        rw [profs_run k hk c (by simp at hp; omega)]
        generalize decide (0 ≤ c.2.2.2.1) = b1
        generalize decide (c.2.2.2.1 ≤ 10000000) = b2
        generalize decide (1 ≤ c.2.2.2.2.1) = b3
        generalize decide (c.2.2.2.2.1 ≤ 1000) = b4
        generalize limB c.2.2.2.2.2.1 = b5
        generalize c.2.2.2.2.2.2.1.any (fun p => !profB p) = b6
        cases b1 <;> cases b2 <;> cases b3 <;> cases b4 <;> cases b5 <;> cases b6 <;> rfl
theorem implConf_eq (k : Nat) (hk : MM < k) (c : D_Conf) (hc : (c.2.2.2.2.2.2.1.length : Int) ≤ MM) : impl_ConfOk k c = some ((confB c, ()), ()) := by
  unfold impl_ConfOk impl_isDelta confB
  simp only [within_eq, isCells_eq, implLim_eq, areProfs_eq k hk _ hc, Option.bind_some]
  generalize decide (0 ≤ c.1) = a1
  generalize decide (c.1 ≤ 4294967295) = a2
  generalize cellsB c.2.1 = a3
  generalize (decide (1 ≤ c.2.2.1) && decide (c.2.2.1 ≤ 16)) = a4
  generalize (decide (0 ≤ c.2.2.2.1) && decide (c.2.2.2.1 ≤ 10000000)) = a5
  generalize (decide (1 ≤ c.2.2.2.2.1) && decide (c.2.2.2.2.1 ≤ 1000)) = a6
  generalize limB c.2.2.2.2.2.1 = a7
  cases a1 <;> cases a2 <;> cases a3 <;> cases a4 <;> cases a5 <;> cases a6 <;> cases a7 <;> rfl
end Go.Tw
