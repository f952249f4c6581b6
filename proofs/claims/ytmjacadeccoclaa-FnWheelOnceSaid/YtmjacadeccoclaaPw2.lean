/- Plain facts on the mirrors of the functions are proved here. -/
import Derived.Test.YtmjacadeccoclaaPw1
set_option linter.all false
namespace Go.Tw
open Go Go.RowKit

def sumW : List D_Spoke → Nat
  | [] => 0
  | s :: ss => s.1.length + sumW ss
theorem sumW_flat : ∀ ss : List D_Spoke, (ss.flatMap (·.1)).length = sumW ss
  | [] => rfl
  | s :: ss => by simp [sumW, sumW_flat ss]
theorem ids_len : ∀ ss : List D_Spoke, (ss.flatMap fun s => s.1.map (·.1)).length = sumW ss
  | [] => rfl
  | s :: ss => by simp [sumW, ids_len ss]
theorem ids_flat : ∀ ss : List D_Spoke, (ss.flatMap fun s => s.1.map (·.1)) = (ss.flatMap (·.1)).map (·.1)
  | [] => rfl
  | s :: ss => by simp [ids_flat ss]
theorem sumW_le : ∀ (ss : List D_Spoke) (s : D_Spoke), s ∈ ss → s.1.length ≤ sumW ss
  | s :: ss, t, h => by
    simp only [sumW]
    rcases List.mem_cons.1 h with rfl | h
    · omega
    · have := sumW_le ss t h; omega
theorem natLe (a b : Nat) : decide ((a : Int) ≤ (b : Int)) = decide (a ≤ b) := by simp
def allS (ss : List D_Spoke) : Bool := ss.all fun s => decide (s.1.length ≤ 64)
theorem sumS_run (k : Nat) (hk : MM < k) (w : D_Wheel) (h8 : w.2.1.length = 8) (hw : fitW w) :
    iter spec_WheelOk_s5 k ((), w, (0 : Int), (0 : Int), ()) = some (bif allS w.2.1 then Sum.inr ((), w, ((sumW w.2.1 : Nat) : Int), ()) else Sum.inl ((), false, ())) := by
  have hM : MM = 1048576 := rfl
  have run := walk_run0 (step := spec_WheelOk_s5) (x := w.2.1) z_Spoke (st := fun j (n : Nat) => ((), w, (n : Int), (j : Int), ()))
    (f := fun _ s n => bif decide (s.1.length ≤ 64) then .inr (n + s.1.length) else .inl (Sum.inl ((), false, ()))) (fin := fun n => Sum.inr ((), w, (n : Int), ())) (fun j n => n ≤ j * 64)
    (fun j n hj hI rec => by
      unfold spec_WheelOk_s5
      refine (bif_t (by simp; omega)).trans ?_
      refine (bif_t (by simp; omega)).trans ?_
      refine (bif_t (by simp; omega)).trans ?_
      obtain ⟨e, he⟩ : ∃ e, e = w.2.1.getD (j : Int).toNat z_Spoke := ⟨_, rfl⟩
      have he' : e = w.2.1.getD j z_Spoke := he
      rw [← he, ← he']
      by_cases h : e.1.length ≤ 64
      · refine (bif_f (by simp; omega)).trans ?_
        refine (bif_t (by simp; omega)).trans ?_
        refine (bif_t (by simp; omega)).trans ?_
        have hwi : IntKind.wrap .i64 ((j : Int) + 1) = ((j + 1 : Nat) : Int) := w64 (by omega)
        have hwn : IntKind.wrap .i64 ((n : Int) + ((e.1.length : Nat) : Int)) = ((n + e.1.length : Nat) : Int) := by rw [w64 (by omega)]; omega
        simp only [h, decide_true, cond_true, Sum.elim_inr, hwi, hwn]
      · refine (bif_t (by simp; omega)).trans ?_
        simp [h])
    (fun j n n' hj hI e => by
      by_cases h : (w.2.1.getD j z_Spoke).1.length ≤ 64
      · simp only [h, decide_true, cond_true, Sum.inr.injEq] at e; subst e; omega
      · have h' : decide ((w.2.1.getD j z_Spoke).1.length ≤ 64) = false := decide_eq_false h
        simp only [h', cond_false] at e; cases e) (fun n _ rec => by
      unfold spec_WheelOk_s5
      exact bif_f (by simp; omega)) (k := k) (by omega) (a := 0) (by omega)
  rw [show iter spec_WheelOk_s5 k ((), w, (0 : Int), (0 : Int), ()) = _ from run]
  congr 1
  have : ∀ (l : List D_Spoke) (j n : Nat), walk (fun _ s n => bif decide (s.1.length ≤ 64) then Sum.inr (n + s.1.length) else Sum.inl (Sum.inl ((), false, ()))) (fun (n : Nat) => (Sum.inr ((), w, (n : Int), ()) : (Unit × (Bool × Unit)) ⊕ (Unit × (D_Wheel × (Int × Unit))))) l j n = bif allS l then Sum.inr ((), w, ((n + sumW l : Nat) : Int), ()) else Sum.inl ((), false, ()) := by
    intro l
    induction l with
    | nil => intro j n; simp [walk, allS, sumW]
    | cons s l ih =>
      intro j n
      simp only [walk, allS, List.all_cons, sumW] at ih ⊢
      cases decide (s.1.length ≤ 64) with
      | true => simp only [cond_true, Sum.elim_inr, Bool.true_and]; rw [ih]; simp only [Nat.add_assoc]
      | false => rfl
  have := this w.2.1 0 0
  rw [Nat.zero_add] at this
  exact this
theorem sub_flatW (ss : List D_Spoke) (i : Nat) : ((ss.take i).flatMap (·.1)).length ≤ sumW ss := by
  rw [sumW_flat]
  have h : ss = ss.take i ++ ss.drop i := (List.take_append_drop i ss).symm
  have app : ∀ a b : List D_Spoke, sumW (a ++ b) = sumW a + sumW b := by
    intro a; induction a with
    | nil => intro b; simp [sumW]
    | cons x a ih => intro b; simp [sumW, ih]; omega
  rw [h, app]; simp
theorem all_run (k : Nat) (hk : MM < k) (w : D_Wheel) (hl : w.2.1.length ≤ 1048576) (hs : sumW w.2.1 ≤ 1048576) : spec_l12All k w = some ((w.2.1.flatMap (·.1), ()), ()) := by
  have hM : MM = 1048576 := rfl
  unfold spec_l12All
  have run := thru_run0 (step := spec_l12All_s3) (x := w.2.1) z_Spoke (st := fun j a => ((), w, a, (j : Int), ())) (g := fun _ s a => a ++ s.1) (fin := fun a => ((), a, ())) (fun j a => a = (w.2.1.take j).flatMap (·.1))
    (fun j a hj hI rec => by
      unfold spec_l12All_s3
      refine (bif_t (by simp; omega)).trans ?_
      refine (bif_t (by simp; omega)).trans ?_
      refine (bif_t (by simp; omega)).trans ?_
      have h1 : (a ++ (w.2.1.getD j z_Spoke).1).length ≤ sumW w.2.1 := by
        have := sub_flatW w.2.1 (j + 1)
        rw [List.take_add_one, getD_at w.2.1 z_Spoke j hj] at *
        simp only [List.getElem?_eq_getElem hj, Option.toList_some, List.flatMap_append, List.flatMap_cons, List.flatMap_nil, List.append_nil] at this
        rw [hI]; exact this
      rw [List.length_append] at h1
      have h2 : (a.length + (w.2.1.getD (j : Int).toNat z_Spoke).1.length) * 16 ≤ 1099511627776 := by
        have : (w.2.1.getD (j : Int).toNat z_Spoke).1.length = (w.2.1.getD j z_Spoke).1.length := rfl
        omega
      refine (bif_t (decide_eq_true h2)).trans ?_
      have hwi : IntKind.wrap .i64 ((j : Int) + 1) = ((j + 1 : Nat) : Int) := w64 (by omega)
      show rec ((), w, a ++ (w.2.1.getD j z_Spoke).1, IntKind.wrap .i64 ((j : Int) + 1), ()) = _
      rw [hwi])
    (fun j a hj hI => by
      rw [hI, List.take_add_one, getD_at w.2.1 z_Spoke j hj]
      simp only [List.getElem?_eq_getElem hj, Option.toList_some, List.flatMap_append, List.flatMap_cons, List.flatMap_nil, List.append_nil]) (fun a _ rec => by
      unfold spec_l12All_s3
      exact bif_f (by simp)) (k := k) (by omega) (a := []) (by simp)
  rw [show iter spec_l12All_s3 k ((), w, ([] : List D_Timer), (0 : Int), ()) = _ from run, thru_flat]
  rfl

def dupAt (l : List D_Timer) (i : Nat) : Bool := anyN (fun j => decide ((l.getD j z_Timer).1 = (l.getD i z_Timer).1)) i 0
def okS (now : Int) (l : List D_Timer) (i : Nat) : Bool := ((decide (0 ≤ (l.getD i z_Timer).1) && decide ((l.getD i z_Timer).1 ≤ 9999)) && (decide (now + 1 ≤ (l.getD i z_Timer).2.1) && decide ((l.getD i z_Timer).2.1 ≤ now + 1000))) && !dupAt l i
theorem dup_run (k : Nat) (hk : MM < k) (x : D_Wheel) (l : List D_Timer) (hl : l.length ≤ 1048576) (i : Nat) (hi : i < l.length) :
    iter spec_WheelOk_s19 k ((), x, l, (i : Int), (0 : Int), ()) = some (bif dupAt l i then Sum.inl ((), false, ()) else Sum.inr ((), x, l, (i : Int), ())) := by
  have hM : MM = 1048576 := rfl
  have run := search_run (step := spec_WheelOk_s19) (st := fun j => ((), x, l, (i : Int), (j : Int), ())) (n := i) (hit := fun j => bif decide ((l.getD j z_Timer).1 = (l.getD i z_Timer).1) then some (Sum.inl ((), false, ())) else none) (fin := Sum.inr ((), x, l, (i : Int), ())) (fun j hj rec => by
      unfold spec_WheelOk_s19
      rw [bif_t (by simp; omega), bif_t (by simp; omega), bif_t (by simp; omega), bif_t (by simp; omega), bif_t (by simp; omega)]
      rw [w64 (n := (j : Int) + 1) (by omega)]
      show (bif decide ((l.getD j z_Timer).1 = (l.getD i z_Timer).1) then _ else _) = _
      generalize decide ((l.getD j z_Timer).1 = (l.getD i z_Timer).1) = b
      cases b <;> rfl) (fun rec => by
      unfold spec_WheelOk_s19
      rw [bif_f (by simp)]) i 0 k (by omega) (by omega)
  rw [show iter spec_WheelOk_s19 k ((), x, l, (i : Int), (0 : Int), ()) = _ from run, sch_bool (p := fun j => decide ((l.getD j z_Timer).1 = (l.getD i z_Timer).1))]
  unfold dupAt
  cases anyN (fun j => decide ((l.getD j z_Timer).1 = (l.getD i z_Timer).1)) i 0 <;> rfl
theorem ids_run (k : Nat) (hk : MM < k) (x : D_Wheel) (hn : nowP x.1) (l : List D_Timer) (hl : l.length ≤ 1048576) :
    iter (spec_WheelOk_s14 k) k ((), x, l, (0 : Int), ()) = some (bif anyN (fun i => !okS x.1 l i) l.length 0 then Sum.inl ((), false, ()) else Sum.inr ((), x, ())) := by
  have hM : MM = 1048576 := rfl
  have run := search_run (step := spec_WheelOk_s14 k) (st := fun i => ((), x, l, (i : Int), ())) (n := l.length) (hit := fun i => bif !okS x.1 l i then some (Sum.inl ((), false, ())) else none) (fin := Sum.inr ((), x, ())) (fun i hi rec => by
      have hin := dup_run k hk x l hl i hi
      have hb1 : ((decide ((0 : Int) ≤ (i : Int))) && (decide ((i : Int) < ((l.length : Nat) : Int)))) = true := by simp; omega
      have hb2 : decide ((i : Int).toNat < l.length) = true := by simp; omega
      have hwi : IntKind.wrap .i64 ((i : Int) + 1) = ((i + 1 : Nat) : Int) := w64 (by omega)
      have hwn : IntKind.wrap .i64 (x.1 + 1000) = x.1 + 1000 := w64 (by omega)
      unfold spec_WheelOk_s14
      refine (bif_t (by simp; omega)).trans ?_
      refine (bif_t (by simp; omega)).trans ?_
      refine (bif_t (by simp; omega)).trans ?_
      unfold okS
      obtain ⟨e, he⟩ : ∃ e, e = l.getD (i : Int).toNat z_Timer := ⟨_, rfl⟩
      have he' : e = l.getD i z_Timer := he
      rw [← he, ← he']
      rw [show iter spec_WheelOk_s19 k ((), x, l, (i : Int), (0 : Int), ()) = _ from hin]
      have e1 : decide (e.1 < 0) = !decide (0 ≤ e.1) := leN _ _
      have e2 : decide (9999 < e.1) = !decide (e.1 ≤ 9999) := leN _ _
      have e3 : decide (e.2.1 ≤ x.1) = !decide (x.1 + 1 ≤ e.2.1) := by
        by_cases h : e.2.1 ≤ x.1
        · have : ¬ (x.1 + 1 ≤ e.2.1) := by omega
          simp [h, this]
        · have : x.1 + 1 ≤ e.2.1 := by omega
          simp [h, this]
      have e4 : decide (x.1 + 1000 < e.2.1) = !decide (e.2.1 ≤ x.1 + 1000) := leN _ _
      show (bif !decide (e.1 < 0) then bif ((decide ((0 : Int) ≤ (i : Int))) && (decide ((i : Int) < ((l.length : Nat) : Int)))) then bif decide ((i : Int).toNat < l.length) then bif !decide (9999 < e.1) then bif ((decide ((0 : Int) ≤ (i : Int))) && (decide ((i : Int) < ((l.length : Nat) : Int)))) then bif decide ((i : Int).toNat < l.length) then bif !decide (e.2.1 ≤ x.1) then bif ((decide ((0 : Int) ≤ (i : Int))) && (decide ((i : Int) < ((l.length : Nat) : Int)))) then bif decide ((i : Int).toNat < l.length) then bif decide (IntKind.wrap .i64 (x.1 + 1000) < e.2.1) then some (Sum.inl ((), false, ())) else _ else _ else _ else _ else _ else _ else _ else _ else _ else _) = _
      rw [hb1, hb2, hwn, e1, e2, e3, e4]
      simp only [cond_true, Option.bind_some]
      cases decide (0 ≤ e.1) <;> cases decide (e.1 ≤ 9999) <;> cases decide (x.1 + 1 ≤ e.2.1) <;> cases decide (e.2.1 ≤ x.1 + 1000) <;> cases dupAt l i <;> first | rfl | skip
      simp only [Bool.not_false, Bool.not_true, cond_true, cond_false, Sum.elim_inr, hwi]
      rfl) (fun rec => by
      unfold spec_WheelOk_s14
      rw [bif_f (by simp)]) l.length 0 k (by omega) (by omega)
  rw [show iter (spec_WheelOk_s14 k) k ((), x, l, (0 : Int), ()) = _ from run, sch_bool (p := fun i => !okS x.1 l i)]

def modT (i : Int) (e : D_Timer) : Bool := decide (Int.tmod e.2.1 8 = i)
def modW : List D_Spoke → Int → Bool
  | [], _ => true
  | s :: ss, i => s.1.all (modT i) && modW ss (i + 1)
theorem modI_run (k : Nat) (hk : MM < k) (w : D_Wheel) (hw : fitW w) (i : Nat) (hi : i < w.2.1.length) :
    iter spec_WheelOk_s27 k ((), w, (i : Int), (0 : Int), ()) = some (bif (w.2.1.getD i z_Spoke).1.all (modT i) then Sum.inr ((), w, (i : Int), ()) else Sum.inl ((), false, ())) := by
  have hM : MM = 1048576 := rfl
  have hl := hw.2 _ (getD_mem _ z_Spoke i hi)
  have hw1 := hw.1
  have run := walk_run0 (step := spec_WheelOk_s27) (x := (w.2.1.getD i z_Spoke).1) z_Timer (st := fun j (_ : Unit) => ((), w, (i : Int), (j : Int), ()))
    (f := fun _ e _ => bif modT i e then .inr () else .inl (Sum.inl ((), false, ()))) (fin := fun _ => Sum.inr ((), w, (i : Int), ())) (fun _ _ => True)
    (fun j _ hj _ rec => by
      unfold spec_WheelOk_s27
      obtain ⟨s, hs⟩ : ∃ s, s = w.2.1.getD (i : Int).toNat z_Spoke := ⟨_, rfl⟩
      have hs' : s = w.2.1.getD i z_Spoke := hs
      rw [← hs'] at hj hl
      refine (bif_t (by simp; omega)).trans ?_
      refine (bif_t (by simp; omega)).trans ?_
      rw [← hs, ← hs']
      refine (bif_t (by simp; omega)).trans ?_
      refine (bif_t (by simp; omega)).trans ?_
      refine (bif_t (by simp; omega)).trans ?_
      refine (bif_t (by simp; omega)).trans ?_
      refine (bif_t (by simp; omega)).trans ?_
      have hwi : IntKind.wrap .i64 ((j : Int) + 1) = ((j + 1 : Nat) : Int) := w64 (by omega)
      unfold modT
      obtain ⟨e, he⟩ : ∃ e, e = s.1.getD (j : Int).toNat z_Timer := ⟨_, rfl⟩
      have he' : e = s.1.getD j z_Timer := he
      rw [← he, ← he']
      simp only [hwi]
      generalize decide (Int.tmod e.2.1 8 = (i : Int)) = b
      cases b <;> rfl)
    (fun _ _ _ _ _ _ => trivial) (fun _ _ rec => by
      unfold spec_WheelOk_s27
      obtain ⟨s, hs⟩ : ∃ s, s = w.2.1.getD (i : Int).toNat z_Spoke := ⟨_, rfl⟩
      have hs' : s = w.2.1.getD i z_Spoke := hs
      refine (bif_t (by simp; omega)).trans ?_
      refine (bif_t (by simp; omega)).trans ?_
      rw [← hs, ← hs']
      exact bif_f (by simp)) (k := k) (by omega) (a := ()) trivial
  rw [show iter spec_WheelOk_s27 k ((), w, (i : Int), (0 : Int), ()) = _ from run]
  congr 1
  have : ∀ (l : List D_Timer) (j : Nat), walk (fun _ e _ => bif modT i e then Sum.inr () else Sum.inl (Sum.inl ((), false, ()))) (fun (_ : Unit) => (Sum.inr ((), w, (i : Int), ()) : (Unit × (Bool × Unit)) ⊕ (Unit × (D_Wheel × (Int × Unit))))) l j () = bif l.all (modT i) then Sum.inr ((), w, (i : Int), ()) else Sum.inl ((), false, ()) := by
    intro l
    induction l with
    | nil => intro j; simp [walk]
    | cons e l ih =>
      intro j
      simp only [walk, List.all_cons]
      cases modT i e with
      | true => simp only [cond_true, Sum.elim_inr, Bool.true_and]; exact ih _
      | false => rfl
  exact this _ 0
theorem mod_run (k : Nat) (hk : MM < k) (w : D_Wheel) (h8 : w.2.1.length = 8) (hw : fitW w) :
    iter (spec_WheelOk_s24 k) k ((), w, (0 : Int), ()) = some (bif modW w.2.1 0 then Sum.inr ((), ()) else Sum.inl ((), false, ())) := by
  have hM : MM = 1048576 := rfl
  have run := walk_run0 (step := spec_WheelOk_s24 k) (x := w.2.1) z_Spoke (st := fun j (_ : Unit) => ((), w, (j : Int), ()))
    (f := fun j s _ => bif s.1.all (modT j) then .inr () else .inl (Sum.inl ((), false, ()))) (fin := fun _ => Sum.inr ((), ())) (fun _ _ => True)
    (fun j _ hj _ rec => by
      unfold spec_WheelOk_s24
      refine (bif_t (by simp; omega)).trans ?_
      refine (congrArg (fun o => Option.bind o _) (modI_run k hk w hw j hj)).trans ?_
      have hwi : IntKind.wrap .i64 ((j : Int) + 1) = ((j + 1 : Nat) : Int) := w64 (by omega)
      cases (w.2.1.getD j z_Spoke).1.all (modT j) with
      | true => simp only [cond_true, Option.bind_some, Sum.elim_inr, hwi]
      | false => rfl)
    (fun _ _ _ _ _ _ => trivial) (fun _ _ rec => by
      unfold spec_WheelOk_s24
      exact bif_f (by simp; omega)) (k := k) (by omega) (a := ()) trivial
  rw [show iter (spec_WheelOk_s24 k) k ((), w, (0 : Int), ()) = _ from run]
  congr 1
  have : ∀ (l : List D_Spoke) (j : Nat), walk (fun (j : Nat) (s : D_Spoke) _ => bif s.1.all (modT j) then Sum.inr () else Sum.inl (Sum.inl ((), false, ()))) (fun (_ : Unit) => (Sum.inr ((), ()) : (Unit × (Bool × Unit)) ⊕ (Unit × Unit))) l j () = bif modW l (j : Int) then Sum.inr ((), ()) else Sum.inl ((), false, ()) := by
    intro l
    induction l with
    | nil => intro j; simp [walk, modW]
    | cons s l ih =>
      intro j
      simp only [walk, modW]
      cases s.1.all (modT j) with
      | true => simp only [cond_true, Sum.elim_inr, Bool.true_and]; exact ih (j + 1)
      | false => rfl
  exact this w.2.1 0
def flatW (w : D_Wheel) : List D_Timer := w.2.1.flatMap (·.1)
def wheelS (w : D_Wheel) : Bool := (decide (0 ≤ w.1) && decide (w.1 ≤ 1000000000000)) && (decide (w.2.1.length = 8) && ((allS w.2.1 && decide (sumW w.2.1 ≤ 64)) && (!anyN (fun i => !okS w.1 (flatW w) i) (flatW w).length 0 && modW w.2.1 0)))
theorem specOk_eq (k : Nat) (hk : MM < k) (w : D_Wheel) (hw : fitW w) : spec_WheelOk k w = some ((wheelS w, ()), ()) := by
  have hM : MM = 1048576 := rfl
  unfold spec_WheelOk wheelS
  by_cases h1 : 0 ≤ w.1
  · by_cases h2 : w.1 ≤ 1000000000000
    · rw [bif_t (by simp; omega), bif_t (by simp; omega)]
      by_cases h8 : w.2.1.length = 8
      · rw [bif_f (by simp [h8]), sumS_run k hk w h8 hw]
        have e1 : (decide (0 ≤ w.1) && decide (w.1 ≤ 1000000000000)) = true := by simp [h1, h2]
        rw [e1, decide_eq_true h8]
        cases ha : allS w.2.1 with
        | false => rfl
        | true =>
          simp only [cond_true, Option.bind_some, Sum.elim_inr, Bool.true_and]
          by_cases hs : sumW w.2.1 ≤ 64
          · rw [bif_f (by simp; omega), all_run k hk w (by omega) (by omega), Option.bind_some, decide_eq_true hs, ids_run k hk w ⟨h1, h2⟩ _ (by rw [sumW_flat]; omega)]
            rw [show (w.2.1.flatMap (·.1)) = flatW w from rfl]
            cases anyN (fun i => !okS w.1 (flatW w) i) (flatW w).length 0 with
            | true => rfl
            | false =>
              simp only [cond_false, Option.bind_some, Sum.elim_inr, Bool.not_false, Bool.true_and]
              rw [mod_run k hk w h8 hw]
              cases modW w.2.1 0 <;> rfl
          · rw [bif_t (by simp; omega), decide_eq_false hs]; rfl
      · rw [bif_t (by simp; omega), decide_eq_false h8]; simp
    · rw [bif_t (by simp; omega), bif_f (by simp; omega), decide_eq_false h2]; simp
  · rw [bif_f (by simp; omega), decide_eq_false h1]; simp
end Go.Tw
