/- Plain facts on the mirrors of the functions are proved here. -/
import Derived.Test.YtmjacadeccoclaaPl1
set_option linter.all false
namespace Go.Tw
open Go Go.RowKit

theorem getD_e (l : List D_Job) (i : Nat) (e : D_Job) (h : l[i]? = some e) : l.getD i z_Job = e := by
  rw [List.getD_eq_getElem?_getD, h]; rfl
theorem idx3 {X Y Z : List D_Job} {p q r : D_Job → Bool} :
    (∀ i, i < ((X ++ Y) ++ Z).length → (bif decide (X.length ≤ i) then (bif decide (X.length + Y.length ≤ i) then r (((X ++ Y) ++ Z).getD i z_Job) else q (((X ++ Y) ++ Z).getD i z_Job)) else p (((X ++ Y) ++ Z).getD i z_Job)) = true) ↔
      (∀ e ∈ X, p e = true) ∧ (∀ e ∈ Y, q e = true) ∧ (∀ e ∈ Z, r e = true) := by
  constructor
  · intro h
    refine ⟨fun e he => ?_, fun e he => ?_, fun e he => ?_⟩
    · obtain ⟨i, hi, rfl⟩ := List.mem_iff_getElem.1 he
      have := h i (by simp; omega)
      rw [show decide (X.length ≤ i) = false by simpa using hi] at this
      rw [getD_e _ i X[i] (by rw [List.append_assoc, List.getElem?_append_left hi]; simp [hi])] at this
      exact this
    · obtain ⟨i, hi, rfl⟩ := List.mem_iff_getElem.1 he
      have := h (X.length + i) (by simp; omega)
      rw [show decide (X.length ≤ X.length + i) = true by simp, show decide (X.length + Y.length ≤ X.length + i) = false by simp; omega] at this
      rw [getD_e _ (X.length + i) Y[i] (by rw [List.append_assoc, List.getElem?_append_right (by omega), Nat.add_sub_cancel_left, List.getElem?_append_left hi]; simp [hi])] at this
      exact this
    · obtain ⟨i, hi, rfl⟩ := List.mem_iff_getElem.1 he
      have := h (X.length + Y.length + i) (by simp; omega)
      rw [show decide (X.length ≤ X.length + Y.length + i) = true by simp; omega, show decide (X.length + Y.length ≤ X.length + Y.length + i) = true by simp] at this
      rw [getD_e _ (X.length + Y.length + i) Z[i] (by rw [List.getElem?_append_right (by simp), List.length_append, Nat.add_sub_cancel_left]; simp [hi])] at this
      exact this
  · rintro ⟨h1, h2, h3⟩ i hi
    simp only [List.length_append] at hi
    by_cases hx : X.length ≤ i
    · by_cases hy : X.length + Y.length ≤ i
      · rw [show decide (X.length ≤ i) = true by simpa using hx, show decide (X.length + Y.length ≤ i) = true by simpa using hy]
        have hz : i - (X ++ Y).length < Z.length := by simp; omega
        rw [getD_e _ i Z[i - (X ++ Y).length] (by rw [List.getElem?_append_right (by simp; omega)]; simp at hz; simp [hz])]
        exact h3 _ (List.getElem_mem _)
      · rw [show decide (X.length ≤ i) = true by simpa using hx, show decide (X.length + Y.length ≤ i) = false by simpa using hy]
        have hz : i - X.length < Y.length := by omega
        rw [getD_e _ i Y[i - X.length] (by rw [List.append_assoc, List.getElem?_append_right (by omega), List.getElem?_append_left hz]; simp [hz])]
        exact h2 _ (List.getElem_mem _)
    · rw [show decide (X.length ≤ i) = false by simpa using hx]
      have hz : i < X.length := by omega
      rw [getD_e _ i X[i] (by rw [List.append_assoc, List.getElem?_append_left hz]; simp [hz])]
      exact h1 _ (List.getElem_mem _)
theorem dup_iff (l : List D_Job) : (∀ i, i < l.length → dupAt l i = false) ↔ (l.map (·.1)).Nodup := by
  have key : ∀ i, dupAt l i = false ↔ ∀ j, j < i → (l.getD j z_Job).1 ≠ (l.getD i z_Job).1 := fun i => by
    rw [← Bool.not_eq_true, dupAt, anyN_iff]
    simp only [decide_eq_true_eq]
    constructor
    · intro h j hj e; exact h ⟨j, by omega, by omega, e⟩
    · rintro h ⟨j, _, hj, e⟩; exact h j (by omega) e
  unfold List.Nodup
  rw [List.pairwise_iff_getElem]
  constructor
  · intro h i j hi hj hij
    simp only [List.length_map] at hi hj
    have := (key j).1 (h j hj) i hij
    rw [getD_at l z_Job i hi, getD_at l z_Job j hj] at this
    simpa using this
  · intro h i hi
    rw [key]
    intro j hj
    rw [getD_at l z_Job i hi, getD_at l z_Job j (by omega)]
    have h9 := h j i (by rw [List.length_map]; omega) (by rw [List.length_map]; exact hi) hj
    rw [List.getElem_map, List.getElem_map] at h9
    exact h9
theorem ids_iff (l : List D_Job) : (∀ i, i < l.length → idOk (l.getD i z_Job) = true) ↔ ∀ e ∈ l, idOk e = true := by
  constructor
  · intro h e he
    obtain ⟨i, hi, rfl⟩ := List.mem_iff_getElem.1 he
    have := h i hi
    rwa [getD_at l z_Job i hi] at this
  · intro h i hi
    rw [getD_at l z_Job i hi]; exact h _ (List.getElem_mem _)
def LineP (x : D_Line) : Prop := capB x = true ∧ (∀ e ∈ x.2.1, nA e = true) ∧ (∀ e ∈ x.2.2.1, nB e = true) ∧ (∀ e ∈ x.2.2.2.1, nC e = true) ∧
  (∀ e ∈ (x.2.1 ++ x.2.2.1) ++ x.2.2.2.1, idOk e = true) ∧ (((x.2.1 ++ x.2.2.1) ++ x.2.2.2.1).map (·.1)).Nodup
theorem none_iff (p : Nat → Bool) (n : Nat) : (!anyN (fun i => !p i) n 0) = true ↔ ∀ i, i < n → p i = true := by
  rw [Bool.not_eq_true', ← Bool.not_eq_true, anyN_iff]
  constructor
  · intro h i hi
    cases hp : p i with
    | true => rfl
    | false => exact absurd ⟨i, by omega, by omega, by simp [hp]⟩ h
  · rintro h ⟨j, _, hj, e⟩
    rw [h j (by omega)] at e; simp at e
theorem lineI_iff (x : D_Line) : lineI x = true ↔ LineP x := by
  have h3 := idx3 (X := x.2.1) (Y := x.2.2.1) (Z := x.2.2.2.1) (p := nA) (q := nB) (r := nC)
  have h4 := dup_iff ((x.2.1 ++ x.2.2.1) ++ x.2.2.2.1)
  have h5 := ids_iff ((x.2.1 ++ x.2.2.1) ++ x.2.2.2.1)
  unfold lineI LineP
  rw [Bool.and_eq_true, none_iff, ← h4, ← h5]
  refine and_congr_right fun _ => ?_
  have h6 : (∀ i, i < ((x.2.1 ++ x.2.2.1) ++ x.2.2.2.1).length → okI x.2.1.length x.2.2.1.length ((x.2.1 ++ x.2.2.1) ++ x.2.2.2.1) i = true) ↔
      (∀ i, i < ((x.2.1 ++ x.2.2.1) ++ x.2.2.2.1).length → (bif decide (x.2.1.length ≤ i) then (bif decide (x.2.1.length + x.2.2.1.length ≤ i) then nC (((x.2.1 ++ x.2.2.1) ++ x.2.2.2.1).getD i z_Job) else nB (((x.2.1 ++ x.2.2.1) ++ x.2.2.2.1).getD i z_Job)) else nA (((x.2.1 ++ x.2.2.1) ++ x.2.2.2.1).getD i z_Job)) = true) ∧
      (∀ i, i < ((x.2.1 ++ x.2.2.1) ++ x.2.2.2.1).length → idOk (((x.2.1 ++ x.2.2.1) ++ x.2.2.2.1).getD i z_Job) = true) ∧ (∀ i, i < ((x.2.1 ++ x.2.2.1) ++ x.2.2.2.1).length → dupAt ((x.2.1 ++ x.2.2.1) ++ x.2.2.2.1) i = false) := by
    have hn : ∀ i e, needI x.2.1.length x.2.2.1.length i e = bif decide (x.2.1.length ≤ i) then (bif decide (x.2.1.length + x.2.2.1.length ≤ i) then nC e else nB e) else nA e := fun i e => by
      unfold needI
      by_cases h : x.2.1.length ≤ i
      · simp [h]
      · have h2 : ¬ (x.2.1.length + x.2.2.1.length ≤ i) := by omega
        simp [h, h2]
    unfold okI
    simp only [Bool.and_eq_true, Bool.not_eq_true', hn]
    constructor
    · intro h; exact ⟨fun i hi => (h i hi).1, fun i hi => (h i hi).2.1, fun i hi => (h i hi).2.2⟩
    · rintro ⟨g1, g2, g3⟩ i hi; exact ⟨g1 i hi, g2 i hi, g3 i hi⟩
  rw [h6, h3]
  constructor
  · rintro ⟨⟨a, b, c⟩, d, e⟩; exact ⟨a, b, c, d, e⟩
  · rintro ⟨a, b, c, d, e⟩; exact ⟨⟨a, b, c⟩, d, e⟩
theorem lineS_iff (x : D_Line) : lineS x = true ↔ LineP x := by
  have h3 := idx3 (X := x.2.2.2.1) (Y := x.2.2.1) (Z := x.2.1) (p := nC) (q := nB) (r := nA)
  have h4 := dup_iff ((x.2.2.2.1 ++ x.2.2.1) ++ x.2.1)
  have h5 := ids_iff ((x.2.2.2.1 ++ x.2.2.1) ++ x.2.1)
  have hp : (((x.2.2.2.1 ++ x.2.2.1) ++ x.2.1).map (·.1)).Perm (((x.2.1 ++ x.2.2.1) ++ x.2.2.2.1).map (·.1)) := by
    refine List.Perm.map _ ?_
    refine List.perm_append_comm.trans ?_
    rw [List.append_assoc]
    exact List.Perm.append_left _ List.perm_append_comm
  unfold lineS LineP
  rw [Bool.and_eq_true, none_iff, ← hp.nodup_iff, ← h4]
  have h7 : (∀ e ∈ (x.2.1 ++ x.2.2.1) ++ x.2.2.2.1, idOk e = true) ↔ ∀ e ∈ (x.2.2.2.1 ++ x.2.2.1) ++ x.2.1, idOk e = true := by
    simp only [List.mem_append]
    constructor
    · rintro h e ((h1 | h1) | h1) <;> exact h e (by simp [h1])
    · rintro h e ((h1 | h1) | h1) <;> exact h e (by simp [h1])
  rw [h7, ← h5]
  refine and_congr_right fun _ => ?_
  have h6 : (∀ i, i < ((x.2.2.2.1 ++ x.2.2.1) ++ x.2.1).length → okS x.2.2.2.1.length x.2.2.1.length ((x.2.2.2.1 ++ x.2.2.1) ++ x.2.1) i = true) ↔
      (∀ i, i < ((x.2.2.2.1 ++ x.2.2.1) ++ x.2.1).length → (bif decide (x.2.2.2.1.length ≤ i) then (bif decide (x.2.2.2.1.length + x.2.2.1.length ≤ i) then nA (((x.2.2.2.1 ++ x.2.2.1) ++ x.2.1).getD i z_Job) else nB (((x.2.2.2.1 ++ x.2.2.1) ++ x.2.1).getD i z_Job)) else nC (((x.2.2.2.1 ++ x.2.2.1) ++ x.2.1).getD i z_Job)) = true) ∧
      (∀ i, i < ((x.2.2.2.1 ++ x.2.2.1) ++ x.2.1).length → idOk (((x.2.2.2.1 ++ x.2.2.1) ++ x.2.1).getD i z_Job) = true) ∧ (∀ i, i < ((x.2.2.2.1 ++ x.2.2.1) ++ x.2.1).length → dupAt ((x.2.2.2.1 ++ x.2.2.1) ++ x.2.1) i = false) := by
    unfold okS needS
    simp only [Bool.and_eq_true, Bool.not_eq_true']
    constructor
    · intro h; exact ⟨fun i hi => (h i hi).2.2, fun i hi => (h i hi).1, fun i hi => (h i hi).2.1⟩
    · rintro ⟨g1, g2, g3⟩ i hi; exact ⟨g2 i hi, g3 i hi, g1 i hi⟩
  rw [h6, h3]
  constructor
  · rintro ⟨⟨a, b, c⟩, d, e⟩; exact ⟨c, b, a, d, e⟩
  · rintro ⟨a, b, c, d, e⟩; exact ⟨⟨c, b, a⟩, d, e⟩
theorem line_eq (x : D_Line) : lineI x = lineS x := by
  rw [Bool.eq_iff_iff, lineI_iff, lineS_iff]
end Go.Tw
