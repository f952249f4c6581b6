/- Plain facts on the mirrors of the functions are proved here. -/
import Derived.Test.YtmjacadeccoclaaPw2
set_option linter.all false
namespace Go.Tw
open Go Go.RowKit

theorem okT_iff (now i : Int) : ∀ (l : List D_Timer) (ids : List Int), ids.Nodup → (okT now i l ids = true ↔ (∀ e ∈ l, goodT now i e = true) ∧ (ids ++ l.map (·.1)).Nodup)
  | [], ids, h => by simp [okT, h]
  | e :: l, ids, h => by
    simp only [okT, Bool.and_eq_true, Bool.not_eq_true', decide_eq_false_iff_not, List.mem_cons, List.map_cons]
    by_cases hm : e.1 ∈ ids
    · constructor
      · rintro ⟨⟨_, h2⟩, _⟩; exact absurd hm h2
      · rintro ⟨_, h2⟩
        exact absurd rfl ((List.nodup_append.1 h2).2.2 _ hm _ (by simp))
    · have hn : (ids ++ [e.1]).Nodup := List.nodup_append.2 ⟨h, by simp, fun a ha b hb => by simp at hb; subst hb; rintro rfl; exact hm ha⟩
      rw [okT_iff now i l _ hn]
      simp only [List.append_assoc, List.cons_append, List.nil_append]
      constructor
      · rintro ⟨⟨h1, _⟩, h3, h4⟩
        exact ⟨fun x hx => hx.elim (fun e => e ▸ h1) (fun hx => h3 x hx), h4⟩
      · rintro ⟨h1, h2⟩
        exact ⟨⟨h1 e (.inl rfl), hm⟩, fun x hx => h1 x (.inr hx), h2⟩
def GoodW (now : Int) (ss : List D_Spoke) (i : Nat) : Prop := ∀ (j : Nat) s, ss[j]? = some s → ∀ e ∈ s.1, goodT now ((i + j : Nat) : Int) e = true
theorem GoodW_cons {now : Int} {s : D_Spoke} {ss : List D_Spoke} {i : Nat} : GoodW now (s :: ss) i ↔ (∀ e ∈ s.1, goodT now (i : Int) e = true) ∧ GoodW now ss (i + 1) := by
  constructor
  · intro h
    exact ⟨fun e he => by simpa using h 0 s rfl e he, fun j t hj e he => by have := h (j + 1) t (by simpa using hj) e he; rwa [show i + (j + 1) = i + 1 + j by omega] at this⟩
  · rintro ⟨h1, h2⟩ j t hj e he
    cases j with
    | zero => simp at hj; subst hj; simpa using h1 e he
    | succ j => rw [show i + (j + 1) = i + 1 + j by omega]; exact h2 j t (by simpa using hj) e he
theorem okW_iff (now : Int) : ∀ (ss : List D_Spoke) (i : Nat) (ids : List Int), ids.Nodup → (okW now ss (i : Int) ids = true ↔ GoodW now ss i ∧ (ids ++ ss.flatMap fun s => s.1.map (·.1)).Nodup)
  | [], i, ids, h => by simp [okW, h, GoodW]
  | s :: ss, i, ids, h => by
    simp only [okW, Bool.and_eq_true, GoodW_cons, List.flatMap_cons]
    rw [okT_iff now i s.1 ids h]
    constructor
    · rintro ⟨⟨h1, h2⟩, h3⟩
      have := (okW_iff now ss (i + 1) _ h2).1 h3
      exact ⟨⟨h1, this.1⟩, by simpa using this.2⟩
    · rintro ⟨⟨h1, h2⟩, h3⟩
      have hn : (ids ++ s.1.map (·.1)).Nodup := by
        rw [← List.append_assoc] at h3
        exact (List.nodup_append.1 h3).1
      exact ⟨⟨h1, hn⟩, (okW_iff now ss (i + 1) _ hn).2 ⟨h2, by simpa using h3⟩⟩
structure WheelP (w : D_Wheel) : Prop where
  now : nowP w.1
  len : w.2.1.length = 8
  sum : sumW w.2.1 ≤ 64
  good : GoodW w.1 w.2.1 0
  nodup : ((flatW w).map (·.1)).Nodup
theorem wheelI_iff (w : D_Wheel) : wheelI w = true ↔ WheelP w := by
  unfold wheelI
  simp only [Bool.and_eq_true, decide_eq_true_eq]
  rw [show okW w.1 w.2.1 0 [] = okW w.1 w.2.1 ((0 : Nat) : Int) [] from rfl, okW_iff w.1 w.2.1 0 [] (by simp)]
  have e1 : (idsW w).length = sumW w.2.1 := ids_len _
  rw [e1, List.nil_append, ids_flat]
  constructor
  · rintro ⟨⟨h1, h2⟩, h3, ⟨h4, h5⟩, h6⟩
    exact ⟨⟨h1, h2⟩, h3, h6, h4, h5⟩
  · rintro ⟨⟨h1, h2⟩, h3, h4, h5, h6⟩
    exact ⟨⟨h1, h2⟩, h3, ⟨h5, h6⟩, h4⟩
theorem modW_iff : ∀ (ss : List D_Spoke) (i : Nat), modW ss (i : Int) = true ↔ ∀ (j : Nat) s, ss[j]? = some s → ∀ e ∈ s.1, modT ((i + j : Nat) : Int) e = true
  | [], i => by simp [modW]
  | s :: ss, i => by
    simp only [modW, Bool.and_eq_true, List.all_eq_true]
    rw [show (i : Int) + 1 = ((i + 1 : Nat) : Int) from rfl, modW_iff ss (i + 1)]
    constructor
    · rintro ⟨h1, h2⟩ j t hj e he
      cases j with
      | zero => simp at hj; subst hj; exact h1 e he
      | succ j => rw [show i + (j + 1) = i + 1 + j by omega]; exact h2 j t (by simpa using hj) e he
    · intro h
      exact ⟨fun e he => h 0 s rfl e he, fun j t hj e he => by have := h (j + 1) t (by simpa using hj) e he; rwa [show i + (j + 1) = i + 1 + j by omega] at this⟩
theorem nodup_iff (l : List D_Timer) : (∀ i, i < l.length → dupAt l i = false) ↔ (l.map (·.1)).Nodup := by
  rw [List.nodup_iff_pairwise_ne, List.pairwise_iff_getElem]
  simp only [List.length_map, List.getElem_map]
  constructor
  · intro h i j hi hj hij he
    have := h j hj
    rw [← Bool.not_eq_true, dupAt, anyN_iff] at this
    exact this ⟨i, by omega, by omega, by rw [getD_at l z_Timer i hi, getD_at l z_Timer j hj, he]; simp⟩
  · intro h i hi
    rw [← Bool.not_eq_true, dupAt, anyN_iff]
    rintro ⟨j, _, hj, he⟩
    rw [getD_at l z_Timer i hi, getD_at l z_Timer j (by omega)] at he
    exact h j i (by omega) hi (by omega) (by simpa using he)
theorem wheelS_iff (w : D_Wheel) : wheelS w = true ↔ WheelP w := by
  unfold wheelS
  simp only [Bool.and_eq_true, decide_eq_true_eq, Bool.not_eq_true']
  rw [show modW w.2.1 0 = modW w.2.1 ((0 : Nat) : Int) from rfl, modW_iff w.2.1 0]
  have hany : anyN (fun i => !okS w.1 (flatW w) i) (flatW w).length 0 = false ↔ ∀ i, i < (flatW w).length → okS w.1 (flatW w) i = true := by
    rw [← Bool.not_eq_true, anyN_iff]
    constructor
    · intro h i hi
      cases ho : okS w.1 (flatW w) i with
      | true => rfl
      | false => exact absurd ⟨i, by omega, by omega, by simp [ho]⟩ h
    · rintro h ⟨i, _, hi, ho⟩
      have := h i (by omega)
      simp [this] at ho
  rw [hany]
  have hmem : ∀ e, e ∈ flatW w ↔ ∃ (j : Nat) (s : D_Spoke), w.2.1[j]? = some s ∧ e ∈ s.1 := by
    intro e
    unfold flatW
    rw [List.mem_flatMap]
    constructor
    · rintro ⟨s, hs, he⟩
      obtain ⟨j, hj⟩ := List.mem_iff_getElem?.1 hs
      exact ⟨j, s, hj, he⟩
    · rintro ⟨j, s, hj, he⟩
      exact ⟨s, List.mem_iff_getElem?.2 ⟨j, hj⟩, he⟩
  constructor
  · rintro ⟨⟨h1, h2⟩, h3, ⟨h4, h5⟩, h6, h7⟩
    have hok : ∀ i, i < (flatW w).length → ((0 ≤ ((flatW w).getD i z_Timer).1 ∧ ((flatW w).getD i z_Timer).1 ≤ 9999) ∧ (w.1 + 1 ≤ ((flatW w).getD i z_Timer).2.1 ∧ ((flatW w).getD i z_Timer).2.1 ≤ w.1 + 1000)) ∧ dupAt (flatW w) i = false := by
      intro i hi
      have := h6 i hi
      unfold okS at this
      simpa [Bool.and_eq_true, decide_eq_true_eq] using this
    refine ⟨⟨h1, h2⟩, h3, h5, fun j s hj e he => ?_, (nodup_iff _).1 fun i hi => (hok i hi).2⟩
    obtain ⟨i, hi, rfl⟩ := List.mem_iff_getElem.1 ((hmem e).2 ⟨j, s, hj, he⟩)
    have h8 := (hok i hi).1
    rw [getD_at _ z_Timer i hi] at h8
    have h9 := h7 j s hj _ he
    unfold modT at h9
    unfold goodT
    simp only [Bool.and_eq_true, decide_eq_true_eq] at h9 ⊢
    exact ⟨h8.1, h8.2, h9⟩
  · rintro ⟨⟨h1, h2⟩, h3, h4, h5, h6⟩
    refine ⟨⟨h1, h2⟩, h3, ⟨?_, h4⟩, fun i hi => ?_, fun j s hj e he => ?_⟩
    · unfold allS
      rw [List.all_eq_true]
      intro s hs
      have := sumW_le _ s hs
      simp; omega
    · have hd := (nodup_iff _).2 h6 i hi
      obtain ⟨j, s, hj, he⟩ := (hmem _).1 (getD_mem (flatW w) z_Timer i hi)
      have := h5 j s hj _ he
      unfold goodT at this
      unfold okS
      rw [hd]
      simp only [Bool.and_eq_true, decide_eq_true_eq] at this ⊢
      exact ⟨⟨this.1, this.2.1⟩, rfl⟩
    · have := h5 j s hj e he
      unfold goodT at this
      unfold modT
      simp only [Bool.and_eq_true, decide_eq_true_eq] at this ⊢
      exact this.2.2
theorem wheel_eq (w : D_Wheel) : wheelS w = wheelI w := by
  rw [Bool.eq_iff_iff, wheelS_iff, wheelI_iff]
end Go.Tw
