/- Plain facts on the mirrors of the functions are proved here. -/
import Derived.Test.YtmjacadeccoclaaPl3
set_option linter.all false
namespace Go.Tw
open Go Go.RowKit

/-- when each job leaves: what the stages have done by then -/
def thr : List D_Job → Int → Int → Int → List Int
  | [], _, _, _ => []
  | e :: l, ta, tb, tc =>
    let ta1 := ta + e.2.1.1
    let tb1 := (if 0 < e.2.1.1 then imax tb ta1 else tb) + e.2.1.2.1
    let tc1 := (if 0 < e.2.1.2.1 then imax tc tb1 else tc) + e.2.1.2.2.1
    tc1 :: thr l ta1 tb1 tc1
/-- one tick later -/
def sh (x y : Int) : Prop := 0 ≤ y ∧ (y = x - 1 ∨ (x = 0 ∧ y = 0))
theorem sh_max {x y m : Int} (h : sh x y) (hm : 1 ≤ m) : imax y (m - 1) = imax x m - 1 := by
  unfold imax
  obtain ⟨h0, h1 | ⟨h1, h2⟩⟩ := h <;> split <;> split <;> omega
theorem one_iff (n : Int) : one n = true ↔ 1 ≤ n ∧ n ≤ 1000 := by unfold one; simp
theorem nA_iff (e : D_Job) : nA e = true ↔ (1 ≤ e.2.1.1 ∧ e.2.1.1 ≤ 1000) ∧ (1 ≤ e.2.1.2.1 ∧ e.2.1.2.1 ≤ 1000) ∧ (1 ≤ e.2.1.2.2.1 ∧ e.2.1.2.2.1 ≤ 1000) := by
  unfold nA; simp [one_iff]
theorem nB_iff (e : D_Job) : nB e = true ↔ e.2.1.1 = 0 ∧ (1 ≤ e.2.1.2.1 ∧ e.2.1.2.1 ≤ 1000) ∧ (1 ≤ e.2.1.2.2.1 ∧ e.2.1.2.2.1 ≤ 1000) := by
  unfold nB; simp [one_iff]
theorem nC_iff (e : D_Job) : nC e = true ↔ e.2.1.1 = 0 ∧ e.2.1.2.1 = 0 ∧ (1 ≤ e.2.1.2.2.1 ∧ e.2.1.2.2.1 ≤ 1000) := by
  unfold nC; simp [one_iff]
abbrev up (l : List Int) : List Int := l.map (· + 1)
/-- jobs of the first stage behind others -/
theorem thrA_rest : ∀ (L : List D_Job), (∀ e ∈ L, nA e = true) → ∀ {ta tb tb' tc tc' : Int}, 1 ≤ ta → sh tb tb' → sh tc tc' → thr L ta tb tc = up (thr L (ta - 1) tb' tc')
  | [], _, _, _, _, _, _, _, _, _ => rfl
  | e :: L, h, ta, tb, tb', tc, tc', h1, h2, h3 => by
    have he := (nA_iff e).1 (h e (by simp))
    have e1 := sh_max h2 (m := ta + e.2.1.1) (by omega)
    have hb1 : sh (imax tb (ta + e.2.1.1) + e.2.1.2.1) (imax tb' (ta - 1 + e.2.1.1) + e.2.1.2.1) := by
      rw [show ta - 1 + e.2.1.1 = ta + e.2.1.1 - 1 by omega, e1]
      refine ⟨?_, .inl (by omega)⟩
      have : ta + e.2.1.1 ≤ imax tb (ta + e.2.1.1) := by unfold imax; split <;> omega
      omega
    have hbig : 1 ≤ imax tb (ta + e.2.1.1) + e.2.1.2.1 := by
      have : ta + e.2.1.1 ≤ imax tb (ta + e.2.1.1) := by unfold imax; split <;> omega
      omega
    have e2 := sh_max h3 hbig
    have e3 : imax tb' (ta - 1 + e.2.1.1) + e.2.1.2.1 = imax tb (ta + e.2.1.1) + e.2.1.2.1 - 1 := by
      rw [show ta - 1 + e.2.1.1 = ta + e.2.1.1 - 1 by omega, e1]; omega
    have hc1 : sh (imax tc (imax tb (ta + e.2.1.1) + e.2.1.2.1) + e.2.1.2.2.1) (imax tc' (imax tb' (ta - 1 + e.2.1.1) + e.2.1.2.1) + e.2.1.2.2.1) := by
      rw [e3, e2]
      have : imax tb (ta + e.2.1.1) + e.2.1.2.1 ≤ imax tc (imax tb (ta + e.2.1.1) + e.2.1.2.1) := by unfold imax; split <;> omega
      exact ⟨by omega, .inl (by omega)⟩
    have ih := thrA_rest L (fun e he => h e (by simp [he])) (ta := ta + e.2.1.1) (by omega) hb1 hc1
    simp only [thr, up, List.map_cons]
    rw [if_pos (by omega), if_pos (by omega), if_pos (by omega), if_pos (by omega)]
    rw [ih, show ta + e.2.1.1 - 1 = ta - 1 + e.2.1.1 by omega]
    congr 1
    rw [e3, e2]; omega
theorem w_dec {n : Int} (h : 1 ≤ n ∧ n ≤ 1000) : IntKind.wrap .i64 (n - 1) = n - 1 := w64 (by omega)
/-- the first stage -/
theorem thrA (A : List D_Job) (h : ∀ e ∈ A, nA e = true) {tb tb' tc tc' : Int} (h2 : sh tb tb') (h3 : sh tc tc') :
    thr A 0 tb tc = up (thr ((tickA A).2 ++ (tickA A).1) 0 tb' tc') := by
  cases A with
  | nil => rfl
  | cons e L =>
    have he := (nA_iff e).1 (h e (by simp))
    have hw := w_dec he.1
    have e1 := sh_max h2 (m := e.2.1.1) (by omega)
    have hm : e.2.1.1 ≤ imax tb e.2.1.1 := by unfold imax; split <;> omega
    have e2 := sh_max h3 (m := imax tb e.2.1.1 + e.2.1.2.1) (by omega)
    have hm2 : imax tb e.2.1.1 + e.2.1.2.1 ≤ imax tc (imax tb e.2.1.1 + e.2.1.2.1) := by unfold imax; split <;> omega
    have hB : sh (imax tb e.2.1.1 + e.2.1.2.1) (imax tb e.2.1.1 + e.2.1.2.1 - 1) := ⟨by omega, .inl rfl⟩
    have hC : sh (imax tc (imax tb e.2.1.1 + e.2.1.2.1) + e.2.1.2.2.1) (imax tc (imax tb e.2.1.1 + e.2.1.2.1) + e.2.1.2.2.1 - 1) := ⟨by omega, .inl rfl⟩
    have ih := thrA_rest L (fun e he => h e (by simp [he])) (ta := e.2.1.1) (by omega) hB hC
    by_cases g : IntKind.wrap .i64 (e.2.1.1 - 1) = 0
    · simp only [tickA, g, decide_true, cond_true, List.singleton_append]
      simp only [thr, up, List.map_cons, decA, g]
      have p1 : 0 < e.2.1.1 := by omega
      have p2 : 0 < e.2.1.2.1 := by omega
      have p3 : ¬ ((0 : Int) < 0) := by omega
      simp only [p1, p2, p3, ↓reduceIte]
      have h1 : e.2.1.1 = 1 := by rw [hw] at g; omega
      have h4 : tb' + e.2.1.2.1 = imax tb e.2.1.1 + e.2.1.2.1 - 1 := by
        rw [h1]
        obtain ⟨p0, p1 | ⟨p1, p2⟩⟩ := h2 <;> unfold imax <;> split <;> omega
      rw [h4, e2]
      simp only [Int.zero_add, Int.add_zero]
      rw [ih, h1]
      simp only [Int.sub_self]
      congr 1
      · omega
      · rw [show imax tc (imax tb 1 + e.2.1.2.1) - 1 + e.2.1.2.2.1 = imax tc (imax tb 1 + e.2.1.2.1) + e.2.1.2.2.1 - 1 by omega]
    · simp only [tickA, g, decide_false, cond_false, List.nil_append]
      simp only [thr, up, List.map_cons, decA, hw]
      rw [hw] at g
      rw [if_pos (by omega), if_pos (by omega), if_pos (by omega), if_pos (by omega)]
      simp only [Int.zero_add]
      rw [e1, show imax tb e.2.1.1 - 1 + e.2.1.2.1 = imax tb e.2.1.1 + e.2.1.2.1 - 1 by omega, e2, ih]
      congr 1
      · omega
      · rw [show imax tc (imax tb e.2.1.1 + e.2.1.2.1) - 1 + e.2.1.2.2.1 = imax tc (imax tb e.2.1.1 + e.2.1.2.1) + e.2.1.2.2.1 - 1 by omega]
theorem thrB_rest {R R' : List D_Job} (hR : ∀ tb tb' tc tc' : Int, sh tb tb' → sh tc tc' → thr R 0 tb tc = up (thr R' 0 tb' tc')) :
    ∀ (L : List D_Job), (∀ e ∈ L, nB e = true) → ∀ {tb tc tc' : Int}, 1 ≤ tb → sh tc tc' → thr (L ++ R) 0 tb tc = up (thr (L ++ R') 0 (tb - 1) tc')
  | [], _, tb, tc, tc', h1, h2 => hR tb (tb - 1) tc tc' ⟨by omega, .inl rfl⟩ h2
  | e :: L, h, tb, tc, tc', h1, h2 => by
    have he := (nB_iff e).1 (h e (by simp))
    have e2 := sh_max h2 (m := tb + e.2.1.2.1) (by omega)
    have hm : tb + e.2.1.2.1 ≤ imax tc (tb + e.2.1.2.1) := by unfold imax; split <;> omega
    have hC : sh (imax tc (tb + e.2.1.2.1) + e.2.1.2.2.1) (imax tc (tb + e.2.1.2.1) + e.2.1.2.2.1 - 1) := ⟨by omega, .inl rfl⟩
    have ih := thrB_rest hR L (fun e he => h e (by simp [he])) (tb := tb + e.2.1.2.1) (by omega) hC
    have p1 : ¬ ((0 : Int) < 0) := by omega
    have p2 : 0 < e.2.1.2.1 := by omega
    simp only [List.cons_append, thr, up, List.map_cons, p1, p2, ↓reduceIte, he.1, Int.add_zero]
    rw [show tb - 1 + e.2.1.2.1 = tb + e.2.1.2.1 - 1 by omega, e2]
    rw [show imax tc (tb + e.2.1.2.1) - 1 + e.2.1.2.2.1 = imax tc (tb + e.2.1.2.1) + e.2.1.2.2.1 - 1 by omega, ih]
    congr 1
    omega
theorem thrB {R R' : List D_Job} (hR : ∀ tb tb' tc tc' : Int, sh tb tb' → sh tc tc' → thr R 0 tb tc = up (thr R' 0 tb' tc')) (B : List D_Job) (h : ∀ e ∈ B, nB e = true) {tc tc' : Int} (h2 : sh tc tc') :
    thr (B ++ R) 0 0 tc = up (thr ((tickB B).2 ++ ((tickB B).1 ++ R')) 0 0 tc') := by
  cases B with
  | nil => exact hR 0 0 tc tc' ⟨by omega, .inr ⟨rfl, rfl⟩⟩ h2
  | cons e L =>
    have he := (nB_iff e).1 (h e (by simp))
    have hw := w_dec he.2.1
    have e2 := sh_max h2 (m := e.2.1.2.1) (by omega)
    have hm : e.2.1.2.1 ≤ imax tc e.2.1.2.1 := by unfold imax; split <;> omega
    have hC : sh (imax tc e.2.1.2.1 + e.2.1.2.2.1) (imax tc e.2.1.2.1 + e.2.1.2.2.1 - 1) := ⟨by omega, .inl rfl⟩
    have ih := thrB_rest hR L (fun e he => h e (by simp [he])) (tb := e.2.1.2.1) (by omega) hC
    have p1 : ¬ ((0 : Int) < 0) := by omega
    have p2 : 0 < e.2.1.2.1 := by omega
    by_cases g : IntKind.wrap .i64 (e.2.1.2.1 - 1) = 0
    · simp only [tickB, g, decide_true, cond_true, List.singleton_append]
      have h1 : e.2.1.2.1 = 1 := by rw [hw] at g; omega
      simp only [List.cons_append, thr, up, List.map_cons, decB, g, he.1, p1, p2, ↓reduceIte, Int.add_zero, Int.zero_add]
      rw [ih, h1]
      have h4 : tc' = imax tc 1 - 1 := by
        obtain ⟨p0, p1 | ⟨p1, p2⟩⟩ := h2 <;> unfold imax <;> split <;> omega
      rw [h4, show imax tc 1 - 1 + e.2.1.2.2.1 = imax tc 1 + e.2.1.2.2.1 - 1 by omega]
      simp only [Int.sub_self]
      congr 1
      omega
    · simp only [tickB, g, decide_false, cond_false, List.nil_append]
      rw [hw] at g
      have p3 : 0 < e.2.1.2.1 - 1 := by omega
      simp only [List.cons_append, thr, up, List.map_cons, decB, hw, he.1, p1, p2, p3, ↓reduceIte, Int.add_zero, Int.zero_add]
      rw [e2, show imax tc e.2.1.2.1 - 1 + e.2.1.2.2.1 = imax tc e.2.1.2.1 + e.2.1.2.2.1 - 1 by omega, ih]
      congr 1
      omega
theorem thrC_rest {R R' : List D_Job} (hR : ∀ tc tc' : Int, sh tc tc' → thr R 0 0 tc = up (thr R' 0 0 tc')) :
    ∀ (L : List D_Job), (∀ e ∈ L, nC e = true) → ∀ {tc : Int}, 1 ≤ tc → thr (L ++ R) 0 0 tc = up (thr (L ++ R') 0 0 (tc - 1))
  | [], _, tc, h1 => hR tc (tc - 1) ⟨by omega, .inl rfl⟩
  | e :: L, h, tc, h1 => by
    have he := (nC_iff e).1 (h e (by simp))
    have ih := thrC_rest hR L (fun e he => h e (by simp [he])) (tc := tc + e.2.1.2.2.1) (by omega)
    have p1 : ¬ ((0 : Int) < 0) := by omega
    simp only [List.cons_append, thr, up, List.map_cons, he.1, he.2.1, p1, ↓reduceIte, Int.add_zero]
    rw [ih, show tc - 1 + e.2.1.2.2.1 = tc + e.2.1.2.2.1 - 1 by omega]
    congr 1
    omega
def goneT : List D_Job → List Int
  | [] => []
  | e :: _ => bif decide (IntKind.wrap .i64 (e.2.1.2.2.1 - 1) = 0) then [1] else []
theorem thrC {R R' : List D_Job} (hR : ∀ tc tc' : Int, sh tc tc' → thr R 0 0 tc = up (thr R' 0 0 tc')) (C : List D_Job) (h : ∀ e ∈ C, nC e = true) :
    thr (C ++ R) 0 0 0 = goneT C ++ up (thr ((tickC C).1 ++ R') 0 0 0) := by
  cases C with
  | nil => exact hR 0 0 ⟨by omega, .inr ⟨rfl, rfl⟩⟩
  | cons e L =>
    have he := (nC_iff e).1 (h e (by simp))
    have hw := w_dec he.2.2
    have ih := thrC_rest hR L (fun e he => h e (by simp [he])) (tc := e.2.1.2.2.1) (by omega)
    have p1 : ¬ ((0 : Int) < 0) := by omega
    by_cases g : IntKind.wrap .i64 (e.2.1.2.2.1 - 1) = 0
    · have h1 : e.2.1.2.2.1 = 1 := by rw [hw] at g; omega
      simp only [tickC, goneT, g, decide_true, cond_true, List.singleton_append]
      simp only [List.cons_append, thr, he.1, he.2.1, p1, ↓reduceIte, Int.add_zero, Int.zero_add]
      rw [ih, h1]
      simp only [Int.sub_self]
    · simp only [tickC, goneT, g, decide_false, cond_false, List.nil_append]
      simp only [List.cons_append, thr, up, List.map_cons, decC, hw, he.1, he.2.1, p1, ↓reduceIte, Int.add_zero, Int.zero_add]
      rw [ih]
      congr 1
      omega
def NeedsOk (x : D_Line) : Prop := (∀ e ∈ x.2.1, nA e = true) ∧ (∀ e ∈ x.2.2.1, nB e = true) ∧ (∀ e ∈ x.2.2.2.1, nC e = true)
abbrev allJ (x : D_Line) : List D_Job := (x.2.2.2.1 ++ x.2.2.1) ++ x.2.1
/-- one tick takes one off everything -/
theorem tick_thr (x : D_Line) (h : NeedsOk x) : thr (allJ x) 0 0 0 = goneT x.2.2.2.1 ++ up (thr (allJ (tick x).1) 0 0 0) := by
  obtain ⟨h1, h2, h3⟩ := h
  have hA : ∀ tb tb' tc tc' : Int, sh tb tb' → sh tc tc' → thr x.2.1 0 tb tc = up (thr ((tickA x.2.1).2 ++ (tickA x.2.1).1) 0 tb' tc') := fun tb tb' tc tc' g1 g2 => thrA x.2.1 h1 g1 g2
  have hB : ∀ tc tc' : Int, sh tc tc' → thr (x.2.2.1 ++ x.2.1) 0 0 tc = up (thr ((tickB x.2.2.1).2 ++ ((tickB x.2.2.1).1 ++ ((tickA x.2.1).2 ++ (tickA x.2.1).1))) 0 0 tc') := fun tc tc' g => thrB hA x.2.2.1 h2 g
  have hC := thrC hB x.2.2.2.1 h3
  unfold allJ tick
  simp only [List.append_assoc]
  exact hC
theorem tick_needs (x : D_Line) (h : NeedsOk x) : NeedsOk (tick x).1 := by
  obtain ⟨h1, h2, h3⟩ := h
  have hA : (∀ e ∈ (tickA x.2.1).1, nA e = true) ∧ (∀ e ∈ (tickA x.2.1).2, nB e = true) := by
    cases hx : x.2.1 with
    | nil => simp [tickA]
    | cons e L =>
      rw [hx] at h1
      have he := (nA_iff e).1 (h1 e (by simp))
      have hw := w_dec he.1
      by_cases g : IntKind.wrap .i64 (e.2.1.1 - 1) = 0
      · simp only [tickA, g, decide_true, cond_true]
        refine ⟨fun a ha => h1 a (by simp [ha]), fun a ha => ?_⟩
        simp only [List.mem_singleton] at ha; subst ha
        rw [nB_iff]
        exact ⟨g, he.2.1, he.2.2⟩
      · simp only [tickA, g, decide_false, cond_false]
        refine ⟨fun a ha => ?_, by simp⟩
        rcases List.mem_cons.1 ha with rfl | ha
        · rw [nA_iff]
          rw [hw] at g
          exact ⟨by simp only [decA, hw]; omega, he.2.1, he.2.2⟩
        · exact h1 a (by simp [ha])
  have hB : (∀ e ∈ (tickB x.2.2.1).1, nB e = true) ∧ (∀ e ∈ (tickB x.2.2.1).2, nC e = true) := by
    cases hx : x.2.2.1 with
    | nil => simp [tickB]
    | cons e L =>
      rw [hx] at h2
      have he := (nB_iff e).1 (h2 e (by simp))
      have hw := w_dec he.2.1
      by_cases g : IntKind.wrap .i64 (e.2.1.2.1 - 1) = 0
      · simp only [tickB, g, decide_true, cond_true]
        refine ⟨fun a ha => h2 a (by simp [ha]), fun a ha => ?_⟩
        simp only [List.mem_singleton] at ha; subst ha
        rw [nC_iff]
        exact ⟨he.1, g, he.2.2⟩
      · simp only [tickB, g, decide_false, cond_false]
        refine ⟨fun a ha => ?_, by simp⟩
        rcases List.mem_cons.1 ha with rfl | ha
        · rw [nB_iff]
          rw [hw] at g
          exact ⟨he.1, by simp only [decB, hw]; omega, he.2.2⟩
        · exact h2 a (by simp [ha])
  have hC : ∀ e ∈ (tickC x.2.2.2.1).1, nC e = true := by
    cases hx : x.2.2.2.1 with
    | nil => simp [tickC]
    | cons e L =>
      rw [hx] at h3
      have he := (nC_iff e).1 (h3 e (by simp))
      have hw := w_dec he.2.2
      by_cases g : IntKind.wrap .i64 (e.2.1.2.2.1 - 1) = 0
      · simp only [tickC, g, decide_true, cond_true]
        exact fun a ha => h3 a (by simp [ha])
      · simp only [tickC, g, decide_false, cond_false]
        intro a ha
        rcases List.mem_cons.1 ha with rfl | ha
        · rw [nC_iff]
          rw [hw] at g
          exact ⟨he.1, he.2.1, by simp only [decC, hw]; omega⟩
        · exact h3 a (by simp [ha])
  refine ⟨hA.1, fun e he => ?_, fun e he => ?_⟩
  · rcases List.mem_append.1 he with he | he
    · exact hB.1 e he
    · exact hA.2 e he
  · rcases List.mem_append.1 he with he | he
    · exact hC e he
    · exact hB.2 e he
end Go.Tw
