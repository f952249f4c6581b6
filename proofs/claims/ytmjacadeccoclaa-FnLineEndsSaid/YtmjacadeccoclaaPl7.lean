/- Plain facts on the mirrors of the functions are proved here. -/
import Derived.Test.YtmjacadeccoclaaPl6
set_option linter.all false
namespace Go.Tw
open Go Go.RowKit

def tot (x : D_Line) : Nat := x.2.1.length + x.2.2.1.length + x.2.2.2.1.length
theorem tickA_tot (l : List D_Job) : (tickA l).1.length + (tickA l).2.length = l.length := by
  cases l with
  | nil => simp [tickA]
  | cons e l => by_cases h : IntKind.wrap .i64 (e.2.1.1 - 1) = 0 <;> simp [tickA, h]
theorem tickB_tot (l : List D_Job) : (tickB l).1.length + (tickB l).2.length = l.length := by
  cases l with
  | nil => simp [tickB]
  | cons e l => by_cases h : IntKind.wrap .i64 (e.2.1.2.1 - 1) = 0 <;> simp [tickB, h]
theorem tickC_tot (l : List D_Job) : (tickC l).1.length ≤ l.length := by
  cases l with
  | nil => simp [tickC]
  | cons e l => by_cases h : IntKind.wrap .i64 (e.2.1.2.2.1 - 1) = 0 <;> simp [tickC, h]
theorem tick_tot (x : D_Line) : tot (tick x).1 ≤ tot x := by
  have h1 := tickA_tot x.2.1
  have h2 := tickB_tot x.2.2.1
  have h3 := tickC_tot x.2.2.2.1
  simp only [tot, tick, List.length_append]
  omega
theorem tot_fits {x : D_Line} (h : tot x ≤ 1000) : fits x := by
  unfold tot at h
  exact ⟨by omega, by omega, by omega⟩
/-- so many ticks -/
def runN : Nat → D_Line → Int → List D_Done → D_Line × List D_Done
  | 0, l, _, out => (l, out)
  | m + 1, l, a, out => runN m (tick l).1 (a + 1) (addD out (tick l).2.1 a)
theorem addD_len (out : List D_Done) (g a : Int) : (addD out g a).length ≤ out.length + 1 := by
  unfold addD
  cases decide (0 ≤ g) <;> simp
theorem runN_len : ∀ (m : Nat) (l : D_Line) (a : Int) (out : List D_Done), (runN m l a out).2.length ≤ out.length + m ∧ tot (runN m l a out).1 ≤ tot l
  | 0, l, a, out => ⟨Nat.le_refl _, Nat.le_refl _⟩
  | m + 1, l, a, out => by
    have h1 := runN_len m (tick l).1 (a + 1) (addD out (tick l).2.1 a)
    have h2 := addD_len out (tick l).2.1 a
    have h3 := tick_tot l
    simp only [runN]
    omega
theorem tick_nil (c : Int) (u : Unit) : tick (c, [], [], [], u) = ((c, [], [], [], ()), -1, ()) := rfl
theorem runN_nil : ∀ (m : Nat) (c : Int) (u : Unit) (a : Int) (out : List D_Done), runN m (c, [], [], [], u) a out = ((c, [], [], [], u), out)
  | 0, c, u, a, out => rfl
  | m + 1, c, u, a, out => by
    simp only [runN, tick_nil]
    rw [runN_nil m c () (a + 1)]
    rfl
theorem impl_run (z : D_Line) (n : Int) : ∀ (m k : Nat) (l : D_Line) (out : List D_Done) (a : Int), tot l ≤ 1000 → a + m = n + 1 → 0 ≤ a → n ≤ 20000 → m < k → out.length + m ≤ 40000 →
    iter impl_LineRun_s5 k ((), n, z, l, out, a, ()) = some ((), z, (runN m l a out).1, (runN m l a out).2, ())
  | 0, k + 1, l, out, a, ht, ha, h0, hn, hk, ho => by
    rw [iter_succ]
    unfold impl_LineRun_s5
    rw [bif_f (by simp; omega)]; rfl
  | m + 1, k + 1, l, out, a, ht, ha, h0, hn, hk, ho => by
    rw [iter_succ, implRun_step n z l (tot_fits ht) out (by omega) a (by omega)]
    rw [w64 (n := a + 1) (by omega)]
    have h2 := addD_len out (tick l).2.1 a
    have h3 := tick_tot l
    exact impl_run z n m k (tick l).1 (addD out (tick l).2.1 a) (a + 1) (by omega) (by omega) (by omega) hn (by omega) (by omega)
theorem spec_run (z : D_Line) (n : Int) : ∀ (m k : Nat) (l : D_Line) (out : List D_Done) (a : Int), tot l ≤ 1000 → a + m = n + 1 → 0 ≤ a → n ≤ 20000 → m < k → out.length + m ≤ 40000 →
    iter spec_LineRun_s6 k ((), n, z, l, out, a, ()) = some ((), z, (runN m l a out).1, (runN m l a out).2, ())
  | 0, k + 1, l, out, a, ht, ha, h0, hn, hk, ho => by
    rw [iter_succ]
    unfold spec_LineRun_s6
    rw [bif_f (by simp; omega)]; rfl
  | m + 1, k + 1, l, out, a, ht, ha, h0, hn, hk, ho => by
    rw [iter_succ]
    unfold spec_LineRun_s6
    rw [bif_t (by simp; omega)]
    show ((spec_l21All l).bind fun t3 => _) = _
    rw [all_eq l (tot_fits ht), Option.bind_some]
    by_cases he : tot l = 0
    · obtain ⟨c, A, B, C, u⟩ := l
      unfold tot at he
      have hA : A = [] := List.eq_nil_of_length_eq_zero (by simp only at he; omega)
      have hB : B = [] := List.eq_nil_of_length_eq_zero (by simp only at he; omega)
      have hC : C = [] := List.eq_nil_of_length_eq_zero (by simp only at he; omega)
      subst hA hB hC
      rw [runN_nil]
      rw [bif_f (by simp)]
    · unfold tot at he
      rw [bif_t (by simp; omega), specTick_eq l (tot_fits ht), Option.bind_some]
      rw [w64 (n := a + 1) (by omega)]
      have h2 := addD_len out (tick l).2.1 a
      have h3 := tick_tot l
      have ih := spec_run z n m k (tick l).1 (addD out (tick l).2.1 a) (a + 1) (by omega) (by omega) (by omega) hn (by omega) (by omega)
      simp only [runN]
      rw [← ih]
      unfold addD
      by_cases hg : 0 ≤ (tick l).2.1
      · rw [bif_t (by simpa using hg), bif_t (by simp; omega)]
        simp only [hg, decide_true, cond_true]
        rfl
      · rw [bif_f (by simpa using hg)]
        simp only [hg, decide_false, cond_false]
        rfl
def lineRun (x : D_Line) (n : Int) : D_Line × List D_Done × Unit :=
  bif lineI x && (decide (0 ≤ n) && decide (n ≤ 20000)) then ((runN n.toNat x 1 []).1, (runN n.toNat x 1 []).2, ()) else (z_Line, [], ())
theorem lineP_tot {x : D_Line} (h : lineI x = true) : tot x ≤ 16 := by
  have h1 := ((lineI_iff x).1 h).1
  unfold capB at h1
  simp only [Bool.and_eq_true, decide_eq_true_eq] at h1
  unfold tot
  omega
theorem specRun_eq (k : Nat) (hk : MM < k) (x : D_Line) (h : fits x) (n : Int) : spec_LineRun k x n = some (lineRun x n, ()) := by
  have hM : MM = 1048576 := rfl
  unfold spec_LineRun lineRun
  rw [specOk_eq k hk x h, ← line_eq, Option.bind_some]
  cases hl : lineI x with
  | false => rfl
  | true =>
    have ht := lineP_tot hl
    refine Eq.trans (bif_t (by rfl)) ?_
    by_cases h1 : 0 ≤ n
    · rw [bif_t (by simp; omega)]
      by_cases h2 : n ≤ 20000
      · rw [bif_f (by simp; omega), specCopy_eq x h, Option.bind_some]
        have := spec_run z_Line n n.toNat k x [] 1 (by omega) (by omega) (by omega) h2 (by omega) (by simp; omega)
        rw [show iter spec_LineRun_s6 k ((), n, ((0 : Int), ([] : List D_Job), ([] : List D_Job), ([] : List D_Job), ()), x, ([] : List D_Done), (1 : Int), ()) = _ from this]
        simp [h1, h2]
      · rw [bif_t (by simp; omega)]
        simp [h2, z_Line]
    · rw [bif_f (by simp; omega)]
      simp [h1, z_Line]
theorem implRun_eq (k : Nat) (hk : MM < k) (x : D_Line) (h : fits x) (n : Int) : impl_LineRun k x n = some (lineRun x n, ()) := by
  have hM : MM = 1048576 := rfl
  unfold impl_LineRun lineRun
  rw [implOk_eq k hk x h, Option.bind_some]
  cases hl : lineI x with
  | false => rfl
  | true =>
    have ht := lineP_tot hl
    refine Eq.trans (bif_t (by rfl)) ?_
    simp only [within_eq, Option.bind_some]
    cases h1 : (decide (0 ≤ n) && decide (n ≤ 20000)) with
    | false => rfl
    | true =>
      simp only [Bool.and_eq_true, decide_eq_true_eq] at h1
      refine Eq.trans (bif_f (by rfl)) ?_
      rw [copy_eq x ⟨by have := h.1; omega, by have := h.2.1; omega, by have := h.2.2; omega⟩, Option.bind_some]
      have := impl_run z_Line n n.toNat k x [] 1 (by omega) (by omega) (by omega) h1.2 (by omega) (by simp; omega)
      rw [show iter impl_LineRun_s5 k ((), n, ((0 : Int), ([] : List D_Job), ([] : List D_Job), ([] : List D_Job), ()), x, ([] : List D_Done), (1 : Int), ()) = _ from this]
      simp only [Option.bind_some]
      have hr := (runN_len n.toNat x 1 []).2
      unfold tot at hr ht
      rw [copy_eq _ ⟨by omega, by omega, by omega⟩]
      rfl
end Go.Tw
