/- Plain facts on the mirrors of the functions are proved here. -/
import Derived.Test.YtaigepmndpefgaaDoorPt2
set_option linter.all false
namespace Go.Tw
open Go Go.RowKit

theorem ex_of {A B : R1 ByteArray} {x y : ByteArray} (h1 : A = some ((x, ()), ())) (h2 : B = some ((y, ()), ())) (h3 : x = y) : ∃ t, A = some ((t, ()), ()) ∧ B = some ((t, ()), ()) := ⟨y, by rw [h1, h3], h2⟩
theorem outText_eq (k : Nat) (hk : MM < k) (o : D_Out) (h : WF T_Out o) : ∃ t, impl_OutText k o = some ((t, ()), ()) ∧ spec_OutText k o = some ((t, ()), ()) := by
  have hM : MM = 1048576 := rfl
  have z1 := numT_size h.2.1
  have z2 := numT_size h.2.2.1
  have z3 := hexT_size o.2.2.2.1
  have e1 := numI_eq h.2.1
  have e2 := numI_eq h.2.2.1
  have e3 : impl_HexText k o.2.2.2.1 = some ((hexT o.2.2.2.1, ()), ()) := hexImpl_eq k hk _ (fun b hb => h.2.2.2.1.2 b hb)
  have f1 := numS_eq k hk h.2.1
  have f2 := numS_eq k hk h.2.2.1
  have f3 : spec_HexText k o.2.2.2.1 = some ((hexT o.2.2.2.1, ()), ()) := hexSpec_eq k hk _ (fun b hb => h.2.2.2.1.2 b hb)
  unfold impl_OutText spec_OutText
  by_cases hn : (100 : Int) < ((o.2.2.2.2.1.length : Nat) : Int)
  · exact ⟨_, bif_f (by simpa using hn), bif_f (by simpa using hn)⟩
  by_cases hd : (4000 : Int) < ((o.2.2.2.1.length : Nat) : Int)
  · exact ⟨_, (bif_t (by simpa using hn)).trans (bif_t (by simpa using hd)), (bif_t (by simpa using hn)).trans (bif_t (by simpa using hd))⟩
  have c1 : (!decide ((100 : Int) < ((o.2.2.2.2.1.length : Nat) : Int))) = true := by simpa using hn
  have c2 : decide ((4000 : Int) < ((o.2.2.2.1.length : Nat) : Int)) = false := by simpa using hd
  simp only [c1, c2, cond_true, cond_false]
  by_cases k1 : o.1 = 1
  · simp only [k1, decide_true, cond_true, e1, f1, e2, f2, e3, f3, Option.bind_some]
    exact ex_of ((bif_t (le40 (by simp only [ByteArray.size_append, sz_lit, List.length_cons, List.length_nil]; omega))).trans ((bif_t (le40 (by simp only [ByteArray.size_append, sz_lit, List.length_cons, List.length_nil]; omega))).trans (bif_t (le40 (by simp only [ByteArray.size_append, sz_lit, List.length_cons, List.length_nil]; omega))))) ((bif_t (le40 (by simp only [ByteArray.size_append, sz_lit, List.length_cons, List.length_nil]; omega))).trans ((bif_t (le40 (by simp only [ByteArray.size_append, sz_lit, List.length_cons, List.length_nil]; omega))).trans (bif_t (le40 (by simp only [ByteArray.size_append, sz_lit, List.length_cons, List.length_nil]; omega))))) rfl
  have k1' : decide (o.1 = 1) = false := by simpa using k1
  simp only [k1', cond_false]
  by_cases k2 : o.1 = 2
  · simp only [k2, decide_true, cond_true, e1, f1, e2, f2, e3, f3, Option.bind_some]
    exact ex_of ((bif_t (le40 (by simp only [ByteArray.size_append, sz_lit, List.length_cons, List.length_nil]; omega))).trans ((bif_t (le40 (by simp only [ByteArray.size_append, sz_lit, List.length_cons, List.length_nil]; omega))).trans (bif_t (le40 (by simp only [ByteArray.size_append, sz_lit, List.length_cons, List.length_nil]; omega))))) ((bif_t (le40 (by simp only [ByteArray.size_append, sz_lit, List.length_cons, List.length_nil]; omega))).trans ((bif_t (le40 (by simp only [ByteArray.size_append, sz_lit, List.length_cons, List.length_nil]; omega))).trans (bif_t (le40 (by simp only [ByteArray.size_append, sz_lit, List.length_cons, List.length_nil]; omega))))) rfl
  have k2' : decide (o.1 = 2) = false := by simpa using k2
  simp only [k2', cond_false]
  by_cases k3 : o.1 = 3
  · simp only [k3, decide_true, cond_true, e1, f1, e2, f2, e3, f3, Option.bind_some]
    exact ex_of (bif_t (le40 (by simp only [ByteArray.size_append, sz_lit, List.length_cons, List.length_nil]; omega))) (bif_t (le40 (by simp only [ByteArray.size_append, sz_lit, List.length_cons, List.length_nil]; omega))) rfl
  have k3' : decide (o.1 = 3) = false := by simpa using k3
  simp only [k3', cond_false]
  by_cases k4 : o.1 = 4
  · simp only [k4, decide_true, cond_true]
    have r1 := toldI k hk o.2.2.2.2.1 h.2.2.2.2.1 (by omega) (⟨#[116, 111, 108, 100]⟩ : ByteArray) (by decide)
    have r2 := toldS k hk o h.2.2.2.2.1 (by omega) (⟨#[116, 111, 108, 100]⟩ : ByteArray) (by decide)
    refine ⟨_, (congrArg (fun o => Option.bind o _) r1).trans rfl, (congrArg (fun o => Option.bind o _) r2).trans rfl⟩
  · have k4' : decide (o.1 = 4) = false := by simpa using k4
    simp only [k4', cond_false]
    exact ⟨_, rfl, rfl⟩
theorem law_FnExactOutText (o : D_Out) (h : WF T_Out o) : ∃ k y, laws_FnExactOutText k o = some ((true, ()), y) := by
  have hk : MM < (1048577 : Nat) := by decide
  refine ⟨1048577, (), ?_⟩
  revert hk
  generalize (1048577 : Nat) = k
  intro hk
  unfold laws_FnExactOutText
  obtain ⟨n1, a1, _, a3, a4⟩ := laws_szOut_bd o MM h (by decide) (by decide)
  rw [a1, Option.bind_some]
  by_cases hn1 : n1 < 0
  · rw [bif_t (by simpa using hn1)]
  rw [bif_f (by simpa using hn1)]
  have b1 := a4 (by omega)
  obtain ⟨t, g1, g2⟩ := outText_eq k hk o h
  simp only [laws_toOut_ok k hk o b1, laws_eqOut_ok k hk o b1, g1, g2, Option.bind_some]
  simp
end Go.Tw
