/- Plain facts on the mirrors of the functions are proved here. -/
import Derived.Test.YtaigepmndpefgaaDoorPt6
set_option linter.all false
namespace Go.Tw
open Go Go.RowKit
def frm (v : D_Vec) (lo hi : Int) : Bool := decide (lo ≤ v.1) && (decide (v.1 ≤ hi) && (decide (lo ≤ v.2.1) && (decide (v.2.1 ≤ hi) && (decide (lo ≤ v.2.2.1) && decide (v.2.2.1 ≤ hi)))))
theorem frmI (v : D_Vec) (lo hi : Int) : impl_Vec_isFrom v lo hi = some ((frm v lo hi, ()), ()) := by
  unfold impl_Vec_isFrom impl_within frm
  cases decide (lo ≤ v.1) <;> cases decide (v.1 ≤ hi) <;> cases decide (lo ≤ v.2.1) <;> cases decide (v.2.1 ≤ hi) <;> cases decide (lo ≤ v.2.2.1) <;> rfl
theorem frmS (v : D_Vec) (lo hi : Int) : spec_l13All v lo hi = some ((frm v lo hi, ()), ()) := by
  unfold spec_l13All frm
  cases decide (lo ≤ v.1) <;> cases decide (v.1 ≤ hi) <;> cases decide (lo ≤ v.2.1) <;> cases decide (v.2.1 ≤ hi) <;> cases decide (lo ≤ v.2.2.1) <;> rfl
theorem eventText_eq (k : Nat) (hk : MM < k) (o : D_Event) (h : WF T_Event o) : ∃ t, impl_EventText k o = some ((t, ()), ()) ∧ spec_EventText k o = some ((t, ()), ()) := by
  have hM : MM = 1048576 := rfl
  have z1 : (numT o.2.1).size ≤ 21 := numT_size h.2.1
  have z2 := hexT_size o.2.2.1
  have z3 : (vecT o.2.2.2.1).size ≤ 65 := vecT_size h.2.2.2.1
  have e1 : impl_NumText o.2.1 = some ((numT o.2.1, ()), ()) := numI_eq h.2.1
  have f1 : spec_NumText k o.2.1 = some ((numT o.2.1, ()), ()) := numS_eq k hk h.2.1
  have e2 : impl_HexText k o.2.2.1 = some ((hexT o.2.2.1, ()), ()) := hexImpl_eq k hk _ (fun b hb => h.2.2.1.2 b hb)
  have f2 : spec_HexText k o.2.2.1 = some ((hexT o.2.2.1, ()), ()) := hexSpec_eq k hk _ (fun b hb => h.2.2.1.2 b hb)
  have e3 : impl_VecText o.2.2.2.1 = some ((vecT o.2.2.2.1, ()), ()) := vecI h.2.2.2.1
  have f3 : spec_VecText k o.2.2.2.1 = some ((vecT o.2.2.2.1, ()), ()) := vecS k hk h.2.2.2.1
  have hl : ((([o] : List D_Event).length : Nat) : Int) ≤ M0 := show ((1 : Nat) : Int) ≤ M0 by decide
  unfold impl_EventText spec_EventText
  simp only [impl_EventsOk_eq k hk [o] hl, spec_EventsOk_eq k hk [o] hl, frmI, frmS, Option.bind_some]
  cases evsOk [o] with
  | false => exact ⟨_, rfl, rfl⟩
  | true =>
  cases frm o.2.2.2.1 0 999999999999 with
  | false => exact ⟨_, rfl, rfl⟩
  | true =>
  simp only [Bool.not_true, Bool.not_false, cond_true, cond_false]
  by_cases k1 : o.1 = 1
  · simp only [k1, decide_true, cond_true, e1, f1, e2, f2, e3, f3, Option.bind_some]
    exact ex_of ((bif_t (le40 (by simp only [ByteArray.size_append, sz_lit, List.length_cons, List.length_nil]; omega))).trans ((bif_t (le40 (by simp only [ByteArray.size_append, sz_lit, List.length_cons, List.length_nil]; omega))).trans (bif_t (le40 (by simp only [ByteArray.size_append, sz_lit, List.length_cons, List.length_nil]; omega))))) ((bif_t (le40 (by simp only [ByteArray.size_append, sz_lit, List.length_cons, List.length_nil]; omega))).trans ((bif_t (le40 (by simp only [ByteArray.size_append, sz_lit, List.length_cons, List.length_nil]; omega))).trans (bif_t (le40 (by simp only [ByteArray.size_append, sz_lit, List.length_cons, List.length_nil]; omega))))) rfl
  have k1' : decide (o.1 = 1) = false := by simpa using k1
  simp only [k1', cond_false]
  by_cases k2 : o.1 = 2
  · simp only [k2, decide_true, cond_true, e1, f1, e2, f2, e3, f3, Option.bind_some]
    exact ex_of (bif_t (le40 (by simp only [ByteArray.size_append, sz_lit, List.length_cons, List.length_nil]; omega))) (bif_t (le40 (by simp only [ByteArray.size_append, sz_lit, List.length_cons, List.length_nil]; omega))) rfl
  have k2' : decide (o.1 = 2) = false := by simpa using k2
  simp only [k2', cond_false]
  by_cases k3 : o.1 = 3
  · simp only [k3, decide_true, cond_true, e1, f1, e2, f2, e3, f3, Option.bind_some]
    exact ex_of (bif_t (le40 (by simp only [ByteArray.size_append, sz_lit, List.length_cons, List.length_nil]; omega))) (bif_t (le40 (by simp only [ByteArray.size_append, sz_lit, List.length_cons, List.length_nil]; omega))) rfl
  have k3' : decide (o.1 = 3) = false := by simpa using k3
  simp only [k3', cond_false]
  exact ⟨_, rfl, rfl⟩
theorem law_FnExactEventText (o : D_Event) (h : WF T_Event o) : ∃ k y, laws_FnExactEventText k o = some ((true, ()), y) := by
  have hk : MM < (1048577 : Nat) := by decide
  refine ⟨1048577, (), ?_⟩
  revert hk
  generalize (1048577 : Nat) = k
  intro hk
  unfold laws_FnExactEventText
  obtain ⟨n1, a1, _, a3, a4⟩ := laws_szEvent_bd o MM h (by decide) (by decide)
  rw [a1, Option.bind_some]
  by_cases hn1 : n1 < 0
  · rw [bif_t (by simpa using hn1)]
  rw [bif_f (by simpa using hn1)]
  have b1 := a4 (by omega)
  obtain ⟨t, g1, g2⟩ := eventText_eq k hk o h
  simp only [laws_toEvent_ok k hk o b1, laws_eqEvent_ok k hk o b1, g1, g2, Option.bind_some]
  simp
end Go.Tw
