/- Plain facts on the mirrors of the functions are proved here. -/
import Derived.Test.YtaigepmndpefgaaDoorPt4
set_option linter.all false
namespace Go.Tw
open Go Go.RowKit
theorem leftText_eq (k : Nat) (hk : MM < k) (o : D_Left) (h : WF T_Left o) : ∃ t, impl_LeftText k o = some ((t, ()), ()) ∧ spec_LeftText k o = some ((t, ()), ()) := by
  have hM : MM = 1048576 := rfl
  unfold impl_LeftText spec_LeftText
  by_cases hn : (200 : Int) < ((o.2.1.length : Nat) : Int)
  · exact ⟨_, bif_f (by simpa using hn), bif_f (by simpa using hn)⟩
  by_cases hd : (200 : Int) < ((o.2.2.1.length : Nat) : Int)
  · exact ⟨_, (bif_t (by simpa using hn)).trans (bif_t (by simpa using hd)), (bif_t (by simpa using hn)).trans (bif_t (by simpa using hd))⟩
  have c1 : (!decide ((200 : Int) < ((o.2.1.length : Nat) : Int))) = true := by simpa using hn
  have c2 : decide ((200 : Int) < ((o.2.2.1.length : Nat) : Int)) = false := by simpa using hd
  have z1 : (numT o.1).size ≤ 21 := numT_size h.1
  have z2 : (listT o.2.1).size ≤ 90000 := listT_size h.2.1 (by omega)
  have z3 : (listT o.2.2.1).size ≤ 90000 := listT_size h.2.2.1 (by omega)
  have z4 : (numT o.2.2.2.1).size ≤ 21 := numT_size h.2.2.2.1
  have z5 : (numT o.2.2.2.2.1).size ≤ 21 := numT_size h.2.2.2.2.1
  simp only [c1, c2, cond_true, cond_false, numI_eq h.1, numI_eq h.2.2.2.1, numI_eq h.2.2.2.2.1, numS_eq k hk h.1, numS_eq k hk h.2.2.2.1, numS_eq k hk h.2.2.2.2.1, listI k hk o.2.1 h.2.1 (by omega), listI k hk o.2.2.1 h.2.2.1 (by omega), listS k hk o.2.1 h.2.1 (by omega), listS k hk o.2.2.1 h.2.2.1 (by omega), Option.bind_some]
  rw [joinC_eq _ _ 90000 (by decide) (by
    intro w hw
    simp only [List.mem_cons, List.mem_nil_iff, or_false] at hw
    rcases hw with rfl | rfl | rfl | rfl | rfl | rfl | rfl | rfl | rfl | rfl <;> first | omega | decide) (by simp only [List.length_cons, List.length_nil]; omega) (by simp only [List.length_cons, List.length_nil]; omega)]
  refine ex_of rfl ((bif_t (le40 (by simp only [ByteArray.size_append, sz_lit, List.length_cons, List.length_nil]; omega))).trans ((bif_t (le40 (by simp only [ByteArray.size_append, sz_lit, List.length_cons, List.length_nil]; omega))).trans ((bif_t (le40 (by simp only [ByteArray.size_append, sz_lit, List.length_cons, List.length_nil]; omega))).trans ((bif_t (le40 (by simp only [ByteArray.size_append, sz_lit, List.length_cons, List.length_nil]; omega))).trans ((bif_t (le40 (by simp only [ByteArray.size_append, sz_lit, List.length_cons, List.length_nil]; omega))).trans ((bif_t (le40 (by simp only [ByteArray.size_append, sz_lit, List.length_cons, List.length_nil]; omega))).trans ((bif_t (le40 (by simp only [ByteArray.size_append, sz_lit, List.length_cons, List.length_nil]; omega))).trans ((bif_t (le40 (by simp only [ByteArray.size_append, sz_lit, List.length_cons, List.length_nil]; omega))).trans (bif_t (le40 (by simp only [ByteArray.size_append, sz_lit, List.length_cons, List.length_nil]; omega))))))))))) ?_
  apply ba_ext
  simp only [joinT_list, List.map_cons, List.map_nil, Lib.join_cons, Lib.joinTail, List.flatten_cons, List.flatten_nil, ba_app, ba_lit, List.append_assoc, List.cons_append, List.nil_append, List.append_nil]
theorem law_FnExactLeftText (o : D_Left) (h : WF T_Left o) : ∃ k y, laws_FnExactLeftText k o = some ((true, ()), y) := by
  have hk : MM < (1048577 : Nat) := by decide
  refine ⟨1048577, (), ?_⟩
  revert hk
  generalize (1048577 : Nat) = k
  intro hk
  unfold laws_FnExactLeftText
  obtain ⟨n1, a1, _, a3, a4⟩ := laws_szLeft_bd o MM h (by decide) (by decide)
  rw [a1, Option.bind_some]
  by_cases hn1 : n1 < 0
  · rw [bif_t (by simpa using hn1)]
  rw [bif_f (by simpa using hn1)]
  have b1 := a4 (by omega)
  obtain ⟨t, g1, g2⟩ := leftText_eq k hk o h
  simp only [laws_toLeft_ok k hk o b1, laws_eqLeft_ok k hk o b1, g1, g2, Option.bind_some]
  simp
end Go.Tw
