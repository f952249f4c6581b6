/- Plain facts on the mirrors of the functions are proved here. -/
import Derived.Test.YtaigepmndpefgaaDoorPt8
import Derived.Test.YtaigepmndpefgaaDoorPt7
set_option linter.all false
namespace Go.Tw
open Go Go.RowKit
theorem joinTail_app (s : List UInt8) (a b : List (List UInt8)) : Lib.joinTail s (a ++ b) = Lib.joinTail s a ++ Lib.joinTail s b := by simp [Lib.joinTail]
def profW (p : D_Prof) : List ByteArray := [(⟨#[112, 114, 111, 102]⟩ : ByteArray), vecT p.1, vecT p.2.1]
def profG (p : D_Prof) (a : ByteArray) : ByteArray := (((a ++ (⟨#[32, 112, 114, 111, 102, 32]⟩ : ByteArray)) ++ vecT p.1) ++ (⟨#[32]⟩ : ByteArray)) ++ vecT p.2.1
theorem thru_prof : ∀ (r : List D_Prof) (i : Nat) (s : ByteArray), (thru (fun _ p a => profG p a) r i s).data.toList = s.data.toList ++ Lib.joinTail [32] ((r.flatMap profW).map (·.data.toList))
  | [], i, s => by simp [thru, Lib.joinTail]
  | p :: r, i, s => by
    simp only [thru]
    rw [thru_prof r]
    simp only [profG, profW, ba_app, ba_lit, Lib.joinTail, List.flatMap_cons, List.map_append, List.map_cons, List.map_nil, List.flatten_append, List.flatten_cons, List.flatten_nil, List.append_assoc, List.cons_append, List.nil_append, List.append_nil]
theorem wf_prof {l : List D_Prof} (h : WF (.sl T_Prof) l) {j : Nat} (hj : j < l.length) : WF T_Prof (l.getD j z_Prof) := h.2 _ (getD_mem l z_Prof j hj)
theorem profI (k : Nat) (hk : MM < k) (l : List D_Prof) (hl : WF (.sl T_Prof) l) (hn : l.length = 7) (a : List ByteArray) (ha : a.length ≤ 100) :
    iter impl_ConfText_s8 k ((), a, l, ((l.length : Nat) : Int), (0 : Int), ()) = some ((), a ++ l.flatMap profW, ()) := by
  have hM : MM = 1048576 := rfl
  have run := thru_run0 (step := impl_ConfText_s8) (x := l) z_Prof (st := fun j (a : List ByteArray) => ((), a, l, ((l.length : Nat) : Int), (j : Int), ())) (g := fun _ p a => a ++ profW p) (fin := fun a => ((), a, ())) (fun j a => a.length ≤ 100 + 3 * j)
    (fun j a hj hI rec => by
      have hb := wf_prof hl hj
      have hwi : IntKind.wrap .i64 ((j : Int) + 1) = ((j + 1 : Nat) : Int) := w64 (by omega)
      unfold impl_ConfText_s8
      refine (bif_t (by simp; omega)).trans ?_
      refine (bif_t (by simp; omega)).trans ?_
      refine (bif_t (by simp; omega)).trans ?_
      simp only [Int.toNat_natCast]
      obtain ⟨p, hp⟩ : ∃ p, p = l.getD j z_Prof := ⟨_, rfl⟩
      rw [← hp] at hb ⊢
      have e1 : impl_VecText p.1 = some ((vecT p.1, ()), ()) := vecI hb.1
      have e2 : impl_VecText p.2.1 = some ((vecT p.2.1, ()), ()) := vecI hb.2.1
      simp only [e1, e2, Option.bind_some]
      refine (bif_t (le40 (by omega))).trans ?_
      rw [hwi]; rfl)
    (fun j a hj hI => by simp only [List.length_append, profW, List.length_cons, List.length_nil]; omega) (fun a _ rec => by
      unfold impl_ConfText_s8
      exact bif_f (by simp)) (k := k) (by omega) (a := a) (by omega)
  rw [thru_flat] at run
  exact run
theorem profS (k : Nat) (hk : MM < k) (o : D_Conf) (hl : WF (.sl T_Prof) o.2.2.2.2.2.2.1) (hn : o.2.2.2.2.2.2.1.length = 7) (s : ByteArray) (hs : s.size ≤ 2000) :
    iter (spec_ConfText_s10 k) k ((), o, s, (0 : Int), ()) = some ((), thru (fun _ p a => profG p a) o.2.2.2.2.2.2.1 0 s, ()) := by
  have hM : MM = 1048576 := rfl
  have run := thru_run0 (step := spec_ConfText_s10 k) (x := o.2.2.2.2.2.2.1) z_Prof (st := fun j (a : ByteArray) => ((), o, a, (j : Int), ())) (g := fun _ p a => profG p a) (fin := fun a => ((), a, ())) (fun j a => a.size ≤ 2000 + 200 * j)
    (fun j a hj hI rec => by
      have hb := wf_prof hl hj
      have hwi : IntKind.wrap .i64 ((j : Int) + 1) = ((j + 1 : Nat) : Int) := w64 (by omega)
      have c1 : (decide ((0 : Int) ≤ (j : Int)) && decide ((j : Int) < ((o.2.2.2.2.2.2.1.length : Nat) : Int))) = true := by simp; omega
      have c2 : decide ((j : Int).toNat < o.2.2.2.2.2.2.1.length) = true := decide_eq_true (by omega)
      unfold spec_ConfText_s10
      refine (bif_t (decide_eq_true (show (j : Int) < 7 by omega))).trans ?_
      refine (bif_t (le40 (by simp only [sz_lit, List.length_cons, List.length_nil]; omega))).trans ?_
      refine (bif_t c1).trans ?_
      refine (bif_t c2).trans ?_
      simp only [Int.toNat_natCast]
      have c3 : decide (j < o.2.2.2.2.2.2.1.length) = true := decide_eq_true hj
      obtain ⟨p, hp⟩ : ∃ p, p = o.2.2.2.2.2.2.1.getD j z_Prof := ⟨_, rfl⟩
      rw [← hp] at hb ⊢
      have z1 : (vecT p.1).size ≤ 65 := vecT_size hb.1
      have z2 : (vecT p.2.1).size ≤ 65 := vecT_size hb.2.1
      have e1 : spec_VecText k p.1 = some ((vecT p.1, ()), ()) := vecS k hk hb.1
      have e2 : spec_VecText k p.2.1 = some ((vecT p.2.1, ()), ()) := vecS k hk hb.2.1
      simp only [c1, c3, e1, e2, cond_true, Option.bind_some]
      refine ((bif_t (le40 (by simp only [ByteArray.size_append, sz_lit, List.length_cons, List.length_nil]; omega))).trans ((bif_t (le40 (by simp only [ByteArray.size_append, sz_lit, List.length_cons, List.length_nil]; omega))).trans (bif_t (le40 (by simp only [ByteArray.size_append, sz_lit, List.length_cons, List.length_nil]; omega))))).trans ?_
      rw [hwi]; rfl)
    (fun j a hj hI => by
      have hb := wf_prof hl hj
      have z1 : (vecT (o.2.2.2.2.2.2.1.getD j z_Prof).1).size ≤ 65 := vecT_size hb.1
      have z2 : (vecT (o.2.2.2.2.2.2.1.getD j z_Prof).2.1).size ≤ 65 := vecT_size hb.2.1
      simp only [profG, ByteArray.size_append, sz_lit, List.length_cons, List.length_nil]; omega) (fun a _ rec => by
      unfold spec_ConfText_s10
      exact bif_f (decide_eq_false (show ¬ ((o.2.2.2.2.2.2.1.length : Nat) : Int) < 7 by omega))) (k := k) (by omega) (a := s) (by omega)
  exact run
theorem confText_eq (k : Nat) (hk : MM < k) (o : D_Conf) (h : WF T_Conf o) (hB : (o.2.2.2.2.2.2.1.length : Int) ≤ MM) : ∃ t, impl_ConfText k o = some ((t, ()), ()) ∧ spec_ConfText k o = some ((t, ()), ()) := by
  have hM : MM = 1048576 := rfl
  unfold impl_ConfText spec_ConfText
  rw [implConf_eq k hk o hB, specConf_eq k hk o]
  simp only [Option.bind_some]
  cases hc : confB o with
  | false => exact ⟨_, rfl, rfl⟩
  | true =>
  have h7 : o.2.2.2.2.2.2.1.length = 7 := by
    unfold confB at hc
    simp only [Bool.and_eq_true, decide_eq_true_eq] at hc
    omega
  have hw : WF (.sl T_Prof) o.2.2.2.2.2.2.1 := h.2.2.2.2.2.2.1
  have z0 : (numT o.1).size ≤ 21 := numT_size h.1
  have e0 : impl_NumText o.1 = some ((numT o.1, ()), ()) := numI_eq h.1
  have f0 : spec_NumText k o.1 = some ((numT o.1, ()), ()) := numS_eq k hk h.1
  have z1 : (numT o.2.1).size ≤ 21 := numT_size h.2.1
  have e1 : impl_NumText o.2.1 = some ((numT o.2.1, ()), ()) := numI_eq h.2.1
  have f1 : spec_NumText k o.2.1 = some ((numT o.2.1, ()), ()) := numS_eq k hk h.2.1
  have z2 : (numT o.2.2.1).size ≤ 21 := numT_size h.2.2.1
  have e2 : impl_NumText o.2.2.1 = some ((numT o.2.2.1, ()), ()) := numI_eq h.2.2.1
  have f2 : spec_NumText k o.2.2.1 = some ((numT o.2.2.1, ()), ()) := numS_eq k hk h.2.2.1
  have z3 : (numT o.2.2.2.1).size ≤ 21 := numT_size h.2.2.2.1
  have e3 : impl_NumText o.2.2.2.1 = some ((numT o.2.2.2.1, ()), ()) := numI_eq h.2.2.2.1
  have f3 : spec_NumText k o.2.2.2.1 = some ((numT o.2.2.2.1, ()), ()) := numS_eq k hk h.2.2.2.1
  have z4 : (numT o.2.2.2.2.1).size ≤ 21 := numT_size h.2.2.2.2.1
  have e4 : impl_NumText o.2.2.2.2.1 = some ((numT o.2.2.2.2.1, ()), ()) := numI_eq h.2.2.2.2.1
  have f4 : spec_NumText k o.2.2.2.2.1 = some ((numT o.2.2.2.2.1, ()), ()) := numS_eq k hk h.2.2.2.2.1
  have z5 : (numT o.2.2.2.2.2.1.1).size ≤ 21 := numT_size h.2.2.2.2.2.1.1
  have e5 : impl_NumText o.2.2.2.2.2.1.1 = some ((numT o.2.2.2.2.2.1.1, ()), ()) := numI_eq h.2.2.2.2.2.1.1
  have f5 : spec_NumText k o.2.2.2.2.2.1.1 = some ((numT o.2.2.2.2.2.1.1, ()), ()) := numS_eq k hk h.2.2.2.2.2.1.1
  have z6 : (numT o.2.2.2.2.2.1.2.1).size ≤ 21 := numT_size h.2.2.2.2.2.1.2.1
  have e6 : impl_NumText o.2.2.2.2.2.1.2.1 = some ((numT o.2.2.2.2.2.1.2.1, ()), ()) := numI_eq h.2.2.2.2.2.1.2.1
  have f6 : spec_NumText k o.2.2.2.2.2.1.2.1 = some ((numT o.2.2.2.2.2.1.2.1, ()), ()) := numS_eq k hk h.2.2.2.2.2.1.2.1
  have z7 : (numT o.2.2.2.2.2.1.2.2.1).size ≤ 21 := numT_size h.2.2.2.2.2.1.2.2.1
  have e7 : impl_NumText o.2.2.2.2.2.1.2.2.1 = some ((numT o.2.2.2.2.2.1.2.2.1, ()), ()) := numI_eq h.2.2.2.2.2.1.2.2.1
  have f7 : spec_NumText k o.2.2.2.2.2.1.2.2.1 = some ((numT o.2.2.2.2.2.1.2.2.1, ()), ()) := numS_eq k hk h.2.2.2.2.2.1.2.2.1
  have z8 : (numT o.2.2.2.2.2.1.2.2.2.1).size ≤ 21 := numT_size h.2.2.2.2.2.1.2.2.2.1
  have e8 : impl_NumText o.2.2.2.2.2.1.2.2.2.1 = some ((numT o.2.2.2.2.2.1.2.2.2.1, ()), ()) := numI_eq h.2.2.2.2.2.1.2.2.2.1
  have f8 : spec_NumText k o.2.2.2.2.2.1.2.2.2.1 = some ((numT o.2.2.2.2.2.1.2.2.2.1, ()), ()) := numS_eq k hk h.2.2.2.2.2.1.2.2.2.1
  simp only [Bool.not_true, cond_false, e0, f0, e1, f1, e2, f2, e3, f3, e4, f4, e5, f5, e6, f6, e7, f7, e8, f8, Option.bind_some]
  have hsz : ∀ w ∈ o.2.2.2.2.2.2.1.flatMap profW, w.size ≤ 65 := by
    intro w hw'
    obtain ⟨p, hp, hw2⟩ := List.mem_flatMap.1 hw'
    have hb : WF T_Prof p := hw.2 p hp
    have z1 : (vecT p.1).size ≤ 65 := vecT_size hb.1
    have z2 : (vecT p.2.1).size ≤ 65 := vecT_size hb.2.1
    simp only [profW, List.mem_cons, List.mem_nil_iff, or_false] at hw2
    rcases hw2 with rfl | rfl | rfl <;> first | omega | decide
  have hlen : (o.2.2.2.2.2.2.1.flatMap profW).length = 21 := by
    have : ∀ l : List D_Prof, (l.flatMap profW).length = 3 * l.length := by
      intro l
      induction l with
      | nil => rfl
      | cons p l ih => simp only [List.flatMap_cons, List.length_append, ih, profW, List.length_cons, List.length_nil]; omega
    rw [this, h7]
  cases o.2.2.2.2.2.1.2.2.2.2.1 with
  | true =>
    simp only [cond_true, cond_false]
    refine ex_of ((congrArg (fun q => Option.bind q _) (profI k hk _ hw h7 _ (by simp only [List.length_cons, List.length_nil]; omega))).trans ((congrArg (fun q => Option.bind q _) (joinC_eq _ _ 65 (by decide) ?_ ?_ ?_)).trans rfl)) ((bif_t (le40 (by simp only [ByteArray.size_append, sz_lit, List.length_cons, List.length_nil]; omega))).trans ((bif_t (le40 (by simp only [ByteArray.size_append, sz_lit, List.length_cons, List.length_nil]; omega))).trans ((bif_t (le40 (by simp only [ByteArray.size_append, sz_lit, List.length_cons, List.length_nil]; omega))).trans ((bif_t (le40 (by simp only [ByteArray.size_append, sz_lit, List.length_cons, List.length_nil]; omega))).trans ((bif_t (le40 (by simp only [ByteArray.size_append, sz_lit, List.length_cons, List.length_nil]; omega))).trans ((bif_t (le40 (by simp only [ByteArray.size_append, sz_lit, List.length_cons, List.length_nil]; omega))).trans ((bif_t (le40 (by simp only [ByteArray.size_append, sz_lit, List.length_cons, List.length_nil]; omega))).trans ((bif_t (le40 (by simp only [ByteArray.size_append, sz_lit, List.length_cons, List.length_nil]; omega))).trans ((bif_t (le40 (by simp only [ByteArray.size_append, sz_lit, List.length_cons, List.length_nil]; omega))).trans ((bif_t (le40 (by simp only [ByteArray.size_append, sz_lit, List.length_cons, List.length_nil]; omega))).trans ((bif_t (le40 (by simp only [ByteArray.size_append, sz_lit, List.length_cons, List.length_nil]; omega))).trans ((bif_t (le40 (by simp only [ByteArray.size_append, sz_lit, List.length_cons, List.length_nil]; omega))).trans ((bif_t (le40 (by simp only [ByteArray.size_append, sz_lit, List.length_cons, List.length_nil]; omega))).trans ((bif_t (le40 (by simp only [ByteArray.size_append, sz_lit, List.length_cons, List.length_nil]; omega))).trans ((bif_t (le40 (by simp only [ByteArray.size_append, sz_lit, List.length_cons, List.length_nil]; omega))).trans ((bif_t (le40 (by simp only [ByteArray.size_append, sz_lit, List.length_cons, List.length_nil]; omega))).trans ((bif_t (le40 (by simp only [ByteArray.size_append, sz_lit, List.length_cons, List.length_nil]; omega))).trans ((bif_t (le40 (by simp only [ByteArray.size_append, sz_lit, List.length_cons, List.length_nil]; omega))).trans ((congrArg (fun q => Option.bind q _) (profS k hk o hw h7 _ (by simp only [ByteArray.size_append, sz_lit, List.length_cons, List.length_nil]; omega))).trans rfl))))))))))))))))))) ?_
    · intro w hw'
      rcases List.mem_append.1 hw' with hw' | hw'
      · simp only [List.mem_cons, List.mem_nil_iff, or_false] at hw'
        rcases hw' with rfl | rfl | rfl | rfl | rfl | rfl | rfl | rfl | rfl | rfl | rfl | rfl | rfl | rfl | rfl | rfl | rfl | rfl | rfl <;> first | omega | decide
      · exact hsz w hw'
    · simp only [List.length_append, List.length_cons, List.length_nil, hlen]; omega
    · simp only [List.length_append, List.length_cons, List.length_nil, hlen]; omega
    · apply ba_ext
      rw [thru_prof]
      simp only [joinT_list, List.cons_append, List.nil_append, List.map_cons, List.map_append, List.map_nil, Lib.join_cons]
      simp only [Lib.joinTail, List.map_cons, List.map_nil, List.flatten_cons, List.flatten_nil, ba_app, ba_lit, List.append_assoc, List.cons_append, List.nil_append, List.append_nil]
  | false =>
    simp only [cond_true, cond_false]
    refine ex_of ((congrArg (fun q => Option.bind q _) (profI k hk _ hw h7 _ (by simp only [List.length_cons, List.length_nil]; omega))).trans ((congrArg (fun q => Option.bind q _) (joinC_eq _ _ 65 (by decide) ?_ ?_ ?_)).trans rfl)) ((bif_t (le40 (by simp only [ByteArray.size_append, sz_lit, List.length_cons, List.length_nil]; omega))).trans ((bif_t (le40 (by simp only [ByteArray.size_append, sz_lit, List.length_cons, List.length_nil]; omega))).trans ((bif_t (le40 (by simp only [ByteArray.size_append, sz_lit, List.length_cons, List.length_nil]; omega))).trans ((bif_t (le40 (by simp only [ByteArray.size_append, sz_lit, List.length_cons, List.length_nil]; omega))).trans ((bif_t (le40 (by simp only [ByteArray.size_append, sz_lit, List.length_cons, List.length_nil]; omega))).trans ((bif_t (le40 (by simp only [ByteArray.size_append, sz_lit, List.length_cons, List.length_nil]; omega))).trans ((bif_t (le40 (by simp only [ByteArray.size_append, sz_lit, List.length_cons, List.length_nil]; omega))).trans ((bif_t (le40 (by simp only [ByteArray.size_append, sz_lit, List.length_cons, List.length_nil]; omega))).trans ((bif_t (le40 (by simp only [ByteArray.size_append, sz_lit, List.length_cons, List.length_nil]; omega))).trans ((bif_t (le40 (by simp only [ByteArray.size_append, sz_lit, List.length_cons, List.length_nil]; omega))).trans ((bif_t (le40 (by simp only [ByteArray.size_append, sz_lit, List.length_cons, List.length_nil]; omega))).trans ((bif_t (le40 (by simp only [ByteArray.size_append, sz_lit, List.length_cons, List.length_nil]; omega))).trans ((bif_t (le40 (by simp only [ByteArray.size_append, sz_lit, List.length_cons, List.length_nil]; omega))).trans ((bif_t (le40 (by simp only [ByteArray.size_append, sz_lit, List.length_cons, List.length_nil]; omega))).trans ((bif_t (le40 (by simp only [ByteArray.size_append, sz_lit, List.length_cons, List.length_nil]; omega))).trans ((bif_t (le40 (by simp only [ByteArray.size_append, sz_lit, List.length_cons, List.length_nil]; omega))).trans ((bif_t (le40 (by simp only [ByteArray.size_append, sz_lit, List.length_cons, List.length_nil]; omega))).trans ((bif_t (le40 (by simp only [ByteArray.size_append, sz_lit, List.length_cons, List.length_nil]; omega))).trans ((congrArg (fun q => Option.bind q _) (profS k hk o hw h7 _ (by simp only [ByteArray.size_append, sz_lit, List.length_cons, List.length_nil]; omega))).trans rfl))))))))))))))))))) ?_
    · intro w hw'
      rcases List.mem_append.1 hw' with hw' | hw'
      · simp only [List.mem_cons, List.mem_nil_iff, or_false] at hw'
        rcases hw' with rfl | rfl | rfl | rfl | rfl | rfl | rfl | rfl | rfl | rfl | rfl | rfl | rfl | rfl | rfl | rfl | rfl | rfl | rfl <;> first | omega | decide
      · exact hsz w hw'
    · simp only [List.length_append, List.length_cons, List.length_nil, hlen]; omega
    · simp only [List.length_append, List.length_cons, List.length_nil, hlen]; omega
    · apply ba_ext
      rw [thru_prof]
      simp only [joinT_list, List.cons_append, List.nil_append, List.map_cons, List.map_append, List.map_nil, Lib.join_cons]
      simp only [Lib.joinTail, List.map_cons, List.map_nil, List.flatten_cons, List.flatten_nil, ba_app, ba_lit, List.append_assoc, List.cons_append, List.nil_append, List.append_nil]
theorem law_FnExactConfText (o : D_Conf) (h : WF T_Conf o) : ∃ k y, laws_FnExactConfText k o = some ((true, ()), y) := by
  have hk : MM < (1048577 : Nat) := by decide
  refine ⟨1048577, (), ?_⟩
  revert hk
  generalize (1048577 : Nat) = k
  intro hk
  unfold laws_FnExactConfText
  obtain ⟨n1, a1, _, a3, a4⟩ := laws_szConf_bd o MM h (by decide) (by decide)
  rw [a1, Option.bind_some]
  by_cases hn1 : n1 < 0
  · rw [bif_t (by simpa using hn1)]
  rw [bif_f (by simpa using hn1)]
  have b1 := a4 (by omega)
  obtain ⟨t, g1, g2⟩ := confText_eq k hk o h b1.2.2.2.2.2.2.1.1
  simp only [laws_toConf_ok k hk o b1, laws_eqConf_ok k hk o b1, g1, g2, Option.bind_some]
  simp
end Go.Tw
