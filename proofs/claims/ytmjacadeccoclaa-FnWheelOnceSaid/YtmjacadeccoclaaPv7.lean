/- Plain facts on the mirrors of the functions are proved here. -/
import Derived.Test.YtmjacadeccoclaaPv6
set_option linter.all false
namespace Go.Tw
open Go Go.RowKit

def eqT (e f : D_Timer) : Bool := decide (f.1 = e.1) && (decide (f.2.1 = e.2.1) && true)
theorem one_filt (e : D_Timer) : ∀ L : List D_Timer, (L.map (·.1)).Nodup → e ∈ L → (L.filter (eqT e)).length = 1
  | [], _, h => by simp at h
  | f :: L, hn, he => by
    simp only [List.map_cons, List.nodup_cons] at hn
    rw [List.filter_cons]
    rcases List.mem_cons.1 he with rfl | he
    · have h1 : eqT e e = true := by simp [eqT]
      have h2 : L.filter (eqT e) = [] := by
        rw [List.filter_eq_nil_iff]
        intro f hf hq
        simp only [eqT, Bool.and_eq_true, decide_eq_true_eq] at hq
        exact hn.1 (hq.1 ▸ List.mem_map_of_mem hf)
      rw [h1, h2]; rfl
    · have h1 : eqT e f = false := by
        cases hq : eqT e f with
        | false => rfl
        | true =>
          simp only [eqT, Bool.and_eq_true, decide_eq_true_eq] at hq
          exact absurd (hq.1 ▸ List.mem_map_of_mem he) hn.1
      rw [h1]
      simpa using one_filt e L hn.2 he
theorem filt_or {α : Type} (p q : α → Bool) : ∀ l : List α, (∀ e ∈ l, ¬ (p e = true ∧ q e = true)) → (l.filter p ++ l.filter q).Perm (l.filter fun e => p e || q e)
  | [], _ => by simp
  | e :: l, h => by
    have ih := filt_or p q l fun f hf => h f (by simp [hf])
    have h0 := h e (by simp)
    simp only [List.filter_cons]
    cases hp : p e with
    | true =>
      have hq : q e = false := by
        cases hq : q e with
        | false => rfl
        | true => exact absurd ⟨hp, hq⟩ h0
      rw [hq]
      simpa using ih.cons e
    | false =>
      cases hq : q e with
      | true =>
        simp only [Bool.false_eq_true, ↓reduceIte, Bool.or_true]
        exact List.perm_middle.trans (ih.cons e)
      | false => simpa using ih
theorem flat_at {w : D_Wheel} (P : WheelP w) {e : D_Timer} (he : e ∈ flatW w) : w.1 + 1 ≤ e.2.1 := by
  unfold flatW at he
  obtain ⟨s, hs, he⟩ := List.mem_flatMap.1 he
  exact (P.at hs he).2.1
theorem gone_perm {w : D_Wheel} (P : WheelP w) : ∀ m, (goneW w m).Perm ((flatW w).filter fun e => decide (e.2.1 ≤ w.1 + (m : Int)))
  | 0 => by
    have : (flatW w).filter (fun e => decide (e.2.1 ≤ w.1 + ((0 : Nat) : Int))) = [] := by
      rw [List.filter_eq_nil_iff]
      intro e he
      have := flat_at P he
      simp; omega
    rw [this]; exact List.Perm.refl _
  | m + 1 => by
    simp only [goneW]
    refine ((gone_perm P m).append_right _).trans ?_
    refine (filt_or _ _ _ fun e he hq => ?_).trans ?_
    · unfold atB at hq
      simp only [decide_eq_true_eq] at hq
      omega
    · refine List.Perm.of_eq (List.filter_congr fun e he => ?_)
      unfold atB
      rw [← Bool.coe_iff_coe]
      simp only [Bool.or_eq_true, decide_eq_true_eq]
      omega
theorem gone_le {w : D_Wheel} (P : WheelP w) {m : Nat} {e : D_Timer} (he : e ∈ goneW w m) : e.2.1 ≤ w.1 + (m : Int) := by
  have := (gone_perm P m).mem_iff.1 he
  simpa using (List.mem_filter.1 this).2
theorem gone_sorted {w : D_Wheel} (P : WheelP w) : ∀ m, (goneW w m).Pairwise fun a b => a.2.1 ≤ b.2.1
  | 0 => by simp [goneW]
  | m + 1 => by
    simp only [goneW]
    refine List.pairwise_append.2 ⟨gone_sorted P m, ?_, fun a ha b hb => ?_⟩
    · refine List.pairwise_iff_forall_sublist.2 fun {a b} h => ?_
      have ha := (List.mem_filter.1 (h.subset (by simp : a ∈ [a, b]))).2
      have hb := (List.mem_filter.1 (h.subset (by simp : b ∈ [a, b]))).2
      unfold atB at ha hb
      simp only [decide_eq_true_eq] at ha hb
      omega
    · have h1 := gone_le P ha
      have h2 := (List.mem_filter.1 hb).2
      unfold atB at h2
      simp only [decide_eq_true_eq] at h2
      omega
theorem ltimers_eq (k : Nat) (hk : MM < k) (w : D_Wheel) (hl : w.2.1.length ≤ 1048576) (hs : sumW w.2.1 ≤ 1048576) : laws_timers k w = some ((flatW w, ()), ()) := by
  have hM : MM = 1048576 := rfl
  unfold laws_timers
  have run := thru_run0 (step := laws_timers_s3) (x := w.2.1) z_Spoke (st := fun j a => ((), w, a, (j : Int), ())) (g := fun _ s a => a ++ s.1) (fin := fun a => ((), a, ())) (fun j a => a = (w.2.1.take j).flatMap (·.1))
    (fun j a hj hI rec => by
      unfold laws_timers_s3
      refine (bif_t (by simp; omega)).trans ?_
      refine (bif_t (by simp; omega)).trans ?_
      refine (bif_t (by simp; omega)).trans ?_
      have h1 : (a ++ (w.2.1.getD j z_Spoke).1).length ≤ sumW w.2.1 := by
        have := sub_flatW w.2.1 (j + 1)
        rw [List.take_add_one, getD_at w.2.1 z_Spoke j hj] at *
        simp only [List.getElem?_eq_getElem hj, Option.toList_some, List.flatMap_append, List.flatMap_cons, List.flatMap_nil, List.append_nil] at this
        rw [hI]; exact this
      rw [List.length_append] at h1
      have h2 : (a.length + (w.2.1.getD (j : Int).toNat z_Spoke).1.length) * 16 ≤ 1099511627776 := by
        have : (w.2.1.getD (j : Int).toNat z_Spoke).1.length = (w.2.1.getD j z_Spoke).1.length := rfl
        omega
      refine (bif_t (decide_eq_true h2)).trans ?_
      have hwi : IntKind.wrap .i64 ((j : Int) + 1) = ((j + 1 : Nat) : Int) := w64 (by omega)
      show rec ((), w, a ++ (w.2.1.getD j z_Spoke).1, IntKind.wrap .i64 ((j : Int) + 1), ()) = _
      rw [hwi])
    (fun j a hj hI => by
      rw [hI, List.take_add_one, getD_at w.2.1 z_Spoke j hj]
      simp only [List.getElem?_eq_getElem hj, Option.toList_some, List.flatMap_append, List.flatMap_cons, List.flatMap_nil, List.append_nil]) (fun a _ rec => by
      unfold laws_timers_s3
      exact bif_f (by simp)) (k := k) (by omega) (a := []) (by simp)
  refine (congrArg (fun o => Option.bind o _) run).trans ?_
  rw [thru_flat]
  rfl
theorem in5 (k : Nat) (hk : MM < k) (w : D_Wheel) (n : Int) (G T A L : List D_Timer) (hL : L.length ≤ 1048576) (i : Nat) (hi : i < T.length) :
    iter laws_FnWheelOnce_s23 k ((), w, n, G, T, A, (i : Int), (0 : Int), L, (0 : Int), ()) = some ((), (((L.filter (eqT (T.getD i z_Timer))).length : Nat) : Int), ()) := by
  have hM : MM = 1048576 := rfl
  have run := thru_run0 (step := laws_FnWheelOnce_s23) (x := L) z_Timer (st := fun j (a : Int) => ((), w, n, G, T, A, (i : Int), a, L, (j : Int), ())) (g := fun _ f (a : Int) => bif eqT (T.getD i z_Timer) f then a + 1 else a) (fin := fun a => ((), a, ())) (fun j a => 0 ≤ a ∧ a ≤ (j : Int))
    (fun j a hj hI rec => by
      unfold laws_FnWheelOnce_s23
      have hwi : IntKind.wrap .i64 ((j : Int) + 1) = ((j + 1 : Nat) : Int) := w64 (by omega)
      have hwa : IntKind.wrap .i64 (a + 1) = a + 1 := w64 (by omega)
      refine (bif_t (by simp; omega)).trans ?_
      refine (bif_t (by simp; omega)).trans ?_
      refine (bif_t (by simp; omega)).trans ?_
      refine (bif_t (by simp; omega)).trans ?_
      refine (bif_t (by simp; omega)).trans ?_
      simp only [hwi, hwa]
      show (bif eqT (T.getD i z_Timer) (L.getD j z_Timer) then _ else _) = _
      cases eqT (T.getD i z_Timer) (L.getD j z_Timer) <;> rfl)
    (fun j a hj hI => by
      cases eqT (T.getD i z_Timer) (L.getD j z_Timer) <;> simp <;> omega) (fun a _ rec => by
      unfold laws_FnWheelOnce_s23
      exact bif_f (by simp)) (k := k) (by omega) (a := 0) (by simp)
  rw [thru_count] at run
  simpa using run
theorem out5 (k : Nat) (hk : MM < k) (w : D_Wheel) (n : Int) (hw : IntKind.wrap .i64 (w.1 + n) = w.1 + n) (G T A : List D_Timer) (hT : T.length ≤ 1048576) (hG : G.length ≤ 1048576) (hA : A.length ≤ 1048576)
    (h1 : ∀ e ∈ T, e.2.1 ≤ w.1 + n → (G.filter (eqT e)).length = 1) (h2 : ∀ e ∈ T, ¬ e.2.1 ≤ w.1 + n → (A.filter (eqT e)).length = 1) :
    iter (laws_FnWheelOnce_s16 k) k ((), w, n, G, T, A, (0 : Int), ()) = some (Sum.inr ((), G, ())) := by
  have hM : MM = 1048576 := rfl
  have run := search_run (step := laws_FnWheelOnce_s16 k) (st := fun (i : Nat) => ((), w, n, G, T, A, (i : Int), ())) (n := T.length) (hit := fun _ => none) (fin := Sum.inr ((), G, ())) (fun i hi rec => by
      unfold laws_FnWheelOnce_s16
      have hwi : IntKind.wrap .i64 ((i : Int) + 1) = ((i + 1 : Nat) : Int) := w64 (by omega)
      have hm := getD_mem T z_Timer i hi
      refine (bif_t (by simp; omega)).trans ?_
      refine (bif_t (by simp; omega)).trans ?_
      refine (bif_t (by simp; omega)).trans ?_
      simp only [hw, hwi]
      show (bif decide ((T.getD i z_Timer).2.1 ≤ w.1 + n) then _ else _) = _
      by_cases hc : (T.getD i z_Timer).2.1 ≤ w.1 + n
      · rw [bif_t (decide_eq_true hc)]
        refine (congrArg (fun o => Option.bind o _) (in5 k hk w n G T A G hG i hi)).trans ?_
        rw [h1 _ hm hc]
        rfl
      · rw [bif_f (decide_eq_false hc)]
        refine (congrArg (fun o => Option.bind o _) (in5 k hk w n G T A A hA i hi)).trans ?_
        rw [h2 _ hm hc]
        rfl) (fun rec => by
      unfold laws_FnWheelOnce_s16
      exact bif_f (by simp)) T.length 0 k (by omega) (by omega)
  rw [sch_none] at run
  exact run
theorem pair_get {l : List D_Timer} (h : l.Pairwise fun a b => a.2.1 ≤ b.2.1) (i j : Nat) (hij : i < j) (hj : j < l.length) : (l.getD i z_Timer).2.1 ≤ (l.getD j z_Timer).2.1 := by
  rw [getD_at _ z_Timer i (by omega), getD_at _ z_Timer j hj]
  exact List.pairwise_iff_getElem.1 h i j (by omega) hj hij
theorem sort5 (k : Nat) (hk : MM < k) (G : List D_Timer) (hG : G.length ≤ 1048576) (hs : G.Pairwise fun a b => a.2.1 ≤ b.2.1) :
    iter laws_FnWheelOnce_s30 k ((), G, (1 : Int), ()) = some (Sum.inr ((), ())) := by
  have hM : MM = 1048576 := rfl
  by_cases h0 : G.length = 0
  · obtain ⟨k, rfl⟩ : ∃ j, k = j + 1 := ⟨k - 1, by omega⟩
    rw [iter_succ]
    unfold laws_FnWheelOnce_s30
    exact bif_f (by simp; omega)
  · have run := search_run (step := laws_FnWheelOnce_s30) (st := fun (i : Nat) => ((), G, ((i + 1 : Nat) : Int), ())) (n := G.length - 1) (hit := fun _ => none) (fin := Sum.inr ((), ())) (fun i hi rec => by
      unfold laws_FnWheelOnce_s30
      have hwi : IntKind.wrap .i64 (((i + 1 : Nat) : Int) + 1) = ((i + 1 + 1 : Nat) : Int) := w64 (by omega)
      have hwm : IntKind.wrap .i64 (((i + 1 : Nat) : Int) - 1) = (i : Int) := by rw [w64 (by omega)]; omega
      have hle := pair_get hs i (i + 1) (by omega) (by omega)
      refine (bif_t (by simp; omega)).trans ?_
      simp only [hwm, hwi]
      refine (bif_t (by simp; omega)).trans ?_
      refine (bif_t (by simp; omega)).trans ?_
      refine (bif_t (by simp; omega)).trans ?_
      refine (bif_t (by simp; omega)).trans ?_
      refine (bif_f (decide_eq_false ?_)).trans rfl
      show ¬ (G.getD (i + 1) z_Timer).2.1 < (G.getD i z_Timer).2.1
      omega) (fun rec => by
      unfold laws_FnWheelOnce_s30
      exact bif_f (by simp; omega)) (G.length - 1) 0 k (by omega) (by omega)
    rw [sch_none] at run
    exact run
theorem law_FnWheelOnce (code : List Int) (hw : WF (.sl (.int .u8)) code) : ∃ k y, laws_FnWheelOnce k code = some ((true, ()), y) := by
  have hk : MM < (1048577 : Nat) := by decide
  refine ⟨1048577, (), ?_⟩
  revert hk
  generalize (1048577 : Nat) = k
  intro hk
  have hM : MM = 1048576 := rfl
  unfold laws_FnWheelOnce
  rw [big_eq]
  simp only [Option.bind_some]
  cases hbig : decide ((1048576 : Int) < ((code.length : Nat) : Int)) with
  | true => rfl
  | false =>
    have hC : CodeP code := ⟨byte_wf hw, by simp at hbig; omega⟩
    obtain ⟨w, n, e1, S⟩ := drawRun_ok k hk hC
    have hf := S.fit
    have s1 := specWheelRun_eq k hk w hf n
    have s2 := implWheelRun_eq k hk w hf n
    simp only [e1, s1, s2, Option.bind_some, cond_false]
    cases hb : runB w n with
    | false =>
      have : runR w n = noneW := by unfold runR; rw [hb]; rfl
      rw [this]; rfl
    | true =>
      have hr : runR w n = (after w n.toNat, goneW w n.toNat, ()) := by unfold runR; rw [hb]; rfl
      rw [hr]
      unfold runB at hb
      simp only [Bool.and_eq_true, decide_eq_true_eq] at hb
      obtain ⟨hb1, ⟨hb2, hb3⟩, hb4⟩ := hb
      have P := (wheelI_iff w).1 hb1
      have hn := P.now
      obtain ⟨N, rfl⟩ : ∃ N : Nat, n = (N : Int) := ⟨n.toNat, by omega⟩
      rw [show ((N : Int)).toNat = N from rfl]
      have PN := after_P P N (by omega)
      have hw1 : IntKind.wrap .i64 (w.1 + (N : Int)) = w.1 + (N : Int) := w64 (by omega)
      have hp := gone_perm P N
      have hfa := flat_after w N
      have h64 := flat_len P
      have hgl := hp.length_eq
      have hl1 := List.length_filter_le (fun e : D_Timer => decide (e.2.1 ≤ w.1 + (N : Int))) (flatW w)
      have hl2 := List.length_filter_le (fun e : D_Timer => decide (w.1 + (N : Int) < e.2.1)) (flatW w)
      have hall : (goneW w N).length + (flatW (after w N)).length = (flatW w).length := by
        have h1 := (filt_or (fun e : D_Timer => decide (e.2.1 ≤ w.1 + (N : Int))) (fun e : D_Timer => decide (w.1 + (N : Int) < e.2.1)) (flatW w) (fun e he hq => by simp only [decide_eq_true_eq] at hq; omega)).length_eq
        have h2 : (flatW w).filter (fun e => decide (e.2.1 ≤ w.1 + (N : Int)) || decide (w.1 + (N : Int) < e.2.1)) = flatW w := by
          rw [List.filter_eq_self]
          intro e he
          simp only [Bool.or_eq_true, decide_eq_true_eq]
          omega
        rw [h2, List.length_append] at h1
        rw [hgl, hfa]; exact h1
      have sW : sumW w.2.1 ≤ 1048576 := by have := P.sum; omega
      have sA : sumW (after w N).2.1 ≤ 1048576 := by have := PN.sum; omega
      have t1 := ltimers_eq k hk w hf.1 sW
      have t2 := ltimers_eq k hk (after w N) PN.fit.1 sA
      have hs := specOk_eq k hk (after w N) PN.fit
      rw [(wheelS_iff _).2 PN] at hs
      have hlen8 := after_len P N
      refine (bif_f (by simp only [hlen8]; rfl)).trans ?_
      simp only [hs, Option.bind_some]
      refine (bif_t rfl).trans ?_
      rw [hw1]
      refine (bif_f (by simp [after])).trans ?_
      simp only [t1, t2, Option.bind_some]
      have hw2 : IntKind.wrap .i64 ((((goneW w N).length : Nat) : Int) + (((flatW (after w N)).length : Nat) : Int)) = (((flatW w).length : Nat) : Int) := by rw [w64 (by omega)]; omega
      rw [hw2]
      refine (bif_f (by simp)).trans ?_
      have o1 := out5 k hk w (N : Int) hw1 (goneW w N) (flatW w) (flatW (after w N)) (by omega) (by omega) (by omega)
        (fun e he hc => by
          refine one_filt e _ ?_ (hp.mem_iff.2 (List.mem_filter.2 ⟨he, by simpa using hc⟩))
          rw [(hp.map (·.1)).nodup_iff]
          exact P.nodup.sublist (List.filter_sublist.map _))
        (fun e he hc => by
          refine one_filt e _ PN.nodup ?_
          rw [hfa]
          exact List.mem_filter.2 ⟨he, by simp; omega⟩)
      refine (congrArg (fun o => Option.bind o _) o1).trans ?_
      simp only [Option.bind_some, Sum.elim_inr]
      refine (congrArg (fun o => Option.bind o _) (sort5 k hk (goneW w N) (by omega) (gone_sorted P N))).trans ?_
      rfl
end Go.Tw
