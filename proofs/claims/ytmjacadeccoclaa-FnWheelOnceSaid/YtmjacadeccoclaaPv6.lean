/- Plain facts on the mirrors of the functions are proved here. -/
import Derived.Test.YtmjacadeccoclaaPv5
set_option linter.all false
namespace Go.Tw
open Go Go.RowKit

theorem lawPick_ok (k : Nat) (hk : MM < k) {code : List Int} (h : CodeP code) (s : Int) (hs : 0 ≤ s ∧ s ≤ 1000) (n : Int) (hn : 2 ≤ n ∧ n ≤ 1000000) : ∃ x, laws_pick k code s n = some ((x, ()), ()) ∧ 0 ≤ x ∧ x < n := by
  have hM : MM = 1048576 := rfl
  have hl := h.len
  unfold laws_pick
  by_cases h0 : code.length = 0
  · rw [bif_f (by simp [h0])]
    exact ⟨0, rfl, by omega, by omega⟩
  · rw [bif_t (by simp; exact fun e => h0 (by simp [e])), bif_f (by simp; omega)]
    obtain ⟨a, ⟨ha0, ha1⟩, run⟩ := inv_run (step := laws_pick_s5) (n := 3) (st := fun i (a : Int) => ((), code, s, n, a, (i : Int), ())) (fin := fun a => ((), s, n, a, ())) (fun i a => 0 ≤ a ∧ a ≤ 100000 * 100 ^ i) (fun i a hi hI => by
      have hw1 : IntKind.wrap .i64 (s + (i : Int)) = s + (i : Int) := w64 (by omega)
      have hm := tmod_rng (x := s + (i : Int)) (n := ((code.length : Nat) : Int)) (by omega) (by omega)
      have hv := h.bytes _ (getD_mem code 0 (Int.tmod (s + (i : Int)) ((code.length : Nat) : Int)).toNat (by omega))
      have hb : a ≤ 1000000000 := by
        have h3 : i = 0 ∨ i = 1 ∨ i = 2 := by omega
        rcases h3 with rfl | rfl | rfl <;> omega
      generalize hvv : code.getD (Int.tmod (s + (i : Int)) ((code.length : Nat) : Int)).toNat 0 = v at hv
      refine ⟨31 * a + v, ⟨by omega, ?_⟩, fun rec => ?_⟩
      · have h3 : i = 0 ∨ i = 1 ∨ i = 2 := by omega
        rcases h3 with rfl | rfl | rfl <;> omega
      · unfold laws_pick_s5
        simp only [hw1, hvv]
        have q1 : (!decide (((code.length : Nat) : Int) = 0)) = true := by rw [Bool.not_eq_true', decide_eq_false_iff_not]; omega
        have q3 : (decide ((0 : Int) ≤ Int.tmod (s + (i : Int)) ((code.length : Nat) : Int)) && decide (Int.tmod (s + (i : Int)) ((code.length : Nat) : Int) < ((code.length : Nat) : Int))) = true := by rw [Bool.and_eq_true, decide_eq_true_eq, decide_eq_true_eq]; exact hm
        have q4 : decide ((Int.tmod (s + (i : Int)) ((code.length : Nat) : Int)).toNat < code.length) = true := decide_eq_true (by omega)
        rw [bif_t (decide_eq_true (by omega)), bif_t q1, bif_t q3, bif_t q4]
        rw [w64 (n := 31 * a) (by omega), w64 (n := v) (by omega), w64 (n := 31 * a + v) (by omega), w64 (n := (i : Int) + 1) (by omega)]
        rfl) (fun a hI rec => by
      unfold laws_pick_s5
      exact bif_f (by simp)) 3 0 k 0 (by omega) (by omega) (by omega)
    have run' : iter laws_pick_s5 k ((), code, s, n, (0 : Int), (0 : Int), ()) = some ((), s, n, a, ()) := run
    rw [run']
    simp only [Option.bind_some]
    refine ⟨Int.tmod (a + s) n, ?_, tmod_rng (by omega) (by omega)⟩
    rw [bif_t (by simp; omega), w64 (n := a + s) (by omega)]
theorem filt_put {w : D_Wheel} (P : WheelP w) (id t : Int) (ht : 0 ≤ t) : (flatW (putW w id t)).filter (idB id) = [(id, t, ())] := by
  have h := (flat_put P id t ht).filter (idB id)
  have e : ((id, t, ()) :: (flatW w).filter (fun e => !idB id e)).filter (idB id) = [((id, t, ()) : D_Timer)] := by
    rw [List.filter_cons, if_pos (by simp [idB]), List.filter_filter]
    congr 1
    rw [List.filter_eq_nil_iff]
    intro e he
    cases idB id e <;> simp
  rw [e] at h
  exact List.perm_singleton.1 h
theorem has_put {w : D_Wheel} (P : WheelP w) (id t : Int) (ht : 0 ≤ t) : hasB (putW w id t) id = true := by
  have h := (flat_put P id t ht).mem_iff (a := ((id, t, ()) : D_Timer))
  exact List.any_eq_true.2 ⟨_, h.2 (by simp), by simp [idB]⟩
theorem gone_filt (w : D_Wheel) (id t : Int) (h : (flatW w).filter (idB id) = [(id, t, ())]) : ∀ m, (goneW w m).filter (idB id) = bif decide (w.1 < t) && decide (t ≤ w.1 + (m : Int)) then [((id, t, ()) : D_Timer)] else []
  | 0 => by
    have : (decide (w.1 < t) && decide (t ≤ w.1 + ((0 : Nat) : Int))) = false := by rw [Bool.and_eq_false_iff, decide_eq_false_iff_not, decide_eq_false_iff_not]; omega
    rw [this]; rfl
  | m + 1 => by
    simp only [goneW, List.filter_append]
    rw [gone_filt w id t h m]
    have hc : ((flatW w).filter (atB (w.1 + ((m + 1 : Nat) : Int)))).filter (idB id) = ([((id, t, ()) : D_Timer)]).filter (atB (w.1 + ((m + 1 : Nat) : Int))) := by
      rw [← h, List.filter_filter, List.filter_filter]
      refine List.filter_congr fun e _ => ?_
      rw [Bool.and_comm]
    rw [hc]
    by_cases h1 : w.1 < t ∧ t ≤ w.1 + (m : Int)
    · have a1 : (decide (w.1 < t) && decide (t ≤ w.1 + (m : Int))) = true := by simp; exact h1
      have a2 : (decide (w.1 < t) && decide (t ≤ w.1 + ((m + 1 : Nat) : Int))) = true := by rw [Bool.and_eq_true, decide_eq_true_eq, decide_eq_true_eq]; omega
      have a3 : atB (w.1 + ((m + 1 : Nat) : Int)) ((id, t, ()) : D_Timer) = false := by unfold atB; exact decide_eq_false (by simp only; omega)
      rw [a1, a2, List.filter_cons, a3]; rfl
    · have a1 : (decide (w.1 < t) && decide (t ≤ w.1 + (m : Int))) = false := by
        rw [Bool.and_eq_false_iff, decide_eq_false_iff_not, decide_eq_false_iff_not]; omega
      rw [a1]
      by_cases h2 : t = w.1 + ((m + 1 : Nat) : Int)
      · have a2 : (decide (w.1 < t) && decide (t ≤ w.1 + ((m + 1 : Nat) : Int))) = true := by rw [Bool.and_eq_true, decide_eq_true_eq, decide_eq_true_eq]; omega
        have a3 : atB (w.1 + ((m + 1 : Nat) : Int)) ((id, t, ()) : D_Timer) = true := by unfold atB; exact decide_eq_true h2
        rw [a2, List.filter_cons, a3]; rfl
      · have a2 : (decide (w.1 < t) && decide (t ≤ w.1 + ((m + 1 : Nat) : Int))) = false := by
          rw [Bool.and_eq_false_iff, decide_eq_false_iff_not, decide_eq_false_iff_not]; omega
        have a3 : atB (w.1 + ((m + 1 : Nat) : Int)) ((id, t, ()) : D_Timer) = false := by unfold atB; exact decide_eq_false h2
        rw [a2, List.filter_cons, a3]; rfl
theorem gone_mem {w : D_Wheel} {e : D_Timer} : ∀ m, e ∈ goneW w m → e ∈ flatW w
  | 0, h => by simp [goneW] at h
  | m + 1, h => by
    simp only [goneW, List.mem_append] at h
    rcases h with h | h
    · exact gone_mem m h
    · exact (List.mem_filter.1 h).1
theorem thru_count {α : Type} (p : α → Bool) : ∀ (l : List α) (i : Nat) (a : Int), thru (fun _ e (a : Int) => bif p e then a + 1 else a) l i a = a + (((l.filter p).length : Nat) : Int)
  | [], i, a => by simp [thru]
  | e :: l, i, a => by
    simp only [thru]
    rw [thru_count p l, List.filter_cons]
    cases p e with
    | true => simp; omega
    | false => simp
theorem cnt_run (k : Nat) (hk : MM < k) (w w2 : D_Wheel) (id t : Int) (G : List D_Timer) (hG : G.length ≤ 1048576) (hA : ∀ e ∈ G, idB id e = true → e.2.1 = t) :
    iter laws_FnWheelLast_s15 k ((), w, id, t, w2, G, (0 : Int), (0 : Int), ()) = some (Sum.inr ((), w, id, t, w2, (((G.filter (idB id)).length : Nat) : Int), ())) := by
  have hM : MM = 1048576 := rfl
  have run := thru_run0 (step := laws_FnWheelLast_s15) (x := G) z_Timer (st := fun j (a : Int) => ((), w, id, t, w2, G, a, (j : Int), ())) (g := fun _ e (a : Int) => bif idB id e then a + 1 else a) (fin := fun a => Sum.inr ((), w, id, t, w2, a, ())) (fun j a => 0 ≤ a ∧ a ≤ (j : Int))
    (fun j a hj hI rec => by
      unfold laws_FnWheelLast_s15
      have c0 : decide ((j : Int) < ((G.length : Nat) : Int)) = true := decide_eq_true (by omega)
      have c1 : (decide ((0 : Int) ≤ (j : Int)) && decide ((j : Int) < ((G.length : Nat) : Int))) = true := by simp; omega
      have c2 : decide ((j : Int).toNat < G.length) = true := decide_eq_true (by omega)
      have hwi : IntKind.wrap .i64 ((j : Int) + 1) = ((j + 1 : Nat) : Int) := w64 (by omega)
      have hwa : IntKind.wrap .i64 (a + 1) = a + 1 := w64 (by omega)
      have hA' := hA _ (getD_mem G z_Timer j hj)
      obtain ⟨e, he⟩ : ∃ e, e = G.getD (j : Int).toNat z_Timer := ⟨_, rfl⟩
      have he' : e = G.getD j z_Timer := he
      rw [← he'] at hA'
      refine (bif_t c0).trans ?_
      refine (bif_t c1).trans ?_
      refine (bif_t c2).trans ?_
      simp only [← he, ← he', c1, c2, hwi, hwa]
      unfold idB at hA' ⊢
      cases hb : decide (e.1 = id) with
      | true =>
        have := hA' hb
        simp only [cond_true]
        exact bif_f (by simp [this])
      | false => rfl)
    (fun j a hj hI => by
      cases idB id (G.getD j z_Timer) <;> simp <;> omega) (fun a _ rec => by
      unfold laws_FnWheelLast_s15
      exact bif_f (by simp)) (k := k) (by omega) (a := 0) (by simp)
  rw [thru_count] at run
  simpa using run
theorem none_run (k : Nat) (hk : MM < k) (id : Int) (G : List D_Timer) (hG : G.length ≤ 1048576) (hA : ∀ e ∈ G, idB id e = false) :
    iter laws_FnWheelLast_s26 k ((), id, G, (0 : Int), ()) = some (Sum.inr ((), ())) := by
  have hM : MM = 1048576 := rfl
  have run := search_run (step := laws_FnWheelLast_s26) (st := fun (j : Nat) => ((), id, G, (j : Int), ())) (n := G.length) (hit := fun _ => none) (fin := Sum.inr ((), ())) (fun j hj rec => by
      unfold laws_FnWheelLast_s26
      have hwi : IntKind.wrap .i64 ((j : Int) + 1) = ((j + 1 : Nat) : Int) := w64 (by omega)
      have hA' : decide ((G.getD (j : Int).toNat z_Timer).1 = id) = false := hA _ (getD_mem G z_Timer j hj)
      refine (bif_t (by simp; omega)).trans ?_
      refine (bif_t (by simp; omega)).trans ?_
      refine (bif_t (by simp; omega)).trans ?_
      refine (bif_f hA').trans ?_
      rw [hwi]; rfl) (fun rec => by
      unfold laws_FnWheelLast_s26
      exact bif_f (by simp)) G.length 0 k (by omega) (by omega)
  rw [sch_none] at run
  exact run
theorem run_ok (k : Nat) (hk : MM < k) {w : D_Wheel} (P : WheelP w) (n : Int) (hn : 0 ≤ n ∧ n ≤ 1000) (hm : w.1 + n ≤ 1000000000000) : impl_WheelRun k w n = some ((after w n.toNat, goneW w n.toNat, ()), ()) := by
  rw [implWheelRun_eq k hk w P.fit n]
  unfold runR runB
  rw [(wheelI_iff w).2 P, show (true && ((decide ((0 : Int) ≤ n) && decide (n ≤ 1000)) && decide (w.1 + n ≤ 1000000000000))) = true by simp; omega]
  rfl
theorem law_FnWheelLast (code : List Int) (hw : WF (.sl (.int .u8)) code) : ∃ k y, laws_FnWheelLast k code = some ((true, ()), y) := by
  have hk : MM < (1048577 : Nat) := by decide
  refine ⟨1048577, (), ?_⟩
  revert hk
  generalize (1048577 : Nat) = k
  intro hk
  have hM : MM = 1048576 := rfl
  unfold laws_FnWheelLast
  rw [big_eq]
  simp only [Option.bind_some]
  cases hbig : decide ((1048576 : Int) < ((code.length : Nat) : Int)) with
  | true => rfl
  | false =>
    have hC : CodeP code := ⟨byte_wf hw, by simp at hbig; omega⟩
    obtain ⟨w, id, t, e1, S⟩ := drawSet_ok k hk hC
    have hf := S.fit
    have s1 := specSet_eq k hk w hf id t
    have s2 := implSet_eq k hk w hf id t
    simp only [e1, s1, s2, Option.bind_some, cond_false]
    refine (bif_t (by simp)).trans ?_
    by_cases h0 : setC w id t = 0
    case neg =>
      have : decide (setC w id t = 0) = false := decide_eq_false h0
      unfold setR
      rw [this]
      simp only [cond_false]
      refine (bif_t (by simpa using h0)).trans ?_
      simp
    have hr : setR w id t = (putW w id t, 0, ()) := by unfold setR; rw [decide_eq_true h0]; rfl
    obtain ⟨P, hid, ht, _⟩ := set_code h0
    have hn := P.now
    have P1 := put_P h0
    rw [hr]
    refine (bif_f (by simp)).trans ?_
    obtain ⟨x, e2, x0, x1⟩ := lawPick_ok k hk hC 9 (by omega) 200 (by omega)
    have w1 : IntKind.wrap .i64 (w.1 + 1) = w.1 + 1 := w64 (by omega)
    have w2 : IntKind.wrap .i64 (w.1 + 1 + x) = w.1 + 1 + x := w64 (by omega)
    have w3 : IntKind.wrap .i64 (w.1 + 1 + x - w.1) = 1 + x := by rw [w64 (by omega)]; omega
    simp only [e2, Option.bind_some, w1, w2, w3]
    obtain ⟨t2, ht2⟩ : ∃ t2, t2 = w.1 + 1 + x := ⟨_, rfl⟩
    rw [← ht2]
    have hc2 : setC (putW w id t) id t2 = 0 := by
      unfold setC
      rw [(wheelI_iff _).2 P1, has_put P id t (by omega)]
      have a1 : (true && (decide (0 ≤ id) && decide (id ≤ 9999))) = true := by simp; exact hid
      have a2 : (decide ((putW w id t).1 + 1 ≤ t2) && decide (t2 ≤ (putW w id t).1 + 1000)) = true := by rw [Bool.and_eq_true, decide_eq_true_eq, decide_eq_true_eq]; simp only [putW]; omega
      rw [a1, a2]; rfl
    have P2 := put_P hc2
    have hr2 : setR (putW w id t) id t2 = (putW (putW w id t) id t2, 0, ()) := by unfold setR; rw [decide_eq_true hc2]; rfl
    have s3 := implSet_eq k hk (putW w id t) P1.fit id t2
    rw [hr2] at s3
    simp only [s3, Option.bind_some]
    refine (bif_t (by simp)).trans ?_
    by_cases h3 : 1000000000000 < t2
    · refine (bif_t (decide_eq_true h3)).trans ?_
      simp
    refine (bif_f (decide_eq_false h3)).trans ?_
    have hf2 := filt_put P1 id t2 (by omega)
    have hh2 := has_put P1 id t2 (by omega)
    obtain ⟨W2, hW2⟩ : ∃ W2, W2 = putW (putW w id t) id t2 := ⟨_, rfl⟩
    rw [← hW2] at P2 hf2 hh2 ⊢
    have hnow : W2.1 = w.1 := by rw [hW2]; rfl
    have r1 := run_ok k hk P2 (1 + x) (by omega) (by omega)
    have hg := gone_filt W2 id t2 hf2 (1 + x).toNat
    rw [show (decide (W2.1 < t2) && decide (t2 ≤ W2.1 + (((1 + x).toNat : Nat) : Int))) = true by rw [Bool.and_eq_true, decide_eq_true_eq, decide_eq_true_eq]; omega] at hg
    simp only [cond_true] at hg
    have hgl := gone_len P2 (1 + x).toNat
    have c1 := cnt_run k hk w W2 id t2 (goneW W2 (1 + x).toNat) (by omega) (fun e he hi => by
      have hm : e ∈ (goneW W2 (1 + x).toNat).filter (idB id) := List.mem_filter.2 ⟨he, hi⟩
      rw [hg] at hm
      simp only [List.mem_singleton] at hm
      rw [hm])
    rw [hg] at c1
    have d1 := implDrop_eq k hk W2 P2.fit id
    have hd : dropR W2 id = (outW W2 id, 0, ()) := by unfold dropR; rw [(wheelI_iff _).2 P2, hh2]; rfl
    rw [hd] at d1
    have P3 := out_P P2 id
    have r2 := run_ok k hk P3 (1 + x) (by omega) (by show W2.1 + (1 + x) ≤ _; omega)
    have hgl3 := gone_len P3 (1 + x).toNat
    have n1 := none_run k hk id (goneW (outW W2 id) (1 + x).toNat) (by omega) (fun e he => by
      have := gone_mem _ he
      rw [flat_out] at this
      have := (List.mem_filter.1 this).2
      simpa using this)
    have w4 : IntKind.wrap .i64 (t2 - w.1) = 1 + x := by rw [ht2]; exact w3
    simp only [r1, Option.bind_some]
    refine (congrArg (fun o => Option.bind o _) c1).trans ?_
    simp only [Option.bind_some, Sum.elim_inr, d1]
    refine (bif_t (by simp)).trans ?_
    refine (bif_f (by simp)).trans ?_
    simp only [w4, r2, Option.bind_some]
    refine (congrArg (fun o => Option.bind o _) n1).trans ?_
    rfl
end Go.Tw
