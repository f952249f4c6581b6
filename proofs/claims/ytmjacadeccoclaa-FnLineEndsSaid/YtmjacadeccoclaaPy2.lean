/- Plain facts on the mirrors of the functions are proved here. -/
import Derived.Test.YtmjacadeccoclaaPy1
set_option linter.all false
namespace Go.Tw
open Go Go.RowKit

theorem byte_wf {code : List Int} (hw : WF (.sl (.int .u8)) code) : ∀ v ∈ code, 0 ≤ v ∧ v ≤ 255 := by
  intro v hv
  have := hw.2 v hv
  simpa [WF, inR, IntKind.min, IntKind.max, IntKind.signed, IntKind.bits] using this
theorem big_eq (code : List Int) : laws_big code = some ((decide (1048576 < ((code.length : Nat) : Int)), ()), ()) := rfl
theorem lawPick_ok (k : Nat) (hk : MM < k) {code : List Int} (h : CodeP code) (s : Int) (hs : 0 ≤ s ∧ s ≤ 1000) (n : Int) (hn : 2 ≤ n ∧ n ≤ 1000000) : ∃ x, laws_pick k code s n = some ((x, ()), ()) ∧ 0 ≤ x ∧ x < n := by
  have hM : MM = 1048576 := rfl
  have hl := h.len
  unfold laws_pick
  by_cases h0 : code.length = 0
  · rw [bif_f (by simp [h0])]
    exact ⟨0, rfl, by omega, by omega⟩
  · rw [bif_t (by simp; exact fun e => h0 (by simp [e])), bif_f (by simp; omega)]
    obtain ⟨a, ⟨ha0, ha1⟩, run⟩ := inv_run (step := laws_pick_s5) (n := 3) (st := fun i (a : Int) => ((), code, s, n, a, (i : Int), ())) (fin := fun a => ((), s, n, a, ())) (fun i a => 0 ≤ a ∧ a ≤ 100000 * 100 ^ i) (fun i a hi hI => by
      have hw1 : IntKind.wrap .i64 (s + (i : Int)) = s + (i : Int) := w64 (by omega)
      have hm := tmod_rng (x := s + (i : Int)) (n := ((code.length : Nat) : Int)) (by omega) (by omega)
      have hv := h.bytes _ (getD_mem code 0 (Int.tmod (s + (i : Int)) ((code.length : Nat) : Int)).toNat (by omega))
      have hb : a ≤ 1000000000 := by
        have h3 : i = 0 ∨ i = 1 ∨ i = 2 := by omega
        rcases h3 with rfl | rfl | rfl <;> omega
      generalize hvv : code.getD (Int.tmod (s + (i : Int)) ((code.length : Nat) : Int)).toNat 0 = v at hv
      refine ⟨31 * a + v, ⟨by omega, ?_⟩, fun rec => ?_⟩
      · have h3 : i = 0 ∨ i = 1 ∨ i = 2 := by omega
        rcases h3 with rfl | rfl | rfl <;> omega
      · unfold laws_pick_s5
        simp only [hw1, hvv]
        have q1 : (!decide (((code.length : Nat) : Int) = 0)) = true := by rw [Bool.not_eq_true', decide_eq_false_iff_not]; omega
        have q3 : (decide ((0 : Int) ≤ Int.tmod (s + (i : Int)) ((code.length : Nat) : Int)) && decide (Int.tmod (s + (i : Int)) ((code.length : Nat) : Int) < ((code.length : Nat) : Int))) = true := by rw [Bool.and_eq_true, decide_eq_true_eq, decide_eq_true_eq]; exact hm
        have q4 : decide ((Int.tmod (s + (i : Int)) ((code.length : Nat) : Int)).toNat < code.length) = true := decide_eq_true (by omega)
        rw [bif_t (decide_eq_true (by omega)), bif_t q1, bif_t q3, bif_t q4]
        rw [w64 (n := 31 * a) (by omega), w64 (n := v) (by omega), w64 (n := 31 * a + v) (by omega), w64 (n := (i : Int) + 1) (by omega)]
        rfl) (fun a hI rec => by
      unfold laws_pick_s5
      exact bif_f (by simp)) 3 0 k 0 (by omega) (by omega) (by omega)
    have run' : iter laws_pick_s5 k ((), code, s, n, (0 : Int), (0 : Int), ()) = some ((), s, n, a, ()) := run
    rw [run']
    simp only [Option.bind_some]
    refine ⟨Int.tmod (a + s) n, ?_, tmod_rng (by omega) (by omega)⟩
    rw [bif_t (by simp; omega), w64 (n := a + s) (by omega)]
theorem split_run (k : Nat) (hk : MM < k) (x mid e3 e5 : D_Line) (m : Int) (hm : 0 ≤ m ∧ m ≤ 1000) (A B : List D_Done) (hl : A.length + B.length ≤ 1000) (hB : ∀ d ∈ B, 0 ≤ d.2.1 ∧ d.2.1 ≤ 100000) :
    iter laws_FnLineSplit_s14 k ((), x, m, A, mid, B, e3, A ++ B.map (fun d => (d.1, d.2.1 + m, ())), (0 : Int), ()) = some (Sum.inr ((), x, mid, e3, ())) := by
  have hM : MM = 1048576 := rfl
  have hlen : (A ++ B.map (fun d => ((d.1, d.2.1 + m, ()) : D_Done))).length = A.length + B.length := by simp
  generalize hC : A ++ B.map (fun d => ((d.1, d.2.1 + m, ()) : D_Done)) = C at hlen
  have run := search_run (step := laws_FnLineSplit_s14) (st := fun i => ((), x, m, A, mid, B, e3, C, (i : Int), ())) (n := C.length) (hit := fun i => none) (fin := Sum.inr ((), x, mid, e3, ())) (fun i hi rec => by
      have hwi : IntKind.wrap .i64 ((i : Int) + 1) = ((i + 1 : Nat) : Int) := w64 (by omega)
      have c0 : decide ((i : Int) < ((C.length : Nat) : Int)) = true := decide_eq_true (by omega)
      have c1 : (decide ((0 : Int) ≤ (i : Int)) && decide ((i : Int) < ((C.length : Nat) : Int))) = true := by simp; omega
      have c2 : decide ((i : Int).toNat < C.length) = true := decide_eq_true (by omega)
      unfold laws_FnLineSplit_s14
      by_cases hA : i < A.length
      · have hg : C.getD (i : Int).toNat z_Done = A.getD (i : Int).toNat z_Done := by
          show C.getD i z_Done = A.getD i z_Done
          rw [getD_at C z_Done i hi, getD_at A z_Done i hA]
          subst hC
          rw [List.getElem_append_left hA]
        have a0 : decide ((i : Int) < ((A.length : Nat) : Int)) = true := decide_eq_true (by omega)
        have a1 : (decide ((0 : Int) ≤ (i : Int)) && decide ((i : Int) < ((A.length : Nat) : Int))) = true := by simp; omega
        have a2 : decide ((i : Int).toNat < A.length) = true := decide_eq_true (by omega)
        have a3 : decide (((A.length : Nat) : Int) ≤ (i : Int)) = false := decide_eq_false (by omega)
        refine (bif_t c0).trans ?_
        refine (bif_t a0).trans ?_
        refine (bif_t a1).trans ?_
        refine (bif_t a2).trans ?_
        refine (bif_t c1).trans ?_
        refine (bif_t c2).trans ?_
        rw [hg]
        refine (bif_t (by simp)).trans ?_
        refine (bif_f a3).trans ?_
        simp only [hwi]
        rfl
      · obtain ⟨j, rfl⟩ : ∃ j, i = A.length + j := ⟨i - A.length, by omega⟩
        have hj : j < B.length := by omega
        have hbm := hB _ (getD_mem B z_Done j hj)
        have hg : C.getD ((A.length + j : Nat) : Int).toNat z_Done = ((B.getD j z_Done).1, (B.getD j z_Done).2.1 + m, ()) := by
          show C.getD (A.length + j) z_Done = _
          rw [getD_at C z_Done _ hi, getD_at B z_Done j hj]
          subst hC
          rw [List.getElem_append_right (by omega)]
          simp
        have hws : IntKind.wrap .i64 (((A.length + j : Nat) : Int) - ((A.length : Nat) : Int)) = (j : Int) := by rw [w64 (by omega)]; omega
        have a0 : decide (((A.length + j : Nat) : Int) < ((A.length : Nat) : Int)) = false := decide_eq_false (by omega)
        have a3 : decide (((A.length : Nat) : Int) ≤ ((A.length + j : Nat) : Int)) = true := decide_eq_true (by omega)
        have b1 : (decide ((0 : Int) ≤ (j : Int)) && decide ((j : Int) < ((B.length : Nat) : Int))) = true := by simp; omega
        have b2 : decide ((j : Int).toNat < B.length) = true := decide_eq_true (by omega)
        refine (bif_t c0).trans ?_
        refine (bif_f a0).trans ?_
        refine (bif_t a3).trans ?_
        simp only [hws]
        refine (bif_t b1).trans ?_
        refine (bif_t b2).trans ?_
        refine (bif_t c1).trans ?_
        refine (bif_t c2).trans ?_
        rw [hg]
        have hgj : B.getD (j : Int).toNat z_Done = B.getD j z_Done := rfl
        rw [hgj]
        refine (bif_t (by simp)).trans ?_
        refine (bif_t b1).trans ?_
        refine (bif_t b2).trans ?_
        refine (bif_t c1).trans ?_
        refine (bif_t c2).trans ?_
        have hwm : IntKind.wrap .i64 ((B.getD j z_Done).2.1 + m) = (B.getD j z_Done).2.1 + m := w64 (by omega)
        simp only [hwm, decide_true, Bool.not_true, cond_false, hwi]
        rfl) (fun rec => by
      unfold laws_FnLineSplit_s14
      exact bif_f (by simp)) C.length 0 k (by omega) (by omega)
  rw [sch_none] at run
  exact run
theorem end_eq (k : Nat) (hk : MM < k) (x : D_Line) (h : fits x) : ∃ n, impl_LineEnd k x = some ((n, ()), ()) := ⟨_, implEnd_eq k hk x h⟩
theorem law_FnLineSplit (code : List Int) (hw : WF (.sl (.int .u8)) code) : ∃ k y, laws_FnLineSplit k code = some ((true, ()), y) := by
  have hk : MM < (1048577 : Nat) := by decide
  refine ⟨1048577, (), ?_⟩
  revert hk
  generalize (1048577 : Nat) = k
  intro hk
  have hM : MM = 1048576 := rfl
  unfold laws_FnLineSplit
  rw [big_eq]
  simp only [Option.bind_some]
  by_cases hb : 1048576 < ((code.length : Nat) : Int)
  · rw [bif_t (by simpa using hb)]
  rw [bif_f (by simpa using hb)]
  have hc : CodeP code := ⟨byte_wf hw, by omega⟩
  obtain ⟨l, e1, t1⟩ := drawTick_ok k hk hc
  have hf : fits l := by unfold tot at t1; exact ⟨by omega, by omega, by omega⟩
  simp only [e1, Option.bind_some, specOk_eq k hk l hf, ← line_eq]
  cases hl : lineI l with
  | false =>
    simp only [Bool.not_false, cond_true, held_eq k hk l hf, hl, Option.bind_some, cond_false]
    rfl
  | true =>
    have hP := (lineI_iff l).1 hl
    obtain ⟨x, e2, hx⟩ := lawPick_ok k hk hc 1 (by omega) 300 (by omega)
    obtain ⟨y, e3, hy⟩ := lawPick_ok k hk hc 2 (by omega) 300 (by omega)
    obtain ⟨m, rfl⟩ : ∃ m : Nat, x = (m : Int) := ⟨x.toNat, by omega⟩
    obtain ⟨n, rfl⟩ : ∃ n : Nat, y = (n : Int) := ⟨y.toNat, by omega⟩
    have hmid := tickN_lineP m l hP
    have hend := tickN_lineP n _ hmid
    have t2 : tot (tickN m l) ≤ 16 := lineP_tot ((lineI_iff _).2 hmid)
    have t3 : tot (tickN n (tickN m l)) ≤ 16 := lineP_tot ((lineI_iff _).2 hend)
    have t0 : tot l ≤ 16 := lineP_tot hl
    have r1 : impl_LineRun k l (m : Int) = some ((tickN m l, runG m l 1, ()), ()) := by rw [implRun_eq k hk l hf, lineRun_eq hP m (by omega)]
    have r2 : impl_LineRun k (tickN m l) (n : Int) = some ((tickN n (tickN m l), runG n (tickN m l) 1, ()), ()) := by rw [implRun_eq k hk _ (tot_fits (by omega)), lineRun_eq hmid n (by omega)]
    have hadd : runG (m + n) l 1 = runG m l 1 ++ (runG n (tickN m l) 1).map (fun d => (d.1, d.2.1 + (m : Int), ())) := by rw [runG_add, runG_shift]
    have r3 : impl_LineRun k l ((m : Int) + (n : Int)) = some ((tickN n (tickN m l), runG m l 1 ++ (runG n (tickN m l) 1).map (fun d => (d.1, d.2.1 + (m : Int), ())), ()), ()) := by
      rw [show (m : Int) + (n : Int) = ((m + n : Nat) : Int) by omega, implRun_eq k hk l hf, lineRun_eq hP (m + n) (by omega), tickN_add, hadd]
    have hwn : IntKind.wrap .i64 ((m : Int) + (n : Int)) = (m : Int) + (n : Int) := w64 (by omega)
    obtain ⟨q, e4⟩ := end_eq k hk (tickN n (tickN m l)) (tot_fits (by omega))
    have h1 := held_eq k hk l hf
    have h2 := held_eq k hk (tickN n (tickN m l)) (tot_fits (by omega))
    rw [hl] at h1
    rw [(lineI_iff _).2 hend] at h2
    have i1 := runG_ids m l 1
    have i2 := runG_ids n (tickN m l) 1
    have hlen : tot l = (runG m l 1).length + (runG n (tickN m l) 1).length + tot (tickN n (tickN m l)) := by
      rw [tot_all, tot_all, i1, i2]; simp [Nat.add_assoc]
    have hl1 : (runG m l 1).length ≤ 16 := by omega
    have hl2 : (runG n (tickN m l) 1).length ≤ 16 := by omega
    have hrun := split_run k hk l (tickN n (tickN m l)) (tickN n (tickN m l)) l (m : Int) (by omega) (runG m l 1) (runG n (tickN m l) 1) (by omega) (fun d hd => by have := runG_time n _ _ d hd; omega)
    have hwl : IntKind.wrap .i64 (((runG m l 1).length : Int) + ((runG n (tickN m l) 1).length : Int)) = (((runG m l 1 ++ (runG n (tickN m l) 1).map (fun d => ((d.1, d.2.1 + (m : Int), ()) : D_Done))).length : Nat) : Int) := by rw [w64 (by omega)]; simp
    have hwt : IntKind.wrap .i64 ((tot (tickN n (tickN m l)) : Int) + (((runG m l 1 ++ (runG n (tickN m l) 1).map (fun d => ((d.1, d.2.1 + (m : Int), ()) : D_Done))).length : Nat) : Int)) = (tot l : Int) := by
      have : (runG m l 1 ++ (runG n (tickN m l) 1).map (fun d => ((d.1, d.2.1 + (m : Int), ()) : D_Done))).length = (runG m l 1).length + (runG n (tickN m l) 1).length := by simp
      rw [this, w64 (by omega)]; omega
    have hcap : ∀ (m : Nat) (l : D_Line), (tickN m l).1 = l.1 := by
      intro m
      induction m with
      | zero => intro l; rfl
      | succ m ih => intro l; simp only [tickN]; rw [ih]; rfl
    have hcap2 : (tickN n (tickN m l)).1 = l.1 := by rw [hcap, hcap]
    simp only [Bool.not_true, cond_false, e2, e3, Option.bind_some, r1, r2, hwn, r3, hwl, decide_true, Bool.not_false, cond_true, e4, h1, h2, hwt]
    refine (congrArg (fun o => Option.bind o _) hrun).trans ?_
    simp only [Option.bind_some, Sum.elim_inr, hcap2, decide_true, cond_true]
end Go.Tw
