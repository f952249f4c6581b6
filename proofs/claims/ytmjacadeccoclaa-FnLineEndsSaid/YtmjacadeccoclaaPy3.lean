/- Plain facts on the mirrors of the functions are proved here. -/
import Derived.Test.YtmjacadeccoclaaPy2
set_option linter.all false
namespace Go.Tw
open Go Go.RowKit

def need (e : D_Job) : Int := e.2.1.1 + e.2.1.2.1 + e.2.1.2.2.1
def sumNeed : List D_Job → Int
  | [] => 0
  | e :: l => need e + sumNeed l
theorem thr_sum : ∀ (l : List D_Job) (ta tb tc M : Int), (∀ e ∈ l, small e) → ta ≤ M → tb ≤ M → tc ≤ M → ∀ v ∈ thr l ta tb tc, v ≤ M + sumNeed l
  | [], _, _, _, _, _, _, _, _, v, hv => by simp [thr] at hv
  | e :: l, ta, tb, tc, M, h, h1, h2, h3, v, hv => by
    obtain ⟨s1, s2, s3⟩ := h e (by simp)
    have m1 := imax_two tb (ta + e.2.1.1)
    simp only [thr, List.mem_cons] at hv
    have hpos : ∀ l : List D_Job, (∀ e ∈ l, small e) → 0 ≤ sumNeed l := by
      intro l
      induction l with
      | nil => intro _; exact Int.le_refl _
      | cons e l ih =>
        intro h
        have := ih fun x hx => h x (by simp [hx])
        obtain ⟨t1, t2, t3⟩ := h e (by simp)
        simp only [sumNeed, need]; omega
    have hp := hpos l fun x hx => h x (by simp [hx])
    generalize hb : (if 0 < e.2.1.1 then imax tb (ta + e.2.1.1) else tb) + e.2.1.2.1 = tb1 at hv
    have g1 : tb1 ≤ M + e.2.1.1 + e.2.1.2.1 := by
      subst hb
      split <;> omega
    have m2 := imax_two tc tb1
    generalize hc : (if 0 < e.2.1.2.1 then imax tc tb1 else tc) + e.2.1.2.2.1 = tc1 at hv
    have g2 : tc1 ≤ M + need e := by
      subst hc
      unfold need
      split <;> omega
    simp only [sumNeed]
    rcases hv with rfl | hv
    · omega
    · have := thr_sum l (ta + e.2.1.1) tb1 tc1 (M + need e) (fun e he => h e (by simp [he])) (by unfold need; omega) (by unfold need; omega) g2 v hv
      omega
theorem lastT_sum {x : D_Line} (hn : NeedsOk x) : lastT x ≤ sumNeed (allJ x) := by
  by_cases he : allJ x = []
  · rw [lastT_nil he, he]; exact Int.le_refl _
  · have hne : thr (allJ x) 0 0 0 ≠ [] := fun e => he (List.eq_nil_of_length_eq_zero (by rw [← thr_len (allJ x) 0 0 0, e]; rfl))
    have := thr_sum (allJ x) 0 0 0 0 (fun e he => (needs_small hn e he).1) (by omega) (by omega) (by omega) _ (last_mem hne)
    unfold lastT
    omega
theorem lastT_ge {x : D_Line} (hn : NeedsOk x) : 0 ≤ lastT x := by
  by_cases he : allJ x = []
  · rw [lastT_nil he]; omega
  · have := lastT_pos hn he; omega
theorem lastT_tickN : ∀ (m n : Nat) (x : D_Line), NeedsOk x → lastT x = ((m + n : Nat) : Int) → NeedsOk (tickN m x) ∧ lastT (tickN m x) = (n : Int)
  | 0, n, x, hn, h => ⟨hn, by simpa [tickN] using h⟩
  | m + 1, n, x, hn, h => by
    have he : allJ x ≠ [] := fun e => by rw [lastT_nil e] at h; omega
    have h2 := lastT_tick hn he
    exact lastT_tickN m n (tick x).1 (tick_needs x hn) (by omega)
theorem lastT_zero {x : D_Line} (hn : NeedsOk x) (h : lastT x = 0) : allJ x = [] := by
  by_cases he : allJ x = []
  · exact he
  · have := lastT_pos hn he; omega
theorem needSum_run (k : Nat) (hk : MM < k) (x : D_Line) (n : Int) (L : List D_Job) (hL : L.length ≤ 1000) (hs : ∀ e ∈ L, small e) :
    iter laws_FnLineEnds_s10 k ((), x, n, L, (0 : Int), (0 : Int), ()) = some ((), x, n, L, sumNeed L, ()) := by
  have hM : MM = 1048576 := rfl
  have key : ∀ (m i kk : Nat) (a : Int), i + m = L.length → m < kk → 0 ≤ a → a ≤ 3000 * i → iter laws_FnLineEnds_s10 kk ((), x, n, L, a, (i : Int), ()) = some ((), x, n, L, a + sumNeed (L.drop i), ()) := by
    intro m
    induction m with
    | zero =>
      intro i kk a hi hkk h0 h1
      obtain ⟨kk, rfl⟩ : ∃ j, kk = j + 1 := ⟨kk - 1, by omega⟩
      have : i = L.length := by omega
      subst this
      rw [iter_succ]
      unfold laws_FnLineEnds_s10
      rw [bif_f (by simp)]
      simp [sumNeed]
    | succ m ih =>
      intro i kk a hi hkk h0 h1
      obtain ⟨kk, rfl⟩ : ∃ j, kk = j + 1 := ⟨kk - 1, by omega⟩
      obtain ⟨s1, s2, s3⟩ := hs _ (getD_mem L z_Job i (by omega))
      have c0 : decide ((i : Int) < ((L.length : Nat) : Int)) = true := decide_eq_true (by omega)
      have c1 : (decide ((0 : Int) ≤ (i : Int)) && decide ((i : Int) < ((L.length : Nat) : Int))) = true := by simp; omega
      have c2 : decide ((i : Int).toNat < L.length) = true := decide_eq_true (by omega)
      rw [iter_succ]
      obtain ⟨rec, hrec⟩ : ∃ r, r = iter laws_FnLineEnds_s10 kk := ⟨_, rfl⟩
      rw [← hrec]
      unfold laws_FnLineEnds_s10
      refine (bif_t c0).trans ?_
      refine (bif_t c1).trans ?_
      refine (bif_t c2).trans ?_
      refine (bif_t c1).trans ?_
      refine (bif_t c2).trans ?_
      refine (bif_t c1).trans ?_
      refine (bif_t c2).trans ?_
      rw [drop_at L z_Job i (by omega)]
      have hg : L.getD (i : Int).toNat z_Job = L.getD i z_Job := rfl
      simp only [hg]
      generalize L.getD i z_Job = e at s1 s2 s3
      rw [w64 (n := (i : Int) + 1) (by omega), w64 (n := a + e.2.1.1) (by omega), w64 (n := a + e.2.1.1 + e.2.1.2.1) (by omega), w64 (n := a + e.2.1.1 + e.2.1.2.1 + e.2.1.2.2.1) (by omega)]
      have := ih (i + 1) kk (a + e.2.1.1 + e.2.1.2.1 + e.2.1.2.2.1) (by omega) (by omega) (by omega) (by omega)
      rw [show ((i : Int) + 1) = ((i + 1 : Nat) : Int) from rfl, hrec, this]
      simp only [sumNeed, need]
      rw [show a + e.2.1.1 + e.2.1.2.1 + e.2.1.2.2.1 + sumNeed (L.drop (i + 1)) = a + (e.2.1.1 + e.2.1.2.1 + e.2.1.2.2.1 + sumNeed (L.drop (i + 1))) by omega]
  have := key L.length 0 k 0 (by omega) (by omega) (by omega) (by omega)
  simpa using this
theorem sameIds_run (k : Nat) (hk : MM < k) (x : D_Line) (n : Int) (L : List D_Job) (G : List D_Done) (hL : L.length ≤ 1000) (h : ids L = G.map (·.1)) :
    iter laws_FnLineEnds_s17 k ((), x, n, L, G, (0 : Int), ()) = some (Sum.inr ((), x, n, L, ())) := by
  have hM : MM = 1048576 := rfl
  have hlen : L.length = G.length := by have := congrArg List.length h; simpa using this
  have run := search_run (step := laws_FnLineEnds_s17) (st := fun i => ((), x, n, L, G, (i : Int), ())) (n := L.length) (hit := fun i => none) (fin := Sum.inr ((), x, n, L, ())) (fun i hi rec => by
      have hwi : IntKind.wrap .i64 ((i : Int) + 1) = ((i + 1 : Nat) : Int) := w64 (by omega)
      have c0 : decide ((i : Int) < ((L.length : Nat) : Int)) = true := decide_eq_true (by omega)
      have c1 : (decide ((0 : Int) ≤ (i : Int)) && decide ((i : Int) < ((L.length : Nat) : Int))) = true := by simp; omega
      have c2 : decide ((i : Int).toNat < L.length) = true := decide_eq_true (by omega)
      have d1 : (decide ((0 : Int) ≤ (i : Int)) && decide ((i : Int) < ((G.length : Nat) : Int))) = true := by simp; omega
      have d2 : decide ((i : Int).toNat < G.length) = true := decide_eq_true (by omega)
      unfold laws_FnLineEnds_s17
      refine (bif_t c0).trans ?_
      refine (bif_t d1).trans ?_
      refine (bif_t d2).trans ?_
      refine (bif_t c1).trans ?_
      refine (bif_t c2).trans ?_
      have he : (G.getD i z_Done).1 = (L.getD i z_Job).1 := by
        rw [getD_at G z_Done i (by omega), getD_at L z_Job i hi]
        have := congrArg (fun l : List Int => l[i]?) h
        simp only [List.getElem?_map, List.getElem?_eq_getElem hi, List.getElem?_eq_getElem (show i < G.length by omega), Option.map_some, Option.some.injEq] at this
        exact this.symm
      have hb : decide ((G.getD (i : Int).toNat z_Done).1 = (L.getD (i : Int).toNat z_Job).1) = true := decide_eq_true he
      refine (bif_f (by rw [hb]; rfl)).trans ?_
      simp only [hwi]
      rfl) (fun rec => by
      unfold laws_FnLineEnds_s17
      exact bif_f (by simp)) L.length 0 k (by omega) (by omega)
  rw [sch_none] at run
  exact run
theorem law_FnLineEnds (code : List Int) (hw : WF (.sl (.int .u8)) code) : ∃ k y, laws_FnLineEnds k code = some ((true, ()), y) := by
  have hk : MM < (1048577 : Nat) := by decide
  refine ⟨1048577, (), ?_⟩
  revert hk
  generalize (1048577 : Nat) = k
  intro hk
  have hM : MM = 1048576 := rfl
  unfold laws_FnLineEnds
  rw [big_eq]
  simp only [Option.bind_some]
  by_cases hb : 1048576 < ((code.length : Nat) : Int)
  · rw [bif_t (by simpa using hb)]
  rw [bif_f (by simpa using hb)]
  have hc : CodeP code := ⟨byte_wf hw, by omega⟩
  obtain ⟨l, e1, t1⟩ := drawEnd_ok k hk hc
  have hf : fits l := by unfold tot at t1; exact ⟨by omega, by omega, by omega⟩
  simp only [e1, Option.bind_some, specEnd_eq k hk l hf, implEnd_eq k hk l hf, decide_true, Bool.not_true, Bool.not_false, cond_true]
  cases hl : lineI l with
  | false => rfl
  | true =>
    have hP := (lineI_iff l).1 hl
    have hN := lineP_needs hl
    have t0 : tot l ≤ 16 := lineP_tot hl
    have t0' := t0
    unfold tot at t0'
    simp only [cond_true]
    have hge := lastT_ge hN
    obtain ⟨n, hn⟩ : ∃ n : Nat, lastT l = (n : Int) := ⟨(lastT l).toNat, by omega⟩
    rw [hn]
    rw [bif_t (by simp)]
    by_cases hmax : 20000 < (n : Int)
    · rw [bif_t (by simpa using hmax)]
    rw [bif_f (by simpa using hmax)]
    rw [bif_t (by simp; omega), bif_t (by simp; omega), bif_t (by simp; omega)]
    have hal := allJ_len l
    have hsum := needSum_run k hk l (n : Int) (allJ l) (by omega) (fun e he => (needs_small hN e he).1)
    refine (congrArg (fun o => Option.bind o _) hsum).trans ?_
    simp only [Option.bind_some]
    obtain ⟨hN2, hz⟩ := lastT_tickN n 0 l hN (by rw [hn]; rfl)
    have hnil := lastT_zero hN2 (by simpa using hz)
    have hend := tickN_lineP n l hP
    have r1 : impl_LineRun k l (n : Int) = some ((tickN n l, runG n l 1, ()), ()) := by rw [implRun_eq k hk l hf, lineRun_eq hP n (by omega)]
    have i1 := runG_ids n l 1
    rw [hnil] at i1
    have tz : tot (tickN n l) = 0 := by rw [tot_all, hnil]; rfl
    have h2 := held_eq k hk (tickN n l) (tot_fits (by omega))
    rw [(lineI_iff _).2 hend, tz] at h2
    have hlen : (runG n l 1).length = (allJ l).length := by
      have := congrArg List.length i1
      simpa using this.symm
    have hss := lastT_sum hN
    rw [hn] at hss
    have hcap : ∀ (m : Nat) (l : D_Line), (tickN m l).1 = l.1 := by
      intro m
      induction m with
      | zero => intro l; rfl
      | succ m ih => intro l; simp only [tickN]; rw [ih]; rfl
    simp only [r1, Option.bind_some]
    rw [bif_t (by simp only [Bool.not_eq_true', decide_eq_false_iff_not]; omega)]
    simp only [h2, Option.bind_some, cond_true, hlen, hcap, decide_true, Bool.not_true, Bool.not_false, cond_false]
    rw [bif_t (by rfl)]
    refine (congrArg (fun o => Option.bind o _) (sameIds_run k hk l (n : Int) (allJ l) (runG n l 1) (by omega) (by simpa using i1))).trans ?_
    simp only [Option.bind_some, Sum.elim_inr]
    by_cases h0 : n = 0
    · subst h0
      have : allJ l = [] := lastT_zero hN (by rw [hn]; rfl)
      rw [bif_t (by simp), this]
      rfl
    · rw [bif_f (by simp; omega)]
      have hwn : IntKind.wrap .i64 ((n : Int) - 1) = ((n - 1 : Nat) : Int) := by rw [w64 (by omega)]; omega
      rw [hwn]
      have r2 : impl_LineRun k l ((n - 1 : Nat) : Int) = some ((tickN (n - 1) l, runG (n - 1) l 1, ()), ()) := by rw [implRun_eq k hk l hf, lineRun_eq hP (n - 1) (by omega)]
      have hmost := tickN_lineP (n - 1) l hP
      obtain ⟨hN3, h1⟩ := lastT_tickN (n - 1) 1 l hN (by rw [hn]; omega)
      have hne : allJ (tickN (n - 1) l) ≠ [] := fun e => by rw [lastT_nil e] at h1; omega
      have hlast := lastT_tick hN3 hne
      have hz2 := lastT_zero (tick_needs _ hN3) (by omega)
      have hid := tick_idsall (tickN (n - 1) l)
      rw [hz2] at hid
      have hg : (gone (tickN (n - 1) l)).length ≤ 1 := by
        unfold gone goneI
        split
        · simp
        · rename_i e _ _
          cases decide (IntKind.wrap .i64 (e.2.1.2.2.1 - 1) = 0) <;> simp
      have t3 : tot (tickN (n - 1) l) = 1 := by
        have h4 : tot (tickN (n - 1) l) ≤ 1 := by rw [tot_all, hid]; simpa using hg
        have h5 : tot (tickN (n - 1) l) ≠ 0 := by
          rw [tot_all]
          intro h6
          exact hne (List.eq_nil_of_length_eq_zero (by simpa using h6))
        omega
      have h3 := held_eq k hk (tickN (n - 1) l) (tot_fits (by omega))
      rw [(lineI_iff _).2 hmost, t3] at h3
      simp only [r2, h3, Option.bind_some, cond_true]
      rfl
end Go.Tw
