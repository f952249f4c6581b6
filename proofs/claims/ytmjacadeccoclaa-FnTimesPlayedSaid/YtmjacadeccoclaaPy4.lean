/- Plain facts on the mirrors of the functions are proved here. -/
import Derived.Test.YtmjacadeccoclaaPy3
import Derived.Test.YtmjacadeccoclaaPm7
set_option linter.all false
namespace Go.Tw
open Go Go.RowKit

theorem allJ_add (x : D_Line) (j : D_Job) : allJ (addJ x j) = allJ x ++ [j] := by simp [allJ, addJ]
theorem putOk_lineP {x : D_Line} {j : D_Job} (h : putOk x j = true) : LineP (addJ x j) := by
  unfold putOk at h
  simp only [Bool.and_eq_true, Bool.not_eq_true', decide_eq_false_iff_not] at h
  obtain ⟨h1, h2, h3, h4, h5⟩ := h
  have hP := (lineI_iff x).1 h1
  rw [lineP_iff] at hP ⊢
  obtain ⟨p1, p2, p3, p4⟩ := hP
  have hlen := (perm_all x).length_eq
  rw [allJ_add]
  refine ⟨?_, ⟨?_, p2.2.1, p2.2.2⟩, ?_, ?_⟩
  · unfold capB at p1
    simp only [Bool.and_eq_true, decide_eq_true_eq] at p1
    simp only [List.length_append] at h5
    have h9 : (((x.2.1 ++ [j]).length + x.2.2.1.length + x.2.2.2.1.length : Nat) : Int) ≤ x.1 := by simp only [List.length_append, List.length_cons, List.length_nil]; omega
    unfold capB
    rw [Bool.and_eq_true, Bool.and_eq_true]
    exact ⟨⟨decide_eq_true p1.1.1, decide_eq_true p1.1.2⟩, decide_eq_true h9⟩
  · intro e he
    rcases List.mem_append.1 he with he | he
    · exact p2.1 e he
    · simp at he; subst he; exact h2
  · intro e he
    rcases List.mem_append.1 he with he | he
    · exact p3 e he
    · simp at he; subst he; exact h3
  · unfold ids at p4 ⊢
    rw [List.map_append, List.nodup_append]
    refine ⟨p4, by simp, fun a ha b hb => ?_⟩
    simp at hb; subst hb
    rintro rfl
    rw [← same_perm (perm_all x) j] at h4
    unfold sameId at h4
    rw [← Bool.not_eq_true, List.any_eq_true] at h4
    obtain ⟨e, he, h6⟩ := List.mem_map.1 ha
    exact h4 ⟨e, he, by simpa using h6⟩
theorem puts_lineP : ∀ (L : List D_Job) (l l' : D_Line), LineP l → puts L l = some l' → LineP l'
  | [], l, l', h, e => by simp only [puts, Option.some.injEq] at e; subst e; exact h
  | j :: r, l, l', h, e => by
    simp only [puts] at e
    cases g : putOk l j with
    | false => rw [g] at e; cases e
    | true => rw [g] at e; exact puts_lineP r _ l' (putOk_lineP g) e
theorem lineP_l0 : LineP l0 := by
  rw [lineP_iff]
  refine ⟨rfl, ⟨?_, ?_, ?_⟩, ?_, ?_⟩ <;> simp [l0, allJ]
theorem jobs_loop (k : Nat) (hk : MM < k) : ∀ (m kk : Nat) (b : Int) (c : D_l01Cur) (l : List D_Job), m < kk → m ≤ 1000 → CP b c → b + 20 * (m : Int) ≤ BB → l.length + m ≤ 1000 →
    ∃ c' l', iter spec_l01Cur_jobs_s3 kk ((c, ()), (), l, (m : Int), ()) = some ((c', ()), l', ()) ∧ CP (b + 20 * (m : Int)) c' ∧ l'.length ≤ 1000
  | 0, kk + 1, b, c, l, _, _, h, hb, ht => by
    refine ⟨c, l, ?_, h.up (by omega), by omega⟩
    rw [iter_succ]
    unfold spec_l01Cur_jobs_s3
    exact bif_f (by simp)
  | m + 1, kk + 1, b, c, l, hkk, hm, h, hb, ht => by
    have hw : IntKind.wrap .i64 (((m + 1 : Nat) : Int) - 1) = (m : Int) := by rw [w64 (by omega)]; omega
    obtain ⟨y, c2, e2, h2, hy⟩ := pick_ok 3 (by omega) h (by omega)
    obtain ⟨q1, q2⟩ := inRange 3 3 rfl hy
    obtain ⟨v, c3, e3, h3⟩ := cost_ok _ (getD3 y.toNat 4 12 1000 (by omega) (by omega) (by omega) (by omega)) h2 (by omega)
    obtain ⟨c', l', e', h', t'⟩ := jobs_loop k hk m kk (b + 20) c3 (l ++ [(((m + 1 : Nat) : Int), v, ())]) (by omega) (by omega) (h3.up (by omega)) (by omega) (by simp; omega)
    refine ⟨c', l', ?_, h'.up (by omega), t'⟩
    rw [← e', iter_succ]
    obtain ⟨rec, hrec⟩ : ∃ r, r = iter spec_l01Cur_jobs_s3 kk := ⟨_, rfl⟩
    rw [← hrec]
    unfold spec_l01Cur_jobs_s3
    have ec : ((c.1, c.2.1, c.2.2.1, ()) : D_l01Cur) = c := rfl
    refine (bif_t (by simp)).trans ?_
    simp only [ec, e2, Option.bind_some]
    refine (bif_t q1).trans ?_
    refine (bif_t q2).trans ?_
    simp only [e3, Option.bind_some]
    refine (bif_t (by simp; omega)).trans ?_
    simp only [hw]
theorem drawTimes_ok (k : Nat) (hk : MM < k) {code : List Int} (h : CodeP code) : ∃ l, spec_DrawLineTimes k code = some ((l, ()), ()) ∧ l.length ≤ 1001 := by
  have hM : MM = 1048576 := rfl
  obtain ⟨x, c1, e1, h1, hx⟩ := pick_ok 18 (by omega) (open_ok h) (by decide)
  obtain ⟨m, rfl⟩ : ∃ m : Nat, x = (m : Int) := ⟨x.toNat, by omega⟩
  have hBB : BB = 1099511627776 := rfl
  obtain ⟨c2, l, e2, h2, hl⟩ := jobs_loop k hk m k (0 + 1) c1 [] (by omega) (by omega) h1 (by omega) (by simp; omega)
  have ej : spec_l01Cur_jobs k (code, (0 : Int), IntKind.wrap .i64 (71 + Int.tmod ((code.length : Nat) : Int) 1000), ()) = some ((l, ()), (c2, ())) := by
    unfold spec_l01Cur_jobs
    simp only [e1, Option.bind_some]
    refine (congrArg (fun o => Option.bind o _) e2).trans ?_
    rfl
  obtain ⟨y, c3, e3, h3⟩ := once_ok 9 (by omega) h2 (by omega)
  unfold spec_DrawLineTimes
  simp only [ej, Option.bind_some, e3]
  cases y with
  | false => exact ⟨l, rfl, by omega⟩
  | true =>
    obtain ⟨z, c4, e4, h4, _⟩ := pick_ok 5 (by omega) h3 (by omega)
    obtain ⟨v, c5, e5, h5⟩ := vec_ok h4 (by omega)
    simp only [cond_true, e4, e5, Option.bind_some]
    rw [bif_t (by simp; omega)]
    exact ⟨_, rfl, by simp; omega⟩
theorem goneT_rel (C : List D_Job) : goneT C = (goneI C).map fun _ => (1 : Int) := by
  cases C with
  | nil => rfl
  | cons e l => cases h : decide (IntKind.wrap .i64 (e.2.1.2.2.1 - 1) = 0) <;> simp [goneT, goneI, h]
/-- when jobs leave, by ticks -/
theorem thr_run : ∀ (m : Nat) (x : D_Line), LineP x → thr (allJ x) 0 0 0 = (runG m x 1).map (fun d => d.2.1) ++ (thr (allJ (tickN m x)) 0 0 0).map (fun t => t + (m : Int))
  | 0, x, _ => by simp [runG, tickN]
  | m + 1, x, h => by
    rw [tick_thr x ((lineP_iff x).1 h).2.1, thr_run m (tick x).1 (tick_lineP h)]
    simp only [runG, tickN]
    rw [show (1 : Int) + 1 = 1 + 1 from rfl, runG_shift 1 m (tick x).1 1, goneT_rel]
    simp only [up, List.map_append, List.map_map, List.append_assoc]
    congr 1
    congr 1
    refine List.map_congr_left fun t _ => ?_
    simp only [Function.comp]
    omega
theorem putsLaw (k : Nat) (hk : MM < k) (L : List D_Job) (T T2 : List Int) (hT : T.length = L.length) (hL : L.length ≤ 1048576) : ∀ (m i kk : Nat) (l l' : D_Line), fits l → i + m = L.length → m < kk → puts (L.drop i) l = some l' →
    iter (laws_FnTimesPlayed_s10 k) kk ((), L, T, T2, l, (i : Int), ()) = some (Sum.inr ((), L, T2, l', ()))
  | 0, i, kk + 1, l, l', hf, hi, hkk, hp => by
    have : i = L.length := by omega
    subst this
    rw [List.drop_length] at hp
    simp only [puts, Option.some.injEq] at hp; subst hp
    rw [iter_succ]
    unfold laws_FnTimesPlayed_s10
    rw [bif_f (by simp; omega)]
  | m + 1, i, kk + 1, l, l', hf, hi, hkk, hp => by
    rw [drop_at L z_Job i (by omega)] at hp
    simp only [puts] at hp
    obtain ⟨y, c, e1, e2, e3⟩ := implPut_eq k hk l hf (L.getD i z_Job)
    cases g : putOk l (L.getD i z_Job) with
    | false => rw [g] at hp; cases hp
    | true =>
      rw [g] at hp
      obtain ⟨rfl, rfl⟩ := e2 g
      have ih := putsLaw k hk L T T2 hT hL m (i + 1) kk (addJ l (L.getD i z_Job)) l' (fits_add g) (by omega) (by omega) hp
      rw [← ih, iter_succ]
      obtain ⟨rec, hrec⟩ : ∃ r, r = iter (laws_FnTimesPlayed_s10 k) kk := ⟨_, rfl⟩
      rw [← hrec]
      unfold laws_FnTimesPlayed_s10
      rw [bif_t (by simp; omega), bif_t (by simp; omega), bif_t (by simp; omega)]
      rw [w64 (n := (i : Int) + 1) (by omega)]
      show ((impl_LinePut k l (L.getD i z_Job)).bind fun t2 => _) = _
      rw [e1, Option.bind_some]
      rw [bif_f (by simp)]
      rfl
theorem played_run (k : Nat) (hk : MM < k) (J : List D_Job) (T : List Int) (l : D_Line) (G : List D_Done) (hT : T.length ≤ 1000) (hJ : T.length ≤ J.length) (h1 : ∀ i, i < T.length → T.getD i 0 ≤ 20000 → i < G.length)
    (h2 : ∀ i, i < T.length → i < G.length → (G.getD i z_Done).1 = (J.getD i z_Job).1 ∧ (G.getD i z_Done).2.1 = T.getD i 0) :
    iter laws_FnTimesPlayed_s20 k ((), J, T, l, G, (0 : Int), ()) = some (Sum.inr ((), l, ())) := by
  have hM : MM = 1048576 := rfl
  have run := search_run (step := laws_FnTimesPlayed_s20) (st := fun i => ((), J, T, l, G, (i : Int), ())) (n := T.length) (hit := fun i => none) (fin := Sum.inr ((), l, ())) (fun i hi rec => by
      have hwi : IntKind.wrap .i64 ((i : Int) + 1) = ((i + 1 : Nat) : Int) := w64 (by omega)
      have c0 : decide ((i : Int) < ((T.length : Nat) : Int)) = true := decide_eq_true (by omega)
      have c1 : (decide ((0 : Int) ≤ (i : Int)) && decide ((i : Int) < ((T.length : Nat) : Int))) = true := by simp; omega
      have c2 : decide ((i : Int).toNat < T.length) = true := decide_eq_true (by omega)
      have b1 : (decide ((0 : Int) ≤ (i : Int)) && decide ((i : Int) < ((J.length : Nat) : Int))) = true := by simp; omega
      have b2 : decide ((i : Int).toNat < J.length) = true := decide_eq_true (by omega)
      unfold laws_FnTimesPlayed_s20
      refine (bif_t c0).trans ?_
      refine (bif_t c1).trans ?_
      refine (bif_t c2).trans ?_
      by_cases ht : T.getD i 0 ≤ 20000
      · have hG := h1 i hi ht
        obtain ⟨g1, g2⟩ := h2 i hi hG
        have d0 : decide (((G.length : Nat) : Int) ≤ (i : Int)) = false := decide_eq_false (by omega)
        have d1 : (decide ((0 : Int) ≤ (i : Int)) && decide ((i : Int) < ((G.length : Nat) : Int))) = true := by simp; omega
        have d2 : decide ((i : Int).toNat < G.length) = true := decide_eq_true (by omega)
        have k1 : decide ((G.getD (i : Int).toNat z_Done).1 = (J.getD (i : Int).toNat z_Job).1) = true := decide_eq_true g1
        have k2 : decide ((G.getD (i : Int).toNat z_Done).2.1 = T.getD (i : Int).toNat 0) = true := decide_eq_true g2
        refine (bif_t (decide_eq_true ht)).trans ?_
        refine (bif_t (by rw [d0]; rfl)).trans ?_
        refine (bif_t d1).trans ?_
        refine (bif_t d2).trans ?_
        refine (bif_t b1).trans ?_
        refine (bif_t b2).trans ?_
        refine (bif_t (by rw [k1]; rfl)).trans ?_
        refine (bif_t d1).trans ?_
        refine (bif_t d2).trans ?_
        refine (bif_t c1).trans ?_
        refine (bif_t c2).trans ?_
        refine (bif_f (by rw [k2]; rfl)).trans ?_
        simp only [hwi]
        rfl
      · refine (bif_f (decide_eq_false ht)).trans ?_
        simp only [hwi]
        rfl) (fun rec => by
      unfold laws_FnTimesPlayed_s20
      exact bif_f (by simp)) T.length 0 k (by omega) (by omega)
  rw [sch_none] at run
  exact run
theorem newImpl_eq : impl_LineNew 16 = some ((l0, ()), ()) := rfl
theorem law_FnTimesPlayed (code : List Int) (hw : WF (.sl (.int .u8)) code) : ∃ k y, laws_FnTimesPlayed k code = some ((true, ()), y) := by
  have hk : MM < (1048577 : Nat) := by decide
  refine ⟨1048577, (), ?_⟩
  revert hk
  generalize (1048577 : Nat) = k
  intro hk
  have hM : MM = 1048576 := rfl
  unfold laws_FnTimesPlayed
  rw [big_eq]
  simp only [Option.bind_some]
  by_cases hb : 1048576 < ((code.length : Nat) : Int)
  · rw [bif_t (by simpa using hb)]
  rw [bif_f (by simpa using hb)]
  have hc : CodeP code := ⟨byte_wf hw, by omega⟩
  obtain ⟨J, e1, hJ⟩ := drawTimes_ok k hk hc
  simp only [e1, Option.bind_some]
  rw [specTimes_eq k hk J (by omega), Option.bind_some]
  rw [bif_t (by simp; omega), implTimes_eq k hk J (by omega)]
  simp only [Option.bind_some, decide_true, Bool.not_true, cond_false, newImpl_eq]
  have main : ∀ (l : D_Line), LineP l → l.1 = 16 → iter (laws_FnTimesPlayed_s10 k) k ((), J, lineTimes J, lineTimes J, l0, (0 : Int), ()) = some (Sum.inr ((), J, lineTimes J, l, ())) → lineTimes J = thr (allJ l) 0 0 0 → (lineTimes J).length ≤ J.length → (∀ i, i < (allJ l).length → (allJ l)[i]? = J[i]?) →
      ((iter (laws_FnTimesPlayed_s10 k) k ((), J, lineTimes J, lineTimes J, l0, (0 : Int), ())).bind fun o6 =>
        Sum.elim (fun a7 : Unit × (Bool × Unit) => some (a7.2, ()))
        (fun b8 : Unit × ((List D_Job) × ((List Int) × (D_Line × Unit))) =>
          (impl_LineRun k b8.2.2.2.1 (20000 : Int)).bind fun t9 =>
            bif (decide (((b8.2.2.1.length : Nat) : Int) < ((t9.1.2.1.length : Nat) : Int))) then
              some ((false, ()), ())
            else
              (iter laws_FnTimesPlayed_s20 k ((), b8.2.1, b8.2.2.1, b8.2.2.2.1, t9.1.2.1, (0 : Int), ())).bind fun o10 =>
                Sum.elim (fun a11 : Unit × (Bool × Unit) => some (a11.2, ()))
                (fun b12 : Unit × (D_Line × Unit) =>
                  some (((decide (b12.2.1.1 = (16 : Int))), ()), ())) o10) o6) = some ((true, ()), ()) := by
    intro l hP h16 hput hthr hlenJ hall
    rw [hput]
    simp only [Option.bind_some, Sum.elim_inr]
    obtain ⟨N, hN⟩ : ∃ N : Nat, N = 20000 := ⟨_, rfl⟩
    have ht := lineP_tot ((lineI_iff l).2 hP)
    have r1 : impl_LineRun k l 20000 = some ((tickN N l, runG N l 1, ()), ()) := by
      rw [implRun_eq k hk l (tot_fits (by omega)), show (20000 : Int) = (N : Int) by omega, lineRun_eq hP N (by omega)]
    rw [r1]
    simp only [Option.bind_some]
    have hrel := thr_run N l hP
    rw [← hthr] at hrel
    have hids := runG_ids N l 1
    have hrest : ∀ t ∈ thr (allJ (tickN N l)) 0 0 0, 1 ≤ t := thr_pos _ _ _ _ (fun e he => (needs_small ((lineP_iff _).1 (tickN_lineP N l hP)).2.1 e he).2) (by omega)
    have hlT : (lineTimes J).length = (allJ l).length := by rw [hthr, thr_len]
    have hal := allJ_len l
    unfold tot at ht
    generalize hG : runG N l 1 = G at hrel hids
    generalize thr (allJ (tickN N l)) 0 0 0 = R at hrel hrest
    generalize lineTimes J = T at hrel hlT hlenJ
    have hlen : T.length = G.length + R.length := by rw [hrel]; simp
    rw [bif_f (by simp; omega)]
    have hpl := played_run k hk J T l G (by omega) hlenJ (fun i hi ht => by
      rcases Nat.lt_or_ge i G.length with h | h
      · exact h
      · exfalso
        rw [getD_at T 0 i hi] at ht
        have hR : i - G.length < R.length := by omega
        have : T[i] = R[i - G.length] + (N : Int) := by
          simp only [hrel]
          rw [List.getElem_append_right (by simpa using h)]
          simp
        have h3 := hrest _ (List.getElem_mem hR)
        omega) (fun i hi hg => by
      refine ⟨?_, ?_⟩
      · have hi2 : i < (allJ l).length := by omega
        have h5 : (ids (allJ l))[i]? = (G.map (·.1))[i]? := by rw [hids, List.getElem?_append_left (by simpa using hg)]
        have h6 : (ids (allJ l))[i]? = (J.map (·.1))[i]? := by unfold ids; rw [List.getElem?_map, List.getElem?_map, hall i hi2]
        rw [h6] at h5
        simp only [List.getElem?_map, List.getElem?_eq_getElem hg, List.getElem?_eq_getElem (show i < J.length by omega), Option.map_some, Option.some.injEq] at h5
        rw [getD_at G z_Done i hg, getD_at J z_Job i (by omega)]
        exact h5.symm
      · rw [getD_at T 0 i hi, getD_at G z_Done i hg]
        simp only [hrel]
        rw [List.getElem_append_left (by simpa using hg)]
        simp)
    rw [hpl]
    simp only [Option.bind_some, Sum.elim_inr, h16, decide_true]
  cases hp : puts J l0 with
  | none =>
    have hT : lineTimes J = [] := by unfold lineTimes; rw [hp]
    have hrun : iter (laws_FnTimesPlayed_s10 k) k ((), J, lineTimes J, lineTimes J, l0, (0 : Int), ()) = some (Sum.inr ((), J, lineTimes J, l0, ())) := by
      obtain ⟨k', rfl⟩ : ∃ j, k = j + 1 := ⟨k - 1, by omega⟩
      rw [hT, iter_succ]
      unfold laws_FnTimesPlayed_s10
      rw [bif_f (by simp)]
    exact main l0 lineP_l0 rfl hrun (by rw [hT]; rfl) (by rw [hT]; simp) (fun i hi => by simp [allJ, l0] at hi)
  | some l =>
    obtain ⟨g1, _, _, g4⟩ := puts_l0 hp
    have hP := puts_lineP J l0 l lineP_l0 hp
    have hT : lineTimes J = thr (allJ l) 0 0 0 := by unfold lineTimes; rw [hp]
    have hal : allJ l = J := by rw [g1]; simp [allJ]
    have hlen : (lineTimes J).length = J.length := by rw [hT, thr_len, hal]
    exact main l hP (by rw [g1]) (putsLaw k hk J _ _ hlen (by omega) J.length 0 k l0 l fits_l0 (by omega) (by omega) (by simpa using hp)) hT (by omega) (fun i _ => by rw [hal])
end Go.Tw
