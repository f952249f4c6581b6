/- Plain facts on the mirrors of the functions are proved here. -/
import Derived.Test.YtmjacadeccoclaaPm6
set_option linter.all false
namespace Go.Tw
open Go Go.RowKit

def puts : List D_Job → D_Line → Option D_Line
  | [], l => some l
  | j :: r, l => bif putOk l j then puts r (addJ l j) else none
theorem putOk_fits {x : D_Line} {j : D_Job} (h : putOk x j = true) : x.2.1.length + x.2.2.1.length + x.2.2.2.1.length + 1 ≤ 16 ∧ nA j = true ∧ idOk j = true := by
  unfold putOk at h
  simp only [Bool.and_eq_true, Bool.not_eq_true', decide_eq_false_iff_not] at h
  obtain ⟨h1, h2, h3, h4, h5⟩ := h
  have hp := (lineI_iff x).1 h1
  have h1 := hp.1
  unfold capB at h1
  simp only [Bool.and_eq_true, decide_eq_true_eq] at h1
  simp only [List.length_append] at h5
  exact ⟨by omega, h2, h3⟩
theorem fits_add {x : D_Line} {j : D_Job} (h : putOk x j = true) : fits (addJ x j) := by
  have := (putOk_fits h).1
  unfold fits addJ
  simp only [List.length_append, List.length_cons, List.length_nil]
  omega
theorem specPuts (k : Nat) (hk : MM < k) (L : List D_Job) (hL : L.length ≤ 1048576) : ∀ (m i kk : Nat) (l : D_Line), fits l → i + m = L.length → m < kk →
    iter (spec_LineTimes_s5 k) kk ((), L, l, (i : Int), ()) = some (match puts (L.drop i) l with | none => Sum.inl ((), ([] : List Int), ()) | some l' => Sum.inr ((), l', ()))
  | 0, i, kk + 1, l, hf, hi, hkk => by
    have : i = L.length := by omega
    subst this
    rw [iter_succ]
    unfold spec_LineTimes_s5
    rw [bif_f (by simp), List.drop_length]
    rfl
  | m + 1, i, kk + 1, l, hf, hi, hkk => by
    rw [iter_succ]
    unfold spec_LineTimes_s5
    rw [bif_t (by simp; omega), bif_t (by simp; omega), bif_t (by simp; omega)]
    rw [w64 (n := (i : Int) + 1) (by omega), drop_at L z_Job i (by omega)]
    obtain ⟨y, c, e1, e2, e3⟩ := specPut_eq k hk l hf (L.getD i z_Job)
    show ((spec_LinePut k l (L.getD i z_Job)).bind fun t2 => _) = _
    rw [e1, Option.bind_some]
    simp only [puts]
    cases g : putOk l (L.getD i z_Job) with
    | true =>
      obtain ⟨rfl, rfl⟩ := e2 g
      have ih := specPuts k hk L hL m (i + 1) kk (addJ l (L.getD i z_Job)) (fits_add g) (by omega) (by omega)
      rw [bif_f (by simp)]
      simp only [cond_true]
      exact ih
    | false =>
      have := e3 g
      rw [bif_t (by simpa using this)]
      rfl
theorem implPuts (k : Nat) (hk : MM < k) (L : List D_Job) (hL : L.length ≤ 1048576) : ∀ (m i kk : Nat) (l : D_Line), fits l → i + m = L.length → m < kk →
    iter (impl_LineTimes_s3 k) kk ((), L, l, L, ((L.length : Nat) : Int), (i : Int), ()) = some (match puts (L.drop i) l with | none => Sum.inl ((), ([] : List Int), ()) | some l' => Sum.inr ((), L, l', ()))
  | 0, i, kk + 1, l, hf, hi, hkk => by
    have : i = L.length := by omega
    subst this
    rw [iter_succ]
    unfold impl_LineTimes_s3
    rw [bif_f (by simp), List.drop_length]
    rfl
  | m + 1, i, kk + 1, l, hf, hi, hkk => by
    rw [iter_succ]
    unfold impl_LineTimes_s3
    rw [bif_t (by simp; omega), bif_t (by simp; omega), bif_t (by simp; omega)]
    rw [w64 (n := (i : Int) + 1) (by omega), drop_at L z_Job i (by omega)]
    obtain ⟨y, c, e1, e2, e3⟩ := implPut_eq k hk l hf (L.getD i z_Job)
    show ((impl_LinePut k l (L.getD i z_Job)).bind fun t2 => _) = _
    rw [e1, Option.bind_some]
    simp only [puts]
    cases g : putOk l (L.getD i z_Job) with
    | true =>
      obtain ⟨rfl, rfl⟩ := e2 g
      have ih := implPuts k hk L hL m (i + 1) kk (addJ l (L.getD i z_Job)) (fits_add g) (by omega) (by omega)
      rw [bif_f (by simp)]
      simp only [cond_true]
      exact ih
    | false =>
      have := e3 g
      rw [bif_t (by simpa using this)]
      rfl
theorem puts_some : ∀ (L : List D_Job) (l l' : D_Line), puts L l = some l' → l' = (l.1, l.2.1 ++ L, l.2.2) ∧ (∀ e ∈ L, nA e = true ∧ idOk e = true) ∧ (L ≠ [] → l.2.1.length + l.2.2.1.length + l.2.2.2.1.length + L.length ≤ 16)
  | [], l, l', h => by
    simp only [puts, Option.some.injEq] at h; subst h
    exact ⟨by simp, by simp, fun h => absurd rfl h⟩
  | j :: r, l, l', h => by
    simp only [puts] at h
    cases g : putOk l j with
    | false => rw [g] at h; cases h
    | true =>
      rw [g] at h
      obtain ⟨h1, h2, h3⟩ := puts_some r (addJ l j) l' h
      obtain ⟨p1, p2, p3⟩ := putOk_fits g
      refine ⟨by rw [h1]; simp [addJ], fun e he => ?_, fun _ => ?_⟩
      · rcases List.mem_cons.1 he with rfl | he
        · exact ⟨p2, p3⟩
        · exact h2 e he
      · by_cases hr : r = []
        · subst hr; simp; omega
        · have := h3 hr
          simp only [addJ, List.length_append, List.length_cons, List.length_nil] at this ⊢
          omega
def IdsOk (x : D_Line) : Prop := (∀ e ∈ x.2.1, 0 ≤ e.1) ∧ (∀ e ∈ x.2.2.1, 0 ≤ e.1) ∧ (∀ e ∈ x.2.2.2.1, 0 ≤ e.1)
theorem idsA {A : List D_Job} (h : ∀ e ∈ A, 0 ≤ e.1) : (∀ e ∈ (tickA A).1, 0 ≤ e.1) ∧ (∀ e ∈ (tickA A).2, 0 ≤ e.1) := by
  cases A with
  | nil => simp [tickA]
  | cons e l =>
    have h0 := h e (by simp)
    by_cases g : IntKind.wrap .i64 (e.2.1.1 - 1) = 0
    · simp only [tickA, g, decide_true, cond_true]
      refine ⟨fun a ha => h a (by simp [ha]), fun a ha => ?_⟩
      rw [List.mem_singleton] at ha; rw [ha]; exact h0
    · simp only [tickA, g, decide_false, cond_false]
      refine ⟨fun a ha => ?_, fun a ha => by cases ha⟩
      rcases List.mem_cons.1 ha with ha | ha
      · rw [ha]; exact h0
      · exact h a (by simp [ha])
theorem idsB {A : List D_Job} (h : ∀ e ∈ A, 0 ≤ e.1) : (∀ e ∈ (tickB A).1, 0 ≤ e.1) ∧ (∀ e ∈ (tickB A).2, 0 ≤ e.1) := by
  cases A with
  | nil => simp [tickB]
  | cons e l =>
    have h0 := h e (by simp)
    by_cases g : IntKind.wrap .i64 (e.2.1.2.1 - 1) = 0
    · simp only [tickB, g, decide_true, cond_true]
      refine ⟨fun a ha => h a (by simp [ha]), fun a ha => ?_⟩
      rw [List.mem_singleton] at ha; rw [ha]; exact h0
    · simp only [tickB, g, decide_false, cond_false]
      refine ⟨fun a ha => ?_, fun a ha => by cases ha⟩
      rcases List.mem_cons.1 ha with ha | ha
      · rw [ha]; exact h0
      · exact h a (by simp [ha])
theorem idsC {A : List D_Job} (h : ∀ e ∈ A, 0 ≤ e.1) : ∀ e ∈ (tickC A).1, 0 ≤ e.1 := by
  cases A with
  | nil => intro e he; cases he
  | cons e l =>
    have h0 := h e (by simp)
    by_cases g : IntKind.wrap .i64 (e.2.1.2.2.1 - 1) = 0
    · simp only [tickC, g, decide_true, cond_true]
      exact fun a ha => h a (by simp [ha])
    · simp only [tickC, g, decide_false, cond_false]
      intro a ha
      rcases List.mem_cons.1 ha with ha | ha
      · rw [ha]; exact h0
      · exact h a (by simp [ha])
theorem tick_ids {x : D_Line} (h : IdsOk x) : IdsOk (tick x).1 := by
  have a := idsA h.1
  have b := idsB h.2.1
  have c := idsC h.2.2
  refine ⟨a.1, fun e he => ?_, fun e he => ?_⟩
  · rcases List.mem_append.1 he with he | he
    · exact b.1 e he
    · exact a.2 e he
  · rcases List.mem_append.1 he with he | he
    · exact c e he
    · exact b.2 e he
theorem gone_rel {C : List D_Job} (h : ∀ e ∈ C, 0 ≤ e.1) (out : List Int) (a : Int) : addT out (tickC C).2 a = out ++ (goneT C).map (· + (a - 1)) := by
  cases C with
  | nil => simp [tickC, goneT, addT]
  | cons e l =>
    have h0 := h e (by simp)
    by_cases g : IntKind.wrap .i64 (e.2.1.2.2.1 - 1) = 0
    · simp only [tickC, goneT, addT, g, decide_true, cond_true, h0, List.map_cons, List.map_nil]
      rw [show 1 + (a - 1) = a by omega]
    · simp [tickC, goneT, addT, g]
theorem times_run (J : List D_Job) (hJ : J.length ≤ 1000) : ∀ (n kk : Nat) (x : D_Line) (out : List Int) (a : Int), NeedsOk x → IdsOk x → x.2.1.length + x.2.2.1.length + x.2.2.2.1.length ≤ 16 → lastT x = n → n < kk → 1 ≤ a → a + n ≤ 1048576 →
    out.length + (allJ x).length = J.length → iter impl_LineTimes_s11 kk ((), J, x, out, a, ()) = some ((), out ++ (thr (allJ x) 0 0 0).map (· + (a - 1)), ())
  | n, kk + 1, x, out, a, hn, hid, ht, hl, hkk, h0, hb, ho => by
    have hf : fits x := ⟨by omega, by omega, by omega⟩
    rw [iter_succ]
    by_cases he : allJ x = []
    · rw [he] at ho ⊢
      simp only [List.length_nil] at ho
      unfold impl_LineTimes_s11
      rw [bif_f (by simp; omega)]
      simp [thr]
    · have hp := lastT_pos hn he
      have hs := lastT_tick hn he
      have hlen : 0 < (allJ x).length := List.length_pos_iff.2 he
      cases n with
      | zero => omega
      | succ n =>
        rw [implTimes_step J x hf out (by omega) a (by omega), w64 (by omega)]
        have hts := tick_small x
        have htt := tick_thr x hn
        have hg := gone_rel hid.2.2 out a
        have hll := congrArg List.length htt
        rw [List.length_append, thr_len, List.length_map, thr_len] at hll
        have hal2 := allJ_len (tick x).1
        have htk : (tick x).2.1 = (tickC x.2.2.2.1).2 := rfl
        rw [htk, hg]
        rw [times_run J hJ n kk (tick x).1 _ (a + 1) (tick_needs x hn) (tick_ids hid) (by omega) (by omega) (by omega) (by omega) (by omega) (by simp only [List.length_append, List.length_map]; omega)]
        rw [htt]
        simp only [up, List.map_append, List.map_map, List.append_assoc]
        congr 5
        apply List.map_congr_left
        intro v _
        show v + (a + 1 - 1) = v + 1 + (a - 1)
        omega
def l0 : D_Line := (16, [], [], [], ())
def lineTimes (J : List D_Job) : List Int := match puts J l0 with | none => [] | some l => thr (allJ l) 0 0 0
theorem puts_l0 {J : List D_Job} {l : D_Line} (h : puts J l0 = some l) : l = (16, J, [], [], ()) ∧ NeedsOk l ∧ IdsOk l ∧ J.length ≤ 16 := by
  obtain ⟨h1, h2, h3⟩ := puts_some J l0 l h
  have hl : l = (16, J, [], [], ()) := by rw [h1]; simp [l0]
  subst hl
  refine ⟨rfl, ⟨fun e he => (h2 e he).1, by simp, by simp⟩, ⟨fun e he => ?_, by simp, by simp⟩, ?_⟩
  · have := (h2 e he).2
    unfold idOk at this
    simp only [Bool.and_eq_true, decide_eq_true_eq] at this
    exact this.1
  · by_cases hJ : J = []
    · subst hJ; simp
    · have := h3 hJ
      simp [l0] at this; exact this
theorem fits_l0 : fits l0 := by simp [fits, l0]
theorem specTimes_eq (k : Nat) (hk : MM < k) (J : List D_Job) (hJ : J.length ≤ 1048576) : spec_LineTimes k J = some ((lineTimes J, ()), ()) := by
  have hM : MM = 1048576 := rfl
  unfold spec_LineTimes lineTimes
  by_cases h16 : J.length ≤ 16
  · rw [bif_f (by simp; omega)]
    have hnew : spec_LineNew k 16 = some ((l0, ()), ()) := by
      unfold spec_LineNew
      rw [show spec_LineOk k ((16 : Int), ([] : List D_Job), ([] : List D_Job), ([] : List D_Job), ()) = _ from specOk_eq k hk l0 fits_l0]
      rfl
    rw [hnew, Option.bind_some]
    have run := specPuts k hk J hJ J.length 0 k l0 fits_l0 (by omega) (by omega)
    rw [show iter (spec_LineTimes_s5 k) k ((), J, l0, (0 : Int), ()) = _ from run]
    simp only [List.drop_zero, Option.bind_some]
    cases hp : puts J l0 with
    | none => rfl
    | some l =>
      obtain ⟨rfl, hn, hid, hj⟩ := puts_l0 hp
      simp only [Sum.elim_inr]
      rw [specThrough_eq k hk _ hn (by simpa using hj)]
      rfl
  · rw [bif_t (by simp; omega)]
    cases hp : puts J l0 with
    | none => rfl
    | some l => exact absurd (puts_l0 hp).2.2.2 h16
theorem implTimes_eq (k : Nat) (hk : MM < k) (J : List D_Job) (hJ : J.length ≤ 1048576) : impl_LineTimes k J = some ((lineTimes J, ()), ()) := by
  have hM : MM = 1048576 := rfl
  unfold impl_LineTimes lineTimes
  have hnew : impl_LineNew 16 = some ((l0, ()), ()) := rfl
  rw [hnew, Option.bind_some]
  have run := implPuts k hk J hJ J.length 0 k l0 fits_l0 (by omega) (by omega)
  rw [show iter (impl_LineTimes_s3 k) k ((), J, l0, J, (((List.length J) : Nat) : Int), (0 : Int), ()) = _ from run]
  simp only [List.drop_zero, Option.bind_some]
  cases hp : puts J l0 with
  | none => rfl
  | some l =>
    obtain ⟨rfl, hn, hid, hj⟩ := puts_l0 hp
    simp only [Sum.elim_inr]
    have hle : lastT (16, J, [], [], ()) ≤ 48000 ∧ 0 ≤ lastT (16, J, [], [], ()) := by
      by_cases he : allJ (16, J, [], [], ()) = []
      · rw [lastT_nil he]; omega
      · have hne : thr (allJ (16, J, [], [], ())) 0 0 0 ≠ [] := fun e => he (List.eq_nil_of_length_eq_zero (by rw [← thr_len (allJ (16, J, [], [], ())) 0 0 0, e]; rfl))
        have h1 := thr_le (allJ (16, J, [], [], ())) 0 0 0 0 (fun e he => (needs_small hn e he).1) (by omega) (by omega) (by omega) _ (last_mem hne)
        have h2 := lastT_pos hn he
        have hal : (allJ (16, J, [], [], ())).length = J.length := by simp [allJ]
        refine ⟨?_, by omega⟩
        unfold lastT
        omega
    rw [times_run J (by omega) (lastT (16, J, [], [], ())).toNat k _ [] 1 hn hid (by simpa using hj) (by omega) (by omega) (by omega) (by omega) (by simp [allJ])]
    simp
end Go.Tw
