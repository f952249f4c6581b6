/- Plain facts on the mirrors of the functions are proved here. -/
import Derived.Test.YtmjacadeccoclaaPx1
import Derived.Test.YtmjacadeccoclaaPm6
import Derived.Test.YtmjacadeccoclaaPl7
set_option linter.all false
namespace Go.Tw
open Go Go.RowKit

theorem getD4 {m : Int} (hm : 1 ≤ m) (i : Nat) (hi : i < 4) : 1 ≤ ([(9 : Int), 100, m, m] : List Int).getD i 0 := by
  match i, hi with
  | 0, _ => simp
  | 1, _ => simp
  | 2, _ => simpa using hm
  | 3, _ => simpa using hm
theorem cost_ok {b : Int} {c : D_l01Cur} (m : Int) (hm : 1 ≤ m) (h : CP b c) (hb : b + 10 ≤ BB) : ∃ x c', spec_l01Cur_cost c m = some ((x, ()), (c', ())) ∧ CP (b + 10) c' := by
  obtain ⟨x, c1, e1, h1, hx⟩ := pick_ok 4 (by omega) h (by omega)
  have hg := getD4 hm x.toNat (by omega)
  obtain ⟨q1, q2⟩ := inRange 4 4 rfl hx
  obtain ⟨y, c2, e2, h2, hy⟩ := wide_ok _ hg h1 (by omega)
  obtain ⟨z, c3, e3, h3, hz⟩ := wide_ok _ hg h2 (by omega)
  obtain ⟨u, c4, e4, h4, hu⟩ := wide_ok _ hg h3 (by omega)
  unfold spec_l01Cur_cost
  simp only [e1, Option.bind_some]
  rw [bif_t q1, bif_t q2]
  simp only [e2, e3, e4, Option.bind_some]
  exact ⟨_, c4, rfl, h4.up (by omega)⟩
theorem vec_ok {b : Int} {c : D_l01Cur} (h : CP b c) (hb : b + 10 ≤ BB) : ∃ x c', spec_l01Cur_vec c = some ((x, ()), (c', ())) ∧ CP (b + 10) c' := by
  obtain ⟨x, c1, e1, h1⟩ := once_ok 5 (by omega) h (by omega)
  unfold spec_l01Cur_vec
  simp only [e1, Option.bind_some]
  cases x with
  | true =>
    obtain ⟨y, c2, e2, h2⟩ := raw_ok h1 (by omega)
    obtain ⟨z, c3, e3, h3⟩ := raw_ok h2 (by omega)
    obtain ⟨u, c4, e4, h4⟩ := raw_ok h3 (by omega)
    simp only [e2, e3, e4, Option.bind_some, cond_true]
    exact ⟨_, c4, rfl, h4.up (by omega)⟩
  | false =>
    obtain ⟨y, c2, e2, h2, hy⟩ := pick_ok 5 (by omega) h1 (by omega)
    obtain ⟨q1, q2⟩ := inRange 5 5 rfl hy
    simp only [e2, Option.bind_some, cond_false]
    rw [bif_t q1, bif_t q2]
    obtain ⟨z, c3, e3, h3, _⟩ := pick_ok 256 (by omega) h2 (by omega)
    obtain ⟨u, c4, e4, h4, _⟩ := pick_ok 256 (by omega) h3 (by omega)
    obtain ⟨w, c5, e5, h5, _⟩ := pick_ok 256 (by omega) h4 (by omega)
    simp only [e3, e4, e5, Option.bind_some]
    exact ⟨_, c5, rfl, h5.up (by omega)⟩
theorem lineRun_tot (x : D_Line) (n : Int) : tot (lineRun x n).1 ≤ tot x := by
  unfold lineRun
  cases lineI x && (decide (0 ≤ n) && decide (n ≤ 20000)) with
  | true => exact (runN_len n.toNat x 1 []).2
  | false => simp [z_Line, tot]
theorem addJ_tot (x : D_Line) (j : D_Job) : tot (addJ x j) = tot x + 1 := by simp [addJ, tot]; omega
theorem newLine_ok (k : Nat) (hk : MM < k) (n : Int) : ∃ y : D_Line, spec_LineNew k n = some ((y, ()), ()) ∧ tot y = 0 := by
  unfold spec_LineNew
  rw [specOk_eq k hk _ (by simp [fits])]
  simp only [Option.bind_some]
  cases lineS (n, [], [], [], ()) with
  | true => exact ⟨_, rfl, rfl⟩
  | false => exact ⟨_, rfl, rfl⟩
theorem getD3 (i : Nat) (a b c : Int) (ha : 1 ≤ a) (hb : 1 ≤ b) (hc : 1 ≤ c) (hi : i < 3) : 1 ≤ ([a, b, c] : List Int).getD i 0 := by
  match i, hi with
  | 0, _ => simpa using ha
  | 1, _ => simpa using hb
  | 2, _ => simpa using hc
theorem line_loop (k : Nat) (hk : MM < k) (z : D_Line) : ∀ (m kk : Nat) (b : Int) (c : D_l01Cur) (l : D_Line), m < kk → m ≤ 1000 → CP b c → b + 20 * (m : Int) ≤ BB → tot l + m ≤ 1000 →
    ∃ c' l', iter (spec_l01Cur_line_s3 k) kk ((c, ()), (), z, l, (m : Int), ()) = some ((c', ()), z, l', ()) ∧ CP (b + 20 * (m : Int)) c' ∧ tot l' ≤ 1000
  | 0, kk + 1, b, c, l, _, _, h, hb, ht => by
    refine ⟨c, l, ?_, h.up (by omega), by omega⟩
    rw [iter_succ]
    unfold spec_l01Cur_line_s3
    exact bif_f (by simp)
  | m + 1, kk + 1, b, c, l, hkk, hm, h, hb, ht => by
    have hw : IntKind.wrap .i64 (((m + 1 : Nat) : Int) - 1) = (m : Int) := by rw [w64 (by omega)]; omega
    obtain ⟨x, c1, e1, h1⟩ := once_ok 2 (by omega) h (by omega)
    have key : ∃ (c2 : D_l01Cur) (l2 : D_Line), iter (spec_l01Cur_line_s3 k) (kk + 1) ((c, ()), (), z, l, ((m + 1 : Nat) : Int), ()) = iter (spec_l01Cur_line_s3 k) kk ((c2, ()), (), z, l2, (m : Int), ()) ∧ CP (b + 20) c2 ∧ tot l2 ≤ tot l + 1 := by
      rw [iter_succ]
      unfold spec_l01Cur_line_s3
      have ec : ((c.1, c.2.1, c.2.2.1, ()) : D_l01Cur) = c := rfl
      cases x with
      | true =>
        obtain ⟨y, c2, e2, h2, hy⟩ := pick_ok 3 (by omega) h1 (by omega)
        obtain ⟨q1, q2⟩ := inRange 3 3 rfl hy
        obtain ⟨v, c3, e3, h3⟩ := cost_ok _ (getD3 y.toNat 4 12 60 (by omega) (by omega) (by omega) (by omega)) h2 (by omega)
        obtain ⟨l2, cd, e4, g1, g2⟩ := specPut_eq k hk l (tot_fits (by omega)) (((m + 1 : Nat) : Int), v, ())
        have hl2 : cd = 0 → tot l2 = tot l + 1 := by
          intro h0
          cases hp : putOk l (((m + 1 : Nat) : Int), v, ()) with
          | true => rw [(g1 hp).2, addJ_tot]
          | false => exact absurd h0 (g2 hp)
        by_cases h0 : cd = 0
        · refine ⟨c3, l2, ?_, h3.up (by omega), by rw [hl2 h0]; omega⟩
          refine (bif_t (by simp)).trans ?_
          simp only [ec, e1, Option.bind_some, cond_true, e2]
          refine (bif_t q1).trans ?_
          simp only [e3, Option.bind_some, e4]
          rw [bif_t (by simpa using h0), hw]
        · refine ⟨c3, l, ?_, h3.up (by omega), by omega⟩
          refine (bif_t (by simp)).trans ?_
          simp only [ec, e1, Option.bind_some, cond_true, e2]
          refine (bif_t q1).trans ?_
          simp only [e3, Option.bind_some, e4]
          rw [bif_f (by simpa using h0), hw]
      | false =>
        obtain ⟨y, c2, e2, h2, hy⟩ := pick_ok 12 (by omega) h1 (by omega)
        have hr := specRun_eq k hk l (tot_fits (by omega)) y
        have := lineRun_tot l y
        refine ⟨c2, (lineRun l y).1, ?_, h2.up (by omega), by omega⟩
        refine (bif_t (by simp)).trans ?_
        simp only [ec, e1, Option.bind_some, cond_false, e2, hr, hw]
    obtain ⟨c2, l2, e, h2, ht2⟩ := key
    obtain ⟨c', l', e', h', t'⟩ := line_loop k hk z m kk (b + 20) c2 l2 (by omega) (by omega) h2 (by omega) (by omega)
    exact ⟨c', l', by rw [e, e'], h'.up (by omega), t'⟩
theorem line_ok (k : Nat) (hk : MM < k) {b : Int} {c : D_l01Cur} (h : CP b c) (hb : b + 1000 ≤ BB) : ∃ l c', spec_l01Cur_line k c = some ((l, ()), (c', ())) ∧ CP (b + 1000) c' ∧ tot l ≤ 1000 := by
  have hM : MM = 1048576 := rfl
  obtain ⟨x, c1, e1, h1, hx⟩ := pick_ok 16 (by omega) h (by omega)
  obtain ⟨l0, e2, t0⟩ := newLine_ok k hk (IntKind.wrap .i64 (1 + x))
  obtain ⟨y, c2, e3, h2, hy⟩ := size_ok 30 (by omega) h1 (by omega)
  obtain ⟨m, rfl⟩ : ∃ m : Nat, y = (m : Int) := ⟨y.toNat, by omega⟩
  obtain ⟨c3, l3, e4, h3, t3⟩ := line_loop k hk ((0 : Int), ([] : List D_Job), ([] : List D_Job), ([] : List D_Job), ()) m k (b + 1 + 1) c2 l0 (by omega) (by omega) h2 (by omega) (by omega)
  refine ⟨l3, c3, ?_, h3.up (by omega), t3⟩
  unfold spec_l01Cur_line
  simp only [e1, e2, e3, Option.bind_some]
  refine (congrArg (fun o => Option.bind o _) e4).trans ?_
  rfl
theorem badLine_ok (k : Nat) (hk : MM < k) {b : Int} {c : D_l01Cur} (h : CP b c) (hb : b + 2000 ≤ BB) : ∃ l c', spec_l01Cur_badLine k c = some ((l, ()), (c', ())) ∧ CP (b + 2000) c' ∧ tot l ≤ 1001 := by
  obtain ⟨l, c1, e1, h1, t1⟩ := line_ok k hk h (by omega)
  obtain ⟨x, c2, e2, h2, hx⟩ := pick_ok 14 (by omega) h1 (by omega)
  have t1' := t1
  unfold tot at t1'
  unfold spec_l01Cur_badLine
  simp only [e1, e2, Option.bind_some]
  cases decide (x = 0) with
  | true =>
    obtain ⟨y, c3, e3, h3⟩ := raw_ok h2 (by omega)
    obtain ⟨z, c4, e4, h4, hz⟩ := pick_ok 3 (by omega) h3 (by omega)
    obtain ⟨q1, q2⟩ := inRange 3 3 rfl hz
    simp only [e3, e4, Option.bind_some, cond_true]
    rw [bif_t q1, bif_t q2]
    exact ⟨_, c4, rfl, h4.up (by omega), by unfold tot; simp only; omega⟩
  | false =>
    simp only [cond_false]
    cases decide (x = 1) with
    | true =>
      obtain ⟨y, c3, e3, h3⟩ := raw_ok h2 (by omega)
      obtain ⟨z, c4, e4, h4⟩ := vec_ok h3 (by omega)
      simp only [e3, e4, Option.bind_some, cond_true]
      rw [bif_t (by simp; omega)]
      exact ⟨_, c4, rfl, h4.up (by omega), by unfold tot; simp only [List.length_append, List.length_cons, List.length_nil]; omega⟩
    | false =>
      simp only [cond_false]
      cases decide (x = 2) with
      | true =>
        obtain ⟨y, c3, e3, h3, _⟩ := pick_ok 2 (by omega) h2 (by omega)
        obtain ⟨z, c4, e4, h4, _⟩ := pick_ok 1001 (by omega) h3 (by omega)
        simp only [e3, e4, Option.bind_some, cond_true]
        rw [bif_t (by simp; omega)]
        exact ⟨_, c4, rfl, h4.up (by omega), by unfold tot; simp only [List.length_append, List.length_cons, List.length_nil]; omega⟩
      | false =>
        simp only [cond_false]
        cases decide (x = 3) with
        | true =>
          obtain ⟨y, c3, e3, h3, _⟩ := pick_ok 2 (by omega) h2 (by omega)
          obtain ⟨z, c4, e4, h4, _⟩ := pick_ok 1002 (by omega) h3 (by omega)
          simp only [e3, e4, Option.bind_some, cond_true]
          rw [bif_t (by simp; omega)]
          exact ⟨_, c4, rfl, h4.up (by omega), by unfold tot; simp only [List.length_append, List.length_cons, List.length_nil]; omega⟩
        | false =>
          simp only [cond_false]
          exact ⟨_, c2, rfl, h2.up (by omega), by omega⟩
/-- What a law knows of its code. -/
structure CodeP (code : List Int) : Prop where
  bytes : ∀ v ∈ code, 0 ≤ v ∧ v ≤ 255
  len : code.length ≤ 1048576
theorem open_ok {code : List Int} (h : CodeP code) : CP 0 (code, (0 : Int), IntKind.wrap .i64 (71 + Int.tmod ((code.length : Nat) : Int) 1000), ()) := by
  have hl := h.len
  have := tmod_rng (x := ((code.length : Nat) : Int)) (n := 1000) (by omega) (by omega)
  have hw : IntKind.wrap .i64 (71 + Int.tmod ((code.length : Nat) : Int) 1000) = 71 + Int.tmod ((code.length : Nat) : Int) 1000 := w64 (by omega)
  exact ⟨h.bytes, h.len, Int.le_refl _, Int.le_refl _, by simp only [hw]; omega, by simp only [hw]; omega⟩
theorem drawTick_ok (k : Nat) (hk : MM < k) {code : List Int} (h : CodeP code) : ∃ l, spec_DrawLineTick k code = some ((l, ()), ()) ∧ tot l ≤ 1001 := by
  obtain ⟨l, c', e, _, t⟩ := badLine_ok k hk (open_ok h) (by decide)
  exact ⟨l, by unfold spec_DrawLineTick; simp only [e, Option.bind_some], t⟩
theorem drawEnd_ok (k : Nat) (hk : MM < k) {code : List Int} (h : CodeP code) : ∃ l, spec_DrawLineEnd k code = some ((l, ()), ()) ∧ tot l ≤ 1001 := by
  obtain ⟨l, c', e, _, t⟩ := badLine_ok k hk (open_ok h) (by decide)
  exact ⟨l, by unfold spec_DrawLineEnd; simp only [e, Option.bind_some], t⟩
end Go.Tw
