/- Plain facts on the mirrors of the functions are proved here. -/
import Derived.Test.YtmjacadeccoclaaPv1
import Derived.Test.YtmjacadeccoclaaPv3
set_option linter.all false
namespace Go.Tw
open Go Go.RowKit

def emptyW (n : Int) : D_Wheel := (n, [(([] : List D_Timer), ()), (([] : List D_Timer), ()), (([] : List D_Timer), ()), (([] : List D_Timer), ()), (([] : List D_Timer), ()), (([] : List D_Timer), ()), (([] : List D_Timer), ()), (([] : List D_Timer), ())], ())
theorem empty_P {n : Int} (h : nowP n) : WheelP (emptyW n) := by
  refine ⟨h, rfl, by simp [emptyW, sumW], ?_, by simp [emptyW, flatW]⟩
  intro j s hs e he
  have hm : s ∈ (emptyW n).2.1 := List.mem_of_getElem? hs
  simp only [emptyW, List.mem_cons, List.not_mem_nil, or_false, or_self] at hm
  subst hm
  cases he
theorem new_eq (k : Nat) (hk : MM < k) (n : Int) (h : nowP n) : spec_WheelNew k n = some ((emptyW n, ()), ()) := by
  have P := empty_P h
  unfold spec_WheelNew
  have e := specOk_eq k hk (emptyW n) P.fit
  rw [(wheelS_iff _).2 P] at e
  refine (congrArg (fun o => Option.bind o _) e).trans ?_
  rfl
theorem g4 {a b c d lo hi : Int} (ha : lo ≤ a ∧ a ≤ hi) (hb : lo ≤ b ∧ b ≤ hi) (hc : lo ≤ c ∧ c ≤ hi) (hd : lo ≤ d ∧ d ≤ hi) (i : Nat) (h : i < 4) : lo ≤ ([a, b, c, d] : List Int).getD i 0 ∧ ([a, b, c, d] : List Int).getD i 0 ≤ hi := by
  match i, h with
  | 0, _ => simpa using ha
  | 1, _ => simpa using hb
  | 2, _ => simpa using hc
  | 3, _ => simpa using hd
theorem wheel_loop (k : Nat) (hk : MM < k) (z : D_Wheel) : ∀ (m kk : Nat) (b : Int) (c : D_l01Cur) (w : D_Wheel), m < kk → m ≤ 1000 → CP b c → b + 5 * (m : Int) ≤ BB → WheelP w →
    ∃ c' w', iter (spec_l01Cur_wheel_s3 k) kk ((c, ()), (), z, w, (m : Int), ()) = some ((c', ()), z, w', ()) ∧ CP (b + 5 * (m : Int)) c' ∧ WheelP w'
  | 0, kk + 1, b, c, w, _, _, h, hb, P => by
    refine ⟨c, w, ?_, h.up (by omega), P⟩
    rw [iter_succ]
    unfold spec_l01Cur_wheel_s3
    exact bif_f (by simp)
  | m + 1, kk + 1, b, c, w, hkk, hm, h, hb, P => by
    have hn := P.now
    have hw : IntKind.wrap .i64 (((m + 1 : Nat) : Int) - 1) = (m : Int) := by rw [w64 (by omega)]; omega
    obtain ⟨x1, c1, e1, h1, r1⟩ := pick_ok 12 (by omega) h (by omega)
    obtain ⟨x2, c2, e2, h2, r2⟩ := pick_ok 256 (by omega) h1 (by omega)
    obtain ⟨x3, c3, e3, h3, r3⟩ := pick_ok 4 (by omega) h2 (by omega)
    obtain ⟨x4, c4, e4, h4, r4⟩ := pick_ok 4 (by omega) h3 (by omega)
    obtain ⟨x5, c5, e5, h5, r5⟩ := pick_ok 40 (by omega) h4 (by omega)
    obtain ⟨q1, q2⟩ := inRange 4 4 rfl r4
    have ec : ((c.1, c.2.1, c.2.2.1, ()) : D_l01Cur) = c := rfl
    have hx1 : IntKind.wrap .i64 (1 + x1) = 1 + x1 := w64 (by omega)
    have hx2 : IntKind.wrap .i64 (1 + x2) = 1 + x2 := w64 (by omega)
    have hx3 : IntKind.wrap .i64 (1 + x3) = 1 + x3 := w64 (by omega)
    have hx4 : IntKind.wrap .i64 (8 * (1 + x3)) = 8 * (1 + x3) := w64 (by omega)
    have hset := specSet_eq k hk w P.fit x5
    have key : ∃ (w2 : D_Wheel), iter (spec_l01Cur_wheel_s3 k) (kk + 1) ((c, ()), (), z, w, ((m + 1 : Nat) : Int), ()) = iter (spec_l01Cur_wheel_s3 k) kk ((c5, ()), (), z, w2, (m : Int), ()) ∧ WheelP w2 := by
      rw [iter_succ]
      generalize hr : iter (spec_l01Cur_wheel_s3 k) kk = R
      unfold spec_l01Cur_wheel_s3
      refine ⟨bif decide (setC w x5 (IntKind.wrap .i64 (w.1 + ([1 + x1, 1 + x2, 1000, 8 * (1 + x3)] : List Int).getD x4.toNat 0)) = 0) then putW w x5 (IntKind.wrap .i64 (w.1 + ([1 + x1, 1 + x2, 1000, 8 * (1 + x3)] : List Int).getD x4.toNat 0)) else w, ?_, ?_⟩
      · refine (bif_t (by simp)).trans ?_
        simp only [ec, e1, e2, e3, e4, e5, Option.bind_some]
        refine (bif_t q1).trans ?_
        simp only [hx1, hx2, hx3, hx4, hw, hset, Option.bind_some]
        generalize IntKind.wrap .i64 (w.1 + ([1 + x1, 1 + x2, 1000, 8 * (1 + x3)] : List Int).getD x4.toNat 0) = t
        unfold setR
        cases hc : decide (setC w x5 t = 0) with
        | true => rfl
        | false => exact bif_f hc
      · generalize IntKind.wrap .i64 (w.1 + ([1 + x1, 1 + x2, 1000, 8 * (1 + x3)] : List Int).getD x4.toNat 0) = t
        cases hc : decide (setC w x5 t = 0) with
        | true => exact put_P (by simpa using hc)
        | false => exact P
    obtain ⟨w2, e, P2⟩ := key
    obtain ⟨c', w', e', h', P'⟩ := wheel_loop k hk z m kk (b + 5) c5 w2 (by omega) (by omega) (h5.up (by omega)) (by omega) P2
    exact ⟨c', w', by rw [e, e'], h'.up (by omega), P'⟩
theorem wheel_ok (k : Nat) (hk : MM < k) {b : Int} {c : D_l01Cur} (h : CP b c) (hb : b + 1000 ≤ BB) : ∃ w c', spec_l01Cur_wheel k c = some ((w, ()), (c', ())) ∧ CP (b + 1000) c' ∧ WheelP w := by
  have hM : MM = 1048576 := rfl
  obtain ⟨x1, c1, e1, h1, r1⟩ := pick_ok 256 (by omega) h (by omega)
  obtain ⟨x2, c2, e2, h2, r2⟩ := pick_ok 12 (by omega) h1 (by omega)
  obtain ⟨x3, c3, e3, h3, r3⟩ := wide_ok 16777216 (by omega) h2 (by omega)
  obtain ⟨x4, c4, e4, h4, r4⟩ := pick_ok 4 (by omega) h3 (by omega)
  obtain ⟨q1, q2⟩ := inRange 4 4 rfl r4
  have hw : IntKind.wrap .i64 (1000000000000 - x2) = 1000000000000 - x2 := w64 (by omega)
  have hn : nowP (([x1, 0, 1000000000000 - x2, x3] : List Int).getD x4.toNat 0) := g4 (by omega) (by omega) (by omega) (by omega) _ (by omega)
  obtain ⟨y, c5, e5, h5, hy⟩ := size_ok 30 (by omega) h4 (by omega)
  obtain ⟨m, rfl⟩ : ∃ m : Nat, y = (m : Int) := ⟨y.toNat, by omega⟩
  obtain ⟨c6, w6, e6, h6, P6⟩ := wheel_loop k hk zW m k (b + 1 + 1 + 3 + 1 + 1) c5 _ (by omega) (by omega) h5 (by omega) (empty_P hn)
  refine ⟨w6, c6, ?_, h6.up (by omega), P6⟩
  unfold spec_l01Cur_wheel
  simp only [e1, e2, e3, e4, Option.bind_some]
  refine (bif_t q1).trans ?_
  refine (bif_t q2).trans ?_
  simp only [hw, new_eq k hk _ hn, e5, Option.bind_some]
  refine (congrArg (fun o => Option.bind o _) e6).trans ?_
  rfl
/-- small -/
structure SmW (w : D_Wheel) : Prop where
  len : w.2.1.length ≤ 8
  sum : sumW w.2.1 ≤ 100
theorem SmW.fit {w : D_Wheel} (h : SmW w) : fitW w := ⟨by have := h.len; omega, fun s hs => by have := sumW_le _ s hs; have := h.sum; omega⟩
theorem WheelP.sm {w : D_Wheel} (h : WheelP w) : SmW w := ⟨by have := h.len; omega, by have := h.sum; omega⟩
theorem sumW_set (e : D_Timer) (ss : List D_Spoke) (c : Nat) (h : c < ss.length) : sumW (ss.set c ((ss.getD c z_Spoke).1 ++ [e], ())) = sumW ss + 1 := by
  have := (set_perm e ss c h).length_eq
  rw [List.length_cons, sumW_flat, sumW_flat] at this
  exact this
theorem sumW_takeN (ss : List D_Spoke) (i : Nat) : sumW (ss.take i) ≤ sumW ss := by
  have := sub_flatW ss i
  rwa [sumW_flat] at this
theorem bad_loop (k : Nat) (hk : MM < k) (z : D_Wheel) : ∀ (m kk : Nat) (b : Int) (c : D_l01Cur) (w : D_Wheel) (i : Nat), m < kk → CP b c → b + 2 * (m : Int) + 2 ≤ BB → w.2.1.length = 8 → nowP w.1 → sumW w.2.1 + m = 65 → i + m ≤ 1000 →
    ∃ c' w', iter (spec_l01Cur_badWheel_s14 k) kk ((c, ()), (), z, w, (i : Int), ()) = some ((c', ()), z, w', ()) ∧ CP (b + 2 * (m : Int) + 2) c' ∧ SmW w'
  | m, kk + 1, b, c, w, i, hkk, h, hb, h8, hn, hsum, hi => by
    obtain ⟨x1, c1, e1, h1, r1⟩ := pick_ok 2 (by omega) h (by omega)
    have ec : ((c.1, c.2.1, c.2.2.1, ()) : D_l01Cur) = c := rfl
    have hall := all_run k hk w (by omega) (by omega)
    have hx1 : IntKind.wrap .i64 (64 + x1) = 64 + x1 := w64 (by omega)
    rw [iter_succ]
    generalize hR : iter (spec_l01Cur_badWheel_s14 k) kk = R
    unfold spec_l01Cur_badWheel_s14
    by_cases hc : (sumW w.2.1 : Int) < 64 + x1
    · match m, hsum, hkk, hb, hi with
      | 0, hsum, _, _, _ => omega
      | m + 1, hsum, hkk, hb, hi =>
      obtain ⟨x2, c2, e2, h2, r2⟩ := pick_ok 200 (by omega) h1 (by omega)
      have hw1 : IntKind.wrap .i64 (w.1 + 1) = w.1 + 1 := w64 (by omega)
      have hw2 : IntKind.wrap .i64 (w.1 + 1 + x2) = w.1 + 1 + x2 := w64 (by omega)
      have hw3 : IntKind.wrap .i64 ((i : Int) + 1) = ((i + 1 : Nat) : Int) := w64 (by omega)
      have hm := tmod8 (n := w.1 + 1 + x2) (by omega)
      have hlt : (Int.tmod (w.1 + 1 + x2) 8).toNat < w.2.1.length := by omega
      have hsp : (w.2.1.getD (Int.tmod (w.1 + 1 + x2) 8).toNat z_Spoke).1.length ≤ 65 := by
        have := sumW_le w.2.1 _ (getD_mem w.2.1 z_Spoke _ hlt)
        omega
      have hcond : decide ((((w.2.1.flatMap (·.1)).length : Nat) : Int) < 64 + x1) = true := decide_eq_true (by rw [sumW_flat]; exact hc)
      have f1 : (decide ((0 : Int) ≤ Int.tmod (w.1 + 1 + x2) 8) && decide (Int.tmod (w.1 + 1 + x2) 8 < ((w.2.1.length : Nat) : Int))) = true := by simp; omega
      have f2 : decide ((Int.tmod (w.1 + 1 + x2) 8).toNat < w.2.1.length) = true := decide_eq_true hlt
      have f3 : decide (((w.2.1.getD (Int.tmod (w.1 + 1 + x2) 8).toNat z_Spoke).1.length + 1) * 16 ≤ 1099511627776) = true := decide_eq_true (by omega)
      have f4 : decide ((Int.tmod (w.1 + 1 + x2) 8).toNat = (Int.tmod (w.1 + 1 + x2) 8).toNat) = true := decide_eq_true rfl
      obtain ⟨c', w', e', h', S'⟩ := bad_loop k hk z m kk (b + 2) c2 (w.1, w.2.1.set (Int.tmod (w.1 + 1 + x2) 8).toNat ((w.2.1.getD (Int.tmod (w.1 + 1 + x2) 8).toNat z_Spoke).1 ++ [(IntKind.wrap .i64 (100 + (i : Int)), w.1 + 1 + x2, ())], ()), ()) (i + 1) (by omega) (h2.up (by omega)) (by omega) (by simp [h8]) hn (by simp only [sumW_set _ _ _ hlt]; omega) (by omega)
      refine ⟨c', w', ?_, h'.up (by omega), S'⟩
      rw [← e', ← hR]
      simp only [hall, ec, e1, Option.bind_some, hx1, hcond, cond_true, e2, hw1, hw2, f1, f2, f3, f4, hw3, decide_true]
    · refine ⟨c1, w, ?_, h1.up (by omega), ⟨by omega, by omega⟩⟩
      have hcond : decide ((((w.2.1.flatMap (·.1)).length : Nat) : Int) < 64 + x1) = false := decide_eq_false (by rw [sumW_flat]; exact hc)
      simp only [hall, ec, e1, Option.bind_some, hx1, hcond, cond_false]
theorem badWheel_ok (k : Nat) (hk : MM < k) {b : Int} {c : D_l01Cur} (h : CP b c) (hb : b + 3000 ≤ BB) : ∃ w c', spec_l01Cur_badWheel k c = some ((w, ()), (c', ())) ∧ CP (b + 3000) c' ∧ SmW w := by
  have hM : MM = 1048576 := rfl
  obtain ⟨w, c1, e1, h1, P⟩ := wheel_ok k hk h (by omega)
  obtain ⟨x2, c2, e2, h2, r2⟩ := pick_ok 8 (by omega) h1 (by omega)
  obtain ⟨x3, c3, e3, h3, r3⟩ := pick_ok 14 (by omega) h2 (by omega)
  have h8 := P.len
  have hn := P.now
  have hs := P.sum
  have hlt : x2.toNat < w.2.1.length := by omega
  have f1 : (decide ((0 : Int) ≤ x2) && decide (x2 < ((w.2.1.length : Nat) : Int))) = true := by simp; omega
  have f2 : decide (x2.toNat < w.2.1.length) = true := decide_eq_true hlt
  have f3 : decide (((w.2.1.getD x2.toNat z_Spoke).1.length + 1) * 16 ≤ 1099511627776) = true := decide_eq_true (by
    have := sumW_le w.2.1 _ (getD_mem w.2.1 z_Spoke _ hlt)
    omega)
  have f4 : decide (x2.toNat = x2.toNat) = true := decide_eq_true rfl
  have hput : ∀ e : D_Timer, SmW (w.1, w.2.1.set x2.toNat ((w.2.1.getD x2.toNat z_Spoke).1 ++ [e], ()), ()) := fun e => ⟨by simp [h8], by simp only [sumW_set _ _ _ hlt]; omega⟩
  unfold spec_l01Cur_badWheel
  simp only [e1, e2, e3, Option.bind_some]
  cases decide (x3 = 0) with
  | true =>
    obtain ⟨x4, c4, e4, h4⟩ := raw_ok h3 (by omega)
    obtain ⟨x5, c5, e5, h5, r5⟩ := pick_ok 2 (by omega) h4 (by omega)
    obtain ⟨q1, q2⟩ := inRange 2 2 rfl r5
    simp only [e4, e5, Option.bind_some, cond_true]
    rw [bif_t q1]
    exact ⟨_, c5, rfl, h5.up (by omega), by simp only; omega, by simp only; omega⟩
  | false =>
    simp only [cond_false]
    cases decide (x3 = 1) with
    | true =>
      obtain ⟨x4, c4, e4, h4, r4⟩ := pick_ok 8 (by omega) h3 (by omega)
      simp only [e4, Option.bind_some, cond_true]
      rw [bif_t (by simp; omega)]
      exact ⟨_, c4, rfl, h4.up (by omega), by simp only [List.length_take]; omega, by have := sumW_takeN w.2.1 x4.toNat; simp only; omega⟩
    | false =>
      simp only [cond_false]
      cases decide (x3 = 2) with
      | true =>
        obtain ⟨x4, c4, e4, h4⟩ := raw_ok h3 (by omega)
        obtain ⟨x5, c5, e5, h5, r5⟩ := pick_ok 9 (by omega) h4 (by omega)
        simp only [e4, e5, Option.bind_some, cond_true, f1, f2, f3, f4]
        exact ⟨_, c5, rfl, h5.up (by omega), hput _⟩
      | false =>
        simp only [cond_false]
        cases decide (x3 = 3) with
        | true =>
          obtain ⟨x4, c4, e4, h4⟩ := raw_ok h3 (by omega)
          simp only [e4, Option.bind_some, cond_true, f1, f2, f3, f4]
          exact ⟨_, c4, rfl, h4.up (by omega), hput _⟩
        | false =>
          simp only [cond_false]
          cases decide (x3 = 4) with
          | true =>
            obtain ⟨c', w', e', h', S'⟩ := bad_loop k hk zW (65 - sumW w.2.1) k (b + 1000 + 1 + 1) c3 w 0 (by omega) h3 (by omega) h8 hn (by omega) (by omega)
            simp only [cond_true]
            refine ⟨w', c', ?_, h'.up (by omega), S'⟩
            refine (congrArg (fun o => Option.bind o _) e').trans ?_
            rfl
          | false =>
            simp only [cond_false]
            exact ⟨_, c3, rfl, h3.up (by omega), P.sm⟩
/-- What a law knows of its code. -/
structure CodeP (code : List Int) : Prop where
  bytes : ∀ v ∈ code, 0 ≤ v ∧ v ≤ 255
  len : code.length ≤ 1048576
theorem open_ok {code : List Int} (h : CodeP code) : CP 0 (code, (0 : Int), IntKind.wrap .i64 (71 + Int.tmod ((code.length : Nat) : Int) 1000), ()) := by
  have hl := h.len
  have := tmod_rng (x := ((code.length : Nat) : Int)) (n := 1000) (by omega) (by omega)
  have hw : IntKind.wrap .i64 (71 + Int.tmod ((code.length : Nat) : Int) 1000) = 71 + Int.tmod ((code.length : Nat) : Int) 1000 := w64 (by omega)
  exact ⟨h.bytes, h.len, Int.le_refl _, Int.le_refl _, by simp only [hw]; omega, by simp only [hw]; omega⟩
theorem drawRun_ok (k : Nat) (hk : MM < k) {code : List Int} (h : CodeP code) : ∃ w n, spec_DrawWheelRun k code = some ((w, n, ()), ()) ∧ SmW w := by
  obtain ⟨w, c1, e1, h1, S⟩ := badWheel_ok k hk (open_ok h) (by decide)
  obtain ⟨x2, c2, e2, h2, r2⟩ := pick_ok 30 (by omega) h1 (by decide)
  obtain ⟨x3, c3, e3, h3, r3⟩ := pick_ok 256 (by omega) h2 (by decide)
  obtain ⟨x4, c4, e4, h4⟩ := raw_ok h3 (by decide)
  obtain ⟨x5, c5, e5, h5, r5⟩ := pick_ok 5 (by omega) h4 (by decide)
  obtain ⟨q1, q2⟩ := inRange 5 5 rfl r5
  unfold spec_DrawWheelRun
  simp only [e1, e2, e3, e4, e5, Option.bind_some]
  rw [bif_t q1]
  exact ⟨w, _, rfl, S⟩
theorem clip_eq (x a b : Int) : ∃ y, spec_Clip x a b = some ((y, ()), ()) := by
  unfold spec_Clip
  cases decide (x < a) with
  | true => exact ⟨_, rfl⟩
  | false => cases decide (b < x) <;> exact ⟨_, rfl⟩
theorem drawSet_ok (k : Nat) (hk : MM < k) {code : List Int} (h : CodeP code) : ∃ w id t, spec_DrawWheelSet k code = some ((w, id, t, ()), ()) ∧ SmW w := by
  obtain ⟨w, c1, e1, h1, S⟩ := badWheel_ok k hk (open_ok h) (by decide)
  obtain ⟨x2, c2, e2, h2⟩ := raw_ok h1 (by decide)
  obtain ⟨x3, c3, e3, h3⟩ := once_ok 6 (by omega) h2 (by decide)
  unfold spec_DrawWheelSet
  simp only [e1, e2, e3, Option.bind_some]
  cases x3 with
  | false =>
    obtain ⟨y, ey⟩ := clip_eq w.1 0 1000000000000
    obtain ⟨x5, c5, e5, h5, r5⟩ := pick_ok 20 (by omega) h3 (by decide)
    obtain ⟨x6, c6, e6, h6, r6⟩ := pick_ok 256 (by omega) h5 (by decide)
    obtain ⟨x7, c7, e7, h7, r7⟩ := pick_ok 5 (by omega) h6 (by decide)
    obtain ⟨q1, q2⟩ := inRange 5 5 rfl r7
    obtain ⟨x8, c8, e8, h8, r8⟩ := pick_ok 40 (by omega) h7 (by decide)
    obtain ⟨x9, c9, e9, h9⟩ := raw_ok h8 (by decide)
    obtain ⟨x10, c10, e10, h10, r10⟩ := pick_ok 4 (by omega) h9 (by decide)
    obtain ⟨p1, p2⟩ := inRange 4 4 rfl r10
    simp only [ey, e5, e6, e7, e8, e9, e10, Option.bind_some, Bool.not_false, cond_true]
    rw [bif_t q1, bif_t q2, bif_t p1]
    exact ⟨_, _, _, rfl, S⟩
  | true =>
    obtain ⟨x8, c8, e8, h8, r8⟩ := pick_ok 40 (by omega) h3 (by decide)
    obtain ⟨x9, c9, e9, h9⟩ := raw_ok h8 (by decide)
    obtain ⟨x10, c10, e10, h10, r10⟩ := pick_ok 4 (by omega) h9 (by decide)
    obtain ⟨p1, p2⟩ := inRange 4 4 rfl r10
    simp only [e8, e9, e10, Option.bind_some, Bool.not_true, cond_false]
    rw [bif_t p1]
    exact ⟨_, _, _, rfl, S⟩
end Go.Tw
