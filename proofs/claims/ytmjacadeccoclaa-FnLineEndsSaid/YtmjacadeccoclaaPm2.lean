/- Plain facts on the mirrors of the functions are proved here. -/
import Derived.Test.YtmjacadeccoclaaPm1
set_option linter.all false
namespace Go.Tw
open Go Go.RowKit

theorem big0 {n : Nat} (h : n ≤ 1048575) : n * 32 ≤ 1099511627776 := by omega
theorem big1 {n : Nat} (h : n ≤ 1048575) : (n + 1) * 32 ≤ 1099511627776 := by omega
theorem big2 {n : Nat} (h : n ≤ 1048575) : (n + 1 + 1) * 32 ≤ 1099511627776 := by omega
theorem leOne (n : Nat) : (1 : Int) ≤ (n : Int) + 1 := by omega
set_option maxHeartbeats 1000000 in
theorem endStep001 (k : Nat) (cap : Int) (u : Unit) (c : D_Job) (cs : List D_Job) (hcs : cs.length ≤ 1048575) (n : Int) (rec) (hjb : impl_Line_jobs k (cap, [], [], c :: cs, u) = some (((([] : List D_Job) ++ ([] : List D_Job)) ++ (c :: cs), ()), ())) (hj : (0 : Int) < ((((([] : List D_Job) ++ ([] : List D_Job)) ++ (c :: cs)).length : Nat) : Int)) :
    impl_LineEnd_s4 k rec ((), (cap, [], [], c :: cs, u), n, ()) = rec ((), (tick (cap, [], [], c :: cs, u)).1, IntKind.wrap .i64 (n + 1), ()) := by
  have fcs0 := big0 hcs
  have fcs1 := big1 hcs
  have fcs2 := big2 hcs
  unfold impl_LineEnd_s4
  dsimp (config := { zeta := false }) only
  rw [hjb, Option.bind_some]
  refine Eq.trans (bif_t (by rw [decide_eq_true_eq]; exact hj)) ?_
  clear hjb
  by_cases g3 : IntKind.wrap .i64 (c.2.1.2.2.1 - 1) = 0 <;> ((repeat (first | (refine Eq.trans (bif_t (by (first | (simp [g3, leOne, fcs0, fcs1, fcs2]; done) | fail))) ?_) | (refine Eq.trans (bif_f (by (first | (simp [g3]; done) | fail))) ?_))); simp [tick, tickA, tickB, tickC, decA, decB, decC, g3])
set_option maxHeartbeats 1000000 in
theorem endStep010 (k : Nat) (cap : Int) (u : Unit) (b : D_Job) (bs : List D_Job) (hbs : bs.length ≤ 1048575) (n : Int) (rec) (hjb : impl_Line_jobs k (cap, [], b :: bs, [], u) = some (((([] : List D_Job) ++ (b :: bs)) ++ ([] : List D_Job), ()), ())) (hj : (0 : Int) < ((((([] : List D_Job) ++ (b :: bs)) ++ ([] : List D_Job)).length : Nat) : Int)) :
    impl_LineEnd_s4 k rec ((), (cap, [], b :: bs, [], u), n, ()) = rec ((), (tick (cap, [], b :: bs, [], u)).1, IntKind.wrap .i64 (n + 1), ()) := by
  have fbs0 := big0 hbs
  have fbs1 := big1 hbs
  have fbs2 := big2 hbs
  unfold impl_LineEnd_s4
  dsimp (config := { zeta := false }) only
  rw [hjb, Option.bind_some]
  refine Eq.trans (bif_t (by rw [decide_eq_true_eq]; exact hj)) ?_
  clear hjb
  by_cases g2 : IntKind.wrap .i64 (b.2.1.2.1 - 1) = 0 <;> ((repeat (first | (refine Eq.trans (bif_t (by (first | (simp [g2, leOne, fbs0, fbs1, fbs2]; done) | fail))) ?_) | (refine Eq.trans (bif_f (by (first | (simp [g2]; done) | fail))) ?_))); simp [tick, tickA, tickB, tickC, decA, decB, decC, g2])
set_option maxHeartbeats 1000000 in
theorem endStep011 (k : Nat) (cap : Int) (u : Unit) (b : D_Job) (bs : List D_Job) (hbs : bs.length ≤ 1048575) (c : D_Job) (cs : List D_Job) (hcs : cs.length ≤ 1048575) (n : Int) (rec) (hjb : impl_Line_jobs k (cap, [], b :: bs, c :: cs, u) = some (((([] : List D_Job) ++ (b :: bs)) ++ (c :: cs), ()), ())) (hj : (0 : Int) < ((((([] : List D_Job) ++ (b :: bs)) ++ (c :: cs)).length : Nat) : Int)) :
    impl_LineEnd_s4 k rec ((), (cap, [], b :: bs, c :: cs, u), n, ()) = rec ((), (tick (cap, [], b :: bs, c :: cs, u)).1, IntKind.wrap .i64 (n + 1), ()) := by
  have fbs0 := big0 hbs
  have fbs1 := big1 hbs
  have fbs2 := big2 hbs
  have fcs0 := big0 hcs
  have fcs1 := big1 hcs
  have fcs2 := big2 hcs
  unfold impl_LineEnd_s4
  dsimp (config := { zeta := false }) only
  rw [hjb, Option.bind_some]
  refine Eq.trans (bif_t (by rw [decide_eq_true_eq]; exact hj)) ?_
  clear hjb
  by_cases g2 : IntKind.wrap .i64 (b.2.1.2.1 - 1) = 0 <;> by_cases g3 : IntKind.wrap .i64 (c.2.1.2.2.1 - 1) = 0 <;> ((repeat (first | (refine Eq.trans (bif_t (by (first | (simp [g2, g3, leOne, fbs0, fbs1, fbs2, fcs0, fcs1, fcs2]; done) | fail))) ?_) | (refine Eq.trans (bif_f (by (first | (simp [g2, g3]; done) | fail))) ?_))); simp [tick, tickA, tickB, tickC, decA, decB, decC, g2, g3])
set_option maxHeartbeats 1000000 in
theorem endStep100 (k : Nat) (cap : Int) (u : Unit) (a1 : D_Job) (as : List D_Job) (has : as.length ≤ 1048575) (n : Int) (rec) (hjb : impl_Line_jobs k (cap, a1 :: as, [], [], u) = some ((((a1 :: as) ++ ([] : List D_Job)) ++ ([] : List D_Job), ()), ())) (hj : (0 : Int) < (((((a1 :: as) ++ ([] : List D_Job)) ++ ([] : List D_Job)).length : Nat) : Int)) :
    impl_LineEnd_s4 k rec ((), (cap, a1 :: as, [], [], u), n, ()) = rec ((), (tick (cap, a1 :: as, [], [], u)).1, IntKind.wrap .i64 (n + 1), ()) := by
  have fas0 := big0 has
  have fas1 := big1 has
  have fas2 := big2 has
  unfold impl_LineEnd_s4
  dsimp (config := { zeta := false }) only
  rw [hjb, Option.bind_some]
  refine Eq.trans (bif_t (by rw [decide_eq_true_eq]; exact hj)) ?_
  clear hjb
  by_cases g1 : IntKind.wrap .i64 (a1.2.1.1 - 1) = 0 <;> ((repeat (first | (refine Eq.trans (bif_t (by (first | (simp [g1, leOne, fas0, fas1, fas2]; done) | fail))) ?_) | (refine Eq.trans (bif_f (by (first | (simp [g1]; done) | fail))) ?_))); simp [tick, tickA, tickB, tickC, decA, decB, decC, g1])
set_option maxHeartbeats 1000000 in
theorem endStep101 (k : Nat) (cap : Int) (u : Unit) (a1 : D_Job) (as : List D_Job) (has : as.length ≤ 1048575) (c : D_Job) (cs : List D_Job) (hcs : cs.length ≤ 1048575) (n : Int) (rec) (hjb : impl_Line_jobs k (cap, a1 :: as, [], c :: cs, u) = some ((((a1 :: as) ++ ([] : List D_Job)) ++ (c :: cs), ()), ())) (hj : (0 : Int) < (((((a1 :: as) ++ ([] : List D_Job)) ++ (c :: cs)).length : Nat) : Int)) :
    impl_LineEnd_s4 k rec ((), (cap, a1 :: as, [], c :: cs, u), n, ()) = rec ((), (tick (cap, a1 :: as, [], c :: cs, u)).1, IntKind.wrap .i64 (n + 1), ()) := by
  have fas0 := big0 has
  have fas1 := big1 has
  have fas2 := big2 has
  have fcs0 := big0 hcs
  have fcs1 := big1 hcs
  have fcs2 := big2 hcs
  unfold impl_LineEnd_s4
  dsimp (config := { zeta := false }) only
  rw [hjb, Option.bind_some]
  refine Eq.trans (bif_t (by rw [decide_eq_true_eq]; exact hj)) ?_
  clear hjb
  by_cases g1 : IntKind.wrap .i64 (a1.2.1.1 - 1) = 0 <;> by_cases g3 : IntKind.wrap .i64 (c.2.1.2.2.1 - 1) = 0 <;> ((repeat (first | (refine Eq.trans (bif_t (by (first | (simp [g1, g3, leOne, fas0, fas1, fas2, fcs0, fcs1, fcs2]; done) | fail))) ?_) | (refine Eq.trans (bif_f (by (first | (simp [g1, g3]; done) | fail))) ?_))); simp [tick, tickA, tickB, tickC, decA, decB, decC, g1, g3])
set_option maxHeartbeats 1000000 in
theorem endStep110 (k : Nat) (cap : Int) (u : Unit) (a1 : D_Job) (as : List D_Job) (has : as.length ≤ 1048575) (b : D_Job) (bs : List D_Job) (hbs : bs.length ≤ 1048575) (n : Int) (rec) (hjb : impl_Line_jobs k (cap, a1 :: as, b :: bs, [], u) = some ((((a1 :: as) ++ (b :: bs)) ++ ([] : List D_Job), ()), ())) (hj : (0 : Int) < (((((a1 :: as) ++ (b :: bs)) ++ ([] : List D_Job)).length : Nat) : Int)) :
    impl_LineEnd_s4 k rec ((), (cap, a1 :: as, b :: bs, [], u), n, ()) = rec ((), (tick (cap, a1 :: as, b :: bs, [], u)).1, IntKind.wrap .i64 (n + 1), ()) := by
  have fas0 := big0 has
  have fas1 := big1 has
  have fas2 := big2 has
  have fbs0 := big0 hbs
  have fbs1 := big1 hbs
  have fbs2 := big2 hbs
  unfold impl_LineEnd_s4
  dsimp (config := { zeta := false }) only
  rw [hjb, Option.bind_some]
  refine Eq.trans (bif_t (by rw [decide_eq_true_eq]; exact hj)) ?_
  clear hjb
  by_cases g1 : IntKind.wrap .i64 (a1.2.1.1 - 1) = 0 <;> by_cases g2 : IntKind.wrap .i64 (b.2.1.2.1 - 1) = 0 <;> ((repeat (first | (refine Eq.trans (bif_t (by (first | (simp [g1, g2, leOne, fas0, fas1, fas2, fbs0, fbs1, fbs2]; done) | fail))) ?_) | (refine Eq.trans (bif_f (by (first | (simp [g1, g2]; done) | fail))) ?_))); simp [tick, tickA, tickB, tickC, decA, decB, decC, g1, g2])
set_option maxHeartbeats 1000000 in
theorem endStep111 (k : Nat) (cap : Int) (u : Unit) (a1 : D_Job) (as : List D_Job) (has : as.length ≤ 1048575) (b : D_Job) (bs : List D_Job) (hbs : bs.length ≤ 1048575) (c : D_Job) (cs : List D_Job) (hcs : cs.length ≤ 1048575) (n : Int) (rec) (hjb : impl_Line_jobs k (cap, a1 :: as, b :: bs, c :: cs, u) = some ((((a1 :: as) ++ (b :: bs)) ++ (c :: cs), ()), ())) (hj : (0 : Int) < (((((a1 :: as) ++ (b :: bs)) ++ (c :: cs)).length : Nat) : Int)) :
    impl_LineEnd_s4 k rec ((), (cap, a1 :: as, b :: bs, c :: cs, u), n, ()) = rec ((), (tick (cap, a1 :: as, b :: bs, c :: cs, u)).1, IntKind.wrap .i64 (n + 1), ()) := by
  have fas0 := big0 has
  have fas1 := big1 has
  have fas2 := big2 has
  have fbs0 := big0 hbs
  have fbs1 := big1 hbs
  have fbs2 := big2 hbs
  have fcs0 := big0 hcs
  have fcs1 := big1 hcs
  have fcs2 := big2 hcs
  unfold impl_LineEnd_s4
  dsimp (config := { zeta := false }) only
  rw [hjb, Option.bind_some]
  refine Eq.trans (bif_t (by rw [decide_eq_true_eq]; exact hj)) ?_
  clear hjb
  by_cases g1 : IntKind.wrap .i64 (a1.2.1.1 - 1) = 0 <;> by_cases g2 : IntKind.wrap .i64 (b.2.1.2.1 - 1) = 0 <;> by_cases g3 : IntKind.wrap .i64 (c.2.1.2.2.1 - 1) = 0 <;> ((repeat (first | (refine Eq.trans (bif_t (by (first | (simp [g1, g2, g3, leOne, fas0, fas1, fas2, fbs0, fbs1, fbs2, fcs0, fcs1, fcs2]; done) | fail))) ?_) | (refine Eq.trans (bif_f (by (first | (simp [g1, g2, g3]; done) | fail))) ?_))); simp [tick, tickA, tickB, tickC, decA, decB, decC, g1, g2, g3])
theorem implEnd_step (k : Nat) (hk : MM < k) (x : D_Line) (h : fits x) (hx : allJ x ≠ []) (n : Int) (rec) :
    impl_LineEnd_s4 k rec ((), x, n, ()) = rec ((), (tick x).1, IntKind.wrap .i64 (n + 1), ()) := by
  have hj := jobs_eq k hk x h
  obtain ⟨cap, A, B, C, u⟩ := x
  obtain ⟨h1, h2, h3⟩ := h
  have e : ∀ (x : D_Job) (l : List D_Job), (x :: l).length ≤ 1048576 → l.length ≤ 1048575 := fun x l h => by simp at h; omega
  cases A with
  | nil => cases B with
    | nil => cases C with
      | nil => exact absurd rfl hx
      | cons c cs => exact endStep001 k cap u c cs (e c cs h3) n rec hj (by first | (simp; done) | (simp; omega))
    | cons b bs => cases C with
      | nil => exact endStep010 k cap u b bs (e b bs h2) n rec hj (by first | (simp; done) | (simp; omega))
      | cons c cs => exact endStep011 k cap u b bs (e b bs h2) c cs (e c cs h3) n rec hj (by first | (simp; done) | (simp; omega))
  | cons a1 as => cases B with
    | nil => cases C with
      | nil => exact endStep100 k cap u a1 as (e a1 as h1) n rec hj (by first | (simp; done) | (simp; omega))
      | cons c cs => exact endStep101 k cap u a1 as (e a1 as h1) c cs (e c cs h3) n rec hj (by first | (simp; done) | (simp; omega))
    | cons b bs => cases C with
      | nil => exact endStep110 k cap u a1 as (e a1 as h1) b bs (e b bs h2) n rec hj (by first | (simp; done) | (simp; omega))
      | cons c cs => exact endStep111 k cap u a1 as (e a1 as h1) b bs (e b bs h2) c cs (e c cs h3) n rec hj (by first | (simp; done) | (simp; omega))
end Go.Tw
