/- Plain facts on the mirrors of the functions are proved here. -/
import Derived.Test.YtmjacadeccoclaaPm4
set_option linter.all false
namespace Go.Tw
open Go Go.RowKit

def addT (out : List Int) (g a : Int) : List Int := bif decide (0 ≤ g) then out ++ [a] else out
theorem big8 {n : Nat} (h : n ≤ 1048576) : (n + 1) * 8 ≤ 1099511627776 := by omega
set_option maxHeartbeats 1000000 in
theorem timeStep000 (J : List D_Job) (cap : Int) (u : Unit) (out : List Int) (hout : out.length ≤ 1048576) (a0 : Int) (ha0 : out.length < J.length) (rec) :
    impl_LineTimes_s11 rec ((), J, (cap, [], [], [], u), out, a0, ()) = rec ((), J, (tick (cap, [], [], [], u)).1, addT out (tick (cap, [], [], [], u)).2.1 a0, IntKind.wrap .i64 (a0 + 1), ()) := by
  have ho := big8 hout
  unfold impl_LineTimes_s11
  dsimp (config := { zeta := false }) only
  ((repeat (first | (refine Eq.trans (bif_t (by (first | (simp [leOne, ho, ha0]; done) | fail))) ?_) | (refine Eq.trans (bif_f (by (first | (simp ; done) | fail))) ?_))); simp [tick, tickA, tickB, tickC, decA, decB, decC, addT])
set_option maxHeartbeats 1000000 in
theorem timeStep001 (J : List D_Job) (cap : Int) (u : Unit) (c : D_Job) (cs : List D_Job) (hcs : cs.length ≤ 1048575) (out : List Int) (hout : out.length ≤ 1048576) (a0 : Int) (ha0 : out.length < J.length) (rec) :
    impl_LineTimes_s11 rec ((), J, (cap, [], [], c :: cs, u), out, a0, ()) = rec ((), J, (tick (cap, [], [], c :: cs, u)).1, addT out (tick (cap, [], [], c :: cs, u)).2.1 a0, IntKind.wrap .i64 (a0 + 1), ()) := by
  have ho := big8 hout
  have fcs0 := big0 hcs
  have fcs1 := big1 hcs
  have fcs2 := big2 hcs
  unfold impl_LineTimes_s11
  dsimp (config := { zeta := false }) only
  by_cases g3 : IntKind.wrap .i64 (c.2.1.2.2.1 - 1) = 0 <;> by_cases g4 : 0 ≤ c.1 <;> ((repeat (first | (refine Eq.trans (bif_t (by (first | (simp [g3, g4, leOne, ho, ha0, fcs0, fcs1, fcs2]; done) | fail))) ?_) | (refine Eq.trans (bif_f (by (first | (simp [g3, g4]; done) | fail))) ?_))); simp [tick, tickA, tickB, tickC, decA, decB, decC, addT, g3, g4])
set_option maxHeartbeats 1000000 in
theorem timeStep010 (J : List D_Job) (cap : Int) (u : Unit) (b : D_Job) (bs : List D_Job) (hbs : bs.length ≤ 1048575) (out : List Int) (hout : out.length ≤ 1048576) (a0 : Int) (ha0 : out.length < J.length) (rec) :
    impl_LineTimes_s11 rec ((), J, (cap, [], b :: bs, [], u), out, a0, ()) = rec ((), J, (tick (cap, [], b :: bs, [], u)).1, addT out (tick (cap, [], b :: bs, [], u)).2.1 a0, IntKind.wrap .i64 (a0 + 1), ()) := by
  have ho := big8 hout
  have fbs0 := big0 hbs
  have fbs1 := big1 hbs
  have fbs2 := big2 hbs
  unfold impl_LineTimes_s11
  dsimp (config := { zeta := false }) only
  by_cases g2 : IntKind.wrap .i64 (b.2.1.2.1 - 1) = 0 <;> ((repeat (first | (refine Eq.trans (bif_t (by (first | (simp [g2, leOne, ho, ha0, fbs0, fbs1, fbs2]; done) | fail))) ?_) | (refine Eq.trans (bif_f (by (first | (simp [g2]; done) | fail))) ?_))); simp [tick, tickA, tickB, tickC, decA, decB, decC, addT, g2])
set_option maxHeartbeats 1000000 in
theorem timeStep011 (J : List D_Job) (cap : Int) (u : Unit) (b : D_Job) (bs : List D_Job) (hbs : bs.length ≤ 1048575) (c : D_Job) (cs : List D_Job) (hcs : cs.length ≤ 1048575) (out : List Int) (hout : out.length ≤ 1048576) (a0 : Int) (ha0 : out.length < J.length) (rec) :
    impl_LineTimes_s11 rec ((), J, (cap, [], b :: bs, c :: cs, u), out, a0, ()) = rec ((), J, (tick (cap, [], b :: bs, c :: cs, u)).1, addT out (tick (cap, [], b :: bs, c :: cs, u)).2.1 a0, IntKind.wrap .i64 (a0 + 1), ()) := by
  have ho := big8 hout
  have fbs0 := big0 hbs
  have fbs1 := big1 hbs
  have fbs2 := big2 hbs
  have fcs0 := big0 hcs
  have fcs1 := big1 hcs
  have fcs2 := big2 hcs
  unfold impl_LineTimes_s11
  dsimp (config := { zeta := false }) only
  by_cases g2 : IntKind.wrap .i64 (b.2.1.2.1 - 1) = 0 <;> by_cases g3 : IntKind.wrap .i64 (c.2.1.2.2.1 - 1) = 0 <;> by_cases g4 : 0 ≤ c.1 <;> ((repeat (first | (refine Eq.trans (bif_t (by (first | (simp [g2, g3, g4, leOne, ho, ha0, fbs0, fbs1, fbs2, fcs0, fcs1, fcs2]; done) | fail))) ?_) | (refine Eq.trans (bif_f (by (first | (simp [g2, g3, g4]; done) | fail))) ?_))); simp [tick, tickA, tickB, tickC, decA, decB, decC, addT, g2, g3, g4])
set_option maxHeartbeats 1000000 in
theorem timeStep100 (J : List D_Job) (cap : Int) (u : Unit) (a1 : D_Job) (as : List D_Job) (has : as.length ≤ 1048575) (out : List Int) (hout : out.length ≤ 1048576) (a0 : Int) (ha0 : out.length < J.length) (rec) :
    impl_LineTimes_s11 rec ((), J, (cap, a1 :: as, [], [], u), out, a0, ()) = rec ((), J, (tick (cap, a1 :: as, [], [], u)).1, addT out (tick (cap, a1 :: as, [], [], u)).2.1 a0, IntKind.wrap .i64 (a0 + 1), ()) := by
  have ho := big8 hout
  have fas0 := big0 has
  have fas1 := big1 has
  have fas2 := big2 has
  unfold impl_LineTimes_s11
  dsimp (config := { zeta := false }) only
  by_cases g1 : IntKind.wrap .i64 (a1.2.1.1 - 1) = 0 <;> ((repeat (first | (refine Eq.trans (bif_t (by (first | (simp [g1, leOne, ho, ha0, fas0, fas1, fas2]; done) | fail))) ?_) | (refine Eq.trans (bif_f (by (first | (simp [g1]; done) | fail))) ?_))); simp [tick, tickA, tickB, tickC, decA, decB, decC, addT, g1])
set_option maxHeartbeats 1000000 in
theorem timeStep101 (J : List D_Job) (cap : Int) (u : Unit) (a1 : D_Job) (as : List D_Job) (has : as.length ≤ 1048575) (c : D_Job) (cs : List D_Job) (hcs : cs.length ≤ 1048575) (out : List Int) (hout : out.length ≤ 1048576) (a0 : Int) (ha0 : out.length < J.length) (rec) :
    impl_LineTimes_s11 rec ((), J, (cap, a1 :: as, [], c :: cs, u), out, a0, ()) = rec ((), J, (tick (cap, a1 :: as, [], c :: cs, u)).1, addT out (tick (cap, a1 :: as, [], c :: cs, u)).2.1 a0, IntKind.wrap .i64 (a0 + 1), ()) := by
  have ho := big8 hout
  have fas0 := big0 has
  have fas1 := big1 has
  have fas2 := big2 has
  have fcs0 := big0 hcs
  have fcs1 := big1 hcs
  have fcs2 := big2 hcs
  unfold impl_LineTimes_s11
  dsimp (config := { zeta := false }) only
  by_cases g1 : IntKind.wrap .i64 (a1.2.1.1 - 1) = 0 <;> by_cases g3 : IntKind.wrap .i64 (c.2.1.2.2.1 - 1) = 0 <;> by_cases g4 : 0 ≤ c.1 <;> ((repeat (first | (refine Eq.trans (bif_t (by (first | (simp [g1, g3, g4, leOne, ho, ha0, fas0, fas1, fas2, fcs0, fcs1, fcs2]; done) | fail))) ?_) | (refine Eq.trans (bif_f (by (first | (simp [g1, g3, g4]; done) | fail))) ?_))); simp [tick, tickA, tickB, tickC, decA, decB, decC, addT, g1, g3, g4])
set_option maxHeartbeats 1000000 in
theorem timeStep110 (J : List D_Job) (cap : Int) (u : Unit) (a1 : D_Job) (as : List D_Job) (has : as.length ≤ 1048575) (b : D_Job) (bs : List D_Job) (hbs : bs.length ≤ 1048575) (out : List Int) (hout : out.length ≤ 1048576) (a0 : Int) (ha0 : out.length < J.length) (rec) :
    impl_LineTimes_s11 rec ((), J, (cap, a1 :: as, b :: bs, [], u), out, a0, ()) = rec ((), J, (tick (cap, a1 :: as, b :: bs, [], u)).1, addT out (tick (cap, a1 :: as, b :: bs, [], u)).2.1 a0, IntKind.wrap .i64 (a0 + 1), ()) := by
  have ho := big8 hout
  have fas0 := big0 has
  have fas1 := big1 has
  have fas2 := big2 has
  have fbs0 := big0 hbs
  have fbs1 := big1 hbs
  have fbs2 := big2 hbs
  unfold impl_LineTimes_s11
  dsimp (config := { zeta := false }) only
  by_cases g1 : IntKind.wrap .i64 (a1.2.1.1 - 1) = 0 <;> by_cases g2 : IntKind.wrap .i64 (b.2.1.2.1 - 1) = 0 <;> ((repeat (first | (refine Eq.trans (bif_t (by (first | (simp [g1, g2, leOne, ho, ha0, fas0, fas1, fas2, fbs0, fbs1, fbs2]; done) | fail))) ?_) | (refine Eq.trans (bif_f (by (first | (simp [g1, g2]; done) | fail))) ?_))); simp [tick, tickA, tickB, tickC, decA, decB, decC, addT, g1, g2])
set_option maxHeartbeats 1000000 in
theorem timeStep111 (J : List D_Job) (cap : Int) (u : Unit) (a1 : D_Job) (as : List D_Job) (has : as.length ≤ 1048575) (b : D_Job) (bs : List D_Job) (hbs : bs.length ≤ 1048575) (c : D_Job) (cs : List D_Job) (hcs : cs.length ≤ 1048575) (out : List Int) (hout : out.length ≤ 1048576) (a0 : Int) (ha0 : out.length < J.length) (rec) :
    impl_LineTimes_s11 rec ((), J, (cap, a1 :: as, b :: bs, c :: cs, u), out, a0, ()) = rec ((), J, (tick (cap, a1 :: as, b :: bs, c :: cs, u)).1, addT out (tick (cap, a1 :: as, b :: bs, c :: cs, u)).2.1 a0, IntKind.wrap .i64 (a0 + 1), ()) := by
  have ho := big8 hout
  have fas0 := big0 has
  have fas1 := big1 has
  have fas2 := big2 has
  have fbs0 := big0 hbs
  have fbs1 := big1 hbs
  have fbs2 := big2 hbs
  have fcs0 := big0 hcs
  have fcs1 := big1 hcs
  have fcs2 := big2 hcs
  unfold impl_LineTimes_s11
  dsimp (config := { zeta := false }) only
  by_cases g1 : IntKind.wrap .i64 (a1.2.1.1 - 1) = 0 <;> by_cases g2 : IntKind.wrap .i64 (b.2.1.2.1 - 1) = 0 <;> by_cases g3 : IntKind.wrap .i64 (c.2.1.2.2.1 - 1) = 0 <;> by_cases g4 : 0 ≤ c.1 <;> ((repeat (first | (refine Eq.trans (bif_t (by (first | (simp [g1, g2, g3, g4, leOne, ho, ha0, fas0, fas1, fas2, fbs0, fbs1, fbs2, fcs0, fcs1, fcs2]; done) | fail))) ?_) | (refine Eq.trans (bif_f (by (first | (simp [g1, g2, g3, g4]; done) | fail))) ?_))); simp [tick, tickA, tickB, tickC, decA, decB, decC, addT, g1, g2, g3, g4])
theorem implTimes_step (J : List D_Job) (x : D_Line) (h : fits x) (out : List Int) (hout : out.length ≤ 1048576) (a : Int) (ha0 : out.length < J.length) (rec) :
    impl_LineTimes_s11 rec ((), J, x, out, a, ()) = rec ((), J, (tick x).1, addT out (tick x).2.1 a, IntKind.wrap .i64 (a + 1), ()) := by
  obtain ⟨cap, A, B, C, u⟩ := x
  obtain ⟨h1, h2, h3⟩ := h
  have e : ∀ (x : D_Job) (l : List D_Job), (x :: l).length ≤ 1048576 → l.length ≤ 1048575 := fun x l h => by simp at h; omega
  cases A with
  | nil => cases B with
    | nil => cases C with
      | nil => exact timeStep000 J cap u out hout a ha0 rec
      | cons c cs => exact timeStep001 J cap u c cs (e c cs h3) out hout a ha0 rec
    | cons b bs => cases C with
      | nil => exact timeStep010 J cap u b bs (e b bs h2) out hout a ha0 rec
      | cons c cs => exact timeStep011 J cap u b bs (e b bs h2) c cs (e c cs h3) out hout a ha0 rec
  | cons a1 as => cases B with
    | nil => cases C with
      | nil => exact timeStep100 J cap u a1 as (e a1 as h1) out hout a ha0 rec
      | cons c cs => exact timeStep101 J cap u a1 as (e a1 as h1) c cs (e c cs h3) out hout a ha0 rec
    | cons b bs => cases C with
      | nil => exact timeStep110 J cap u a1 as (e a1 as h1) b bs (e b bs h2) out hout a ha0 rec
      | cons c cs => exact timeStep111 J cap u a1 as (e a1 as h1) b bs (e b bs h2) c cs (e c cs h3) out hout a ha0 rec
end Go.Tw
