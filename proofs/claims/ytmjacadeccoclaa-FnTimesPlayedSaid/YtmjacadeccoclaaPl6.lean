/- Plain facts on the mirrors of the functions are proved here. -/
import Derived.Test.YtmjacadeccoclaaPl3
import Derived.Test.YtmjacadeccoclaaPk1
import Derived.Test.YtmjacadeccoclaaPf2
set_option linter.all false
namespace Go.Tw
open Go Go.RowKit

def addD (out : List D_Done) (g a : Int) : List D_Done := bif decide (0 ≤ g) then out ++ [(g, a, ())] else out
theorem rb0 {n : Nat} (h : n ≤ 1048575) : n * 32 ≤ 1099511627776 := by omega
theorem rb1 {n : Nat} (h : n ≤ 1048575) : (n + 1) * 32 ≤ 1099511627776 := by omega
theorem rb2 {n : Nat} (h : n ≤ 1048575) : (n + 1 + 1) * 32 ≤ 1099511627776 := by omega
theorem rleOne (n : Nat) : (1 : Int) ≤ (n : Int) + 1 := by omega
theorem rb3 {n : Nat} (h : n ≤ 1048576) : (n + 1) * 16 ≤ 1099511627776 := by omega
set_option maxHeartbeats 1000000 in
theorem runStep000 (n : Int) (z : D_Line) (cap : Int) (u : Unit) (out : List D_Done) (hout : out.length ≤ 1048576) (a0 : Int) (ha0 : a0 ≤ n) (rec) :
    impl_LineRun_s5 rec ((), n, z, (cap, [], [], [], u), out, a0, ()) = rec ((), n, z, (tick (cap, [], [], [], u)).1, addD out (tick (cap, [], [], [], u)).2.1 a0, IntKind.wrap .i64 (a0 + 1), ()) := by
  have ho := rb3 hout
  unfold impl_LineRun_s5
  dsimp (config := { zeta := false }) only
  ((repeat (first | (refine Eq.trans (bif_t (by (first | (simp [rleOne, ho, ha0]; done) | fail))) ?_) | (refine Eq.trans (bif_f (by (first | (simp ; done) | fail))) ?_))); simp [tick, tickA, tickB, tickC, decA, decB, decC, addD])
set_option maxHeartbeats 1000000 in
theorem runStep001 (n : Int) (z : D_Line) (cap : Int) (u : Unit) (c : D_Job) (cs : List D_Job) (hcs : cs.length ≤ 1048575) (out : List D_Done) (hout : out.length ≤ 1048576) (a0 : Int) (ha0 : a0 ≤ n) (rec) :
    impl_LineRun_s5 rec ((), n, z, (cap, [], [], c :: cs, u), out, a0, ()) = rec ((), n, z, (tick (cap, [], [], c :: cs, u)).1, addD out (tick (cap, [], [], c :: cs, u)).2.1 a0, IntKind.wrap .i64 (a0 + 1), ()) := by
  have ho := rb3 hout
  have fcs0 := rb0 hcs
  have fcs1 := rb1 hcs
  have fcs2 := rb2 hcs
  unfold impl_LineRun_s5
  dsimp (config := { zeta := false }) only
  by_cases g3 : IntKind.wrap .i64 (c.2.1.2.2.1 - 1) = 0 <;> by_cases g4 : 0 ≤ c.1 <;> ((repeat (first | (refine Eq.trans (bif_t (by (first | (simp [g3, g4, rleOne, ho, ha0, fcs0, fcs1, fcs2]; done) | fail))) ?_) | (refine Eq.trans (bif_f (by (first | (simp [g3, g4]; done) | fail))) ?_))); simp [tick, tickA, tickB, tickC, decA, decB, decC, addD, g3, g4])
set_option maxHeartbeats 1000000 in
theorem runStep010 (n : Int) (z : D_Line) (cap : Int) (u : Unit) (b : D_Job) (bs : List D_Job) (hbs : bs.length ≤ 1048575) (out : List D_Done) (hout : out.length ≤ 1048576) (a0 : Int) (ha0 : a0 ≤ n) (rec) :
    impl_LineRun_s5 rec ((), n, z, (cap, [], b :: bs, [], u), out, a0, ()) = rec ((), n, z, (tick (cap, [], b :: bs, [], u)).1, addD out (tick (cap, [], b :: bs, [], u)).2.1 a0, IntKind.wrap .i64 (a0 + 1), ()) := by
  have ho := rb3 hout
  have fbs0 := rb0 hbs
  have fbs1 := rb1 hbs
  have fbs2 := rb2 hbs
  unfold impl_LineRun_s5
  dsimp (config := { zeta := false }) only
  by_cases g2 : IntKind.wrap .i64 (b.2.1.2.1 - 1) = 0 <;> ((repeat (first | (refine Eq.trans (bif_t (by (first | (simp [g2, rleOne, ho, ha0, fbs0, fbs1, fbs2]; done) | fail))) ?_) | (refine Eq.trans (bif_f (by (first | (simp [g2]; done) | fail))) ?_))); simp [tick, tickA, tickB, tickC, decA, decB, decC, addD, g2])
set_option maxHeartbeats 1000000 in
theorem runStep011 (n : Int) (z : D_Line) (cap : Int) (u : Unit) (b : D_Job) (bs : List D_Job) (hbs : bs.length ≤ 1048575) (c : D_Job) (cs : List D_Job) (hcs : cs.length ≤ 1048575) (out : List D_Done) (hout : out.length ≤ 1048576) (a0 : Int) (ha0 : a0 ≤ n) (rec) :
    impl_LineRun_s5 rec ((), n, z, (cap, [], b :: bs, c :: cs, u), out, a0, ()) = rec ((), n, z, (tick (cap, [], b :: bs, c :: cs, u)).1, addD out (tick (cap, [], b :: bs, c :: cs, u)).2.1 a0, IntKind.wrap .i64 (a0 + 1), ()) := by
  have ho := rb3 hout
  have fbs0 := rb0 hbs
  have fbs1 := rb1 hbs
  have fbs2 := rb2 hbs
  have fcs0 := rb0 hcs
  have fcs1 := rb1 hcs
  have fcs2 := rb2 hcs
  unfold impl_LineRun_s5
  dsimp (config := { zeta := false }) only
  by_cases g2 : IntKind.wrap .i64 (b.2.1.2.1 - 1) = 0 <;> by_cases g3 : IntKind.wrap .i64 (c.2.1.2.2.1 - 1) = 0 <;> by_cases g4 : 0 ≤ c.1 <;> ((repeat (first | (refine Eq.trans (bif_t (by (first | (simp [g2, g3, g4, rleOne, ho, ha0, fbs0, fbs1, fbs2, fcs0, fcs1, fcs2]; done) | fail))) ?_) | (refine Eq.trans (bif_f (by (first | (simp [g2, g3, g4]; done) | fail))) ?_))); simp [tick, tickA, tickB, tickC, decA, decB, decC, addD, g2, g3, g4])
set_option maxHeartbeats 1000000 in
theorem runStep100 (n : Int) (z : D_Line) (cap : Int) (u : Unit) (a1 : D_Job) (as : List D_Job) (has : as.length ≤ 1048575) (out : List D_Done) (hout : out.length ≤ 1048576) (a0 : Int) (ha0 : a0 ≤ n) (rec) :
    impl_LineRun_s5 rec ((), n, z, (cap, a1 :: as, [], [], u), out, a0, ()) = rec ((), n, z, (tick (cap, a1 :: as, [], [], u)).1, addD out (tick (cap, a1 :: as, [], [], u)).2.1 a0, IntKind.wrap .i64 (a0 + 1), ()) := by
  have ho := rb3 hout
  have fas0 := rb0 has
  have fas1 := rb1 has
  have fas2 := rb2 has
  unfold impl_LineRun_s5
  dsimp (config := { zeta := false }) only
  by_cases g1 : IntKind.wrap .i64 (a1.2.1.1 - 1) = 0 <;> ((repeat (first | (refine Eq.trans (bif_t (by (first | (simp [g1, rleOne, ho, ha0, fas0, fas1, fas2]; done) | fail))) ?_) | (refine Eq.trans (bif_f (by (first | (simp [g1]; done) | fail))) ?_))); simp [tick, tickA, tickB, tickC, decA, decB, decC, addD, g1])
set_option maxHeartbeats 1000000 in
theorem runStep101 (n : Int) (z : D_Line) (cap : Int) (u : Unit) (a1 : D_Job) (as : List D_Job) (has : as.length ≤ 1048575) (c : D_Job) (cs : List D_Job) (hcs : cs.length ≤ 1048575) (out : List D_Done) (hout : out.length ≤ 1048576) (a0 : Int) (ha0 : a0 ≤ n) (rec) :
    impl_LineRun_s5 rec ((), n, z, (cap, a1 :: as, [], c :: cs, u), out, a0, ()) = rec ((), n, z, (tick (cap, a1 :: as, [], c :: cs, u)).1, addD out (tick (cap, a1 :: as, [], c :: cs, u)).2.1 a0, IntKind.wrap .i64 (a0 + 1), ()) := by
  have ho := rb3 hout
  have fas0 := rb0 has
  have fas1 := rb1 has
  have fas2 := rb2 has
  have fcs0 := rb0 hcs
  have fcs1 := rb1 hcs
  have fcs2 := rb2 hcs
  unfold impl_LineRun_s5
  dsimp (config := { zeta := false }) only
  by_cases g1 : IntKind.wrap .i64 (a1.2.1.1 - 1) = 0 <;> by_cases g3 : IntKind.wrap .i64 (c.2.1.2.2.1 - 1) = 0 <;> by_cases g4 : 0 ≤ c.1 <;> ((repeat (first | (refine Eq.trans (bif_t (by (first | (simp [g1, g3, g4, rleOne, ho, ha0, fas0, fas1, fas2, fcs0, fcs1, fcs2]; done) | fail))) ?_) | (refine Eq.trans (bif_f (by (first | (simp [g1, g3, g4]; done) | fail))) ?_))); simp [tick, tickA, tickB, tickC, decA, decB, decC, addD, g1, g3, g4])
set_option maxHeartbeats 1000000 in
theorem runStep110 (n : Int) (z : D_Line) (cap : Int) (u : Unit) (a1 : D_Job) (as : List D_Job) (has : as.length ≤ 1048575) (b : D_Job) (bs : List D_Job) (hbs : bs.length ≤ 1048575) (out : List D_Done) (hout : out.length ≤ 1048576) (a0 : Int) (ha0 : a0 ≤ n) (rec) :
    impl_LineRun_s5 rec ((), n, z, (cap, a1 :: as, b :: bs, [], u), out, a0, ()) = rec ((), n, z, (tick (cap, a1 :: as, b :: bs, [], u)).1, addD out (tick (cap, a1 :: as, b :: bs, [], u)).2.1 a0, IntKind.wrap .i64 (a0 + 1), ()) := by
  have ho := rb3 hout
  have fas0 := rb0 has
  have fas1 := rb1 has
  have fas2 := rb2 has
  have fbs0 := rb0 hbs
  have fbs1 := rb1 hbs
  have fbs2 := rb2 hbs
  unfold impl_LineRun_s5
  dsimp (config := { zeta := false }) only
  by_cases g1 : IntKind.wrap .i64 (a1.2.1.1 - 1) = 0 <;> by_cases g2 : IntKind.wrap .i64 (b.2.1.2.1 - 1) = 0 <;> ((repeat (first | (refine Eq.trans (bif_t (by (first | (simp [g1, g2, rleOne, ho, ha0, fas0, fas1, fas2, fbs0, fbs1, fbs2]; done) | fail))) ?_) | (refine Eq.trans (bif_f (by (first | (simp [g1, g2]; done) | fail))) ?_))); simp [tick, tickA, tickB, tickC, decA, decB, decC, addD, g1, g2])
set_option maxHeartbeats 1000000 in
theorem runStep111 (n : Int) (z : D_Line) (cap : Int) (u : Unit) (a1 : D_Job) (as : List D_Job) (has : as.length ≤ 1048575) (b : D_Job) (bs : List D_Job) (hbs : bs.length ≤ 1048575) (c : D_Job) (cs : List D_Job) (hcs : cs.length ≤ 1048575) (out : List D_Done) (hout : out.length ≤ 1048576) (a0 : Int) (ha0 : a0 ≤ n) (rec) :
    impl_LineRun_s5 rec ((), n, z, (cap, a1 :: as, b :: bs, c :: cs, u), out, a0, ()) = rec ((), n, z, (tick (cap, a1 :: as, b :: bs, c :: cs, u)).1, addD out (tick (cap, a1 :: as, b :: bs, c :: cs, u)).2.1 a0, IntKind.wrap .i64 (a0 + 1), ()) := by
  have ho := rb3 hout
  have fas0 := rb0 has
  have fas1 := rb1 has
  have fas2 := rb2 has
  have fbs0 := rb0 hbs
  have fbs1 := rb1 hbs
  have fbs2 := rb2 hbs
  have fcs0 := rb0 hcs
  have fcs1 := rb1 hcs
  have fcs2 := rb2 hcs
  unfold impl_LineRun_s5
  dsimp (config := { zeta := false }) only
  by_cases g1 : IntKind.wrap .i64 (a1.2.1.1 - 1) = 0 <;> by_cases g2 : IntKind.wrap .i64 (b.2.1.2.1 - 1) = 0 <;> by_cases g3 : IntKind.wrap .i64 (c.2.1.2.2.1 - 1) = 0 <;> by_cases g4 : 0 ≤ c.1 <;> ((repeat (first | (refine Eq.trans (bif_t (by (first | (simp [g1, g2, g3, g4, rleOne, ho, ha0, fas0, fas1, fas2, fbs0, fbs1, fbs2, fcs0, fcs1, fcs2]; done) | fail))) ?_) | (refine Eq.trans (bif_f (by (first | (simp [g1, g2, g3, g4]; done) | fail))) ?_))); simp [tick, tickA, tickB, tickC, decA, decB, decC, addD, g1, g2, g3, g4])
theorem implRun_step (n : Int) (z x : D_Line) (h : fits x) (out : List D_Done) (hout : out.length ≤ 1048576) (a : Int) (ha0 : a ≤ n) (rec) :
    impl_LineRun_s5 rec ((), n, z, x, out, a, ()) = rec ((), n, z, (tick x).1, addD out (tick x).2.1 a, IntKind.wrap .i64 (a + 1), ()) := by
  obtain ⟨cap, A, B, C, u⟩ := x
  obtain ⟨h1, h2, h3⟩ := h
  have e : ∀ (x : D_Job) (l : List D_Job), (x :: l).length ≤ 1048576 → l.length ≤ 1048575 := fun x l h => by simp at h; omega
  cases A with
  | nil => cases B with
    | nil => cases C with
      | nil => exact runStep000 n z cap u out hout a ha0 rec
      | cons c cs => exact runStep001 n z cap u c cs (e c cs h3) out hout a ha0 rec
    | cons b bs => cases C with
      | nil => exact runStep010 n z cap u b bs (e b bs h2) out hout a ha0 rec
      | cons c cs => exact runStep011 n z cap u b bs (e b bs h2) c cs (e c cs h3) out hout a ha0 rec
  | cons a1 as => cases B with
    | nil => cases C with
      | nil => exact runStep100 n z cap u a1 as (e a1 as h1) out hout a ha0 rec
      | cons c cs => exact runStep101 n z cap u a1 as (e a1 as h1) c cs (e c cs h3) out hout a ha0 rec
    | cons b bs => cases C with
      | nil => exact runStep110 n z cap u a1 as (e a1 as h1) b bs (e b bs h2) out hout a ha0 rec
      | cons c cs => exact runStep111 n z cap u a1 as (e a1 as h1) b bs (e b bs h2) c cs (e c cs h3) out hout a ha0 rec
end Go.Tw
