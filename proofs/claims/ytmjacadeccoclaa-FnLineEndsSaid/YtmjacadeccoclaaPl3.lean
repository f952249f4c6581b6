/- Plain facts on the mirrors of the functions are proved here. -/
import Derived.Test.YtmjacadeccoclaaPl2
set_option linter.all false
namespace Go.Tw
open Go Go.RowKit

def decC (e : D_Job) : D_Job := (e.1, (e.2.1.1, e.2.1.2.1, IntKind.wrap .i64 (e.2.1.2.2.1 - 1), ()), ())
def decB (e : D_Job) : D_Job := (e.1, (e.2.1.1, IntKind.wrap .i64 (e.2.1.2.1 - 1), e.2.1.2.2), ())
def decA (e : D_Job) : D_Job := (e.1, (IntKind.wrap .i64 (e.2.1.1 - 1), e.2.1.2), ())
def tickC : List D_Job → List D_Job × Int
  | [] => ([], -1)
  | e :: l => bif decide (IntKind.wrap .i64 (e.2.1.2.2.1 - 1) = 0) then (l, e.1) else (decC e :: l, -1)
def tickB : List D_Job → List D_Job × List D_Job
  | [] => ([], [])
  | e :: l => bif decide (IntKind.wrap .i64 (e.2.1.2.1 - 1) = 0) then (l, [decB e]) else (decB e :: l, [])
def tickA : List D_Job → List D_Job × List D_Job
  | [] => ([], [])
  | e :: l => bif decide (IntKind.wrap .i64 (e.2.1.1 - 1) = 0) then (l, [decA e]) else (decA e :: l, [])
def tick (x : D_Line) : D_Line × Int × Unit :=
  ((x.1, (tickA x.2.1).1, (tickB x.2.2.1).1 ++ (tickA x.2.1).2, (tickC x.2.2.2.1).1 ++ (tickB x.2.2.1).2, ()), (tickC x.2.2.2.1).2, ())
theorem specCopy_eq (x : D_Line) (h : fits x) : spec_l21Copy x = some ((x, ()), ()) := by
  obtain ⟨h1, h2, h3⟩ := h
  unfold spec_l21Copy
  rw [bif_t (by simp; omega), bif_t (by simp; omega), bif_t (by simp; omega)]
theorem clone_eq (l : List D_Job) (h : l.length ≤ 1048577) : slices_Clone_impl_Job_impl_Job l = some ((l, ()), ()) := by
  unfold slices_Clone_impl_Job_impl_Job
  rw [bif_t (by simp; omega)]
theorem copy_eq (x : D_Line) (h : x.2.1.length ≤ 1048577 ∧ x.2.2.1.length ≤ 1048577 ∧ x.2.2.2.1.length ≤ 1048577) : impl_copyLine x = some ((x, ()), ()) := by
  obtain ⟨h1, h2, h3⟩ := h
  unfold impl_copyLine
  simp only [clone_eq _ h1, clone_eq _ h2, clone_eq _ h3, Option.bind_some]
theorem specTick_eq (x : D_Line) (h : fits x) : spec_l21Tick x = some (tick x, ()) := by
  unfold spec_l21Tick
  rw [specCopy_eq x h, Option.bind_some]
  obtain ⟨cap, A, B, C, u⟩ := x
  obtain ⟨h1, h2, h3⟩ := h
  cases A with
  | nil =>
    cases B with
    | nil =>
      cases C with
      | nil =>
        ((repeat (first | (refine Eq.trans (bif_t (by (first | rfl | (simp; done) | (simp [*]; done) | (simp; omega)))) ?_) | (refine Eq.trans (bif_f (by (first | rfl | (simp; done) | (simp [*]; done) | (simp; omega)))) ?_))); simp [tick, tickA, tickB, tickC, decA, decB, decC])
      | cons c cs =>
        have hc : cs.length ≤ 1048576 := by simp at h3; omega
        by_cases g3 : IntKind.wrap .i64 (c.2.1.2.2.1 - 1) = 0 <;> ((repeat (first | (refine Eq.trans (bif_t (by (first | rfl | (simp; done) | (simp [*]; done) | (simp; omega)))) ?_) | (refine Eq.trans (bif_f (by (first | rfl | (simp; done) | (simp [*]; done) | (simp; omega)))) ?_))); simp [tick, tickA, tickB, tickC, decA, decB, decC, g3])
    | cons b bs =>
      have hb : bs.length ≤ 1048576 := by simp at h2; omega
      cases C with
      | nil =>
        by_cases g2 : IntKind.wrap .i64 (b.2.1.2.1 - 1) = 0 <;> ((repeat (first | (refine Eq.trans (bif_t (by (first | rfl | (simp; done) | (simp [*]; done) | (simp; omega)))) ?_) | (refine Eq.trans (bif_f (by (first | rfl | (simp; done) | (simp [*]; done) | (simp; omega)))) ?_))); simp [tick, tickA, tickB, tickC, decA, decB, decC, g2])
      | cons c cs =>
        have hc : cs.length ≤ 1048576 := by simp at h3; omega
        by_cases g2 : IntKind.wrap .i64 (b.2.1.2.1 - 1) = 0 <;> by_cases g3 : IntKind.wrap .i64 (c.2.1.2.2.1 - 1) = 0 <;> ((repeat (first | (refine Eq.trans (bif_t (by (first | rfl | (simp; done) | (simp [*]; done) | (simp; omega)))) ?_) | (refine Eq.trans (bif_f (by (first | rfl | (simp; done) | (simp [*]; done) | (simp; omega)))) ?_))); simp [tick, tickA, tickB, tickC, decA, decB, decC, g2, g3])
  | cons a as =>
    have ha : as.length ≤ 1048576 := by simp at h1; omega
    cases B with
    | nil =>
      cases C with
      | nil =>
        by_cases g1 : IntKind.wrap .i64 (a.2.1.1 - 1) = 0 <;> ((repeat (first | (refine Eq.trans (bif_t (by (first | rfl | (simp; done) | (simp [*]; done) | (simp; omega)))) ?_) | (refine Eq.trans (bif_f (by (first | rfl | (simp; done) | (simp [*]; done) | (simp; omega)))) ?_))); simp [tick, tickA, tickB, tickC, decA, decB, decC, g1])
      | cons c cs =>
        have hc : cs.length ≤ 1048576 := by simp at h3; omega
        by_cases g1 : IntKind.wrap .i64 (a.2.1.1 - 1) = 0 <;> by_cases g3 : IntKind.wrap .i64 (c.2.1.2.2.1 - 1) = 0 <;> ((repeat (first | (refine Eq.trans (bif_t (by (first | rfl | (simp; done) | (simp [*]; done) | (simp; omega)))) ?_) | (refine Eq.trans (bif_f (by (first | rfl | (simp; done) | (simp [*]; done) | (simp; omega)))) ?_))); simp [tick, tickA, tickB, tickC, decA, decB, decC, g1, g3])
    | cons b bs =>
      have hb : bs.length ≤ 1048576 := by simp at h2; omega
      cases C with
      | nil =>
        by_cases g1 : IntKind.wrap .i64 (a.2.1.1 - 1) = 0 <;> by_cases g2 : IntKind.wrap .i64 (b.2.1.2.1 - 1) = 0 <;> ((repeat (first | (refine Eq.trans (bif_t (by (first | rfl | (simp; done) | (simp [*]; done) | (simp; omega)))) ?_) | (refine Eq.trans (bif_f (by (first | rfl | (simp; done) | (simp [*]; done) | (simp; omega)))) ?_))); simp [tick, tickA, tickB, tickC, decA, decB, decC, g1, g2])
      | cons c cs =>
        have hc : cs.length ≤ 1048576 := by simp at h3; omega
        by_cases g1 : IntKind.wrap .i64 (a.2.1.1 - 1) = 0 <;> by_cases g2 : IntKind.wrap .i64 (b.2.1.2.1 - 1) = 0 <;> by_cases g3 : IntKind.wrap .i64 (c.2.1.2.2.1 - 1) = 0 <;> ((repeat (first | (refine Eq.trans (bif_t (by (first | rfl | (simp; done) | (simp [*]; done) | (simp; omega)))) ?_) | (refine Eq.trans (bif_f (by (first | rfl | (simp; done) | (simp [*]; done) | (simp; omega)))) ?_))); simp [tick, tickA, tickB, tickC, decA, decB, decC, g1, g2, g3])
end Go.Tw
