/- Plain facts on the mirrors of the functions are proved here. -/
import Derived.Test.YtmjacadeccoclaaPl3
set_option linter.all false
namespace Go.Tw
open Go Go.RowKit
theorem implTick_eq (k : Nat) (hk : MM < k) (x : D_Line) (h : fits x) : impl_LineTick k x = bif lineI x then some (tick x, ()) else some ((z_Line, (-1 : Int), ()), ()) := by
  unfold impl_LineTick
  rw [implOk_eq k hk x h, Option.bind_some]
  cases lineI x with
  | false => rfl
  | true =>
  refine Eq.trans (bif_f (by rfl)) ?_
  rw [copy_eq x ⟨by have := h.1; omega, by have := h.2.1; omega, by have := h.2.2; omega⟩, Option.bind_some, cond_true]
  obtain ⟨cap, A, B, C, u⟩ := x
  obtain ⟨h1, h2, h3⟩ := h
  cases A with
  | nil =>
    cases B with
    | nil =>
      cases C with
      | nil =>
        ((repeat (first | (refine Eq.trans (bif_t (by (first | rfl | (simp; done) | (simp [*]; done) | (simp; omega)))) ?_) | (refine Eq.trans (bif_f (by (first | rfl | (simp; done) | (simp [*]; done) | (simp; omega)))) ?_))); rw [copy_eq _ ⟨by simp; try omega, by simp; try omega, by simp; try omega⟩]; simp [tick, tickA, tickB, tickC, decA, decB, decC])
      | cons c cs =>
        have hc : cs.length ≤ 1048575 := by simp at h3; omega
        by_cases g3 : IntKind.wrap .i64 (c.2.1.2.2.1 - 1) = 0 <;> ((repeat (first | (refine Eq.trans (bif_t (by (first | rfl | (simp; done) | (simp [*]; done) | (simp; omega)))) ?_) | (refine Eq.trans (bif_f (by (first | rfl | (simp; done) | (simp [*]; done) | (simp; omega)))) ?_))); rw [copy_eq _ ⟨by simp; try omega, by simp; try omega, by simp; try omega⟩]; simp [tick, tickA, tickB, tickC, decA, decB, decC, g3])
    | cons b bs =>
      have hb : bs.length ≤ 1048575 := by simp at h2; omega
      cases C with
      | nil =>
        by_cases g2 : IntKind.wrap .i64 (b.2.1.2.1 - 1) = 0 <;> ((repeat (first | (refine Eq.trans (bif_t (by (first | rfl | (simp; done) | (simp [*]; done) | (simp; omega)))) ?_) | (refine Eq.trans (bif_f (by (first | rfl | (simp; done) | (simp [*]; done) | (simp; omega)))) ?_))); rw [copy_eq _ ⟨by simp; try omega, by simp; try omega, by simp; try omega⟩]; simp [tick, tickA, tickB, tickC, decA, decB, decC, g2])
      | cons c cs =>
        have hc : cs.length ≤ 1048575 := by simp at h3; omega
        by_cases g2 : IntKind.wrap .i64 (b.2.1.2.1 - 1) = 0 <;> by_cases g3 : IntKind.wrap .i64 (c.2.1.2.2.1 - 1) = 0 <;> ((repeat (first | (refine Eq.trans (bif_t (by (first | rfl | (simp; done) | (simp [*]; done) | (simp; omega)))) ?_) | (refine Eq.trans (bif_f (by (first | rfl | (simp; done) | (simp [*]; done) | (simp; omega)))) ?_))); rw [copy_eq _ ⟨by simp; try omega, by simp; try omega, by simp; try omega⟩]; simp [tick, tickA, tickB, tickC, decA, decB, decC, g2, g3])
  | cons a as =>
    have ha : as.length ≤ 1048575 := by simp at h1; omega
    cases B with
    | nil =>
      cases C with
      | nil =>
        by_cases g1 : IntKind.wrap .i64 (a.2.1.1 - 1) = 0 <;> ((repeat (first | (refine Eq.trans (bif_t (by (first | rfl | (simp; done) | (simp [*]; done) | (simp; omega)))) ?_) | (refine Eq.trans (bif_f (by (first | rfl | (simp; done) | (simp [*]; done) | (simp; omega)))) ?_))); rw [copy_eq _ ⟨by simp; try omega, by simp; try omega, by simp; try omega⟩]; simp [tick, tickA, tickB, tickC, decA, decB, decC, g1])
      | cons c cs =>
        have hc : cs.length ≤ 1048575 := by simp at h3; omega
        by_cases g1 : IntKind.wrap .i64 (a.2.1.1 - 1) = 0 <;> by_cases g3 : IntKind.wrap .i64 (c.2.1.2.2.1 - 1) = 0 <;> ((repeat (first | (refine Eq.trans (bif_t (by (first | rfl | (simp; done) | (simp [*]; done) | (simp; omega)))) ?_) | (refine Eq.trans (bif_f (by (first | rfl | (simp; done) | (simp [*]; done) | (simp; omega)))) ?_))); rw [copy_eq _ ⟨by simp; try omega, by simp; try omega, by simp; try omega⟩]; simp [tick, tickA, tickB, tickC, decA, decB, decC, g1, g3])
    | cons b bs =>
      have hb : bs.length ≤ 1048575 := by simp at h2; omega
      cases C with
      | nil =>
        by_cases g1 : IntKind.wrap .i64 (a.2.1.1 - 1) = 0 <;> by_cases g2 : IntKind.wrap .i64 (b.2.1.2.1 - 1) = 0 <;> ((repeat (first | (refine Eq.trans (bif_t (by (first | rfl | (simp; done) | (simp [*]; done) | (simp; omega)))) ?_) | (refine Eq.trans (bif_f (by (first | rfl | (simp; done) | (simp [*]; done) | (simp; omega)))) ?_))); rw [copy_eq _ ⟨by simp; try omega, by simp; try omega, by simp; try omega⟩]; simp [tick, tickA, tickB, tickC, decA, decB, decC, g1, g2])
      | cons c cs =>
        have hc : cs.length ≤ 1048575 := by simp at h3; omega
        by_cases g1 : IntKind.wrap .i64 (a.2.1.1 - 1) = 0 <;> by_cases g2 : IntKind.wrap .i64 (b.2.1.2.1 - 1) = 0 <;> by_cases g3 : IntKind.wrap .i64 (c.2.1.2.2.1 - 1) = 0 <;> ((repeat (first | (refine Eq.trans (bif_t (by (first | rfl | (simp; done) | (simp [*]; done) | (simp; omega)))) ?_) | (refine Eq.trans (bif_f (by (first | rfl | (simp; done) | (simp [*]; done) | (simp; omega)))) ?_))); rw [copy_eq _ ⟨by simp; try omega, by simp; try omega, by simp; try omega⟩]; simp [tick, tickA, tickB, tickC, decA, decB, decC, g1, g2, g3])
end Go.Tw
