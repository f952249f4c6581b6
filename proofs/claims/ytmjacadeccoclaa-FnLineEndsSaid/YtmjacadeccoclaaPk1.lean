/- Plain facts on the mirrors of the functions are proved here. -/
import Derived.Test.YtmjacadeccoclaaMc
import Derived.Test.YtmjacadeccoclaaPk0
set_option linter.all false
namespace Go.Tw
open Go Go.RowKit

def markJ (m : Int) : D_Job := (m, (m + 1, m + 1 + 1, m + 1 + 1 + 1, ()), ())
theorem markJob_eq (k : Nat) (hk : MM < k) (L : List D_Job) (hL : L.length ≤ 1048576) (m : Int) (h0 : 0 ≤ m) (hm : m + ((4 * L.length : Nat) : Int) ≤ 1099511627776) :
    laws_markJobS k L m = some ((m + ((4 * L.length : Nat) : Int), ()), (markF markJ 4 L.length m, ())) := by
  unfold laws_markJobS
  have run := mark_run (step := laws_markJobS_s2) (E := markJ) (c := 4) z_Job (fun L m i rec hi hl g0 g1 => by
      have e1 : IntKind.wrap .i64 (m + 1) = m + 1 := w64 (by omega)
      have e2 : IntKind.wrap .i64 (m + 1 + 1) = m + 1 + 1 := w64 (by omega)
      have e3 : IntKind.wrap .i64 (m + 1 + 1 + 1) = m + 1 + 1 + 1 := w64 (by omega)
      have e4 : IntKind.wrap .i64 (m + 1 + 1 + 1 + 1) = m + ((4 : Nat) : Int) := by rw [w64 (by omega)]; omega
      have ei : IntKind.wrap .i64 ((i : Int) + 1) = ((i + 1 : Nat) : Int) := w64 (by omega)
      unfold laws_markJobS_s2
      simp only [e1, e2, e3, e4, ei]
      repeat (refine Eq.trans (bif_t (by simp; omega)) ?_)
      simp only [Int.toNat_natCast]
      repeat (rw [set_getD _ _ _ _ (by first | omega | (simp; omega))])
      simp only [List.set_set]
      rfl) (fun L m rec => by
      unfold laws_markJobS_s2
      rw [bif_f (by simp)]) hk hL h0 hm
  rw [run]; rfl
theorem heldJob_eq (k : Nat) (hk : MM < k) (n : Nat) (hn : n ≤ 1048576) (m : Int) (h0 : 0 ≤ m) (hm : m + ((4 * n : Nat) : Int) ≤ 1099511627776) :
    laws_heldJobS k (markF markJ 4 n m) m = some ((m + ((4 * n : Nat) : Int), ()), ()) := by
  unfold laws_heldJobS
  have run := held_run (step := laws_heldJobS_s2) (E := markJ) (c := 4) z_Job (fun L m i rec hi hl g0 g1 he => by
      have e1 : IntKind.wrap .i64 (m + 1) = m + 1 := w64 (by omega)
      have e2 : IntKind.wrap .i64 (m + 1 + 1) = m + 1 + 1 := w64 (by omega)
      have e3 : IntKind.wrap .i64 (m + 1 + 1 + 1) = m + 1 + 1 + 1 := w64 (by omega)
      have e4 : IntKind.wrap .i64 (m + 1 + 1 + 1 + 1) = m + ((4 : Nat) : Int) := by rw [w64 (by omega)]; omega
      have ei : IntKind.wrap .i64 ((i : Int) + 1) = ((i + 1 : Nat) : Int) := w64 (by omega)
      unfold laws_heldJobS_s2
      simp only [e1, e2, e3, e4, ei]
      have he' : L.getD (i : Int).toNat z_Job = markJ m := he
      rw [he']
      unfold markJ
      repeat (first | (refine Eq.trans (bif_t (by simp; omega)) ?_) | (refine Eq.trans (bif_f (by simp)) ?_))
      rfl) (fun L m rec => by
      unfold laws_heldJobS_s2
      rw [bif_f (by simp)]) hk hn h0 hm
  rw [run]; rfl
end Go.Tw
