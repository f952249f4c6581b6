/- Plain facts on the mirrors of the functions are proved here. -/
import Derived.Test.YtaigepmndpefgaaDoorPe0
import Derived.Test.YtaigepmndpefgaaDoorPsh
import Derived.Lib.AppendIntMem
import Derived.Test.YtaigepmndpefgaaDoorRows
set_option linter.all false
namespace Go.Tw
open Go Go.RowKit Go.Proofs

theorem tab_glob : Tryd.prog.globalNamed "internal/strconv.uint64pow10" = some 1 := by kernel_rfl
instance tabG : Grd where
  G := [1]
  J := fun w => Lib.TabIs Tryd.prog w "internal/strconv.uint64pow10" .u64 Lib.pow10Tab
  st := fun w w' h H => tab_same tab_glob (h 1 (by simp)) H
theorem itoa_ok : ConOk Tryd.prog ⟨56, [(.int .i64, false)], [.str], .own true, itoaM⟩ := by
  refine ext_str (by kernel_rfl) (by rfl) fun w imm vals x y hi hj harg hy => ?_
  obtain ⟨us, vs', L1, L2, rfl, _, h1, _, h3, h4⟩ := harg
  subst h3
  obtain ⟨rfl, _⟩ := (h1 rfl).1
  unfold itoaM at hy
  obtain ⟨hb, hy⟩ := cond_some.1 hy
  have hb1 := of_decide_eq_true (Bool.and_eq_true_iff.1 hb).1
  have hb2 := of_decide_eq_true (Bool.and_eq_true_iff.1 hb).2
  cases hy
  refine (Tryd.strconv_Itoa x.1 hb1 hb2 w hj).mono ?_
  rintro e w' ⟨rfl, k, os, rfl⟩
  exact ⟨rfl, Lib.below_grow _ w (Nat.le_refl _) k os⟩
end Go.Tw
