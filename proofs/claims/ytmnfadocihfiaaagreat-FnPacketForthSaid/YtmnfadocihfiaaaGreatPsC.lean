/- Facts on mirrors. -/
import Derived.Test.YtmnfadocihfiaaaGreatPsB
import Derived.Test.YtmnfadocihfiaaaGreatPx1
set_option linter.all false
set_option maxRecDepth 100000
set_option maxHeartbeats 4000000
namespace Go.Tw
open Go Go.RowKit
section
variable {b : Int} {c : D_l01Cur}
theorem kind_t (h : CP b c) (hb : b + 100 ≤ BB) : Tot (fun _ => True) (b + 100) (spec_l01Cur_kind c) := by
  unfold spec_l01Cur_kind
  repeat' first
    | exact tEnd (by assumption) (by omega) (by first | trivial | assumption)
    | refine tT (by simp only [Bool.and_eq_true, decide_eq_true_eq]; omega) ?_
    | (refine tAny (by assumption) (by omega) (by omega) (fun _ _ _ _ _ => ?_); dsimp only)
    | (refine tWide (by assumption) (by omega) (by omega) (fun _ _ _ _ _ => ?_); dsimp only)
    | (refine tOnce (by assumption) (by omega) (by omega) (fun _ _ _ => ?_); dsimp only)
    | refine tIf ?_ ?_
theorem ether_t (h : CP b c) (hb : b + 100 ≤ BB) : Tot (fun _ => True) (b + 100) (spec_l01Cur_ether c) := by
  unfold spec_l01Cur_ether
  repeat' first
    | exact tEnd (by assumption) (by omega) (by first | trivial | assumption)
    | refine tT (by simp only [Bool.and_eq_true, decide_eq_true_eq]; omega) ?_
    | (refine tAny (by assumption) (by omega) (by omega) (fun _ _ _ _ _ => ?_); dsimp only)
    | (refine tWide (by assumption) (by omega) (by omega) (fun _ _ _ _ _ => ?_); dsimp only)
    | (refine tOnce (by assumption) (by omega) (by omega) (fun _ _ _ => ?_); dsimp only)
    | refine tIf ?_ ?_
theorem addr_t (n : Int) (h : CP b c) (hb : b + 100 ≤ BB) : Tot (fun _ => True) (b + 100) (spec_l01Cur_addr c n) := by
  unfold spec_l01Cur_addr
  repeat' first
    | exact tEnd (by assumption) (by omega) (by first | trivial | assumption)
    | refine tT (by simp only [Bool.and_eq_true, decide_eq_true_eq]; omega) ?_
    | (refine tAny (by assumption) (by omega) (by omega) (fun _ _ _ _ _ => ?_); dsimp only)
    | (refine tWide (by assumption) (by omega) (by omega) (fun _ _ _ _ _ => ?_); dsimp only)
    | (refine tOnce (by assumption) (by omega) (by omega) (fun _ _ _ => ?_); dsimp only)
    | refine tIf ?_ ?_
end
end Go.Tw
