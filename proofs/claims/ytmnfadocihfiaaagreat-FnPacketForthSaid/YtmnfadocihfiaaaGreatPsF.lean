/- Facts on mirrors. -/
import Derived.Test.YtmnfadocihfiaaaGreatPsE
set_option linter.all false
set_option maxRecDepth 100000
set_option maxHeartbeats 8000000
namespace Go.Tw
open Go Go.RowKit
def pktQ (P : D_Packet) : Prop := byN 1000 (fO P.2.2.1) ∧ sixG P.2.2.2.1 ∧ upG P.2.2.2.2.1 ∧ byN 100 P.2.2.2.2.2.1
section
variable {b : Int} {c : D_l01Cur} {k : Nat}
theorem packet_t (hk : MM < k) (h : CP b c) (hb : b + 20000 ≤ BB) : Tot pktQ (b + 20000) (spec_l01Cur_packet k c) := by
  unfold spec_l01Cur_packet spec_l01Cur_packet_j1 spec_l01Cur_packet_j2 spec_l01Cur_packet_j0
  have upZ : ∀ {l : List Int}, byN 30 l → upG (0, 0, 0, 0, 0, 0, 0, 0, 0, 0, 0, false, [], l, ()) := fun hl => ⟨byN_nil _, hl.up (by decide)⟩
  repeat' first
    | exact tEnd (by assumption) (by omega) ⟨by first | assumption | exact byN_nil _, by first | assumption | exact sixG_nil rfl, by first | assumption | exact upZ (by assumption), by first | exact byN_nil _ | exact byN.up (by assumption) (by decide)⟩
    | refine tT (by simp only [Bool.and_eq_true, decide_eq_true_eq]; omega) ?_
    | (refine tCall (kind_t (by assumption) (by omega)) (fun _ _ _ _ => ?_); dsimp only)
    | (refine tCall (ether_t (by assumption) (by omega)) (fun _ _ _ _ => ?_); dsimp only)
    | (refine tCall (upper_t hk _ _ (by assumption) (by omega)) (fun _ _ _ _ => ?_); dsimp only)
    | (refine tCall (four_t hk (by assumption) (by omega)) (fun _ _ _ _ => ?_); dsimp only)
    | (refine tCall (six_t hk (by assumption) (by omega)) (fun _ _ _ _ => ?_); dsimp only)
    | (refine tCall (tBytes hk 30 rfl (by assumption) (by omega) (by omega)) (fun _ _ _ _ => ?_); dsimp only)
    | (refine tCall (tBytes hk 12 rfl (by assumption) (by omega) (by omega)) (fun _ _ _ _ => ?_); dsimp only)
    | (refine tAny (by assumption) (by omega) (by omega) (fun _ _ _ _ _ => ?_); dsimp only)
    | (refine tOnce (by assumption) (by omega) (by omega) (fun _ _ _ => ?_); dsimp only)
    | refine tIf ?_ ?_
end
end Go.Tw
