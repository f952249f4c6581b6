/- Facts on mirrors. -/
import Derived.Test.YtmnfadocihfiaaaGreatPsC
set_option linter.all false
set_option maxRecDepth 100000
set_option maxHeartbeats 4000000
namespace Go.Tw
open Go Go.RowKit
theorem byN_nil (n : Nat) : byN n [] := ⟨fun x hx => (List.not_mem_nil hx).elim, Nat.zero_le _⟩
theorem byN.up {n m : Nat} {l : List Int} (h : byN n l) (hm : n ≤ m) : byN m l := ⟨h.1, Nat.le_trans h.2 hm⟩
theorem set_by {l : List Int} (h : ∀ b ∈ l, 0 ≤ b ∧ b ≤ 255) (i : Nat) (x : Int) : ∀ b ∈ l.set i (x % 256), 0 ≤ b ∧ b ≤ 255 := fun b hb => by
  rcases List.mem_or_eq_of_mem_set hb with hb | hb
  · exact h b hb
  · omega
theorem w4x {x : Int} (h0 : 0 ≤ x) (h1 : x < 11) : IntKind.wrap .i64 (4 * x) = 4 * x := w64 (by omega)
theorem rep_c {x : Int} (h0 : 0 ≤ x) (h1 : x < 11) : ((decide (0 ≤ IntKind.wrap .i64 (4 * x)) && decide (IntKind.wrap .i64 (4 * x) ≤ IntKind.wrap .i64 (4 * x))) && decide (1 * IntKind.wrap .i64 (4 * x) ≤ 1099511627776)) = true := by
  rw [w4x h0 h1]
  simp only [Bool.and_eq_true, decide_eq_true_eq]; omega
theorem rep_by (n : Nat) (h : n ≤ 100) : byN 100 (List.replicate n (0 : Int)) := ⟨fun b hb => by rw [List.eq_of_mem_replicate hb]; omega, by rw [List.length_replicate]; exact h⟩
theorem rep_b {x : Int} (h0 : 0 ≤ x) (h1 : x < 11) : byN 100 (List.replicate (IntKind.wrap .i64 (4 * x)).toNat (0 : Int)) := by
  rw [w4x h0 h1]; exact rep_by _ (by omega)
theorem four9_run (z : D_Four) : ∀ (m i : Nat) (F : D_Four) (c : D_l01Cur) (b : Int) (k : Nat), i + m = (fO F).length → m < k → CP b c → b + (m : Int) ≤ BB → byN 1000 (fO F) →
    ∃ F' c', iter spec_l01Cur_four_s9 k ((c, ()), (), z, F, (i : Int), ()) = some ((c', ()), z, F', ()) ∧ CP (b + (m : Int)) c' ∧ byN 1000 (fO F') ∧ (fO F').length = (fO F).length
  | m, i, F, c, b, 0, _, h, _, _, _ => by omega
  | 0, i, F, c, b, k + 1, hi, h, hc, hb, hF => by
    rw [iter_succ]
    refine ⟨F, c, ?_, hc.up (by omega), hF, rfl⟩
    unfold spec_l01Cur_four_s9
    exact bif_f (decide_eq_false (by have : i + 0 = F.2.2.2.2.2.2.2.2.2.1.length := hi; dsimp only; omega))
  | m + 1, i, F, c, b, k + 1, hi, h, hc, hb, hF => by
    obtain ⟨x, c1, e1, h1, h2⟩ := pick_ok 256 (by omega) hc (by omega)
    have hi' : i + (m + 1) = F.2.2.2.2.2.2.2.2.2.1.length := hi
    have hl' : F.2.2.2.2.2.2.2.2.2.1.length ≤ 1000 := hF.2
    rw [iter_succ]
    have st : ∀ rec, spec_l01Cur_four_s9 rec ((c, ()), (), z, F, (i : Int), ()) = rec ((c1, ()), (), z, (F.1, F.2.1, F.2.2.1, F.2.2.2.1, F.2.2.2.2.1, F.2.2.2.2.2.1, F.2.2.2.2.2.2.1, F.2.2.2.2.2.2.2.1, F.2.2.2.2.2.2.2.2.1, F.2.2.2.2.2.2.2.2.2.1.set i (x % 256), F.2.2.2.2.2.2.2.2.2.2), ((i + 1 : Nat) : Int), ()) := fun rec => by
      unfold spec_l01Cur_four_s9
      have w : IntKind.wrap .i64 ((i : Int) + 1) = ((i + 1 : Nat) : Int) := w64 (by omega)
      refine (bif_t (decide_eq_true (by dsimp only; omega))).trans ?_
      show (spec_l01Cur_pick c 256).bind _ = _
      rw [e1]
      simp only [Option.bind_some]
      rw [bif_t (by simp only [Bool.and_eq_true, decide_eq_true_eq]; omega), bif_t (by simp only [decide_eq_true_eq]; omega), w, wu8]
      rfl
    rw [st]
    have hl2 : (F.2.2.2.2.2.2.2.2.2.1.set i (x % 256)).length = F.2.2.2.2.2.2.2.2.2.1.length := List.length_set
    obtain ⟨F', c', e, q1, q2, q3⟩ := four9_run z m (i + 1) (F.1, F.2.1, F.2.2.1, F.2.2.2.1, F.2.2.2.2.1, F.2.2.2.2.2.1, F.2.2.2.2.2.2.1, F.2.2.2.2.2.2.2.1, F.2.2.2.2.2.2.2.2.1, F.2.2.2.2.2.2.2.2.2.1.set i (x % 256), F.2.2.2.2.2.2.2.2.2.2) c1 (b + 1) k (by rw [show fO (F.1, F.2.1, F.2.2.1, F.2.2.2.1, F.2.2.2.2.1, F.2.2.2.2.2.1, F.2.2.2.2.2.2.1, F.2.2.2.2.2.2.2.1, F.2.2.2.2.2.2.2.2.1, F.2.2.2.2.2.2.2.2.2.1.set i (x % 256), F.2.2.2.2.2.2.2.2.2.2) = F.2.2.2.2.2.2.2.2.2.1.set i (x % 256) from rfl, hl2]; omega) (by omega) h1 (by omega) ⟨set_by hF.1 i x, by rw [show fO (F.1, F.2.1, F.2.2.1, F.2.2.2.1, F.2.2.2.2.1, F.2.2.2.2.2.1, F.2.2.2.2.2.2.1, F.2.2.2.2.2.2.2.1, F.2.2.2.2.2.2.2.2.1, F.2.2.2.2.2.2.2.2.2.1.set i (x % 256), F.2.2.2.2.2.2.2.2.2.2) = F.2.2.2.2.2.2.2.2.2.1.set i (x % 256) from rfl, hl2]; exact hl'⟩
    exact ⟨F', c', e, q1.up (by omega), q2, q3.trans hl2⟩
section
variable {b : Int} {c : D_l01Cur} {k : Nat}
theorem tF9 (hk : MM < k) {N : Int} {z F : D_Four} (h : CP b c) (hF : byN 100 (fO F)) (hb : b + 100 ≤ BB) (hN : b + 100 ≤ N) :
    Tot (fun F => byN 1000 (fO F)) N ((iter spec_l01Cur_four_s9 k ((c, ()), (), z, F, 0, ())).bind fun o15 => some (o15.2.2, (o15.1.1.1, o15.1.1.2.1, o15.1.1.2.2.1, ()), ())) := by
  have hM : MM = 1048576 := rfl
  have := hF.2
  obtain ⟨F', c', e, q1, q2, q3⟩ := four9_run z (fO F).length 0 F c b k (by omega) (by omega) h (by omega) (hF.up (by decide))
  have e' : iter spec_l01Cur_four_s9 k ((c, ()), (), z, F, 0, ()) = _ := e
  rw [e']
  exact ⟨F', c', rfl, q1.up (by omega), q2⟩
theorem four_t (hk : MM < k) (h : CP b c) (hb : b + 1000 ≤ BB) : Tot (fun F => byN 1000 (fO F)) (b + 1000) (spec_l01Cur_four k c) := by
  unfold spec_l01Cur_four
  repeat' first
    | exact tEnd (by assumption) (by omega) (byN_nil _)
    | exact tF9 hk (by assumption) (rep_b (by assumption) (by assumption)) (by omega) (by omega)
    | refine tT (rep_c (by assumption) (by assumption)) ?_
    | refine tT (by simp only [Bool.and_eq_true, decide_eq_true_eq]; omega) ?_
    | (refine tCall (addr_t _ (by assumption) (by omega)) (fun _ _ _ _ => ?_); dsimp only)
    | (refine tAny (by assumption) (by omega) (by omega) (fun _ _ _ _ _ => ?_); dsimp only)
    | (refine tWide (by assumption) (by omega) (by omega) (fun _ _ _ _ _ => ?_); dsimp only)
    | (refine tOnce (by assumption) (by omega) (by omega) (fun _ _ _ => ?_); dsimp only)
    | refine tIf ?_ ?_
end
end Go.Tw
