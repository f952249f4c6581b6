/- Facts on mirrors. -/
import Derived.Test.YtmnfadocihfiaaaGreatPsD
set_option linter.all false
set_option maxRecDepth 100000
set_option maxHeartbeats 4000000
namespace Go.Tw
open Go Go.RowKit
theorem six10_run (z S : D_Six) (n : Int) (kd : Int) : ∀ (m i : Nat) (l : List Int) (c : D_l01Cur) (b : Int) (k : Nat), i + m = l.length → m < k → CP b c → b + (m : Int) ≤ BB → byN 1000 l →
    ∃ l' c', iter spec_l01Cur_six_s10 k ((c, ()), (), z, S, n, (kd, l, ()), (i : Int), ()) = some ((c', ()), (), z, S, n, (kd, l', ()), ()) ∧ CP (b + (m : Int)) c' ∧ byN 1000 l' ∧ l'.length = l.length
  | m, i, l, c, b, 0, _, h, _, _, _ => by omega
  | 0, i, l, c, b, k + 1, hi, h, hc, hb, hl => by
    rw [iter_succ]
    refine ⟨l, c, ?_, hc.up (by omega), hl, rfl⟩
    unfold spec_l01Cur_six_s10
    exact bif_f (decide_eq_false (by dsimp only; omega))
  | m + 1, i, l, c, b, k + 1, hi, h, hc, hb, hl => by
    obtain ⟨x, c1, e1, h1, h2⟩ := pick_ok 256 (by omega) hc (by omega)
    have hl' := hl.2
    rw [iter_succ]
    have st : ∀ rec, spec_l01Cur_six_s10 rec ((c, ()), (), z, S, n, (kd, l, ()), (i : Int), ()) = rec ((c1, ()), (), z, S, n, (kd, l.set i (x % 256), ()), ((i + 1 : Nat) : Int), ()) := fun rec => by
      unfold spec_l01Cur_six_s10
      have w : IntKind.wrap .i64 ((i : Int) + 1) = ((i + 1 : Nat) : Int) := w64 (by omega)
      refine (bif_t (decide_eq_true (by dsimp only; omega))).trans ?_
      show (spec_l01Cur_pick c 256).bind _ = _
      rw [e1]
      simp only [Option.bind_some]
      rw [bif_t (by simp only [Bool.and_eq_true, decide_eq_true_eq]; omega), bif_t (by simp only [decide_eq_true_eq]; omega), w, wu8]
      rfl
    rw [st]
    have hl2 : (l.set i (x % 256)).length = l.length := List.length_set
    obtain ⟨l', c', e, q1, q2, q3⟩ := six10_run z S n kd m (i + 1) (l.set i (x % 256)) c1 (b + 1) k (by omega) (by omega) h1 (by omega) ⟨set_by hl.1 i x, by omega⟩
    exact ⟨l', c', e, q1.up (by omega), q2, q3.trans hl2⟩
def sixG (S : D_Six) : Prop := (sE S).length ≤ 3 ∧ ∀ x ∈ sE S, byN 1000 x.2.1
theorem six6_run (K : Nat) (hK : MM < K) (z : D_Six) : ∀ (m : Nat) (S : D_Six) (c : D_l01Cur) (b : Int) (k : Nat), m < k → CP b c → b + 100 * (m : Int) ≤ BB → (sE S).length + m ≤ 3 → sixG S →
    ∃ S' c', iter (spec_l01Cur_six_s6 K) k ((c, ()), (), z, S, (m : Int), ()) = some ((c', ()), z, S', ()) ∧ CP (b + 100 * (m : Int)) c' ∧ sixG S'
  | m, S, c, b, 0, h, _, _, _, _ => by omega
  | 0, S, c, b, k + 1, h, hc, hb, hn, hS => by
    rw [iter_succ]
    refine ⟨S, c, ?_, hc.up (by omega), hS⟩
    unfold spec_l01Cur_six_s6
    exact bif_f (decide_eq_false (by dsimp only; omega))
  | m + 1, S, c, b, k + 1, h, hc, hb, hn, hS => by
    have hM : MM = 1048576 := rfl
    obtain ⟨x, c1, e1, h1, hx⟩ := pick_ok 2 (by omega) hc (by omega)
    obtain ⟨y, c2, e2, h2, hy⟩ := pick_ok 3 (by omega) h1 (by omega)
    have hg : 1 ≤ ([(1 : Int), 2, 8] : List Int).getD y.toNat 0 ∧ ([(1 : Int), 2, 8] : List Int).getD y.toNat 0 ≤ 8 := by
      rcases (show y = 0 ∨ y = 1 ∨ y = 2 by omega) with rfl | rfl | rfl <;> decide
    obtain ⟨u, c3, e3, h3, hu⟩ := pickA_ok _ ⟨hg.1, by omega⟩ h2 (by omega)
    have w8 : IntKind.wrap .i64 (IntKind.wrap .i64 (8 * u) + 6) = 8 * u + 6 := by rw [w64 (n := 8 * u) (by omega), w64 (by omega)]
    have lr : (List.replicate (8 * u + 6).toNat (0 : Int)).length = (8 * u + 6).toNat := List.length_replicate
    obtain ⟨l', c4, e4, h4, hl', hll⟩ := six10_run z S ((m + 1 : Nat) : Int) (([(43 : Int), 60] : List Int).getD x.toNat 0) (8 * u + 6).toNat 0 (List.replicate (8 * u + 6).toNat 0) c3 _ K (by rw [lr]; omega) (by omega) h3 (by omega) ((rep_by _ (by omega)).up (by decide))
    have e4' : iter spec_l01Cur_six_s10 K ((c3, ()), (), z, S, ((m + 1 : Nat) : Int), (([(43 : Int), 60] : List Int).getD x.toNat 0, List.replicate (8 * u + 6).toNat 0, ()), 0, ()) = _ := e4
    have w : IntKind.wrap .i64 (((m + 1 : Nat) : Int) - 1) = (m : Int) := (w64 (n := ((m + 1 : Nat) : Int) - 1) (by omega)).trans (by omega)
    have hn' : S.2.2.2.2.2.2.1.length + (m + 1) ≤ 3 := hn
    have st : ∃ (v : D_Ext) (c5 : D_l01Cur), (∀ rec, spec_l01Cur_six_s6 K rec ((c, ()), (), z, S, ((m + 1 : Nat) : Int), ()) = rec ((c5, ()), (), z, (S.1, S.2.1, S.2.2.1, S.2.2.2.1, S.2.2.2.2.1, S.2.2.2.2.2.1, S.2.2.2.2.2.2.1 ++ [v], S.2.2.2.2.2.2.2), (m : Int), ())) ∧ CP (b + 100) c5 ∧ byN 1000 v.2.1 := by
      obtain ⟨t, c5, e5, h5⟩ := once_ok 2 (by omega) h4 (by omega)
      have pre : ∀ rec, spec_l01Cur_six_s6 K rec ((c, ()), (), z, S, ((m + 1 : Nat) : Int), ()) = bif decide (((S.2.2.2.2.2.2.1.length : Nat) : Int) = 0) then (bif t then rec ((c5, ()), (), z, (S.1, S.2.1, S.2.2.1, S.2.2.2.1, S.2.2.2.2.1, S.2.2.2.2.2.1, S.2.2.2.2.2.2.1 ++ [((0 : Int), l', ())], S.2.2.2.2.2.2.2), (m : Int), ()) else rec ((c5, ()), (), z, (S.1, S.2.1, S.2.2.1, S.2.2.2.1, S.2.2.2.2.1, S.2.2.2.2.2.1, S.2.2.2.2.2.2.1 ++ [(([(43 : Int), 60] : List Int).getD x.toNat 0, l', ())], S.2.2.2.2.2.2.2), (m : Int), ())) else rec ((c4, ()), (), z, (S.1, S.2.1, S.2.2.1, S.2.2.2.1, S.2.2.2.2.1, S.2.2.2.2.2.1, S.2.2.2.2.2.2.1 ++ [(([(43 : Int), 60] : List Int).getD x.toNat 0, l', ())], S.2.2.2.2.2.2.2), (m : Int), ()) := fun rec => by
        unfold spec_l01Cur_six_s6
        refine (bif_t (decide_eq_true (by dsimp only; omega))).trans ?_
        show (spec_l01Cur_pick c 2).bind _ = _
        rw [e1]
        simp only [Option.bind_some]
        rw [bif_t (by simp only [Bool.and_eq_true, decide_eq_true_eq]; omega), e2]
        simp only [Option.bind_some]
        rw [bif_t (by simp only [Bool.and_eq_true, decide_eq_true_eq]; omega), e3]
        simp only [Option.bind_some, w8]
        rw [bif_t (by simp only [Bool.and_eq_true, decide_eq_true_eq]; omega), e4']
        simp only [Option.bind_some]
        rw [show spec_l01Cur_once (c4.1, c4.2.1, c4.2.2.1, ()) 2 = some ((t, ()), (c5, ())) from e5]
        simp only [Option.bind_some, w]
        rw [bif_t (show decide ((S.2.2.2.2.2.2.1.length + 1) * 32 ≤ 1099511627776) = true by simp only [decide_eq_true_eq]; omega), bif_t (show decide ((S.2.2.2.2.2.2.1.length + 1) * 32 ≤ 1099511627776) = true by simp only [decide_eq_true_eq]; omega), bif_t (show decide ((S.2.2.2.2.2.2.1.length + 1) * 32 ≤ 1099511627776) = true by simp only [decide_eq_true_eq]; omega)]
      cases hz : decide (((S.2.2.2.2.2.2.1.length : Nat) : Int) = 0)
      · exact ⟨_, c4, (fun rec => by rw [pre, hz]; rfl), h4.up (by omega), hl'⟩
      · cases t
        · exact ⟨_, c5, (fun rec => by rw [pre, hz]; rfl), h5.up (by omega), hl'⟩
        · exact ⟨(0, l', ()), c5, (fun rec => by rw [pre, hz]; rfl), h5.up (by omega), hl'⟩
    obtain ⟨v, c5, e5, h5, hv⟩ := st
    rw [iter_succ, e5]
    have ln : (S.2.2.2.2.2.2.1 ++ [v]).length = S.2.2.2.2.2.2.1.length + 1 := by simp
    obtain ⟨S', c', e, q1, q2⟩ := six6_run K hK z m (S.1, S.2.1, S.2.2.1, S.2.2.2.1, S.2.2.2.2.1, S.2.2.2.2.2.1, S.2.2.2.2.2.2.1 ++ [v], S.2.2.2.2.2.2.2) c5 (b + 100) k (by omega) h5 (by omega) (by show (S.2.2.2.2.2.2.1 ++ [v]).length + m ≤ 3; omega) ⟨by show (S.2.2.2.2.2.2.1 ++ [v]).length ≤ 3; omega, fun e he => by
      rcases List.mem_append.1 he with he | he
      · exact hS.2 e he
      · rw [List.mem_singleton.1 he]; exact hv⟩
    exact ⟨S', c', e, q1.up (by omega), q2⟩
section
variable {b : Int} {c : D_l01Cur} {k : Nat}
theorem tS6 (hk : MM < k) {N : Int} {z S : D_Six} {x : Int} (h : CP b c) (h0 : 0 ≤ x) (h1 : x < 4) (hS : sE S = []) (hb : b + 400 ≤ BB) (hN : b + 400 ≤ N) :
    Tot sixG N ((iter (spec_l01Cur_six_s6 k) k ((c, ()), (), z, S, x, ())).bind fun o15 => some (o15.2.2, (o15.1.1.1, o15.1.1.2.1, o15.1.1.2.2.1, ()), ())) := by
  have hM : MM = 1048576 := rfl
  obtain ⟨m, rfl⟩ := Int.eq_ofNat_of_zero_le h0
  obtain ⟨S', c', e, q1, q2⟩ := six6_run k hk z m S c b k (by omega) h (by omega) (by rw [hS]; simp; omega) ⟨by rw [hS]; exact Nat.zero_le _, fun x hx => by rw [hS] at hx; exact (List.not_mem_nil hx).elim⟩
  rw [e]
  exact ⟨S', c', rfl, q1.up (by omega), q2⟩
theorem sixG_nil {S : D_Six} (h : sE S = []) : sixG S := ⟨by rw [h]; exact Nat.zero_le _, fun x hx => by rw [h] at hx; exact (List.not_mem_nil hx).elim⟩
theorem six_t (hk : MM < k) (h : CP b c) (hb : b + 1000 ≤ BB) : Tot sixG (b + 1000) (spec_l01Cur_six k c) := by
  unfold spec_l01Cur_six
  repeat' first
    | exact tEnd (by assumption) (by omega) (sixG_nil rfl)
    | exact tS6 hk (by assumption) (by assumption) (by assumption) rfl (by omega) (by omega)
    | refine tT (by simp only [Bool.and_eq_true, decide_eq_true_eq]; omega) ?_
    | (refine tCall (addr_t _ (by assumption) (by omega)) (fun _ _ _ _ => ?_); dsimp only)
    | (refine tAny (by assumption) (by omega) (by omega) (fun _ _ _ _ _ => ?_); dsimp only)
    | (refine tWide (by assumption) (by omega) (by omega) (fun _ _ _ _ _ => ?_); dsimp only)
    | (refine tOnce (by assumption) (by omega) (by omega) (fun _ _ _ => ?_); dsimp only)
    | refine tIf ?_ ?_
def upG (U : D_Upper) : Prop := byN 100 (uO U) ∧ byN 100 (uB U)
theorem upper_t (hk : MM < k) (n v : Int) (h : CP b c) (hb : b + 4000 ≤ BB) : Tot upG (b + 4000) (spec_l01Cur_upper k c n v) := by
  unfold spec_l01Cur_upper spec_l01Cur_upper_j5 spec_l01Cur_upper_j3 spec_l01Cur_upper_j4 spec_l01Cur_upper_j2 spec_l01Cur_upper_j1 spec_l01Cur_upper_j0
  refine tCall (tBytes hk 40 rfl h (by omega) (by omega)) (fun l c0 hl hc => ?_)
  dsimp only
  have hl' : byN 100 l := hl.up (by decide)
  repeat' first
    | exact tEnd (by assumption) (by omega) ⟨byN_nil _, hl'⟩
    | exact tEnd (by assumption) (by omega) ⟨rep_b (by assumption) (by assumption), hl'⟩
    | refine tT (rep_c (by assumption) (by assumption)) ?_
    | refine tT (by simp only [Bool.and_eq_true, decide_eq_true_eq]; omega) ?_
    | (refine tAny (by assumption) (by omega) (by omega) (fun _ _ _ _ _ => ?_); dsimp only)
    | (refine tWide (by assumption) (by omega) (by omega) (fun _ _ _ _ _ => ?_); dsimp only)
    | (refine tOnce (by assumption) (by omega) (by omega) (fun _ _ _ => ?_); dsimp only)
    | refine tIf ?_ ?_
end
end Go.Tw
