/- Plain facts on the mirrors of the functions are proved here. -/
import Derived.Test.YtmnfadocihfiaaaGreatPn5
set_option linter.all false
set_option maxRecDepth 100000
set_option maxHeartbeats 4000000
namespace Go.Tw
open Go Sem
def chB (l : List D_Module) : List Int := l.flatMap modBy
theorem modBy_def (m : D_Module) : modBy m = m.1 % 256 :: (prefBy m.2.1 ++ (prefBy m.2.2.1 ++ (twos [m.2.2.2.1, m.2.2.2.2.1, m.2.2.2.2.2.1] ++ [m.2.2.2.2.2.2.1 % 256]))) := rfl
theorem chB_le (l : List D_Module) : (chB l).length ≤ 44 * l.length := flat_le modBy_le l
theorem bodyB_le {c : D_Cmd} (h : c.2.2.2.2.2.1.length ≤ 8) : (bodyB c).length ≤ 354 := by
  have h1 := prefBy_le c.2.2.2.1.2.1
  have h2 := prefBy_le c.2.2.2.1.2.2.1
  have h3 := twos_len [c.2.2.2.1.2.2.2.1, c.2.2.2.1.2.2.2.2.1, c.2.2.2.1.2.2.2.2.2.1, c.2.2.2.1.2.2.2.2.2.2.1, c.2.2.2.1.2.2.2.2.2.2.2.1]
  simp only [List.length_cons, List.length_nil] at h3
  have h4 := flat_le modBy_le c.2.2.2.2.2.1
  unfold bodyB
  cases decide (c.1 = 1)
  case true => simp
  cases decide (c.1 = 4)
  case true => simp [putB_len]
  cases decide (c.1 = 8)
  case true => simp [putB_len]
  cases decide (c.1 = 3)
  case true => simp only [cond_true, cond_false, Bool.or_self, List.length_append, List.length_cons, List.length_nil, putB_len, h3]; omega
  cases decide (c.1 = 5)
  case true => simp only [cond_true, cond_false, Bool.or_self, List.length_append, List.length_cons, List.length_nil, putB_len]; omega
  cases decide (c.1 = 7)
  case true => simp only [cond_true, cond_false, Bool.or_self, List.length_append, List.length_cons, List.length_nil]; omega
  simp
theorem bodyB_bytes (c : D_Cmd) : bytesP (bodyB c) := by
  unfold bodyB
  cases decide (c.1 = 1)
  case true => exact bytes_cons (bytes_cons bytesP_nil)
  cases decide (c.1 = 4)
  case true => exact bytes_put _ _
  cases decide (c.1 = 8)
  case true => exact bytes_put _ _
  cases decide (c.1 = 3)
  case true => exact bytes_app (bytes_put _ _) (bytes_app (prefBy_bytes _) (bytes_app (prefBy_bytes _) (bytes_app (twos_bytes _) (bytes_cons (bytes_cons (bytes_cons bytesP_nil))))))
  cases decide (c.1 = 5)
  case true =>
    refine bytes_cons (bytes_app (bytes_put _ _) (bytes_app (bytes_put _ _) (bytes_app (bytes_put _ _) ?_)))
    cases c.2.2.2.2.1.2.2.2.2.1
    · exact bytes_cons (a := 0) bytesP_nil
    · exact bytes_cons (a := 1) bytesP_nil
  cases decide (c.1 = 7)
  case true => exact bytes_cons (bytes_cons (flat_bytes modBy_bytes _))
  exact bytes_cons bytesP_nil
theorem body_loop (k : Nat) (hk : MM < k) (o : List Int) (ho : o.length ≤ 100) (l : List D_Module) (hl : l.length ≤ 8) : iter (impl_bodyOf_s19 k) k ((), o, l, ((l.length : Nat) : Int), (0 : Int), ()) = some ((), o ++ chB l, ()) := by
  have hM : MM = 1048576 := rfl
  have r := inv_run (step := impl_bodyOf_s19 k) (n := l.length) (st := fun j (a : List Int) => ((), a, l, ((l.length : Nat) : Int), (j : Int), ())) (fin := fun a => ((), a, ())) (fun j a => a = o ++ chB (l.take j))
    (fun j a hj hI => by
      refine ⟨o ++ chB (l.take (j + 1)), rfl, fun rec => ?_⟩
      have hwi : IntKind.wrap .i64 ((j : Int) + 1) = ((j + 1 : Nat) : Int) := w64 (by omega)
      have el := chB_le (l.take j)
      rw [List.length_take] at el
      have eT := flat_takeM modBy l z_Module j hj
      obtain ⟨m, hm⟩ : ∃ m, m = l.getD j z_Module := ⟨_, rfl⟩
      rw [← hm] at eT
      have h1 := prefBy_le m.2.1
      have h2 := prefBy_le m.2.2.1
      have h3 := twos_len [m.2.2.2.1, m.2.2.2.2.1, m.2.2.2.2.2.1]
      simp only [List.length_cons, List.length_nil] at h3
      unfold impl_bodyOf_s19
      refine (bif_t (by simp; omega)).trans ?_
      refine (bif_t (by simp; omega)).trans ?_
      refine (bif_t (by simp; omega)).trans ?_
      simp only [Int.toNat_natCast, hwi, ← hm, prefByI k hk, Option.bind_some, wu8]
      rw [twosI k hk _ (by simp)]
      simp only [Option.bind_some]
      rw [catB k hk _ (by simp) (by simp only [List.flatten_cons, List.flatten_nil, List.length_append, List.length_cons, List.length_nil, hI, h3]; omega)]
      simp only [Option.bind_some]
      refine congrArg (fun x => rec ((), x, l, ((l.length : Nat) : Int), ((j + 1 : Nat) : Int), ())) ?_
      unfold chB
      rw [eT, hI, modBy_def m]
      simp only [chB, List.flatten_cons, List.flatten_nil, List.append_assoc, List.append_nil, List.cons_append, List.nil_append])
    (fun a hI rec => by
      unfold impl_bodyOf_s19
      exact bif_f (by simp)) l.length 0 k o (by omega) (by omega) (by simp [chB])
  obtain ⟨a, ha, r⟩ := r
  rw [List.take_length] at ha
  exact r.trans (by rw [ha])
theorem bodyI (k : Nat) (hk : MM < k) (c : D_Cmd) (hc : c.2.2.2.2.2.1.length ≤ 8) : impl_bodyOf k c = some ((bodyB c, ()), ()) := by
  obtain ⟨o, n, w, r, l, ch, u⟩ := c
  have h1 := prefBy_le r.2.1
  have h2 := prefBy_le r.2.2.1
  have h3 := twos_len [r.2.2.2.1, r.2.2.2.2.1, r.2.2.2.2.2.1, r.2.2.2.2.2.2.1, r.2.2.2.2.2.2.2.1]
  simp only [List.length_cons, List.length_nil] at h3
  have hb := body_loop k hk [n % 256, ((ch.length : Nat) : Int) % 256] (by simp) ch hc
  unfold impl_bodyOf bodyB
  simp only [prefByI k hk, put16I k hk, put32I k hk, twosI k hk [r.2.2.2.1, r.2.2.2.2.1, r.2.2.2.2.2.1, r.2.2.2.2.2.2.1, r.2.2.2.2.2.2.2.1] (by simp), Option.bind_some, wu8, hb]
  simp only [catB k hk [putB r.1 2, prefBy r.2.1, prefBy r.2.2.1, twos [r.2.2.2.1, r.2.2.2.2.1, r.2.2.2.2.2.1, r.2.2.2.2.2.2.1, r.2.2.2.2.2.2.2.1], [r.2.2.2.2.2.2.2.2.1 % 256, r.2.2.2.2.2.2.2.2.2.1 % 256, r.2.2.2.2.2.2.2.2.2.2.1 % 256]] (by simp) (by simp only [List.flatten_cons, List.flatten_nil, List.length_append, List.length_cons, List.length_nil, putB_len, h3]; omega),
    catB k hk [[l.1 % 256], putB l.2.1 4, putB l.2.2.1 4, putB l.2.2.2.1 4, [(1 : Int)]] (by simp) (by simp [putB_len]),
    catB k hk [[l.1 % 256], putB l.2.1 4, putB l.2.2.1 4, putB l.2.2.2.1 4, [(0 : Int)]] (by simp) (by simp [putB_len]), Option.bind_some,
    List.flatten_cons, List.flatten_nil, List.append_assoc, List.append_nil, List.cons_append, List.nil_append]
  rcases kinds8 o with rfl | rfl | rfl | rfl | rfl | rfl | rfl | rfl | ⟨q1, q2, q3, q4, q5, q6, q7, q8⟩
  · rfl
  · rfl
  · rfl
  · rfl
  · generalize l.2.2.2.2.1 = b
    cases b <;> rfl
  · rfl
  · rfl
  · rfl
  · simp only [q1, q2, q3, q4, q5, q6, q7, q8, decide_false, cond_false, Bool.or_false]
def cmdBy (c : D_Cmd) : List Int := bif cmdB c then (c.1 % 256 :: bodyB c) ++ putB (csum (c.1 % 256 :: bodyB c)) 2 else []
theorem cmdByI (k : Nat) (hk : MM < k) (c : D_Cmd) : impl_CmdBytes k c = some ((cmdBy c, ()), ()) := by
  unfold impl_CmdBytes cmdBy
  rw [cmdI k hk]
  simp only [Option.bind_some]
  cases h : cmdB c
  case false => rfl
  have hl := cmdB_len h
  have hb := bodyB_le hl
  rw [bodyI k hk c hl]
  simp only [Option.bind_some, wu8, Bool.not_true, cond_false, cond_true]
  refine (bif_t (decide_eq_true (by omega))).trans ?_
  rw [show ([c.1 % 256] : List Int) ++ bodyB c = c.1 % 256 :: bodyB c from rfl, csumI k hk _ (bytes_cons (bodyB_bytes c))]
  simp only [Option.bind_some, put16I k hk]
  exact bif_t (decide_eq_true (by simp only [List.length_cons, putB_len]; omega))
theorem finS (k : Nat) (hk : MM < k) (E : List Int) (hb : bytesP E) (hl : E.length ≤ 1000) : ((spec_Checksum k E).bind fun t13 => (spec_Put16 t13.1.1).bind fun t14 => bif (decide (((E.length + (List.length t14.1.1)) * 1) ≤ (1099511627776 : Nat))) then some ((E ++ t14.1.1, ()), ()) else none) = some ((E ++ putB (csum E) 2, ()), ()) := by
  rw [csumS k hk E hb]
  simp only [Option.bind_some, put16S]
  exact bif_t (decide_eq_true (by simp only [putB_len]; omega))
theorem bytes_loop (k : Nat) (hk : MM < k) (c : D_Cmd) (o : List Int) (ho : o.length ≤ 100) (hl : c.2.2.2.2.2.1.length ≤ 8) : iter (spec_CmdBytes_s29 k) k ((), c, o, (0 : Int), ()) = some ((), o ++ chB c.2.2.2.2.2.1, ()) := by
  have hM : MM = 1048576 := rfl
  have r := inv_run (step := spec_CmdBytes_s29 k) (n := c.2.2.2.2.2.1.length) (st := fun j (a : List Int) => ((), c, a, (j : Int), ())) (fin := fun a => ((), a, ())) (fun j a => a = o ++ chB (c.2.2.2.2.2.1.take j))
    (fun j a hj hI => by
      obtain ⟨l, hl'⟩ : ∃ l, l = c.2.2.2.2.2.1 := ⟨_, rfl⟩
      rw [← hl'] at hj hI hl
      refine ⟨o ++ chB (c.2.2.2.2.2.1.take (j + 1)), rfl, fun rec => ?_⟩
      have hwi : IntKind.wrap .i64 ((j : Int) + 1) = ((j + 1 : Nat) : Int) := w64 (by omega)
      have el := chB_le (l.take j)
      rw [List.length_take] at el
      have eT := flat_takeM modBy l z_Module j hj
      obtain ⟨m, hm⟩ : ∃ m, m = l.getD j z_Module := ⟨_, rfl⟩
      rw [← hm] at eT
      have h1 := prefBy_le m.2.1
      have h2 := prefBy_le m.2.2.1
      have h3 := twos_len [m.2.2.2.1, m.2.2.2.2.1, m.2.2.2.2.2.1]
      simp only [List.length_cons, List.length_nil] at h3
      unfold spec_CmdBytes_s29
      simp only [← hl', Int.toNat_natCast, hwi, ← hm, prefByS k hk, Option.bind_some, wu8]
      refine (bif_t (by simp; omega)).trans ?_
      refine (bif_t (by simp; omega)).trans ?_
      refine (bif_t (by simp; omega)).trans ?_
      have hla : a.length ≤ 500 := by rw [hI, List.length_append]; omega
      refine (bif_t (decide_eq_true (by omega))).trans ?_
      refine (bif_t (decide_eq_true (by simp only [List.length_append, List.length_cons, List.length_nil]; omega))).trans ?_
      refine (bif_t (decide_eq_true (by simp only [List.length_append, List.length_cons, List.length_nil]; omega))).trans ?_
      rw [twosS k hk _ _ (by simp only [List.length_append, List.length_cons, List.length_nil]; omega) (by simp)]
      simp only [Option.bind_some]
      refine (bif_t (decide_eq_true (by simp only [List.length_append, List.length_cons, List.length_nil, h3]; omega))).trans ?_
      refine congrArg (fun x => rec ((), c, x, ((j + 1 : Nat) : Int), ())) ?_
      rw [hI]
      unfold chB
      rw [eT, modBy_def m]
      simp only [List.append_assoc, List.cons_append, List.nil_append])
    (fun a hI rec => by
      unfold spec_CmdBytes_s29
      exact bif_f (by simp)) c.2.2.2.2.2.1.length 0 k o (by omega) (by omega) (by simp [chB])
  obtain ⟨a, ha, r⟩ := r
  rw [List.take_length] at ha
  exact r.trans (by rw [ha])
end Go.Tw
