/- Plain facts on the mirrors of the functions are proved here. -/
import Derived.Test.YtmnfadocihfiaaaGreatPn15
set_option linter.all false
set_option maxRecDepth 100000
set_option maxHeartbeats 4000000
namespace Go.Tw
open Go Sem
theorem be16S {d : List Int} (hb : bytesP d) (hd : d.length ≤ 600) {n : Nat} (hn : n + 2 = d.length) : spec_Be16 d (n : Int) = some ((beB (d.drop n), true, ()), ()) := by
  unfold spec_Be16
  have b1 := hb _ (getD_mem d 0 n (by omega))
  have b2 := hb _ (getD_mem d 0 (n + 1) (by omega))
  have e : beB (d.drop n) = 256 * d.getD n 0 + d.getD (n + 1) 0 := by
    rw [drop_at d 0 n (by omega), drop_at d 0 (n + 1) (by omega), List.drop_of_length_le (by omega)]
    simp only [beB, List.foldl_cons, List.foldl_nil]; omega
  rw [w64 (n := ((d.length : Nat) : Int) - 2) (by omega), w64 (n := (n : Int) + 1) (by omega), show (n : Int) + 1 = ((n + 1 : Nat) : Int) by omega]
  simp only [Int.toNat_natCast]
  rw [bif_t (by rw [decide_eq_false (by omega)]; rfl), bif_f (decide_eq_false (by omega)), bif_t (Bool.and_eq_true_iff.2 ⟨decide_eq_true (by omega), decide_eq_true (by omega)⟩), bif_t (decide_eq_true (by omega)), bif_t (Bool.and_eq_true_iff.2 ⟨decide_eq_true (by omega), decide_eq_true (by omega)⟩), bif_t (decide_eq_true (by omega))]
  rw [w64 (n := d.getD n 0) (by omega), w64 (n := d.getD (n + 1) 0) (by omega), w64 (n := 256 * d.getD n 0) (by omega), w64 (by omega), e]
theorem readS (k : Nat) (hk : MM < k) (d : List Int) (hb : bytesP d) (hd : d.length ≤ 1000000) : spec_CmdRead k d = some (((cmdRd d).1, (cmdRd d).2, ()), ()) := by
  have hM : MM = 1048576 := rfl
  unfold spec_CmdRead
  by_cases h6 : 600 < d.length
  · unfold cmdRd
    rw [if_pos h6]
    exact bif_t (decide_eq_true (by omega))
  refine (bif_f (decide_eq_false (by omega))).trans ?_
  by_cases h3 : d.length < 3
  · unfold cmdRd
    rw [if_neg h6, if_pos h3]
    exact bif_t (decide_eq_true (by omega))
  refine (bif_f (decide_eq_false (by omega))).trans ?_
  rw [w64 (n := ((d.length : Nat) : Int) - 2) (by omega)]
  obtain ⟨n, hn⟩ : ∃ n, n = d.length - 2 := ⟨_, rfl⟩
  have en : ((d.length : Nat) : Int) - 2 = (n : Int) := by omega
  simp only [en, Int.toNat_natCast]
  refine (bif_t (Bool.and_eq_true_iff.2 ⟨decide_eq_true (by omega), decide_eq_true (by omega)⟩)).trans ?_
  rw [be16S hb (by omega) (by omega), Option.bind_some, csumS k hk _ (take_b hb n), Option.bind_some]
  dsimp only
  by_cases hs : beB (d.drop n) = csum (d.take n)
  case neg =>
    refine (bif_t (by rw [decide_eq_false hs]; rfl)).trans ?_
    unfold cmdRd
    rw [if_neg h6, if_neg h3, ← hn, if_pos hs]
    rfl
  refine (bif_f (by rw [decide_eq_true hs]; rfl)).trans ?_
  rw [hn] at hs
  obtain ⟨B, hB⟩ : ∃ B, B = d.take n := ⟨_, rfl⟩
  rw [← hB]
  have hbB : bytesP B := by rw [hB]; exact take_b hb n
  have hdB : B.length ≤ 600 := by rw [hB, List.length_take]; omega
  by_cases hE : Enc d
  · obtain ⟨c, g1, g2⟩ := hE
    have ht := cmdBy_take g1 g2
    rw [cmdRd_ok h6 h3 hs g1 g2]
    have hB0 : B.drop 0 = c.1 % 256 :: bodyB c := by rw [hB, hn, ht]; rfl
    have fin := tail_ok k hk g1 g2
    clear hB ht
    rcases cmd_cases g1 with ⟨n, w, e, hn, hw, eb⟩ | ⟨n, e, hn, eb⟩ | ⟨r, e, hr, eb⟩ | ⟨n, e, hn, eb⟩ | ⟨l, e, hl, eb⟩ | ⟨n, e, hn, eb⟩ | ⟨n, ch, e, hn, hch, hlen, eb⟩ | ⟨n, e, hn, eb⟩ <;> rw [eb, e] at hB0 <;> rw [e] at fin ⊢ <;> (obtain ⟨p1, q1, e1⟩ := z1' hdB hbB hB0) <;> (have e1 : spec_l22Read_one (B, (0 : Int), false, ()) = _ := e1) <;> rw [e1, Option.bind_some] <;> dsimp only <;> simp only [Int.reduceEq, Int.reduceMod, decide_true, decide_false, cond_true, cond_false]
    · obtain ⟨p2, q2, e2⟩ := z1' hdB hbB q1
      obtain ⟨p3, q3, e3⟩ := z1' hdB hbB q2
      simp only [e2, e3, Option.bind_some]
      exact fin
    · obtain ⟨p2, q2, e2⟩ := z1' hdB hbB q1
      simp only [e2, Option.bind_some]
      exact fin
    · unfold ruleB at hr
      simp only [Bool.and_eq_true_iff] at hr
      obtain ⟨r1, r2, r3, r4, r5, r6, r7, r8, r9⟩ := hr
      have r1 := in_rng r1
      have r4 := in_rng r4
      have r5 := rng_rng r5
      have r6 := rng_rng r6
      unfold ruleBy at q1
      obtain ⟨p2, q2, e2⟩ := z2 hdB hbB (show 0 ≤ r.1 ∧ r.1 ≤ 65535 by omega) p1 _ q1
      obtain ⟨p3, q3, e3⟩ := zX hdB hbB k hk r2 p2 _ q2
      obtain ⟨p4, q4, e4⟩ := zX hdB hbB k hk r3 p3 _ q3
      obtain ⟨p5, q5, e5⟩ := zP' hdB hbB r4 p4 _ q4
      obtain ⟨p6, q6, e6⟩ := z2 hdB hbB (show 0 ≤ r.2.2.2.2.1 ∧ r.2.2.2.2.1 ≤ 65535 by omega) p5 _ q5
      obtain ⟨p7, q7, e7⟩ := z2 hdB hbB (show 0 ≤ r.2.2.2.2.2.1 ∧ r.2.2.2.2.2.1 ≤ 65535 by omega) p6 _ q6
      obtain ⟨p8, q8, e8⟩ := z2 hdB hbB (show 0 ≤ r.2.2.2.2.2.2.1 ∧ r.2.2.2.2.2.2.1 ≤ 65535 by omega) p7 _ q7
      obtain ⟨p9, q9, e9⟩ := z2 hdB hbB (show 0 ≤ r.2.2.2.2.2.2.2.1 ∧ r.2.2.2.2.2.2.2.1 ≤ 65535 by omega) p8 _ q8
      obtain ⟨p10, q10, e10⟩ := z1' hdB hbB q9
      obtain ⟨p11, q11, e11⟩ := z1' hdB hbB q10
      obtain ⟨p12, q12, e12⟩ := z1' hdB hbB q11
      simp only [e2, e3, e4, e5, e6, e7, e8, e9, e10, e11, e12, Option.bind_some]
      exact fin
    · obtain ⟨p2, q2, e2⟩ := z2 hdB hbB hn p1 [] (by rw [List.append_nil]; exact q1)
      simp only [e2, Option.bind_some]
      exact fin
    · unfold limB at hl
      simp only [Bool.and_eq_true_iff] at hl
      obtain ⟨r1, r2, r3, r4⟩ := hl
      have r1 := in_rng r1
      have r2 := in_rng r2
      have r3 := in_rng r3
      have r4 := in_rng r4
      unfold limBy at q1
      obtain ⟨p2, q2, e2⟩ := z1' hdB hbB q1
      obtain ⟨p3, q3, e3⟩ := z4 hdB hbB (show 0 ≤ l.2.1 ∧ l.2.1 ≤ 4294967295 by omega) p2 _ q2
      obtain ⟨p4, q4, e4⟩ := z4 hdB hbB (show 0 ≤ l.2.2.1 ∧ l.2.2.1 ≤ 4294967295 by omega) p3 _ q3
      obtain ⟨p5, q5, e5⟩ := z4 hdB hbB (show 0 ≤ l.2.2.2.1 ∧ l.2.2.2.1 ≤ 4294967295 by omega) p4 _ q4
      obtain ⟨p6, q6, e6⟩ := z1' hdB hbB q5
      simp only [e2, e3, e4, e5, e6, Option.bind_some]
      obtain ⟨l1, l2, l3, l4, l5, lu⟩ := l
      cases l5 <;> exact fin
    · obtain ⟨p2, q2, e2⟩ := z1' hdB hbB q1
      simp only [e2, Option.bind_some]
      exact fin
    · obtain ⟨p2, q2, e2⟩ := z1' hdB hbB q1
      obtain ⟨p3, q3, e3⟩ := z1' hdB hbB q2
      obtain ⟨p4, q4, e4⟩ := qloopS hdB hbB k hk d zC [] ch k p3 (7, n, 0, zR, zL, [], ()) (by omega) (chain_all hch) (by rw [List.append_nil]; exact q3) (by simp; omega)
      simp only [e2, e3, Option.bind_some]
      rw [show imin ((ch.length : Nat) : Int) 9 = ((ch.length : Nat) : Int) by unfold imin; rw [if_neg (by omega)]]
      exact (congrArg (fun o => Option.bind o _) e4).trans fin
    · obtain ⟨p2, q2, e2⟩ := z2 hdB hbB hn p1 [] (by rw [List.append_nil]; exact q1)
      simp only [e2, Option.bind_some]
      exact fin
  · rw [cmdRd_bad h6 h3 hs hE]
    obtain ⟨o, p1, b1, h1, e1⟩ := s1 hdB hbB 0 false (by omega)
    have e1 : spec_l22Read_one (B, (0 : Int), false, ()) = _ := e1
    rw [e1, Option.bind_some]
    dsimp only
    obtain ⟨h1, h1a, h1b⟩ := h1
    clear e1
    have bad := tail_bad k hk hb hE
    rcases kinds8 o with rfl | rfl | rfl | rfl | rfl | rfl | rfl | rfl | ⟨q1, q2, q3, q4, q5, q6, q7, q8⟩
    iterate 8 (rotate_left)
    · simp only [q1, q2, q3, q4, q5, q6, q7, q8, decide_false, cond_false]
      exact bad _ _
    all_goals simp only [Int.reduceEq, decide_true, decide_false, cond_true, cond_false]
    · obtain ⟨a2, p2, b2, ⟨h2, h2a, h2b⟩, e2⟩ := s1 hdB hbB p1 b1 h1
      obtain ⟨a3, p3, b3, ⟨h3, h3a, h3b⟩, e3⟩ := s1 hdB hbB p2 b2 h2
      simp only [e2, e3, Option.bind_some]
      exact bad _ _
    · obtain ⟨a2, p2, b2, ⟨h2, h2a, h2b⟩, e2⟩ := s1 hdB hbB p1 b1 h1
      simp only [e2, Option.bind_some]
      exact bad _ _
    · obtain ⟨a2, p2, b2, h2, e2⟩ := s2 hdB hbB p1 b1 h1
      obtain ⟨a3, p3, b3, h3, e3⟩ := sX hdB hbB k hk p2 b2 h2
      obtain ⟨a4, p4, b4, h4, e4⟩ := sX hdB hbB k hk p3 b3 h3
      obtain ⟨a5, p5, b5, h5, e5⟩ := sP hdB hbB p4 b4 h4
      obtain ⟨a6, p6, b6, h6, e6⟩ := s2 hdB hbB p5 b5 h5
      obtain ⟨a7, p7, b7, h7, e7⟩ := s2 hdB hbB p6 b6 h6
      obtain ⟨a8, p8, b8, h8, e8⟩ := s2 hdB hbB p7 b7 h7
      obtain ⟨a9, p9, b9, h9, e9⟩ := s2 hdB hbB p8 b8 h8
      obtain ⟨a10, p10, b10, ⟨h10, h10a, h10b⟩, e10⟩ := s1 hdB hbB p9 b9 h9
      obtain ⟨a11, p11, b11, ⟨h11, h11a, h11b⟩, e11⟩ := s1 hdB hbB p10 b10 h10
      obtain ⟨a12, p12, b12, ⟨h12, h12a, h12b⟩, e12⟩ := s1 hdB hbB p11 b11 h11
      simp only [e2, e3, e4, e5, e6, e7, e8, e9, e10, e11, e12, Option.bind_some]
      exact bad _ _
    · obtain ⟨a2, p2, b2, h2, e2⟩ := s2 hdB hbB p1 b1 h1
      simp only [e2, Option.bind_some]
      exact bad _ _
    · obtain ⟨a2, p2, b2, ⟨h2, h2a, h2b⟩, e2⟩ := s1 hdB hbB p1 b1 h1
      obtain ⟨a3, p3, b3, h3, e3⟩ := s4 hdB hbB p2 b2 h2
      obtain ⟨a4, p4, b4, h4, e4⟩ := s4 hdB hbB p3 b3 h3
      obtain ⟨a5, p5, b5, h5, e5⟩ := s4 hdB hbB p4 b4 h4
      obtain ⟨a6, p6, b6, ⟨h6, h6a, h6b⟩, e6⟩ := s1 hdB hbB p5 b5 h5
      simp only [e2, e3, e4, e5, e6, Option.bind_some]
      exact bad _ _
    · obtain ⟨a2, p2, b2, ⟨h2, h2a, h2b⟩, e2⟩ := s1 hdB hbB p1 b1 h1
      simp only [e2, Option.bind_some]
      exact bad _ _
    · obtain ⟨a2, p2, b2, ⟨h2, h2a, h2b⟩, e2⟩ := s1 hdB hbB p1 b1 h1
      obtain ⟨a3, p3, b3, ⟨h3, h3a, h3b⟩, e3⟩ := s1 hdB hbB p2 b2 h2
      simp only [e2, e3, Option.bind_some]
      obtain ⟨c', p', b', hp', e'⟩ := tloopS hdB hbB k hk d zC 9 k p3 b3 (7, a2, 0, zR, zL, [], ()) (imin a3 9) (by unfold imin; split <;> omega) (by omega) h3 (by simp)
      exact (congrArg (fun o => Option.bind o _) e').trans (bad _ _)
    · obtain ⟨a2, p2, b2, h2, e2⟩ := s2 hdB hbB p1 b1 h1
      simp only [e2, Option.bind_some]
      exact bad _ _
end Go.Tw
