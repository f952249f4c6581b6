/- Plain facts on the mirrors of the functions are proved here. -/
import Derived.Test.YtmnfadocihfiaaaGreatPn8
set_option linter.all false
set_option maxRecDepth 100000
set_option maxHeartbeats 4000000
namespace Go.Tw
open Go Sem
theorem any_pref {p : D_Prefix} (h : anyP p = true) : prefB p = true := by unfold prefB; rw [h]; rfl
theorem in_rng {x a b : Int} (h : inB x a b = true) : a ≤ x ∧ x ≤ b := by
  simpa [inB, Bool.and_eq_true_iff] using h
theorem rng_rng {a b : Int} (h : rngB a b = true) : 0 ≤ a ∧ a ≤ b ∧ b ≤ 65535 := by
  simpa [rngB, Bool.and_eq_true_iff] using h
theorem z3_eq {a b c : Int} (h : z3 a b c = true) : a = 0 ∧ b = 0 ∧ c = 0 := by
  simpa [z3, Bool.and_eq_true_iff] using h
theorem twin_pref {a b : D_Prefix} (h : twinB a b = true) : prefB a = true ∧ prefB b = true := by
  unfold twinB at h
  simp only [Bool.and_eq_true_iff] at h
  exact ⟨h.1, h.2.1⟩
theorem mod_rng {m : D_Module} (h : modB m = true) : (0 ≤ m.1 ∧ m.1 ≤ 255) ∧ prefB m.2.1 = true ∧ prefB m.2.2.1 = true ∧ (-1 ≤ m.2.2.2.1 ∧ m.2.2.2.1 ≤ 255) ∧ (0 ≤ m.2.2.2.2.1 ∧ m.2.2.2.2.1 ≤ 65535) ∧ (0 ≤ m.2.2.2.2.2.1 ∧ m.2.2.2.2.2.1 ≤ 65535) ∧ (0 ≤ m.2.2.2.2.2.2.1 ∧ m.2.2.2.2.2.2.1 ≤ 255) := by
  obtain ⟨c, f, t, pr, lo, hi, n, u⟩ := m
  unfold modB at h
  dsimp only at h ⊢
  have X : ∀ {b1 b2 b3 : Bool} {q1 q2 : Int}, ((anyP f && anyP t) && (z3 pr lo hi && b3)) = true → prefB f = true ∧ prefB t = true ∧ (pr = 0 ∧ lo = 0 ∧ hi = 0) ∧ b3 = true := by
    intro b1 b2 b3 q1 q2 h
    simp only [Bool.and_eq_true_iff] at h
    exact ⟨any_pref h.1.1, any_pref h.1.2, z3_eq h.2.1, h.2.2⟩
  have Y : ∀ {b3 : Bool}, (twinB f t && (z3 pr lo hi && b3)) = true → prefB f = true ∧ prefB t = true ∧ (pr = 0 ∧ lo = 0 ∧ hi = 0) ∧ b3 = true := by
    intro b3 h
    simp only [Bool.and_eq_true_iff] at h
    exact ⟨(twin_pref h.1).1, (twin_pref h.1).2, z3_eq h.2.1, h.2.2⟩
  rcases kinds c with rfl | rfl | rfl | rfl | rfl | rfl | rfl | ⟨h1, h2, h3, h4, h5, h6, h7, _⟩
  · have h' : (prefB f && (prefB t && (inB pr (-1) 255 && (rngB lo hi && decide (n = 0))))) = true := h
    simp only [Bool.and_eq_true_iff, decide_eq_true_eq] at h'
    have a1 := in_rng h'.2.2.1
    have a2 := rng_rng h'.2.2.2.1
    exact ⟨by omega, h'.1, h'.2.1, by omega, by omega, by omega, by have := h'.2.2.2.2; omega⟩
  · obtain ⟨g1, g2, g3, g4⟩ := Y (b3 := decide (n = 0)) h
    have g5 : n = 0 := of_decide_eq_true g4
    exact ⟨by omega, g1, g2, by omega, by omega, by omega, by omega⟩
  · obtain ⟨g1, g2, g3, g4⟩ := Y (b3 := decide (n = 0)) h
    have g5 : n = 0 := of_decide_eq_true g4
    exact ⟨by omega, g1, g2, by omega, by omega, by omega, by omega⟩
  · obtain ⟨g1, g2, g3, g4⟩ := X (b1 := true) (b2 := true) (q1 := 0) (q2 := 0) (b3 := decide (n = 0)) h
    have g5 : n = 0 := of_decide_eq_true g4
    exact ⟨by omega, g1, g2, by omega, by omega, by omega, by omega⟩
  · obtain ⟨g1, g2, g3, g4⟩ := X (b1 := true) (b2 := true) (q1 := 0) (q2 := 0) (b3 := inB n 0 63) h
    have g5 := in_rng g4
    exact ⟨by omega, g1, g2, by omega, by omega, by omega, by omega⟩
  · obtain ⟨g1, g2, g3, g4⟩ := X (b1 := true) (b2 := true) (q1 := 0) (q2 := 0) (b3 := decide (n = 0)) h
    have g5 : n = 0 := of_decide_eq_true g4
    exact ⟨by omega, g1, g2, by omega, by omega, by omega, by omega⟩
  · obtain ⟨g1, g2, g3, g4⟩ := X (b1 := true) (b2 := true) (q1 := 0) (q2 := 0) (b3 := inB n 1 4) h
    have g5 := in_rng g4
    exact ⟨by omega, g1, g2, by omega, by omega, by omega, by omega⟩
  · simp [h1, h2, h3, h4, h5, h6, h7] at h
def zR : D_Rule := (0, zP, zP, 0, 0, 0, 0, 0, 0, 0, 0, ())
def zL : D_Limits := (0, 0, 0, 0, false, ())
theorem r0_eq {r : D_Rule} (h : r0B r = true) : r = zR := by
  unfold r0B at h
  simp only [Bool.and_eq_true_iff, decide_eq_true_eq] at h
  obtain ⟨h1, h2, h3, h4, h5, h6, h7, h8, h9, h10, h11, _⟩ := h
  obtain ⟨a, b, c, d, e, f, g, i, j, l, m, u⟩ := r
  dsimp only at *
  have b1 := anyP_eq h2
  have b2 := anyP_eq h3
  subst h1 b1 b2 h4 h5 h6 h7 h8 h9 h10 h11
  rfl
theorem l0_eq {l : D_Limits} (h : l0B l = true) : l = zL := by
  unfold l0B at h
  simp only [Bool.and_eq_true_iff, decide_eq_true_eq] at h
  obtain ⟨h1, h2, h3, h4, h5, _⟩ := h
  obtain ⟨a, b, c, d, e, u⟩ := l
  dsimp only at *
  have b5 : e = false := by cases e; rfl; cases h5
  subst h1 h2 h3 h4 b5
  rfl
theorem len0 {α : Type} {l : List α} (h : decide (((l.length : Nat) : Int) = 0) = true) : l = [] := by
  have := of_decide_eq_true h
  exact List.length_eq_zero_iff.1 (by omega)
theorem plain_eq {o n w : Int} {r : D_Rule} {l : D_Limits} {ch : List D_Module} {u : Unit} (h : plainB (o, n, w, r, l, ch, u) = true) : r = zR ∧ l = zL ∧ ch = [] := by
  unfold plainB at h
  simp only [Bool.and_eq_true_iff] at h
  exact ⟨r0_eq h.1, l0_eq h.2.1, len0 h.2.2⟩
theorem zer_eq {o n w : Int} {r : D_Rule} {l : D_Limits} {ch : List D_Module} {u : Unit} (h : zerB (o, n, w, r, l, ch, u) = true) : n = 0 ∧ w = 0 ∧ ch = [] := by
  unfold zerB at h
  simp only [Bool.and_eq_true_iff] at h
  exact ⟨of_decide_eq_true h.1, of_decide_eq_true h.2.1, len0 h.2.2⟩
def ruleBy (r : D_Rule) : List Int := putB r.1 2 ++ (prefBy r.2.1 ++ (prefBy r.2.2.1 ++ (putB r.2.2.2.1 2 ++ (putB r.2.2.2.2.1 2 ++ (putB r.2.2.2.2.2.1 2 ++ (putB r.2.2.2.2.2.2.1 2 ++ (putB r.2.2.2.2.2.2.2.1 2 ++ [r.2.2.2.2.2.2.2.2.1, r.2.2.2.2.2.2.2.2.2.1, r.2.2.2.2.2.2.2.2.2.2.1])))))))
def limBy (l : D_Limits) : List Int := l.1 :: (putB l.2.1 4 ++ (putB l.2.2.1 4 ++ (putB l.2.2.2.1 4 ++ [bif l.2.2.2.2.1 then 1 else 0])))
theorem cmd_cases {c : D_Cmd} (h : cmdB c = true) :
    (∃ n w, c = (1, n, w, zR, zL, [], ()) ∧ (0 ≤ n ∧ n ≤ 255) ∧ (0 ≤ w ∧ w ≤ 255) ∧ bodyB c = [n, w]) ∨
    (∃ n, c = (2, n, 0, zR, zL, [], ()) ∧ (0 ≤ n ∧ n ≤ 255) ∧ bodyB c = [n]) ∨
    (∃ r, c = (3, 0, 0, r, zL, [], ()) ∧ ruleB r = true ∧ bodyB c = ruleBy r) ∨
    (∃ n, c = (4, n, 0, zR, zL, [], ()) ∧ (0 ≤ n ∧ n ≤ 65535) ∧ bodyB c = putB n 2) ∨
    (∃ l, c = (5, 0, 0, zR, l, [], ()) ∧ limB l = true ∧ bodyB c = limBy l) ∨
    (∃ n, c = (6, n, 0, zR, zL, [], ()) ∧ (0 ≤ n ∧ n ≤ 255) ∧ bodyB c = [n]) ∨
    (∃ n ch, c = (7, n, 0, zR, zL, ch, ()) ∧ (0 ≤ n ∧ n ≤ 255) ∧ chainB ch = true ∧ ch.length ≤ 8 ∧ bodyB c = n :: ((ch.length : Nat) : Int) :: chB ch) ∨
    (∃ n, c = (8, n, 0, zR, zL, [], ()) ∧ (0 ≤ n ∧ n ≤ 65535) ∧ bodyB c = putB n 2) := by
  have hl := cmdB_len h
  obtain ⟨o, n, w, r, l, ch, u⟩ := c
  rcases kinds8 o with rfl | rfl | rfl | rfl | rfl | rfl | rfl | rfl | ⟨h1, h2, h3, h4, h5, h6, h7, h8⟩
  · have h' : (plainB (1, n, w, r, l, ch, u) && (inB n 1 8 && inB w 1 10)) = true := h
    simp only [Bool.and_eq_true_iff] at h'
    obtain ⟨g1, g2, g3⟩ := plain_eq h'.1
    subst g1 g2 g3
    have q1 := in_rng h'.2.1
    have q2 := in_rng h'.2.2
    refine .inl ⟨n, w, rfl, by omega, by omega, ?_⟩
    show [n % 256, w % 256] = _
    rw [m8 (by omega), m8 (by omega)]
  · have h' : (plainB (2, n, w, r, l, ch, u) && (inB n 1 8 && decide (w = 0))) = true := h
    simp only [Bool.and_eq_true_iff, decide_eq_true_eq] at h'
    obtain ⟨g1, g2, g3⟩ := plain_eq h'.1
    have g4 := h'.2.2
    subst g1 g2 g3 g4
    have q1 := in_rng h'.2.1
    refine .inr (.inl ⟨n, rfl, by omega, ?_⟩)
    show [n % 256] = _
    rw [m8 (by omega)]
  · have h' : (zerB (3, n, w, r, l, ch, u) && (l0B l && ruleB r)) = true := h
    simp only [Bool.and_eq_true_iff] at h'
    obtain ⟨g1, g2, g3⟩ := zer_eq h'.1
    have g4 := l0_eq h'.2.1
    subst g1 g2 g3 g4
    refine .inr (.inr (.inl ⟨r, rfl, h'.2.2, ?_⟩))
    have q := h'.2.2
    unfold ruleB at q
    simp only [Bool.and_eq_true_iff] at q
    have q1 := in_rng q.2.2.2.2.2.2.1
    have q2 := in_rng q.2.2.2.2.2.2.2.1
    have q3 := in_rng q.2.2.2.2.2.2.2.2
    show putB r.1 2 ++ (prefBy r.2.1 ++ (prefBy r.2.2.1 ++ (twos [r.2.2.2.1, r.2.2.2.2.1, r.2.2.2.2.2.1, r.2.2.2.2.2.2.1, r.2.2.2.2.2.2.2.1] ++ [r.2.2.2.2.2.2.2.2.1 % 256, r.2.2.2.2.2.2.2.2.2.1 % 256, r.2.2.2.2.2.2.2.2.2.2.1 % 256]))) = _
    rw [m8 (x := r.2.2.2.2.2.2.2.2.1) (by omega), m8 (x := r.2.2.2.2.2.2.2.2.2.1) (by omega), m8 (x := r.2.2.2.2.2.2.2.2.2.2.1) (by omega)]
    unfold ruleBy twos
    simp only [List.flatMap_cons, List.flatMap_nil, List.append_assoc, List.nil_append, List.append_nil]
  · have h' : (plainB (4, n, w, r, l, ch, u) && (inB n 1 9999 && decide (w = 0))) = true := h
    simp only [Bool.and_eq_true_iff, decide_eq_true_eq] at h'
    obtain ⟨g1, g2, g3⟩ := plain_eq h'.1
    have g4 := h'.2.2
    subst g1 g2 g3 g4
    have q1 := in_rng h'.2.1
    exact .inr (.inr (.inr (.inl ⟨n, rfl, by omega, rfl⟩)))
  · have h' : (zerB (5, n, w, r, l, ch, u) && (r0B r && limB l)) = true := h
    simp only [Bool.and_eq_true_iff] at h'
    obtain ⟨g1, g2, g3⟩ := zer_eq h'.1
    have g4 := r0_eq h'.2.1
    subst g1 g2 g3 g4
    refine .inr (.inr (.inr (.inr (.inl ⟨l, rfl, h'.2.2, ?_⟩))))
    have q := h'.2.2
    unfold limB at q
    simp only [Bool.and_eq_true_iff] at q
    have q1 := in_rng q.1
    show l.1 % 256 :: _ = _
    rw [m8 (by omega)]
    rfl
  · have h' : (plainB (6, n, w, r, l, ch, u) && (inB n 0 1 && decide (w = 0))) = true := h
    simp only [Bool.and_eq_true_iff, decide_eq_true_eq] at h'
    obtain ⟨g1, g2, g3⟩ := plain_eq h'.1
    have g4 := h'.2.2
    subst g1 g2 g3 g4
    have q1 := in_rng h'.2.1
    refine .inr (.inr (.inr (.inr (.inr (.inl ⟨n, rfl, by omega, ?_⟩)))))
    show [n % 256] = _
    rw [m8 (by omega)]
  · have h' : ((decide (w = 0) && (r0B r && l0B l)) && (inB n 1 8 && chainB ch)) = true := h
    simp only [Bool.and_eq_true_iff, decide_eq_true_eq] at h'
    obtain ⟨⟨g1, g2, g3⟩, g4, g5⟩ := h'
    have g2 := r0_eq g2
    have g3 := l0_eq g3
    subst g1 g2 g3
    have q1 := in_rng g4
    dsimp only at hl
    refine .inr (.inr (.inr (.inr (.inr (.inr (.inl ⟨n, ch, rfl, by omega, g5, hl, ?_⟩))))))
    show n % 256 :: (((ch.length : Nat) : Int) % 256) :: ch.flatMap modBy = _
    rw [m8 (by omega), m8 (by omega)]
    rfl
  · have h' : (plainB (8, n, w, r, l, ch, u) && (inB n 1 1000 && decide (w = 0))) = true := h
    simp only [Bool.and_eq_true_iff, decide_eq_true_eq] at h'
    obtain ⟨g1, g2, g3⟩ := plain_eq h'.1
    have g4 := h'.2.2
    subst g1 g2 g3 g4
    have q1 := in_rng h'.2.1
    exact .inr (.inr (.inr (.inr (.inr (.inr (.inr ⟨n, rfl, by omega, rfl⟩))))))
  · unfold cmdB at h; simp [h1, h2, h3, h4, h5, h6, h7, h8] at h
end Go.Tw
