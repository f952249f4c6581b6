/- Plain facts on the mirrors of the functions are proved here. -/
import Derived.Test.YtmnfadocihfiaaaGreatPn13
set_option linter.all false
set_option maxRecDepth 100000
set_option maxHeartbeats 4000000
namespace Go.Tw
open Go Sem
theorem getD_drop {d : List Int} {p : Nat} {x : Int} {r : List Int} (h : d.drop p = x :: r) : p < d.length ∧ d.getD p 0 = x ∧ d.drop (p + 1) = r := by
  have hp : p < d.length := by
    rcases Nat.lt_or_ge p d.length with g | g
    · exact g
    · rw [List.drop_of_length_le g] at h; cases h
  rw [drop_at d 0 p hp] at h
  injection h with h1 h2
  exact ⟨hp, h1, h2⟩
theorem one_at {d : List Int} (hd : d.length ≤ 600) (hb : bytesP d) {p : Nat} (hp : p < d.length) (b : Bool) : spec_l22Read_one (d, (p : Int), b, ()) = some ((d.getD p 0, ()), ((d, ((p + 1 : Nat) : Int), b, ()), ())) := by
  unfold spec_l22Read_one
  dsimp only
  rw [bif_f (decide_eq_false (by omega)), w64 (n := (p : Int) + 1) (by omega), w64 (n := (p : Int) + 1 - 1) (by omega), show (p : Int) + 1 - 1 = (p : Int) by omega]
  rw [bif_t (Bool.and_eq_true_iff.2 ⟨decide_eq_true (by omega), decide_eq_true (by omega)⟩), bif_t (decide_eq_true (by omega)), Int.toNat_natCast]
  have := hb _ (getD_mem d 0 p hp)
  rw [w64 (by omega)]
  rfl
theorem one_end {d : List Int} {p : Nat} (hp : ¬ p < d.length) (b : Bool) : spec_l22Read_one (d, (p : Int), b, ()) = some (((0 : Int), ()), ((d, (p : Int), true, ()), ())) := by
  unfold spec_l22Read_one
  exact bif_t (decide_eq_true (by dsimp only; omega))
section
variable {d : List Int} (hd : d.length ≤ 600) (hb : bytesP d)
def TotS (d : List Int) {α : Type} (f : D_l22Read → Option ((α × Unit) × (D_l22Read × Unit))) : Prop := ∀ p b, p ≤ d.length → ∃ a p' b', p' ≤ d.length ∧ f (d, ((p : Nat) : Int), b, ()) = some ((a, ()), ((d, ((p' : Nat) : Int), b', ()), ()))
def RtS (d : List Int) {α : Type} (f : D_l22Read → Option ((α × Unit) × (D_l22Read × Unit))) (e : List Int) (v : α) : Prop := ∀ p r, d.drop p = e ++ r → ∃ p', d.drop p' = r ∧ f (d, ((p : Nat) : Int), false, ()) = some ((v, ()), ((d, ((p' : Nat) : Int), false, ()), ()))
include hd hb
theorem s1 (p : Nat) (b : Bool) (hp : p ≤ d.length) : ∃ a p' b', (p' ≤ d.length ∧ 0 ≤ a ∧ a ≤ 255) ∧ spec_l22Read_one (d, ((p : Nat) : Int), b, ()) = some ((a, ()), ((d, ((p' : Nat) : Int), b', ()), ())) := by
  by_cases h : p < d.length
  · have := hb _ (getD_mem d 0 p h)
    exact ⟨_, _, _, ⟨by omega, this⟩, one_at hd hb h b⟩
  · exact ⟨_, _, _, ⟨hp, by omega, by omega⟩, one_end h b⟩
theorem s2 : TotS d spec_l22Read_two := fun p b hp => by
  unfold spec_l22Read_two
  obtain ⟨a1, p1, b1, h1, e1⟩ := s1 hd hb p b hp
  obtain ⟨a2, p2, b2, h2, e2⟩ := s1 hd hb p1 b1 h1.1
  simp only [e1, e2, Option.bind_some]
  exact ⟨_, _, _, h2.1, rfl⟩
theorem s4 : TotS d spec_l22Read_four := fun p b hp => by
  unfold spec_l22Read_four
  obtain ⟨a1, p1, b1, h1, e1⟩ := s2 hd hb p b hp
  obtain ⟨a2, p2, b2, h2, e2⟩ := s2 hd hb p1 b1 h1
  simp only [e1, e2, Option.bind_some]
  exact ⟨_, _, _, h2, rfl⟩
theorem sP : TotS d spec_l22Read_proto := fun p b hp => by
  unfold spec_l22Read_proto
  obtain ⟨a1, p1, b1, h1, e1⟩ := s2 hd hb p b hp
  simp only [e1, Option.bind_some]
  by_cases g : a1 = 65535
  · exact ⟨_, _, _, h1, bif_t (decide_eq_true g)⟩
  · exact ⟨_, _, _, h1, bif_f (decide_eq_false g)⟩
theorem sX (k : Nat) (hk : MM < k) : TotS d (spec_l22Read_prefix k) := fun p b hp => by
  unfold spec_l22Read_prefix
  obtain ⟨a, p1, b1, h1, e1⟩ := s1 hd hb p b hp
  simp only [e1, Option.bind_some]
  have w16 : IntKind.wrap .i64 ((p1 : Int) + 16) = ((p1 + 16 : Nat) : Int) := w64 (by omega)
  have w4 : IntKind.wrap .i64 ((p1 : Int) + 4) = ((p1 + 4 : Nat) : Int) := w64 (by omega)
  have bad : ∀ {P : D_Prefix} {x : Bool}, ∃ a p' b', p' ≤ d.length ∧ (bif !b1 then some ((P, ()), ((d, ((p1 : Nat) : Int), x, ()), ())) else some ((P, ()), ((d, ((p1 : Nat) : Int), true, ()), ()))) = some ((a, ()), ((d, ((p' : Nat) : Int), b', ()), ())) := by
    intro P x
    cases b1
    · exact ⟨_, _, _, h1.1, rfl⟩
    · exact ⟨_, _, _, h1.1, rfl⟩
  simp only [w16, w4, Int.toNat_natCast]
  have X : ∀ {n : Nat}, (p1 + n) ≤ d.length → ∃ a p' b', p' ≤ d.length ∧ (spec_AddrOf k (List.take (p1 + n - p1) (List.drop p1 d))).bind (fun t => (spec_l22Read_one (d, ((p1 + n : Nat) : Int), b1, ())).bind fun t5 => some (((t.1.1, t5.1), ()), t5.2)) = some ((a, ()), ((d, ((p' : Nat) : Int), b', ()), ())) := by
    intro n hn
    rw [addrOfS k hk _ (take_b (drop_b hb _) _)]
    obtain ⟨a2, p2, b2, h2, e2⟩ := s1 hd hb (p1 + n) b1 hn
    rw [Option.bind_some, e2]
    exact ⟨_, _, _, h2.1, rfl⟩
  by_cases g6 : a = 6
  · subst g6
    simp only [Int.reduceEq, decide_true, decide_false, cond_true, cond_false, Bool.not_true, Bool.not_false]
    by_cases q : ((d.length : Nat) : Int) < ((p1 + 16 : Nat) : Int)
    · rw [decide_eq_true q]; exact bad
    · rw [decide_eq_false q, cond_false, bif_t (Bool.and_eq_true_iff.2 ⟨Bool.and_eq_true_iff.2 ⟨decide_eq_true (by omega), decide_eq_true (by omega)⟩, decide_eq_true (by omega)⟩)]
      exact X (n := 16) (by omega)
  · rw [decide_eq_false g6]
    by_cases g4 : a = 4
    · subst g4
      simp only [Int.reduceEq, decide_true, decide_false, cond_true, cond_false, Bool.not_true, Bool.not_false]
      by_cases q : ((d.length : Nat) : Int) < ((p1 + 4 : Nat) : Int)
      · rw [decide_eq_true q]; exact bad
      · rw [decide_eq_false q, cond_false, bif_t (Bool.and_eq_true_iff.2 ⟨Bool.and_eq_true_iff.2 ⟨decide_eq_true (by omega), decide_eq_true (by omega)⟩, decide_eq_true (by omega)⟩)]
        exact X (n := 4) (by omega)
    · rw [decide_eq_false g4]
      simp only [cond_false, Bool.not_false, Bool.not_true, cond_true]
      cases decide (a = 0)
      · exact bad
      · exact bad
theorem z1 (x : Int) : RtS d spec_l22Read_one [x] x := fun p r h => by
  obtain ⟨h1, h2, h3⟩ := getD_drop h
  exact ⟨p + 1, h3, by rw [one_at hd hb h1, h2]⟩
theorem z1' {x : Int} {p : Nat} {r : List Int} (h : d.drop p = x :: r) : ∃ p', d.drop p' = r ∧ spec_l22Read_one (d, ((p : Nat) : Int), false, ()) = some ((x, ()), ((d, ((p' : Nat) : Int), false, ()), ())) := z1 hd hb x p r h
theorem z2 {x : Int} (hx : 0 ≤ x ∧ x ≤ 65535) : RtS d spec_l22Read_two (putB x 2) x := fun p r h => by
  unfold spec_l22Read_two
  rw [putB2] at h
  obtain ⟨p1, h1, e1⟩ := z1' hd hb h
  obtain ⟨p2, h2, e2⟩ := z1' hd hb h1
  simp only [e1, e2, Option.bind_some]
  refine ⟨p2, h2, ?_⟩
  rw [w64 (n := 256 * (x / 256 % 256)) (by omega), w64 (by omega), show 256 * (x / 256 % 256) + x % 256 = x by omega]
theorem z4 {x : Int} (hx : 0 ≤ x ∧ x ≤ 4294967295) : RtS d spec_l22Read_four (putB x 4) x := fun p r h => by
  unfold spec_l22Read_four
  have e : putB x 4 ++ r = putB (x / 65536) 2 ++ (putB (x % 65536) 2 ++ r) := by
    rw [putB4, putB2, putB2, show x / 65536 / 256 % 256 = x / 16777216 % 256 by omega, show x % 65536 / 256 % 256 = x / 256 % 256 by omega, show x % 65536 % 256 = x % 256 by omega]
    rfl
  rw [e] at h
  obtain ⟨p1, h1, e1⟩ := z2 hd hb (show 0 ≤ x / 65536 ∧ x / 65536 ≤ 65535 by omega) p _ h
  obtain ⟨p2, h2, e2⟩ := z2 hd hb (show 0 ≤ x % 65536 ∧ x % 65536 ≤ 65535 by omega) p1 _ h1
  simp only [e1, e2, Option.bind_some]
  refine ⟨p2, h2, ?_⟩
  rw [w64 (n := 65536 * (x / 65536)) (by omega), w64 (by omega), show 65536 * (x / 65536) + x % 65536 = x by omega]
theorem zP' {x : Int} (hx : -1 ≤ x ∧ x ≤ 255) : RtS d spec_l22Read_proto (putB x 2) x := fun p r h => by
  unfold spec_l22Read_proto
  by_cases g : x = -1
  · subst g
    obtain ⟨p1, h1, e1⟩ := z2 hd hb (show (0 : Int) ≤ 65535 ∧ (65535 : Int) ≤ 65535 by omega) p r h
    simp only [e1, Option.bind_some]
    exact ⟨p1, h1, rfl⟩
  · obtain ⟨p1, h1, e1⟩ := z2 hd hb (show 0 ≤ x ∧ x ≤ 65535 by omega) p r h
    simp only [e1, Option.bind_some]
    exact ⟨p1, h1, bif_f (decide_eq_false (by omega))⟩
theorem drop_app {e r : List Int} {p : Nat} (h : d.drop p = e ++ r) (he : e ≠ []) : p + e.length ≤ d.length ∧ d.drop (p + e.length) = r ∧ (d.drop p).take e.length = e := by
  have h1 := congrArg List.length h
  rw [List.length_drop, List.length_append] at h1
  have : 0 < e.length := List.length_pos_iff.2 he
  refine ⟨by omega, ?_, ?_⟩
  · rw [← List.drop_drop, h, List.drop_left' rfl]
  · rw [h, List.take_left' rfl]
theorem zX (k : Nat) (hk : MM < k) {P : D_Prefix} (hp : prefB P = true) : RtS d (spec_l22Read_prefix k) (prefBy P) P := fun p r h => by
  unfold spec_l22Read_prefix
  rcases pref_cases hp with ⟨e1, e2⟩ | ⟨D, n, e1, hD, hn, e2⟩ | ⟨a, b, c, D, n, e1, h1, h2, h3, h4, hn, e2⟩
  · rw [e2] at h
    obtain ⟨p1, h1, q1⟩ := z1' hd hb h
    simp only [q1, Option.bind_some]
    exact ⟨p1, h1, by rw [e1]; rfl⟩
  · rw [e2] at h
    simp only [List.cons_append, List.append_assoc, List.nil_append] at h
    obtain ⟨p1, g1, q1⟩ := z1' hd hb h
    obtain ⟨g2, g3, g4⟩ := drop_app hd hb g1 (by rw [putB4]; simp)
    rw [putB_len] at g2 g3 g4
    obtain ⟨p2, g5, q2⟩ := z1' hd hb g3
    have w4 : IntKind.wrap .i64 ((p1 : Int) + 4) = ((p1 + 4 : Nat) : Int) := w64 (by omega)
    simp only [q1, Option.bind_some, w4, Int.toNat_natCast, Int.reduceEq, decide_true, decide_false, cond_true, cond_false, Bool.not_true, Bool.not_false]
    rw [bif_f (decide_eq_false (by omega)), bif_t (Bool.and_eq_true_iff.2 ⟨Bool.and_eq_true_iff.2 ⟨decide_eq_true (by omega), decide_eq_true (by omega)⟩, decide_eq_true (by omega)⟩), show p1 + 4 - p1 = 4 by omega, g4, addrOfS k hk _ (bytes_put _ _), Option.bind_some, q2]
    refine ⟨p2, g5, ?_⟩
    have eA : addrOf (putB D 4) = ((4, 0, 0, 0, D, ()), true) := by
      unfold addrOf
      rw [bif_t (decide_eq_true (by rw [putB_len]; rfl)), beB_put, show D % ((256 ^ 4 : Nat) : Int) = D by show D % 4294967296 = D; omega]
    rw [eA, e1]
    rfl
  · rw [e2] at h
    simp only [List.cons_append, List.append_assoc, List.nil_append] at h
    obtain ⟨p1, g1, q1⟩ := z1' hd hb h
    have g1' : d.drop p1 = (putB a 4 ++ (putB b 4 ++ (putB c 4 ++ putB D 4))) ++ (n :: r) := by rw [g1]; simp only [List.append_assoc]
    obtain ⟨g2, g3, g4⟩ := drop_app hd hb g1' (by rw [putB4]; simp)
    have gl : (putB a 4 ++ (putB b 4 ++ (putB c 4 ++ putB D 4))).length = 16 := by simp only [List.length_append, putB_len]
    rw [gl] at g2 g3 g4
    obtain ⟨p2, g5, q2⟩ := z1' hd hb g3
    have w16 : IntKind.wrap .i64 ((p1 : Int) + 16) = ((p1 + 16 : Nat) : Int) := w64 (by omega)
    simp only [q1, Option.bind_some, w16, Int.toNat_natCast, Int.reduceEq, decide_true, decide_false, cond_true, cond_false, Bool.not_true, Bool.not_false]
    rw [bif_f (decide_eq_false (by omega)), bif_t (Bool.and_eq_true_iff.2 ⟨Bool.and_eq_true_iff.2 ⟨decide_eq_true (by omega), decide_eq_true (by omega)⟩, decide_eq_true (by omega)⟩), show p1 + 16 - p1 = 16 by omega, g4, addrOfS k hk _ (bytes_app (bytes_put _ _) (bytes_app (bytes_put _ _) (bytes_app (bytes_put _ _) (bytes_put _ _)))), Option.bind_some, q2]
    refine ⟨p2, g5, ?_⟩
    have M : ∀ x : Int, 0 ≤ x ∧ x ≤ 4294967295 → beB (putB x 4) = x := fun x hx => beB_of (m := 4) (by show 0 ≤ x ∧ x < 4294967296; omega)
    have eA : addrOf (putB a 4 ++ (putB b 4 ++ (putB c 4 ++ putB D 4))) = ((6, a, b, c, D, ()), true) := by
      unfold addrOf
      have t0 : (putB a 4 ++ (putB b 4 ++ (putB c 4 ++ putB D 4))).take 4 = putB a 4 := List.take_left' (putB_len a 4)
      have d4 : (putB a 4 ++ (putB b 4 ++ (putB c 4 ++ putB D 4))).drop 4 = putB b 4 ++ (putB c 4 ++ putB D 4) := List.drop_left' (putB_len a 4)
      have d8 : (putB a 4 ++ (putB b 4 ++ (putB c 4 ++ putB D 4))).drop 8 = putB c 4 ++ putB D 4 := by
        rw [show (8 : Nat) = 4 + 4 from rfl, ← List.drop_drop, d4]; exact List.drop_left' (putB_len b 4)
      have d12 : (putB a 4 ++ (putB b 4 ++ (putB c 4 ++ putB D 4))).drop 12 = putB D 4 := by
        rw [show (12 : Nat) = 8 + 4 from rfl, ← List.drop_drop, d8]; exact List.drop_left' (putB_len c 4)
      rw [bif_f (decide_eq_false (by rw [gl]; decide)), bif_t (decide_eq_true (by rw [gl]; rfl)), t0, d4, d8, d12, List.take_left' (putB_len b 4), List.take_left' (putB_len c 4), List.take_of_length_le (by rw [putB_len]; omega), M a h1, M b h2, M c h3, M D h4]
    rw [eA, e1]
    rfl
end
end Go.Tw
