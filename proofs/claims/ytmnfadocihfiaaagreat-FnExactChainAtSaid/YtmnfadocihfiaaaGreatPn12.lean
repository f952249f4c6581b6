/- Plain facts on the mirrors of the functions are proved here. -/
import Derived.Test.YtmnfadocihfiaaaGreatPn10
set_option linter.all false
set_option maxRecDepth 100000
set_option maxHeartbeats 4000000
namespace Go.Tw
open Go Sem
theorem bytes_one {a : Int} (h : 0 ≤ a ∧ a ≤ 255) {l : List Int} (hb : bytesP l) : bytesP (a :: l) := fun x hx => by
  rcases List.mem_cons.1 hx with rfl | g
  · exact h
  · exact hb x g
theorem chain_all {l : List D_Module} (h : chainB l = true) : ∀ m ∈ l, modB m = true := by
  unfold chainB at h
  simp only [Bool.and_eq_true_iff, Bool.not_eq_true', List.any_eq_false] at h
  intro m hm
  have := h.2 m hm
  cases g : modB m
  · rw [g] at this; simp at this
  · rfl
theorem QC (k : Nat) (hk : MM < k) {c : D_Cmd} (hc : cmdB c = true) : impl_cursor_cmd k (c.1 % 256 :: bodyB c, ()) = some ((c, ()), (([], ()), ())) := by
  have hM : MM = 1048576 := rfl
  have hB : bytesP (c.1 % 256 :: bodyB c) := bytes_cons (bodyB_bytes c)
  unfold impl_cursor_cmd
  rcases cmd_cases hc with ⟨n, w, e, hn, hw, eb⟩ | ⟨n, e, hn, eb⟩ | ⟨r, e, hr, eb⟩ | ⟨n, e, hn, eb⟩ | ⟨l, e, hl, eb⟩ | ⟨n, e, hn, eb⟩ | ⟨n, ch, e, hn, hch, hlen, eb⟩ | ⟨n, e, hn, eb⟩
  · rw [eb, e] at hB ⊢
    have g1 := bytes_t hB
    have g2 := bytes_t g1
    simp only [Q1 k hk hB, Q1 k hk g1, Q1 k hk g2, Option.bind_some]
    rfl
  · rw [eb, e] at hB ⊢
    have g1 := bytes_t hB
    simp only [Q1 k hk hB, Q1 k hk g1, Option.bind_some]
    rfl
  · rw [eb, e] at hB ⊢
    unfold ruleB at hr
    simp only [Bool.and_eq_true_iff] at hr
    obtain ⟨r1, r2, r3, r4, r5, r6, r7, r8, r9⟩ := hr
    have r1 := in_rng r1
    have r4 := in_rng r4
    have r5 := rng_rng r5
    have r6 := rng_rng r6
    unfold ruleBy at hB ⊢
    have g0 := bytes_t hB
    have g1 := bytes_r g0
    have g2 := bytes_r g1
    have g3 := bytes_r g2
    have g4 := bytes_r g3
    have g5 := bytes_r g4
    have g6 := bytes_r g5
    have g7 := bytes_r g6
    have g8 := bytes_r g7
    have g9 := bytes_t g8
    have g10 := bytes_t g9
    simp only [Q1 k hk hB, Q2 k hk (by omega) g0, QX k hk r2 g1, QX k hk r3 g2, QP k hk r4 g3, Q2 k hk (by omega) g4, Q2 k hk (by omega) g5, Q2 k hk (by omega) g6, Q2 k hk (by omega) g7, Q1 k hk g8, Q1 k hk g9, Q1 k hk g10, Option.bind_some]
    rfl
  · rw [eb, e] at hB ⊢
    have g1 := bytes_t hB
    have q := Q2 k hk hn (r := []) (by rw [List.append_nil]; exact g1)
    rw [List.append_nil] at q
    simp only [Q1 k hk hB, q, Option.bind_some]
    rfl
  · rw [eb, e] at hB ⊢
    unfold limB at hl
    simp only [Bool.and_eq_true_iff] at hl
    obtain ⟨r1, r2, r3, r4⟩ := hl
    have r1 := in_rng r1
    have r2 := in_rng r2
    have r3 := in_rng r3
    have r4 := in_rng r4
    unfold limBy at hB ⊢
    have g0 := bytes_t hB
    have g1 := bytes_t g0
    have g2 := bytes_r g1
    have g3 := bytes_r g2
    have g4 := bytes_r g3
    simp only [Q1 k hk hB, Q1 k hk g0, Q4 k hk (show 0 ≤ l.2.1 ∧ l.2.1 ≤ 4294967295 by omega) g1, Q4 k hk (show 0 ≤ l.2.2.1 ∧ l.2.2.1 ≤ 4294967295 by omega) g2, Q4 k hk (show 0 ≤ l.2.2.2.1 ∧ l.2.2.2.1 ≤ 4294967295 by omega) g3, Q1 k hk g4, Option.bind_some]
    obtain ⟨a, b, c, d, f, u⟩ := l
    cases f <;> rfl
  · rw [eb, e] at hB ⊢
    have g1 := bytes_t hB
    simp only [Q1 k hk hB, Q1 k hk g1, Option.bind_some]
    rfl
  · rw [eb, e] at hB ⊢
    have g1 := bytes_t hB
    have g2 := bytes_t g1
    have g3 := bytes_t g2
    have L := qloop k hk ch.length hlen zC [] ch 0 k (7, n, 0, zR, zL, [], ()) (by omega) (by omega) (chain_all hch) (by rw [List.append_nil]; exact g3) (by simp)
    rw [List.append_nil] at L
    simp only [Q1 k hk hB, Q1 k hk g1, Q1 k hk g2, Option.bind_some]
    simp only [show (7 : Int) % 256 = 7 from rfl, Int.reduceEq, decide_true, decide_false, cond_true, cond_false]
    exact (congrArg (fun o => Option.bind o _) L).trans rfl
  · rw [eb, e] at hB ⊢
    have g1 := bytes_t hB
    have q := Q2 k hk hn (r := []) (by rw [List.append_nil]; exact g1)
    rw [List.append_nil] at q
    simp only [Q1 k hk hB, q, Option.bind_some]
    rfl
end Go.Tw
