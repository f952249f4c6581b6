/- Plain facts on the mirrors of the functions are proved here. -/
import Derived.Test.YtmnfadocihfiaaaGreatPn6
set_option linter.all false
set_option maxRecDepth 100000
set_option maxHeartbeats 4000000
namespace Go.Tw
open Go Sem
theorem cmdByS (k : Nat) (hk : MM < k) (c : D_Cmd) : spec_CmdBytes k c = some ((cmdBy c, ()), ()) := by
  unfold spec_CmdBytes cmdBy
  rw [cmdS k hk]
  simp only [Option.bind_some]
  cases h : cmdB c
  case false => rfl
  have hl := cmdB_len h
  have hB := bodyB_le hl
  have hy := bytes_cons (a := c.1) (bodyB_bytes c)
  have h8 : c.1 = 1 ∨ c.1 = 2 ∨ c.1 = 3 ∨ c.1 = 4 ∨ c.1 = 5 ∨ c.1 = 6 ∨ c.1 = 7 ∨ c.1 = 8 := by
    rcases kinds8 c.1 with h | h | h | h | h | h | h | h | ⟨h1, h2, h3, h4, h5, h6, h7, h8⟩
    iterate 8 (· simp [h])
    · unfold cmdB at h; simp [h1, h2, h3, h4, h5, h6, h7, h8] at h
  clear h
  obtain ⟨o, n, w, r, l, ch, u⟩ := c
  have h1 := prefBy_le r.2.1
  have h2 := prefBy_le r.2.2.1
  have h3 := twos_len [r.2.2.2.1, r.2.2.2.2.1, r.2.2.2.2.2.1, r.2.2.2.2.2.2.1, r.2.2.2.2.2.2.2.1]
  simp only [List.length_cons, List.length_nil] at h3
  have hL := bytes_loop k hk (o, n, w, r, l, ch, u) [o % 256, n % 256, ((ch.length : Nat) : Int) % 256] (by simp) hl
  obtain ⟨E, hE⟩ : ∃ E, E = o % 256 :: bodyB (o, n, w, r, l, ch, u) := ⟨_, rfl⟩
  have hEl : E.length ≤ 1000 := by rw [hE]; simp only [List.length_cons]; omega
  have F := finS k hk E (by rw [hE]; exact hy) hEl
  simp only [cond_true, Bool.not_true, cond_false, wu8, prefByS k hk, put16S, put32S] at F ⊢
  rw [← hE]
  dsimp only at h8 hL
  rcases h8 with rfl | rfl | rfl | rfl | rfl | rfl | rfl | rfl <;> simp only [Int.reduceEq, decide_true, decide_false, cond_true, cond_false]
  · rw [show E = [(1 : Int) % 256, n % 256, w % 256] from hE] at F ⊢
    exact F
  · rw [show E = [(2 : Int) % 256, n % 256] from hE] at F ⊢
    exact F
  · dsimp only [Option.bind_some] at F ⊢
    refine (bif_t (decide_eq_true (by simp only [putB_len]; omega))).trans ?_
    refine (bif_t (decide_eq_true (by simp only [List.length_append, List.length_cons, List.length_nil, putB_len]; omega))).trans ?_
    refine (bif_t (decide_eq_true (by simp only [List.length_append, List.length_cons, List.length_nil, putB_len]; omega))).trans ?_
    rw [twosS k hk _ _ (by simp only [List.length_append, List.length_cons, List.length_nil, putB_len]; omega) (by simp)]
    dsimp only [Option.bind_some]
    refine (bif_t (decide_eq_true (by simp only [List.length_append, List.length_cons, List.length_nil, putB_len, h3]; omega))).trans ?_
    have eE : E = ((((([(3 : Int) % 256] ++ putB r.1 2) ++ prefBy r.2.1) ++ prefBy r.2.2.1) ++ twos [r.2.2.2.1, r.2.2.2.2.1, r.2.2.2.2.2.1, r.2.2.2.2.2.2.1, r.2.2.2.2.2.2.2.1]) ++ [r.2.2.2.2.2.2.2.2.1 % 256, r.2.2.2.2.2.2.2.2.2.1 % 256, r.2.2.2.2.2.2.2.2.2.2.1 % 256]) := by
      rw [hE]
      simp only [List.append_assoc]
      rfl
    rw [← eE]
    exact F
  · rw [show E = [(4 : Int) % 256] ++ putB n 2 from hE] at F ⊢
    dsimp only [Option.bind_some] at F ⊢
    refine (bif_t (decide_eq_true (by simp only [putB_len]; omega))).trans ?_
    exact F
  · dsimp only [Option.bind_some] at F ⊢
    refine (bif_t (decide_eq_true (by simp only [putB_len]; omega))).trans ?_
    refine (bif_t (decide_eq_true (by simp only [List.length_append, List.length_cons, List.length_nil, putB_len]; omega))).trans ?_
    refine (bif_t (decide_eq_true (by simp only [List.length_append, List.length_cons, List.length_nil, putB_len]; omega))).trans ?_
    have eE : E = (((([(5 : Int) % 256, l.1 % 256] ++ putB l.2.1 4) ++ putB l.2.2.1 4) ++ putB l.2.2.2.1 4) ++ [bif l.2.2.2.2.1 then 1 else 0]) := by
      rw [hE]
      simp only [List.append_assoc]
      rfl
    generalize l.2.2.2.2.1 = b at eE ⊢
    cases b
    · refine (bif_f rfl).trans ((bif_t (decide_eq_true (by simp only [List.length_append, List.length_cons, List.length_nil, putB_len]; omega))).trans ?_)
      dsimp only [cond_false] at eE
      rw [← eE]
      exact F
    · refine (bif_t rfl).trans ((bif_t (decide_eq_true (by simp only [List.length_append, List.length_cons, List.length_nil, putB_len]; omega))).trans ?_)
      dsimp only [cond_true] at eE
      rw [← eE]
      exact F
  · rw [show E = [(6 : Int) % 256, n % 256] from hE] at F ⊢
    exact F
  · rw [hL]
    have eE : E = [(7 : Int) % 256, n % 256, ((ch.length : Nat) : Int) % 256] ++ chB ch := hE
    dsimp only [Option.bind_some] at F ⊢
    rw [← eE]
    exact F
  · rw [show E = [(8 : Int) % 256] ++ putB n 2 from hE] at F ⊢
    dsimp only [Option.bind_some] at F ⊢
    refine (bif_t (decide_eq_true (by simp only [putB_len]; omega))).trans ?_
    exact F
end Go.Tw
