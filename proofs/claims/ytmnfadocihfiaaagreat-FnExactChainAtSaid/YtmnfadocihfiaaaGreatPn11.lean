/- Plain facts on the mirrors of the functions are proved here. -/
import Derived.Test.YtmnfadocihfiaaaGreatPn10
set_option linter.all false
set_option maxRecDepth 100000
set_option maxHeartbeats 4000000
namespace Go.Tw
open Go Sem
theorem tC (k : Nat) (hk : MM < k) : TotI (impl_cursor_cmd k) := fun l h => by
  have hM : MM = 1048576 := rfl
  unfold impl_cursor_cmd
  obtain ⟨o, l1, h1, e1⟩ := t1 k hk l h
  dsimp only at e1
  simp only [e1, Option.bind_some]
  clear e1
  rcases kinds8 o with rfl | rfl | rfl | rfl | rfl | rfl | rfl | rfl | ⟨q1, q2, q3, q4, q5, q6, q7, q8⟩
  · simp only [Int.reduceEq, decide_true, decide_false, cond_true, cond_false]
    obtain ⟨a2, l2, h2, e2⟩ := t1 k hk l1 h1
    obtain ⟨a3, l3, h3, e3⟩ := t1 k hk l2 h2
    dsimp only at e2 e3
    simp only [e2, e3, Option.bind_some]
    exact ⟨_, _, h3, rfl⟩
  · simp only [Int.reduceEq, decide_true, decide_false, cond_true, cond_false]
    obtain ⟨a2, l2, h2, e2⟩ := t1 k hk l1 h1
    dsimp only at e2
    simp only [e2, Option.bind_some]
    exact ⟨_, _, h2, rfl⟩
  · simp only [Int.reduceEq, decide_true, decide_false, cond_true, cond_false]
    obtain ⟨a2, l2, h2, e2⟩ := t2 k hk l1 h1
    obtain ⟨a3, l3, h3, e3⟩ := tX k hk l2 h2
    obtain ⟨a4, l4, h4, e4⟩ := tX k hk l3 h3
    obtain ⟨a5, l5, h5, e5⟩ := tP k hk l4 h4
    obtain ⟨a6, l6, h6, e6⟩ := t2 k hk l5 h5
    obtain ⟨a7, l7, h7, e7⟩ := t2 k hk l6 h6
    obtain ⟨a8, l8, h8, e8⟩ := t2 k hk l7 h7
    obtain ⟨a9, l9, h9, e9⟩ := t2 k hk l8 h8
    obtain ⟨a10, l10, h10, e10⟩ := t1 k hk l9 h9
    obtain ⟨a11, l11, h11, e11⟩ := t1 k hk l10 h10
    obtain ⟨a12, l12, h12, e12⟩ := t1 k hk l11 h11
    dsimp only at e2 e6 e7 e8 e9 e10 e11 e12
    simp only [e2, e3, e4, e5, e6, e7, e8, e9, e10, e11, e12, Option.bind_some]
    exact ⟨_, _, h12, rfl⟩
  · simp only [Int.reduceEq, decide_true, decide_false, cond_true, cond_false]
    obtain ⟨a2, l2, h2, e2⟩ := t2 k hk l1 h1
    dsimp only at e2
    simp only [e2, Option.bind_some]
    exact ⟨_, _, h2, rfl⟩
  · simp only [Int.reduceEq, decide_true, decide_false, cond_true, cond_false]
    obtain ⟨a2, l2, h2, e2⟩ := t1 k hk l1 h1
    obtain ⟨a3, l3, h3, e3⟩ := t4 k hk l2 h2
    obtain ⟨a4, l4, h4, e4⟩ := t4 k hk l3 h3
    obtain ⟨a5, l5, h5, e5⟩ := t4 k hk l4 h4
    obtain ⟨a6, l6, h6, e6⟩ := t1 k hk l5 h5
    dsimp only at e2 e3 e4 e5 e6
    simp only [e2, e3, e4, e5, e6, Option.bind_some]
    exact ⟨_, _, h6, rfl⟩
  · simp only [Int.reduceEq, decide_true, decide_false, cond_true, cond_false]
    obtain ⟨a2, l2, h2, e2⟩ := t1 k hk l1 h1
    dsimp only at e2
    simp only [e2, Option.bind_some]
    exact ⟨_, _, h2, rfl⟩
  · simp only [Int.reduceEq, decide_true, decide_false, cond_true, cond_false]
    obtain ⟨a2, l2, h2, e2⟩ := t1 k hk l1 h1
    dsimp only at e2
    simp only [e2, Option.bind_some]
    have e3 := take1 k hk h2
    have h3 := tk_bytes 1 h2
    have r3 := tk_rng h2
    simp only [e3, Option.bind_some]
    obtain ⟨c', l', h', e'⟩ := tloop k hk (tk 1 l2).1 r3.2 zC 256 0 k (tk 1 l2).2 (7, a2, 0, zR, zL, [], ()) (by omega) (by omega) (by omega) h3 (by simp)
    refine ⟨c', l', h', ?_⟩
    exact (congrArg (fun o => Option.bind o _) e').trans rfl
  · simp only [Int.reduceEq, decide_true, decide_false, cond_true, cond_false]
    obtain ⟨a2, l2, h2, e2⟩ := t2 k hk l1 h1
    dsimp only at e2
    simp only [e2, Option.bind_some]
    exact ⟨_, _, h2, rfl⟩
  · simp only [q1, q2, q3, q4, q5, q6, q7, q8, decide_false, cond_false]
    exact ⟨_, _, h1, rfl⟩
end Go.Tw
