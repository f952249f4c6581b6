/- Plain facts on the mirrors of the functions are proved here. -/
import Derived.Test.YtmnfadocihfiaaaGreatPc2
set_option linter.all false
set_option maxRecDepth 100000
set_option maxHeartbeats 4000000
namespace Go.Tw
open Go Sem
theorem wf_bytes {x : List D_Event} (h : WF (.sl T_Event) x) : ∀ e ∈ x, bytesP e.2.2.1 := fun e he b hb => by
  have q := (h.2 e he).2.2.1.2 b hb
  simpa [WF, inR, IntKind.min, IntKind.max, IntKind.signed, IntKind.bits] using q
theorem bd_mods {l : List D_Module} (h : l.length ≤ 1000) : Bd (.sl T_Module) l := by
  have hM : MM = 1048576 := rfl
  refine ⟨show ((l.length : Nat) : Int) ≤ MM by omega, fun r _ => ?_⟩
  exact ⟨trivial, ⟨⟨trivial, trivial, trivial, trivial, trivial, trivial⟩, trivial, trivial⟩, ⟨⟨trivial, trivial, trivial, trivial, trivial, trivial⟩, trivial, trivial⟩, trivial, trivial, trivial, trivial, trivial⟩
theorem law_FnExactChainAt (x : List D_Event) (n q : Int) (h0 : WF (.sl T_Event) x) (h1 : WF (.int .i64) n) (h2 : WF (.int .i64) q) : ∃ k y, laws_FnExactChainAt k x n q = some ((true, ()), y) := by
  have hk : MM < (1048577 : Nat) := by decide
  refine ⟨1048577, (), ?_⟩
  revert hk
  generalize (1048577 : Nat) = k
  intro hk
  have hM : MM = 1048576 := rfl
  unfold laws_FnExactChainAt
  obtain ⟨n1, a1, _, a3, a4⟩ := laws_szEventS_bd k hk x MM h0 (by decide) (by decide)
  have a1 : laws_szEventS k x (1048576 : Int) = _ := a1
  rw [a1, Option.bind_some]
  by_cases hn1 : n1 < 0
  · rw [bif_t (by simpa using hn1)]
  rw [bif_f (by simpa using hn1)]
  have b1 := a4 (by omega)
  have hb := wf_bytes h0
  have hx : x.length ≤ 1048576 := mm_nat b1.1
  have hd : ∀ e ∈ x, e.2.2.1.length ≤ 1048576 := fun e he => mm_nat (b1.2 e he).2.2.1.1
  have hr := chP_le x n q
  obtain ⟨c, L, e1, e2⟩ := markEv_ok k hk x hx hd
  have m1 := markModule_eq k hk (chP x n q) (by omega) 1 (by omega) (by omega)
  have m2 := heldModule_eq k hk (chP x n q).length (by omega) 1 (by omega) (by omega)
  simp only [laws_toEventS_ok k hk x b1, chainAtS k hk x hx hb, chainAtI k hk x hx hb, laws_eqModuleS_ok k hk _ (bd_mods (l := chP x n q) (by omega)), laws_eqEventS_ok k hk x b1, e1, m1, m2, Option.bind_some]
  have n3 : ¬ c < 0 := by omega
  have n4 : ¬ ((1 : Int) + ((17 * (chP x n q).length : Nat) : Int) < 0) := by omega
  rw [decide_eq_false n3, decide_eq_false n4]
  simp
end Go.Tw
