/- Plain facts on the mirrors of the functions are proved here. -/
import Derived.Test.YtmnfadocihfiaaaGreatPn23
set_option linter.all false
set_option maxRecDepth 100000
set_option maxHeartbeats 4000000
namespace Go.Tw
open Go Sem
theorem wf_bytes {x : List D_Event} (h : WF (.sl T_Event) x) : ∀ e ∈ x, bytesP e.2.2.1 := fun e he b hb => by
  have q := (h.2 e he).2.2.1.2 b hb
  simpa [WF, inR, IntKind.min, IntKind.max, IntKind.signed, IntKind.bits] using q
theorem bd_rules {l : List D_Rule} (h : l.length ≤ 1000) : Bd (.sl T_Rule) l := by
  have hM : MM = 1048576 := rfl
  refine ⟨show ((l.length : Nat) : Int) ≤ MM by omega, fun r _ => ?_⟩
  exact ⟨trivial, ⟨⟨trivial, trivial, trivial, trivial, trivial, trivial⟩, trivial, trivial⟩, ⟨⟨trivial, trivial, trivial, trivial, trivial, trivial⟩, trivial, trivial⟩, trivial, trivial, trivial, trivial, trivial, trivial, trivial, trivial, trivial⟩
theorem law_FnExactRulesAt (x : List D_Event) (n : Int) (h0 : WF (.sl T_Event) x) (h1 : WF (.int .i64) n) : ∃ k y, laws_FnExactRulesAt k x n = some ((true, ()), y) := by
  have hk : MM < (1048577 : Nat) := by decide
  refine ⟨1048577, (), ?_⟩
  revert hk
  generalize (1048577 : Nat) = k
  intro hk
  have hM : MM = 1048576 := rfl
  unfold laws_FnExactRulesAt
  obtain ⟨n1, a1, _, a3, a4⟩ := laws_szEventS_bd k hk x MM h0 (by decide) (by decide)
  have a1 : laws_szEventS k x (1048576 : Int) = _ := a1
  rw [a1, Option.bind_some]
  by_cases hn1 : n1 < 0
  · rw [bif_t (by simpa using hn1)]
  rw [bif_f (by simpa using hn1)]
  have b1 := a4 (by omega)
  have hb := wf_bytes h0
  have hx : x.length ≤ 1048576 := mm_nat b1.1
  have hd : ∀ e ∈ x, e.2.2.1.length ≤ 1048576 := fun e he => mm_nat (b1.2 e he).2.2.1.1
  have hr := rulP_le x n
  obtain ⟨c, L, e1, e2⟩ := markEv_ok k hk x hx hd
  have m1 := markRule_eq k hk (rulP x n) (by omega) 1 (by omega) (by omega)
  have m2 := heldRule_eq k hk (rulP x n).length (by omega) 1 (by omega) (by omega)
  simp only [laws_toEventS_ok k hk x b1, rulesS k hk x hx hb, rulesI k hk x hx hb, laws_eqRuleS_ok k hk _ (bd_rules (l := rulP x n) (by omega)), laws_eqEventS_ok k hk x b1, e1, m1, m2, Option.bind_some]
  have n3 : ¬ c < 0 := by omega
  have n4 : ¬ ((1 : Int) + ((21 * (rulP x n).length : Nat) : Int) < 0) := by omega
  rw [decide_eq_false n3, decide_eq_false n4]
  simp
end Go.Tw
