/- A step of the typed logic of this claim is proved here: what an operation does to the data that slots and memory stand for. -/
import Derived.Test.YtmjacadeccoclaaT18j
set_option linter.all false
namespace Go.Tw
open Go Go.RowKit

/-- the loops that code holds -/
def loopsIn : Code → List Code
  | .seq a b => loopsIn a ++ loopsIn b
  | .block _ a => loopsIn a
  | .cond _ a b => loopsIn a ++ loopsIn b
  | .loop a => [a]
  | _ => []

theorem evC_ok {c : Cx} {F : List Con} {N : Inl} {L : List (Nat × LO)} (hN : InlOk c.P N) (hF : ∀ cn ∈ F, ConOk c.P cn) {ρ : Type} {r : ρ} : ∀ (code : Code) (K : Exit → St → Option ρ) (σ : St), (∀ b ∈ loopsIn code, ∀ lo, lget L (lid b) = some lo → LoopOk c lo b) → evC c.P c.m F N L code K σ = some r →
    Sy c code (fun e σ' => K e σ' = some r) σ
  | .skip, K, σ, _, hev => fun _ _ hs => wp_skip ⟨σ, hev, hs⟩
  | .exit id, K, σ, _, hev => fun _ _ hs => wp_exit ⟨σ, hev, hs⟩
  | .ret, K, σ, _, hev => fun _ _ hs => wp_ret ⟨σ, hev, hs⟩
  | .region id ops draw, K, σ, _, hev => fun a w hs => by
    simp only [evC] at hev
    cases draw with
    | true =>
      simp only [cond_true] at hev
      obtain ⟨h0, hev⟩ := cond_some.1 hev
      exact evD_ok (P := c.P) (m := c.m) rfl rfl hF h0 hs hev
    | false =>
      simp only [cond_false] at hev
      have h := evOps_ok hN hF (ops := ops) rfl (Q := fun e a' w' => ∃ σ', K e σ' = some r ∧ Sim c σ' a' w') (fun σ a w h1 h2 => ⟨σ, h1, h2⟩) ops.toList σ a w hev hs
      have := wp_region_lit (id := id) (l := ops.toList) h
      simpa using this
  | .seq x y, K, σ, hL, hev => fun a w hs => by
    simp only [evC] at hev
    have ih := evC_ok hN hF x _ σ (fun b hb => hL b (by simp [loopsIn, hb])) hev
    refine Go.wp_seq (wp_mono (ih a w hs) ?_)
    rintro e a' w' ⟨σ', q, s⟩
    cases e with
    | normal => exact evC_ok hN hF y K σ' (fun b hb => hL b (by simp [loopsIn, hb])) q a' w' s
    | _ => exact ⟨σ', q, s⟩
  | .block id x, K, σ, hL, hev => fun a w hs => by
    simp only [evC] at hev
    have ih := evC_ok hN hF x _ σ hL hev
    refine Go.wp_block (wp_mono (ih a w hs) ?_)
    rintro e a' w' ⟨σ', q, s⟩
    cases e with
    | exit id' =>
      simp only at q
      by_cases hi : id' = id
      · subst hi
        simp only [Nat.beq_refl, cond_true] at q
        simp only [Exit.inBlock, ↓reduceIte]
        exact ⟨σ', q, s⟩
      · have : Nat.beq id' id = false := by
          cases hb : Nat.beq id' id with
          | false => rfl
          | true => exact absurd (Nat.eq_of_beq_eq_true hb) hi
        simp only [this, cond_false] at q
        simp only [Exit.inBlock, hi, ↓reduceIte]
        exact ⟨σ', q, s⟩
    | _ => exact ⟨σ', q, s⟩
  | .cond x t e, K, σ, hL, hev => fun a w hs => by
    simp only [evC] at hev
    split at hev
    · rename_i b hq
      obtain ⟨_, _, _, μ, _, hl, _⟩ := id hs
      have hv := SR.evl hl x
      rw [hq] at hv
      refine wp_cond_split hv.p_eq (fun hb => ?_) (fun hb => ?_)
      · subst hb
        exact evC_ok hN hF t K σ (fun b hb => hL b (by simp [loopsIn, hb])) hev a w hs
      · subst hb
        exact evC_ok hN hF e K σ (fun b hb => hL b (by simp [loopsIn, hb])) hev a w hs
    · simp at hev
  | .loop x, K, σ, hL, hev => by
    simp only [evC] at hev
    split at hev
    · rename_i lo hlo
      exact hL x (by simp [loopsIn]) lo hlo ρ σ K r hev
    · simp at hev
  | .rangeFunc _ _ _ _, _, _, _, hev => by simp [evC] at hev
  | .scope _, _, _, _, hev => by simp [evC] at hev
  | .label _, _, _, _, hev => by simp [evC] at hev
  | .goto _, _, _, _, hev => by simp [evC] at hev
  | .refuse _, _, _, _, hev => by simp [evC] at hev
end Go.Tw
