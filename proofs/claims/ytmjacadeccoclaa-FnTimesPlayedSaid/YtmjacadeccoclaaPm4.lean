/- Plain facts on the mirrors of the functions are proved here. -/
import Derived.Test.YtmjacadeccoclaaPm2
import Derived.Test.YtmjacadeccoclaaPm3
import Derived.Test.YtmjacadeccoclaaPl5
set_option linter.all false
namespace Go.Tw
open Go Go.RowKit

theorem thr_len : ∀ (l : List D_Job) (ta tb tc : Int), (thr l ta tb tc).length = l.length
  | [], _, _, _ => rfl
  | e :: l, ta, tb, tc => by simp only [thr, List.length_cons, thr_len l]
theorem thr_pos : ∀ (l : List D_Job) (ta tb tc : Int), (∀ e ∈ l, 1 ≤ e.2.1.2.2.1) → 0 ≤ tc → ∀ v ∈ thr l ta tb tc, 1 ≤ v
  | [], _, _, _, _, _, v, hv => by simp [thr] at hv
  | e :: l, ta, tb, tc, h, h0, v, hv => by
    have he := h e (by simp)
    have m := imax_two tc ((if 0 < e.2.1.1 then imax tb (ta + e.2.1.1) else tb) + e.2.1.2.1)
    simp only [thr, List.mem_cons] at hv
    have hc : 1 ≤ (if 0 < e.2.1.2.1 then imax tc ((if 0 < e.2.1.1 then imax tb (ta + e.2.1.1) else tb) + e.2.1.2.1) else tc) + e.2.1.2.2.1 := by
      by_cases p : 0 < e.2.1.2.1
      · rw [if_pos p]; omega
      · rw [if_neg p]; omega
    rcases hv with rfl | hv
    · exact hc
    · exact thr_pos l _ _ _ (fun e he => h e (by simp [he])) (by omega) v hv
theorem thr_le : ∀ (l : List D_Job) (ta tb tc M : Int), (∀ e ∈ l, small e) → ta ≤ M → tb ≤ M → tc ≤ M → ∀ v ∈ thr l ta tb tc, v ≤ M + 3000 * (l.length : Int)
  | [], _, _, _, _, _, _, _, _, v, hv => by simp [thr] at hv
  | e :: l, ta, tb, tc, M, h, h1, h2, h3, v, hv => by
    obtain ⟨s1, s2, s3⟩ := h e (by simp)
    have m1 := imax_two tb (ta + e.2.1.1)
    simp only [thr, List.mem_cons] at hv
    generalize hb : (if 0 < e.2.1.1 then imax tb (ta + e.2.1.1) else tb) + e.2.1.2.1 = tb1 at hv
    have g1 : tb1 ≤ M + 2000 := by
      subst hb
      split <;> omega
    have m2 := imax_two tc tb1
    generalize hc : (if 0 < e.2.1.2.1 then imax tc tb1 else tc) + e.2.1.2.2.1 = tc1 at hv
    have g2 : tc1 ≤ M + 3000 := by
      subst hc
      split <;> omega
    simp only [List.length_cons]
    rcases hv with rfl | hv
    · omega
    · have := thr_le l (ta + e.2.1.1) tb1 tc1 (M + 3000) (fun e he => h e (by simp [he])) (by omega) (by omega) g2 v hv
      omega
theorem needs_small {x : D_Line} (h : NeedsOk x) : ∀ e ∈ allJ x, small e ∧ 1 ≤ e.2.1.2.2.1 := by
  intro e he
  simp only [allJ, List.mem_append] at he
  rcases he with (he | he) | he
  · have := (nC_iff e).1 (h.2.2 e he); exact ⟨⟨by omega, by omega, by omega⟩, by omega⟩
  · have := (nB_iff e).1 (h.2.1 e he); exact ⟨⟨by omega, by omega, by omega⟩, by omega⟩
  · have := (nA_iff e).1 (h.1 e he); exact ⟨⟨by omega, by omega, by omega⟩, by omega⟩
theorem allJ_len (x : D_Line) : (allJ x).length = x.2.1.length + x.2.2.1.length + x.2.2.2.1.length := by simp [allJ]; omega
def lastT (x : D_Line) : Int := (thr (allJ x) 0 0 0).getLast?.getD 0
theorem lastT_nil {x : D_Line} (h : allJ x = []) : lastT x = 0 := by simp [lastT, h, thr]
theorem last_mem {l : List Int} (h : l ≠ []) : l.getLast?.getD 0 ∈ l := by
  rw [List.getLast?_eq_some_getLast h]; exact List.getLast_mem h
theorem lastT_pos {x : D_Line} (hn : NeedsOk x) (h : allJ x ≠ []) : 1 ≤ lastT x := by
  have hne : thr (allJ x) 0 0 0 ≠ [] := fun e => h (List.eq_nil_of_length_eq_zero (by rw [← thr_len (allJ x) 0 0 0, e]; rfl))
  exact thr_pos (allJ x) 0 0 0 (fun e he => (needs_small hn e he).2) (by omega) _ (last_mem hne)
theorem lastT_tick {x : D_Line} (hn : NeedsOk x) (h : allJ x ≠ []) : lastT x = lastT (tick x).1 + 1 := by
  have ht := tick_thr x hn
  have hne : thr (allJ x) 0 0 0 ≠ [] := fun e => h (List.eq_nil_of_length_eq_zero (by rw [← thr_len (allJ x) 0 0 0, e]; rfl))
  unfold lastT
  rw [ht] at hne ⊢
  cases hT : thr (allJ (tick x).1) 0 0 0 with
  | nil =>
    rw [hT] at hne
    simp only [up, List.map_nil, List.append_nil] at hne ⊢
    cases hC : x.2.2.2.1 with
    | nil => rw [hC] at hne; exact absurd rfl hne
    | cons e l =>
      rw [hC] at hne
      simp only [goneT] at hne ⊢
      cases g : decide (IntKind.wrap .i64 (e.2.1.2.2.1 - 1) = 0) with
      | false => rw [g] at hne; exact absurd rfl hne
      | true => simp
  | cons v l =>
    have h1 : up (v :: l) ≠ [] := by simp [up]
    rw [List.getLast?_append, List.getLast?_eq_some_getLast h1, Option.some_or, ← List.getLast?_eq_some_getLast h1]
    simp only [up]
    rw [List.getLast?_map]
    rw [List.getLast?_eq_some_getLast (by simp : v :: l ≠ [])]
    rfl
theorem specThrough_eq (k : Nat) (hk : MM < k) (x : D_Line) (hn : NeedsOk x) (ht : x.2.1.length + x.2.2.1.length + x.2.2.2.1.length ≤ 16) :
    spec_l21Through k x = some ((thr (allJ x) 0 0 0, ()), ()) := by
  have hM : MM = 1048576 := rfl
  unfold spec_l21Through
  rw [all_eq x ⟨by omega, by omega, by omega⟩, Option.bind_some]
  have hl := allJ_len x
  have run := through_run (allJ x) (by omega) (fun e he => (needs_small hn e he).1) (allJ x).length 0 k [] 0 0 0 (by omega) (by omega) rfl (by omega) (by omega) (by omega) (by omega) (by omega)
  rw [show iter spec_l21Through_s5 k ((), (x.2.2.2.1 ++ x.2.2.1) ++ x.2.1, ([] : List Int), (0 : Int), (0 : Int), (0 : Int), (0 : Int), ()) = _ from run]
  rfl
theorem lineP_needs {x : D_Line} (h : lineI x = true) : NeedsOk x := by
  have := (lineI_iff x).1 h
  exact ⟨this.2.1, this.2.2.1, this.2.2.2.1⟩
theorem specEnd_eq (k : Nat) (hk : MM < k) (x : D_Line) (h : fits x) : spec_LineEnd k x = some (((bif lineI x then lastT x else (-1 : Int)), ()), ()) := by
  unfold spec_LineEnd
  rw [specOk_eq k hk x h, ← line_eq, Option.bind_some]
  cases hl : lineI x with
  | false => rfl
  | true =>
    have hn := lineP_needs hl
    have ht := lineP_small ((lineI_iff x).1 hl)
    refine Eq.trans (bif_f (by rfl)) ?_
    rw [specThrough_eq k hk x hn ht, Option.bind_some]
    have hlen := thr_len (allJ x) 0 0 0
    have hal := allJ_len x
    simp only [cond_true]
    unfold lastT
    generalize thr (allJ x) 0 0 0 = T at hlen
    by_cases h0 : T = []
    · subst h0; rfl
    · have hp : 0 < T.length := List.length_pos_iff.2 h0
      have hw : IntKind.wrap .i64 ((((T.length : Nat)) : Int) - 1) = ((T.length - 1 : Nat) : Int) := by rw [w64 (by omega)]; omega
      rw [hw]
      rw [bif_f (by simp; exact h0), bif_t (by simp; omega), bif_t (by simp; omega)]
      rw [List.getLast?_eq_some_getLast h0, List.getLast_eq_getElem]
      simp only [Int.toNat_natCast, Option.getD_some]
      rw [List.getD_eq_getElem?_getD, List.getElem?_eq_getElem (by omega)]
      rfl
theorem tick_small (x : D_Line) : (tick x).1.2.1.length + (tick x).1.2.2.1.length + (tick x).1.2.2.2.1.length ≤ x.2.1.length + x.2.2.1.length + x.2.2.2.1.length := by
  have hA : (tickA x.2.1).1.length + (tickA x.2.1).2.length = x.2.1.length := by
    cases x.2.1 with
    | nil => simp [tickA]
    | cons e l => by_cases h : IntKind.wrap .i64 (e.2.1.1 - 1) = 0 <;> simp [tickA, h]
  have hB : (tickB x.2.2.1).1.length + (tickB x.2.2.1).2.length = x.2.2.1.length := by
    cases x.2.2.1 with
    | nil => simp [tickB]
    | cons e l => by_cases h : IntKind.wrap .i64 (e.2.1.2.1 - 1) = 0 <;> simp [tickB, h]
  have hC := tickC_len x.2.2.2.1
  simp only [tick, List.length_append]
  omega
theorem implEnd_run (k : Nat) (hk : MM < k) : ∀ (n kk : Nat) (x : D_Line) (t : Int), NeedsOk x → x.2.1.length + x.2.2.1.length + x.2.2.2.1.length ≤ 16 → lastT x = n → n < kk → 0 ≤ t → t + n ≤ 1048576 →
    iter (impl_LineEnd_s4 k) kk ((), x, t, ()) = some ((), t + n, ())
  | n, kk + 1, x, t, hn, ht, hl, hkk, h0, hb => by
    have hf : fits x := ⟨by omega, by omega, by omega⟩
    rw [iter_succ]
    by_cases he : allJ x = []
    · rw [lastT_nil he] at hl
      have hn0 : n = 0 := by omega
      subst hn0
      have hal := allJ_len x
      rw [he] at hal
      simp only [List.length_nil] at hal
      unfold impl_LineEnd_s4
      rw [jobs_eq k hk x hf, Option.bind_some]
      rw [bif_f (by simp; omega)]
      simp
    · have hp := lastT_pos hn he
      have hs := lastT_tick hn he
      cases n with
      | zero => omega
      | succ n =>
        rw [implEnd_step k hk x hf he t _, w64 (by omega)]
        have hts := tick_small x
        rw [implEnd_run k hk n kk (tick x).1 (t + 1) (tick_needs x hn) (by omega) (by omega) (by omega) (by omega) (by omega)]
        congr 3
        omega
theorem implEnd_eq (k : Nat) (hk : MM < k) (x : D_Line) (h : fits x) : impl_LineEnd k x = some (((bif lineI x then lastT x else (-1 : Int)), ()), ()) := by
  have hM : MM = 1048576 := rfl
  unfold impl_LineEnd
  rw [implOk_eq k hk x h, Option.bind_some]
  cases hl : lineI x with
  | false => rfl
  | true =>
    have hn := lineP_needs hl
    have ht := lineP_small ((lineI_iff x).1 hl)
    refine Eq.trans (bif_f (by rfl)) ?_
    rw [copy_eq x ⟨by omega, by omega, by omega⟩, Option.bind_some]
    have hle : lastT x ≤ 48000 := by
      by_cases he : allJ x = []
      · rw [lastT_nil he]; omega
      · have hne : thr (allJ x) 0 0 0 ≠ [] := fun e => he (List.eq_nil_of_length_eq_zero (by rw [← thr_len (allJ x) 0 0 0, e]; rfl))
        have := thr_le (allJ x) 0 0 0 0 (fun e he => (needs_small hn e he).1) (by omega) (by omega) (by omega) _ (last_mem hne)
        have hal := allJ_len x
        unfold lastT
        omega
    have hge : 0 ≤ lastT x := by
      by_cases he : allJ x = []
      · rw [lastT_nil he]; omega
      · have := lastT_pos hn he; omega
    rw [implEnd_run k hk (lastT x).toNat k x 0 hn ht (by omega) (by omega) (by omega) (by omega)]
    simp only [Option.bind_some, cond_true]
    congr 3
    omega
theorem law_FnExactLineEnd (x : D_Line) (hw : WF T_Line x) : ∃ k y, laws_FnExactLineEnd k x = some ((true, ()), y) := by
  have hk : MM < (1048577 : Nat) := by decide
  refine ⟨1048577, (), ?_⟩
  revert hk
  generalize (1048577 : Nat) = k
  intro hk
  unfold laws_FnExactLineEnd
  obtain ⟨n1, a1, _, a3, a4⟩ := laws_szLine_bd x MM hw (by decide) (by decide)
  rw [a1, Option.bind_some]
  by_cases hn1 : n1 < 0
  · rw [bif_t (by simpa using hn1)]
  rw [bif_f (by simpa using hn1)]
  have b1 := a4 (by omega)
  have hx : fits x := ⟨mm_nat b1.2.1.1, mm_nat b1.2.2.1.1, mm_nat b1.2.2.2.1.1⟩
  simp only [laws_toLine_ok k hk x b1, specEnd_eq k hk x hx, implEnd_eq k hk x hx, laws_eqLine_ok k hk x b1, Option.bind_some]
  simp
end Go.Tw
