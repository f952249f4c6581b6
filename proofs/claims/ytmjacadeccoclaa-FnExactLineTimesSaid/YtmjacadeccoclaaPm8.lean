/- Plain facts on the mirrors of the functions are proved here. -/
import Derived.Test.YtmjacadeccoclaaPm7
set_option linter.all false
namespace Go.Tw
open Go Go.RowKit

theorem markInt_eq (k : Nat) (hk : MM < k) (L : List Int) (hL : L.length ≤ 1048576) (m : Int) (h0 : 0 ≤ m) (hm : m + ((1 * L.length : Nat) : Int) ≤ 1099511627776) :
    laws_markIntS k L m = some ((m + ((1 * L.length : Nat) : Int), ()), (markF (fun m => m) 1 L.length m, ())) := by
  unfold laws_markIntS
  have run := mark_run (step := laws_markIntS_s2) (E := fun m => m) (c := 1) (0 : Int) (fun L m i rec hi hl g0 g1 => by
      have e4 : IntKind.wrap .i64 (m + 1) = m + ((1 : Nat) : Int) := by rw [w64 (by omega)]; omega
      have ei : IntKind.wrap .i64 ((i : Int) + 1) = ((i + 1 : Nat) : Int) := w64 (by omega)
      unfold laws_markIntS_s2
      simp only [e4, ei]
      repeat (refine Eq.trans (bif_t (by simp; omega)) ?_)
      rfl) (fun L m rec => by
      unfold laws_markIntS_s2
      rw [bif_f (by simp)]) hk hL h0 hm
  rw [run]; rfl
theorem heldInt_eq (k : Nat) (hk : MM < k) (n : Nat) (hn : n ≤ 1048576) (m : Int) (h0 : 0 ≤ m) (hm : m + ((1 * n : Nat) : Int) ≤ 1099511627776) :
    laws_heldIntS k (markF (fun m => m) 1 n m) m = some ((m + ((1 * n : Nat) : Int), ()), ()) := by
  unfold laws_heldIntS
  have run := held_run (step := laws_heldIntS_s2) (E := fun m => m) (c := 1) (0 : Int) (fun L m i rec hi hl g0 g1 he => by
      have e4 : IntKind.wrap .i64 (m + 1) = m + ((1 : Nat) : Int) := by rw [w64 (by omega)]; omega
      have ei : IntKind.wrap .i64 ((i : Int) + 1) = ((i + 1 : Nat) : Int) := w64 (by omega)
      unfold laws_heldIntS_s2
      simp only [e4, ei]
      have he' : L.getD (i : Int).toNat 0 = m := he
      rw [he']
      repeat (first | (refine Eq.trans (bif_t (by simp; omega)) ?_) | (refine Eq.trans (bif_f (by simp)) ?_))
      rfl) (fun L m rec => by
      unfold laws_heldIntS_s2
      rw [bif_f (by simp)]) hk hn h0 hm
  rw [run]; rfl
theorem lineTimes_len (J : List D_Job) : (lineTimes J).length ≤ 16 := by
  unfold lineTimes
  cases hp : puts J l0 with
  | none => simp
  | some l =>
    obtain ⟨rfl, _, _, hj⟩ := puts_l0 hp
    simp only [thr_len]
    simpa [allJ] using hj
theorem law_FnExactLineTimes (J : List D_Job) (hw : WF (.sl T_Job) J) : ∃ k y, laws_FnExactLineTimes k J = some ((true, ()), y) := by
  have hk : MM < (1048577 : Nat) := by decide
  refine ⟨1048577, (), ?_⟩
  revert hk
  generalize (1048577 : Nat) = k
  intro hk
  have hM : MM = 1048576 := rfl
  unfold laws_FnExactLineTimes
  obtain ⟨n1, a1, _, a3, a4⟩ := laws_szJobS_bd J MM hw (by decide) (by decide)
  rw [a1, Option.bind_some]
  by_cases hn1 : n1 < 0
  · rw [bif_t (by simpa using hn1)]
  rw [bif_f (by simpa using hn1)]
  have b1 := a4 (by omega)
  have hJ : J.length ≤ 1048576 := mm_nat b1.1
  have hl := lineTimes_len J
  simp only [laws_toJobS_ok k hk J b1, specTimes_eq k hk J hJ, implTimes_eq k hk J hJ, laws_eqJobS_ok k hk J b1, Option.bind_some]
  generalize lineTimes J = T at hl
  have bT : Bd (.sl (.int .i64)) T := ⟨nat_mm (Nat.le_trans hl (by decide)), fun e _ => trivial⟩
  have m1 := markJob_eq k hk J hJ 1 (by omega) (by omega)
  have m2 := markInt_eq k hk T (by omega) 1 (by omega) (by omega)
  have m3 := heldInt_eq k hk T.length (by omega) 1 (by omega) (by omega)
  have p1 : ¬ (1 + ((4 * J.length : Nat) : Int) < 0) := by omega
  have p2 : ¬ (1 + ((1 * T.length : Nat) : Int) < 0) := by omega
  simp only [laws_eqIntS_ok k hk T bT, m1, m2, m3, Option.bind_some, p1, p2, decide_true, decide_false, Bool.not_true, Bool.not_false, cond_true, cond_false]
end Go.Tw
