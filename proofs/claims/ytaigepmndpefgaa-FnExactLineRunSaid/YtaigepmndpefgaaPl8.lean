/- Plain facts on the mirrors of the functions are proved here. -/
import Derived.Test.YtaigepmndpefgaaPl7
set_option linter.all false
namespace Go.Tw
open Go Go.RowKit

theorem nat_mm {n : Nat} (h : n ≤ 1048576) : (n : Int) ≤ MM := by have : MM = 1048576 := rfl; omega
theorem bd_jobs (l : List D_Job) (h : l.length ≤ 1048576) : Bd (.sl T_Job) l := ⟨nat_mm h, fun e _ => ⟨trivial, ⟨trivial, trivial, trivial, trivial⟩, trivial⟩⟩
theorem bd_line (x : D_Line) (h : fits x) : Bd T_Line x := ⟨trivial, bd_jobs _ h.1, bd_jobs _ h.2.1, bd_jobs _ h.2.2, trivial⟩
/-- marks in a line's lists, and whether they are still there -/
theorem marks_line (k : Nat) (hk : MM < k) (y : D_Line) (hy : fits y) :
    ∃ m1 m2 m3 : Int, ∃ l1 l2 l3 : List D_Job, laws_markJobS k y.2.1 1 = some ((m1, ()), (l1, ())) ∧ laws_markJobS k y.2.2.1 m1 = some ((m2, ()), (l2, ())) ∧ laws_markJobS k y.2.2.2.1 m2 = some ((m3, ()), (l3, ())) ∧
      0 ≤ m3 ∧ laws_heldLine k (y.1, l1, l2, l3, ()) 1 = some ((m3, ()), ()) := by
  obtain ⟨h1, h2, h3⟩ := hy
  have a1 := markJob_eq k hk y.2.1 (by omega) 1 (by omega) (by omega)
  have a2 := markJob_eq k hk y.2.2.1 (by omega) (1 + ((4 * y.2.1.length : Nat) : Int)) (by omega) (by omega)
  have a3 := markJob_eq k hk y.2.2.2.1 (by omega) (1 + ((4 * y.2.1.length : Nat) : Int) + ((4 * y.2.2.1.length : Nat) : Int)) (by omega) (by omega)
  have b1 := heldJob_eq k hk y.2.1.length (by omega) 1 (by omega) (by omega)
  have b2 := heldJob_eq k hk y.2.2.1.length (by omega) (1 + ((4 * y.2.1.length : Nat) : Int)) (by omega) (by omega)
  have b3 := heldJob_eq k hk y.2.2.2.1.length (by omega) (1 + ((4 * y.2.1.length : Nat) : Int) + ((4 * y.2.2.1.length : Nat) : Int)) (by omega) (by omega)
  refine ⟨_, _, _, _, _, _, a1, a2, a3, by omega, ?_⟩
  unfold laws_heldLine
  simp only [b1, Option.bind_some]
  rw [bif_f (by simp; omega), b2, Option.bind_some, bif_f (by simp; omega), b3, Option.bind_some, bif_f (by simp; omega)]

def markD (m : Int) : D_Done := (m, m + 1, ())
theorem markDone_eq (k : Nat) (hk : MM < k) (L : List D_Done) (hL : L.length ≤ 1048576) (m : Int) (h0 : 0 ≤ m) (hm : m + ((2 * L.length : Nat) : Int) ≤ 1099511627776) :
    laws_markDoneS k L m = some ((m + ((2 * L.length : Nat) : Int), ()), (markF markD 2 L.length m, ())) := by
  unfold laws_markDoneS
  have run := mark_run (step := laws_markDoneS_s2) (E := markD) (c := 2) z_Done (fun L m i rec hi hl g0 g1 => by
      have e1 : IntKind.wrap .i64 (m + 1) = m + 1 := w64 (by omega)
      have e4 : IntKind.wrap .i64 (m + 1 + 1) = m + ((2 : Nat) : Int) := by rw [w64 (by omega)]; omega
      have ei : IntKind.wrap .i64 ((i : Int) + 1) = ((i + 1 : Nat) : Int) := w64 (by omega)
      unfold laws_markDoneS_s2
      simp only [e1, e4, ei]
      repeat (refine Eq.trans (bif_t (by simp; omega)) ?_)
      simp only [Int.toNat_natCast]
      repeat (rw [set_getD _ _ _ _ (by first | omega | (simp; omega))])
      simp only [List.set_set]
      rfl) (fun L m rec => by
      unfold laws_markDoneS_s2
      rw [bif_f (by simp)]) hk hL h0 hm
  rw [run]; rfl
theorem heldDone_eq (k : Nat) (hk : MM < k) (n : Nat) (hn : n ≤ 1048576) (m : Int) (h0 : 0 ≤ m) (hm : m + ((2 * n : Nat) : Int) ≤ 1099511627776) :
    laws_heldDoneS k (markF markD 2 n m) m = some ((m + ((2 * n : Nat) : Int), ()), ()) := by
  unfold laws_heldDoneS
  have run := held_run (step := laws_heldDoneS_s2) (E := markD) (c := 2) z_Done (fun L m i rec hi hl g0 g1 he => by
      have e1 : IntKind.wrap .i64 (m + 1) = m + 1 := w64 (by omega)
      have e4 : IntKind.wrap .i64 (m + 1 + 1) = m + ((2 : Nat) : Int) := by rw [w64 (by omega)]; omega
      have ei : IntKind.wrap .i64 ((i : Int) + 1) = ((i + 1 : Nat) : Int) := w64 (by omega)
      unfold laws_heldDoneS_s2
      simp only [e1, e4, ei]
      have he' : L.getD (i : Int).toNat z_Done = markD m := he
      rw [he']
      unfold markD
      repeat (first | (refine Eq.trans (bif_t (by simp; omega)) ?_) | (refine Eq.trans (bif_f (by simp)) ?_))
      rfl) (fun L m rec => by
      unfold laws_heldDoneS_s2
      rw [bif_f (by simp)]) hk hn h0 hm
  rw [run]; rfl
theorem marks_line2 (k : Nat) (hk : MM < k) (y : D_Line) (hy : fits y) (d : List D_Done) (hd : d.length ≤ 1048576) :
    ∃ m1 m2 m3 m4 : Int, ∃ l1 l2 l3 : List D_Job, ∃ l4 : List D_Done, laws_markJobS k y.2.1 1 = some ((m1, ()), (l1, ())) ∧ laws_markJobS k y.2.2.1 m1 = some ((m2, ()), (l2, ())) ∧ laws_markJobS k y.2.2.2.1 m2 = some ((m3, ()), (l3, ())) ∧
      laws_markDoneS k d m3 = some ((m4, ()), (l4, ())) ∧ 0 ≤ m3 ∧ 0 ≤ m4 ∧ laws_heldLine k (y.1, l1, l2, l3, ()) 1 = some ((m3, ()), ()) ∧ laws_heldDoneS k l4 m3 = some ((m4, ()), ()) := by
  obtain ⟨h1, h2, h3⟩ := hy
  have a1 := markJob_eq k hk y.2.1 (by omega) 1 (by omega) (by omega)
  have a2 := markJob_eq k hk y.2.2.1 (by omega) (1 + ((4 * y.2.1.length : Nat) : Int)) (by omega) (by omega)
  have a3 := markJob_eq k hk y.2.2.2.1 (by omega) (1 + ((4 * y.2.1.length : Nat) : Int) + ((4 * y.2.2.1.length : Nat) : Int)) (by omega) (by omega)
  have b1 := heldJob_eq k hk y.2.1.length (by omega) 1 (by omega) (by omega)
  have b2 := heldJob_eq k hk y.2.2.1.length (by omega) (1 + ((4 * y.2.1.length : Nat) : Int)) (by omega) (by omega)
  have b3 := heldJob_eq k hk y.2.2.2.1.length (by omega) (1 + ((4 * y.2.1.length : Nat) : Int) + ((4 * y.2.2.1.length : Nat) : Int)) (by omega) (by omega)
  have c1 := markDone_eq k hk d hd (1 + ((4 * y.2.1.length : Nat) : Int) + ((4 * y.2.2.1.length : Nat) : Int) + ((4 * y.2.2.2.1.length : Nat) : Int)) (by omega) (by omega)
  have c2 := heldDone_eq k hk d.length hd (1 + ((4 * y.2.1.length : Nat) : Int) + ((4 * y.2.2.1.length : Nat) : Int) + ((4 * y.2.2.2.1.length : Nat) : Int)) (by omega) (by omega)
  refine ⟨_, _, _, _, _, _, _, _, a1, a2, a3, c1, by omega, by omega, ?_, c2⟩
  unfold laws_heldLine
  simp only [b1, Option.bind_some]
  rw [bif_f (by simp; omega), b2, Option.bind_some, bif_f (by simp; omega), b3, Option.bind_some, bif_f (by simp; omega)]
theorem law_FnExactLineRun (x : D_Line) (n : Int) (hw : WF T_Line x) (hw2 : WF (.int .i64) n) : ∃ k y, laws_FnExactLineRun k x n = some ((true, ()), y) := by
  have hk : MM < (1048577 : Nat) := by decide
  refine ⟨1048577, (), ?_⟩
  revert hk
  generalize (1048577 : Nat) = k
  intro hk
  have hM : MM = 1048576 := rfl
  unfold laws_FnExactLineRun
  obtain ⟨n1, a1, _, a3, a4⟩ := laws_szLine_bd x MM hw (by decide) (by decide)
  rw [a1, Option.bind_some]
  by_cases hn1 : n1 < 0
  · rw [bif_t (by simpa using hn1)]
  rw [bif_f (by simpa using hn1)]
  have b1 := a4 (by omega)
  have hx : fits x := ⟨mm_nat b1.2.1.1, mm_nat b1.2.2.1.1, mm_nat b1.2.2.2.1.1⟩
  have hrl : tot (lineRun x n).1 ≤ 16 ∧ (lineRun x n).2.1.length ≤ 20000 := by
    unfold lineRun
    cases h : lineI x with
    | false => exact ⟨by simp [tot, z_Line], by simp⟩
    | true =>
      cases h2 : (decide (0 ≤ n) && decide (n ≤ 20000)) with
      | false => exact ⟨by simp [tot, z_Line], by simp⟩
      | true =>
        simp only [Bool.and_eq_true, decide_eq_true_eq] at h2
        have h3 := runN_len n.toNat x 1 []
        have h4 := lineP_tot h
        simp only [Bool.true_and, cond_true]
        refine ⟨by omega, ?_⟩
        have h5 := h3.1
        simp only [List.length_nil] at h5
        omega
  generalize hr : lineRun x n = r at hrl
  have hf : fits r.1 := tot_fits (by omega)
  have br : Bd T_Line r.1 := bd_line r.1 hf
  have bd : Bd (.sl T_Done) r.2.1 := ⟨nat_mm (Nat.le_trans hrl.2 (by decide)), fun e _ => ⟨trivial, trivial, trivial⟩⟩
  obtain ⟨m1, m2, m3, m4, l1, l2, l3, l4, c1, c2, c3, c4, c5, c6, c7, c8⟩ := marks_line2 k hk r.1 hf r.2.1 (by omega)
  obtain ⟨p1, p2, p3, q1, q2, q3, d1, d2, d3, d4, d5⟩ := marks_line k hk x hx
  simp only [laws_toLine_ok k hk x b1, specRun_eq k hk x hx, implRun_eq k hk x hx, hr, laws_eqLine_ok k hk r.1 br, laws_eqLine_ok k hk x b1, laws_eqDoneS_ok k hk r.2.1 bd, Option.bind_some]
  have n3 : ¬ (m3 < 0) := by omega
  have n5 : ¬ (m4 < 0) := by omega
  have n4 : ¬ (p3 < 0) := by omega
  simp only [d1, d2, d3, c1, c2, c3, c4, c7, Option.bind_some]
  simp [n3, n4, n5, c8]
end Go.Tw
