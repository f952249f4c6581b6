/- Plain facts on the mirrors of the functions are proved here. -/
import Derived.Test.YtmnfadocihfiaaaGreatPc1
import Derived.Test.YtmnfadocihfiaaaGreatPk0
set_option linter.all false
set_option maxRecDepth 100000
set_option maxHeartbeats 4000000
namespace Go.Tw
open Go Sem
theorem we1 {m : Int} (h0 : 0 ≤ m) (h1 : m ≤ 1099511627776) : IntKind.wrap .i64 (m + 1) = m + 1 := (w64 (n := m + 1) ⟨by omega, by omega⟩).trans (by omega)
theorem we2 {m : Int} (h0 : 0 ≤ m) (h1 : m ≤ 1099511627776) : IntKind.wrap .i64 (m + 1 + 1) = m + 2 := (w64 (n := m + 1 + 1) ⟨by omega, by omega⟩).trans (by omega)
theorem we3 {m : Int} (h0 : 0 ≤ m) (h1 : m ≤ 1099511627776) : IntKind.wrap .i64 (m + 2 + 1) = m + 3 := (w64 (n := m + 2 + 1) ⟨by omega, by omega⟩).trans (by omega)
theorem we4 {m : Int} (h0 : 0 ≤ m) (h1 : m ≤ 1099511627776) : IntKind.wrap .i64 (m + 3 + 1) = m + 4 := (w64 (n := m + 3 + 1) ⟨by omega, by omega⟩).trans (by omega)
theorem we5 {m : Int} (h0 : 0 ≤ m) (h1 : m ≤ 1099511627776) : IntKind.wrap .i64 (m + 4 + 1) = m + 5 := (w64 (n := m + 4 + 1) ⟨by omega, by omega⟩).trans (by omega)
theorem we6 {m : Int} (h0 : 0 ≤ m) (h1 : m ≤ 1099511627776) : IntKind.wrap .i64 (m + 5 + 1) = m + 6 := (w64 (n := m + 5 + 1) ⟨by omega, by omega⟩).trans (by omega)
theorem we7 {m : Int} (h0 : 0 ≤ m) (h1 : m ≤ 1099511627776) : IntKind.wrap .i64 (m + 6 + 1) = m + 7 := (w64 (n := m + 6 + 1) ⟨by omega, by omega⟩).trans (by omega)
theorem we8 {m : Int} (h0 : 0 ≤ m) (h1 : m ≤ 1099511627776) : IntKind.wrap .i64 (m + 7 + 1) = m + 8 := (w64 (n := m + 7 + 1) ⟨by omega, by omega⟩).trans (by omega)
theorem we9 {m : Int} (h0 : 0 ≤ m) (h1 : m ≤ 1099511627776) : IntKind.wrap .i64 (m + 8 + 1) = m + 9 := (w64 (n := m + 8 + 1) ⟨by omega, by omega⟩).trans (by omega)
theorem we10 {m : Int} (h0 : 0 ≤ m) (h1 : m ≤ 1099511627776) : IntKind.wrap .i64 (m + 9 + 1) = m + 10 := (w64 (n := m + 9 + 1) ⟨by omega, by omega⟩).trans (by omega)
theorem we11 {m : Int} (h0 : 0 ≤ m) (h1 : m ≤ 1099511627776) : IntKind.wrap .i64 (m + 10 + 1) = m + 11 := (w64 (n := m + 10 + 1) ⟨by omega, by omega⟩).trans (by omega)
theorem we12 {m : Int} (h0 : 0 ≤ m) (h1 : m ≤ 1099511627776) : IntKind.wrap .i64 (m + 11 + 1) = m + 12 := (w64 (n := m + 11 + 1) ⟨by omega, by omega⟩).trans (by omega)
theorem we13 {m : Int} (h0 : 0 ≤ m) (h1 : m ≤ 1099511627776) : IntKind.wrap .i64 (m + 12 + 1) = m + 13 := (w64 (n := m + 12 + 1) ⟨by omega, by omega⟩).trans (by omega)
theorem we14 {m : Int} (h0 : 0 ≤ m) (h1 : m ≤ 1099511627776) : IntKind.wrap .i64 (m + 13 + 1) = m + 14 := (w64 (n := m + 13 + 1) ⟨by omega, by omega⟩).trans (by omega)
theorem we15 {m : Int} (h0 : 0 ≤ m) (h1 : m ≤ 1099511627776) : IntKind.wrap .i64 (m + 14 + 1) = m + 15 := (w64 (n := m + 14 + 1) ⟨by omega, by omega⟩).trans (by omega)
theorem we16 {m : Int} (h0 : 0 ≤ m) (h1 : m ≤ 1099511627776) : IntKind.wrap .i64 (m + 15 + 1) = m + 16 := (w64 (n := m + 15 + 1) ⟨by omega, by omega⟩).trans (by omega)
theorem we17 {m : Int} (h0 : 0 ≤ m) (h1 : m ≤ 1099511627776) : IntKind.wrap .i64 (m + 16 + 1) = m + 17 := (w64 (n := m + 16 + 1) ⟨by omega, by omega⟩).trans (by omega)
def markM (m : Int) : D_Module := (m, ((m + 1, m + 2, m + 3, m + 4, m + 5, ()), m + 6, ()), ((m + 7, m + 8, m + 9, m + 10, m + 11, ()), m + 12, ()), m + 13, m + 14, m + 15, m + 16, ())
theorem markModule_eq (k : Nat) (hk : MM < k) (L : List D_Module) (hL : L.length ≤ 1048576) (m : Int) (h0 : 0 ≤ m) (hm : m + ((17 * L.length : Nat) : Int) ≤ 1099511627776) :
    laws_markModuleS k L m = some ((m + ((17 * L.length : Nat) : Int), ()), (markF markM 17 L.length m, ())) := by
  unfold laws_markModuleS
  have run := mark_run (step := laws_markModuleS_s2) (E := markM) (c := 17) z_Module (fun L m i rec hi hl g0 g1 => by
      have e1 := we1 g0 g1
      have e2 := we2 g0 g1
      have e3 := we3 g0 g1
      have e4 := we4 g0 g1
      have e5 := we5 g0 g1
      have e6 := we6 g0 g1
      have e7 := we7 g0 g1
      have e8 := we8 g0 g1
      have e9 := we9 g0 g1
      have e10 := we10 g0 g1
      have e11 := we11 g0 g1
      have e12 := we12 g0 g1
      have e13 := we13 g0 g1
      have e14 := we14 g0 g1
      have e15 := we15 g0 g1
      have e16 := we16 g0 g1
      have e17 := we17 g0 g1
      have ei : IntKind.wrap .i64 ((i : Int) + 1) = ((i + 1 : Nat) : Int) := w64 (by omega)
      have c1 : decide ((i : Int) < ((L.length : Nat) : Int)) = true := decide_eq_true (by omega)
      have c2 : decide ((0 : Int) ≤ (i : Int)) = true := decide_eq_true (by omega)
      have c3 : decide (i < L.length) = true := decide_eq_true (by omega)
      have hs : ∀ e, (L.set i e).getD i z_Module = e := fun e => set_getD L i e z_Module hi
      unfold laws_markModuleS_s2 markM
      simp only [e1, e2, e3, e4, e5, e6, e7, e8, e9, e10, e11, e12, e13, e14, e15, e16, e17, ei, Int.toNat_natCast, List.length_set, c1, c2, c3, Bool.and_self, cond_true, hs, List.set_set]
      rfl) (fun L m rec => by
      unfold laws_markModuleS_s2
      exact bif_f (decide_eq_false (by dsimp only; omega))) hk hL h0 hm
  rw [run]; rfl
theorem heldModule_eq (k : Nat) (hk : MM < k) (n : Nat) (hn : n ≤ 1048576) (m : Int) (h0 : 0 ≤ m) (hm : m + ((17 * n : Nat) : Int) ≤ 1099511627776) :
    laws_heldModuleS k (markF markM 17 n m) m = some ((m + ((17 * n : Nat) : Int), ()), ()) := by
  unfold laws_heldModuleS
  have run := held_run (step := laws_heldModuleS_s2) (E := markM) (c := 17) z_Module (fun L m i rec hi hl g0 g1 he => by
      have e1 := we1 g0 g1
      have e2 := we2 g0 g1
      have e3 := we3 g0 g1
      have e4 := we4 g0 g1
      have e5 := we5 g0 g1
      have e6 := we6 g0 g1
      have e7 := we7 g0 g1
      have e8 := we8 g0 g1
      have e9 := we9 g0 g1
      have e10 := we10 g0 g1
      have e11 := we11 g0 g1
      have e12 := we12 g0 g1
      have e13 := we13 g0 g1
      have e14 := we14 g0 g1
      have e15 := we15 g0 g1
      have e16 := we16 g0 g1
      have e17 := we17 g0 g1
      have ei : IntKind.wrap .i64 ((i : Int) + 1) = ((i + 1 : Nat) : Int) := w64 (by omega)
      have c1 : decide ((i : Int) < ((L.length : Nat) : Int)) = true := decide_eq_true (by omega)
      have c2 : decide ((0 : Int) ≤ (i : Int)) = true := decide_eq_true (by omega)
      have c3 : decide (i < L.length) = true := decide_eq_true (by omega)
      unfold laws_heldModuleS_s2
      simp only [e1, e2, e3, e4, e5, e6, e7, e8, e9, e10, e11, e12, e13, e14, e15, e16, e17, ei, Int.toNat_natCast, he, c1, c2, c3, Bool.and_self, cond_true, markM, decide_true, Bool.not_true, cond_false]
      rfl) (fun L m rec => by
      unfold laws_heldModuleS_s2
      exact bif_f (decide_eq_false (by dsimp only; omega))) hk hn h0 hm
  rw [run]; rfl
theorem markByte_run (N : Nat) (hN : N ≤ 1048576) (c : Int) (hc : 0 ≤ c ∧ c ≤ 4611686018427387904) : ∀ (m i k : Nat) (acc : List Int), i + m = N → m < k → acc.length = N →
    ∃ y, iter laws_markByteS_s2 k ((acc, ()), (), c + i, (i : Int), ()) = some ((y, ()), c + N, ())
  | m, i, 0, acc, hi, hk, ha => by omega
  | 0, i, k + 1, acc, hi, _, ha => by
    have hiN : i = N := by omega
    subst hiN
    have step : ∀ rec, laws_markByteS_s2 rec ((acc, ()), (), c + i, (i : Int), ()) = some ((acc, ()), c + i, ()) := by
      intro rec; unfold laws_markByteS_s2
      rw [bif_f (by simp; omega)]
    exact ⟨acc, by rw [iter_succ, step]⟩
  | m + 1, i, k + 1, acc, hi, hk, ha => by
    have step : ∀ rec, laws_markByteS_s2 rec ((acc, ()), (), c + i, (i : Int), ()) = rec ((acc.set i (IntKind.wrap .u8 (c + i)), ()), (), IntKind.wrap .i64 (c + i + 1), IntKind.wrap .i64 ((i : Int) + 1), ()) := by
      intro rec; unfold laws_markByteS_s2
      rw [bif_t (by simp; omega), bif_t (by simp; omega), bif_t (by simp; omega)]
      rfl
    rw [iter_succ, step, w64 (by omega), w64 (by omega)]
    have := markByte_run N hN c hc m (i + 1) k (acc.set i (IntKind.wrap .u8 (c + i))) (by omega) (by omega) (by simpa using ha)
    rw [show c + ((i + 1 : Nat) : Int) = c + i + 1 by omega] at this
    exact this
theorem markByte_ok (k : Nat) (hk : (1048576 : Int) < k) (x : List Int) (hx : x.length ≤ 1048576) (c : Int) (hc : 0 ≤ c ∧ c ≤ 4611686018427387904) : ∃ y, laws_markByteS k x c = some ((c + x.length, ()), (y, ())) := by
  unfold laws_markByteS
  obtain ⟨y, this⟩ := markByte_run x.length hx c hc x.length 0 k x (by omega) (by omega) rfl
  rw [show c + ((0 : Nat) : Int) = c by omega] at this
  exact ⟨y, by rw [show iter laws_markByteS_s2 k ((x, ()), (), c, (0 : Int), ()) = _ from this]; rfl⟩
theorem wb1 {c : Int} (h : 0 ≤ c ∧ c ≤ 4611686018427387904) : IntKind.wrap .i64 (c + 1) = c + 1 := w64 (n := c + 1) ⟨by omega, by omega⟩
theorem wb2 {c : Int} (h : 0 ≤ c ∧ c ≤ 4611686018427387904) : IntKind.wrap .i64 (c + 1 + 1) = c + 2 := (w64 (n := c + 1 + 1) ⟨by omega, by omega⟩).trans (by omega)
theorem wb3 {c : Int} (h : 0 ≤ c ∧ c ≤ 4611686018427387904) : IntKind.wrap .i64 (c + 2 + 1) = c + 3 := (w64 (n := c + 2 + 1) ⟨by omega, by omega⟩).trans (by omega)
theorem getD_set_ne' {α : Type} (l : List α) (i j : Nat) (x d : α) (h : j ≠ i) : (l.set i x).getD j d = l.getD j d := by
  simp only [List.getD]; rw [List.getElem?_set_ne (Ne.symm h)]
theorem ev_step (k' : Nat) (hk' : MM < k') (L : List D_Event) (hL : L.length ≤ 1048576) (i : Nat) (hi : i < L.length) (hd : (L.getD i z_Event).2.2.1.length ≤ 1048576) (c : Int) (hc : 0 ≤ c ∧ c ≤ 1 + 1048581 * (i : Int)) :
    ∃ (E : D_Event) (c' : Int), (0 ≤ c' ∧ c' ≤ 1 + 1048581 * ((i + 1 : Nat) : Int)) ∧ ∀ rec, laws_markEventS_s2 k' rec ((L, ()), (), c, (i : Int), ()) = rec ((L.set i E, ()), (), c', ((i + 1 : Nat) : Int), ()) := by
  obtain ⟨y, hy⟩ := markByte_ok k' hk' (L.getD i z_Event).2.2.1 hd (c + 2) (by omega)
  obtain ⟨T, hT⟩ : ∃ T, T = c + 2 + ((L.getD i z_Event).2.2.1.length : Int) := ⟨_, rfl⟩
  rw [← hT] at hy
  have hT2 : 0 ≤ T ∧ T ≤ 1 + 1048581 * (i : Int) + 1048578 := by omega
  refine ⟨(c, c + 1, y, (T, T + 1, T + 2, ()), ()), T + 3, by omega, fun rec => ?_⟩
  have e1 := wb1 (c := c) (by omega)
  have e2 := wb2 (c := c) (by omega)
  have f1 := wb1 (c := T) (by omega)
  have f2 := wb2 (c := T) (by omega)
  have f3 := wb3 (c := T) (by omega)
  have e2' : IntKind.wrap .i64 (c + 1 + 1) = c + 2 := e2
  have ei : IntKind.wrap .i64 ((i : Int) + 1) = ((i + 1 : Nat) : Int) := w64 (by omega)
  have c1 : decide ((i : Int) < ((L.length : Nat) : Int)) = true := decide_eq_true (by omega)
  have c2 : decide ((0 : Int) ≤ (i : Int)) = true := decide_eq_true (by omega)
  have c3 : decide (i < L.length) = true := decide_eq_true (by omega)
  have hs : ∀ e, (L.set i e).getD i z_Event = e := fun e => set_getD L i e z_Event hi
  unfold laws_markEventS_s2
  simp only [e1, e2, f1, f2, f3, ei, Int.toNat_natCast, List.length_set, c1, c2, c3, Bool.and_self, cond_true, hs, List.set_set, hy, Option.bind_some]
theorem ev_run (k' : Nat) (hk' : MM < k') (N : Nat) (hN : N ≤ 1048576) : ∀ (m i k : Nat) (acc : List D_Event) (c : Int), i + m = N → m < k → acc.length = N → (∀ j, i ≤ j → j < N → (acc.getD j z_Event).2.2.1.length ≤ 1048576) → 0 ≤ c → c ≤ 1 + 1048581 * (i : Int) →
    ∃ y c', iter (laws_markEventS_s2 k') k ((acc, ()), (), c, (i : Int), ()) = some ((y, ()), c', ()) ∧ 0 ≤ c'
  | m, i, 0, acc, c, hi, hk, ha, hB, h0, hc => by omega
  | 0, i, k + 1, acc, c, hi, _, ha, _, h0, _ => by
    refine ⟨acc, c, ?_, h0⟩
    rw [iter_succ]
    unfold laws_markEventS_s2
    exact bif_f (decide_eq_false (by dsimp only; omega))
  | m + 1, i, k + 1, acc, c, hi, hk, ha, hB, h0, hc => by
    obtain ⟨E, c', q, st⟩ := ev_step k' hk' acc (by omega) i (by omega) (hB i (Nat.le_refl _) (by omega)) c ⟨h0, hc⟩
    rw [iter_succ, st]
    exact ev_run k' hk' N hN m (i + 1) k (acc.set i E) c' (by omega) (by omega) (by simpa using ha) (fun j h1 h2 => by rw [getD_set_ne' _ _ _ _ _ (by omega)]; exact hB j (by omega) h2) q.1 q.2
theorem markEv_ok (k : Nat) (hk : MM < k) (x : List D_Event) (hx : x.length ≤ 1048576) (hB : ∀ e ∈ x, e.2.2.1.length ≤ 1048576) : ∃ c L, laws_markEventS k x 1 = some ((c, ()), (L, ())) ∧ 0 ≤ c := by
  have hM : MM = 1048576 := rfl
  unfold laws_markEventS
  obtain ⟨y, c, e, h⟩ := ev_run k hk x.length hx x.length 0 k x 1 (by omega) (by omega) rfl (fun j _ h => hB _ (getD_mem x z_Event j h)) (by omega) (by omega)
  exact ⟨c, y, by rw [show iter (laws_markEventS_s2 k) k ((x, ()), (), (1 : Int), (0 : Int), ()) = _ from e]; rfl, h⟩
end Go.Tw
