/- Plain facts on the mirrors of the functions are proved here. -/
import Derived.Test.YtmnfadocihfiaaaGreatPn9
set_option linter.all false
set_option maxRecDepth 100000
set_option maxHeartbeats 4000000
namespace Go.Tw
open Go Sem
theorem twos3 (a b c : Int) : twos [a, b, c] = putB a 2 ++ (putB b 2 ++ putB c 2) := by
  simp [twos]
theorem modBy_ok {m : D_Module} (h : modB m = true) (r : List Int) : modBy m ++ r = m.1 :: (prefBy m.2.1 ++ (prefBy m.2.2.1 ++ (putB m.2.2.2.1 2 ++ (putB m.2.2.2.2.1 2 ++ (putB m.2.2.2.2.2.1 2 ++ m.2.2.2.2.2.2.1 :: r))))) := by
  obtain ⟨h1, _, _, _, _, _, h7⟩ := mod_rng h
  unfold modBy
  rw [m8 h1, m8 h7, twos3]
  simp only [List.cons_append, List.append_assoc, List.nil_append]
theorem QM (k : Nat) (hk : MM < k) {m : D_Module} {r : List Int} (hm : modB m = true) (h : bytesP (modBy m ++ r)) : impl_cursor_module k (modBy m ++ r, ()) = some ((m, ()), ((r, ()), ())) := by
  obtain ⟨h1, h2, h3, h4, h5, h6, h7⟩ := mod_rng hm
  unfold impl_cursor_module
  rw [modBy_ok hm] at h ⊢
  have g1 := bytes_t h
  have g2 := bytes_r g1
  have g3 := bytes_r g2
  have g4 := bytes_r g3
  have g5 := bytes_r g4
  have g6 := bytes_r g5
  simp only [Q1 k hk h, QX k hk h2 g1, QX k hk h3 g2, QP k hk h4 g3, Q2 k hk h5 g4, Q2 k hk h6 g5, Q1 k hk g6, Option.bind_some]
def zC : D_Cmd := (0, 0, 0, zR, zL, [], ())
def putC (c : D_Cmd) (l : List D_Module) : D_Cmd := (c.1, c.2.1, c.2.2.1, c.2.2.2.1, c.2.2.2.2.1, l, ())
theorem tloop (k : Nat) (hk : MM < k) (n : Int) (hn : n ≤ 255) (c0 : D_Cmd) : ∀ (m i kk : Nat) (l : List Int) (c : D_Cmd), n ≤ (i : Int) + m → i + m ≤ 256 → m < kk → bytesP l → c.2.2.2.2.2.1.length ≤ i → ∃ c' l', bytesP l' ∧ iter (impl_cursor_cmd_s22 k) kk (((l, ()), ()), (), c0, c, n, (i : Int), ()) = some (((l', ()), ()), c0, c', ())
  | m, i, 0, l, c, h1, h2, h3, hb, hc => by omega
  | 0, i, kk + 1, l, c, h1, h2, h3, hb, hc => by
    rw [iter_succ]
    unfold impl_cursor_cmd_s22
    exact ⟨c, l, hb, bif_f (decide_eq_false (by dsimp only; omega))⟩
  | m + 1, i, kk + 1, l, c, h1, h2, h3, hb, hc => by
    rw [iter_succ]
    obtain ⟨rec, hrec⟩ : ∃ rec, rec = iter (impl_cursor_cmd_s22 k) kk := ⟨_, rfl⟩
    rw [← hrec]
    unfold impl_cursor_cmd_s22
    by_cases hi : (i : Int) < n
    · obtain ⟨a, l1, b1, e1⟩ := tM k hk l hb
      obtain ⟨c', l', hb', e'⟩ := tloop k hk n hn c0 m (i + 1) kk l1 (putC c (c.2.2.2.2.2.1 ++ [a])) (by omega) (by omega) (by omega) b1 (by simp only [putC, List.length_append, List.length_cons, List.length_nil]; omega)
      refine ⟨c', l', hb', ?_⟩
      rw [← hrec] at e'
      refine (bif_t (decide_eq_true hi)).trans ?_
      dsimp only
      rw [e1]
      dsimp only [Option.bind_some]
      refine (bif_t (decide_eq_true (by omega))).trans ?_
      rw [w64 (by omega)]
      exact e'
    · exact ⟨c, l, hb, bif_f (decide_eq_false hi)⟩
theorem qloop (k : Nat) (hk : MM < k) (n : Nat) (hn : n ≤ 8) (c0 : D_Cmd) (r : List Int) : ∀ (ms : List D_Module) (i kk : Nat) (c : D_Cmd), n = i + ms.length → ms.length < kk → (∀ m ∈ ms, modB m = true) → bytesP (chB ms ++ r) → c.2.2.2.2.2.1.length ≤ i → iter (impl_cursor_cmd_s22 k) kk (((chB ms ++ r, ()), ()), (), c0, c, (n : Int), (i : Int), ()) = some (((r, ()), ()), c0, putC c (c.2.2.2.2.2.1 ++ ms), ())
  | ms, i, 0, c, h1, h2, h3, hb, hc => by omega
  | [], i, kk + 1, c, h1, h2, h3, hb, hc => by
    rw [iter_succ]
    unfold impl_cursor_cmd_s22
    refine (bif_f (decide_eq_false (by simp at h1; dsimp only; omega))).trans ?_
    rw [List.append_nil]; rfl
  | m :: ms, i, kk + 1, c, h1, h2, h3, hb, hc => by
    rw [iter_succ]
    obtain ⟨rec, hrec⟩ : ∃ rec, rec = iter (impl_cursor_cmd_s22 k) kk := ⟨_, rfl⟩
    have hb' : bytesP (modBy m ++ (chB ms ++ r)) := by simpa [chB, List.append_assoc] using hb
    have ih := qloop k hk n hn c0 r ms (i + 1) kk (putC c (c.2.2.2.2.2.1 ++ [m])) (by simp at h1; omega) (by simp at h2; omega) (fun x hx => h3 x (List.mem_cons_of_mem _ hx)) (bytes_r hb') (by simp [putC]; omega)
    rw [← hrec] at ih ⊢
    rw [show chB (m :: ms) ++ r = modBy m ++ (chB ms ++ r) by simp [chB, List.append_assoc]]
    unfold impl_cursor_cmd_s22
    refine (bif_t (decide_eq_true (by simp at h1; dsimp only; omega))).trans ?_
    dsimp only
    rw [QM k hk (h3 m List.mem_cons_self) hb']
    dsimp only [Option.bind_some]
    refine (bif_t (decide_eq_true (by simp at h1; omega))).trans ?_
    rw [w64 (by omega)]
    refine Eq.trans ih ?_
    unfold putC
    simp only [List.append_assoc, List.cons_append, List.nil_append]
theorem tk_rng {l : List Int} (h : bytesP l) : 0 ≤ (tk 1 l).1 ∧ (tk 1 l).1 ≤ 255 := by
  match l with
  | [] => exact ⟨by decide, by decide⟩
  | a :: r => rw [tk_one]; exact h a List.mem_cons_self
end Go.Tw
