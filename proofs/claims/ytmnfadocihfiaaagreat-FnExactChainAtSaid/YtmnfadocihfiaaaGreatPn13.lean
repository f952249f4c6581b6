/- Plain facts on the mirrors of the functions are proved here. -/
import Derived.Test.YtmnfadocihfiaaaGreatPn11
import Derived.Test.YtmnfadocihfiaaaGreatPn12
set_option linter.all false
set_option maxRecDepth 100000
set_option maxHeartbeats 4000000
namespace Go.Tw
open Go Sem
theorem eqSl (k : Nat) (hk : MM < k) (a b : List Int) (hl : a.length ≤ 100000) : slices_Equal_byte_byte k a b = some ((decide (a = b), ()), ()) := by
  have hM : MM = 1048576 := rfl
  unfold slices_Equal_byte_byte
  by_cases h : ((a.length : Nat) : Int) = ((b.length : Nat) : Int)
  case neg =>
    rw [decide_eq_false h, decide_eq_false (fun e => h (by rw [e]))]
    rfl
  rw [decide_eq_true h]
  have hab : a.length = b.length := by omega
  have run := search_run (step := slices_Equal_byte_byte_s4) (st := fun i => ((), a, b, ((a.length : Nat) : Int), (i : Int), ())) (n := a.length) (hit := fun i => bif !decide (a.getD i 0 = b.getD i 0) then some (Sum.inl ((), false, ())) else none) (fin := Sum.inr ((), ())) (fun i hi rec => by
      unfold slices_Equal_byte_byte_s4
      dsimp only [Int.toNat_natCast]
      rw [bif_t (decide_eq_true (by omega)), bif_t (Bool.and_eq_true_iff.2 ⟨decide_eq_true (by omega), decide_eq_true (by omega)⟩), bif_t (decide_eq_true (by omega)), bif_t (Bool.and_eq_true_iff.2 ⟨decide_eq_true (by omega), decide_eq_true (by omega)⟩), bif_t (decide_eq_true (by omega)), w64 (by omega)]
      cases decide (a.getD i 0 = b.getD i 0) <;> rfl) (fun rec => by
      unfold slices_Equal_byte_byte_s4
      exact bif_f (decide_eq_false (by dsimp only; omega))) a.length 0 k (by omega) (by omega)
  rw [show iter (slices_Equal_byte_byte_s4) k ((), a, b, (((List.length a) : Nat) : Int), (0 : Int), ()) = _ from run]
  rcases sch_cases (hit := fun i => bif !decide (a.getD i 0 = b.getD i 0) then some (Sum.inl ((), false, ()) : (Unit × (Bool × Unit)) ⊕ (Unit × Unit)) else none) (fin := Sum.inr ((), ())) a.length 0 with ⟨j, o, _, h2, h3, h4⟩ | ⟨h1, h2⟩
  · rw [h4]
    by_cases g : a.getD j 0 = b.getD j 0
    · rw [decide_eq_true g] at h3; cases h3
    · rw [decide_eq_false g] at h3
      cases h3
      rw [decide_eq_false (fun e => g (by rw [e]))]
      rfl
  · rw [h2]
    have : a = b := by
      refine List.ext_getElem hab fun i hi hi' => ?_
      have := h1 i (by omega) (by omega)
      by_cases g : a.getD i 0 = b.getD i 0
      · rw [getD_at a 0 i hi, getD_at b 0 i hi'] at g; exact g
      · rw [decide_eq_false g] at this; cases this
    rw [decide_eq_true this]
    rfl
def Enc (d : List Int) : Prop := ∃ c, cmdB c = true ∧ cmdBy c = d
open Classical in
noncomputable def cmdRd (d : List Int) : D_Cmd × Int :=
  if 600 < d.length then (zC, 1) else if d.length < 3 then (zC, 2)
  else if ¬ beB (d.drop (d.length - 2)) = csum (d.take (d.length - 2)) then (zC, 3)
  else if h : Enc d then (Classical.choose h, 0) else (zC, 4)
theorem cmdBy_split {c : D_Cmd} (h : cmdB c = true) : cmdBy c = (c.1 % 256 :: bodyB c) ++ putB (csum (c.1 % 256 :: bodyB c)) 2 := by
  unfold cmdBy; rw [h]; rfl
theorem cmdBy_take {c : D_Cmd} (h : cmdB c = true) {d : List Int} (e : cmdBy c = d) : d.take (d.length - 2) = c.1 % 256 :: bodyB c := by
  rw [← e, cmdBy_split h, List.length_append, putB_len]
  exact List.take_left' (by omega)
theorem enc_inj {c c' : D_Cmd} (h : cmdB c = true) (h' : cmdB c' = true) (e : cmdBy c = cmdBy c') : c = c' := by
  have h1 := cmdBy_take h e
  have h2 := cmdBy_take h' rfl
  rw [h2] at h1
  obtain ⟨k, hk⟩ : ∃ k : Nat, MM < k := ⟨1048577, by decide⟩
  have g1 := QC k hk h
  have g2 := QC k hk h'
  rw [h1] at g2
  rw [g1] at g2
  simpa using g2
theorem cmdRd_ok {c : D_Cmd} {d : List Int} (h6 : ¬ 600 < d.length) (h3 : ¬ d.length < 3) (hs : beB (d.drop (d.length - 2)) = csum (d.take (d.length - 2))) (h : cmdB c = true) (e : cmdBy c = d) : cmdRd d = (c, 0) := by
  have hE : Enc d := ⟨c, h, e⟩
  unfold cmdRd
  rw [if_neg h6, if_neg h3, if_neg (by simpa using hs), dif_pos hE]
  obtain ⟨q1, q2⟩ := Classical.choose_spec hE
  rw [enc_inj q1 h (q2.trans e.symm)]
theorem cmdRd_bad {d : List Int} (h6 : ¬ 600 < d.length) (h3 : ¬ d.length < 3) (hs : beB (d.drop (d.length - 2)) = csum (d.take (d.length - 2))) (h : ¬ Enc d) : cmdRd d = (zC, 4) := by
  unfold cmdRd
  rw [if_neg h6, if_neg h3, if_neg (by simpa using hs), dif_neg h]
theorem enc_by {c : D_Cmd} {d : List Int} (h3 : ¬ d.length < 3) (e : cmdBy c = d) : cmdB c = true := by
  cases g : cmdB c
  · unfold cmdBy at e
    rw [g] at e
    simp only [cond_false] at e
    subst e
    simp at h3
  · rfl
theorem take_b {l : List Int} (h : bytesP l) (n : Nat) : bytesP (l.take n) := fun b hb => h b (List.mem_of_mem_take hb)
theorem drop_b {l : List Int} (h : bytesP l) (n : Nat) : bytesP (l.drop n) := fun b hb => h b (List.mem_of_mem_drop hb)
theorem cmdBy_le (c : D_Cmd) : (cmdBy c).length ≤ 600 := by
  cases g : cmdB c
  · unfold cmdBy; rw [g]; simp
  · rw [cmdBy_split g]
    have := bodyB_le (cmdB_len g)
    simp only [List.length_append, List.length_cons, putB_len]; omega
theorem readI (k : Nat) (hk : MM < k) (d : List Int) (hb : bytesP d) (hd : d.length ≤ 1000000) : impl_CmdRead k d = some (((cmdRd d).1, (cmdRd d).2, ()), ()) := by
  unfold impl_CmdRead
  by_cases h6 : 600 < d.length
  · unfold cmdRd
    rw [if_pos h6]
    exact bif_t (decide_eq_true (by omega))
  refine (bif_f (decide_eq_false (by omega))).trans ?_
  rw [w64 (by omega)]
  by_cases h3 : d.length < 3
  · unfold cmdRd
    rw [if_neg h6, if_pos h3]
    exact bif_t (decide_eq_true (by omega))
  refine (bif_f (decide_eq_false (by omega))).trans ?_
  obtain ⟨n, hn⟩ : ∃ n, n = d.length - 2 := ⟨_, rfl⟩
  have en : ((d.length : Nat) : Int) - 2 = (n : Int) := by omega
  simp only [en, Int.toNat_natCast]
  have c1 : (decide ((0 : Int) ≤ (n : Int)) && decide ((n : Int) ≤ ((d.length : Nat) : Int))) = true := Bool.and_eq_true_iff.2 ⟨decide_eq_true (by omega), decide_eq_true (by omega)⟩
  rw [bif_t (Bool.and_eq_true_iff.2 ⟨c1, decide_eq_true (by omega)⟩), List.take_of_length_le (i := d.length - n) (l := d.drop n) (by rw [List.length_drop]; omega), beOf_eq k hk _ (drop_b hb n) (by rw [List.length_drop]; omega)]
  simp only [Option.bind_some, c1, cond_true, csumI k hk _ (take_b hb n)]
  by_cases hs : beB (d.drop n) = csum (d.take n)
  case neg =>
    rw [decide_eq_false hs]
    unfold cmdRd
    rw [if_neg h6, if_neg h3, ← hn, if_pos hs]
    rfl
  rw [decide_eq_true hs]
  simp only [Bool.not_true, cond_false]
  rw [hn] at hs
  by_cases hE : Enc d
  · obtain ⟨c, g1, g2⟩ := hE
    have ht := cmdBy_take g1 g2
    rw [cmdRd_ok h6 h3 hs g1 g2, hn, ht, QC k hk g1]
    simp only [Option.bind_some, cmdByI k hk, g2]
    rw [eqSl k hk d d (by omega), decide_eq_true rfl]
    rfl
  · rw [cmdRd_bad h6 h3 hs hE]
    obtain ⟨c, l, _, e⟩ := tC k hk (d.take n) (take_b hb n)
    rw [e]
    simp only [Option.bind_some, cmdByI k hk]
    have hne : ¬ cmdBy c = d := fun e => hE ⟨c, enc_by h3 e, e⟩
    have := cmdBy_le c
    rw [eqSl k hk _ d (by omega), decide_eq_false hne]
    rfl
end Go.Tw
