/- Plain facts on the mirrors of the functions are proved here. -/
import Derived.Test.YtmjacadeccoclaaPw7
import Derived.Test.YtmjacadeccoclaaPk2
import Derived.Test.YtmjacadeccoclaaPf3
set_option linter.all false
namespace Go.Tw
open Go Go.RowKit

abbrev HH : Int := 1125899906842624
def markT (m : Int) : D_Timer := (m, m + 1, ())
theorem markTimer_eq (k : Nat) (hk : MM < k) (L : List D_Timer) (hL : L.length ≤ 1048576) (m : Int) (h0 : 0 ≤ m) (hm : m + ((2 * L.length : Nat) : Int) ≤ HH) :
    laws_markTimerS k L m = some ((m + ((2 * L.length : Nat) : Int), ()), (markF markT 2 L.length m, ())) := by
  unfold laws_markTimerS
  have hH : HH = 1125899906842624 := rfl
  have run := mark_run (step := laws_markTimerS_s2) (E := markT) (c := 2) z_Timer (fun L m i rec hi hl g0 g1 => by
      have e1 : IntKind.wrap .i64 (m + 1) = m + 1 := w64 (by omega)
      have e4 : IntKind.wrap .i64 (m + 1 + 1) = m + ((2 : Nat) : Int) := by rw [w64 (by omega)]; omega
      have ei : IntKind.wrap .i64 ((i : Int) + 1) = ((i + 1 : Nat) : Int) := w64 (by omega)
      unfold laws_markTimerS_s2
      simp only [e1, e4, ei]
      repeat (refine Eq.trans (bif_t (by simp; omega)) ?_)
      simp only [Int.toNat_natCast]
      repeat (rw [set_getD _ _ _ _ (by first | omega | (simp; omega))])
      simp only [List.set_set]
      rfl) (fun L m rec => by
      unfold laws_markTimerS_s2
      rw [bif_f (by simp)]) hk hL h0 hm
  rw [run]; rfl
theorem heldTimer_eq (k : Nat) (hk : MM < k) (n : Nat) (hn : n ≤ 1048576) (m : Int) (h0 : 0 ≤ m) (hm : m + ((2 * n : Nat) : Int) ≤ HH) :
    laws_heldTimerS k (markF markT 2 n m) m = some ((m + ((2 * n : Nat) : Int), ()), ()) := by
  unfold laws_heldTimerS
  have hH : HH = 1125899906842624 := rfl
  have run := held_run (step := laws_heldTimerS_s2) (E := markT) (c := 2) z_Timer (fun L m i rec hi hl g0 g1 he => by
      have e1 : IntKind.wrap .i64 (m + 1) = m + 1 := w64 (by omega)
      have e4 : IntKind.wrap .i64 (m + 1 + 1) = m + ((2 : Nat) : Int) := by rw [w64 (by omega)]; omega
      have ei : IntKind.wrap .i64 ((i : Int) + 1) = ((i + 1 : Nat) : Int) := w64 (by omega)
      unfold laws_heldTimerS_s2
      simp only [e1, e4, ei]
      have he' : L.getD (i : Int).toNat z_Timer = markT m := he
      rw [he']
      unfold markT
      repeat (first | (refine Eq.trans (bif_t (by simp; omega)) ?_) | (refine Eq.trans (bif_f (by simp)) ?_))
      rfl) (fun L m rec => by
      unfold laws_heldTimerS_s2
      rw [bif_f (by simp)]) hk hn h0 hm
  rw [run]; rfl
def markI (m : Int) : Int := m
theorem markInt_eq (k : Nat) (hk : MM < k) (L : List Int) (hL : L.length ≤ 1048576) (m : Int) (h0 : 0 ≤ m) (hm : m + ((1 * L.length : Nat) : Int) ≤ HH) :
    laws_markIntS k L m = some ((m + ((1 * L.length : Nat) : Int), ()), (markF markI 1 L.length m, ())) := by
  unfold laws_markIntS
  have hH : HH = 1125899906842624 := rfl
  have run := mark_run (step := laws_markIntS_s2) (E := markI) (c := 1) (0 : Int) (fun L m i rec hi hl g0 g1 => by
      have e1 : IntKind.wrap .i64 (m + 1) = m + ((1 : Nat) : Int) := w64 (by omega)
      have ei : IntKind.wrap .i64 ((i : Int) + 1) = ((i + 1 : Nat) : Int) := w64 (by omega)
      unfold laws_markIntS_s2
      simp only [e1, ei]
      repeat (refine Eq.trans (bif_t (by simp; omega)) ?_)
      simp only [Int.toNat_natCast]
      rfl) (fun L m rec => by
      unfold laws_markIntS_s2
      rw [bif_f (by simp)]) hk hL h0 hm
  rw [run]; rfl
theorem heldInt_eq (k : Nat) (hk : MM < k) (n : Nat) (hn : n ≤ 1048576) (m : Int) (h0 : 0 ≤ m) (hm : m + ((1 * n : Nat) : Int) ≤ HH) :
    laws_heldIntS k (markF markI 1 n m) m = some ((m + ((1 * n : Nat) : Int), ()), ()) := by
  unfold laws_heldIntS
  have hH : HH = 1125899906842624 := rfl
  have run := held_run (step := laws_heldIntS_s2) (E := markI) (c := 1) (0 : Int) (fun L m i rec hi hl g0 g1 he => by
      have e1 : IntKind.wrap .i64 (m + 1) = m + ((1 : Nat) : Int) := w64 (by omega)
      have ei : IntKind.wrap .i64 ((i : Int) + 1) = ((i + 1 : Nat) : Int) := w64 (by omega)
      unfold laws_heldIntS_s2
      simp only [e1, ei]
      have he' : L.getD (i : Int).toNat (0 : Int) = m := he
      rw [he']
      repeat (first | (refine Eq.trans (bif_t (by simp; omega)) ?_) | (refine Eq.trans (bif_f (by simp)) ?_))
      rfl) (fun L m rec => by
      unfold laws_heldIntS_s2
      rw [bif_f (by simp)]) hk hn h0 hm
  rw [run]; rfl
/-- numbers through spokes -/
def mkSp : List D_Spoke → Int → List D_Spoke
  | [], _ => []
  | s :: ss, m => (markF markT 2 s.1.length m, ()) :: mkSp ss (m + ((2 * s.1.length : Nat) : Int))
theorem mkSp_len : ∀ ss m, (mkSp ss m).length = ss.length
  | [], _ => rfl
  | s :: ss, m => by simp [mkSp, mkSp_len ss]
theorem mkSp_snoc (s : D_Spoke) : ∀ ss m, mkSp (ss ++ [s]) m = mkSp ss m ++ [(markF markT 2 s.1.length (m + ((2 * sumW ss : Nat) : Int)), ())]
  | [], m => by simp [mkSp, sumW]
  | t :: ss, m => by
    simp only [List.cons_append, mkSp, mkSp_snoc s ss, sumW]
    have : m + ((2 * t.1.length : Nat) : Int) + ((2 * sumW ss : Nat) : Int) = m + ((2 * (t.1.length + sumW ss) : Nat) : Int) := by omega
    rw [this]
theorem sumW_app : ∀ a b : List D_Spoke, sumW (a ++ b) = sumW a + sumW b
  | [], b => by simp [sumW]
  | x :: a, b => by simp [sumW, sumW_app a b]; omega
theorem sumW_take (ss : List D_Spoke) (i : Nat) (hi : i < ss.length) : sumW (ss.take (i + 1)) = sumW (ss.take i) + (ss.getD i z_Spoke).1.length := by
  rw [List.take_add_one, List.getElem?_eq_getElem hi, sumW_app, getD_at ss z_Spoke i hi]
  simp [sumW]
theorem take_snoc (ss : List D_Spoke) (i : Nat) (hi : i < ss.length) : ss.take (i + 1) = ss.take i ++ [ss.getD i z_Spoke] := by
  rw [List.take_add_one, List.getElem?_eq_getElem hi, getD_at ss z_Spoke i hi]; rfl
theorem sumW_take_le (ss : List D_Spoke) (i : Nat) : sumW (ss.take i) ≤ sumW ss := by
  have := sumW_app (ss.take i) (ss.drop i)
  rw [List.take_append_drop] at this; omega
theorem sumW_bd : ∀ ss : List D_Spoke, (∀ s ∈ ss, s.1.length ≤ 1048576) → sumW ss ≤ ss.length * 1048576
  | [], _ => by simp [sumW]
  | s :: ss, h => by
    have h1 := sumW_bd ss fun t ht => h t (by simp [ht])
    have h2 := h s (by simp)
    simp only [sumW, List.length_cons, Nat.succ_mul]; omega
theorem mkSp_get : ∀ (ss : List D_Spoke) (m : Int) (i : Nat), i < ss.length → (mkSp ss m).getD i z_Spoke = (markF markT 2 (ss.getD i z_Spoke).1.length (m + ((2 * sumW (ss.take i) : Nat) : Int)), ())
  | [], _, _, h => by simp at h
  | s :: ss, m, 0, _ => by simp [mkSp, sumW]
  | s :: ss, m, i + 1, h => by
    simp only [mkSp, List.getD_cons_succ, List.take_succ_cons, sumW]
    rw [mkSp_get ss _ i (by simpa using h)]
    have : m + ((2 * s.1.length : Nat) : Int) + ((2 * sumW (ss.take i) : Nat) : Int) = m + ((2 * (s.1.length + sumW (ss.take i)) : Nat) : Int) := by omega
    rw [this]
theorem markSpoke_eq (k : Nat) (hk : MM < k) (ss : List D_Spoke) (hl : ss.length ≤ 1048576) (hs : ∀ s ∈ ss, s.1.length ≤ 1048576) (m : Int) (h0 : 0 ≤ m) (hm : m + ((2 * sumW ss : Nat) : Int) ≤ HH) :
    laws_markSpokeS k ss m = some ((m + ((2 * sumW ss : Nat) : Int), ()), (mkSp ss m, ())) := by
  have hM : MM = 1048576 := rfl
  unfold laws_markSpokeS
  have run := search_run (step := laws_markSpokeS_s2 k) (st := fun i => ((mkSp (ss.take i) m ++ ss.drop i, ()), (), m + ((2 * sumW (ss.take i) : Nat) : Int), (i : Int), ())) (n := ss.length) (hit := fun i => none) (fin := ((mkSp ss m, ()), m + ((2 * sumW ss : Nat) : Int), ())) (fun i hi rec => by
      have hlen : (mkSp (ss.take i) m ++ ss.drop i).length = ss.length := by simp [mkSp_len]; omega
      have hg : (mkSp (ss.take i) m ++ ss.drop i).getD i z_Spoke = ss.getD i z_Spoke := by
        have e : (mkSp (ss.take i) m).length = i := by rw [mkSp_len, List.length_take]; omega
        rw [getD_at _ z_Spoke i (by omega), getD_at ss z_Spoke i hi, List.getElem_append_right (by omega)]
        simp [e]
      have hsl := hs _ (getD_mem ss z_Spoke i hi)
      have h1 := sumW_take ss i hi
      have h2 := sumW_take_le ss (i + 1)
      unfold laws_markSpokeS_s2
      refine (bif_t (by simp only [hlen]; simp; omega)).trans ?_
      refine (bif_t (by simp only [hlen]; simp; omega)).trans ?_
      refine (bif_t (by simp only [hlen]; simp; omega)).trans ?_
      have hmk := markTimer_eq k hk (ss.getD i z_Spoke).1 hsl (m + ((2 * sumW (ss.take i) : Nat) : Int)) (by omega) (by omega)
      rw [← hg] at hmk
      refine (congrArg (fun o => Option.bind o _) hmk).trans ?_
      simp only [Option.bind_some]
      have hwi : IntKind.wrap .i64 ((i : Int) + 1) = ((i + 1 : Nat) : Int) := w64 (by omega)
      rw [hwi, hg]
      show rec _ = rec _
      congr 2
      · show ((mkSp (ss.take i) m ++ ss.drop i).set i _, ()) = _
        rw [drop_at ss z_Spoke i hi, set_mid _ _ _ _ _ (by rw [mkSp_len, List.length_take]; omega), take_snoc ss i hi, mkSp_snoc]
        simp
      · have : m + ((2 * sumW (ss.take i) : Nat) : Int) + ((2 * (ss.getD i z_Spoke).1.length : Nat) : Int) = m + ((2 * sumW (ss.take (i + 1)) : Nat) : Int) := by omega
        rw [this]) (fun rec => by
      unfold laws_markSpokeS_s2
      rw [List.take_length, List.drop_length, List.append_nil]
      exact bif_f (by simp [mkSp_len])) ss.length 0 k (by omega) (by omega)
  rw [sch_none] at run
  simp only [List.take_zero, List.drop_zero, mkSp, sumW, Nat.mul_zero, List.nil_append] at run
  have e0 : m + ((0 : Nat) : Int) = m := by omega
  rw [e0] at run
  refine (congrArg (fun o => Option.bind o _) run).trans ?_
  rfl
theorem heldSpoke_eq (k : Nat) (hk : MM < k) (ss : List D_Spoke) (hl : ss.length ≤ 1048576) (hs : ∀ s ∈ ss, s.1.length ≤ 1048576) (m : Int) (h0 : 0 ≤ m) (hm : m + ((2 * sumW ss : Nat) : Int) ≤ HH) :
    laws_heldSpokeS k (mkSp ss m) m = some ((m + ((2 * sumW ss : Nat) : Int), ()), ()) := by
  have hM : MM = 1048576 := rfl
  unfold laws_heldSpokeS
  have run := search_run (step := laws_heldSpokeS_s2 k) (st := fun i => ((), mkSp ss m, m + ((2 * sumW (ss.take i) : Nat) : Int), (i : Int), ())) (n := ss.length) (hit := fun i => none) (fin := Sum.inr ((), m + ((2 * sumW ss : Nat) : Int), ())) (fun i hi rec => by
      have hlen : (mkSp ss m).length = ss.length := mkSp_len _ _
      have hg := mkSp_get ss m i hi
      have hsl := hs _ (getD_mem ss z_Spoke i hi)
      have h1 := sumW_take ss i hi
      have h2 := sumW_take_le ss (i + 1)
      unfold laws_heldSpokeS_s2
      refine (bif_t (by simp only [hlen]; simp; omega)).trans ?_
      refine (bif_t (by simp only [hlen]; simp; omega)).trans ?_
      refine (bif_t (by simp only [hlen]; simp; omega)).trans ?_
      have hmk := heldTimer_eq k hk (ss.getD i z_Spoke).1.length hsl (m + ((2 * sumW (ss.take i) : Nat) : Int)) (by omega) (by omega)
      have hmk' : laws_heldTimerS k ((mkSp ss m).getD i z_Spoke).1 (m + ((2 * sumW (ss.take i) : Nat) : Int)) = some ((m + ((2 * sumW (ss.take i) : Nat) : Int) + ((2 * (ss.getD i z_Spoke).1.length : Nat) : Int), ()), ()) := by rw [hg]; exact hmk
      refine (congrArg (fun o => Option.bind o _) hmk').trans ?_
      simp only [Option.bind_some]
      refine (bif_f (by simp only [decide_eq_false_iff_not]; omega)).trans ?_
      have hwi : IntKind.wrap .i64 ((i : Int) + 1) = ((i + 1 : Nat) : Int) := w64 (by omega)
      have : m + ((2 * sumW (ss.take i) : Nat) : Int) + ((2 * (ss.getD i z_Spoke).1.length : Nat) : Int) = m + ((2 * sumW (ss.take (i + 1)) : Nat) : Int) := by omega
      rw [hwi, this]
      rfl) (fun rec => by
      unfold laws_heldSpokeS_s2
      rw [List.take_length]
      exact bif_f (by simp [mkSp_len])) ss.length 0 k (by omega) (by omega)
  rw [sch_none] at run
  simp only [List.take_zero, sumW, Nat.mul_zero] at run
  have e0 : m + ((0 : Nat) : Int) = m := by omega
  rw [e0] at run
  refine (congrArg (fun o => Option.bind o _) run).trans ?_
  rfl
theorem heldWheel_eq (k : Nat) (hk : MM < k) (n : Int) (ss : List D_Spoke) (hl : ss.length ≤ 1048576) (hs : ∀ s ∈ ss, s.1.length ≤ 1048576) (m : Int) (h0 : 0 ≤ m) (hm : m + ((2 * sumW ss : Nat) : Int) ≤ HH) :
    laws_heldWheel k (n, mkSp ss m, ()) m = some ((m + ((2 * sumW ss : Nat) : Int), ()), ()) := by
  unfold laws_heldWheel
  refine (congrArg (fun o => Option.bind o _) (heldSpoke_eq k hk ss hl hs m h0 hm)).trans ?_
  simp only [Option.bind_some]
  exact bif_f (by simp only [decide_eq_false_iff_not]; omega)
end Go.Tw
