/- Facts on mirrors. -/
import Derived.Test.YtmnfadocihfiaaaGreatPn1
set_option linter.all false
namespace Go.Tw
open Go Go.RowKit
theorem within_eq (x a b : Int) : impl_within x a b = some ((decide (a ≤ x) && decide (x ≤ b), ()), ()) := by
  unfold impl_within
  cases decide (a ≤ x) <;> rfl
def longB (n : Int) : Bool := decide (0 ≤ n) && decide (n ≤ 4294967295)
theorem longI (n : Int) : impl_isLong n = some ((longB n, ()), ()) := by
  unfold impl_isLong; rw [within_eq]; rfl
theorem longS (n : Int) : spec_l03Half n = some ((longB n, ()), ()) := by
  unfold spec_l03Half longB
  cases decide (0 ≤ n) <;> rfl
def addrB (a : D_Addr) : Bool :=
  bif decide (a.1 = 4) then decide (a.2.1 = 0) && (decide (a.2.2.1 = 0) && (decide (a.2.2.2.1 = 0) && longB a.2.2.2.2.1)) else decide (a.1 = 6) && (longB a.2.1 && (longB a.2.2.1 && (longB a.2.2.2.1 && longB a.2.2.2.2.1)))
theorem addrI (a : D_Addr) : impl_AddrOk a = some ((addrB a, ()), ()) := by
  unfold impl_AddrOk addrB
  simp only [longI, Option.bind_some]
  generalize longB a.2.1 = x1
  generalize longB a.2.2.1 = x2
  generalize longB a.2.2.2.1 = x3
  generalize longB a.2.2.2.2.1 = x4
  cases decide (a.1 = 4) <;> cases decide (a.1 = 6) <;> cases decide (a.2.1 = 0) <;> cases decide (a.2.2.1 = 0) <;> cases decide (a.2.2.2.1 = 0) <;> cases x1 <;> cases x2 <;> cases x3 <;> rfl
theorem addrS (a : D_Addr) : spec_AddrOk a = some ((addrB a, ()), ()) := by
  unfold spec_AddrOk addrB
  simp only [longS, Option.bind_some]
  generalize longB a.2.1 = x1
  generalize longB a.2.2.1 = x2
  generalize longB a.2.2.2.1 = x3
  generalize longB a.2.2.2.2.1 = x4
  cases decide (a.1 = 4) <;> cases decide (a.1 = 6) <;> cases decide (a.2.1 = 0) <;> cases decide (a.2.2.1 = 0) <;> cases decide (a.2.2.2.1 = 0) <;> cases x1 <;> cases x2 <;> cases x3 <;> rfl
theorem flat_len : ∀ (ls : List (List Int)) (j : Nat), (ls.take j).flatten.length ≤ ls.flatten.length
  | ls, j => by
    have := congrArg (fun l => (List.flatten l).length) (List.take_append_drop j ls)
    simp only [List.flatten_append, List.length_append] at this
    omega
theorem flat_take (ls : List (List Int)) (j : Nat) (h : j < ls.length) : (ls.take (j + 1)).flatten = (ls.take j).flatten ++ ls.getD j [] := by
  rw [List.take_add_one, List.getElem?_eq_getElem h, getD_at ls [] j h]
  simp only [Option.toList_some, List.flatten_append, List.flatten_cons, List.flatten_nil, List.append_nil]
theorem catB (k : Nat) (hk : MM < k) (ls : List (List Int)) (h1 : ls.length ≤ 1000) (h2 : ls.flatten.length ≤ 1100000) : slices_Concat_byte_byte k ls = some ((ls.flatten, ()), ()) := by
  have hM : MM = 1048576 := rfl
  obtain ⟨a, ha, r1⟩ := inv_run (step := slices_Concat_byte_byte_s3) (n := ls.length) (st := fun j (a : Int) => ((), ls, a, ls, ((ls.length : Nat) : Int), (j : Int), ())) (fin := fun a => ((), ls, a, ())) (fun j a => a = ((ls.take j).flatten.length : Int))
    (fun j a hj hI => by
      refine ⟨((ls.take (j + 1)).flatten.length : Int), rfl, fun rec => ?_⟩
      have hwi : IntKind.wrap .i64 ((j : Int) + 1) = ((j + 1 : Nat) : Int) := w64 (by omega)
      have e := congrArg List.length (flat_take ls j hj)
      rw [List.length_append] at e
      have hb := flat_len ls (j + 1)
      have hw : IntKind.wrap .i64 (a + ((List.length (ls.getD j []) : Nat) : Int)) = ((ls.take (j + 1)).flatten.length : Int) := by rw [w64 (by omega)]; omega
      unfold slices_Concat_byte_byte_s3
      refine (bif_t (by simp; omega)).trans ?_
      refine (bif_t (by simp; omega)).trans ?_
      refine (bif_t (by simp; omega)).trans ?_
      simp only [Int.toNat_natCast, hw, hwi]
      exact bif_f (decide_eq_false (by omega)))
    (fun a hI rec => by
      unfold slices_Concat_byte_byte_s3
      exact bif_f (by simp)) ls.length 0 k 0 (by omega) (by omega) (by simp)
  rw [List.take_length] at ha
  obtain ⟨b, hb, r2⟩ := inv_run (step := slices_Concat_byte_byte_s11) (n := ls.length) (st := fun j (a : List Int) => ((), a, ls, ((ls.length : Nat) : Int), (j : Int), ())) (fin := fun a => ((), a, ())) (fun j a => a = (ls.take j).flatten)
    (fun j a hj hI => by
      refine ⟨(ls.take (j + 1)).flatten, rfl, fun rec => ?_⟩
      have hwi : IntKind.wrap .i64 ((j : Int) + 1) = ((j + 1 : Nat) : Int) := w64 (by omega)
      have e := flat_take ls j hj
      have el := congrArg List.length e
      rw [List.length_append] at el
      have hb := flat_len ls (j + 1)
      unfold slices_Concat_byte_byte_s11
      refine (bif_t (by simp; omega)).trans ?_
      refine (bif_t (by simp; omega)).trans ?_
      refine (bif_t (by simp; omega)).trans ?_
      simp only [Int.toNat_natCast, hwi]
      refine (bif_t (decide_eq_true (by rw [hI]; omega))).trans ?_
      rw [e, hI])
    (fun a hI rec => by
      unfold slices_Concat_byte_byte_s11
      exact bif_f (by simp)) ls.length 0 k [] (by omega) (by omega) (by simp)
  rw [List.take_length] at hb
  subst ha hb
  have hw : IntKind.wrap .i64 ((ls.flatten.length : Int) - 0) = (ls.flatten.length : Int) := by rw [w64 (by omega)]; omega
  obtain ⟨F, hF⟩ : ∃ F, F = ls.flatten := ⟨_, rfl⟩
  rw [← hF] at hw h2 r1 r2 ⊢
  unfold slices_Concat_byte_byte
  refine (congrArg (fun o => Option.bind o _) r1).trans ?_
  simp only [Option.bind_some, hw]
  refine (bif_f (decide_eq_false (by omega))).trans ?_
  by_cases h0 : 0 < F.length
  · refine (bif_t (decide_eq_true (by omega))).trans ((bif_t (Bool.and_eq_true_iff.2 ⟨decide_eq_true (by omega), decide_eq_true (by omega)⟩)).trans ((bif_t (decide_eq_true (by omega))).trans ?_))
    exact (congrArg (fun o => Option.bind o _) r2).trans rfl
  · refine (bif_f (decide_eq_false (by omega))).trans ?_
    exact (congrArg (fun o => Option.bind o _) r2).trans rfl
def addrBy (a : D_Addr) : List Int :=
  bif addrB a then (bif decide (a.1 = 4) then putB a.2.2.2.2.1 4 else ((putB a.2.1 4 ++ putB a.2.2.1 4) ++ putB a.2.2.2.1 4) ++ putB a.2.2.2.2.1 4) else []
theorem addrByI (k : Nat) (hk : MM < k) (a : D_Addr) : impl_AddrBytes k a = some ((addrBy a, ()), ()) := by
  unfold impl_AddrBytes addrBy
  simp only [addrI, Option.bind_some, put32I k hk]
  cases addrB a with
  | false => rfl
  | true =>
    simp only [Bool.not_true, cond_true, cond_false]
    cases decide (a.1 = 4) with
    | true => rfl
    | false =>
      simp only [cond_false]
      rw [catB k hk _ (by simp) (by simp [putB_len])]
      simp
theorem addrByS (a : D_Addr) : spec_AddrBytes a = some ((addrBy a, ()), ()) := by
  unfold spec_AddrBytes addrBy
  simp only [addrS, Option.bind_some, put32S, putB_len, List.length_append]
  cases addrB a with
  | false => rfl
  | true =>
    simp only [Bool.not_true, cond_true, cond_false]
    cases decide (a.1 = 4) <;> rfl
theorem addrBy_bytes (a : D_Addr) : bytesP (addrBy a) := by
  intro b hb
  unfold addrBy at hb
  cases h1 : addrB a with
  | false => rw [h1] at hb; simp at hb
  | true =>
    rw [h1] at hb
    cases h2 : decide (a.1 = 4) with
    | true => rw [h2] at hb; exact putB_bytes _ _ b hb
    | false =>
      rw [h2] at hb
      simp only [cond_true, cond_false, List.mem_append] at hb
      rcases hb with ((hb | hb) | hb) | hb <;> exact putB_bytes _ _ b hb
def bitsA (a : D_Addr) : Int := bif decide (a.1 = 4) then 32 else 128
def addrOf (l : List Int) : D_Addr × Bool :=
  bif decide (((l.length : Nat) : Int) = 4) then ((4, 0, 0, 0, beB l, ()), true)
  else bif decide (((l.length : Nat) : Int) = 16) then ((6, beB (l.take 4), beB ((l.drop 4).take 4), beB ((l.drop 8).take 4), beB ((l.drop 12).take 4), ()), true)
  else ((0, 0, 0, 0, 0, ()), false)
theorem sub_bytes {l : List Int} (h : bytesP l) (i m : Nat) : bytesP ((l.drop i).take m) := fun b hb => h b (List.mem_of_mem_drop (List.mem_of_mem_take hb))
theorem addrOfI (k : Nat) (hk : MM < k) (l : List Int) (hb : bytesP l) : impl_AddrOf k l = some (((addrOf l).1, (addrOf l).2, ()), ()) := by
  unfold impl_AddrOf addrOf
  by_cases h4 : ((l.length : Nat) : Int) = 4
  · rw [bif_t (decide_eq_true h4), bif_t (decide_eq_true h4), beOf_eq k hk l hb (by omega)]
    rfl
  · rw [bif_f (decide_eq_false h4), bif_f (decide_eq_false h4)]
    by_cases h16 : ((l.length : Nat) : Int) = 16
    · rw [bif_t (decide_eq_true h16), bif_t (decide_eq_true h16)]
      have hl : l.length = 16 := by omega
      rw [beOf_eq k hk (l.take 4) (fun b h => hb b (List.mem_of_mem_take h)) (by rw [List.length_take]; omega), beOf_eq k hk _ (sub_bytes hb 4 4) (by rw [List.length_take]; omega), beOf_eq k hk _ (sub_bytes hb 8 4) (by rw [List.length_take]; omega), beOf_eq k hk _ (sub_bytes hb 12 _) (by rw [List.length_take]; omega)]
      simp only [Option.bind_some]
      rw [hl]
      rfl
    · rw [bif_f (decide_eq_false h16), bif_f (decide_eq_false h16)]
theorem be32S (k : Nat) (hk : MM < k) (l : List Int) (hb : bytesP l) (at_ : Nat) (h : at_ + 4 ≤ l.length) (hl : l.length ≤ 100000) : spec_Be32 k l (at_ : Int) = some ((beB ((l.drop at_).take 4), true, ()), ()) := by
  have hM : MM = 1048576 := rfl
  have pw : ∀ j, j ≤ 4 → ((256 ^ j : Nat) : Int) ≤ 4294967296 := by decide
  obtain ⟨a, ha, run⟩ := inv_run (step := spec_Be32_s5) (n := 4) (st := fun j (a : Int) => ((), l, (at_ : Int), a, (j : Int), ())) (fin := fun a => ((), a, ())) (fun j a => a = beB ((l.drop at_).take j))
    (fun j a hj hI => by
      refine ⟨beB ((l.drop at_).take (j + 1)), rfl, fun rec => ?_⟩
      have hwi : IntKind.wrap .i64 ((j : Int) + 1) = ((j + 1 : Nat) : Int) := w64 (by omega)
      have hwa : IntKind.wrap .i64 ((at_ : Int) + (j : Int)) = ((at_ + j : Nat) : Int) := by rw [w64 (by omega)]; omega
      have hlt : at_ + j < l.length := by omega
      have hbj := hb _ (getD_mem l (0 : Int) (at_ + j) hlt)
      have hr := beB_rng ((l.drop at_).take j) (sub_bytes hb at_ j)
      rw [List.length_take, List.length_drop, ← hI] at hr
      have hp := pw (min j (l.length - at_)) (by omega)
      have e : (l.drop at_).take (j + 1) = (l.drop at_).take j ++ [l.getD (at_ + j) 0] := by
        rw [List.take_add_one, List.getElem?_drop, List.getElem?_eq_getElem hlt, getD_at l 0 _ hlt]; rfl
      unfold spec_Be32_s5
      refine (bif_t (decide_eq_true (show (j : Int) < 4 by omega))).trans ?_
      simp only [hwa]
      refine (bif_t (by simp; omega)).trans ?_
      refine (bif_t (by simp; omega)).trans ?_
      simp only [Int.toNat_natCast, hwi]
      rw [w64 (n := l.getD (at_ + j) 0) (by omega), w64 (n := 256 * a) (by omega), w64 (n := 256 * a + l.getD (at_ + j) 0) (by omega), e, beB_snoc, ← hI]
      rw [show 256 * a + l.getD (at_ + j) 0 = a * 256 + l.getD (at_ + j) 0 by omega])
    (fun a hI rec => by
      unfold spec_Be32_s5
      exact bif_f (decide_eq_false (show ¬ ((4 : Nat) : Int) < 4 by omega))) 4 0 k 0 (by omega) (by omega) (by simp [beB])
  unfold spec_Be32
  rw [bif_t (by simp), bif_f (by rw [w64 (by omega)]; simp; omega)]
  subst ha
  exact (congrArg (fun o => Option.bind o _) run).trans rfl
theorem addrOfS (k : Nat) (hk : MM < k) (l : List Int) (hb : bytesP l) : spec_AddrOf k l = some (((addrOf l).1, (addrOf l).2, ()), ()) := by
  unfold spec_AddrOf addrOf
  by_cases h4 : ((l.length : Nat) : Int) = 4
  · have hl : l.length = 4 := by omega
    have e := be32S k hk l hb 0 (by omega) (by omega)
    rw [bif_t (decide_eq_true h4), bif_t (decide_eq_true h4), show (0 : Int) = ((0 : Nat) : Int) from rfl, e, List.drop_zero, List.take_of_length_le (by omega)]
    rfl
  · rw [bif_f (decide_eq_false h4), bif_f (decide_eq_false h4)]
    by_cases h16 : ((l.length : Nat) : Int) = 16
    · rw [bif_t (decide_eq_true h16), bif_t (decide_eq_true h16)]
      have hl : l.length = 16 := by omega
      have e0 := be32S k hk l hb 0 (by omega) (by omega)
      have e1 := be32S k hk l hb 4 (by omega) (by omega)
      have e2 := be32S k hk l hb 8 (by omega) (by omega)
      have e3 := be32S k hk l hb 12 (by omega) (by omega)
      rw [List.drop_zero] at e0
      rw [show (0 : Int) = ((0 : Nat) : Int) from rfl, show (4 : Int) = ((4 : Nat) : Int) from rfl, show (8 : Int) = ((8 : Nat) : Int) from rfl, show (12 : Int) = ((12 : Nat) : Int) from rfl, e0, e1, e2, e3]
      rfl
    · rw [bif_f (decide_eq_false h16), bif_f (decide_eq_false h16)]
end Go.Tw
