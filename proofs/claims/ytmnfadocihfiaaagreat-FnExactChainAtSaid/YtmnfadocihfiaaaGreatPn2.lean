/- Plain facts on the mirrors of the functions are proved here. -/
import Derived.Test.YtmnfadocihfiaaaGreatPn1
set_option linter.all false
namespace Go.Tw
open Go Go.RowKit
theorem within_eq (x a b : Int) : impl_within x a b = some ((decide (a ≤ x) && decide (x ≤ b), ()), ()) := by
  unfold impl_within
  cases decide (a ≤ x) <;> rfl
def longB (n : Int) : Bool := decide (0 ≤ n) && decide (n ≤ 4294967295)
theorem longI (n : Int) : impl_isLong n = some ((longB n, ()), ()) := by
  unfold impl_isLong; rw [within_eq]; rfl
theorem longS (n : Int) : spec_l03Half n = some ((longB n, ()), ()) := by
  unfold spec_l03Half longB
  cases decide (0 ≤ n) <;> rfl
def addrB (a : D_Addr) : Bool :=
  bif decide (a.1 = 4) then decide (a.2.1 = 0) && (decide (a.2.2.1 = 0) && (decide (a.2.2.2.1 = 0) && longB a.2.2.2.2.1)) else decide (a.1 = 6) && (longB a.2.1 && (longB a.2.2.1 && (longB a.2.2.2.1 && longB a.2.2.2.2.1)))
theorem addrI (a : D_Addr) : impl_AddrOk a = some ((addrB a, ()), ()) := by
  unfold impl_AddrOk addrB
  simp only [longI, Option.bind_some]
  generalize longB a.2.1 = x1
  generalize longB a.2.2.1 = x2
  generalize longB a.2.2.2.1 = x3
  generalize longB a.2.2.2.2.1 = x4
  cases decide (a.1 = 4) <;> cases decide (a.1 = 6) <;> cases decide (a.2.1 = 0) <;> cases decide (a.2.2.1 = 0) <;> cases decide (a.2.2.2.1 = 0) <;> cases x1 <;> cases x2 <;> cases x3 <;> rfl
theorem addrS (a : D_Addr) : spec_AddrOk a = some ((addrB a, ()), ()) := by
  unfold spec_AddrOk addrB
  simp only [longS, Option.bind_some]
  generalize longB a.2.1 = x1
  generalize longB a.2.2.1 = x2
  generalize longB a.2.2.2.1 = x3
  generalize longB a.2.2.2.2.1 = x4
  cases decide (a.1 = 4) <;> cases decide (a.1 = 6) <;> cases decide (a.2.1 = 0) <;> cases decide (a.2.2.1 = 0) <;> cases decide (a.2.2.2.1 = 0) <;> cases x1 <;> cases x2 <;> cases x3 <;> rfl
theorem flat_len : ∀ (ls : List (List Int)) (j : Nat), (ls.take j).flatten.length ≤ ls.flatten.length
  | ls, j => by
    have := congrArg (fun l => (List.flatten l).length) (List.take_append_drop j ls)
    simp only [List.flatten_append, List.length_append] at this
    omega
theorem flat_take (ls : List (List Int)) (j : Nat) (h : j < ls.length) : (ls.take (j + 1)).flatten = (ls.take j).flatten ++ ls.getD j [] := by
  rw [List.take_add_one, List.getElem?_eq_getElem h, getD_at ls [] j h]
  simp only [Option.toList_some, List.flatten_append, List.flatten_cons, List.flatten_nil, List.append_nil]
theorem catB (k : Nat) (hk : MM < k) (ls : List (List Int)) (h1 : ls.length ≤ 1000) (h2 : ls.flatten.length ≤ 1000000) : slices_Concat_byte_byte k ls = some ((ls.flatten, ()), ()) := by
  have hM : MM = 1048576 := rfl
  obtain ⟨a, ha, r1⟩ := inv_run (step := slices_Concat_byte_byte_s3) (n := ls.length) (st := fun j (a : Int) => ((), ls, a, ls, ((ls.length : Nat) : Int), (j : Int), ())) (fin := fun a => ((), ls, a, ())) (fun j a => a = ((ls.take j).flatten.length : Int))
    (fun j a hj hI => by
      refine ⟨((ls.take (j + 1)).flatten.length : Int), rfl, fun rec => ?_⟩
      have hwi : IntKind.wrap .i64 ((j : Int) + 1) = ((j + 1 : Nat) : Int) := w64 (by omega)
      have e := congrArg List.length (flat_take ls j hj)
      rw [List.length_append] at e
      have hb := flat_len ls (j + 1)
      have hw : IntKind.wrap .i64 (a + ((List.length (ls.getD j []) : Nat) : Int)) = ((ls.take (j + 1)).flatten.length : Int) := by rw [w64 (by omega)]; omega
      unfold slices_Concat_byte_byte_s3
      refine (bif_t (by simp; omega)).trans ?_
      refine (bif_t (by simp; omega)).trans ?_
      refine (bif_t (by simp; omega)).trans ?_
      simp only [Int.toNat_natCast, hw, hwi]
      exact bif_f (decide_eq_false (by omega)))
    (fun a hI rec => by
      unfold slices_Concat_byte_byte_s3
      exact bif_f (by simp)) ls.length 0 k 0 (by omega) (by omega) (by simp)
  rw [List.take_length] at ha
  obtain ⟨b, hb, r2⟩ := inv_run (step := slices_Concat_byte_byte_s11) (n := ls.length) (st := fun j (a : List Int) => ((), a, ls, ((ls.length : Nat) : Int), (j : Int), ())) (fin := fun a => ((), a, ())) (fun j a => a = (ls.take j).flatten)
    (fun j a hj hI => by
      refine ⟨(ls.take (j + 1)).flatten, rfl, fun rec => ?_⟩
      have hwi : IntKind.wrap .i64 ((j : Int) + 1) = ((j + 1 : Nat) : Int) := w64 (by omega)
      have e := flat_take ls j hj
      have el := congrArg List.length e
      rw [List.length_append] at el
      have hb := flat_len ls (j + 1)
      unfold slices_Concat_byte_byte_s11
      refine (bif_t (by simp; omega)).trans ?_
      refine (bif_t (by simp; omega)).trans ?_
      refine (bif_t (by simp; omega)).trans ?_
      simp only [Int.toNat_natCast, hwi]
      refine (bif_t (decide_eq_true (by rw [hI]; omega))).trans ?_
      rw [e, hI])
    (fun a hI rec => by
      unfold slices_Concat_byte_byte_s11
      exact bif_f (by simp)) ls.length 0 k [] (by omega) (by omega) (by simp)
  rw [List.take_length] at hb
  subst ha hb
  have hw : IntKind.wrap .i64 ((ls.flatten.length : Int) - 0) = (ls.flatten.length : Int) := by rw [w64 (by omega)]; omega
  obtain ⟨F, hF⟩ : ∃ F, F = ls.flatten := ⟨_, rfl⟩
  rw [← hF] at hw h2 r1 r2 ⊢
  unfold slices_Concat_byte_byte
  refine (congrArg (fun o => Option.bind o _) r1).trans ?_
  simp only [Option.bind_some, hw]
  refine (bif_f (decide_eq_false (by omega))).trans ?_
  by_cases h0 : 0 < F.length
  · refine (bif_t (decide_eq_true (by omega))).trans ((bif_t (Bool.and_eq_true_iff.2 ⟨decide_eq_true (by omega), decide_eq_true (by omega)⟩)).trans ((bif_t (decide_eq_true (by omega))).trans ?_))
    exact (congrArg (fun o => Option.bind o _) r2).trans rfl
  · refine (bif_f (decide_eq_false (by omega))).trans ?_
    exact (congrArg (fun o => Option.bind o _) r2).trans rfl
def addrBy (a : D_Addr) : List Int :=
  bif addrB a then (bif decide (a.1 = 4) then putB a.2.2.2.2.1 4 else ((putB a.2.1 4 ++ putB a.2.2.1 4) ++ putB a.2.2.2.1 4) ++ putB a.2.2.2.2.1 4) else []
theorem addrByI (k : Nat) (hk : MM < k) (a : D_Addr) : impl_AddrBytes k a = some ((addrBy a, ()), ()) := by
  unfold impl_AddrBytes addrBy
  simp only [addrI, Option.bind_some, put32I k hk]
  cases addrB a with
  | false => rfl
  | true =>
    simp only [Bool.not_true, cond_true, cond_false]
    cases decide (a.1 = 4) with
    | true => rfl
    | false =>
      simp only [cond_false]
      rw [catB k hk _ (by simp) (by simp [putB_len])]
      simp
theorem addrByS (a : D_Addr) : spec_AddrBytes a = some ((addrBy a, ()), ()) := by
  unfold spec_AddrBytes addrBy
  simp only [addrS, Option.bind_some, put32S, putB_len, List.length_append]
  cases addrB a with
  | false => rfl
  | true =>
    simp only [Bool.not_true, cond_true, cond_false]
    cases decide (a.1 = 4) <;> rfl
theorem addrBy_bytes (a : D_Addr) : bytesP (addrBy a) := by
  intro b hb
  unfold addrBy at hb
  cases h1 : addrB a with
  | false => rw [h1] at hb; simp at hb
  | true =>
    rw [h1] at hb
    cases h2 : decide (a.1 = 4) with
    | true => rw [h2] at hb; exact putB_bytes _ _ b hb
    | false =>
      rw [h2] at hb
      simp only [cond_true, cond_false, List.mem_append] at hb
      rcases hb with ((hb | hb) | hb) | hb <;> exact putB_bytes _ _ b hb
def bitsA (a : D_Addr) : Int := bif decide (a.1 = 4) then 32 else 128
theorem bitsI (a : D_Addr) : impl_bitsOf a = some ((bitsA a, ()), ()) := by unfold impl_bitsOf bitsA; cases decide (a.1 = 4) <;> rfl
theorem bitsS (a : D_Addr) : spec_l03Bits a = some ((bitsA a, ()), ()) := by unfold spec_l03Bits bitsA; cases decide (a.1 = 4) <;> rfl
theorem addrBy_len {a : D_Addr} (h : addrB a = true) : (((addrBy a).length * 8 : Nat) : Int) = bitsA a := by
  unfold addrBy bitsA
  rw [h]
  cases decide (a.1 = 4) <;> simp [putB_len]
def addrOf (l : List Int) : D_Addr × Bool :=
  bif decide (((l.length : Nat) : Int) = 4) then ((4, 0, 0, 0, beB l, ()), true)
  else bif decide (((l.length : Nat) : Int) = 16) then ((6, beB (l.take 4), beB ((l.drop 4).take 4), beB ((l.drop 8).take 4), beB ((l.drop 12).take 4), ()), true)
  else ((0, 0, 0, 0, 0, ()), false)
theorem sub_bytes {l : List Int} (h : bytesP l) (i m : Nat) : bytesP ((l.drop i).take m) := fun b hb => h b (List.mem_of_mem_drop (List.mem_of_mem_take hb))
theorem addrOfI (k : Nat) (hk : MM < k) (l : List Int) (hb : bytesP l) : impl_AddrOf k l = some (((addrOf l).1, (addrOf l).2, ()), ()) := by
  unfold impl_AddrOf addrOf
  by_cases h4 : ((l.length : Nat) : Int) = 4
  · rw [bif_t (decide_eq_true h4), bif_t (decide_eq_true h4), beOf_eq k hk l hb (by omega)]
    rfl
  · rw [bif_f (decide_eq_false h4), bif_f (decide_eq_false h4)]
    by_cases h16 : ((l.length : Nat) : Int) = 16
    · rw [bif_t (decide_eq_true h16), bif_t (decide_eq_true h16)]
      have hl : l.length = 16 := by omega
      rw [beOf_eq k hk (l.take 4) (fun b h => hb b (List.mem_of_mem_take h)) (by rw [List.length_take]; omega), beOf_eq k hk _ (sub_bytes hb 4 4) (by rw [List.length_take]; omega), beOf_eq k hk _ (sub_bytes hb 8 4) (by rw [List.length_take]; omega), beOf_eq k hk _ (sub_bytes hb 12 _) (by rw [List.length_take]; omega)]
      simp only [Option.bind_some]
      rw [hl]
      rfl
    · rw [bif_f (decide_eq_false h16), bif_f (decide_eq_false h16)]
theorem be32S (k : Nat) (hk : MM < k) (l : List Int) (hb : bytesP l) (at_ : Nat) (h : at_ + 4 ≤ l.length) (hl : l.length ≤ 100000) : spec_Be32 k l (at_ : Int) = some ((beB ((l.drop at_).take 4), true, ()), ()) := by
  have hM : MM = 1048576 := rfl
  have pw : ∀ j, j ≤ 4 → ((256 ^ j : Nat) : Int) ≤ 4294967296 := by decide
  obtain ⟨a, ha, run⟩ := inv_run (step := spec_Be32_s5) (n := 4) (st := fun j (a : Int) => ((), l, (at_ : Int), a, (j : Int), ())) (fin := fun a => ((), a, ())) (fun j a => a = beB ((l.drop at_).take j))
    (fun j a hj hI => by
      refine ⟨beB ((l.drop at_).take (j + 1)), rfl, fun rec => ?_⟩
      have hwi : IntKind.wrap .i64 ((j : Int) + 1) = ((j + 1 : Nat) : Int) := w64 (by omega)
      have hwa : IntKind.wrap .i64 ((at_ : Int) + (j : Int)) = ((at_ + j : Nat) : Int) := by rw [w64 (by omega)]; omega
      have hlt : at_ + j < l.length := by omega
      have hbj := hb _ (getD_mem l (0 : Int) (at_ + j) hlt)
      have hr := beB_rng ((l.drop at_).take j) (sub_bytes hb at_ j)
      rw [List.length_take, List.length_drop, ← hI] at hr
      have hp := pw (min j (l.length - at_)) (by omega)
      have e : (l.drop at_).take (j + 1) = (l.drop at_).take j ++ [l.getD (at_ + j) 0] := by
        rw [List.take_add_one, List.getElem?_drop, List.getElem?_eq_getElem hlt, getD_at l 0 _ hlt]; rfl
      unfold spec_Be32_s5
      refine (bif_t (decide_eq_true (show (j : Int) < 4 by omega))).trans ?_
      simp only [hwa]
      refine (bif_t (by simp; omega)).trans ?_
      refine (bif_t (by simp; omega)).trans ?_
      simp only [Int.toNat_natCast, hwi]
      rw [w64 (n := l.getD (at_ + j) 0) (by omega), w64 (n := 256 * a) (by omega), w64 (n := 256 * a + l.getD (at_ + j) 0) (by omega), e, beB_snoc, ← hI]
      rw [show 256 * a + l.getD (at_ + j) 0 = a * 256 + l.getD (at_ + j) 0 by omega])
    (fun a hI rec => by
      unfold spec_Be32_s5
      exact bif_f (decide_eq_false (show ¬ ((4 : Nat) : Int) < 4 by omega))) 4 0 k 0 (by omega) (by omega) (by simp [beB])
  unfold spec_Be32
  rw [bif_t (by simp), bif_f (by rw [w64 (by omega)]; simp; omega)]
  subst ha
  exact (congrArg (fun o => Option.bind o _) run).trans rfl
theorem addrOfS (k : Nat) (hk : MM < k) (l : List Int) (hb : bytesP l) : spec_AddrOf k l = some (((addrOf l).1, (addrOf l).2, ()), ()) := by
  unfold spec_AddrOf addrOf
  by_cases h4 : ((l.length : Nat) : Int) = 4
  · have hl : l.length = 4 := by omega
    have e := be32S k hk l hb 0 (by omega) (by omega)
    rw [bif_t (decide_eq_true h4), bif_t (decide_eq_true h4), show (0 : Int) = ((0 : Nat) : Int) from rfl, e, List.drop_zero, List.take_of_length_le (by omega)]
    rfl
  · rw [bif_f (decide_eq_false h4), bif_f (decide_eq_false h4)]
    by_cases h16 : ((l.length : Nat) : Int) = 16
    · rw [bif_t (decide_eq_true h16), bif_t (decide_eq_true h16)]
      have hl : l.length = 16 := by omega
      have e0 := be32S k hk l hb 0 (by omega) (by omega)
      have e1 := be32S k hk l hb 4 (by omega) (by omega)
      have e2 := be32S k hk l hb 8 (by omega) (by omega)
      have e3 := be32S k hk l hb 12 (by omega) (by omega)
      rw [List.drop_zero] at e0
      rw [show (0 : Int) = ((0 : Nat) : Int) from rfl, show (4 : Int) = ((4 : Nat) : Int) from rfl, show (8 : Int) = ((8 : Nat) : Int) from rfl, show (12 : Int) = ((12 : Nat) : Int) from rfl, e0, e1, e2, e3]
      rfl
    · rw [bif_f (decide_eq_false h16), bif_f (decide_eq_false h16)]
def clipN (x : Int) : Nat := if x < 0 then 0 else if 8 < x then 8 else x.toNat
def maskB (b : Int) (t : Nat) : Int := IntKind.wrap .u8 (BitVec.ofInt (IntKind.bits .u8) b &&& BitVec.ofInt (IntKind.bits .u8) (IntKind.wrap .u8 (Int.fdiv 65280 (2 ^ min t (IntKind.bits .u16))))).toNat
def bitP (p : Nat) : Int := ((128 / 2 ^ p : Nat) : Int)
def c1 (b : Int) (p : Nat) : Int := if b / bitP p % 2 = 1 then b - bitP p else b
def clr8 (b : Int) (lo : Nat) : Nat → Int
  | 0 => b
  | h + 1 => if lo ≤ h then c1 (clr8 b lo h) h else clr8 b lo h
theorem mask_all : ∀ (n : Fin 256) (t : Fin 9), clr8 (n.val : Int) t.val 8 = maskB (n.val : Int) t.val := by decide +kernel
theorem mask_eq {b : Int} (hb : 0 ≤ b ∧ b ≤ 255) {t : Nat} (ht : t ≤ 8) : clr8 b t 8 = maskB b t := by
  have := mask_all ⟨b.toNat, by omega⟩ ⟨t, by omega⟩
  simpa [Int.toNat_of_nonneg hb.1] using this
theorem c1_all : ∀ (n : Fin 256) (p : Fin 8), 0 ≤ c1 (n.val : Int) p.val ∧ c1 (n.val : Int) p.val ≤ 255 := by decide +kernel
theorem c1_rng {b : Int} (hb : 0 ≤ b ∧ b ≤ 255) {p : Nat} (hp : p < 8) : 0 ≤ c1 b p ∧ c1 b p ≤ 255 := by
  have := c1_all ⟨b.toNat, by omega⟩ ⟨p, hp⟩
  simpa [Int.toNat_of_nonneg hb.1] using this
theorem clr8_rng {b : Int} (hb : 0 ≤ b ∧ b ≤ 255) (lo : Nat) : ∀ h, h ≤ 8 → 0 ≤ clr8 b lo h ∧ clr8 b lo h ≤ 255
  | 0, _ => hb
  | h + 1, hh => by
    simp only [clr8]
    split
    · exact c1_rng (clr8_rng hb lo h (by omega)) (by omega)
    · exact clr8_rng hb lo h (by omega)
theorem clr8_lo (b : Int) (lo : Nat) : ∀ h, h ≤ lo → clr8 b lo h = b
  | 0, _ => rfl
  | h + 1, hh => by
    simp only [clr8]
    rw [if_neg (by omega), clr8_lo b lo h (by omega)]
theorem clipN_le (x : Int) : clipN x ≤ 8 := by
  unfold clipN
  split
  · omega
  · split <;> omega
theorem clip_same {x y : Int} (h : (8 ≤ x ∧ 8 ≤ y) ∨ (x ≤ 0 ∧ y ≤ 0)) : clipN x = clipN y := by
  unfold clipN
  repeat' split
  all_goals omega
def cutB (n : Int) (l : List Int) : List Int := (List.range l.length).map fun j => maskB (l.getD j 0) (clipN (n - 8 * (j : Int)))
theorem mask_bytes (b : Int) (t : Nat) : 0 ≤ maskB b t ∧ maskB b t ≤ 255 := by unfold maskB; rw [wu8]; omega
theorem cutB_bytes (n : Int) (l : List Int) : bytesP (cutB n l) := by
  intro b hb
  obtain ⟨j, _, rfl⟩ := List.mem_map.1 hb
  exact mask_bytes _ _
theorem clipI (n : Int) : impl_Clip n 0 8 = some ((((clipN n : Nat) : Int), ()), ()) := by
  unfold impl_Clip clipN
  by_cases h1 : n < 0
  · rw [bif_t (by simpa using h1), if_pos h1]; rfl
  · rw [bif_f (by simpa using h1), if_neg h1]
    by_cases h2 : 8 < n
    · rw [bif_t (by simpa using h2), if_pos h2]; rfl
    · rw [bif_f (by simpa using h2), if_neg h2, Int.toNat_of_nonneg (by omega)]
theorem cutI_run (k : Nat) (hk : MM < k) (n : Int) (hn : 0 ≤ n ∧ n ≤ 128) (z : D_Addr) (l : List Int) (hl : l.length ≤ 100) :
    iter impl_Cut_s5 k ((), n, z, l, ((l.length : Nat) : Int), (0 : Int), ()) = some ((), z, cutB n l, ()) := by
  have hM : MM = 1048576 := rfl
  obtain ⟨T, hT, run⟩ := inv_run (step := impl_Cut_s5) (n := l.length) (st := fun j (T : List Int) => ((), n, z, T, ((l.length : Nat) : Int), (j : Int), ())) (fin := fun T => ((), z, T, ())) (fun j T => T.length = l.length ∧ ∀ i, i < l.length → T[i]? = some (if i < j then maskB (l.getD i 0) (clipN (n - 8 * (i : Int))) else l.getD i 0))
    (fun j T hj hI => by
      obtain ⟨hlen, hI⟩ := hI
      refine ⟨T.set j (maskB (l.getD j 0) (clipN (n - 8 * (j : Int)))), ⟨by simpa using hlen, fun i hi => ?_⟩, fun rec => ?_⟩
      · rw [List.getElem?_set]
        by_cases e : j = i
        · subst e; simp [hlen, hj]
        · rw [if_neg e, hI i hi]
          congr 1
          by_cases h1 : i < j
          · rw [if_pos h1, if_pos (by omega)]
          · rw [if_neg h1, if_neg (by omega)]
      · have hwi : IntKind.wrap .i64 ((j : Int) + 1) = ((j + 1 : Nat) : Int) := w64 (by omega)
        have w1 : IntKind.wrap .i64 (8 * (j : Int)) = 8 * (j : Int) := w64 (by omega)
        have w2 : IntKind.wrap .i64 (n - 8 * (j : Int)) = n - 8 * (j : Int) := w64 (by omega)
        have hTj : T.getD j 0 = l.getD j 0 := by
          have := hI j hj
          rw [if_neg (by omega)] at this
          simp only [List.getD, this, Option.getD_some]
        unfold impl_Cut_s5
        refine (bif_t (by simp; omega)).trans ?_
        simp only [w1, w2, clipI, Option.bind_some]
        refine (bif_t (by simp; omega)).trans ?_
        refine (bif_t (by simp; omega)).trans ?_
        refine (bif_t (by simp)).trans ?_
        refine (bif_t (by simp; omega)).trans ?_
        refine (bif_t (by simp; omega)).trans ?_
        simp only [Int.toNat_natCast, hwi, hTj]
        rfl)
    (fun T hI rec => by
      unfold impl_Cut_s5
      exact bif_f (by simp)) l.length 0 k l (by omega) (by omega) ⟨rfl, fun i hi => by rw [if_neg (by omega), List.getElem?_eq_getElem hi, getD_at l 0 i hi]⟩
  have hT' : T = cutB n l := by
    apply List.ext_getElem?
    intro i
    by_cases hi : i < l.length
    · rw [hT.2 i hi, if_pos hi]; simp [cutB, hi]
    · rw [List.getElem?_eq_none (by omega), List.getElem?_eq_none (by simp [cutB]; omega)]
  subst hT'
  exact run
def halfN : Int → Nat → Int
  | b, 0 => b
  | b, p + 1 => halfN (b / 2) p
theorem half_all : ∀ p : Fin 8, halfN 128 p.val = bitP p.val := by decide
theorem s9_run (A Z : D_Addr) (T : List Int) (i : Int) : ∀ (p k : Nat) (b : Int), p < k → p ≤ 8 → 0 ≤ b ∧ b ≤ 128 → iter spec_Cut_s9 k ((), A, Z, T, i, b, (p : Int), ()) = some ((), A, Z, T, i, halfN b p, ())
  | 0, k + 1, b, _, _, hb => by
    rw [iter_succ]; unfold spec_Cut_s9
    exact bif_f (by simp)
  | p + 1, k + 1, b, hk, hp, hb => by
    rw [iter_succ]
    obtain ⟨rec, hrec⟩ : ∃ rec, rec = iter spec_Cut_s9 k := ⟨_, rfl⟩
    rw [← hrec]
    have w1 : IntKind.wrap .i64 (((p + 1 : Nat) : Int) - 1) = (p : Int) := by rw [w64 (by omega)]; omega
    have w2 : IntKind.wrap .i64 (Int.tdiv b 2) = b / 2 := by rw [Int.tdiv_eq_ediv_of_nonneg hb.1, w64 (by omega)]
    unfold spec_Cut_s9
    refine (bif_t (decide_eq_true (show (0 : Int) < ((p + 1 : Nat) : Int) by omega))).trans ?_
    simp only [w1, w2]
    rw [hrec]
    exact s9_run A Z T i p k (b / 2) (by omega) (by omega) (by omega)
theorem bit_pos : ∀ p : Fin 8, 0 < bitP p.val ∧ bitP p.val ≤ 128 := by decide
theorem cutS_run (k : Nat) (hk : MM < k) (A Z : D_Addr) (n : Nat) (l : List Int) (hb : bytesP l) (hl : ((l.length * 8 : Nat) : Int) = bitsA A) (hn : n ≤ l.length * 8) (hl2 : l.length ≤ 100) :
    iter (spec_Cut_s5 k) k ((), A, Z, l, (n : Int), ()) = some ((), Z, cutB (n : Int) l, ()) := by
  have hM : MM = 1048576 := rfl
  have ck : ∀ x : Nat, clipN (((n + x : Nat) : Int)) = clipN (((n + x : Nat) : Int)) := fun _ => rfl
  obtain ⟨T, hT, run⟩ := inv_run (step := spec_Cut_s5 k) (n := l.length * 8 - n) (st := fun j (T : List Int) => ((), A, Z, T, ((n + j : Nat) : Int), ())) (fin := fun T => ((), Z, T, ())) (fun j T => T.length = l.length ∧ ∀ i, i < l.length → T[i]? = some (clr8 (l.getD i 0) (clipN ((n : Int) - 8 * (i : Int))) (clipN (((n + j : Nat) : Int) - 8 * (i : Int)))))
    (fun j T hj hI => by
      obtain ⟨hlen, hI⟩ := hI
      obtain ⟨q, hq⟩ : ∃ q, q = (n + j) / 8 := ⟨_, rfl⟩
      obtain ⟨p, hp⟩ : ∃ p, p = (n + j) % 8 := ⟨_, rfl⟩
      have hqp : n + j = 8 * q + p := by omega
      have hp8 : p < 8 := by omega
      have hql : q < l.length := by omega
      have hbq := hb _ (getD_mem l (0 : Int) q hql)
      have ep : clipN (((n + j : Nat) : Int) - 8 * (q : Int)) = p := by unfold clipN; rw [if_neg (by omega), if_neg (by omega)]; omega
      have ep1 : clipN (((n + (j + 1) : Nat) : Int) - 8 * (q : Int)) = p + 1 := by
        unfold clipN; rw [if_neg (by omega)]
        split <;> omega
      have elo : clipN ((n : Int) - 8 * (q : Int)) ≤ p := by
        unfold clipN
        split
        · omega
        · split <;> omega
      have hTq : T.getD q 0 = clr8 (l.getD q 0) (clipN ((n : Int) - 8 * (q : Int))) p := by
        have := hI q hql
        rw [ep] at this
        simp only [List.getD, this, Option.getD_some]
      obtain ⟨b, hbd⟩ : ∃ b, b = clr8 (l.getD q 0) (clipN ((n : Int) - 8 * (q : Int))) p := ⟨_, rfl⟩
      have hbr : 0 ≤ b ∧ b ≤ 255 := by rw [hbd]; exact clr8_rng hbq _ p (by omega)
      rw [← hbd] at hTq
      have hnew : clr8 (l.getD q 0) (clipN ((n : Int) - 8 * (q : Int))) (p + 1) = c1 b p := by
        simp only [clr8]; rw [if_pos elo, ← hbd]
      refine ⟨T.set q (c1 b p), ⟨by simpa using hlen, fun i hi => ?_⟩, fun rec => ?_⟩
      · rw [List.getElem?_set]
        by_cases e : q = i
        · subst e
          simp only [hlen, hql, if_true]
          rw [ep1, hnew]
        · rw [if_neg e, hI i hi]
          congr 2
          refine clip_same ?_
          by_cases h1 : i < q
          · left; omega
          · right; omega
      · have hwi : IntKind.wrap .i64 (((n + j : Nat) : Int) + 1) = ((n + (j + 1) : Nat) : Int) := by rw [w64 (by omega)]; omega
        have wd : IntKind.wrap .i64 (Int.tdiv ((n + j : Nat) : Int) 8) = (q : Int) := by rw [Int.tdiv_eq_ediv_of_nonneg (by omega), w64 (by omega)]; omega
        have wm : Int.tmod ((n + j : Nat) : Int) 8 = (p : Int) := by rw [Int.tmod_eq_emod_of_nonneg (by omega)]; omega
        have hs9 := s9_run A Z T ((n + j : Nat) : Int) p k 128 (by omega) (by omega) (by omega)
        have hbp := bit_pos ⟨p, hp8⟩
        simp only at hbp
        rw [show halfN 128 p = bitP p from half_all ⟨p, hp8⟩] at hs9
        unfold spec_Cut_s5
        simp only [bitsS, Option.bind_some, wm, hs9]
        refine (bif_t (decide_eq_true (by omega))).trans ?_
        simp only [wd]
        have g1 : (decide ((0 : Int) ≤ (q : Int)) && decide ((q : Int) < ((T.length : Nat) : Int))) = true := by simp; omega
        have g2 : decide ((q : Int).toNat < T.length) = true := decide_eq_true (by omega)
        refine (bif_t g1).trans ?_
        refine (bif_t g2).trans ?_
        refine (bif_t (by simp; omega)).trans ?_
        simp only [Int.toNat_natCast] at g2
        simp only [Int.toNat_natCast, hTq, g1, g2, cond_true, hwi]
        rw [w64 (n := b) (by omega), Int.tdiv_eq_ediv_of_nonneg hbr.1]
        have hdiv : 0 ≤ b / bitP p ∧ b / bitP p ≤ 255 := ⟨Int.ediv_nonneg hbr.1 (by omega), Int.le_trans (Int.ediv_le_self _ hbr.1) hbr.2⟩
        rw [w64 (n := b / bitP p) (by omega), Int.tmod_eq_emod_of_nonneg hdiv.1]
        have hc := c1_rng hbr hp8
        unfold c1 at hc ⊢
        by_cases h1 : b / bitP p % 2 = 1
        · rw [bif_t (decide_eq_true h1), if_pos h1]
          rw [if_pos h1] at hc
          rw [wu8 (bitP p), wu8, Int.emod_eq_of_lt (a := bitP p) (by omega) (by omega), Int.emod_eq_of_lt hc.1 (by omega)]
        · rw [bif_f (decide_eq_false h1), if_neg h1]
          have : T.set q b = T := by
            apply List.ext_getElem?
            intro i
            rw [List.getElem?_set]
            by_cases e : q = i
            · subst e
              rw [if_pos rfl, if_pos (by omega), hI q hql, ep, hbd]
            · rw [if_neg e]
          rw [this])
    (fun T hI rec => by
      unfold spec_Cut_s5
      simp only [bitsS, Option.bind_some]
      exact bif_f (decide_eq_false (by omega))) (l.length * 8 - n) 0 k l (by omega) (by omega) ⟨rfl, fun i hi => by
        rw [Nat.add_zero, clr8_lo _ _ _ (Nat.le_refl _), List.getElem?_eq_getElem hi, getD_at l 0 i hi]⟩
  have hT' : T = cutB (n : Int) l := by
    apply List.ext_getElem?
    intro i
    by_cases hi : i < l.length
    · have e8 : clipN (((n + (l.length * 8 - n) : Nat) : Int) - 8 * (i : Int)) = 8 := by
        unfold clipN; rw [if_neg (by omega)]
        split <;> omega
      rw [hT.2 i hi, e8, mask_eq (hb _ (getD_mem l (0 : Int) i hi)) (clipN_le _)]; simp [cutB, hi]
    · rw [List.getElem?_eq_none (by omega), List.getElem?_eq_none (by simp [cutB]; omega)]
  subst hT'
  exact run
def zA : D_Addr := (0, 0, 0, 0, 0, ())
def cutA (a : D_Addr) (n : Int) : D_Addr := bif addrB a && (decide (0 ≤ n) && decide (n ≤ bitsA a)) then (addrOf (cutB n (addrBy a))).1 else zA
theorem bits_le (a : D_Addr) : 0 ≤ bitsA a ∧ bitsA a ≤ 128 := by unfold bitsA; cases decide (a.1 = 4) <;> decide
theorem cutI (k : Nat) (hk : MM < k) (a : D_Addr) (n : Int) : impl_Cut k a n = some ((cutA a n, ()), ()) := by
  have hM : MM = 1048576 := rfl
  unfold impl_Cut cutA
  simp only [addrI, bitsI, within_eq, Option.bind_some]
  cases ha : addrB a with
  | false => rfl
  | true =>
    have hlen := addrBy_len ha
    have hbl := bits_le a
    simp only [Bool.not_true, Bool.not_false, cond_true, Bool.true_and]
    cases hn : (decide (0 ≤ n) && decide (n ≤ bitsA a)) with
    | false => rfl
    | true =>
      simp only [Bool.and_eq_true, decide_eq_true_eq] at hn
      simp only [Bool.not_true, cond_true, cond_false, addrByI k hk, Option.bind_some]
      refine (congrArg (fun o => Option.bind o _) (cutI_run k hk n (by omega) _ (addrBy a) (by omega))).trans ?_
      simp only [Option.bind_some, addrOfI k hk _ (cutB_bytes n (addrBy a))]
theorem leN2 (a b : Int) : decide (a < b) = !decide (b ≤ a) := by
  by_cases h : a < b <;> by_cases h2 : b ≤ a <;> simp [h, h2] <;> omega
theorem cutS (k : Nat) (hk : MM < k) (a : D_Addr) (n : Int) : spec_Cut k a n = some ((cutA a n, ()), ()) := by
  have hM : MM = 1048576 := rfl
  unfold spec_Cut cutA
  simp only [addrS, bitsS, Option.bind_some, leN2 n 0, leN2 (bitsA a) n]
  cases ha : addrB a with
  | false => rfl
  | true =>
    have hlen := addrBy_len ha
    have hbl := bits_le a
    simp only [Bool.not_true, Bool.not_false, cond_true, Bool.true_and, Bool.not_not]
    cases hn0 : decide (0 ≤ n) with
    | false => rfl
    | true =>
    cases hn1 : decide (n ≤ bitsA a) with
    | false => rfl
    | true =>
      simp only [decide_eq_true_eq] at hn0 hn1
      obtain ⟨m, rfl⟩ := Int.eq_ofNat_of_zero_le hn0
      simp only [Bool.not_true, cond_true, cond_false, addrByS, Option.bind_some, Bool.and_true]
      refine (congrArg (fun o => Option.bind o _) (cutS_run k hk a _ m (addrBy a) (addrBy_bytes a) hlen (by omega) (by omega))).trans ?_
      simp only [Option.bind_some, addrOfS k hk _ (cutB_bytes _ (addrBy a))]
def eqA (a b : D_Addr) : Bool := decide (a.1 = b.1) && (decide (a.2.1 = b.2.1) && (decide (a.2.2.1 = b.2.2.1) && (decide (a.2.2.2.1 = b.2.2.2.1) && (decide (a.2.2.2.2.1 = b.2.2.2.2.1) && true))))
def anyP (p : D_Prefix) : Bool := eqA p.1 zA && (decide (p.2.1 = 0) && true)
theorem anyI (p : D_Prefix) : impl_isAny p = some ((anyP p, ()), ()) := rfl
theorem anyS (p : D_Prefix) : spec_l03Any p = some ((anyP p, ()), ()) := rfl
def prefB (p : D_Prefix) : Bool := anyP p || (addrB p.1 && ((decide (0 ≤ p.2.1) && decide (p.2.1 ≤ bitsA p.1)) && eqA (cutA p.1 p.2.1) p.1))
theorem prefI (k : Nat) (hk : MM < k) (p : D_Prefix) : impl_PrefixOk k p = some ((prefB p, ()), ()) := by
  unfold impl_PrefixOk prefB
  simp only [anyI, addrI, bitsI, within_eq, cutI k hk, Option.bind_some]
  cases anyP p with
  | true => rfl
  | false =>
    cases addrB p.1 with
    | false => rfl
    | true =>
      cases (decide (0 ≤ p.2.1) && decide (p.2.1 ≤ bitsA p.1)) <;> rfl
theorem prefS (k : Nat) (hk : MM < k) (p : D_Prefix) : spec_PrefixOk k p = some ((prefB p, ()), ()) := by
  unfold spec_PrefixOk prefB
  simp only [anyS, addrS, bitsS, cutS k hk, Option.bind_some]
  cases anyP p with
  | true => rfl
  | false =>
    cases addrB p.1 with
    | false => rfl
    | true =>
      cases decide (0 ≤ p.2.1) <;> cases decide (p.2.1 ≤ bitsA p.1) <;> rfl
end Go.Tw
