/- Plain facts on the mirrors of the functions are proved here. -/
import Derived.Test.YtaigepmndpefgaaDoorM
import Derived.Test.YtaigepmndpefgaaDoorPf0
set_option linter.all false
namespace Go.Tw
open Go Go.RowKit

theorem strOf_go : ∀ (l : List Int) (r : ByteArray), (l.foldl (fun r n => r.push (UInt8.ofNat n.toNat)) r) = ⟨r.data ++ (l.map fun n => UInt8.ofNat n.toNat).toArray⟩
  | [], r => by cases r; simp
  | n :: l, r => by
    rw [List.foldl_cons, strOf_go l]
    cases r
    simp [ByteArray.push]
theorem strOf_eq (l : List Int) : strOf l = ⟨(l.map fun n => UInt8.ofNat n.toNat).toArray⟩ := by
  unfold strOf
  rw [strOf_go]
  simp [ByteArray.empty, ByteArray.emptyWithCapacity]
  rfl

/-- the digits as numbers -/
def digI (u : Nat) : List Int := (Lib.decDigits u).map fun b => (b.toNat : Int)
theorem dig_byte {d : Nat} (h : d < 10) : ((UInt8.ofNat (48 + d)).toNat : Int) = 48 + (d : Int) := by
  have : (UInt8.ofNat (48 + d)).toNat = 48 + d := by
    rw [UInt8.toNat_ofNat']
    exact Nat.mod_eq_of_lt (by omega)
  rw [this]; omega
theorem digI_small {u : Nat} (h : u < 10) : digI u = [48 + (u : Int)] := by
  unfold digI
  rw [Lib.decDigits, dif_pos h]
  simp only [List.map_cons, List.map_nil, dig_byte h]
theorem digI_big {u : Nat} (h : ¬ u < 10) : digI u = digI (u / 10) ++ [48 + ((u % 10 : Nat) : Int)] := by
  unfold digI
  rw [Lib.decDigits, dif_neg h]
  simp only [List.map_append, List.map_cons, List.map_nil, dig_byte (Nat.mod_lt u (by omega))]
theorem w8 {n : Int} (h : 0 ≤ n ∧ n ≤ 255) : IntKind.wrap .u8 n = n := by
  simp [IntKind.wrap, IntKind.signed, IntKind.bits]
  omega
theorem tm10 (m : Int) : (0 ≤ m → Int.tmod m 10 = ((m.natAbs % 10 : Nat) : Int)) ∧ (m < 0 → Int.tmod m 10 = -((m.natAbs % 10 : Nat) : Int)) := by
  constructor
  · intro h
    obtain ⟨u, rfl⟩ := Int.eq_ofNat_of_zero_le h
    rfl
  · intro h
    obtain ⟨u, rfl⟩ : ∃ u : Nat, m = -(u : Int) := ⟨m.natAbs, by omega⟩
    rw [Int.neg_tmod]
    simp
    rfl
theorem td10 (m : Int) : (Int.tdiv m 10).natAbs = m.natAbs / 10 := by
  rw [Int.natAbs_tdiv]; rfl
theorem td10_rng {m : Int} (h : -9223372036854775808 ≤ m ∧ m ≤ 9223372036854775807) : -9223372036854775808 ≤ Int.tdiv m 10 ∧ Int.tdiv m 10 ≤ 9223372036854775807 := by
  have := td10 m
  omega
theorem num_step (n : Int) (rec : _ → Option (Unit × (Int × (List Int × Unit)))) (m : Int) (out : List Int) (hm : m ≠ 0) (hr : -9223372036854775808 ≤ m ∧ m ≤ 9223372036854775807) (ho : out.length ≤ 1099511627775) :
    spec_NumText_s5 rec ((), n, out, m, ()) = rec ((), n, (48 + ((m.natAbs % 10 : Nat) : Int)) :: out, Int.tdiv m 10, ()) := by
  have hd : m.natAbs % 10 < 10 := Nat.mod_lt _ (by omega)
  obtain ⟨t1, t2⟩ := tm10 m
  have w1 : IntKind.wrap .i64 (Int.tdiv m 10) = Int.tdiv m 10 := w64 (td10_rng hr)
  have c1 : decide ((1 + out.length) * 1 ≤ 1099511627776) = true := decide_eq_true (by omega)
  have c0 : (!decide (m = 0)) = true := by simpa using hm
  generalize hq : m.natAbs % 10 = q at t1 t2 hd
  unfold spec_NumText_s5
  simp only [w1, c0, c1, cond_true]
  by_cases hneg : Int.tmod m 10 < 0
  · have e : Int.tmod m 10 = -(q : Int) := t2 (by
      rcases Int.lt_or_le m 0 with h | h
      · exact h
      · have := t1 h; omega)
    rw [bif_t (decide_eq_true hneg), e]
    have e1 : IntKind.wrap .i64 (0 - -(q : Int)) = (q : Int) := by rw [w64 (by omega)]; omega
    rw [e1, w64 (n := 48 + (q : Int)) (by omega), w8 (by omega)]
    rfl
  · have e : Int.tmod m 10 = (q : Int) := by
      rcases Int.lt_or_le m 0 with h | h
      · have := t2 h; omega
      · exact t1 h
    rw [bif_f (decide_eq_false hneg), e]
    rw [w64 (n := 48 + (q : Int)) (by omega), w8 (by omega)]
    rfl
def I64 (m : Int) : Prop := -9223372036854775808 ≤ m ∧ m ≤ 9223372036854775807
theorem num_loop (n : Int) (j : Nat) : ∀ (kk : Nat) (m : Int) (out : List Int), m ≠ 0 → I64 m → m.natAbs < 10 ^ j → j < kk → out.length + j ≤ 1000 →
    iter spec_NumText_s5 kk ((), n, out, m, ()) = some ((), n, digI m.natAbs ++ out, ()) := by
  induction j with
  | zero =>
    intro kk m out hm hr hj hk ho
    exfalso
    rw [Nat.pow_zero] at hj
    omega
  | succ j ih =>
    intro kk m out hm hr hj hk ho
    obtain ⟨kk, rfl⟩ : ∃ k2, kk = k2 + 1 := ⟨kk - 1, by omega⟩
    rw [iter_succ, num_step n _ m out hm hr (by omega)]
    have hu := td10 m
    by_cases h0 : m.natAbs < 10
    · have hz : Int.tdiv m 10 = 0 := by omega
      rw [hz, digI_small h0, Nat.mod_eq_of_lt h0]
      obtain ⟨k2, rfl⟩ : ∃ k2, kk = k2 + 1 := ⟨kk - 1, by omega⟩
      rw [iter_succ]
      unfold spec_NumText_s5
      exact bif_f (by simp)
    · rw [ih kk (Int.tdiv m 10) _ (by omega) (td10_rng hr) (by rw [hu]; rw [Nat.pow_succ] at hj; omega) (by omega) (by simp; omega), hu, digI_big h0]
      simp
theorem nd_le : ∀ (j u : Nat), u < 10 ^ (j + 1) → Lib.nDigits u ≤ j + 1
  | 0, u, h => by rw [Lib.nDigits_small (by simpa using h)]; exact Nat.le_refl _
  | j + 1, u, h => by
    by_cases h0 : u < 10
    · rw [Lib.nDigits_small h0]; omega
    · rw [Lib.nDigits_big h0]
      have := nd_le j (u / 10) (by rw [Nat.pow_succ] at h; omega)
      omega
theorem numSpec_eq (k : Nat) (hk : MM < k) (n : Int) (hr : -9223372036854775808 ≤ n ∧ n ≤ 9223372036854775807) : spec_NumText k n = some ((⟨(Lib.itoa n).toArray⟩, ()), ()) := by
  have hM : MM = 1048576 := rfl
  have hb : ∀ u, (digI u).map (fun n => UInt8.ofNat n.toNat) = Lib.decDigits u := by
    intro u
    unfold digI
    rw [List.map_map]
    conv => rhs; rw [← List.map_id (Lib.decDigits u)]
    refine List.map_congr_left fun b _ => ?_
    simp
  have hl : ∀ u, (digI u).length = Lib.nDigits u := fun u => by unfold digI; rw [List.length_map, Lib.decDigits_length]
  unfold spec_NumText
  by_cases h0 : n = 0
  · subst h0
    rw [bif_t (by simp)]
    have : Lib.itoa 0 = [48] := by
      unfold Lib.itoa
      rw [if_neg (by omega)]
      show Lib.decDigits 0 = _
      rw [Lib.decDigits_one (by omega)]; rfl
    rw [this]
  · rw [bif_f (by simpa using h0)]
    have run := num_loop n 20 k n [] h0 hr (by omega) (by omega) (by simp)
    refine (congrArg (fun o => Option.bind o _) run).trans ?_
    simp only [Option.bind_some, List.append_nil]
    have hle : (digI n.natAbs).length ≤ 1000 := by
      rw [hl]
      have := nd_le 19 n.natAbs (by omega)
      omega
    unfold Lib.itoa
    by_cases hneg : n < 0
    · rw [bif_t (decide_eq_true hneg), if_pos hneg]
      rw [bif_t (decide_eq_true (by omega)), strOf_eq]
      simp only [List.map_append, List.map_cons, List.map_nil, hb]
      rfl
    · rw [bif_f (decide_eq_false hneg), if_neg hneg, strOf_eq, hb]
      have : n.toNat = n.natAbs := by omega
      rw [this]
end Go.Tw
