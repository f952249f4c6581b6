/- Facts on mirrors. -/
import Derived.Test.YtmnfadocihfiaaaGreatPp6
set_option linter.all false
set_option maxRecDepth 100000
set_option maxHeartbeats 2000000
namespace Go.Tw
open Go Go.RowKit
theorem and_low {x m : Int} (n : Nat) (hx : 0 ≤ x ∧ x < 9223372036854775808) (hm : m = ((2 ^ n - 1 : Nat) : Int)) (hn : n ≤ 62) : IntKind.wrap .i64 (BitVec.ofInt (IntKind.bits .i64) x &&& BitVec.ofInt (IntKind.bits .i64) m).toNat = x % ((2 ^ n : Nat) : Int) := by
  obtain ⟨y, rfl⟩ : ∃ y : Nat, x = y := ⟨x.toNat, by omega⟩
  have hp : (2 : Nat) ^ n ≤ 2 ^ 62 := Nat.pow_le_pow_right (by omega) hn
  have hb : (2 : Nat) ^ 62 = 4611686018427387904 := by decide
  have hb64 : (2 : Nat) ^ (IntKind.bits .i64) = 18446744073709551616 := by decide
  have hpos : 0 < (2 : Nat) ^ n := Nat.two_pow_pos n
  have h1 : (BitVec.ofInt (IntKind.bits .i64) (y : Int) &&& BitVec.ofInt (IntKind.bits .i64) m).toNat = y % 2 ^ n := by
    rw [hm, BitVec.toNat_and, BitVec.ofInt_natCast, BitVec.ofInt_natCast, BitVec.toNat_ofNat, BitVec.toNat_ofNat, hb64, Nat.mod_eq_of_lt (show y < 18446744073709551616 by omega), Nat.mod_eq_of_lt (show 2 ^ n - 1 < 18446744073709551616 by omega), Nat.and_two_pow_sub_one_eq_mod]
  rw [h1]
  have := Nat.mod_lt y hpos
  rw [w64 (by omega)]
  omega
def sEnd (d : List Int) : Nat := 40 + (beB ((d.drop 4).take 2)).toNat
abbrev sW (d : List Int) : Int := beB ((d.drop 0).take 4)
def sOf (d : List Int) (o : List D_Ext) (kd : Int) (r : List Int) : D_Six :=
  (sW d / 1048576 % 256, sW d % 1048576, d.getD 7 0, kd, (addrOf ((d.drop 8).take 16)).1, (addrOf ((d.drop 24).take 16)).1, o, r, ())
def sixRd (d : List Int) : D_Six × List Int × Int :=
  bif decide (1600 < d.length) then (zzS, [], 1) else bif decide (d.length < 40) then (zzS, [], 2) else
  bif decide (b0 d / 16 = 6) then
    (bif decide (1500 < sEnd d) || decide (d.length < sEnd d) then (zzS, [], 4) else
      match extsP 4 (d.getD 6 0) ((d.drop 40).take (sEnd d - 40)) [] with
      | some (o, kd, r) => (sOf d o kd r, d.drop (sEnd d), 0)
      | none => (zzS, [], 5))
  else (zzS, [], 3)
theorem ext_len : ∀ (n : Nat) (kind : Int) (l : List Int) (out : List D_Ext) {o : List D_Ext} {kd : Int} {r : List Int}, extsP n kind l out = some (o, kd, r) → ∃ j, r = l.drop j
  | 0, kind, l, out, o, kd, r, h => by simp [extsP] at h
  | n + 1, kind, l, out, o, kd, r, h => by
    unfold extsP at h
    cases h1 : exK kind
    · rw [h1] at h
      simp only [cond_false, Option.some.injEq, Prod.mk.injEq] at h
      exact ⟨0, h.2.2.symm⟩
    · rw [h1] at h
      simp only [cond_true] at h
      cases h2 : stopB kind l out
      · rw [h2] at h
        simp only [cond_false] at h
        obtain ⟨j, hj⟩ := ext_len n _ _ _ h
        exact ⟨xT l + j, by rw [hj, List.drop_drop]⟩
      · rw [h2] at h; simp at h
theorem sixRdI (k : Nat) (hk : MM < k) (d : List Int) (hb : bytesP d) : impl_SixRead k d = some (((sixRd d).1, (sixRd d).2.1, (sixRd d).2.2, ()), ()) := by
  unfold impl_SixRead impl_SixRead_j0 sixRd
  by_cases h1 : 1600 < d.length
  · rw [bif_t (decide_eq_true (by omega)), bif_t (decide_eq_true h1)]
  rw [bif_f (decide_eq_false (by omega)), bif_f (decide_eq_false h1)]
  by_cases h2 : d.length < 40
  · rw [bif_t (decide_eq_true (by omega)), bif_t (decide_eq_true h2)]
  rw [bif_f (decide_eq_false (by omega)), bif_f (decide_eq_false h2)]
  have r0 : 0 ≤ d.getD 0 0 ∧ d.getD 0 0 ≤ 255 := hb _ (getD_mem d 0 0 (by omega))
  have r6 : 0 ≤ d.getD 6 0 ∧ d.getD 6 0 ≤ 255 := hb _ (getD_mem d 0 6 (by omega))
  have r7 : 0 ≤ d.getD 7 0 ∧ d.getD 7 0 ≤ 255 := hb _ (getD_mem d 0 7 (by omega))
  have c0 : decide ((0 : Int) < ((d.length : Nat) : Int)) = true := decide_eq_true (by omega)
  have c0' : decide ((0 : Nat) < d.length) = true := decide_eq_true (by omega)
  have c6 : decide ((6 : Int) ≤ ((d.length : Nat) : Int)) = true := decide_eq_true (by omega)
  have c6b : decide ((6 : Int) < ((d.length : Nat) : Int)) = true := decide_eq_true (by omega)
  have c6' : decide ((6 : Nat) < d.length) = true := decide_eq_true (by omega)
  have c7 : decide ((7 : Int) < ((d.length : Nat) : Int)) = true := decide_eq_true (by omega)
  have c7' : decide ((7 : Nat) < d.length) = true := decide_eq_true (by omega)
  have c4 : decide ((4 : Int) ≤ ((d.length : Nat) : Int)) = true := decide_eq_true (by omega)
  have c24 : decide ((24 : Int) ≤ ((d.length : Nat) : Int)) = true := decide_eq_true (by omega)
  have c40 : decide ((40 : Int) ≤ ((d.length : Nat) : Int)) = true := decide_eq_true (by omega)
  have cll : decide (((d.length : Nat) : Int) ≤ ((d.length : Nat) : Int)) = true := decide_eq_true (Int.le_refl _)
  have e16 : Int.fdiv (d.getD 0 0) (2 ^ min (Int.toNat 4) (IntKind.bits .u8)) = b0 d / 16 := by
    show Int.fdiv (d.getD 0 0) 16 = d.getD 0 0 / 16
    exact Int.fdiv_eq_ediv_of_nonneg _ (by decide)
  have r4 := be_two hb 4
  have eE : IntKind.wrap .i64 (40 + beB ((d.drop 4).take 2)) = ((sEnd d : Nat) : Int) := by rw [w64 (by omega)]; unfold sEnd; omega
  simp only [c0, c0', c6, cond_true, e16, beOf_eq k hk _ (sub_bytes hb 4 2) (by rw [List.length_take]; omega), Option.bind_some, eE, bn]
  by_cases h3 : b0 d / 16 = 6
  case neg => rw [decide_eq_false h3]; rfl
  rw [decide_eq_true h3]
  simp only [cond_true]
  by_cases h4 : 1500 < sEnd d
  · rw [decide_eq_true (show (1500 : Int) < ((sEnd d : Nat) : Int) by omega), decide_eq_true h4]; rfl
  rw [decide_eq_false (show ¬ (1500 : Int) < ((sEnd d : Nat) : Int) by omega), decide_eq_false h4]
  by_cases h5 : d.length < sEnd d
  · rw [decide_eq_true (show ((d.length : Nat) : Int) < ((sEnd d : Nat) : Int) by omega), decide_eq_true h5]; rfl
  rw [decide_eq_false (show ¬ ((d.length : Nat) : Int) < ((sEnd d : Nat) : Int) by omega), decide_eq_false h5]
  have ge40 : 40 ≤ sEnd d := by unfold sEnd; omega
  have q1 : decide ((40 : Int) ≤ ((sEnd d : Nat) : Int)) = true := decide_eq_true (by omega)
  have q2 : decide (((sEnd d : Nat) : Int) ≤ ((d.length : Nat) : Int)) = true := decide_eq_true (by omega)
  have q3 : decide ((0 : Int) ≤ ((sEnd d : Nat) : Int)) = true := decide_eq_true (by omega)
  have e6 : IntKind.wrap .i64 (d.getD 6 0) = d.getD 6 0 := w64 (by omega)
  have e7 : IntKind.wrap .i64 (d.getD 7 0) = d.getD 7 0 := w64 (by omega)
  have hlen : ((d.drop 40).take (sEnd d - 40)).length ≤ 2000 := by rw [List.length_take, List.length_drop]; omega
  have hX := extsI k hk (d.getD 6 0) ((d.drop 40).take (sEnd d - 40)) (sub_bytes hb 40 _) hlen
  simp only [c6b, c6', q1, q2, e6, Bool.and_self, cond_true, cond_false, Int.toNat_natCast, hX, Option.bind_some, Bool.or_self]
  cases hE : extsP 4 (d.getD 6 0) ((d.drop 40).take (sEnd d - 40)) [] with
  | none => rfl
  | some p =>
    obtain ⟨o, kd, r⟩ := p
    obtain ⟨j, hj⟩ := ext_len _ _ _ _ hE
    have hrl : r.length ≤ 2000 := by rw [hj, List.length_drop]; omega
    have w : 0 ≤ sW d ∧ sW d ≤ 4294967295 := be_four hb 0
    have e0 : List.take 4 d = (d.drop 0).take 4 := rfl
    have a1 : IntKind.wrap .i64 (BitVec.ofInt (IntKind.bits .i64) (Int.fdiv (sW d) (2 ^ min (Int.toNat 20) (IntKind.bits .i64))) &&& BitVec.ofInt (IntKind.bits .i64) 255).toNat = sW d / 1048576 % 256 := by
      have hf : Int.fdiv (sW d) (2 ^ min (Int.toNat 20) (IntKind.bits .i64)) = sW d / 1048576 := by
        show Int.fdiv (sW d) 1048576 = sW d / 1048576
        exact Int.fdiv_eq_ediv_of_nonneg _ (by decide)
      rw [hf]
      exact and_low 8 (by omega) (by decide) (by decide)
    have a2 : IntKind.wrap .i64 (BitVec.ofInt (IntKind.bits .i64) (sW d) &&& BitVec.ofInt (IntKind.bits .i64) 1048575).toNat = sW d % 1048576 := and_low 20 (by omega) (by decide) (by decide)
    simp only [Bool.not_true, cond_false, cond_true, c4, c7, c7', c24, c40, q2, q3, cll, Bool.and_self, e0, beOf_eq k hk _ (sub_bytes hb 0 4) (by rw [List.length_take]; omega), Option.bind_some, a1, a2, e7, cloneI r (by omega), addrOfI k hk _ (sub_bytes hb 8 16), addrOfI k hk _ (sub_bytes hb 24 16), Int.toNat_natCast, take_all, cloneI (d.drop (sEnd d)) (by rw [List.length_drop]; omega)]
    rfl
end Go.Tw
