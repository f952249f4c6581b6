/- Facts on mirrors. -/
import Derived.Test.YtmnfadocihfiaaaGreatPp3
set_option linter.all false
set_option maxRecDepth 100000
set_option maxHeartbeats 1100000
namespace Go.Tw
open Go Go.RowKit
theorem sub_take {d : List Int} {t i m : Nat} (h : i + m ≤ t) : ((d.take t).drop i).take m = (d.drop i).take m := by
  rw [List.drop_take, List.take_take, Nat.min_eq_left (by omega)]
theorem getD_take {d : List Int} {t i : Nat} (h : i < t) (hd : i < d.length) : (d.take t).getD i 0 = d.getD i 0 := by
  rw [getD_at d 0 i hd, getD_at (d.take t) 0 i (by rw [List.length_take]; omega), List.getElem_take]
def fOf (d : List Int) (hl tot : Nat) : D_Four :=
  (d.getD 1 0 / 4, d.getD 1 0 % 4, beB ((d.drop 4).take 2), beB ((d.drop 6).take 2) / 8192, beB ((d.drop 6).take 2) % 8192, d.getD 8 0, d.getD 9 0, (addrOf ((d.drop 12).take 4)).1, (addrOf ((d.drop 16).take 4)).1, (d.drop 20).take (hl - 20), (d.drop hl).take (tot - hl), ())
def b0 (d : List Int) : Int := d.getD 0 0
def fhl (d : List Int) : Nat := (4 * (b0 d % 16)).toNat
def ftot (d : List Int) : Nat := (beB ((d.drop 2).take 2)).toNat
def fourRd (d : List Int) : D_Four × List Int × Int :=
  bif decide (1600 < d.length) then (zzF, [], 1) else bif decide (d.length < 20) then (zzF, [], 2) else
  bif decide (b0 d / 16 = 4) then
    (bif decide (fhl d < 20) || decide (d.length < fhl d) then (zzF, [], 4) else
    bif decide (ftot d < fhl d) || (decide (1500 < ftot d) || decide (d.length < ftot d)) then (zzF, [], 5) else
    bif decide (beB ((d.drop 10).take 2) = hsum (fOf d (fhl d) (ftot d))) then (fOf d (fhl d) (ftot d), d.drop (ftot d), 0) else (zzF, [], 6))
  else (zzF, [], 3)
theorem fourOfI (k : Nat) (hk : MM < k) (d : List Int) (hb : bytesP d) (hd : d.length ≤ 100000) (hl tot : Nat) (h1 : 20 ≤ hl) (h2 : hl ≤ tot) (h3 : tot ≤ d.length) : impl_fourOf k (d.take tot) (hl : Int) = some ((fOf d hl tot, ()), ()) := by
  unfold impl_fourOf
  have hl' : (d.take tot).length = tot := by rw [List.length_take]; omega
  have ht : bytesP (d.take tot) := fun b h => hb b (List.mem_of_mem_take h)
  rw [hl']
  have s2 := fun i => sub_bytes ht i 2
  have g1 : (d.take tot).getD 1 0 = d.getD 1 0 := getD_take (by omega) (by omega)
  have g8 : (d.take tot).getD 8 0 = d.getD 8 0 := getD_take (by omega) (by omega)
  have g9 : (d.take tot).getD 9 0 = d.getD 9 0 := getD_take (by omega) (by omega)
  have r1 := hb _ (getD_mem d 0 1 (by omega))
  have r8 := hb _ (getD_mem d 0 8 (by omega))
  have r9 := hb _ (getD_mem d 0 9 (by omega))
  have r6 := be_two hb 6
  have c8 : decide ((8 : Int) ≤ ((tot : Nat) : Int)) = true := decide_eq_true (by omega)
  have c1 : decide ((1 : Int) < ((tot : Nat) : Int)) = true := decide_eq_true (by omega)
  have c1' : decide ((1 : Nat) < tot) = true := decide_eq_true (by omega)
  have c6 : decide ((6 : Int) ≤ ((tot : Nat) : Int)) = true := decide_eq_true (by omega)
  have l8 : decide ((8 : Int) < ((tot : Nat) : Int)) = true := decide_eq_true (by omega)
  have l8' : decide ((8 : Nat) < tot) = true := decide_eq_true (by omega)
  have l9 : decide ((9 : Int) < ((tot : Nat) : Int)) = true := decide_eq_true (by omega)
  have l9' : decide ((9 : Nat) < tot) = true := decide_eq_true (by omega)
  have c20 : decide ((20 : Int) ≤ (hl : Int)) = true := decide_eq_true (by omega)
  have chl : decide ((hl : Int) ≤ ((tot : Nat) : Int)) = true := decide_eq_true (by omega)
  have ch0 : decide ((0 : Int) ≤ (hl : Int)) = true := decide_eq_true (by omega)
  have ctt : decide (((tot : Nat) : Int) ≤ ((tot : Nat) : Int)) = true := decide_eq_true (Int.le_refl _)
  have c16 : decide ((16 : Int) ≤ ((tot : Nat) : Int)) = true := decide_eq_true (by omega)
  have t20 : decide ((20 : Int) ≤ ((tot : Nat) : Int)) = true := decide_eq_true (by omega)
  have e6 : ((d.take tot).drop 6).take 2 = (d.drop 6).take 2 := sub_take (by omega)
  have e4 : ((d.take tot).drop 4).take 2 = (d.drop 4).take 2 := sub_take (by omega)
  have e12 : ((d.take tot).drop 12).take 4 = (d.drop 12).take 4 := sub_take (by omega)
  have e16 : ((d.take tot).drop 16).take 4 = (d.drop 16).take 4 := sub_take (by omega)
  have e20 : ((d.take tot).drop 20).take (hl - 20) = (d.drop 20).take (hl - 20) := sub_take (by omega)
  have eB : ((d.take tot).drop hl).take (tot - hl) = (d.drop hl).take (tot - hl) := sub_take (by omega)
  have q1 : IntKind.wrap .i64 (Int.tdiv (IntKind.wrap .i64 (d.getD 1 0)) 4) = d.getD 1 0 / 4 := by rw [w64 (n := d.getD 1 0) (by omega), Int.tdiv_eq_ediv_of_nonneg (by omega), w64 (by omega)]
  have q2 : Int.tmod (IntKind.wrap .i64 (d.getD 1 0)) 4 = d.getD 1 0 % 4 := by rw [w64 (n := d.getD 1 0) (by omega), Int.tmod_eq_emod_of_nonneg (by omega)]
  have q3 : IntKind.wrap .i64 (Int.tdiv (beB ((d.drop 6).take 2)) 8192) = beB ((d.drop 6).take 2) / 8192 := by rw [Int.tdiv_eq_ediv_of_nonneg r6.1, w64 (by omega)]
  have q4 : Int.tmod (beB ((d.drop 6).take 2)) 8192 = beB ((d.drop 6).take 2) % 8192 := Int.tmod_eq_emod_of_nonneg r6.1
  simp only [c8, c1, c1', c6, l8, l8', l9, l9', c20, chl, ch0, ctt, c16, t20, Bool.and_self, cond_true, Int.toNat_natCast, e6, e4, e12, e16, e20, eB, g1, g8, g9,
    beOf_eq k hk _ (sub_bytes hb 6 2) (by rw [List.length_take]; omega), beOf_eq k hk _ (sub_bytes hb 4 2) (by rw [List.length_take]; omega), Option.bind_some, q1, q2, q3, q4,
    addrOfI k hk _ (sub_bytes hb 12 4), addrOfI k hk _ (sub_bytes hb 16 4), cloneI ((d.drop 20).take (hl - 20)) (by rw [List.length_take, List.length_drop]; omega), cloneI ((d.drop hl).take (tot - hl)) (by rw [List.length_take, List.length_drop]; omega), w64 (n := d.getD 8 0) ⟨by omega, by omega⟩, w64 (n := d.getD 9 0) ⟨by omega, by omega⟩]
  rfl
end Go.Tw
