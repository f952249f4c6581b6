/- Facts on mirrors. -/
import Derived.Test.YtmnfadocihfiaaaGreatPq4
set_option linter.all false
set_option maxRecDepth 100000
set_option maxHeartbeats 8000000
namespace Go.Tw
open Go Go.RowKit
def kindP (p v : Int) : Int := bif decide (p = 6) then 1 else bif decide (p = 17) then 2 else bif decide (p = 1) && decide (v = 4) then 3 else bif decide (p = 58) && decide (v = 6) then 3 else 0
theorem kind_cases (p v : Int) : kindP p v = 0 ∨ kindP p v = 1 ∨ kindP p v = 2 ∨ kindP p v = 3 := by
  unfold kindP
  cases decide (p = 6)
  · cases decide (p = 17)
    · cases (decide (p = 1) && decide (v = 4))
      · cases (decide (p = 58) && decide (v = 6))
        · exact .inl rfl
        · exact .inr (.inr (.inr rfl))
      · exact .inr (.inr (.inr rfl))
    · exact .inr (.inr (.inl rfl))
  · exact .inr (.inl rfl)
theorem knI (p v : Int) (hp : inB p 0 255 = true) (hv : v = 4 ∨ v = 6) : impl_UpperKind p v = some ((kindP p v, ()), ()) := by
  unfold impl_UpperKind kindP
  simp only [byteI, hp, Option.bind_some, Bool.not_true, Bool.not_false, cond_true, bn]
  rcases hv with rfl | rfl <;> cases decide (p = 6) <;> cases decide (p = 17) <;> cases decide (p = 1) <;> cases decide (p = 58) <;> rfl
theorem knS (p v : Int) (hp : inB p 0 255 = true) (hv : v = 4 ∨ v = 6) : spec_UpperKind p v = some ((kindP p v, ()), ()) := by
  unfold spec_UpperKind kindP
  simp only [inS, hp, Option.bind_some, Bool.not_true, Bool.not_false, cond_true, bn]
  rcases hv with rfl | rfl <;> cases decide (p = 6) <;> cases decide (p = 17) <;> cases decide (p = 1) <;> cases decide (p = 58) <;> rfl
abbrev w2 (d : List Int) (i : Nat) : Int := beB ((d.drop i).take 2)
abbrev w4 (d : List Int) (i : Nat) : Int := beB ((d.drop i).take 4)
def hT (d : List Int) : Nat := (4 * (d.getD 12 0 / 16)).toNat
def uTd (d : List Int) (h : Nat) : D_Upper := upT (w2 d 0) (w2 d 2) (w4 d 4) (w4 d 8) (w2 d 12 % 4096) (w2 d 14) (w2 d 18) ((d.drop 20).take (h - 20)) (d.drop h)
def sTd (d : List Int) (s t : D_Addr) (h : Nat) : Int := usm (psd s t 6 (20 + ((((d.drop 20).take (h - 20)).length : Nat) : Int) + (((d.drop h).length : Nat) : Int))) (ecT (w2 d 0) (w2 d 2) (w4 d 4) (w4 d 8) (w2 d 12 % 4096) (w2 d 14) (w2 d 18) ((d.drop 20).take (h - 20)) (d.drop h))
def rdT (d : List Int) (s t : D_Addr) : D_Upper × Int :=
  bif decide (d.length < 20) then (zzU, 3) else bif decide (hT d < 20) then (zzU, 4) else bif decide (d.length < hT d) then (zzU, 4) else
  bif decide (w2 d 16 = sTd d s t (hT d)) then (uTd d (hT d), 0) else (zzU, 6)
def uUd (d : List Int) (ns : Bool) : D_Upper := upU (w2 d 0) (w2 d 2) ns (d.drop 8)
def sUd (d : List Int) (s t : D_Addr) (ns : Bool) : Int := bif ns then 0 else usU (usm (psd s t 17 (8 + (((d.drop 8).length : Nat) : Int))) (ecU (w2 d 0) (w2 d 2) (d.drop 8)))
def nsd (d : List Int) (s : D_Addr) : Bool := decide (s.1 = 4) && decide (w2 d 6 = 0)
def rdU (d : List Int) (s t : D_Addr) : D_Upper × Int :=
  bif decide (d.length < 8) then (zzU, 3) else bif decide (w2 d 4 = ((d.length : Nat) : Int)) then
  bif decide (w2 d 6 = sUd d s t (nsd d s)) then (uUd d (nsd d s), 0) else (zzU, 6) else (zzU, 5)
def uId (d : List Int) : D_Upper := upI (d.getD 0 0) (d.getD 1 0) (w4 d 4) (d.drop 8)
def sId (d : List Int) (s t : D_Addr) : Int := usI s t (8 + (((d.drop 8).length : Nat) : Int)) (ecI (d.getD 0 0) (d.getD 1 0) (w4 d 4) (d.drop 8))
def rdIc (d : List Int) (s t : D_Addr) : D_Upper × Int :=
  bif decide (d.length < 8) then (zzU, 3) else bif decide (w2 d 2 = sId d s t) then (uId d, 0) else (zzU, 6)
def upRd (d : List Int) (p : Int) (s t : D_Addr) : D_Upper × Int :=
  bif decide (1500 < d.length) then (zzU, 1) else bif bothB s t && inB p 0 255 then
  bif decide (kindP p s.1 = 1) then rdT d s t else bif decide (kindP p s.1 = 2) then rdU d s t else bif decide (kindP p s.1 = 3) then rdIc d s t else (upO d, 0)
  else (zzU, 2)
theorem beI (k : Nat) (hk : MM < k) {d : List Int} (hb : bytesP d) (i m : Nat) (hm : m ≤ 7) : impl_beOf k ((d.drop i).take m) = some ((beB ((d.drop i).take m), ()), ()) :=
  beOf_eq k hk _ (sub_bytes hb i m) (by rw [List.length_take]; omega)
theorem be0I (k : Nat) (hk : MM < k) {d : List Int} (hb : bytesP d) : impl_beOf k (d.take 2) = some ((w2 d 0, ()), ()) := beI k hk hb 0 2 (by omega)
theorem upofT (k : Nat) (hk : MM < k) (d : List Int) (hb : bytesP d) (hl : d.length ≤ 1500) (h : Nat) (h1 : 20 ≤ h) (h2 : h ≤ d.length) :
    impl_upperOf k d 1 (h : Int) = some ((uTd d h, w2 d 16, ()), ()) := by
  have q : ∀ n : Int, n ≤ 20 → decide (n ≤ ((d.length : Nat) : Int)) = true := fun n hn => decide_eq_true (by omega)
  have c0 : decide ((0 : Int) ≤ (h : Int)) = true := decide_eq_true (by omega)
  have c1 : decide ((h : Int) ≤ ((d.length : Nat) : Int)) = true := decide_eq_true (by omega)
  have c2 : decide (((d.length : Nat) : Int) ≤ ((d.length : Nat) : Int)) = true := decide_eq_true (Int.le_refl _)
  have c3 : decide ((20 : Int) ≤ (h : Int)) = true := decide_eq_true (by omega)
  have b12 := be_two hb 12
  have e4 : Int.tmod (w2 d 12) 4096 = w2 d 12 % 4096 := Int.tmod_eq_emod_of_nonneg b12.1
  unfold impl_upperOf impl_upperOf_j0
  simp only [c0, c1, c2, c3, q 2 (by omega), q 4 (by omega), q 8 (by omega), q 12 (by omega), q 14 (by omega), q 16 (by omega), q 18 (by omega), q 20 (by omega), Int.toNat_natCast, take_all, cloneI (d.drop h) (by rw [List.length_drop]; omega), cloneI ((d.drop 20).take (h - 20)) (by rw [List.length_take, List.length_drop]; omega), be0I k hk hb, beI k hk hb _ 2 (by omega), beI k hk hb _ 4 (by omega), e4, decide_true, Bool.and_self, Bool.not_true, Bool.not_false, cond_true, cond_false, Option.bind_some]
  rfl
theorem upofU (k : Nat) (hk : MM < k) (d : List Int) (hb : bytesP d) (hl : d.length ≤ 1500) (h2 : 8 ≤ d.length) :
    impl_upperOf k d 2 8 = some ((uUd d false, w2 d 6, ()), ()) := by
  have q : ∀ n : Int, n ≤ 8 → decide (n ≤ ((d.length : Nat) : Int)) = true := fun n hn => decide_eq_true (by omega)
  have c0 : decide ((0 : Int) ≤ 8) = true := rfl
  have k1 : decide ((2 : Int) = 1) = false := rfl
  have c2 : decide (((d.length : Nat) : Int) ≤ ((d.length : Nat) : Int)) = true := decide_eq_true (Int.le_refl _)
  have n8 : Int.toNat 8 = 8 := rfl
  unfold impl_upperOf impl_upperOf_j0
  simp only [c0, c2, k1, n8, q 2 (by omega), q 4 (by omega), q 8 (by omega), take_all, cloneI (d.drop 8) (by rw [List.length_drop]; omega), be0I k hk hb, beI k hk hb _ 2 (by omega), beI k hk hb _ 4 (by omega), decide_true, Bool.and_self, Bool.not_true, Bool.not_false, cond_true, cond_false, Option.bind_some]
  rfl
theorem upofI (k : Nat) (hk : MM < k) (d : List Int) (hb : bytesP d) (hl : d.length ≤ 1500) (h2 : 8 ≤ d.length) :
    impl_upperOf k d 3 8 = some ((uId d, w2 d 2, ()), ()) := by
  have q : ∀ n : Int, n ≤ 8 → decide (n ≤ ((d.length : Nat) : Int)) = true := fun n hn => decide_eq_true (by omega)
  have q' : ∀ n : Int, n < 8 → decide (n < ((d.length : Nat) : Int)) = true := fun n hn => decide_eq_true (by omega)
  have q'' : ∀ n : Nat, n < 8 → decide (n < d.length) = true := fun n hn => decide_eq_true (by omega)
  have c0 : decide ((0 : Int) ≤ 8) = true := rfl
  have k1 : decide ((3 : Int) = 1) = false := rfl
  have k2 : decide ((3 : Int) = 2) = false := rfl
  have c2 : decide (((d.length : Nat) : Int) ≤ ((d.length : Nat) : Int)) = true := decide_eq_true (Int.le_refl _)
  have n8 : Int.toNat 8 = 8 := rfl
  have g0 := hb _ (getD_mem d 0 0 (by omega))
  have g1 := hb _ (getD_mem d 0 1 (by omega))
  have x0 : IntKind.wrap .i64 (d.getD 0 0) = d.getD 0 0 := w64 (by omega)
  have x1 : IntKind.wrap .i64 (d.getD 1 0) = d.getD 1 0 := w64 (by omega)
  unfold impl_upperOf impl_upperOf_j0
  simp only [c0, c2, k1, k2, n8, x0, x1, q 2 (by omega), q 4 (by omega), q 8 (by omega), q' 0 (by omega), q' 1 (by omega), q'' 0 (by omega), q'' 1 (by omega), take_all, cloneI (d.drop 8) (by rw [List.length_drop]; omega), be0I k hk hb, beI k hk hb _ 2 (by omega), beI k hk hb _ 4 (by omega), decide_true, Bool.and_self, Bool.not_true, Bool.not_false, cond_true, cond_false, Option.bind_some]
  rfl
theorem upofO (k : Nat) (hk : MM < k) (d : List Int) (hb : bytesP d) (hl : d.length ≤ 1500) :
    impl_upperOf k d 0 0 = some ((upO d, 0, ()), ()) := by
  have c0 : decide ((0 : Int) ≤ ((d.length : Nat) : Int)) = true := decide_eq_true (by omega)
  have k1 : decide ((0 : Int) = 1) = false := rfl
  have k2 : decide ((0 : Int) = 2) = false := rfl
  have k3 : decide ((0 : Int) = 3) = false := rfl
  have c2 : decide (((d.length : Nat) : Int) ≤ ((d.length : Nat) : Int)) = true := decide_eq_true (Int.le_refl _)
  have c1 : decide ((0 : Int) ≤ 0) = true := rfl
  have n8 : Int.toNat 0 = 0 := rfl
  unfold impl_upperOf impl_upperOf_j0
  simp only [c0, c1, c2, k1, k2, k3, n8, take_all, cloneI (d.drop 0) (by rw [List.length_drop]; omega), decide_true, Bool.and_self, Bool.not_true, Bool.not_false, cond_true, cond_false, Option.bind_some]
  rfl
theorem setT (d : List Int) (h : Nat) : ((uTd d h).1, (uTd d h).2.1, (uTd d h).2.2.1, (uTd d h).2.2.2.1, (uTd d h).2.2.2.2.1, (uTd d h).2.2.2.2.2.1, (uTd d h).2.2.2.2.2.2.1, (uTd d h).2.2.2.2.2.2.2.1, (uTd d h).2.2.2.2.2.2.2.2.1, (uTd d h).2.2.2.2.2.2.2.2.2.1, (uTd d h).2.2.2.2.2.2.2.2.2.2.1, false, (uTd d h).2.2.2.2.2.2.2.2.2.2.2.2) = uTd d h := rfl
theorem setU (d : List Int) (a b : Bool) : ((uUd d a).1, (uUd d a).2.1, (uUd d a).2.2.1, (uUd d a).2.2.2.1, (uUd d a).2.2.2.2.1, (uUd d a).2.2.2.2.2.1, (uUd d a).2.2.2.2.2.2.1, (uUd d a).2.2.2.2.2.2.2.1, (uUd d a).2.2.2.2.2.2.2.2.1, (uUd d a).2.2.2.2.2.2.2.2.2.1, (uUd d a).2.2.2.2.2.2.2.2.2.2.1, b, (uUd d a).2.2.2.2.2.2.2.2.2.2.2.2) = uUd d b := rfl
theorem setI (d : List Int) : ((uId d).1, (uId d).2.1, (uId d).2.2.1, (uId d).2.2.2.1, (uId d).2.2.2.2.1, (uId d).2.2.2.2.2.1, (uId d).2.2.2.2.2.2.1, (uId d).2.2.2.2.2.2.2.1, (uId d).2.2.2.2.2.2.2.2.1, (uId d).2.2.2.2.2.2.2.2.2.1, (uId d).2.2.2.2.2.2.2.2.2.2.1, false, (uId d).2.2.2.2.2.2.2.2.2.2.2.2) = uId d := rfl
section
variable (k : Nat) (hk : MM < k) (d : List Int) (hb : bytesP d) (hl : d.length ≤ 1500) (s t : D_Addr) (hs : bothB s t = true)
include hk hb hl hs
theorem smT (h : Nat) (h1 : 20 ≤ h) (h3 : h ≤ 60) (h4 : h % 4 = 0) (h2 : h ≤ d.length) :
    impl_UpperSum k (uTd d h) s t = some ((sTd d s t h, ()), ()) ∧ spec_UpperSum k (uTd d h) s t = some ((sTd d s t h, ()), ()) := by
  have l1 : ((d.drop 20).take (h - 20)).length = h - 20 := by rw [List.length_take, List.length_drop]; omega
  have l2 : (d.drop h).length = d.length - h := List.length_drop
  exact sumT k hk hs (be_two hb 0) (be_two hb 2) (be_four hb 4) (be_four hb 8) (by omega) (be_two hb 14) (be_two hb 18) (by omega) (by omega) (by omega) (sub_bytes hb 20 (h - 20)) (fun x hx => hb x (List.mem_of_mem_drop hx))
theorem smU (ns : Bool) (h2 : 8 ≤ d.length) (hns : ns = true → s.1 = 4) :
    impl_UpperSum k (uUd d ns) s t = some ((sUd d s t ns, ()), ()) ∧ spec_UpperSum k (uUd d ns) s t = some ((sUd d s t ns, ()), ()) := by
  have l2 : (d.drop 8).length = d.length - 8 := List.length_drop
  exact sumU k hk hs (be_two hb 0) (be_two hb 2) (by omega) (fun x hx => hb x (List.mem_of_mem_drop hx)) hns
theorem smI (h2 : 8 ≤ d.length) :
    impl_UpperSum k (uId d) s t = some ((sId d s t, ()), ()) ∧ spec_UpperSum k (uId d) s t = some ((sId d s t, ()), ()) := by
  have l2 : (d.drop 8).length = d.length - 8 := List.length_drop
  exact sumIc k hk hs (hb _ (getD_mem d 0 0 (by omega))) (hb _ (getD_mem d 0 1 (by omega))) (be_four hb 4) (by omega) (fun x hx => hb x (List.mem_of_mem_drop hx))
end
end Go.Tw
