/- The mirrors. -/
import Derived.Test.YtemcbhjheebnnaaGreatT24
set_option linter.all false
namespace Go.Tw
open Go Go.RowKit
open Go.IntKind renaming wrap → Wr
abbrev iI (x : Int) : Int := x
abbrev aW : Ty := (.pr (.int .i64) (.pr (.int .i64) (.pr (.int .i64) (.pr (.int .i64) (.pr (.int .i64) .un)))))
abbrev ar := (Int × (Int × (Int × (Int × (Int × Unit)))))
def Vh : ar := (0, (0, (0, (0, (0, ())))))
abbrev dI : Ty := (.pr aW (.pr (.int .i64) .un))
abbrev bx := (ar × (Int × Unit))
def S7 : bx := (Vh, (0, ()))
abbrev fw : Ty := (.pr (.int .i64) (.pr dI (.pr dI (.pr (.int .i64) (.pr (.int .i64) (.pr (.int .i64) (.pr (.int .i64) .un)))))))
abbrev aV := (Int × (bx × (bx × (Int × (Int × (Int × (Int × Unit)))))))
def vJ : aV := (0, (S7, (S7, (0, (0, (0, (0, ())))))))
abbrev da : Ty := (.pr (.int .i64) (.pr (.sl (.int .u8)) .un))
abbrev aB := (Int × ((List Int) × Unit))
def cF : aB := (0, ([], ()))
abbrev fu : Ty := (.pr (.int .i64) (.pr (.int .i64) (.pr (.int .i64) da)))
abbrev bH := (Int × (Int × (Int × aB)))
abbrev dU : Ty := (.pr (.int .i64) (.pr (.int .i64) (.pr (.int .i64) (.pr (.int .i64) (.pr (.int .i64) (.pr (.int .i64) (.pr (.int .i64) (.pr aW (.pr aW (.pr (.sl (.int .u8)) (.pr (.sl (.int .u8)) .un)))))))))))
abbrev aR := (Int × (Int × (Int × (Int × (Int × (Int × (Int × (ar × (ar × ((List Int) × ((List Int) × Unit)))))))))))
abbrev eI : Ty := (.pr (.int .i64) (.pr (.int .i64) (.pr (.int .i64) (.pr (.int .i64) (.pr aW (.pr aW (.pr (.sl da) (.pr (.sl (.int .u8)) .un))))))))
abbrev bc := (Int × (Int × (Int × (Int × (ar × (ar × ((List aB) × ((List Int) × Unit))))))))
abbrev dG : Ty := (.pr (.int .i64) (.pr (.int .i64) (.pr (.int .i64) (.pr (.int .i64) (.pr (.int .i64) (.pr (.int .i64) (.pr (.int .i64) (.pr (.int .i64) (.pr (.int .i64) (.pr (.int .i64) (.pr (.int .i64) (.pr .bool (.pr (.sl (.int .u8)) (.pr (.sl (.int .u8)) .un))))))))))))))
abbrev aF := (Int × (Int × (Int × (Int × (Int × (Int × (Int × (Int × (Int × (Int × (Int × (Bool × ((List Int) × ((List Int) × Unit))))))))))))))
abbrev aU : Ty := (.pr (.int .i64) (.pr fu (.pr dU (.pr eI (.pr dG (.pr (.sl (.int .u8)) .un))))))
abbrev aj := (Int × (bH × (aR × (bc × (aF × ((List Int) × Unit))))))
abbrev yQ : Ty := (.pr aW (.pr aW (.pr (.int .i64) (.pr (.int .i64) (.pr (.int .i64) .un)))))
abbrev qZ := (ar × (ar × (Int × (Int × (Int × Unit)))))
abbrev vw : bH := (0, 0, 0, 0, ([] : List Int), ())
abbrev pI : aF := (0, 0, 0, 0, 0, 0, 0, 0, 0, 0, 0, false, ([] : List Int), ([] : List Int), ())
abbrev kQ : bc := (0, 0, 0, 0, (0, 0, 0, 0, 0, ()), (0, 0, 0, 0, 0, ()), ([] : List aB), ([] : List Int), ())
abbrev ra : aR := (0, 0, 0, 0, 0, 0, 0, (0, 0, 0, 0, 0, ()), (0, 0, 0, 0, 0, ()), ([] : List Int), ([] : List Int), ())
abbrev oK : aj := (0, (0, 0, 0, 0, ([] : List Int), ()), (0, 0, 0, 0, 0, 0, 0, (0, 0, 0, 0, 0, ()), (0, 0, 0, 0, 0, ()), ([] : List Int), ([] : List Int), ()), (0, 0, 0, 0, (0, 0, 0, 0, 0, ()), (0, 0, 0, 0, 0, ()), ([] : List aB), ([] : List Int), ()), (0, 0, 0, 0, 0, 0, 0, 0, 0, 0, 0, false, ([] : List Int), ([] : List Int), ()), ([] : List Int), ())
def Sh (x0 : (List aV)) (x1 : Int) : Option ((Int × Unit) × Unit) :=
 bif (decide ((Wr .i64 (x1 - (List.length x0 : Int))) < 0)) then
 some (((-1), ()), ())
 else
 some (((Wr .i64 (x1 - (List.length x0 : Int))), ()), ())
def du (x0 : (List Int)) (x1 : Int) : Option ((Int × Unit) × Unit) :=
 bif (decide ((Wr .i64 (x1 - (List.length x0 : Int))) < 0)) then
 some (((-1), ()), ())
 else
 some (((Wr .i64 (x1 - (List.length x0 : Int))), ()), ())
def lY (x0 : bH) (x1 : Int) : Option ((Int × Unit) × Unit) :=
 (du x0.2.2.2.2.1 x1).bind fun t1 =>
 bif (decide (t1.1.1 < 0)) then
 some (((-1), ()), ())
 else
 some (t1.1, ())
def mP (x0 : aR) (x1 : Int) : Option ((Int × Unit) × Unit) :=
 (du x0.2.2.2.2.2.2.2.2.2.1 x1).bind fun t1 =>
 bif (decide (t1.1.1 < 0)) then
 some (((-1), ()), ())
 else
 (du x0.2.2.2.2.2.2.2.2.2.2.1 t1.1.1).bind fun t2 =>
 bif (decide (t2.1.1 < 0)) then
 some (((-1), ()), ())
 else
 some (t2.1, ())
def lZ (x0 : aB) (x1 : Int) : Option ((Int × Unit) × Unit) :=
 (du x0.2.1 x1).bind fun t1 =>
 bif (decide (t1.1.1 < 0)) then
 some (((-1), ()), ())
 else
 some (t1.1, ())
def kG (rec : (Unit × ((List aB) × (Int × (Int × Unit)))) → Option ((Unit × (Int × Unit)) ⊕ (Unit × (Int × Unit)))) (v : (Unit × ((List aB) × (Int × (Int × Unit))))) : Option ((Unit × (Int × Unit)) ⊕ (Unit × (Int × Unit))) :=
 bif (decide (v.2.2.2.1 < (List.length v.2.1 : Int))) then
 bif ((decide (0 ≤ v.2.2.2.1)) && (decide (v.2.2.2.1 < (List.length v.2.1 : Int)))) then
 bif (decide ((Int.toNat v.2.2.2.1) < (List.length v.2.1))) then
 (lZ (List.getD v.2.1 (Int.toNat v.2.2.2.1) cF) v.2.2.1).bind fun t1 =>
 bif (decide (t1.1.1 < 0)) then
 some (Sum.inl ((), (-1), ()))
 else
 rec ((), v.2.1, t1.1.1, (Wr .i64 (v.2.2.2.1 + 1)), ())
 else none
 else none
 else
 some (Sum.inr ((), v.2.2.1, ()))
def mQ (k : Nat) (x0 : (List aB)) (x1 : Int) : Option ((Int × Unit) × Unit) :=
 bif (decide ((Wr .i64 (x1 - (List.length x0 : Int))) < 0)) then
 some (((-1), ()), ())
 else
 (iter (kG) k ((), x0, (Wr .i64 (x1 - (List.length x0 : Int))), 0, ())).bind fun o1 =>
 Sum.elim (fun a2 =>
 some (a2.2, ()))
 (fun b3 =>
 some (b3.2, ())) o1
def oq (k : Nat) (x0 : bc) (x1 : Int) : Option ((Int × Unit) × Unit) :=
 (mQ k x0.2.2.2.2.2.2.1 x1).bind fun t1 =>
 bif (decide (t1.1.1 < 0)) then
 some (((-1), ()), ())
 else
 (du x0.2.2.2.2.2.2.2.1 t1.1.1).bind fun t2 =>
 bif (decide (t2.1.1 < 0)) then
 some (((-1), ()), ())
 else
 some (t2.1, ())
def l9 (x0 : aF) (x1 : Int) : Option ((Int × Unit) × Unit) :=
 (du x0.2.2.2.2.2.2.2.2.2.2.2.2.1 x1).bind fun t1 =>
 bif (decide (t1.1.1 < 0)) then
 some (((-1), ()), ())
 else
 (du x0.2.2.2.2.2.2.2.2.2.2.2.2.2.1 t1.1.1).bind fun t2 =>
 bif (decide (t2.1.1 < 0)) then
 some (((-1), ()), ())
 else
 some (t2.1, ())
def lv (k : Nat) (x0 : aj) (x1 : Int) : Option ((Int × Unit) × Unit) :=
 (lY x0.2.1 x1).bind fun t1 =>
 bif (decide (t1.1.1 < 0)) then
 some (((-1), ()), ())
 else
 (mP x0.2.2.1 t1.1.1).bind fun t2 =>
 bif (decide (t2.1.1 < 0)) then
 some (((-1), ()), ())
 else
 (oq k x0.2.2.2.1 t2.1.1).bind fun t3 =>
 bif (decide (t3.1.1 < 0)) then
 some (((-1), ()), ())
 else
 (l9 x0.2.2.2.2.1 t3.1.1).bind fun t4 =>
 bif (decide (t4.1.1 < 0)) then
 some (((-1), ()), ())
 else
 (du x0.2.2.2.2.2.1 t4.1.1).bind fun t5 =>
 bif (decide (t5.1.1 < 0)) then
 some (((-1), ()), ())
 else
 some (t5.1, ())
def gk (x0 : ar) : Option ((ar × Unit) × Unit) :=
 some ((x0, ()), ())
def iB (x0 : bx) : Option ((bx × Unit) × Unit) :=
 (gk x0.1).bind fun t1 =>
 some (((t1.1.1, x0.2), ()), ())
def gC (x0 : aV) : Option ((aV × Unit) × Unit) :=
 (iB x0.2.1).bind fun t1 =>
 (iB x0.2.2.1).bind fun t2 =>
 some (((x0.1, t1.1.1, t2.1.1, x0.2.2.2), ()), ())
def Si (rec : (Unit × ((List aV) × ((List aV) × (Int × Unit)))) → Option ((Unit × ((List aV) × Unit)))) (v : (Unit × ((List aV) × ((List aV) × (Int × Unit))))) : Option ((Unit × ((List aV) × Unit))) :=
 bif (decide (v.2.2.2.1 < (List.length v.2.1 : Int))) then
 bif ((decide (0 ≤ v.2.2.2.1)) && (decide (v.2.2.2.1 < (List.length v.2.1 : Int)))) then
 bif (decide ((Int.toNat v.2.2.2.1) < (List.length v.2.1))) then
 (gC (List.getD v.2.1 (Int.toNat v.2.2.2.1) vJ)).bind fun t1 =>
 bif ((decide (0 ≤ v.2.2.2.1)) && (decide (v.2.2.2.1 < (List.length v.2.2.1 : Int)))) then
 bif (decide ((Int.toNat v.2.2.2.1) < (List.length v.2.2.1))) then
 let y2 : (List aV) := (List.set v.2.2.1 (Int.toNat v.2.2.2.1) t1.1.1)
 rec ((), v.2.1, y2, (Wr .i64 (v.2.2.2.1 + 1)), ())
 else none
 else none
 else none
 else none
 else
 some ((), v.2.2.1, ())
def R6 (k : Nat) (x0 : (List aV)) : Option (((List aV) × Unit) × Unit) :=
 bif (((decide (0 ≤ (List.length x0 : Int))) && (decide ((List.length x0 : Int) ≤ (List.length x0 : Int)))) && (decide ((136 * (List.length x0 : Int)) ≤ 1099511627776))) then
 (iter (Si) k ((), x0, (List.replicate (List.length x0) ((0:Int), (((0:Int), (0:Int), (0:Int), (0:Int), (0:Int), ()), (0:Int), ()), (((0:Int), (0:Int), (0:Int), (0:Int), (0:Int), ()), (0:Int), ()), (0:Int), (0:Int), (0:Int), (0:Int), ())), 0, ())).bind fun o1 =>
 some (o1.2, ())
 else none
def j7 (rec : (Unit × ((List Int) × ((List Int) × (Int × Unit)))) → Option ((Unit × ((List Int) × Unit)))) (v : (Unit × ((List Int) × ((List Int) × (Int × Unit))))) : Option ((Unit × ((List Int) × Unit))) :=
 bif (decide (v.2.2.2.1 < (List.length v.2.1 : Int))) then
 bif ((decide (0 ≤ v.2.2.2.1)) && (decide (v.2.2.2.1 < (List.length v.2.1 : Int)))) then
 bif (decide ((Int.toNat v.2.2.2.1) < (List.length v.2.1))) then
 bif ((decide (0 ≤ v.2.2.2.1)) && (decide (v.2.2.2.1 < (List.length v.2.2.1 : Int)))) then
 bif (decide ((Int.toNat v.2.2.2.1) < (List.length v.2.2.1))) then
 let y1 : (List Int) := (List.set v.2.2.1 (Int.toNat v.2.2.2.1) (List.getD v.2.1 (Int.toNat v.2.2.2.1) 0))
 rec ((), v.2.1, y1, (Wr .i64 (v.2.2.2.1 + 1)), ())
 else none
 else none
 else none
 else none
 else
 some ((), v.2.2.1, ())
def dO (k : Nat) (x0 : (List Int)) : Option (((List Int) × Unit) × Unit) :=
 bif (((decide (0 ≤ (List.length x0 : Int))) && (decide ((List.length x0 : Int) ≤ (List.length x0 : Int)))) && (decide ((1 * (List.length x0 : Int)) ≤ 1099511627776))) then
 (iter (j7) k ((), x0, (List.replicate (List.length x0) (0:Int)), 0, ())).bind fun o1 =>
 some (o1.2, ())
 else none
def kl (k : Nat) (x0 : bH) : Option ((bH × Unit) × Unit) :=
 (dO k x0.2.2.2.2.1).bind fun t1 =>
 some (((x0.1, x0.2.1, x0.2.2.1, x0.2.2.2.1, t1.1), ()), ())
def k9 (k : Nat) (x0 : aR) : Option ((aR × Unit) × Unit) :=
 (gk x0.2.2.2.2.2.2.2.1).bind fun t1 =>
 (gk x0.2.2.2.2.2.2.2.2.1).bind fun t2 =>
 (dO k x0.2.2.2.2.2.2.2.2.2.1).bind fun t3 =>
 (dO k x0.2.2.2.2.2.2.2.2.2.2.1).bind fun t4 =>
 some (((x0.1, x0.2.1, x0.2.2.1, x0.2.2.2.1, x0.2.2.2.2.1, x0.2.2.2.2.2.1, x0.2.2.2.2.2.2.1, t1.1.1, t2.1.1, t3.1.1, t4.1), ()), ())
def kH (k : Nat) (x0 : aB) : Option ((aB × Unit) × Unit) :=
 (dO k x0.2.1).bind fun t1 =>
 some (((x0.1, t1.1), ()), ())
def kI (k : Nat) (rec : (Unit × ((List aB) × ((List aB) × (Int × Unit)))) → Option ((Unit × ((List aB) × Unit)))) (v : (Unit × ((List aB) × ((List aB) × (Int × Unit))))) : Option ((Unit × ((List aB) × Unit))) :=
 bif (decide (v.2.2.2.1 < (List.length v.2.1 : Int))) then
 bif ((decide (0 ≤ v.2.2.2.1)) && (decide (v.2.2.2.1 < (List.length v.2.1 : Int)))) then
 bif (decide ((Int.toNat v.2.2.2.1) < (List.length v.2.1))) then
 (kH k (List.getD v.2.1 (Int.toNat v.2.2.2.1) cF)).bind fun t1 =>
 bif ((decide (0 ≤ v.2.2.2.1)) && (decide (v.2.2.2.1 < (List.length v.2.2.1 : Int)))) then
 bif (decide ((Int.toNat v.2.2.2.1) < (List.length v.2.2.1))) then
 let y2 : (List aB) := (List.set v.2.2.1 (Int.toNat v.2.2.2.1) t1.1.1)
 rec ((), v.2.1, y2, (Wr .i64 (v.2.2.2.1 + 1)), ())
 else none
 else none
 else none
 else none
 else
 some ((), v.2.2.1, ())
def mR (k : Nat) (x0 : (List aB)) : Option (((List aB) × Unit) × Unit) :=
 bif (((decide (0 ≤ (List.length x0 : Int))) && (decide ((List.length x0 : Int) ≤ (List.length x0 : Int)))) && (decide ((32 * (List.length x0 : Int)) ≤ 1099511627776))) then
 (iter (kI k) k ((), x0, (List.replicate (List.length x0) ((0:Int), ([] : List Int), ())), 0, ())).bind fun o1 =>
 some (o1.2, ())
 else none
def ma (k : Nat) (x0 : bc) : Option ((bc × Unit) × Unit) :=
 (gk x0.2.2.2.2.1).bind fun t1 =>
 (gk x0.2.2.2.2.2.1).bind fun t2 =>
 (mR k x0.2.2.2.2.2.2.1).bind fun t3 =>
 (dO k x0.2.2.2.2.2.2.2.1).bind fun t4 =>
 some (((x0.1, x0.2.1, x0.2.2.1, x0.2.2.2.1, t1.1.1, t2.1.1, t3.1.1, t4.1), ()), ())
def km (k : Nat) (x0 : aF) : Option ((aF × Unit) × Unit) :=
 (dO k x0.2.2.2.2.2.2.2.2.2.2.2.2.1).bind fun t1 =>
 (dO k x0.2.2.2.2.2.2.2.2.2.2.2.2.2.1).bind fun t2 =>
 some (((x0.1, x0.2.1, x0.2.2.1, x0.2.2.2.1, x0.2.2.2.2.1, x0.2.2.2.2.2.1, x0.2.2.2.2.2.2.1, x0.2.2.2.2.2.2.2.1, x0.2.2.2.2.2.2.2.2.1, x0.2.2.2.2.2.2.2.2.2.1, x0.2.2.2.2.2.2.2.2.2.2.1, x0.2.2.2.2.2.2.2.2.2.2.2.1, t1.1.1, t2.1), ()), ())
def fH (k : Nat) (x0 : aj) : Option ((aj × Unit) × Unit) :=
 (kl k x0.2.1).bind fun t1 =>
 (k9 k x0.2.2.1).bind fun t2 =>
 (ma k x0.2.2.2.1).bind fun t3 =>
 (km k x0.2.2.2.2.1).bind fun t4 =>
 (dO k x0.2.2.2.2.2.1).bind fun t5 =>
 some (((x0.1, t1.1.1, t2.1.1, t3.1.1, t4.1.1, t5.1), ()), ())
def Ss (rec : (Unit × ((List Int) × ((List Int) × (Int × Unit)))) → Option ((Unit × ((List Int) × Unit)))) (v : (Unit × ((List Int) × ((List Int) × (Int × Unit))))) : Option ((Unit × ((List Int) × Unit))) :=
 bif (decide (v.2.2.2.1 < (List.length v.2.1 : Int))) then
 bif ((decide (0 ≤ v.2.2.2.1)) && (decide (v.2.2.2.1 < (List.length v.2.1 : Int)))) then
 bif (decide ((Int.toNat v.2.2.2.1) < (List.length v.2.1))) then
 bif ((decide (0 ≤ v.2.2.2.1)) && (decide (v.2.2.2.1 < (List.length v.2.2.1 : Int)))) then
 bif (decide ((Int.toNat v.2.2.2.1) < (List.length v.2.2.1))) then
 let y1 : (List Int) := (List.set v.2.2.1 (Int.toNat v.2.2.2.1) (List.getD v.2.1 (Int.toNat v.2.2.2.1) 0))
 rec ((), v.2.1, y1, (Wr .i64 (v.2.2.2.1 + 1)), ())
 else none
 else none
 else none
 else none
 else
 some ((), v.2.2.1, ())
def Sf (k : Nat) (x0 : (List Int)) : Option (((List Int) × Unit) × Unit) :=
 bif (((decide (0 ≤ (List.length x0 : Int))) && (decide ((List.length x0 : Int) ≤ (List.length x0 : Int)))) && (decide ((8 * (List.length x0 : Int)) ≤ 1099511627776))) then
 (iter (Ss) k ((), x0, (List.replicate (List.length x0) (0:Int)), 0, ())).bind fun o1 =>
 some (o1.2, ())
 else none
def gl (x0 : bx) : Option ((Bool × Unit) × Unit) :=
 some (((((decide (x0.1.1 = 0)) && ((decide (x0.1.2.1 = 0)) && ((decide (x0.1.2.2.1 = 0)) && ((decide (x0.1.2.2.2.1 = 0)) && ((decide (x0.1.2.2.2.2.1 = 0)) && true))))) && ((decide (x0.2.1 = 0)) && true)), ()), ())
def dv (x0 : Int) : Option ((Bool × Unit) × Unit) :=
 bif (decide (0 ≤ x0)) then
 some (((decide (x0 ≤ 4294967295)), ()), ())
 else
 some ((false, ()), ())
def dh (x0 : ar) : Option ((Bool × Unit) × Unit) :=
 bif (decide (x0.1 = 4)) then
 bif (decide (x0.2.1 = 0)) then
 bif (decide (x0.2.2.1 = 0)) then
 bif (decide (x0.2.2.2.1 = 0)) then
 (dv x0.2.2.2.2.1).bind fun t1 =>
 some (t1.1, ())
 else
 some ((false, ()), ())
 else
 some ((false, ()), ())
 else
 some ((false, ()), ())
 else
 bif (decide (x0.1 = 6)) then
 (dv x0.2.1).bind fun t2 =>
 bif t2.1.1 then
 (dv x0.2.2.1).bind fun t3 =>
 bif t3.1.1 then
 (dv x0.2.2.2.1).bind fun t4 =>
 bif t4.1.1 then
 (dv x0.2.2.2.2.1).bind fun t5 =>
 some (t5.1, ())
 else
 some ((false, ()), ())
 else
 some ((false, ()), ())
 else
 some ((false, ()), ())
 else
 some ((false, ()), ())
def ie (x0 : ar) : Option ((Int × Unit) × Unit) :=
 bif (decide (x0.1 = 4)) then
 some ((32, ()), ())
 else
 some ((128, ()), ())
def jT (x0 : Int) (x1 : Int) : Option ((Int × Unit) × Unit) :=
 bif (!(decide (x1 = 0))) then
 bif (decide ((Int.tmod x0 x1) < 0)) then
 some (((Wr .i64 ((Int.tmod x0 x1) + x1)), ()), ())
 else
 some (((Int.tmod x0 x1), ()), ())
 else none
def aY (x0 : Int) : Option (((List Int) × Unit) × Unit) :=
 (jT x0 65536).bind fun t1 =>
 some ((([(Wr .u8 (Wr .i64 (Int.tdiv t1.1.1 256))), (Wr .u8 (Int.tmod t1.1.1 256))] : List Int), ()), ())
def cJ (x0 : Int) : Option (((List Int) × Unit) × Unit) :=
 (jT x0 4294967296).bind fun t1 =>
 (aY (Wr .i64 (Int.tdiv t1.1.1 65536))).bind fun t2 =>
 (aY (Int.tmod t1.1.1 65536)).bind fun t3 =>
 bif (decide ((((List.length t2.1.1) + (List.length t3.1.1)) * 1) ≤ (1099511627776:Nat))) then
 some (((t2.1.1 ++ t3.1.1), ()), ())
 else none
def cA (x0 : ar) : Option (((List Int) × Unit) × Unit) :=
 (dh x0).bind fun t1 =>
 bif (!t1.1.1) then
 some ((([] : List Int), ()), ())
 else
 bif (decide (x0.1 = 4)) then
 (cJ x0.2.2.2.2.1).bind fun t2 =>
 some (t2.1, ())
 else
 (cJ x0.2.1).bind fun t3 =>
 (cJ x0.2.2.1).bind fun t4 =>
 bif (decide ((((List.length t3.1.1) + (List.length t4.1.1)) * 1) ≤ (1099511627776:Nat))) then
 (cJ x0.2.2.2.1).bind fun t5 =>
 bif (decide ((((List.length (t3.1.1 ++ t4.1.1)) + (List.length t5.1.1)) * 1) ≤ (1099511627776:Nat))) then
 (cJ x0.2.2.2.2.1).bind fun t6 =>
 bif (decide ((((List.length ((t3.1.1 ++ t4.1.1) ++ t5.1.1)) + (List.length t6.1.1)) * 1) ≤ (1099511627776:Nat))) then
 some (((((t3.1.1 ++ t4.1.1) ++ t5.1.1) ++ t6.1.1), ()), ())
 else none
 else none
 else none
def ig (rec : (Unit × ((List Int) × (Int × (Int × (Int × Unit))))) → Option ((Unit × (Int × Unit)))) (v : (Unit × ((List Int) × (Int × (Int × (Int × Unit)))))) : Option ((Unit × (Int × Unit))) :=
 bif (decide (v.2.2.2.2.1 < 4)) then
 bif ((decide (0 ≤ (Wr .i64 (v.2.2.1 + v.2.2.2.2.1)))) && (decide ((Wr .i64 (v.2.2.1 + v.2.2.2.2.1)) < (List.length v.2.1 : Int)))) then
 bif (decide ((Int.toNat (Wr .i64 (v.2.2.1 + v.2.2.2.2.1))) < (List.length v.2.1))) then
 rec ((), v.2.1, v.2.2.1, (Wr .i64 ((Wr .i64 (256 * v.2.2.2.1)) + (Wr .i64 (List.getD v.2.1 (Int.toNat (Wr .i64 (v.2.2.1 + v.2.2.2.2.1))) 0)))), (Wr .i64 (v.2.2.2.2.1 + 1)), ())
 else none
 else none
 else
 some ((), v.2.2.2.1, ())
def cH (k : Nat) (x0 : (List Int)) (x1 : Int) : Option ((Int × (Bool × Unit)) × Unit) :=
 bif (!(decide (x1 < 0))) then
 bif (decide ((Wr .i64 ((List.length x0 : Int) - 4)) < x1)) then
 some ((0, false, ()), ())
 else
 (iter (ig) k ((), x0, x1, 0, 0, ())).bind fun o1 =>
 some ((o1.2.1, true, ()), ())
 else
 some ((0, false, ()), ())
def fy (k : Nat) (x0 : (List Int)) : Option ((ar × (Bool × Unit)) × Unit) :=
 bif (decide ((List.length x0 : Int) = 4)) then
 (cH k x0 0).bind fun t1 =>
 some (((4, 0, 0, 0, t1.1.1, ()), true, ()), ())
 else
 bif (decide ((List.length x0 : Int) = 16)) then
 (cH k x0 0).bind fun t2 =>
 (cH k x0 4).bind fun t3 =>
 (cH k x0 8).bind fun t4 =>
 (cH k x0 12).bind fun t5 =>
 some (((6, t2.1.1, t3.1.1, t4.1.1, t5.1.1, ()), true, ()), ())
 else
 some (((0, 0, 0, 0, 0, ()), false, ()), ())
def gP (rec : (Unit × (ar × (ar × ((List Int) × (Int × (Int × (Int × Unit))))))) → Option ((Unit × (ar × (ar × ((List Int) × (Int × (Int × Unit)))))))) (v : (Unit × (ar × (ar × ((List Int) × (Int × (Int × (Int × Unit)))))))) : Option ((Unit × (ar × (ar × ((List Int) × (Int × (Int × Unit))))))) :=
 bif (decide (0 < v.2.2.2.2.2.2.1)) then
 rec ((), v.2.1, v.2.2.1, v.2.2.2.1, v.2.2.2.2.1, (Wr .i64 (Int.tdiv v.2.2.2.2.2.1 2)), (Wr .i64 (v.2.2.2.2.2.2.1 - 1)), ())
 else
 some ((), v.2.1, v.2.2.1, v.2.2.2.1, v.2.2.2.2.1, v.2.2.2.2.2.1, ())
def gQ (k : Nat) (rec : (Unit × (ar × (ar × ((List Int) × (Int × Unit))))) → Option ((Unit × (ar × ((List Int) × Unit))))) (v : (Unit × (ar × (ar × ((List Int) × (Int × Unit)))))) : Option ((Unit × (ar × ((List Int) × Unit)))) :=
 (ie v.2.1).bind fun t4 =>
 bif (decide (v.2.2.2.2.1 < t4.1.1)) then
 (iter (gP) k ((), v.2.1, v.2.2.1, v.2.2.2.1, v.2.2.2.2.1, 128, (Int.tmod v.2.2.2.2.1 8), ())).bind fun o5 =>
 bif ((decide (0 ≤ (Wr .i64 (Int.tdiv o5.2.2.2.2.1 8)))) && (decide ((Wr .i64 (Int.tdiv o5.2.2.2.2.1 8)) < (List.length o5.2.2.2.1 : Int)))) then
 bif (decide ((Int.toNat (Wr .i64 (Int.tdiv o5.2.2.2.2.1 8))) < (List.length o5.2.2.2.1))) then
 bif (!(decide (o5.2.2.2.2.2.1 = 0))) then
 bif (decide ((Int.tmod (Wr .i64 (Int.tdiv (Wr .i64 (List.getD o5.2.2.2.1 (Int.toNat (Wr .i64 (Int.tdiv o5.2.2.2.2.1 8))) 0)) o5.2.2.2.2.2.1)) 2) = 1)) then
 bif ((decide (0 ≤ (Wr .i64 (Int.tdiv o5.2.2.2.2.1 8)))) && (decide ((Wr .i64 (Int.tdiv o5.2.2.2.2.1 8)) < (List.length o5.2.2.2.1 : Int)))) then
 bif (decide ((Int.toNat (Wr .i64 (Int.tdiv o5.2.2.2.2.1 8))) < (List.length o5.2.2.2.1))) then
 bif ((decide (0 ≤ (Wr .i64 (Int.tdiv o5.2.2.2.2.1 8)))) && (decide ((Wr .i64 (Int.tdiv o5.2.2.2.2.1 8)) < (List.length o5.2.2.2.1 : Int)))) then
 bif (decide ((Int.toNat (Wr .i64 (Int.tdiv o5.2.2.2.2.1 8))) < (List.length o5.2.2.2.1))) then
 let y6 : (List Int) := (List.set o5.2.2.2.1 (Int.toNat (Wr .i64 (Int.tdiv o5.2.2.2.2.1 8))) (Wr .u8 ((List.getD o5.2.2.2.1 (Int.toNat (Wr .i64 (Int.tdiv o5.2.2.2.2.1 8))) 0) - (Wr .u8 o5.2.2.2.2.2.1))))
 rec ((), o5.2.1, o5.2.2.1, y6, (Wr .i64 (o5.2.2.2.2.1 + 1)), ())
 else none
 else none
 else none
 else none
 else
 rec ((), o5.2.1, o5.2.2.1, o5.2.2.2.1, (Wr .i64 (o5.2.2.2.2.1 + 1)), ())
 else none
 else none
 else none
 else
 some ((), v.2.2.1, v.2.2.2.1, ())
def lG (k : Nat) (x0 : ar) (x1 : Int) : Option ((ar × Unit) × Unit) :=
 (dh x0).bind fun t1 =>
 bif (!(!t1.1.1)) then
 bif (!(decide (x1 < 0))) then
 (ie x0).bind fun t2 =>
 bif (decide (t2.1.1 < x1)) then
 some (((0, 0, 0, 0, 0, ()), ()), ())
 else
 (cA x0).bind fun t3 =>
 (iter (gQ k) k ((), x0, (0, 0, 0, 0, 0, ()), t3.1.1, x1, ())).bind fun o4 =>
 (fy k o4.2.2.1).bind fun t5 =>
 some ((t5.1.1, ()), ())
 else
 some (((0, 0, 0, 0, 0, ()), ()), ())
 else
 some (((0, 0, 0, 0, 0, ()), ()), ())
def eP (k : Nat) (x0 : bx) : Option ((Bool × Unit) × Unit) :=
 (gl x0).bind fun t1 =>
 bif (!t1.1.1) then
 (dh x0.1).bind fun t2 =>
 bif t2.1.1 then
 bif (decide (0 ≤ x0.2.1)) then
 (ie x0.1).bind fun t3 =>
 bif (decide (x0.2.1 ≤ t3.1.1)) then
 (lG k x0.1 x0.2.1).bind fun t4 =>
 some ((((decide (t4.1.1.1 = x0.1.1)) && ((decide (t4.1.1.2.1 = x0.1.2.1)) && ((decide (t4.1.1.2.2.1 = x0.1.2.2.1)) && ((decide (t4.1.1.2.2.2.1 = x0.1.2.2.2.1)) && ((decide (t4.1.1.2.2.2.2.1 = x0.1.2.2.2.2.1)) && true))))), ()), ())
 else
 some ((false, ()), ())
 else
 some ((false, ()), ())
 else
 some ((false, ()), ())
 else
 some ((true, ()), ())
def jE (x0 : Int) (x1 : Int) : Option ((Bool × Unit) × Unit) :=
 bif (decide (0 ≤ x0)) then
 bif (decide (x0 ≤ x1)) then
 some (((decide (x1 ≤ 65535)), ()), ())
 else
 some ((false, ()), ())
 else
 some ((false, ()), ())
def gD (k : Nat) (x0 : bx) (x1 : bx) : Option ((Bool × Unit) × Unit) :=
 (eP k x0).bind fun t1 =>
 bif t1.1.1 then
 (eP k x1).bind fun t2 =>
 bif t2.1.1 then
 (gl x0).bind fun t3 =>
 bif (!t3.1.1) then
 (gl x1).bind fun t4 =>
 bif (!t4.1.1) then
 bif (decide (x0.1.1 = x1.1.1)) then
 some (((decide (x0.2.1 = x1.2.1)), ()), ())
 else
 some ((false, ()), ())
 else
 some ((false, ()), ())
 else
 some ((false, ()), ())
 else
 some ((false, ()), ())
 else
 some ((false, ()), ())
def bo (x0 : Int) (x1 : Int) : Option ((Bool × Unit) × Unit) :=
 bif (decide (0 ≤ x0)) then
 some (((decide (x0 ≤ x1)), ()), ())
 else
 some ((false, ()), ())
abbrev js (x0 : aV) : Option ((Bool × Unit) × Unit) :=
 bif (decide (x0.1 = 5)) then
 (bo x0.2.2.2.2.2.2.1 63).bind fun t7 =>
 some (t7.1, ())
 else
 bif (decide (x0.1 = 7)) then
 bif (decide (1 ≤ x0.2.2.2.2.2.2.1)) then
 some (((decide (x0.2.2.2.2.2.2.1 ≤ 4)), ()), ())
 else
 some ((false, ()), ())
 else
 some ((true, ()), ())
abbrev eV (k : Nat) (x0 : aV) : Option ((Bool × Unit) × Unit) :=
 bif (decide (x0.1 = 1)) then
 (eP k x0.2.1).bind fun t3 =>
 bif t3.1.1 then
 (eP k x0.2.2.1).bind fun t4 =>
 bif t4.1.1 then
 bif (decide ((-1) ≤ x0.2.2.2.1)) then
 bif (decide (x0.2.2.2.1 ≤ 255)) then
 (jE x0.2.2.2.2.1 x0.2.2.2.2.2.1).bind fun t5 =>
 some (t5.1, ())
 else
 some ((false, ()), ())
 else
 some ((false, ()), ())
 else
 some ((false, ()), ())
 else
 some ((false, ()), ())
 else
 bif (decide (x0.1 = 2)) then
 bif (decide (x0.1 = 2)) then
 (gD k x0.2.1 x0.2.2.1).bind fun t6 =>
 some (t6.1, ())
 else
 js x0
 else
 bif (decide (x0.1 = 3)) then
 (gD k x0.2.1 x0.2.2.1).bind fun t8 =>
 some (t8.1, ())
 else
 js x0
abbrev fZ (k : Nat) (x0 : aV) : Option ((Bool × Unit) × Unit) :=
 bif (!(decide (x0.1 = 1))) then
 bif (!(decide (x0.1 = 3))) then
 (gl x0.2.1).bind fun t1 =>
 bif (!(!t1.1.1)) then
 (gl x0.2.2.1).bind fun t2 =>
 bif (!t2.1.1) then
 some ((false, ()), ())
 else
 eV k x0
 else
 some ((false, ()), ())
 else
 eV k x0
 else
 eV k x0
abbrev jt (k : Nat) (x0 : aV) : Option ((Bool × Unit) × Unit) :=
 bif (!(decide (x0.1 = 7))) then
 bif (!(!(decide (x0.2.2.2.2.2.2.1 = 0)))) then
 fZ k x0
 else
 some ((false, ()), ())
 else
 fZ k x0
abbrev ga (k : Nat) (x0 : aV) : Option ((Bool × Unit) × Unit) :=
 bif (!(decide (x0.1 = 1))) then
 eV k x0
 else
 eV k x0
abbrev ju (k : Nat) (x0 : aV) : Option ((Bool × Unit) × Unit) :=
 bif (!(decide (x0.1 = 7))) then
 bif (!(!(decide (x0.2.2.2.2.2.2.1 = 0)))) then
 ga k x0
 else
 some ((false, ()), ())
 else
 ga k x0
def jF (k : Nat) (x0 : aV) : Option ((Bool × Unit) × Unit) :=
 bif (!(decide (x0.1 = 2))) then
 bif (!(decide (x0.1 = 5))) then
 bif (!(decide (x0.1 < 1))) then
 bif (decide (7 < x0.1)) then
 some ((false, ()), ())
 else
 bif (!(decide (x0.1 = 1))) then
 bif (!(!(decide (x0.2.2.2.1 = 0)))) then
 bif (!(!(decide (x0.2.2.2.2.1 = 0)))) then
 bif (!(!(decide (x0.2.2.2.2.2.1 = 0)))) then
 jt k x0
 else
 some ((false, ()), ())
 else
 some ((false, ()), ())
 else
 some ((false, ()), ())
 else
 jt k x0
 else
 some ((false, ()), ())
 else
 bif (!(decide (x0.1 < 1))) then
 bif (decide (7 < x0.1)) then
 some ((false, ()), ())
 else
 bif (!(decide (x0.1 = 1))) then
 bif (!(!(decide (x0.2.2.2.1 = 0)))) then
 bif (!(!(decide (x0.2.2.2.2.1 = 0)))) then
 bif (!(!(decide (x0.2.2.2.2.2.1 = 0)))) then
 fZ k x0
 else
 some ((false, ()), ())
 else
 some ((false, ()), ())
 else
 some ((false, ()), ())
 else
 fZ k x0
 else
 some ((false, ()), ())
 else
 bif (!(decide (x0.1 = 5))) then
 bif (!(decide (x0.1 < 1))) then
 bif (decide (7 < x0.1)) then
 some ((false, ()), ())
 else
 bif (!(decide (x0.1 = 1))) then
 bif (!(!(decide (x0.2.2.2.1 = 0)))) then
 bif (!(!(decide (x0.2.2.2.2.1 = 0)))) then
 bif (!(!(decide (x0.2.2.2.2.2.1 = 0)))) then
 ju k x0
 else
 some ((false, ()), ())
 else
 some ((false, ()), ())
 else
 some ((false, ()), ())
 else
 ju k x0
 else
 some ((false, ()), ())
 else
 bif (!(decide (x0.1 < 1))) then
 bif (decide (7 < x0.1)) then
 some ((false, ()), ())
 else
 bif (!(decide (x0.1 = 1))) then
 bif (!(!(decide (x0.2.2.2.1 = 0)))) then
 bif (!(!(decide (x0.2.2.2.2.1 = 0)))) then
 bif (!(!(decide (x0.2.2.2.2.2.1 = 0)))) then
 ga k x0
 else
 some ((false, ()), ())
 else
 some ((false, ()), ())
 else
 some ((false, ()), ())
 else
 ga k x0
 else
 some ((false, ()), ())
def RZ (k : Nat) (rec : (Unit × ((List aV) × (Int × Unit))) → Option ((Unit × (Bool × Unit)) ⊕ (Unit × Unit))) (v : (Unit × ((List aV) × (Int × Unit)))) : Option ((Unit × (Bool × Unit)) ⊕ (Unit × Unit)) :=
 bif (decide (v.2.2.1 < (List.length v.2.1 : Int))) then
 bif ((decide (0 ≤ v.2.2.1)) && (decide (v.2.2.1 < (List.length v.2.1 : Int)))) then
 bif (decide ((Int.toNat v.2.2.1) < (List.length v.2.1))) then
 (jF k (List.getD v.2.1 (Int.toNat v.2.2.1) vJ)).bind fun t1 =>
 bif (!t1.1.1) then
 some (Sum.inl ((), false, ()))
 else
 rec ((), v.2.1, (Wr .i64 (v.2.2.1 + 1)), ())
 else none
 else none
 else
 some (Sum.inr ((), ()))
def Sp (k : Nat) (x0 : (List aV)) : Option ((Bool × Unit) × Unit) :=
 bif (decide (8 < (List.length x0 : Int))) then
 some ((false, ()), ())
 else
 (iter (RZ k) k ((), x0, 0, ())).bind fun o1 =>
 Sum.elim (fun a2 =>
 some (a2.2, ()))
 (fun b3 =>
 some ((true, ()), ())) o1
def bJ (x0 : aj) : Option ((ar × Unit) × Unit) :=
 bif (decide (x0.1 = 4)) then
 some ((x0.2.2.1.2.2.2.2.2.2.2.1, ()), ())
 else
 some ((x0.2.2.2.1.2.2.2.2.1, ()), ())
def bK (x0 : aj) : Option ((ar × Unit) × Unit) :=
 bif (decide (x0.1 = 4)) then
 some ((x0.2.2.1.2.2.2.2.2.2.2.2.1, ()), ())
 else
 some ((x0.2.2.2.1.2.2.2.2.2.1, ()), ())
def ij (x0 : ar) (x1 : ar) : Option ((Bool × Unit) × Unit) :=
 (dh x0).bind fun t1 =>
 bif t1.1.1 then
 (dh x1).bind fun t2 =>
 bif t2.1.1 then
 some (((decide (x0.1 = x1.1)), ()), ())
 else
 some ((false, ()), ())
 else
 some ((false, ()), ())
def aM (x0 : aF) : Option ((Int × Unit) × Unit) :=
 bif (decide (x0.1 = 0)) then
 some (((List.length x0.2.2.2.2.2.2.2.2.2.2.2.2.2.1 : Int), ()), ())
 else
 bif (decide (x0.1 = 1)) then
 some (((Wr .i64 ((Wr .i64 (20 + (List.length x0.2.2.2.2.2.2.2.2.2.2.2.2.1 : Int))) + (List.length x0.2.2.2.2.2.2.2.2.2.2.2.2.2.1 : Int))), ()), ())
 else
 bif (decide (x0.1 = 2)) then
 bif (decide (x0.1 = 2)) then
 some (((Wr .i64 (8 + (List.length x0.2.2.2.2.2.2.2.2.2.2.2.2.2.1 : Int))), ()), ())
 else
 some (((-1), ()), ())
 else
 bif (decide (x0.1 = 3)) then
 some (((Wr .i64 (8 + (List.length x0.2.2.2.2.2.2.2.2.2.2.2.2.2.1 : Int))), ()), ())
 else
 some (((-1), ()), ())
abbrev cj (x0 : aF) (x1 : Int) : Option ((Bool × Unit) × Unit) :=
 bif x0.2.2.2.2.2.2.2.2.2.2.2.1 then
 bif (!(!(decide (x0.1 = 2)))) then
 bif (!(decide (x1 = 4))) then
 some ((false, ()), ())
 else
 (aM x0).bind fun t11 =>
 bif (decide (0 ≤ t11.1.1)) then
 some (((decide (t11.1.1 ≤ 1500)), ()), ())
 else
 some ((false, ()), ())
 else
 some ((false, ()), ())
 else
 (aM x0).bind fun t12 =>
 bif (decide (0 ≤ t12.1.1)) then
 some (((decide (t12.1.1 ≤ 1500)), ()), ())
 else
 some ((false, ()), ())
abbrev cm (x0 : aF) (x1 : Int) : Option ((Bool × Unit) × Unit) :=
 bif (decide (x0.1 = 3)) then
 (bo x0.2.2.2.2.2.2.2.2.1 255).bind fun t8 =>
 bif (!(!t8.1.1)) then
 (bo x0.2.2.2.2.2.2.2.2.2.1 255).bind fun t9 =>
 bif (!(!t9.1.1)) then
 (dv x0.2.2.2.2.2.2.2.2.2.2.1).bind fun t10 =>
 bif (!t10.1.1) then
 some ((false, ()), ())
 else
 cj x0 x1
 else
 some ((false, ()), ())
 else
 some ((false, ()), ())
 else
 bif (!(!(decide (x0.2.2.2.2.2.2.2.2.1 = 0)))) then
 bif (!(!(decide (x0.2.2.2.2.2.2.2.2.2.1 = 0)))) then
 bif (!(decide (x0.2.2.2.2.2.2.2.2.2.2.1 = 0))) then
 some ((false, ()), ())
 else
 cj x0 x1
 else
 some ((false, ()), ())
 else
 some ((false, ()), ())
abbrev bW (x0 : aF) (x1 : Int) : Option ((Bool × Unit) × Unit) :=
 bif (decide (x0.1 = 1)) then
 (dv x0.2.2.2.1).bind fun t3 =>
 bif (!(!t3.1.1)) then
 (dv x0.2.2.2.2.1).bind fun t4 =>
 bif (!(!t4.1.1)) then
 (bo x0.2.2.2.2.2.1 4095).bind fun t5 =>
 bif (!(!t5.1.1)) then
 (bo x0.2.2.2.2.2.2.1 65535).bind fun t6 =>
 bif (!(!t6.1.1)) then
 (bo x0.2.2.2.2.2.2.2.1 65535).bind fun t7 =>
 bif (!(!t7.1.1)) then
 bif (!(decide (40 < (List.length x0.2.2.2.2.2.2.2.2.2.2.2.2.1 : Int)))) then
 bif (!(decide ((Int.tmod (List.length x0.2.2.2.2.2.2.2.2.2.2.2.2.1 : Int) 4) = 0))) then
 some ((false, ()), ())
 else
 cm x0 x1
 else
 some ((false, ()), ())
 else
 some ((false, ()), ())
 else
 some ((false, ()), ())
 else
 some ((false, ()), ())
 else
 some ((false, ()), ())
 else
 some ((false, ()), ())
 else
 bif (!(!(decide (x0.2.2.2.1 = 0)))) then
 bif (!(!(decide (x0.2.2.2.2.1 = 0)))) then
 bif (!(!(decide (x0.2.2.2.2.2.1 = 0)))) then
 bif (!(!(decide (x0.2.2.2.2.2.2.1 = 0)))) then
 bif (!(!(decide (x0.2.2.2.2.2.2.2.1 = 0)))) then
 bif (!(decide ((List.length x0.2.2.2.2.2.2.2.2.2.2.2.2.1 : Int) = 0))) then
 some ((false, ()), ())
 else
 cm x0 x1
 else
 some ((false, ()), ())
 else
 some ((false, ()), ())
 else
 some ((false, ()), ())
 else
 some ((false, ()), ())
 else
 some ((false, ()), ())
abbrev cq (x0 : aF) (x1 : Int) : Option ((Bool × Unit) × Unit) :=
 bif (!(decide (x0.1 = 1))) then
 (bo x0.2.1 65535).bind fun t1 =>
 bif (!(!t1.1.1)) then
 (bo x0.2.2.1 65535).bind fun t2 =>
 bif (!(!t2.1.1)) then
 bif (!(decide (x0.1 = 2))) then
 bif (!(!(decide (x0.2.1 = 0)))) then
 bif (!(decide (x0.2.2.1 = 0))) then
 some ((false, ()), ())
 else
 bW x0 x1
 else
 some ((false, ()), ())
 else
 bW x0 x1
 else
 some ((false, ()), ())
 else
 some ((false, ()), ())
 else
 (bo x0.2.1 65535).bind fun t41 =>
 bif (!(!t41.1.1)) then
 (bo x0.2.2.1 65535).bind fun t42 =>
 bif (!(!t42.1.1)) then
 bW x0 x1
 else
 some ((false, ()), ())
 else
 some ((false, ()), ())
def bq (x0 : aF) (x1 : Int) : Option ((Bool × Unit) × Unit) :=
 bif (!(decide (x1 = 4))) then
 bif (!(decide (x1 = 6))) then
 some ((false, ()), ())
 else
 cq x0 x1
 else
 cq x0 x1
def jc (x0 : Int) : Option ((Bool × Unit) × Unit) :=
 bif (decide (0 ≤ x0)) then
 some (((decide (x0 ≤ 65535)), ()), ())
 else
 some ((false, ()), ())
def fz (x0 : Int) (x1 : Int) : Option ((Int × Unit) × Unit) :=
 (jc x0).bind fun t1 =>
 bif (!(!t1.1.1)) then
 (jc x1).bind fun t2 =>
 bif (!t2.1.1) then
 some (((-1), ()), ())
 else
 bif (decide (65535 < (Wr .i64 (x0 + x1)))) then
 some (((Wr .i64 ((Wr .i64 (x0 + x1)) - 65535)), ()), ())
 else
 some (((Wr .i64 (x0 + x1)), ()), ())
 else
 some (((-1), ()), ())
def ez (rec : (Unit × ((List Int) × (Int × (Int × Unit)))) → Option ((Unit × (Int × Unit)))) (v : (Unit × ((List Int) × (Int × (Int × Unit))))) : Option ((Unit × (Int × Unit))) :=
 bif (decide (v.2.2.2.1 < (List.length v.2.1 : Int))) then
 bif ((decide (0 ≤ v.2.2.2.1)) && (decide (v.2.2.2.1 < (List.length v.2.1 : Int)))) then
 bif (decide ((Int.toNat v.2.2.2.1) < (List.length v.2.1))) then
 bif (decide ((Wr .i64 (v.2.2.2.1 + 1)) < (List.length v.2.1 : Int))) then
 bif ((decide (0 ≤ (Wr .i64 (v.2.2.2.1 + 1)))) && (decide ((Wr .i64 (v.2.2.2.1 + 1)) < (List.length v.2.1 : Int)))) then
 bif (decide ((Int.toNat (Wr .i64 (v.2.2.2.1 + 1))) < (List.length v.2.1))) then
 (fz v.2.2.1 (Wr .i64 ((Wr .i64 (256 * (Wr .i64 (List.getD v.2.1 (Int.toNat v.2.2.2.1) 0)))) + (Wr .i64 (List.getD v.2.1 (Int.toNat (Wr .i64 (v.2.2.2.1 + 1))) 0))))).bind fun t1 =>
 rec ((), v.2.1, t1.1.1, (Wr .i64 (v.2.2.2.1 + 2)), ())
 else none
 else none
 else
 (fz v.2.2.1 (Wr .i64 (256 * (Wr .i64 (List.getD v.2.1 (Int.toNat v.2.2.2.1) 0))))).bind fun t2 =>
 rec ((), v.2.1, t2.1.1, (Wr .i64 (v.2.2.2.1 + 2)), ())
 else none
 else none
 else
 some ((), v.2.2.1, ())
def dw (k : Nat) (x0 : (List Int)) : Option ((Int × Unit) × Unit) :=
 bif (decide (2000 < (List.length x0 : Int))) then
 some (((-1), ()), ())
 else
 (iter (ez) k ((), x0, 0, 0, ())).bind fun o1 =>
 some (o1.2, ())
def fW (k : Nat) (x0 : ar) (x1 : ar) (x2 : Int) (x3 : Int) : Option ((Int × Unit) × Unit) :=
 (ij x0 x1).bind fun t1 =>
 bif (!(!t1.1.1)) then
 (bo x2 255).bind fun t2 =>
 bif (!(!t2.1.1)) then
 (bo x3 1500).bind fun t3 =>
 bif (!t3.1.1) then
 some (((-1), ()), ())
 else
 (cA x0).bind fun t4 =>
 (cA x1).bind fun t5 =>
 bif (decide ((((List.length t4.1.1) + (List.length t5.1.1)) * 1) ≤ (1099511627776:Nat))) then
 bif (decide (x0.1 = 4)) then
 bif (decide ((((List.length (t4.1.1 ++ t5.1.1)) + (2:Nat)) * 1) ≤ (1099511627776:Nat))) then
 (aY x3).bind fun t6 =>
 bif (decide ((((List.length ((t4.1.1 ++ t5.1.1) ++ ([0, (Wr .u8 x2)] : List Int))) + (List.length t6.1.1)) * 1) ≤ (1099511627776:Nat))) then
 (dw k (((t4.1.1 ++ t5.1.1) ++ ([0, (Wr .u8 x2)] : List Int)) ++ t6.1.1)).bind fun t7 =>
 some (t7.1, ())
 else none
 else none
 else
 (cJ x3).bind fun t8 =>
 bif (decide ((((List.length (t4.1.1 ++ t5.1.1)) + (List.length t8.1.1)) * 1) ≤ (1099511627776:Nat))) then
 bif (decide ((((List.length ((t4.1.1 ++ t5.1.1) ++ t8.1.1)) + (4:Nat)) * 1) ≤ (1099511627776:Nat))) then
 (dw k (((t4.1.1 ++ t5.1.1) ++ t8.1.1) ++ ([0, 0, 0, (Wr .u8 x2)] : List Int))).bind fun t9 =>
 some (t9.1, ())
 else none
 else none
 else none
 else
 some (((-1), ()), ())
 else
 some (((-1), ()), ())
abbrev cX (x0 : aF) (x1 : Int) : Option (((List Int) × Unit) × Unit) :=
 (aY x0.2.1).bind fun t1 =>
 (aY x0.2.2.1).bind fun t2 =>
 bif (decide ((((List.length t1.1.1) + (List.length t2.1.1)) * 1) ≤ (1099511627776:Nat))) then
 bif (decide (x0.1 = 1)) then
 (cJ x0.2.2.2.1).bind fun t3 =>
 bif (decide ((((List.length (t1.1.1 ++ t2.1.1)) + (List.length t3.1.1)) * 1) ≤ (1099511627776:Nat))) then
 (cJ x0.2.2.2.2.1).bind fun t4 =>
 bif (decide ((((List.length ((t1.1.1 ++ t2.1.1) ++ t3.1.1)) + (List.length t4.1.1)) * 1) ≤ (1099511627776:Nat))) then
 (aY (Wr .i64 ((Wr .i64 (4096 * (Wr .i64 (5 + (Wr .i64 (Int.tdiv (List.length x0.2.2.2.2.2.2.2.2.2.2.2.2.1 : Int) 4)))))) + x0.2.2.2.2.2.1))).bind fun t5 =>
 bif (decide ((((List.length (((t1.1.1 ++ t2.1.1) ++ t3.1.1) ++ t4.1.1)) + (List.length t5.1.1)) * 1) ≤ (1099511627776:Nat))) then
 (aY x0.2.2.2.2.2.2.1).bind fun t6 =>
 bif (decide ((((List.length ((((t1.1.1 ++ t2.1.1) ++ t3.1.1) ++ t4.1.1) ++ t5.1.1)) + (List.length t6.1.1)) * 1) ≤ (1099511627776:Nat))) then
 (aY x1).bind fun t7 =>
 bif (decide ((((List.length (((((t1.1.1 ++ t2.1.1) ++ t3.1.1) ++ t4.1.1) ++ t5.1.1) ++ t6.1.1)) + (List.length t7.1.1)) * 1) ≤ (1099511627776:Nat))) then
 (aY x0.2.2.2.2.2.2.2.1).bind fun t8 =>
 bif (decide ((((List.length ((((((t1.1.1 ++ t2.1.1) ++ t3.1.1) ++ t4.1.1) ++ t5.1.1) ++ t6.1.1) ++ t7.1.1)) + (List.length t8.1.1)) * 1) ≤ (1099511627776:Nat))) then
 bif (decide ((((List.length (((((((t1.1.1 ++ t2.1.1) ++ t3.1.1) ++ t4.1.1) ++ t5.1.1) ++ t6.1.1) ++ t7.1.1) ++ t8.1.1)) + (List.length x0.2.2.2.2.2.2.2.2.2.2.2.2.1)) * 1) ≤ (1099511627776:Nat))) then
 bif (decide ((((List.length ((((((((t1.1.1 ++ t2.1.1) ++ t3.1.1) ++ t4.1.1) ++ t5.1.1) ++ t6.1.1) ++ t7.1.1) ++ t8.1.1) ++ x0.2.2.2.2.2.2.2.2.2.2.2.2.1)) + (List.length x0.2.2.2.2.2.2.2.2.2.2.2.2.2.1)) * 1) ≤ (1099511627776:Nat))) then
 some (((((((((((t1.1.1 ++ t2.1.1) ++ t3.1.1) ++ t4.1.1) ++ t5.1.1) ++ t6.1.1) ++ t7.1.1) ++ t8.1.1) ++ x0.2.2.2.2.2.2.2.2.2.2.2.2.1) ++ x0.2.2.2.2.2.2.2.2.2.2.2.2.2.1), ()), ())
 else none
 else none
 else none
 else none
 else none
 else none
 else none
 else none
 else
 bif (decide (x0.1 = 2)) then
 (aM x0).bind fun t9 =>
 (aY t9.1.1).bind fun t10 =>
 bif (decide ((((List.length (t1.1.1 ++ t2.1.1)) + (List.length t10.1.1)) * 1) ≤ (1099511627776:Nat))) then
 (aY x1).bind fun t11 =>
 bif (decide ((((List.length ((t1.1.1 ++ t2.1.1) ++ t10.1.1)) + (List.length t11.1.1)) * 1) ≤ (1099511627776:Nat))) then
 bif (decide ((((List.length (((t1.1.1 ++ t2.1.1) ++ t10.1.1) ++ t11.1.1)) + (List.length x0.2.2.2.2.2.2.2.2.2.2.2.2.2.1)) * 1) ≤ (1099511627776:Nat))) then
 some ((((((t1.1.1 ++ t2.1.1) ++ t10.1.1) ++ t11.1.1) ++ x0.2.2.2.2.2.2.2.2.2.2.2.2.2.1), ()), ())
 else none
 else none
 else none
 else
 bif (decide (x0.1 = 3)) then
 bif (decide ((((List.length (t1.1.1 ++ t2.1.1)) + (2:Nat)) * 1) ≤ (1099511627776:Nat))) then
 (aY x1).bind fun t12 =>
 bif (decide ((((List.length ((t1.1.1 ++ t2.1.1) ++ ([(Wr .u8 x0.2.2.2.2.2.2.2.2.1), (Wr .u8 x0.2.2.2.2.2.2.2.2.2.1)] : List Int))) + (List.length t12.1.1)) * 1) ≤ (1099511627776:Nat))) then
 (cJ x0.2.2.2.2.2.2.2.2.2.2.1).bind fun t13 =>
 bif (decide ((((List.length (((t1.1.1 ++ t2.1.1) ++ ([(Wr .u8 x0.2.2.2.2.2.2.2.2.1), (Wr .u8 x0.2.2.2.2.2.2.2.2.2.1)] : List Int)) ++ t12.1.1)) + (List.length t13.1.1)) * 1) ≤ (1099511627776:Nat))) then
 bif (decide ((((List.length ((((t1.1.1 ++ t2.1.1) ++ ([(Wr .u8 x0.2.2.2.2.2.2.2.2.1), (Wr .u8 x0.2.2.2.2.2.2.2.2.2.1)] : List Int)) ++ t12.1.1) ++ t13.1.1)) + (List.length x0.2.2.2.2.2.2.2.2.2.2.2.2.2.1)) * 1) ≤ (1099511627776:Nat))) then
 some (((((((t1.1.1 ++ t2.1.1) ++ ([(Wr .u8 x0.2.2.2.2.2.2.2.2.1), (Wr .u8 x0.2.2.2.2.2.2.2.2.2.1)] : List Int)) ++ t12.1.1) ++ t13.1.1) ++ x0.2.2.2.2.2.2.2.2.2.2.2.2.2.1), ()), ())
 else none
 else none
 else none
 else none
 else
 bif (decide ((((List.length (t1.1.1 ++ t2.1.1)) + (List.length x0.2.2.2.2.2.2.2.2.2.2.2.2.2.1)) * 1) ≤ (1099511627776:Nat))) then
 some ((((t1.1.1 ++ t2.1.1) ++ x0.2.2.2.2.2.2.2.2.2.2.2.2.2.1), ()), ())
 else none
 else none
def bm (x0 : aF) (x1 : Int) : Option (((List Int) × Unit) × Unit) :=
 bif (!(decide (x0.1 = 1))) then
 bif (decide (x0.1 = 2)) then
 cX x0 x1
 else
 bif (decide (x0.1 = 1)) then
 (cJ x0.2.2.2.1).bind fun t14 =>
 bif (decide ((((0:Nat) + (List.length t14.1.1)) * 1) ≤ (1099511627776:Nat))) then
 (cJ x0.2.2.2.2.1).bind fun t15 =>
 bif (decide ((((List.length t14.1.1) + (List.length t15.1.1)) * 1) ≤ (1099511627776:Nat))) then
 (aY (Wr .i64 ((Wr .i64 (4096 * (Wr .i64 (5 + (Wr .i64 (Int.tdiv (List.length x0.2.2.2.2.2.2.2.2.2.2.2.2.1 : Int) 4)))))) + x0.2.2.2.2.2.1))).bind fun t16 =>
 bif (decide ((((List.length (t14.1.1 ++ t15.1.1)) + (List.length t16.1.1)) * 1) ≤ (1099511627776:Nat))) then
 (aY x0.2.2.2.2.2.2.1).bind fun t17 =>
 bif (decide ((((List.length ((t14.1.1 ++ t15.1.1) ++ t16.1.1)) + (List.length t17.1.1)) * 1) ≤ (1099511627776:Nat))) then
 (aY x1).bind fun t18 =>
 bif (decide ((((List.length (((t14.1.1 ++ t15.1.1) ++ t16.1.1) ++ t17.1.1)) + (List.length t18.1.1)) * 1) ≤ (1099511627776:Nat))) then
 (aY x0.2.2.2.2.2.2.2.1).bind fun t19 =>
 bif (decide ((((List.length ((((t14.1.1 ++ t15.1.1) ++ t16.1.1) ++ t17.1.1) ++ t18.1.1)) + (List.length t19.1.1)) * 1) ≤ (1099511627776:Nat))) then
 bif (decide ((((List.length (((((t14.1.1 ++ t15.1.1) ++ t16.1.1) ++ t17.1.1) ++ t18.1.1) ++ t19.1.1)) + (List.length x0.2.2.2.2.2.2.2.2.2.2.2.2.1)) * 1) ≤ (1099511627776:Nat))) then
 bif (decide ((((List.length ((((((t14.1.1 ++ t15.1.1) ++ t16.1.1) ++ t17.1.1) ++ t18.1.1) ++ t19.1.1) ++ x0.2.2.2.2.2.2.2.2.2.2.2.2.1)) + (List.length x0.2.2.2.2.2.2.2.2.2.2.2.2.2.1)) * 1) ≤ (1099511627776:Nat))) then
 some (((((((((t14.1.1 ++ t15.1.1) ++ t16.1.1) ++ t17.1.1) ++ t18.1.1) ++ t19.1.1) ++ x0.2.2.2.2.2.2.2.2.2.2.2.2.1) ++ x0.2.2.2.2.2.2.2.2.2.2.2.2.2.1), ()), ())
 else none
 else none
 else none
 else none
 else none
 else none
 else none
 else none
 else
 bif (decide (x0.1 = 2)) then
 (aM x0).bind fun t20 =>
 (aY t20.1.1).bind fun t21 =>
 bif (decide ((((0:Nat) + (List.length t21.1.1)) * 1) ≤ (1099511627776:Nat))) then
 (aY x1).bind fun t22 =>
 bif (decide ((((List.length t21.1.1) + (List.length t22.1.1)) * 1) ≤ (1099511627776:Nat))) then
 bif (decide ((((List.length (t21.1.1 ++ t22.1.1)) + (List.length x0.2.2.2.2.2.2.2.2.2.2.2.2.2.1)) * 1) ≤ (1099511627776:Nat))) then
 some ((((t21.1.1 ++ t22.1.1) ++ x0.2.2.2.2.2.2.2.2.2.2.2.2.2.1), ()), ())
 else none
 else none
 else none
 else
 bif (decide (x0.1 = 3)) then
 (aY x1).bind fun t23 =>
 bif (decide ((((2:Nat) + (List.length t23.1.1)) * 1) ≤ (1099511627776:Nat))) then
 (cJ x0.2.2.2.2.2.2.2.2.2.2.1).bind fun t24 =>
 bif (decide ((((List.length (([(Wr .u8 x0.2.2.2.2.2.2.2.2.1), (Wr .u8 x0.2.2.2.2.2.2.2.2.2.1)] : List Int) ++ t23.1.1)) + (List.length t24.1.1)) * 1) ≤ (1099511627776:Nat))) then
 bif (decide ((((List.length ((([(Wr .u8 x0.2.2.2.2.2.2.2.2.1), (Wr .u8 x0.2.2.2.2.2.2.2.2.2.1)] : List Int) ++ t23.1.1) ++ t24.1.1)) + (List.length x0.2.2.2.2.2.2.2.2.2.2.2.2.2.1)) * 1) ≤ (1099511627776:Nat))) then
 some (((((([(Wr .u8 x0.2.2.2.2.2.2.2.2.1), (Wr .u8 x0.2.2.2.2.2.2.2.2.2.1)] : List Int) ++ t23.1.1) ++ t24.1.1) ++ x0.2.2.2.2.2.2.2.2.2.2.2.2.2.1), ()), ())
 else none
 else none
 else none
 else
 bif (decide ((((0:Nat) + (List.length x0.2.2.2.2.2.2.2.2.2.2.2.2.2.1)) * 1) ≤ (1099511627776:Nat))) then
 some (x0.2.2.2.2.2.2.2.2.2.2.2.2.2, ())
 else none
 else
 cX x0 x1
def ba (k : Nat) (x0 : aF) (x1 : ar) (x2 : ar) : Option ((Int × Unit) × Unit) :=
 (ij x1 x2).bind fun t1 =>
 bif (!(!t1.1.1)) then
 (bq x0 x1.1).bind fun t2 =>
 bif (!t2.1.1) then
 some (((-1), ()), ())
 else
 bif (!(decide (x0.1 = 0))) then
 bif x0.2.2.2.2.2.2.2.2.2.2.2.1 then
 some ((0, ()), ())
 else
 bif (decide (x0.1 = 1)) then
 (aM x0).bind fun t3 =>
 (fW k x1 x2 6 t3.1.1).bind fun t4 =>
 (bm x0 0).bind fun t5 =>
 (dw k t5.1.1).bind fun t6 =>
 (fz t4.1.1 t6.1.1).bind fun t7 =>
 bif (decide ((Wr .i64 (65535 - t7.1.1)) = 0)) then
 bif (decide (x0.1 = 2)) then
 some ((65535, ()), ())
 else
 some (((Wr .i64 (65535 - t7.1.1)), ()), ())
 else
 some (((Wr .i64 (65535 - t7.1.1)), ()), ())
 else
 bif (decide (x0.1 = 2)) then
 (aM x0).bind fun t8 =>
 (fW k x1 x2 17 t8.1.1).bind fun t9 =>
 (bm x0 0).bind fun t10 =>
 (dw k t10.1.1).bind fun t11 =>
 (fz t9.1.1 t11.1.1).bind fun t12 =>
 bif (decide ((Wr .i64 (65535 - t12.1.1)) = 0)) then
 bif (decide (x0.1 = 2)) then
 some ((65535, ()), ())
 else
 some (((Wr .i64 (65535 - t12.1.1)), ()), ())
 else
 some (((Wr .i64 (65535 - t12.1.1)), ()), ())
 else
 bif (decide (x1.1 = 6)) then
 (aM x0).bind fun t13 =>
 (fW k x1 x2 58 t13.1.1).bind fun t14 =>
 (bm x0 0).bind fun t15 =>
 (dw k t15.1.1).bind fun t16 =>
 (fz t14.1.1 t16.1.1).bind fun t17 =>
 bif (decide ((Wr .i64 (65535 - t17.1.1)) = 0)) then
 bif (decide (x0.1 = 2)) then
 some ((65535, ()), ())
 else
 some (((Wr .i64 (65535 - t17.1.1)), ()), ())
 else
 some (((Wr .i64 (65535 - t17.1.1)), ()), ())
 else
 (bm x0 0).bind fun t18 =>
 (dw k t18.1.1).bind fun t19 =>
 (fz 0 t19.1.1).bind fun t20 =>
 bif (decide ((Wr .i64 (65535 - t20.1.1)) = 0)) then
 bif (decide (x0.1 = 2)) then
 some ((65535, ()), ())
 else
 some (((Wr .i64 (65535 - t20.1.1)), ()), ())
 else
 some (((Wr .i64 (65535 - t20.1.1)), ()), ())
 else
 some ((0, ()), ())
 else
 some (((-1), ()), ())
def gx (k : Nat) (x0 : aF) (x1 : ar) (x2 : ar) : Option (((List Int) × Unit) × Unit) :=
 (ba k x0 x1 x2).bind fun t1 =>
 bif (decide (t1.1.1 < 0)) then
 some ((([] : List Int), ()), ())
 else
 (bm x0 t1.1.1).bind fun t2 =>
 some (t2.1, ())
def db (x0 : Int) (x1 : Int) : Option ((Int × Unit) × Unit) :=
 (bo x0 255).bind fun t1 =>
 bif (!(!t1.1.1)) then
 bif (!(decide (x1 = 4))) then
 bif (!(decide (x1 = 6))) then
 some (((-1), ()), ())
 else
 bif (decide (x0 = 6)) then
 some ((1, ()), ())
 else
 bif (decide (x0 = 17)) then
 some ((2, ()), ())
 else
 bif (decide (x0 = 1)) then
 bif (!(decide (x1 = 4))) then
 bif (decide (x0 = 58)) then
 bif (decide (x1 = 6)) then
 some ((3, ()), ())
 else
 some ((0, ()), ())
 else
 some ((0, ()), ())
 else
 some ((3, ()), ())
 else
 bif (decide (x0 = 58)) then
 bif (decide (x1 = 6)) then
 some ((3, ()), ())
 else
 some ((0, ()), ())
 else
 some ((0, ()), ())
 else
 bif (decide (x0 = 6)) then
 some ((1, ()), ())
 else
 bif (decide (x0 = 17)) then
 some ((2, ()), ())
 else
 bif (decide (x0 = 1)) then
 bif (!(decide (x1 = 4))) then
 bif (decide (x0 = 58)) then
 bif (decide (x1 = 6)) then
 some ((3, ()), ())
 else
 some ((0, ()), ())
 else
 some ((0, ()), ())
 else
 some ((3, ()), ())
 else
 bif (decide (x0 = 58)) then
 bif (decide (x1 = 6)) then
 some ((3, ()), ())
 else
 some ((0, ()), ())
 else
 some ((0, ()), ())
 else
 some (((-1), ()), ())
def eQ (x0 : aR) : Option ((Bool × Unit) × Unit) :=
 (bo x0.1 63).bind fun t1 =>
 bif (!(!t1.1.1)) then
 (bo x0.2.1 3).bind fun t2 =>
 bif (!(!t2.1.1)) then
 (bo x0.2.2.1 65535).bind fun t3 =>
 bif (!(!t3.1.1)) then
 (bo x0.2.2.2.1 7).bind fun t4 =>
 bif (!(!t4.1.1)) then
 (bo x0.2.2.2.2.1 8191).bind fun t5 =>
 bif (!t5.1.1) then
 some ((false, ()), ())
 else
 (bo x0.2.2.2.2.2.1 255).bind fun t6 =>
 bif (!(!t6.1.1)) then
 (bo x0.2.2.2.2.2.2.1 255).bind fun t7 =>
 bif (!(!t7.1.1)) then
 bif (!(!(decide (x0.2.2.2.2.2.2.2.1.1 = 4)))) then
 bif (!(!(decide (x0.2.2.2.2.2.2.2.2.1.1 = 4)))) then
 (dh x0.2.2.2.2.2.2.2.1).bind fun t8 =>
 bif (!(!t8.1.1)) then
 (dh x0.2.2.2.2.2.2.2.2.1).bind fun t9 =>
 bif (!t9.1.1) then
 some ((false, ()), ())
 else
 bif (!(decide (40 < (List.length x0.2.2.2.2.2.2.2.2.2.1 : Int)))) then
 bif (!(decide ((Int.tmod (List.length x0.2.2.2.2.2.2.2.2.2.1 : Int) 4) = 0))) then
 some ((false, ()), ())
 else
 some (((decide ((List.length x0.2.2.2.2.2.2.2.2.2.2.1 : Int) ≤ (Wr .i64 (1480 - (List.length x0.2.2.2.2.2.2.2.2.2.1 : Int))))), ()), ())
 else
 some ((false, ()), ())
 else
 some ((false, ()), ())
 else
 some ((false, ()), ())
 else
 some ((false, ()), ())
 else
 some ((false, ()), ())
 else
 some ((false, ()), ())
 else
 some ((false, ()), ())
 else
 some ((false, ()), ())
 else
 some ((false, ()), ())
 else
 some ((false, ()), ())
def fX (x0 : aR) : Option ((Bool × Unit) × Unit) :=
 (eQ x0).bind fun t1 =>
 bif t1.1.1 then
 bif (!(!(decide (x0.2.2.2.2.1 = 0)))) then
 some (((decide ((Int.tmod x0.2.2.2.1 2) = 1)), ()), ())
 else
 some ((true, ()), ())
 else
 some ((false, ()), ())
def fI (x0 : bc) : Option ((Bool × Unit) × Unit) :=
 bif (decide (x0.1 = 0)) then
 bif (decide (x0.2.1 = 0)) then
 bif (decide (x0.2.2.1 = 0)) then
 bif (decide (x0.2.2.2.1 = 0)) then
 bif ((decide (x0.2.2.2.2.1.1 = 0)) && ((decide (x0.2.2.2.2.1.2.1 = 0)) && ((decide (x0.2.2.2.2.1.2.2.1 = 0)) && ((decide (x0.2.2.2.2.1.2.2.2.1 = 0)) && ((decide (x0.2.2.2.2.1.2.2.2.2.1 = 0)) && true))))) then
 bif ((decide (x0.2.2.2.2.2.1.1 = 0)) && ((decide (x0.2.2.2.2.2.1.2.1 = 0)) && ((decide (x0.2.2.2.2.2.1.2.2.1 = 0)) && ((decide (x0.2.2.2.2.2.1.2.2.2.1 = 0)) && ((decide (x0.2.2.2.2.2.1.2.2.2.2.1 = 0)) && true))))) then
 bif (decide ((List.length x0.2.2.2.2.2.2.1 : Int) = 0)) then
 some (((decide ((List.length x0.2.2.2.2.2.2.2.1 : Int) = 0)), ()), ())
 else
 some ((false, ()), ())
 else
 some ((false, ()), ())
 else
 some ((false, ()), ())
 else
 some ((false, ()), ())
 else
 some ((false, ()), ())
 else
 some ((false, ()), ())
 else
 some ((false, ()), ())
def gu (x0 : aR) (x1 : Int) : Option (((List Int) × Unit) × Unit) :=
 (aY (Wr .i64 ((Wr .i64 (20 + (List.length x0.2.2.2.2.2.2.2.2.2.1 : Int))) + (List.length x0.2.2.2.2.2.2.2.2.2.2.1 : Int)))).bind fun t1 =>
 bif (decide ((((2:Nat) + (List.length t1.1.1)) * 1) ≤ (1099511627776:Nat))) then
 (aY x0.2.2.1).bind fun t2 =>
 bif (decide ((((List.length (([(Wr .u8 (Wr .i64 (69 + (Wr .i64 (Int.tdiv (List.length x0.2.2.2.2.2.2.2.2.2.1 : Int) 4))))), (Wr .u8 (Wr .i64 ((Wr .i64 (4 * x0.1)) + x0.2.1)))] : List Int) ++ t1.1.1)) + (List.length t2.1.1)) * 1) ≤ (1099511627776:Nat))) then
 (aY (Wr .i64 ((Wr .i64 (8192 * x0.2.2.2.1)) + x0.2.2.2.2.1))).bind fun t3 =>
 bif (decide ((((List.length ((([(Wr .u8 (Wr .i64 (69 + (Wr .i64 (Int.tdiv (List.length x0.2.2.2.2.2.2.2.2.2.1 : Int) 4))))), (Wr .u8 (Wr .i64 ((Wr .i64 (4 * x0.1)) + x0.2.1)))] : List Int) ++ t1.1.1) ++ t2.1.1)) + (List.length t3.1.1)) * 1) ≤ (1099511627776:Nat))) then
 bif (decide ((((List.length (((([(Wr .u8 (Wr .i64 (69 + (Wr .i64 (Int.tdiv (List.length x0.2.2.2.2.2.2.2.2.2.1 : Int) 4))))), (Wr .u8 (Wr .i64 ((Wr .i64 (4 * x0.1)) + x0.2.1)))] : List Int) ++ t1.1.1) ++ t2.1.1) ++ t3.1.1)) + (2:Nat)) * 1) ≤ (1099511627776:Nat))) then
 (aY x1).bind fun t4 =>
 bif (decide ((((List.length ((((([(Wr .u8 (Wr .i64 (69 + (Wr .i64 (Int.tdiv (List.length x0.2.2.2.2.2.2.2.2.2.1 : Int) 4))))), (Wr .u8 (Wr .i64 ((Wr .i64 (4 * x0.1)) + x0.2.1)))] : List Int) ++ t1.1.1) ++ t2.1.1) ++ t3.1.1) ++ ([(Wr .u8 x0.2.2.2.2.2.1), (Wr .u8 x0.2.2.2.2.2.2.1)] : List Int))) + (List.length t4.1.1)) * 1) ≤ (1099511627776:Nat))) then
 (cA x0.2.2.2.2.2.2.2.1).bind fun t5 =>
 bif (decide ((((List.length (((((([(Wr .u8 (Wr .i64 (69 + (Wr .i64 (Int.tdiv (List.length x0.2.2.2.2.2.2.2.2.2.1 : Int) 4))))), (Wr .u8 (Wr .i64 ((Wr .i64 (4 * x0.1)) + x0.2.1)))] : List Int) ++ t1.1.1) ++ t2.1.1) ++ t3.1.1) ++ ([(Wr .u8 x0.2.2.2.2.2.1), (Wr .u8 x0.2.2.2.2.2.2.1)] : List Int)) ++ t4.1.1)) + (List.length t5.1.1)) * 1) ≤ (1099511627776:Nat))) then
 (cA x0.2.2.2.2.2.2.2.2.1).bind fun t6 =>
 bif (decide ((((List.length ((((((([(Wr .u8 (Wr .i64 (69 + (Wr .i64 (Int.tdiv (List.length x0.2.2.2.2.2.2.2.2.2.1 : Int) 4))))), (Wr .u8 (Wr .i64 ((Wr .i64 (4 * x0.1)) + x0.2.1)))] : List Int) ++ t1.1.1) ++ t2.1.1) ++ t3.1.1) ++ ([(Wr .u8 x0.2.2.2.2.2.1), (Wr .u8 x0.2.2.2.2.2.2.1)] : List Int)) ++ t4.1.1) ++ t5.1.1)) + (List.length t6.1.1)) * 1) ≤ (1099511627776:Nat))) then
 bif (decide ((((List.length (((((((([(Wr .u8 (Wr .i64 (69 + (Wr .i64 (Int.tdiv (List.length x0.2.2.2.2.2.2.2.2.2.1 : Int) 4))))), (Wr .u8 (Wr .i64 ((Wr .i64 (4 * x0.1)) + x0.2.1)))] : List Int) ++ t1.1.1) ++ t2.1.1) ++ t3.1.1) ++ ([(Wr .u8 x0.2.2.2.2.2.1), (Wr .u8 x0.2.2.2.2.2.2.1)] : List Int)) ++ t4.1.1) ++ t5.1.1) ++ t6.1.1)) + (List.length x0.2.2.2.2.2.2.2.2.2.1)) * 1) ≤ (1099511627776:Nat))) then
 some ((((((((((([(Wr .u8 (Wr .i64 (69 + (Wr .i64 (Int.tdiv (List.length x0.2.2.2.2.2.2.2.2.2.1 : Int) 4))))), (Wr .u8 (Wr .i64 ((Wr .i64 (4 * x0.1)) + x0.2.1)))] : List Int) ++ t1.1.1) ++ t2.1.1) ++ t3.1.1) ++ ([(Wr .u8 x0.2.2.2.2.2.1), (Wr .u8 x0.2.2.2.2.2.2.1)] : List Int)) ++ t4.1.1) ++ t5.1.1) ++ t6.1.1) ++ x0.2.2.2.2.2.2.2.2.2.1), ()), ())
 else none
 else none
 else none
 else none
 else none
 else none
 else none
 else none
def jG (k : Nat) (x0 : (List Int)) : Option ((Int × Unit) × Unit) :=
 (dw k x0).bind fun t1 =>
 bif (decide (t1.1.1 < 0)) then
 some (((-1), ()), ())
 else
 some (((Wr .i64 (65535 - t1.1.1)), ()), ())
def il (k : Nat) (x0 : aR) : Option ((Int × Unit) × Unit) :=
 (eQ x0).bind fun t1 =>
 bif (!t1.1.1) then
 some (((-1), ()), ())
 else
 (gu x0 0).bind fun t2 =>
 (jG k t2.1.1).bind fun t3 =>
 some (t3.1, ())
def gR (k : Nat) (x0 : aR) : Option (((List Int) × Unit) × Unit) :=
 (eQ x0).bind fun t1 =>
 bif (!t1.1.1) then
 some ((([] : List Int), ()), ())
 else
 (il k x0).bind fun t2 =>
 (gu x0 t2.1.1).bind fun t3 =>
 bif (decide ((((List.length t3.1.1) + (List.length x0.2.2.2.2.2.2.2.2.2.2.1)) * 1) ≤ (1099511627776:Nat))) then
 some (((t3.1.1 ++ x0.2.2.2.2.2.2.2.2.2.2.1), ()), ())
 else none
def gS (x0 : aR) : Option ((Bool × Unit) × Unit) :=
 bif (decide (x0.1 = 0)) then
 bif (decide (x0.2.1 = 0)) then
 bif (decide (x0.2.2.1 = 0)) then
 bif (decide (x0.2.2.2.1 = 0)) then
 bif (decide (x0.2.2.2.2.1 = 0)) then
 bif (decide (x0.2.2.2.2.2.1 = 0)) then
 bif (decide (x0.2.2.2.2.2.2.1 = 0)) then
 bif ((decide (x0.2.2.2.2.2.2.2.1.1 = 0)) && ((decide (x0.2.2.2.2.2.2.2.1.2.1 = 0)) && ((decide (x0.2.2.2.2.2.2.2.1.2.2.1 = 0)) && ((decide (x0.2.2.2.2.2.2.2.1.2.2.2.1 = 0)) && ((decide (x0.2.2.2.2.2.2.2.1.2.2.2.2.1 = 0)) && true))))) then
 bif ((decide (x0.2.2.2.2.2.2.2.2.1.1 = 0)) && ((decide (x0.2.2.2.2.2.2.2.2.1.2.1 = 0)) && ((decide (x0.2.2.2.2.2.2.2.2.1.2.2.1 = 0)) && ((decide (x0.2.2.2.2.2.2.2.2.1.2.2.2.1 = 0)) && ((decide (x0.2.2.2.2.2.2.2.2.1.2.2.2.2.1 = 0)) && true))))) then
 bif (decide ((List.length x0.2.2.2.2.2.2.2.2.2.1 : Int) = 0)) then
 some (((decide ((List.length x0.2.2.2.2.2.2.2.2.2.2.1 : Int) = 0)), ()), ())
 else
 some ((false, ()), ())
 else
 some ((false, ()), ())
 else
 some ((false, ()), ())
 else
 some ((false, ()), ())
 else
 some ((false, ()), ())
 else
 some ((false, ()), ())
 else
 some ((false, ()), ())
 else
 some ((false, ()), ())
 else
 some ((false, ()), ())
 else
 some ((false, ()), ())
def fJ (x0 : Int) : Option ((Bool × Unit) × Unit) :=
 bif (!(decide (x0 = 0))) then
 bif (!(decide (x0 = 43))) then
 some (((decide (x0 = 60)), ()), ())
 else
 some ((true, ()), ())
 else
 some ((true, ()), ())
def dr (rec : (Unit × (bc × (Int × (Int × Unit)))) → Option ((Unit × (Bool × Unit)) ⊕ (Unit × (bc × (Int × Unit))))) (v : (Unit × (bc × (Int × (Int × Unit))))) : Option ((Unit × (Bool × Unit)) ⊕ (Unit × (bc × (Int × Unit)))) :=
 bif (decide (v.2.2.2.1 < (List.length v.2.1.2.2.2.2.2.2.1 : Int))) then
 bif ((decide (0 ≤ v.2.2.2.1)) && (decide (v.2.2.2.1 < (List.length v.2.1.2.2.2.2.2.2.1 : Int)))) then
 bif (decide ((Int.toNat v.2.2.2.1) < (List.length v.2.1.2.2.2.2.2.2.1))) then
 bif ((decide (0 ≤ v.2.2.2.1)) && (decide (v.2.2.2.1 < (List.length v.2.1.2.2.2.2.2.2.1 : Int)))) then
 bif (decide ((Int.toNat v.2.2.2.1) < (List.length v.2.1.2.2.2.2.2.2.1))) then
 (fJ (List.getD v.2.1.2.2.2.2.2.2.1 (Int.toNat v.2.2.2.1) cF).1).bind fun t8 =>
 bif (!(!t8.1.1)) then
 bif ((decide (0 ≤ v.2.2.2.1)) && (decide (v.2.2.2.1 < (List.length v.2.1.2.2.2.2.2.2.1 : Int)))) then
 bif (decide ((Int.toNat v.2.2.2.1) < (List.length v.2.1.2.2.2.2.2.2.1))) then
 bif (decide ((List.getD v.2.1.2.2.2.2.2.2.1 (Int.toNat v.2.2.2.1) cF).1 = 0)) then
 bif (!(decide (0 < v.2.2.2.1))) then
 bif (!(decide (62 < (List.length (List.getD v.2.1.2.2.2.2.2.2.1 (Int.toNat v.2.2.2.1) cF).2.1 : Int)))) then
 bif (!(decide ((Int.tmod (List.length (List.getD v.2.1.2.2.2.2.2.2.1 (Int.toNat v.2.2.2.1) cF).2.1 : Int) 8) = 6))) then
 some (Sum.inl ((), false, ()))
 else
 rec ((), v.2.1, (Wr .i64 ((Wr .i64 (v.2.2.1 - (List.length (List.getD v.2.1.2.2.2.2.2.2.1 (Int.toNat v.2.2.2.1) cF).2.1 : Int))) - 2)), (Wr .i64 (v.2.2.2.1 + 1)), ())
 else
 some (Sum.inl ((), false, ()))
 else
 some (Sum.inl ((), false, ()))
 else
 bif (!(decide (62 < (List.length (List.getD v.2.1.2.2.2.2.2.2.1 (Int.toNat v.2.2.2.1) cF).2.1 : Int)))) then
 bif (!(decide ((Int.tmod (List.length (List.getD v.2.1.2.2.2.2.2.2.1 (Int.toNat v.2.2.2.1) cF).2.1 : Int) 8) = 6))) then
 some (Sum.inl ((), false, ()))
 else
 rec ((), v.2.1, (Wr .i64 ((Wr .i64 (v.2.2.1 - (List.length (List.getD v.2.1.2.2.2.2.2.2.1 (Int.toNat v.2.2.2.1) cF).2.1 : Int))) - 2)), (Wr .i64 (v.2.2.2.1 + 1)), ())
 else
 some (Sum.inl ((), false, ()))
 else none
 else none
 else
 some (Sum.inl ((), false, ()))
 else none
 else none
 else none
 else none
 else
 some (Sum.inr ((), v.2.1, v.2.2.1, ()))
def iS (k : Nat) (x0 : bc) : Option ((Bool × Unit) × Unit) :=
 (bo x0.1 255).bind fun t1 =>
 bif (!(!t1.1.1)) then
 (bo x0.2.1 1048575).bind fun t2 =>
 bif (!(!t2.1.1)) then
 (bo x0.2.2.1 255).bind fun t3 =>
 bif (!(!t3.1.1)) then
 (bo x0.2.2.2.1 255).bind fun t4 =>
 bif (!(!t4.1.1)) then
 (fJ x0.2.2.2.1).bind fun t5 =>
 bif t5.1.1 then
 some ((false, ()), ())
 else
 bif (!(!(decide (x0.2.2.2.2.1.1 = 6)))) then
 bif (!(!(decide (x0.2.2.2.2.2.1.1 = 6)))) then
 (dh x0.2.2.2.2.1).bind fun t6 =>
 bif (!(!t6.1.1)) then
 (dh x0.2.2.2.2.2.1).bind fun t7 =>
 bif (!(!t7.1.1)) then
 bif (decide (3 < (List.length x0.2.2.2.2.2.2.1 : Int))) then
 some ((false, ()), ())
 else
 (iter (dr) k ((), x0, 1460, 0, ())).bind fun o8 =>
 Sum.elim (fun a9 =>
 some (a9.2, ()))
 (fun b10 =>
 some (((decide ((List.length b10.2.1.2.2.2.2.2.2.2.1 : Int) ≤ b10.2.2.1)), ()), ())) o8
 else
 some ((false, ()), ())
 else
 some ((false, ()), ())
 else
 some ((false, ()), ())
 else
 some ((false, ()), ())
 else
 some ((false, ()), ())
 else
 some ((false, ()), ())
 else
 some ((false, ()), ())
 else
 some ((false, ()), ())
def cP (rec : (Unit × (bc × (Int × (Int × Unit)))) → Option ((Unit × (Int × Unit)))) (v : (Unit × (bc × (Int × (Int × Unit))))) : Option ((Unit × (Int × Unit))) :=
 bif (decide (v.2.2.2.1 < (List.length v.2.1.2.2.2.2.2.2.1 : Int))) then
 bif ((decide (0 ≤ v.2.2.2.1)) && (decide (v.2.2.2.1 < (List.length v.2.1.2.2.2.2.2.2.1 : Int)))) then
 bif (decide ((Int.toNat v.2.2.2.1) < (List.length v.2.1.2.2.2.2.2.2.1))) then
 rec ((), v.2.1, (Wr .i64 ((Wr .i64 (v.2.2.1 + 2)) + (List.length (List.getD v.2.1.2.2.2.2.2.2.1 (Int.toNat v.2.2.2.1) cF).2.1 : Int))), (Wr .i64 (v.2.2.2.1 + 1)), ())
 else none
 else none
 else
 some ((), v.2.2.1, ())
def jH (k : Nat) (x0 : bc) : Option ((Int × Unit) × Unit) :=
 (iS k x0).bind fun t1 =>
 bif (!t1.1.1) then
 some (((-1), ()), ())
 else
 (iter (cP) k ((), x0, 0, 0, ())).bind fun o2 =>
 some (o2.2, ())
def gw (x0 : bc) (x1 : Int) : Option ((Int × Unit) × Unit) :=
 bif (decide (x1 < (List.length x0.2.2.2.2.2.2.1 : Int))) then
 bif ((decide (0 ≤ x1)) && (decide (x1 < (List.length x0.2.2.2.2.2.2.1 : Int)))) then
 bif (decide ((Int.toNat x1) < (List.length x0.2.2.2.2.2.2.1))) then
 some (((Wr .u8 (List.getD x0.2.2.2.2.2.2.1 (Int.toNat x1) cF).1), ()), ())
 else none
 else none
 else
 some (((Wr .u8 x0.2.2.2.1), ()), ())
def cQ (rec : (Unit × (bc × ((List Int) × (Int × Unit)))) → Option ((Unit × (bc × ((List Int) × Unit))))) (v : (Unit × (bc × ((List Int) × (Int × Unit))))) : Option ((Unit × (bc × ((List Int) × Unit)))) :=
 bif (decide (v.2.2.2.1 < (List.length v.2.1.2.2.2.2.2.2.1 : Int))) then
 (gw v.2.1 (Wr .i64 (v.2.2.2.1 + 1))).bind fun t8 =>
 bif ((decide (0 ≤ v.2.2.2.1)) && (decide (v.2.2.2.1 < (List.length v.2.1.2.2.2.2.2.2.1 : Int)))) then
 bif (decide ((Int.toNat v.2.2.2.1) < (List.length v.2.1.2.2.2.2.2.2.1))) then
 bif (decide ((((List.length v.2.2.1) + (2:Nat)) * 1) ≤ (1099511627776:Nat))) then
 bif ((decide (0 ≤ v.2.2.2.1)) && (decide (v.2.2.2.1 < (List.length v.2.1.2.2.2.2.2.2.1 : Int)))) then
 bif (decide ((Int.toNat v.2.2.2.1) < (List.length v.2.1.2.2.2.2.2.2.1))) then
 bif (decide ((((List.length (v.2.2.1 ++ ([t8.1.1, (Wr .u8 (Wr .i64 ((Wr .i64 (Int.tdiv (Wr .i64 (2 + (List.length (List.getD v.2.1.2.2.2.2.2.2.1 (Int.toNat v.2.2.2.1) cF).2.1 : Int))) 8)) - 1)))] : List Int))) + (List.length (List.getD v.2.1.2.2.2.2.2.2.1 (Int.toNat v.2.2.2.1) cF).2.1)) * 1) ≤ (1099511627776:Nat))) then
 rec ((), v.2.1, ((v.2.2.1 ++ ([t8.1.1, (Wr .u8 (Wr .i64 ((Wr .i64 (Int.tdiv (Wr .i64 (2 + (List.length (List.getD v.2.1.2.2.2.2.2.2.1 (Int.toNat v.2.2.2.1) cF).2.1 : Int))) 8)) - 1)))] : List Int)) ++ (List.getD v.2.1.2.2.2.2.2.2.1 (Int.toNat v.2.2.2.1) cF).2.1), (Wr .i64 (v.2.2.2.1 + 1)), ())
 else none
 else none
 else none
 else none
 else none
 else none
 else
 some ((), v.2.1, v.2.2.1, ())
def iC (k : Nat) (x0 : bc) : Option (((List Int) × Unit) × Unit) :=
 (iS k x0).bind fun t1 =>
 bif (!t1.1.1) then
 some ((([] : List Int), ()), ())
 else
 (cJ (Wr .i64 ((Wr .i64 (1610612736 + (Wr .i64 (x0.1 * 1048576)))) + x0.2.1))).bind fun t2 =>
 (jH k x0).bind fun t3 =>
 (aY (Wr .i64 (t3.1.1 + (List.length x0.2.2.2.2.2.2.2.1 : Int)))).bind fun t4 =>
 bif (decide ((((List.length t2.1.1) + (List.length t4.1.1)) * 1) ≤ (1099511627776:Nat))) then
 (gw x0 0).bind fun t5 =>
 bif (decide ((((List.length (t2.1.1 ++ t4.1.1)) + (2:Nat)) * 1) ≤ (1099511627776:Nat))) then
 (cA x0.2.2.2.2.1).bind fun t6 =>
 bif (decide ((((List.length ((t2.1.1 ++ t4.1.1) ++ ([t5.1.1, (Wr .u8 x0.2.2.1)] : List Int))) + (List.length t6.1.1)) * 1) ≤ (1099511627776:Nat))) then
 (cA x0.2.2.2.2.2.1).bind fun t7 =>
 bif (decide ((((List.length (((t2.1.1 ++ t4.1.1) ++ ([t5.1.1, (Wr .u8 x0.2.2.1)] : List Int)) ++ t6.1.1)) + (List.length t7.1.1)) * 1) ≤ (1099511627776:Nat))) then
 (iter (cQ) k ((), x0, ((((t2.1.1 ++ t4.1.1) ++ ([t5.1.1, (Wr .u8 x0.2.2.1)] : List Int)) ++ t6.1.1) ++ t7.1.1), 0, ())).bind fun o8 =>
 bif (decide ((((List.length o8.2.2.1) + (List.length o8.2.1.2.2.2.2.2.2.2.1)) * 1) ≤ (1099511627776:Nat))) then
 some (((o8.2.2.1 ++ o8.2.1.2.2.2.2.2.2.2.1), ()), ())
 else none
 else none
 else none
 else none
 else none
def fA (x0 : bH) : Option ((Bool × Unit) × Unit) :=
 bif (!(decide (x0.1 < 0))) then
 bif (!(decide (281474976710655 < x0.1))) then
 bif (!(decide (x0.2.1 < 0))) then
 bif (!(decide (281474976710655 < x0.2.1))) then
 bif (!(decide (x0.2.2.1 < (-1)))) then
 bif (decide (65535 < x0.2.2.1)) then
 some ((false, ()), ())
 else
 bif (decide (0 ≤ x0.2.2.1)) then
 bif (decide (1536 ≤ x0.2.2.2.1)) then
 bif (decide (x0.2.2.2.1 ≤ 65535)) then
 bif (!(decide (x0.2.2.2.1 = 33024))) then
 some (((decide ((List.length x0.2.2.2.2.1 : Int) ≤ 1582)), ()), ())
 else
 some ((false, ()), ())
 else
 some ((false, ()), ())
 else
 some ((false, ()), ())
 else
 bif (decide (1536 ≤ x0.2.2.2.1)) then
 bif (decide (x0.2.2.2.1 ≤ 65535)) then
 bif (!(decide (x0.2.2.2.1 = 33024))) then
 some (((decide ((List.length x0.2.2.2.2.1 : Int) ≤ 1586)), ()), ())
 else
 some ((false, ()), ())
 else
 some ((false, ()), ())
 else
 some ((false, ()), ())
 else
 some ((false, ()), ())
 else
 some ((false, ()), ())
 else
 some ((false, ()), ())
 else
 some ((false, ()), ())
 else
 some ((false, ()), ())
abbrev gd (k : Nat) (x0 : aj) (t6 : (((List Int) × Unit) × Unit)) : Option ((Bool × Unit) × Unit) :=
 (gR k (x0.2.2.1.1, x0.2.2.1.2.1, x0.2.2.1.2.2.1, x0.2.2.1.2.2.2.1, x0.2.2.1.2.2.2.2.1, x0.2.2.1.2.2.2.2.2.1, x0.2.2.1.2.2.2.2.2.2.1, x0.2.2.1.2.2.2.2.2.2.2.1, x0.2.2.1.2.2.2.2.2.2.2.2.1, x0.2.2.1.2.2.2.2.2.2.2.2.2.1, t6.1)).bind fun t11 =>
 bif (decide ((((List.length t11.1.1) + (List.length x0.2.2.2.2.2.1)) * 1) ≤ (1099511627776:Nat))) then
 (fA (x0.2.1.1, x0.2.1.2.1, x0.2.1.2.2.1, x0.2.1.2.2.2.1, (t11.1.1 ++ x0.2.2.2.2.2.1), ())).bind fun t12 =>
 some (t12.1, ())
 else none
abbrev gf (k : Nat) (x0 : aj) : Option ((Bool × Unit) × Unit) :=
 bif (!(!(decide ((List.length x0.2.1.2.2.2.2.1 : Int) = 0)))) then
 bif (!(!(decide ((List.length x0.2.2.1.2.2.2.2.2.2.2.2.2.2.1 : Int) = 0)))) then
 bif (!(decide ((List.length x0.2.2.2.1.2.2.2.2.2.2.2.1 : Int) = 0))) then
 some ((false, ()), ())
 else
 (bJ x0).bind fun t1 =>
 (bK x0).bind fun t2 =>
 (ba k x0.2.2.2.2.1 t1.1.1 t2.1.1).bind fun t3 =>
 bif (decide (t3.1.1 < 0)) then
 some ((false, ()), ())
 else
 (bJ x0).bind fun t4 =>
 (bK x0).bind fun t5 =>
 (gx k x0.2.2.2.2.1 t4.1.1 t5.1.1).bind fun t6 =>
 bif (decide (x0.1 = 4)) then
 (db x0.2.2.1.2.2.2.2.2.2.1 4).bind fun t7 =>
 (fX (x0.2.2.1.1, x0.2.2.1.2.1, x0.2.2.1.2.2.1, x0.2.2.1.2.2.2.1, x0.2.2.1.2.2.2.2.1, x0.2.2.1.2.2.2.2.2.1, x0.2.2.1.2.2.2.2.2.2.1, x0.2.2.1.2.2.2.2.2.2.2.1, x0.2.2.1.2.2.2.2.2.2.2.2.1, x0.2.2.1.2.2.2.2.2.2.2.2.2.1, t6.1)).bind fun t8 =>
 bif t8.1.1 then
 (fI x0.2.2.2.1).bind fun t9 =>
 bif (!(!t9.1.1)) then
 bif (!(!(decide (x0.2.1.2.2.2.1 = 2048)))) then
 (eQ (x0.2.2.1.1, x0.2.2.1.2.1, x0.2.2.1.2.2.1, x0.2.2.1.2.2.2.1, x0.2.2.1.2.2.2.2.1, x0.2.2.1.2.2.2.2.2.1, x0.2.2.1.2.2.2.2.2.2.1, x0.2.2.1.2.2.2.2.2.2.2.1, x0.2.2.1.2.2.2.2.2.2.2.2.1, x0.2.2.1.2.2.2.2.2.2.2.2.2.1, t6.1)).bind fun t10 =>
 bif (!(!t10.1.1)) then
 bif (!(decide (x0.2.2.2.2.1.1 = 0))) then
 some ((false, ()), ())
 else
 gd k x0 t6
 else
 some ((false, ()), ())
 else
 some ((false, ()), ())
 else
 some ((false, ()), ())
 else
 (fI x0.2.2.2.1).bind fun t13 =>
 bif (!(!t13.1.1)) then
 bif (!(!(decide (x0.2.1.2.2.2.1 = 2048)))) then
 (eQ (x0.2.2.1.1, x0.2.2.1.2.1, x0.2.2.1.2.2.1, x0.2.2.1.2.2.2.1, x0.2.2.1.2.2.2.2.1, x0.2.2.1.2.2.2.2.2.1, x0.2.2.1.2.2.2.2.2.2.1, x0.2.2.1.2.2.2.2.2.2.2.1, x0.2.2.1.2.2.2.2.2.2.2.2.1, x0.2.2.1.2.2.2.2.2.2.2.2.2.1, t6.1)).bind fun t14 =>
 bif (!(!t14.1.1)) then
 bif (!(decide (x0.2.2.2.2.1.1 = t7.1.1))) then
 some ((false, ()), ())
 else
 gd k x0 t6
 else
 some ((false, ()), ())
 else
 some ((false, ()), ())
 else
 some ((false, ()), ())
 else
 (gS x0.2.2.1).bind fun t17 =>
 bif (!(!t17.1.1)) then
 bif (!(!(decide (x0.2.1.2.2.2.1 = 34525)))) then
 (iS k (x0.2.2.2.1.1, x0.2.2.2.1.2.1, x0.2.2.2.1.2.2.1, x0.2.2.2.1.2.2.2.1, x0.2.2.2.1.2.2.2.2.1, x0.2.2.2.1.2.2.2.2.2.1, x0.2.2.2.1.2.2.2.2.2.2.1, t6.1)).bind fun t18 =>
 bif (!(!t18.1.1)) then
 (db x0.2.2.2.1.2.2.2.1 6).bind fun t19 =>
 bif (!(decide (x0.2.2.2.2.1.1 = t19.1.1))) then
 some ((false, ()), ())
 else
 (iC k (x0.2.2.2.1.1, x0.2.2.2.1.2.1, x0.2.2.2.1.2.2.1, x0.2.2.2.1.2.2.2.1, x0.2.2.2.1.2.2.2.2.1, x0.2.2.2.1.2.2.2.2.2.1, x0.2.2.2.1.2.2.2.2.2.2.1, t6.1)).bind fun t20 =>
 bif (decide ((((List.length t20.1.1) + (List.length x0.2.2.2.2.2.1)) * 1) ≤ (1099511627776:Nat))) then
 (fA (x0.2.1.1, x0.2.1.2.1, x0.2.1.2.2.1, x0.2.1.2.2.2.1, (t20.1.1 ++ x0.2.2.2.2.2.1), ())).bind fun t21 =>
 some (t21.1, ())
 else none
 else
 some ((false, ()), ())
 else
 some ((false, ()), ())
 else
 some ((false, ()), ())
 else
 some ((false, ()), ())
 else
 some ((false, ()), ())
def dP (k : Nat) (x0 : aj) : Option ((Bool × Unit) × Unit) :=
 bif (!(decide (x0.1 = 4))) then
 bif (!(!(decide (x0.1 = 6)))) then
 gf k x0
 else
 some ((false, ()), ())
 else
 gf k x0
def RV (rec : (Unit × ((List Int) × (Int × Unit))) → Option ((Unit × (Bool × Unit)) ⊕ (Unit × Unit))) (v : (Unit × ((List Int) × (Int × Unit)))) : Option ((Unit × (Bool × Unit)) ⊕ (Unit × Unit)) :=
 bif (decide (v.2.2.1 < (List.length v.2.1 : Int))) then
 bif ((decide (0 ≤ v.2.2.1)) && (decide (v.2.2.1 < (List.length v.2.1 : Int)))) then
 bif (decide ((Int.toNat v.2.2.1) < (List.length v.2.1))) then
 bif (!(decide ((List.getD v.2.1 (Int.toNat v.2.2.1) 0) < 0))) then
 bif ((decide (0 ≤ v.2.2.1)) && (decide (v.2.2.1 < (List.length v.2.1 : Int)))) then
 bif (decide ((Int.toNat v.2.2.1) < (List.length v.2.1))) then
 bif (decide (1000000000000 < (List.getD v.2.1 (Int.toNat v.2.2.1) 0))) then
 some (Sum.inl ((), false, ()))
 else
 rec ((), v.2.1, (Wr .i64 (v.2.2.1 + 1)), ())
 else none
 else none
 else
 some (Sum.inl ((), false, ()))
 else none
 else none
 else
 some (Sum.inr ((), ()))
def Sj (k : Nat) (x0 : (List Int)) : Option ((Bool × Unit) × Unit) :=
 bif (!(decide ((List.length x0 : Int) = 4))) then
 some ((false, ()), ())
 else
 (iter (RV) k ((), x0, 0, ())).bind fun o1 =>
 Sum.elim (fun a2 =>
 some (a2.2, ()))
 (fun b3 =>
 some ((true, ()), ())) o1
def jU (x0 : Int) : Option (((List Int) × Unit) × Unit) :=
 (aY (Wr .i64 (Int.tdiv x0 4294967296))).bind fun t1 =>
 (cJ (Int.tmod x0 4294967296)).bind fun t2 =>
 bif (decide ((((List.length t1.1.1) + (List.length t2.1.1)) * 1) ≤ (1099511627776:Nat))) then
 some (((t1.1.1 ++ t2.1.1), ()), ())
 else none
def gy (x0 : bH) : Option (((List Int) × Unit) × Unit) :=
 (fA x0).bind fun t1 =>
 bif (!t1.1.1) then
 some ((([] : List Int), ()), ())
 else
 (jU x0.1).bind fun t2 =>
 (jU x0.2.1).bind fun t3 =>
 bif (decide ((((List.length t2.1.1) + (List.length t3.1.1)) * 1) ≤ (1099511627776:Nat))) then
 bif (decide (0 ≤ x0.2.2.1)) then
 (aY 33024).bind fun t4 =>
 bif (decide ((((List.length (t2.1.1 ++ t3.1.1)) + (List.length t4.1.1)) * 1) ≤ (1099511627776:Nat))) then
 (aY x0.2.2.1).bind fun t5 =>
 bif (decide ((((List.length ((t2.1.1 ++ t3.1.1) ++ t4.1.1)) + (List.length t5.1.1)) * 1) ≤ (1099511627776:Nat))) then
 (aY x0.2.2.2.1).bind fun t6 =>
 bif (decide ((((List.length (((t2.1.1 ++ t3.1.1) ++ t4.1.1) ++ t5.1.1)) + (List.length t6.1.1)) * 1) ≤ (1099511627776:Nat))) then
 bif (decide ((((List.length ((((t2.1.1 ++ t3.1.1) ++ t4.1.1) ++ t5.1.1) ++ t6.1.1)) + (List.length x0.2.2.2.2.1)) * 1) ≤ (1099511627776:Nat))) then
 some (((((((t2.1.1 ++ t3.1.1) ++ t4.1.1) ++ t5.1.1) ++ t6.1.1) ++ x0.2.2.2.2.1), ()), ())
 else none
 else none
 else none
 else none
 else
 (aY x0.2.2.2.1).bind fun t7 =>
 bif (decide ((((List.length (t2.1.1 ++ t3.1.1)) + (List.length t7.1.1)) * 1) ≤ (1099511627776:Nat))) then
 bif (decide ((((List.length ((t2.1.1 ++ t3.1.1) ++ t7.1.1)) + (List.length x0.2.2.2.2.1)) * 1) ≤ (1099511627776:Nat))) then
 some (((((t2.1.1 ++ t3.1.1) ++ t7.1.1) ++ x0.2.2.2.2.1), ()), ())
 else none
 else none
 else none
abbrev eJ (k : Nat) (x0 : aj) (t6 : (((List Int) × Unit) × Unit)) : Option (((List Int) × Unit) × Unit) :=
 (gR k (x0.2.2.1.1, x0.2.2.1.2.1, x0.2.2.1.2.2.1, x0.2.2.1.2.2.2.1, x0.2.2.1.2.2.2.2.1, x0.2.2.1.2.2.2.2.2.1, x0.2.2.1.2.2.2.2.2.2.1, x0.2.2.1.2.2.2.2.2.2.2.1, x0.2.2.1.2.2.2.2.2.2.2.2.1, x0.2.2.1.2.2.2.2.2.2.2.2.2.1, t6.1)).bind fun t11 =>
 bif (decide ((((List.length t11.1.1) + (List.length x0.2.2.2.2.2.1)) * 1) ≤ (1099511627776:Nat))) then
 (fA (x0.2.1.1, x0.2.1.2.1, x0.2.1.2.2.1, x0.2.1.2.2.2.1, (t11.1.1 ++ x0.2.2.2.2.2.1), ())).bind fun t12 =>
 bif (!t12.1.1) then
 some ((([] : List Int), ()), ())
 else
 (gy (x0.2.1.1, x0.2.1.2.1, x0.2.1.2.2.1, x0.2.1.2.2.2.1, (t11.1.1 ++ x0.2.2.2.2.2.1), ())).bind fun t13 =>
 some (t13.1, ())
 else none
abbrev eK (k : Nat) (x0 : aj) : Option (((List Int) × Unit) × Unit) :=
 bif (!(!(decide ((List.length x0.2.1.2.2.2.2.1 : Int) = 0)))) then
 bif (!(!(decide ((List.length x0.2.2.1.2.2.2.2.2.2.2.2.2.2.1 : Int) = 0)))) then
 bif (!(decide ((List.length x0.2.2.2.1.2.2.2.2.2.2.2.1 : Int) = 0))) then
 some ((([] : List Int), ()), ())
 else
 (bJ x0).bind fun t1 =>
 (bK x0).bind fun t2 =>
 (ba k x0.2.2.2.2.1 t1.1.1 t2.1.1).bind fun t3 =>
 bif (decide (t3.1.1 < 0)) then
 some ((([] : List Int), ()), ())
 else
 (bJ x0).bind fun t4 =>
 (bK x0).bind fun t5 =>
 (gx k x0.2.2.2.2.1 t4.1.1 t5.1.1).bind fun t6 =>
 bif (decide (x0.1 = 4)) then
 (db x0.2.2.1.2.2.2.2.2.2.1 4).bind fun t7 =>
 (fX (x0.2.2.1.1, x0.2.2.1.2.1, x0.2.2.1.2.2.1, x0.2.2.1.2.2.2.1, x0.2.2.1.2.2.2.2.1, x0.2.2.1.2.2.2.2.2.1, x0.2.2.1.2.2.2.2.2.2.1, x0.2.2.1.2.2.2.2.2.2.2.1, x0.2.2.1.2.2.2.2.2.2.2.2.1, x0.2.2.1.2.2.2.2.2.2.2.2.2.1, t6.1)).bind fun t8 =>
 bif t8.1.1 then
 (fI x0.2.2.2.1).bind fun t9 =>
 bif (!(!t9.1.1)) then
 bif (!(!(decide (x0.2.1.2.2.2.1 = 2048)))) then
 (eQ (x0.2.2.1.1, x0.2.2.1.2.1, x0.2.2.1.2.2.1, x0.2.2.1.2.2.2.1, x0.2.2.1.2.2.2.2.1, x0.2.2.1.2.2.2.2.2.1, x0.2.2.1.2.2.2.2.2.2.1, x0.2.2.1.2.2.2.2.2.2.2.1, x0.2.2.1.2.2.2.2.2.2.2.2.1, x0.2.2.1.2.2.2.2.2.2.2.2.2.1, t6.1)).bind fun t10 =>
 bif (!(!t10.1.1)) then
 bif (!(decide (x0.2.2.2.2.1.1 = 0))) then
 some ((([] : List Int), ()), ())
 else
 eJ k x0 t6
 else
 some ((([] : List Int), ()), ())
 else
 some ((([] : List Int), ()), ())
 else
 some ((([] : List Int), ()), ())
 else
 (fI x0.2.2.2.1).bind fun t14 =>
 bif (!(!t14.1.1)) then
 bif (!(!(decide (x0.2.1.2.2.2.1 = 2048)))) then
 (eQ (x0.2.2.1.1, x0.2.2.1.2.1, x0.2.2.1.2.2.1, x0.2.2.1.2.2.2.1, x0.2.2.1.2.2.2.2.1, x0.2.2.1.2.2.2.2.2.1, x0.2.2.1.2.2.2.2.2.2.1, x0.2.2.1.2.2.2.2.2.2.2.1, x0.2.2.1.2.2.2.2.2.2.2.2.1, x0.2.2.1.2.2.2.2.2.2.2.2.2.1, t6.1)).bind fun t15 =>
 bif (!(!t15.1.1)) then
 bif (!(decide (x0.2.2.2.2.1.1 = t7.1.1))) then
 some ((([] : List Int), ()), ())
 else
 eJ k x0 t6
 else
 some ((([] : List Int), ()), ())
 else
 some ((([] : List Int), ()), ())
 else
 some ((([] : List Int), ()), ())
 else
 (gS x0.2.2.1).bind fun t19 =>
 bif (!(!t19.1.1)) then
 bif (!(!(decide (x0.2.1.2.2.2.1 = 34525)))) then
 (iS k (x0.2.2.2.1.1, x0.2.2.2.1.2.1, x0.2.2.2.1.2.2.1, x0.2.2.2.1.2.2.2.1, x0.2.2.2.1.2.2.2.2.1, x0.2.2.2.1.2.2.2.2.2.1, x0.2.2.2.1.2.2.2.2.2.2.1, t6.1)).bind fun t20 =>
 bif (!(!t20.1.1)) then
 (db x0.2.2.2.1.2.2.2.1 6).bind fun t21 =>
 bif (!(decide (x0.2.2.2.2.1.1 = t21.1.1))) then
 some ((([] : List Int), ()), ())
 else
 (iC k (x0.2.2.2.1.1, x0.2.2.2.1.2.1, x0.2.2.2.1.2.2.1, x0.2.2.2.1.2.2.2.1, x0.2.2.2.1.2.2.2.2.1, x0.2.2.2.1.2.2.2.2.2.1, x0.2.2.2.1.2.2.2.2.2.2.1, t6.1)).bind fun t22 =>
 bif (decide ((((List.length t22.1.1) + (List.length x0.2.2.2.2.2.1)) * 1) ≤ (1099511627776:Nat))) then
 (fA (x0.2.1.1, x0.2.1.2.1, x0.2.1.2.2.1, x0.2.1.2.2.2.1, (t22.1.1 ++ x0.2.2.2.2.2.1), ())).bind fun t23 =>
 bif (!t23.1.1) then
 some ((([] : List Int), ()), ())
 else
 (gy (x0.2.1.1, x0.2.1.2.1, x0.2.1.2.2.1, x0.2.1.2.2.2.1, (t22.1.1 ++ x0.2.2.2.2.2.1), ())).bind fun t24 =>
 some (t24.1, ())
 else none
 else
 some ((([] : List Int), ()), ())
 else
 some ((([] : List Int), ()), ())
 else
 some ((([] : List Int), ()), ())
 else
 some ((([] : List Int), ()), ())
 else
 some ((([] : List Int), ()), ())
def di (k : Nat) (x0 : aj) : Option (((List Int) × Unit) × Unit) :=
 bif (!(decide (x0.1 = 4))) then
 bif (!(!(decide (x0.1 = 6)))) then
 eK k x0
 else
 some ((([] : List Int), ()), ())
 else
 eK k x0
def aN (x0 : (List Int)) (x1 : Int) : Option ((Int × (Bool × Unit)) × Unit) :=
 bif (!(decide (x1 < 0))) then
 bif (decide ((Wr .i64 ((List.length x0 : Int) - 2)) < x1)) then
 some ((0, false, ()), ())
 else
 bif ((decide (0 ≤ x1)) && (decide (x1 < (List.length x0 : Int)))) then
 bif (decide ((Int.toNat x1) < (List.length x0))) then
 bif ((decide (0 ≤ (Wr .i64 (x1 + 1)))) && (decide ((Wr .i64 (x1 + 1)) < (List.length x0 : Int)))) then
 bif (decide ((Int.toNat (Wr .i64 (x1 + 1))) < (List.length x0))) then
 some (((Wr .i64 ((Wr .i64 (256 * (Wr .i64 (List.getD x0 (Int.toNat x1) 0)))) + (Wr .i64 (List.getD x0 (Int.toNat (Wr .i64 (x1 + 1))) 0)))), true, ()), ())
 else none
 else none
 else none
 else none
 else
 some ((0, false, ()), ())
def jd (k : Nat) (x0 : (List Int)) : Option ((bH × (Int × Unit)) × Unit) :=
 bif (decide (1600 < (List.length x0 : Int))) then
 some ((vw, 1, ()), ())
 else
 bif (decide ((List.length x0 : Int) < 14)) then
 some ((vw, 2, ()), ())
 else
 (aN x0 0).bind fun t1 =>
 (cH k x0 2).bind fun t2 =>
 (aN x0 6).bind fun t3 =>
 (cH k x0 8).bind fun t4 =>
 (aN x0 12).bind fun t5 =>
 bif (decide (t5.1.1 = 33024)) then
 bif (decide ((List.length x0 : Int) < 18)) then
 some ((vw, 3, ()), ())
 else
 (aN x0 14).bind fun t6 =>
 (aN x0 16).bind fun t7 =>
 bif (!(decide (t7.1.1 < 1536))) then
 bif (decide (t7.1.1 = 33024)) then
 some ((vw, 4, ()), ())
 else
 bif ((decide (18 ≤ (List.length x0 : Int))) && (decide ((List.length x0 : Int) ≤ (List.length x0 : Int)))) then
 bif (decide ((((0:Nat) + (List.length (List.take ((List.length x0) - (18:Nat)) (List.drop (18:Nat) x0)))) * 1) ≤ (1099511627776:Nat))) then
 some ((((Wr .i64 ((Wr .i64 (t1.1.1 * 4294967296)) + t2.1.1)), (Wr .i64 ((Wr .i64 (t3.1.1 * 4294967296)) + t4.1.1)), t6.1.1, t7.1.1, (List.take ((List.length x0) - (18:Nat)) (List.drop (18:Nat) x0)), ()), 0, ()), ())
 else none
 else none
 else
 some ((vw, 4, ()), ())
 else
 bif (!(decide (t5.1.1 < 1536))) then
 bif (decide (t5.1.1 = 33024)) then
 some ((vw, 4, ()), ())
 else
 bif ((decide (14 ≤ (List.length x0 : Int))) && (decide ((List.length x0 : Int) ≤ (List.length x0 : Int)))) then
 bif (decide ((((0:Nat) + (List.length (List.take ((List.length x0) - (14:Nat)) (List.drop (14:Nat) x0)))) * 1) ≤ (1099511627776:Nat))) then
 some ((((Wr .i64 ((Wr .i64 (t1.1.1 * 4294967296)) + t2.1.1)), (Wr .i64 ((Wr .i64 (t3.1.1 * 4294967296)) + t4.1.1)), (-1), t5.1.1, (List.take ((List.length x0) - (14:Nat)) (List.drop (14:Nat) x0)), ()), 0, ()), ())
 else none
 else none
 else
 some ((vw, 4, ()), ())
abbrev jv : Option ((aR × ((List Int) × (Int × Unit))) × Unit) :=
 some ((ra, ([] : List Int), 4, ()), ())
abbrev ir : Option ((aR × ((List Int) × (Int × Unit))) × Unit) :=
 some ((ra, ([] : List Int), 5, ()), ())
def jI (k : Nat) (x0 : (List Int)) : Option ((aR × ((List Int) × (Int × Unit))) × Unit) :=
 bif (decide (1600 < (List.length x0 : Int))) then
 some ((ra, ([] : List Int), 1, ()), ())
 else
 bif (decide ((List.length x0 : Int) < 20)) then
 some ((ra, ([] : List Int), 2, ()), ())
 else
 bif (decide (0 < (List.length x0 : Int))) then
 bif (decide ((0:Nat) < (List.length x0))) then
 bif (!(decide ((Wr .u8 (Int.tdiv (List.getD x0 (0:Nat) 0) 16)) = 4))) then
 some ((ra, ([] : List Int), 3, ()), ())
 else
 bif (decide (0 < (List.length x0 : Int))) then
 bif (decide ((0:Nat) < (List.length x0))) then
 bif (!(decide ((Wr .i64 (4 * (Wr .i64 (Int.tmod (List.getD x0 (0:Nat) 0) 16)))) < 20))) then
 bif (decide ((List.length x0 : Int) < (Wr .i64 (4 * (Wr .i64 (Int.tmod (List.getD x0 (0:Nat) 0) 16)))))) then
 jv
 else
 (aN x0 2).bind fun t1 =>
 bif (!(decide (t1.1.1 < (Wr .i64 (4 * (Wr .i64 (Int.tmod (List.getD x0 (0:Nat) 0) 16))))))) then
 bif (!(decide (1500 < t1.1.1))) then
 bif (decide ((List.length x0 : Int) < t1.1.1)) then
 ir
 else
 bif (decide (1 < (List.length x0 : Int))) then
 bif (decide ((1:Nat) < (List.length x0))) then
 bif (decide (1 < (List.length x0 : Int))) then
 bif (decide ((1:Nat) < (List.length x0))) then
 bif (decide (8 < (List.length x0 : Int))) then
 bif (decide ((8:Nat) < (List.length x0))) then
 bif (decide (9 < (List.length x0 : Int))) then
 bif (decide ((9:Nat) < (List.length x0))) then
 (aN x0 4).bind fun t2 =>
 (aN x0 6).bind fun t3 =>
 bif (decide (16 ≤ (List.length x0 : Int))) then
 (fy k (List.take (4:Nat) (List.drop (12:Nat) x0))).bind fun t4 =>
 bif (decide (20 ≤ (List.length x0 : Int))) then
 (fy k (List.take (4:Nat) (List.drop (16:Nat) x0))).bind fun t5 =>
 bif ((decide (20 ≤ (Wr .i64 (4 * (Wr .i64 (Int.tmod (List.getD x0 (0:Nat) 0) 16)))))) && (decide ((Wr .i64 (4 * (Wr .i64 (Int.tmod (List.getD x0 (0:Nat) 0) 16)))) ≤ (List.length x0 : Int)))) then
 bif (decide ((((0:Nat) + (List.length (List.take ((Int.toNat (Wr .i64 (4 * (Wr .i64 (Int.tmod (List.getD x0 (0:Nat) 0) 16))))) - (20:Nat)) (List.drop (20:Nat) x0)))) * 1) ≤ (1099511627776:Nat))) then
 bif (((decide (0 ≤ (Wr .i64 (4 * (Wr .i64 (Int.tmod (List.getD x0 (0:Nat) 0) 16)))))) && (decide ((Wr .i64 (4 * (Wr .i64 (Int.tmod (List.getD x0 (0:Nat) 0) 16)))) ≤ t1.1.1))) && (decide (t1.1.1 ≤ (List.length x0 : Int)))) then
 bif (decide ((((0:Nat) + (List.length (List.take ((Int.toNat t1.1.1) - (Int.toNat (Wr .i64 (4 * (Wr .i64 (Int.tmod (List.getD x0 (0:Nat) 0) 16)))))) (List.drop (Int.toNat (Wr .i64 (4 * (Wr .i64 (Int.tmod (List.getD x0 (0:Nat) 0) 16))))) x0)))) * 1) ≤ (1099511627776:Nat))) then
 (aN x0 10).bind fun t6 =>
 (il k ((Wr .i64 (Int.tdiv (Wr .i64 (List.getD x0 (1:Nat) 0)) 4)), (Int.tmod (Wr .i64 (List.getD x0 (1:Nat) 0)) 4), t2.1.1, (Wr .i64 (Int.tdiv t3.1.1 8192)), (Int.tmod t3.1.1 8192), (Wr .i64 (List.getD x0 (8:Nat) 0)), (Wr .i64 (List.getD x0 (9:Nat) 0)), t4.1.1, t5.1.1, (List.take ((Int.toNat (Wr .i64 (4 * (Wr .i64 (Int.tmod (List.getD x0 (0:Nat) 0) 16))))) - (20:Nat)) (List.drop (20:Nat) x0)), (List.take ((Int.toNat t1.1.1) - (Int.toNat (Wr .i64 (4 * (Wr .i64 (Int.tmod (List.getD x0 (0:Nat) 0) 16)))))) (List.drop (Int.toNat (Wr .i64 (4 * (Wr .i64 (Int.tmod (List.getD x0 (0:Nat) 0) 16))))) x0)), ())).bind fun t7 =>
 bif (!(decide (t6.1.1 = t7.1.1))) then
 some ((ra, ([] : List Int), 6, ()), ())
 else
 bif (((decide (0 ≤ t1.1.1)) && (decide (t1.1.1 ≤ (List.length x0 : Int)))) && (decide ((List.length x0 : Int) ≤ (List.length x0 : Int)))) then
 bif (decide ((((0:Nat) + (List.length (List.take ((List.length x0) - (Int.toNat t1.1.1)) (List.drop (Int.toNat t1.1.1) x0)))) * 1) ≤ (1099511627776:Nat))) then
 some ((((Wr .i64 (Int.tdiv (Wr .i64 (List.getD x0 (1:Nat) 0)) 4)), (Int.tmod (Wr .i64 (List.getD x0 (1:Nat) 0)) 4), t2.1.1, (Wr .i64 (Int.tdiv t3.1.1 8192)), (Int.tmod t3.1.1 8192), (Wr .i64 (List.getD x0 (8:Nat) 0)), (Wr .i64 (List.getD x0 (9:Nat) 0)), t4.1.1, t5.1.1, (List.take ((Int.toNat (Wr .i64 (4 * (Wr .i64 (Int.tmod (List.getD x0 (0:Nat) 0) 16))))) - (20:Nat)) (List.drop (20:Nat) x0)), (List.take ((Int.toNat t1.1.1) - (Int.toNat (Wr .i64 (4 * (Wr .i64 (Int.tmod (List.getD x0 (0:Nat) 0) 16)))))) (List.drop (Int.toNat (Wr .i64 (4 * (Wr .i64 (Int.tmod (List.getD x0 (0:Nat) 0) 16))))) x0)), ()), (List.take ((List.length x0) - (Int.toNat t1.1.1)) (List.drop (Int.toNat t1.1.1) x0)), 0, ()), ())
 else none
 else none
 else none
 else none
 else none
 else none
 else none
 else none
 else none
 else none
 else none
 else none
 else none
 else none
 else none
 else none
 else
 ir
 else
 ir
 else
 jv
 else none
 else none
 else none
 else none
def dJ (rec : (Unit × ((List Int) × (bc × (Int × (bc × (Int × (Int × Unit))))))) → Option ((Unit × (bc × ((List Int) × (Int × Unit)))) ⊕ (Unit × ((List Int) × (bc × (Int × (bc × (Int × (Int × Unit))))))))) (v : (Unit × ((List Int) × (bc × (Int × (bc × (Int × (Int × Unit)))))))) : Option ((Unit × (bc × ((List Int) × (Int × Unit)))) ⊕ (Unit × ((List Int) × (bc × (Int × (bc × (Int × (Int × Unit)))))))) :=
 (fJ v.2.2.2.2.2.1).bind fun t5 =>
 bif t5.1.1 then
 bif (!(decide ((List.length v.2.2.2.2.1.2.2.2.2.2.2.1 : Int) = 3))) then
 bif (decide (v.2.2.2.2.2.1 = 0)) then
 bif (!(decide (0 < (List.length v.2.2.2.2.1.2.2.2.2.2.2.1 : Int)))) then
 bif (!(decide (v.2.2.2.1 < (Wr .i64 (v.2.2.2.2.2.2.1 + 2))))) then
 bif ((decide (0 ≤ (Wr .i64 (v.2.2.2.2.2.2.1 + 1)))) && (decide ((Wr .i64 (v.2.2.2.2.2.2.1 + 1)) < (List.length v.2.1 : Int)))) then
 bif (decide ((Int.toNat (Wr .i64 (v.2.2.2.2.2.2.1 + 1))) < (List.length v.2.1))) then
 bif (!(decide (7 < (List.getD v.2.1 (Int.toNat (Wr .i64 (v.2.2.2.2.2.2.1 + 1))) 0)))) then
 bif ((decide (0 ≤ (Wr .i64 (v.2.2.2.2.2.2.1 + 1)))) && (decide ((Wr .i64 (v.2.2.2.2.2.2.1 + 1)) < (List.length v.2.1 : Int)))) then
 bif (decide ((Int.toNat (Wr .i64 (v.2.2.2.2.2.2.1 + 1))) < (List.length v.2.1))) then
 bif (decide (v.2.2.2.1 < (Wr .i64 ((Wr .i64 (v.2.2.2.2.2.2.1 + (Wr .i64 (8 * (Wr .i64 (List.getD v.2.1 (Int.toNat (Wr .i64 (v.2.2.2.2.2.2.1 + 1))) 0)))))) + 8)))) then
 some (Sum.inl ((), kQ, ([] : List Int), 5, ()))
 else
 bif ((decide (0 ≤ (Wr .i64 (v.2.2.2.2.2.2.1 + 1)))) && (decide ((Wr .i64 (v.2.2.2.2.2.2.1 + 1)) < (List.length v.2.1 : Int)))) then
 bif (decide ((Int.toNat (Wr .i64 (v.2.2.2.2.2.2.1 + 1))) < (List.length v.2.1))) then
 bif (((decide (0 ≤ (Wr .i64 (v.2.2.2.2.2.2.1 + 2)))) && (decide ((Wr .i64 (v.2.2.2.2.2.2.1 + 2)) ≤ (Wr .i64 ((Wr .i64 (v.2.2.2.2.2.2.1 + (Wr .i64 (8 * (Wr .i64 (List.getD v.2.1 (Int.toNat (Wr .i64 (v.2.2.2.2.2.2.1 + 1))) 0)))))) + 8))))) && (decide ((Wr .i64 ((Wr .i64 (v.2.2.2.2.2.2.1 + (Wr .i64 (8 * (Wr .i64 (List.getD v.2.1 (Int.toNat (Wr .i64 (v.2.2.2.2.2.2.1 + 1))) 0)))))) + 8)) ≤ (List.length v.2.1 : Int)))) then
 bif (decide ((((0:Nat) + (List.length (List.take ((Int.toNat (Wr .i64 ((Wr .i64 (v.2.2.2.2.2.2.1 + (Wr .i64 (8 * (Wr .i64 (List.getD v.2.1 (Int.toNat (Wr .i64 (v.2.2.2.2.2.2.1 + 1))) 0)))))) + 8))) - (Int.toNat (Wr .i64 (v.2.2.2.2.2.2.1 + 2)))) (List.drop (Int.toNat (Wr .i64 (v.2.2.2.2.2.2.1 + 2))) v.2.1)))) * 1) ≤ (1099511627776:Nat))) then
 bif (decide ((((List.length v.2.2.2.2.1.2.2.2.2.2.2.1) + (1:Nat)) * 32) ≤ (1099511627776:Nat))) then
 bif ((decide (0 ≤ v.2.2.2.2.2.2.1)) && (decide (v.2.2.2.2.2.2.1 < (List.length v.2.1 : Int)))) then
 bif (decide ((Int.toNat v.2.2.2.2.2.2.1) < (List.length v.2.1))) then
 rec ((), v.2.1, v.2.2.1, v.2.2.2.1, (v.2.2.2.2.1.1, v.2.2.2.2.1.2.1, v.2.2.2.2.1.2.2.1, v.2.2.2.2.1.2.2.2.1, v.2.2.2.2.1.2.2.2.2.1, v.2.2.2.2.1.2.2.2.2.2.1, (v.2.2.2.2.1.2.2.2.2.2.2.1 ++ ([(v.2.2.2.2.2.1, (List.take ((Int.toNat (Wr .i64 ((Wr .i64 (v.2.2.2.2.2.2.1 + (Wr .i64 (8 * (Wr .i64 (List.getD v.2.1 (Int.toNat (Wr .i64 (v.2.2.2.2.2.2.1 + 1))) 0)))))) + 8))) - (Int.toNat (Wr .i64 (v.2.2.2.2.2.2.1 + 2)))) (List.drop (Int.toNat (Wr .i64 (v.2.2.2.2.2.2.1 + 2))) v.2.1)), ())] : List aB)), v.2.2.2.2.1.2.2.2.2.2.2.2), (Wr .i64 (List.getD v.2.1 (Int.toNat v.2.2.2.2.2.2.1) 0)), (Wr .i64 ((Wr .i64 (v.2.2.2.2.2.2.1 + (Wr .i64 (8 * (Wr .i64 (List.getD v.2.1 (Int.toNat (Wr .i64 (v.2.2.2.2.2.2.1 + 1))) 0)))))) + 8)), ())
 else none
 else none
 else none
 else none
 else none
 else none
 else none
 else none
 else none
 else
 some (Sum.inl ((), kQ, ([] : List Int), 5, ()))
 else none
 else none
 else
 some (Sum.inl ((), kQ, ([] : List Int), 5, ()))
 else
 some (Sum.inl ((), kQ, ([] : List Int), 5, ()))
 else
 bif (!(decide (v.2.2.2.1 < (Wr .i64 (v.2.2.2.2.2.2.1 + 2))))) then
 bif ((decide (0 ≤ (Wr .i64 (v.2.2.2.2.2.2.1 + 1)))) && (decide ((Wr .i64 (v.2.2.2.2.2.2.1 + 1)) < (List.length v.2.1 : Int)))) then
 bif (decide ((Int.toNat (Wr .i64 (v.2.2.2.2.2.2.1 + 1))) < (List.length v.2.1))) then
 bif (!(decide (7 < (List.getD v.2.1 (Int.toNat (Wr .i64 (v.2.2.2.2.2.2.1 + 1))) 0)))) then
 bif ((decide (0 ≤ (Wr .i64 (v.2.2.2.2.2.2.1 + 1)))) && (decide ((Wr .i64 (v.2.2.2.2.2.2.1 + 1)) < (List.length v.2.1 : Int)))) then
 bif (decide ((Int.toNat (Wr .i64 (v.2.2.2.2.2.2.1 + 1))) < (List.length v.2.1))) then
 bif (decide (v.2.2.2.1 < (Wr .i64 ((Wr .i64 (v.2.2.2.2.2.2.1 + (Wr .i64 (8 * (Wr .i64 (List.getD v.2.1 (Int.toNat (Wr .i64 (v.2.2.2.2.2.2.1 + 1))) 0)))))) + 8)))) then
 some (Sum.inl ((), kQ, ([] : List Int), 5, ()))
 else
 bif ((decide (0 ≤ (Wr .i64 (v.2.2.2.2.2.2.1 + 1)))) && (decide ((Wr .i64 (v.2.2.2.2.2.2.1 + 1)) < (List.length v.2.1 : Int)))) then
 bif (decide ((Int.toNat (Wr .i64 (v.2.2.2.2.2.2.1 + 1))) < (List.length v.2.1))) then
 bif (((decide (0 ≤ (Wr .i64 (v.2.2.2.2.2.2.1 + 2)))) && (decide ((Wr .i64 (v.2.2.2.2.2.2.1 + 2)) ≤ (Wr .i64 ((Wr .i64 (v.2.2.2.2.2.2.1 + (Wr .i64 (8 * (Wr .i64 (List.getD v.2.1 (Int.toNat (Wr .i64 (v.2.2.2.2.2.2.1 + 1))) 0)))))) + 8))))) && (decide ((Wr .i64 ((Wr .i64 (v.2.2.2.2.2.2.1 + (Wr .i64 (8 * (Wr .i64 (List.getD v.2.1 (Int.toNat (Wr .i64 (v.2.2.2.2.2.2.1 + 1))) 0)))))) + 8)) ≤ (List.length v.2.1 : Int)))) then
 bif (decide ((((0:Nat) + (List.length (List.take ((Int.toNat (Wr .i64 ((Wr .i64 (v.2.2.2.2.2.2.1 + (Wr .i64 (8 * (Wr .i64 (List.getD v.2.1 (Int.toNat (Wr .i64 (v.2.2.2.2.2.2.1 + 1))) 0)))))) + 8))) - (Int.toNat (Wr .i64 (v.2.2.2.2.2.2.1 + 2)))) (List.drop (Int.toNat (Wr .i64 (v.2.2.2.2.2.2.1 + 2))) v.2.1)))) * 1) ≤ (1099511627776:Nat))) then
 bif (decide ((((List.length v.2.2.2.2.1.2.2.2.2.2.2.1) + (1:Nat)) * 32) ≤ (1099511627776:Nat))) then
 bif ((decide (0 ≤ v.2.2.2.2.2.2.1)) && (decide (v.2.2.2.2.2.2.1 < (List.length v.2.1 : Int)))) then
 bif (decide ((Int.toNat v.2.2.2.2.2.2.1) < (List.length v.2.1))) then
 rec ((), v.2.1, v.2.2.1, v.2.2.2.1, (v.2.2.2.2.1.1, v.2.2.2.2.1.2.1, v.2.2.2.2.1.2.2.1, v.2.2.2.2.1.2.2.2.1, v.2.2.2.2.1.2.2.2.2.1, v.2.2.2.2.1.2.2.2.2.2.1, (v.2.2.2.2.1.2.2.2.2.2.2.1 ++ ([(v.2.2.2.2.2.1, (List.take ((Int.toNat (Wr .i64 ((Wr .i64 (v.2.2.2.2.2.2.1 + (Wr .i64 (8 * (Wr .i64 (List.getD v.2.1 (Int.toNat (Wr .i64 (v.2.2.2.2.2.2.1 + 1))) 0)))))) + 8))) - (Int.toNat (Wr .i64 (v.2.2.2.2.2.2.1 + 2)))) (List.drop (Int.toNat (Wr .i64 (v.2.2.2.2.2.2.1 + 2))) v.2.1)), ())] : List aB)), v.2.2.2.2.1.2.2.2.2.2.2.2), (Wr .i64 (List.getD v.2.1 (Int.toNat v.2.2.2.2.2.2.1) 0)), (Wr .i64 ((Wr .i64 (v.2.2.2.2.2.2.1 + (Wr .i64 (8 * (Wr .i64 (List.getD v.2.1 (Int.toNat (Wr .i64 (v.2.2.2.2.2.2.1 + 1))) 0)))))) + 8)), ())
 else none
 else none
 else none
 else none
 else none
 else none
 else none
 else none
 else none
 else
 some (Sum.inl ((), kQ, ([] : List Int), 5, ()))
 else none
 else none
 else
 some (Sum.inl ((), kQ, ([] : List Int), 5, ()))
 else
 some (Sum.inl ((), kQ, ([] : List Int), 5, ()))
 else
 some (Sum.inr ((), v.2))
def ko (k : Nat) (x0 : (List Int)) : Option ((bc × ((List Int) × (Int × Unit))) × Unit) :=
 bif (decide (1600 < (List.length x0 : Int))) then
 some ((kQ, ([] : List Int), 1, ()), ())
 else
 bif (decide ((List.length x0 : Int) < 40)) then
 some ((kQ, ([] : List Int), 2, ()), ())
 else
 bif (decide (0 < (List.length x0 : Int))) then
 bif (decide ((0:Nat) < (List.length x0))) then
 bif (!(decide ((Wr .u8 (Int.tdiv (List.getD x0 (0:Nat) 0) 16)) = 6))) then
 some ((kQ, ([] : List Int), 3, ()), ())
 else
 (aN x0 4).bind fun t1 =>
 bif (!(decide (1500 < (Wr .i64 (40 + t1.1.1))))) then
 bif (decide ((List.length x0 : Int) < (Wr .i64 (40 + t1.1.1)))) then
 some ((kQ, ([] : List Int), 4, ()), ())
 else
 (cH k x0 0).bind fun t2 =>
 bif (decide (7 < (List.length x0 : Int))) then
 bif (decide ((7:Nat) < (List.length x0))) then
 bif (decide (24 ≤ (List.length x0 : Int))) then
 (fy k (List.take (16:Nat) (List.drop (8:Nat) x0))).bind fun t3 =>
 bif (decide (40 ≤ (List.length x0 : Int))) then
 (fy k (List.take (16:Nat) (List.drop (24:Nat) x0))).bind fun t4 =>
 bif (decide (6 < (List.length x0 : Int))) then
 bif (decide ((6:Nat) < (List.length x0))) then
 (iter (dJ) k ((), x0, kQ, (Wr .i64 (40 + t1.1.1)), ((Int.tmod (Wr .i64 (Int.tdiv t2.1.1 1048576)) 256), (Int.tmod t2.1.1 1048576), (Wr .i64 (List.getD x0 (7:Nat) 0)), 0, t3.1.1, t4.1.1, ([] : List aB), ([] : List Int), ()), (Wr .i64 (List.getD x0 (6:Nat) 0)), 40, ())).bind fun o5 =>
 Sum.elim (fun a6 =>
 some (a6.2, ()))
 (fun b7 =>
 bif (((decide (0 ≤ b7.2.2.2.2.2.2.1)) && (decide (b7.2.2.2.2.2.2.1 ≤ b7.2.2.2.1))) && (decide (b7.2.2.2.1 ≤ (List.length b7.2.1 : Int)))) then
 bif (decide ((((0:Nat) + (List.length (List.take ((Int.toNat b7.2.2.2.1) - (Int.toNat b7.2.2.2.2.2.2.1)) (List.drop (Int.toNat b7.2.2.2.2.2.2.1) b7.2.1)))) * 1) ≤ (1099511627776:Nat))) then
 bif (((decide (0 ≤ b7.2.2.2.1)) && (decide (b7.2.2.2.1 ≤ (List.length b7.2.1 : Int)))) && (decide ((List.length b7.2.1 : Int) ≤ (List.length b7.2.1 : Int)))) then
 bif (decide ((((0:Nat) + (List.length (List.take ((List.length b7.2.1) - (Int.toNat b7.2.2.2.1)) (List.drop (Int.toNat b7.2.2.2.1) b7.2.1)))) * 1) ≤ (1099511627776:Nat))) then
 some (((b7.2.2.2.2.1.1, b7.2.2.2.2.1.2.1, b7.2.2.2.2.1.2.2.1, b7.2.2.2.2.2.1, b7.2.2.2.2.1.2.2.2.2.1, b7.2.2.2.2.1.2.2.2.2.2.1, b7.2.2.2.2.1.2.2.2.2.2.2.1, (List.take ((Int.toNat b7.2.2.2.1) - (Int.toNat b7.2.2.2.2.2.2.1)) (List.drop (Int.toNat b7.2.2.2.2.2.2.1) b7.2.1)), ()), (List.take ((List.length b7.2.1) - (Int.toNat b7.2.2.2.1)) (List.drop (Int.toNat b7.2.2.2.1) b7.2.1)), 0, ()), ())
 else none
 else none
 else none
 else none) o5
 else none
 else none
 else none
 else none
 else none
 else none
 else
 some ((kQ, ([] : List Int), 4, ()), ())
 else none
 else none
abbrev eu (k : Nat) (t3 : ((Int × Unit) × Unit)) (x0 : (List Int)) (x2 : ar) (x3 : ar) : Option ((aF × (Int × Unit)) × Unit) :=
 bif (decide (t3.1.1 = 1)) then
 bif (decide (12 < (List.length x0 : Int))) then
 bif (decide ((12:Nat) < (List.length x0))) then
 bif (!(decide ((Wr .i64 (4 * (Wr .i64 (Int.tdiv (Wr .i64 (List.getD x0 (12:Nat) 0)) 16)))) < 20))) then
 bif (decide ((List.length x0 : Int) < (Wr .i64 (4 * (Wr .i64 (Int.tdiv (Wr .i64 (List.getD x0 (12:Nat) 0)) 16)))))) then
 some ((pI, 4, ()), ())
 else
 (aN x0 0).bind fun t4 =>
 (aN x0 2).bind fun t5 =>
 (cH k x0 4).bind fun t6 =>
 (cH k x0 8).bind fun t7 =>
 (aN x0 12).bind fun t8 =>
 (aN x0 14).bind fun t9 =>
 (aN x0 16).bind fun t10 =>
 (aN x0 18).bind fun t11 =>
 bif ((decide (20 ≤ (Wr .i64 (4 * (Wr .i64 (Int.tdiv (Wr .i64 (List.getD x0 (12:Nat) 0)) 16)))))) && (decide ((Wr .i64 (4 * (Wr .i64 (Int.tdiv (Wr .i64 (List.getD x0 (12:Nat) 0)) 16)))) ≤ (List.length x0 : Int)))) then
 bif (decide ((((0:Nat) + (List.length (List.take ((Int.toNat (Wr .i64 (4 * (Wr .i64 (Int.tdiv (Wr .i64 (List.getD x0 (12:Nat) 0)) 16))))) - (20:Nat)) (List.drop (20:Nat) x0)))) * 1) ≤ (1099511627776:Nat))) then
 bif (((decide (0 ≤ (Wr .i64 (4 * (Wr .i64 (Int.tdiv (Wr .i64 (List.getD x0 (12:Nat) 0)) 16)))))) && (decide ((Wr .i64 (4 * (Wr .i64 (Int.tdiv (Wr .i64 (List.getD x0 (12:Nat) 0)) 16)))) ≤ (List.length x0 : Int)))) && (decide ((List.length x0 : Int) ≤ (List.length x0 : Int)))) then
 bif (decide ((((0:Nat) + (List.length (List.take ((List.length x0) - (Int.toNat (Wr .i64 (4 * (Wr .i64 (Int.tdiv (Wr .i64 (List.getD x0 (12:Nat) 0)) 16)))))) (List.drop (Int.toNat (Wr .i64 (4 * (Wr .i64 (Int.tdiv (Wr .i64 (List.getD x0 (12:Nat) 0)) 16))))) x0)))) * 1) ≤ (1099511627776:Nat))) then
 (ba k (t3.1.1, t4.1.1, t5.1.1, t6.1.1, t7.1.1, (Int.tmod t8.1.1 4096), t9.1.1, t11.1.1, 0, 0, 0, false, (List.take ((Int.toNat (Wr .i64 (4 * (Wr .i64 (Int.tdiv (Wr .i64 (List.getD x0 (12:Nat) 0)) 16))))) - (20:Nat)) (List.drop (20:Nat) x0)), (List.take ((List.length x0) - (Int.toNat (Wr .i64 (4 * (Wr .i64 (Int.tdiv (Wr .i64 (List.getD x0 (12:Nat) 0)) 16)))))) (List.drop (Int.toNat (Wr .i64 (4 * (Wr .i64 (Int.tdiv (Wr .i64 (List.getD x0 (12:Nat) 0)) 16))))) x0)), ()) x2 x3).bind fun t12 =>
 bif (!(decide (t10.1.1 = t12.1.1))) then
 some ((pI, 6, ()), ())
 else
 some (((t3.1.1, t4.1.1, t5.1.1, t6.1.1, t7.1.1, (Int.tmod t8.1.1 4096), t9.1.1, t11.1.1, 0, 0, 0, false, (List.take ((Int.toNat (Wr .i64 (4 * (Wr .i64 (Int.tdiv (Wr .i64 (List.getD x0 (12:Nat) 0)) 16))))) - (20:Nat)) (List.drop (20:Nat) x0)), (List.take ((List.length x0) - (Int.toNat (Wr .i64 (4 * (Wr .i64 (Int.tdiv (Wr .i64 (List.getD x0 (12:Nat) 0)) 16)))))) (List.drop (Int.toNat (Wr .i64 (4 * (Wr .i64 (Int.tdiv (Wr .i64 (List.getD x0 (12:Nat) 0)) 16))))) x0)), ()), 0, ()), ())
 else none
 else none
 else none
 else none
 else
 some ((pI, 4, ()), ())
 else none
 else none
 else
 bif (decide (t3.1.1 = 2)) then
 (aN x0 4).bind fun t13 =>
 bif (!(decide (t13.1.1 = (List.length x0 : Int)))) then
 some ((pI, 5, ()), ())
 else
 (aN x0 0).bind fun t14 =>
 (aN x0 2).bind fun t15 =>
 (aN x0 6).bind fun t16 =>
 bif (decide (t16.1.1 = 0)) then
 bif ((decide (8 ≤ (List.length x0 : Int))) && (decide ((List.length x0 : Int) ≤ (List.length x0 : Int)))) then
 bif (decide ((((0:Nat) + (List.length (List.take ((List.length x0) - (8:Nat)) (List.drop (8:Nat) x0)))) * 1) ≤ (1099511627776:Nat))) then
 (ba k (t3.1.1, t14.1.1, t15.1.1, 0, 0, 0, 0, 0, 0, 0, 0, (decide (x2.1 = 4)), ([] : List Int), (List.take ((List.length x0) - (8:Nat)) (List.drop (8:Nat) x0)), ()) x2 x3).bind fun t17 =>
 bif (!(decide (t16.1.1 = t17.1.1))) then
 some ((pI, 6, ()), ())
 else
 some (((t3.1.1, t14.1.1, t15.1.1, 0, 0, 0, 0, 0, 0, 0, 0, (decide (x2.1 = 4)), ([] : List Int), (List.take ((List.length x0) - (8:Nat)) (List.drop (8:Nat) x0)), ()), 0, ()), ())
 else none
 else none
 else
 bif ((decide (8 ≤ (List.length x0 : Int))) && (decide ((List.length x0 : Int) ≤ (List.length x0 : Int)))) then
 bif (decide ((((0:Nat) + (List.length (List.take ((List.length x0) - (8:Nat)) (List.drop (8:Nat) x0)))) * 1) ≤ (1099511627776:Nat))) then
 (ba k (t3.1.1, t14.1.1, t15.1.1, 0, 0, 0, 0, 0, 0, 0, 0, false, ([] : List Int), (List.take ((List.length x0) - (8:Nat)) (List.drop (8:Nat) x0)), ()) x2 x3).bind fun t18 =>
 bif (!(decide (t16.1.1 = t18.1.1))) then
 some ((pI, 6, ()), ())
 else
 some (((t3.1.1, t14.1.1, t15.1.1, 0, 0, 0, 0, 0, 0, 0, 0, false, ([] : List Int), (List.take ((List.length x0) - (8:Nat)) (List.drop (8:Nat) x0)), ()), 0, ()), ())
 else none
 else none
 else
 bif (decide (t3.1.1 = 3)) then
 bif (decide (0 < (List.length x0 : Int))) then
 bif (decide ((0:Nat) < (List.length x0))) then
 bif (decide (1 < (List.length x0 : Int))) then
 bif (decide ((1:Nat) < (List.length x0))) then
 (aN x0 2).bind fun t19 =>
 (cH k x0 4).bind fun t20 =>
 bif ((decide (8 ≤ (List.length x0 : Int))) && (decide ((List.length x0 : Int) ≤ (List.length x0 : Int)))) then
 bif (decide ((((0:Nat) + (List.length (List.take ((List.length x0) - (8:Nat)) (List.drop (8:Nat) x0)))) * 1) ≤ (1099511627776:Nat))) then
 (ba k (t3.1.1, 0, 0, 0, 0, 0, 0, 0, (Wr .i64 (List.getD x0 (0:Nat) 0)), (Wr .i64 (List.getD x0 (1:Nat) 0)), t20.1.1, false, ([] : List Int), (List.take ((List.length x0) - (8:Nat)) (List.drop (8:Nat) x0)), ()) x2 x3).bind fun t21 =>
 bif (!(decide (t19.1.1 = t21.1.1))) then
 some ((pI, 6, ()), ())
 else
 some (((t3.1.1, 0, 0, 0, 0, 0, 0, 0, (Wr .i64 (List.getD x0 (0:Nat) 0)), (Wr .i64 (List.getD x0 (1:Nat) 0)), t20.1.1, false, ([] : List Int), (List.take ((List.length x0) - (8:Nat)) (List.drop (8:Nat) x0)), ()), 0, ()), ())
 else none
 else none
 else none
 else none
 else none
 else none
 else
 bif ((decide (8 ≤ (List.length x0 : Int))) && (decide ((List.length x0 : Int) ≤ (List.length x0 : Int)))) then
 bif (decide ((((0:Nat) + (List.length (List.take ((List.length x0) - (8:Nat)) (List.drop (8:Nat) x0)))) * 1) ≤ (1099511627776:Nat))) then
 (ba k (t3.1.1, 0, 0, 0, 0, 0, 0, 0, 0, 0, 0, false, ([] : List Int), (List.take ((List.length x0) - (8:Nat)) (List.drop (8:Nat) x0)), ()) x2 x3).bind fun t22 =>
 bif (!(decide (0 = t22.1.1))) then
 some ((pI, 6, ()), ())
 else
 some (((t3.1.1, 0, 0, 0, 0, 0, 0, 0, 0, 0, 0, false, ([] : List Int), (List.take ((List.length x0) - (8:Nat)) (List.drop (8:Nat) x0)), ()), 0, ()), ())
 else none
 else none
def dx (k : Nat) (x0 : (List Int)) (x1 : Int) (x2 : ar) (x3 : ar) : Option ((aF × (Int × Unit)) × Unit) :=
 bif (decide (1500 < (List.length x0 : Int))) then
 some ((pI, 1, ()), ())
 else
 (ij x2 x3).bind fun t1 =>
 bif (!(!t1.1.1)) then
 (bo x1 255).bind fun t2 =>
 bif (!t2.1.1) then
 some ((pI, 2, ()), ())
 else
 (db x1 x2.1).bind fun t3 =>
 bif (decide (t3.1.1 = 0)) then
 bif (decide ((((0:Nat) + (List.length x0)) * 1) ≤ (1099511627776:Nat))) then
 some (((t3.1.1, 0, 0, 0, 0, 0, 0, 0, 0, 0, 0, false, ([] : List Int), x0, ()), 0, ()), ())
 else none
 else
 bif (!(decide ((List.length x0 : Int) < 8))) then
 bif (decide (t3.1.1 = 1)) then
 bif (decide ((List.length x0 : Int) < 20)) then
 some ((pI, 3, ()), ())
 else
 eu k t3 x0 x2 x3
 else
 eu k t3 x0 x2 x3
 else
 some ((pI, 3, ()), ())
 else
 some ((pI, 2, ()), ())
def iM (k : Nat) (x0 : (List Int)) : Option ((aj × (Int × Unit)) × Unit) :=
 (jd k x0).bind fun t1 =>
 bif (!(decide (t1.1.2.1 = 0))) then
 some ((oK, (Wr .i64 (10 + t1.1.2.1)), ()), ())
 else
 bif (decide (t1.1.1.2.2.2.1 = 2048)) then
 (jI k t1.1.1.2.2.2.2.1).bind fun t2 =>
 bif (!(decide (t2.1.2.2.1 = 0))) then
 some ((oK, (Wr .i64 (20 + t2.1.2.2.1)), ()), ())
 else
 (fX t2.1.1).bind fun t3 =>
 bif t3.1.1 then
 some (((4, (t1.1.1.1, t1.1.1.2.1, t1.1.1.2.2.1, t1.1.1.2.2.2.1, ([] : List Int), ()), (t2.1.1.1, t2.1.1.2.1, t2.1.1.2.2.1, t2.1.1.2.2.2.1, t2.1.1.2.2.2.2.1, t2.1.1.2.2.2.2.2.1, t2.1.1.2.2.2.2.2.2.1, t2.1.1.2.2.2.2.2.2.2.1, t2.1.1.2.2.2.2.2.2.2.2.1, t2.1.1.2.2.2.2.2.2.2.2.2.1, ([] : List Int), ()), kQ, (0, 0, 0, 0, 0, 0, 0, 0, 0, 0, 0, false, ([] : List Int), t2.1.1.2.2.2.2.2.2.2.2.2.2), t2.1.2.1, ()), 0, ()), ())
 else
 (bJ (4, (t1.1.1.1, t1.1.1.2.1, t1.1.1.2.2.1, t1.1.1.2.2.2.1, ([] : List Int), ()), (t2.1.1.1, t2.1.1.2.1, t2.1.1.2.2.1, t2.1.1.2.2.2.1, t2.1.1.2.2.2.2.1, t2.1.1.2.2.2.2.2.1, t2.1.1.2.2.2.2.2.2.1, t2.1.1.2.2.2.2.2.2.2.1, t2.1.1.2.2.2.2.2.2.2.2.1, t2.1.1.2.2.2.2.2.2.2.2.2.1, ([] : List Int), ()), kQ, pI, t2.1.2.1, ())).bind fun t4 =>
 (bK (4, (t1.1.1.1, t1.1.1.2.1, t1.1.1.2.2.1, t1.1.1.2.2.2.1, ([] : List Int), ()), (t2.1.1.1, t2.1.1.2.1, t2.1.1.2.2.1, t2.1.1.2.2.2.1, t2.1.1.2.2.2.2.1, t2.1.1.2.2.2.2.2.1, t2.1.1.2.2.2.2.2.2.1, t2.1.1.2.2.2.2.2.2.2.1, t2.1.1.2.2.2.2.2.2.2.2.1, t2.1.1.2.2.2.2.2.2.2.2.2.1, ([] : List Int), ()), kQ, pI, t2.1.2.1, ())).bind fun t5 =>
 (dx k t2.1.1.2.2.2.2.2.2.2.2.2.2.1 t2.1.1.2.2.2.2.2.2.1 t4.1.1 t5.1.1).bind fun t6 =>
 bif (!(decide (t6.1.2.1 = 0))) then
 some ((oK, (Wr .i64 (40 + t6.1.2.1)), ()), ())
 else
 some (((4, (t1.1.1.1, t1.1.1.2.1, t1.1.1.2.2.1, t1.1.1.2.2.2.1, ([] : List Int), ()), (t2.1.1.1, t2.1.1.2.1, t2.1.1.2.2.1, t2.1.1.2.2.2.1, t2.1.1.2.2.2.2.1, t2.1.1.2.2.2.2.2.1, t2.1.1.2.2.2.2.2.2.1, t2.1.1.2.2.2.2.2.2.2.1, t2.1.1.2.2.2.2.2.2.2.2.1, t2.1.1.2.2.2.2.2.2.2.2.2.1, ([] : List Int), ()), kQ, t6.1.1, t2.1.2.1, ()), 0, ()), ())
 else
 bif (decide (t1.1.1.2.2.2.1 = 34525)) then
 (ko k t1.1.1.2.2.2.2.1).bind fun t7 =>
 bif (!(decide (t7.1.2.2.1 = 0))) then
 some ((oK, (Wr .i64 (30 + t7.1.2.2.1)), ()), ())
 else
 (bJ (6, (t1.1.1.1, t1.1.1.2.1, t1.1.1.2.2.1, t1.1.1.2.2.2.1, ([] : List Int), ()), ra, (t7.1.1.1, t7.1.1.2.1, t7.1.1.2.2.1, t7.1.1.2.2.2.1, t7.1.1.2.2.2.2.1, t7.1.1.2.2.2.2.2.1, t7.1.1.2.2.2.2.2.2.1, ([] : List Int), ()), pI, t7.1.2.1, ())).bind fun t8 =>
 (bK (6, (t1.1.1.1, t1.1.1.2.1, t1.1.1.2.2.1, t1.1.1.2.2.2.1, ([] : List Int), ()), ra, (t7.1.1.1, t7.1.1.2.1, t7.1.1.2.2.1, t7.1.1.2.2.2.1, t7.1.1.2.2.2.2.1, t7.1.1.2.2.2.2.2.1, t7.1.1.2.2.2.2.2.2.1, ([] : List Int), ()), pI, t7.1.2.1, ())).bind fun t9 =>
 (dx k t7.1.1.2.2.2.2.2.2.2.1 t7.1.1.2.2.2.1 t8.1.1 t9.1.1).bind fun t10 =>
 bif (!(decide (t10.1.2.1 = 0))) then
 some ((oK, (Wr .i64 (40 + t10.1.2.1)), ()), ())
 else
 some (((6, (t1.1.1.1, t1.1.1.2.1, t1.1.1.2.2.1, t1.1.1.2.2.2.1, ([] : List Int), ()), ra, (t7.1.1.1, t7.1.1.2.1, t7.1.1.2.2.1, t7.1.1.2.2.2.1, t7.1.1.2.2.2.2.1, t7.1.1.2.2.2.2.2.1, t7.1.1.2.2.2.2.2.2.1, ([] : List Int), ()), t10.1.1, t7.1.2.1, ()), 0, ()), ())
 else
 some ((oK, 50, ()), ())
def jJ (k : Nat) (x0 : aj) : Option ((aj × Unit) × Unit) :=
 (di k x0).bind fun t1 =>
 (iM k t1.1.1).bind fun t2 =>
 some ((t2.1.1, ()), ())
def Sd (k : Nat) (x0 : aj) : Option ((Int × Unit) × Unit) :=
 (dP k x0).bind fun t1 =>
 bif (!t1.1.1) then
 some (((-1), ()), ())
 else
 (di k x0).bind fun t2 =>
 some (((List.length t2.1.1 : Int), ()), ())
def mc (x0 : Int) : Option ((Int × (Int × Unit)) × Unit) :=
 (bo x0 255).bind fun t1 =>
 bif (!t1.1.1) then
 some (((-1), (-1), ()), ())
 else
 some (((Wr .i64 (Int.tdiv x0 4)), (Int.tmod x0 4), ()), ())
def jV (x0 : aj) : Option ((Int × (Int × Unit)) × Unit) :=
 bif (decide (x0.1 = 4)) then
 some ((x0.2.2.1.1, x0.2.2.1.2.1, ()), ())
 else
 (mc x0.2.2.2.1.1).bind fun t1 =>
 some (t1.1, ())
def jq (k : Nat) (x0 : aj) : Option ((qZ × Unit) × Unit) :=
 (dP k x0).bind fun t1 =>
 bif (!t1.1.1) then
 some ((((0, 0, 0, 0, 0, ()), (0, 0, 0, 0, 0, ()), 0, 0, 0, ()), ()), ())
 else
 (bJ x0).bind fun t2 =>
 (bK x0).bind fun t3 =>
 bif (decide (x0.1 = 6)) then
 some (((t2.1.1, t3.1.1, x0.2.2.2.1.2.2.2.1, x0.2.2.2.2.1.2.1, x0.2.2.2.2.1.2.2.1, ()), ()), ())
 else
 some (((t2.1.1, t3.1.1, x0.2.2.1.2.2.2.2.2.2.1, x0.2.2.2.2.1.2.1, x0.2.2.2.2.1.2.2.1, ()), ()), ())
def dV (k : Nat) (x0 : bx) (x1 : ar) : Option ((Bool × Unit) × Unit) :=
 (eP k x0).bind fun t1 =>
 bif (!(!t1.1.1)) then
 (dh x1).bind fun t2 =>
 bif (!t2.1.1) then
 some ((false, ()), ())
 else
 (gl x0).bind fun t3 =>
 bif (!t3.1.1) then
 bif (decide (x0.1.1 = x1.1)) then
 (lG k x1 x0.2.1).bind fun t4 =>
 some ((((decide (t4.1.1.1 = x0.1.1)) && ((decide (t4.1.1.2.1 = x0.1.2.1)) && ((decide (t4.1.1.2.2.1 = x0.1.2.2.1)) && ((decide (t4.1.1.2.2.2.1 = x0.1.2.2.2.1)) && ((decide (t4.1.1.2.2.2.2.1 = x0.1.2.2.2.2.1)) && true))))), ()), ())
 else
 some ((false, ()), ())
 else
 some ((true, ()), ())
 else
 some ((false, ()), ())
def je (k : Nat) (x0 : aV) (x1 : qZ) : Option ((Bool × Unit) × Unit) :=
 (dV k x0.2.1 x1.1).bind fun t1 =>
 bif t1.1.1 then
 (dV k x0.2.2.1 x1.2.1).bind fun t2 =>
 bif t2.1.1 then
 bif (!(decide (x0.2.2.2.1 = (-1)))) then
 bif (decide (x0.2.2.2.1 = x1.2.2.1)) then
 bif (decide (x0.2.2.2.2.1 ≤ x1.2.2.2.2.1)) then
 some (((decide (x1.2.2.2.2.1 ≤ x0.2.2.2.2.2.1)), ()), ())
 else
 some ((false, ()), ())
 else
 some ((false, ()), ())
 else
 bif (decide (x0.2.2.2.2.1 ≤ x1.2.2.2.2.1)) then
 some (((decide (x1.2.2.2.2.1 ≤ x0.2.2.2.2.2.1)), ()), ())
 else
 some ((false, ()), ())
 else
 some ((false, ()), ())
 else
 some ((false, ()), ())
def cC (rec : (Unit × (ar × ((List Int) × ((List Int) × ((List Int) × (Int × Unit)))))) → Option ((Unit × (ar × ((List Int) × Unit))))) (v : (Unit × (ar × ((List Int) × ((List Int) × ((List Int) × (Int × Unit))))))) : Option ((Unit × (ar × ((List Int) × Unit)))) :=
 bif (decide (v.2.2.2.2.2.1 < (List.length v.2.2.1 : Int))) then
 bif ((decide (0 ≤ v.2.2.2.2.2.1)) && (decide (v.2.2.2.2.2.1 < (List.length v.2.2.2.2.1 : Int)))) then
 bif (decide ((Int.toNat v.2.2.2.2.2.1) < (List.length v.2.2.2.2.1))) then
 bif ((decide (0 ≤ v.2.2.2.2.2.1)) && (decide (v.2.2.2.2.2.1 < (List.length v.2.2.1 : Int)))) then
 bif (decide ((Int.toNat v.2.2.2.2.2.1) < (List.length v.2.2.1))) then
 bif ((decide (0 ≤ v.2.2.2.2.2.1)) && (decide (v.2.2.2.2.2.1 < (List.length v.2.2.2.1 : Int)))) then
 bif (decide ((Int.toNat v.2.2.2.2.2.1) < (List.length v.2.2.2.1))) then
 bif ((decide (0 ≤ v.2.2.2.2.2.1)) && (decide (v.2.2.2.2.2.1 < (List.length v.2.2.1 : Int)))) then
 bif (decide ((Int.toNat v.2.2.2.2.2.1) < (List.length v.2.2.1))) then
 let y7 : (List Int) := (List.set v.2.2.1 (Int.toNat v.2.2.2.2.2.1) (Wr .u8 ((List.getD v.2.2.2.2.1 (Int.toNat v.2.2.2.2.2.1) 0) + (Wr .u8 ((List.getD v.2.2.1 (Int.toNat v.2.2.2.2.2.1) 0) - (List.getD v.2.2.2.1 (Int.toNat v.2.2.2.2.2.1) 0))))))
 rec ((), v.2.1, y7, v.2.2.2.1, v.2.2.2.2.1, (Wr .i64 (v.2.2.2.2.2.1 + 1)), ())
 else none
 else none
 else none
 else none
 else none
 else none
 else none
 else none
 else
 some ((), v.2.1, v.2.2.1, ())
def jf (k : Nat) (x0 : bx) (x1 : bx) (x2 : ar) : Option ((ar × Unit) × Unit) :=
 (gD k x0 x1).bind fun t1 =>
 bif (!(!t1.1.1)) then
 (dV k x0 x2).bind fun t2 =>
 bif (!t2.1.1) then
 some (((0, 0, 0, 0, 0, ()), ()), ())
 else
 (cA x2).bind fun t3 =>
 (lG k x2 x0.2.1).bind fun t4 =>
 (cA t4.1.1).bind fun t5 =>
 (cA x1.1).bind fun t6 =>
 (iter (cC) k ((), (0, 0, 0, 0, 0, ()), t3.1.1, t5.1.1, t6.1.1, 0, ())).bind fun o7 =>
 (fy k o7.2.2.1).bind fun t8 =>
 some ((t8.1.1, ()), ())
 else
 some (((0, 0, 0, 0, 0, ()), ()), ())
def lx (x0 : aj) (x1 : ar) (x2 : ar) : Option ((aj × Unit) × (aj × Unit)) :=
 bif (decide (x0.1 = 4)) then
 some (((x0.1, x0.2.1, (x0.2.2.1.1, x0.2.2.1.2.1, x0.2.2.1.2.2.1, x0.2.2.1.2.2.2.1, x0.2.2.1.2.2.2.2.1, x0.2.2.1.2.2.2.2.2.1, x0.2.2.1.2.2.2.2.2.2.1, x1, x2, x0.2.2.1.2.2.2.2.2.2.2.2.2), x0.2.2.2), ()), oK, ())
 else
 some (((x0.1, x0.2.1, x0.2.2.1, (x0.2.2.2.1.1, x0.2.2.2.1.2.1, x0.2.2.2.1.2.2.1, x0.2.2.2.1.2.2.2.1, x1, x2, x0.2.2.2.1.2.2.2.2.2.2), x0.2.2.2.2), ()), oK, ())
def dB (x0 : aj) (x1 : Int) (x2 : Int) : Option ((aj × Unit) × (aj × Unit)) :=
 bif (decide (x0.1 = 4)) then
 some (((x0.1, x0.2.1, (x1, x2, x0.2.2.1.2.2), x0.2.2.2), ()), oK, ())
 else
 some (((x0.1, x0.2.1, x0.2.2.1, ((Wr .i64 ((Wr .i64 (4 * x1)) + x2)), x0.2.2.2.1.2), x0.2.2.2.2), ()), oK, ())
abbrev lI : Option ((aj × (Int × Unit)) × Unit) :=
 some ((oK, 1, ()), ())
def dQ (k : Nat) (x0 : aV) (x1 : aj) : Option ((aj × (Int × Unit)) × Unit) :=
 (jF k x0).bind fun t1 =>
 bif (!(!t1.1.1)) then
 (dP k x1).bind fun t2 =>
 bif (!t2.1.1) then
 lI
 else
 (jJ k x1).bind fun t3 =>
 (bJ t3.1.1).bind fun t4 =>
 (bK t3.1.1).bind fun t5 =>
 (jV t3.1.1).bind fun t6 =>
 bif (decide (x0.1 = 1)) then
 (jq k t3.1.1).bind fun t7 =>
 (je k x0 t7.1.1).bind fun t8 =>
 bif t8.1.1 then
 some ((oK, 2, ()), ())
 else
 some ((t3.1.1, 0, ()), ())
 else
 bif (decide (x0.1 = 2)) then
 (dV k x0.2.1 t4.1.1).bind fun t9 =>
 bif t9.1.1 then
 (jf k x0.2.1 x0.2.2.1 t4.1.1).bind fun t10 =>
 (lx t3.1.1 t10.1.1 t5.1.1).bind fun t11 =>
 some ((t11.1.1, 0, ()), ())
 else
 some ((t3.1.1, 0, ()), ())
 else
 bif (decide (x0.1 = 3)) then
 (dV k x0.2.1 t5.1.1).bind fun t12 =>
 bif t12.1.1 then
 (jf k x0.2.1 x0.2.2.1 t5.1.1).bind fun t13 =>
 (lx t3.1.1 t4.1.1 t13.1.1).bind fun t14 =>
 some ((t14.1.1, 0, ()), ())
 else
 some ((t3.1.1, 0, ()), ())
 else
 bif (decide (x0.1 = 4)) then
 bif (decide ((Wr .i64 (t3.1.1.2.2.1.2.2.2.2.2.1 + t3.1.1.2.2.2.1.2.2.1)) < 2)) then
 some ((oK, 3, ()), ())
 else
 bif (decide (t3.1.1.1 = 4)) then
 some (((t3.1.1.1, t3.1.1.2.1, (t3.1.1.2.2.1.1, t3.1.1.2.2.1.2.1, t3.1.1.2.2.1.2.2.1, t3.1.1.2.2.1.2.2.2.1, t3.1.1.2.2.1.2.2.2.2.1, (Wr .i64 (t3.1.1.2.2.1.2.2.2.2.2.1 - 1)), t3.1.1.2.2.1.2.2.2.2.2.2), t3.1.1.2.2.2), 0, ()), ())
 else
 some (((t3.1.1.1, t3.1.1.2.1, t3.1.1.2.2.1, (t3.1.1.2.2.2.1.1, t3.1.1.2.2.2.1.2.1, (Wr .i64 (t3.1.1.2.2.2.1.2.2.1 - 1)), t3.1.1.2.2.2.1.2.2.2), t3.1.1.2.2.2.2), 0, ()), ())
 else
 bif (decide (x0.1 = 5)) then
 (dB t3.1.1 x0.2.2.2.2.2.2.1 t6.1.2.1).bind fun t15 =>
 some ((t15.1.1, 0, ()), ())
 else
 bif (decide (x0.1 = 6)) then
 bif (!(decide (t6.1.2.1 = 1))) then
 bif (decide (t6.1.2.1 = 2)) then
 (dB t3.1.1 t6.1.1 3).bind fun t16 =>
 some ((t16.1.1, 0, ()), ())
 else
 some ((t3.1.1, 0, ()), ())
 else
 (dB t3.1.1 t6.1.1 3).bind fun t17 =>
 some ((t17.1.1, 0, ()), ())
 else
 some ((t3.1.1, 0, ()), ())
 else
 lI
def RX (k : Nat) (rec : (Unit × ((List aV) × (aj × ((List Int) × (aj × (Int × Unit)))))) → Option ((Unit × (aj × ((List Int) × (Int × Unit)))) ⊕ (Unit × (aj × ((List Int) × (aj × Unit)))))) (v : (Unit × ((List aV) × (aj × ((List Int) × (aj × (Int × Unit))))))) : Option ((Unit × (aj × ((List Int) × (Int × Unit)))) ⊕ (Unit × (aj × ((List Int) × (aj × Unit))))) :=
 bif (decide (v.2.2.2.2.2.1 < (List.length v.2.1 : Int))) then
 bif ((decide (0 ≤ v.2.2.2.2.2.1)) && (decide (v.2.2.2.2.2.1 < (List.length v.2.1 : Int)))) then
 bif (decide ((Int.toNat v.2.2.2.2.2.1) < (List.length v.2.1))) then
 bif (decide ((List.getD v.2.1 (Int.toNat v.2.2.2.2.2.1) vJ).1 = 7)) then
 bif ((decide (0 ≤ v.2.2.2.2.2.1)) && (decide (v.2.2.2.2.2.1 < (List.length v.2.1 : Int)))) then
 bif (decide ((Int.toNat v.2.2.2.2.2.1) < (List.length v.2.1))) then
 bif ((decide (0 ≤ (Wr .i64 ((List.getD v.2.1 (Int.toNat v.2.2.2.2.2.1) vJ).2.2.2.2.2.2.1 - 1)))) && (decide ((Wr .i64 ((List.getD v.2.1 (Int.toNat v.2.2.2.2.2.1) vJ).2.2.2.2.2.2.1 - 1)) < (List.length v.2.2.2.1 : Int)))) then
 bif (decide ((Int.toNat (Wr .i64 ((List.getD v.2.1 (Int.toNat v.2.2.2.2.2.1) vJ).2.2.2.2.2.2.1 - 1))) < (List.length v.2.2.2.1))) then
 (Sd k v.2.2.2.2.1).bind fun t5 =>
 bif ((decide (0 ≤ (Wr .i64 ((List.getD v.2.1 (Int.toNat v.2.2.2.2.2.1) vJ).2.2.2.2.2.2.1 - 1)))) && (decide ((Wr .i64 ((List.getD v.2.1 (Int.toNat v.2.2.2.2.2.1) vJ).2.2.2.2.2.2.1 - 1)) < (List.length v.2.2.2.1 : Int)))) then
 bif (decide ((Int.toNat (Wr .i64 ((List.getD v.2.1 (Int.toNat v.2.2.2.2.2.1) vJ).2.2.2.2.2.2.1 - 1))) < (List.length v.2.2.2.1))) then
 let y6 : (List Int) := (List.set v.2.2.2.1 (Int.toNat (Wr .i64 ((List.getD v.2.1 (Int.toNat v.2.2.2.2.2.1) vJ).2.2.2.2.2.2.1 - 1))) (Nv 1000000000000 (Wr .i64 ((List.getD v.2.2.2.1 (Int.toNat (Wr .i64 ((List.getD v.2.1 (Int.toNat v.2.2.2.2.2.1) vJ).2.2.2.2.2.2.1 - 1))) 0) + t5.1.1))))
 bif ((decide (0 ≤ v.2.2.2.2.2.1)) && (decide (v.2.2.2.2.2.1 < (List.length v.2.1 : Int)))) then
 bif (decide ((Int.toNat v.2.2.2.2.2.1) < (List.length v.2.1))) then
 (dQ k (List.getD v.2.1 (Int.toNat v.2.2.2.2.2.1) vJ) v.2.2.2.2.1).bind fun t7 =>
 bif (!(decide (t7.1.2.1 = 0))) then
 some (Sum.inl ((), oK, y6, t7.1.2))
 else
 rec ((), v.2.1, v.2.2.1, y6, t7.1.1, (Wr .i64 (v.2.2.2.2.2.1 + 1)), ())
 else none
 else none
 else none
 else none
 else none
 else none
 else none
 else none
 else
 bif ((decide (0 ≤ v.2.2.2.2.2.1)) && (decide (v.2.2.2.2.2.1 < (List.length v.2.1 : Int)))) then
 bif (decide ((Int.toNat v.2.2.2.2.2.1) < (List.length v.2.1))) then
 (dQ k (List.getD v.2.1 (Int.toNat v.2.2.2.2.2.1) vJ) v.2.2.2.2.1).bind fun t8 =>
 bif (!(decide (t8.1.2.1 = 0))) then
 some (Sum.inl ((), oK, v.2.2.2.1, t8.1.2))
 else
 rec ((), v.2.1, v.2.2.1, v.2.2.2.1, t8.1.1, (Wr .i64 (v.2.2.2.2.2.1 + 1)), ())
 else none
 else none
 else none
 else none
 else
 some (Sum.inr ((), v.2.2.1, v.2.2.2.1, v.2.2.2.2.1, ()))
def Sq (k : Nat) (x0 : (List aV)) (x1 : aj) (x2 : (List Int)) : Option ((aj × ((List Int) × (Int × Unit))) × Unit) :=
 (Sp k x0).bind fun t1 =>
 bif (!(!t1.1.1)) then
 (dP k x1).bind fun t2 =>
 bif (!(!t2.1.1)) then
 (Sj k x2).bind fun t3 =>
 bif (!t3.1.1) then
 some ((oK, ([] : List Int), 1, ()), ())
 else
 bif (decide ((((0:Nat) + (List.length x2)) * 8) ≤ (1099511627776:Nat))) then
 (jJ k x1).bind fun t4 =>
 (iter (RX k) k ((), x0, oK, x2, t4.1.1, 0, ())).bind fun o5 =>
 Sum.elim (fun a6 =>
 some (a6.2, ()))
 (fun b7 =>
 some ((b7.2.2.2.1, b7.2.2.1, 0, ()), ())) o5
 else none
 else
 some ((oK, ([] : List Int), 1, ()), ())
 else
 some ((oK, ([] : List Int), 1, ()), ())
def jr (x0 : bx) : Option ((Bool × Unit) × Unit) :=
 some (((((decide (x0.1.1 = 0)) && ((decide (x0.1.2.1 = 0)) && ((decide (x0.1.2.2.1 = 0)) && ((decide (x0.1.2.2.2.1 = 0)) && ((decide (x0.1.2.2.2.2.1 = 0)) && true))))) && ((decide (x0.2.1 = 0)) && true)), ()), ())
def bG (x0 : Int) (x1 : Int) (x2 : Int) : Option ((Bool × Unit) × Unit) :=
 bif (decide (x1 ≤ x0)) then
 some (((decide (x0 ≤ x2)), ()), ())
 else
 some ((false, ()), ())
def dC (x0 : Int) : Option ((Bool × Unit) × Unit) :=
 (bG x0 0 4294967295).bind fun t1 =>
 some (t1.1, ())
def fC (x0 : ar) : Option ((Bool × Unit) × Unit) :=
 bif (decide (x0.1 = 4)) then
 bif (decide (x0.2.1 = 0)) then
 bif (decide (x0.2.2.1 = 0)) then
 bif (decide (x0.2.2.2.1 = 0)) then
 (dC x0.2.2.2.2.1).bind fun t1 =>
 some (t1.1, ())
 else
 some ((false, ()), ())
 else
 some ((false, ()), ())
 else
 some ((false, ()), ())
 else
 bif (decide (x0.1 = 6)) then
 (dC x0.2.1).bind fun t2 =>
 bif t2.1.1 then
 (dC x0.2.2.1).bind fun t3 =>
 bif t3.1.1 then
 (dC x0.2.2.2.1).bind fun t4 =>
 bif t4.1.1 then
 (dC x0.2.2.2.2.1).bind fun t5 =>
 some (t5.1, ())
 else
 some ((false, ()), ())
 else
 some ((false, ()), ())
 else
 some ((false, ()), ())
 else
 some ((false, ()), ())
def jW (x0 : ar) : Option ((Int × Unit) × Unit) :=
 bif (decide (x0.1 = 4)) then
 some ((32, ()), ())
 else
 some ((128, ()), ())
def iW (rec : (Unit × (Int × (Int × ((List Int) × (Int × (Int × Unit)))))) → Option ((Unit × ((List Int) × Unit)))) (v : (Unit × (Int × (Int × ((List Int) × (Int × (Int × Unit))))))) : Option ((Unit × ((List Int) × Unit))) :=
 bif (decide (v.2.2.2.2.2.1 < v.2.2.2.2.1)) then
 bif (decide (0 ≤ (Wr .i64 (8 * (Wr .i64 ((Wr .i64 (v.2.2.1 - 1)) - v.2.2.2.2.2.1)))))) then
 bif ((decide (0 ≤ v.2.2.2.2.2.1)) && (decide (v.2.2.2.2.2.1 < (List.length v.2.2.2.1 : Int)))) then
 bif (decide ((Int.toNat v.2.2.2.2.2.1) < (List.length v.2.2.2.1))) then
 let y1 : (List Int) := (List.set v.2.2.2.1 (Int.toNat v.2.2.2.2.2.1) (Wr .u8 (Int.fdiv v.2.1 (2 ^ min (Int.toNat (Wr .i64 (8 * (Wr .i64 ((Wr .i64 (v.2.2.1 - 1)) - v.2.2.2.2.2.1))))) (IntKind.bits .i64)))))
 rec ((), v.2.1, v.2.2.1, y1, v.2.2.2.2.1, (Wr .i64 (v.2.2.2.2.2.1 + 1)), ())
 else none
 else none
 else none
 else
 some ((), v.2.2.2.1, ())
def mT (k : Nat) (x0 : Int) (x1 : Int) : Option (((List Int) × Unit) × Unit) :=
 bif (((decide (0 ≤ x1)) && (decide (x1 ≤ x1))) && (decide ((1 * x1) ≤ 1099511627776))) then
 (iter (iW) k ((), x0, x1, (List.replicate (Int.toNat x1) (0:Int)), (List.length (List.replicate (Int.toNat x1) (0:Int)) : Int), 0, ())).bind fun o1 =>
 some (o1.2, ())
 else none
def dL (k : Nat) (x0 : Int) : Option (((List Int) × Unit) × Unit) :=
 (mT k x0 4).bind fun t1 =>
 some (t1.1, ())
def cB (rec : (Unit × ((List (List Int)) × (Int × ((List (List Int)) × (Int × (Int × Unit)))))) → Option ((Unit × ((List (List Int)) × (Int × Unit))))) (v : (Unit × ((List (List Int)) × (Int × ((List (List Int)) × (Int × (Int × Unit))))))) : Option ((Unit × ((List (List Int)) × (Int × Unit)))) :=
 bif (decide (v.2.2.2.2.2.1 < v.2.2.2.2.1)) then
 bif ((decide (0 ≤ v.2.2.2.2.2.1)) && (decide (v.2.2.2.2.2.1 < (List.length v.2.2.2.1 : Int)))) then
 bif (decide ((Int.toNat v.2.2.2.2.2.1) < (List.length v.2.2.2.1))) then
 bif (decide ((Wr .i64 (v.2.2.1 + (List.length (List.getD v.2.2.2.1 (Int.toNat v.2.2.2.2.2.1) []) : Int))) < 0)) then
 none
 else
 rec ((), v.2.1, (Wr .i64 (v.2.2.1 + (List.length (List.getD v.2.2.2.1 (Int.toNat v.2.2.2.2.2.1) []) : Int))), v.2.2.2.1, v.2.2.2.2.1, (Wr .i64 (v.2.2.2.2.2.1 + 1)), ())
 else none
 else none
 else
 some ((), v.2.1, v.2.2.1, ())
def bQ (rec : (Unit × ((List Int) × ((List (List Int)) × (Int × (Int × Unit))))) → Option ((Unit × ((List Int) × Unit)))) (v : (Unit × ((List Int) × ((List (List Int)) × (Int × (Int × Unit)))))) : Option ((Unit × ((List Int) × Unit))) :=
 bif (decide (v.2.2.2.2.1 < v.2.2.2.1)) then
 bif ((decide (0 ≤ v.2.2.2.2.1)) && (decide (v.2.2.2.2.1 < (List.length v.2.2.1 : Int)))) then
 bif (decide ((Int.toNat v.2.2.2.2.1) < (List.length v.2.2.1))) then
 bif (decide ((((List.length v.2.1) + (List.length (List.getD v.2.2.1 (Int.toNat v.2.2.2.2.1) []))) * 1) ≤ (1099511627776:Nat))) then
 rec ((), (v.2.1 ++ (List.getD v.2.2.1 (Int.toNat v.2.2.2.2.1) [])), v.2.2.1, v.2.2.2.1, (Wr .i64 (v.2.2.2.2.1 + 1)), ())
 else none
 else none
 else none
 else
 some ((), v.2.1, ())
def aH (k : Nat) (x0 : (List (List Int))) : Option (((List Int) × Unit) × Unit) :=
 (iter (cB) k ((), x0, 0, x0, (List.length x0 : Int), 0, ())).bind fun o1 =>
 bif (decide (o1.2.2.1 < 0)) then
 none
 else
 bif (decide (0 < (Wr .i64 (o1.2.2.1 - 0)))) then
 bif ((decide (0 ≤ (Wr .i64 (o1.2.2.1 - 0)))) && (decide ((1 * (Wr .i64 (o1.2.2.1 - 0))) ≤ 1099511627776))) then
 bif (decide (0 ≤ (List.length (List.replicate (Int.toNat (Wr .i64 (o1.2.2.1 - 0))) (0:Int)) : Int))) then
 (iter (bQ) k ((), (List.take (0:Nat) (List.replicate (Int.toNat (Wr .i64 (o1.2.2.1 - 0))) (0:Int))), o1.2.1, (List.length o1.2.1 : Int), 0, ())).bind fun o2 =>
 some (o2.2, ())
 else none
 else none
 else
 (iter (bQ) k ((), ([] : List Int), o1.2.1, (List.length o1.2.1 : Int), 0, ())).bind fun o3 =>
 some (o3.2, ())
def cD (k : Nat) (x0 : ar) : Option (((List Int) × Unit) × Unit) :=
 (fC x0).bind fun t1 =>
 bif (!t1.1.1) then
 some ((([] : List Int), ()), ())
 else
 bif (decide (x0.1 = 4)) then
 (dL k x0.2.2.2.2.1).bind fun t2 =>
 some (t2.1, ())
 else
 (dL k x0.2.1).bind fun t3 =>
 (dL k x0.2.2.1).bind fun t4 =>
 (dL k x0.2.2.2.1).bind fun t5 =>
 (dL k x0.2.2.2.2.1).bind fun t6 =>
 (aH k ([t3.1.1, t4.1.1, t5.1.1, t6.1.1] : List (List Int))).bind fun t7 =>
 some (t7.1, ())
def nE (x0 : Int) (x1 : Int) (x2 : Int) : Option ((Int × Unit) × Unit) :=
 bif (decide (x0 < x1)) then
 some ((x1, ()), ())
 else
 bif (decide (x2 < x0)) then
 some ((x2, ()), ())
 else
 some ((x0, ()), ())
def iq (rec : (Unit × (Int × ((List Int) × (Int × (Int × Unit))))) → Option ((Unit × (Int × Unit)))) (v : (Unit × (Int × ((List Int) × (Int × (Int × Unit)))))) : Option ((Unit × (Int × Unit))) :=
 bif (decide (v.2.2.2.2.1 < v.2.2.2.1)) then
 bif ((decide (0 ≤ v.2.2.2.2.1)) && (decide (v.2.2.2.2.1 < (List.length v.2.2.1 : Int)))) then
 bif (decide ((Int.toNat v.2.2.2.2.1) < (List.length v.2.2.1))) then
 rec ((), (Wr .i64 (BitVec.ofInt (IntKind.bits .i64) (Wr .i64 (v.2.1 * 2 ^ min (Int.toNat 8) (IntKind.bits .i64))) ||| BitVec.ofInt (IntKind.bits .i64) (Wr .i64 (List.getD v.2.2.1 (Int.toNat v.2.2.2.2.1) 0))).toNat), v.2.2.1, v.2.2.2.1, (Wr .i64 (v.2.2.2.2.1 + 1)), ())
 else none
 else none
 else
 some ((), v.2.1, ())
def iX (k : Nat) (x0 : (List Int)) : Option ((Int × Unit) × Unit) :=
 (iter (iq) k ((), 0, x0, (List.length x0 : Int), 0, ())).bind fun o1 =>
 some (o1.2, ())
def lf (k : Nat) (x0 : (List Int)) : Option ((ar × (Bool × Unit)) × Unit) :=
 bif (decide ((List.length x0 : Int) = 4)) then
 (iX k x0).bind fun t1 =>
 some (((4, 0, 0, 0, t1.1), true, ()), ())
 else
 bif (decide ((List.length x0 : Int) = 16)) then
 bif (decide (4 ≤ (List.length x0 : Int))) then
 (iX k (List.take (4:Nat) x0)).bind fun t2 =>
 bif (decide (8 ≤ (List.length x0 : Int))) then
 (iX k (List.take (4:Nat) (List.drop (4:Nat) x0))).bind fun t3 =>
 bif (decide (12 ≤ (List.length x0 : Int))) then
 (iX k (List.take (4:Nat) (List.drop (8:Nat) x0))).bind fun t4 =>
 bif ((decide (12 ≤ (List.length x0 : Int))) && (decide ((List.length x0 : Int) ≤ (List.length x0 : Int)))) then
 (iX k (List.take ((List.length x0) - (12:Nat)) (List.drop (12:Nat) x0))).bind fun t5 =>
 some (((6, t2.1.1, t3.1.1, t4.1.1, t5.1), true, ()), ())
 else none
 else none
 else none
 else none
 else
 some (((0, 0, 0, 0, 0, ()), false, ()), ())
def gT (rec : (Unit × (Int × (ar × ((List Int) × (Int × (Int × Unit)))))) → Option ((Unit × (ar × ((List Int) × Unit))))) (v : (Unit × (Int × (ar × ((List Int) × (Int × (Int × Unit))))))) : Option ((Unit × (ar × ((List Int) × Unit)))) :=
 bif (decide (v.2.2.2.2.2.1 < v.2.2.2.2.1)) then
 (nE (Wr .i64 (v.2.1 - (Wr .i64 (8 * v.2.2.2.2.2.1)))) 0 8).bind fun t5 =>
 bif ((decide (0 ≤ v.2.2.2.2.2.1)) && (decide (v.2.2.2.2.2.1 < (List.length v.2.2.2.1 : Int)))) then
 bif (decide ((Int.toNat v.2.2.2.2.2.1) < (List.length v.2.2.2.1))) then
 bif (decide (0 ≤ t5.1.1)) then
 bif ((decide (0 ≤ v.2.2.2.2.2.1)) && (decide (v.2.2.2.2.2.1 < (List.length v.2.2.2.1 : Int)))) then
 bif (decide ((Int.toNat v.2.2.2.2.2.1) < (List.length v.2.2.2.1))) then
 let y6 : (List Int) := (List.set v.2.2.2.1 (Int.toNat v.2.2.2.2.2.1) (Wr .u8 (BitVec.ofInt (IntKind.bits .u8) (List.getD v.2.2.2.1 (Int.toNat v.2.2.2.2.2.1) 0) &&& BitVec.ofInt (IntKind.bits .u8) (Wr .u8 (Int.fdiv 65280 (2 ^ min (Int.toNat t5.1.1) (IntKind.bits .u16))))).toNat))
 rec ((), v.2.1, v.2.2.1, y6, v.2.2.2.2.1, (Wr .i64 (v.2.2.2.2.2.1 + 1)), ())
 else none
 else none
 else none
 else none
 else none
 else
 some ((), v.2.2.1, v.2.2.2.1, ())
def lH (k : Nat) (x0 : ar) (x1 : Int) : Option ((ar × Unit) × Unit) :=
 (fC x0).bind fun t1 =>
 bif (!(!t1.1.1)) then
 (jW x0).bind fun t2 =>
 (bG x1 0 t2.1.1).bind fun t3 =>
 bif (!t3.1.1) then
 some (((0, 0, 0, 0, 0, ()), ()), ())
 else
 (cD k x0).bind fun t4 =>
 (iter (gT) k ((), x1, (0, 0, 0, 0, 0, ()), t4.1.1, (List.length t4.1.1 : Int), 0, ())).bind fun o5 =>
 (lf k o5.2.2.1).bind fun t6 =>
 some ((t6.1.1, ()), ())
 else
 some (((0, 0, 0, 0, 0, ()), ()), ())
def fK (k : Nat) (x0 : bx) : Option ((Bool × Unit) × Unit) :=
 (jr x0).bind fun t1 =>
 bif (!t1.1.1) then
 (fC x0.1).bind fun t2 =>
 bif t2.1.1 then
 (jW x0.1).bind fun t3 =>
 (bG x0.2.1 0 t3.1.1).bind fun t4 =>
 bif t4.1.1 then
 (lH k x0.1 x0.2.1).bind fun t5 =>
 some ((((decide (t5.1.1.1 = x0.1.1)) && ((decide (t5.1.1.2.1 = x0.1.2.1)) && ((decide (t5.1.1.2.2.1 = x0.1.2.2.1)) && ((decide (t5.1.1.2.2.2.1 = x0.1.2.2.2.1)) && ((decide (t5.1.1.2.2.2.2.1 = x0.1.2.2.2.2.1)) && true))))), ()), ())
 else
 some ((false, ()), ())
 else
 some ((false, ()), ())
 else
 some ((true, ()), ())
def kq (x0 : Int) (x1 : Int) : Option ((Bool × Unit) × Unit) :=
 bif (decide (0 ≤ x0)) then
 bif (decide (x0 ≤ x1)) then
 some (((decide (x1 ≤ 65535)), ()), ())
 else
 some ((false, ()), ())
 else
 some ((false, ()), ())
def jg (k : Nat) (x0 : bx) (x1 : bx) : Option ((Bool × Unit) × Unit) :=
 (fK k x0).bind fun t1 =>
 bif t1.1.1 then
 (fK k x1).bind fun t2 =>
 bif t2.1.1 then
 (jr x0).bind fun t3 =>
 bif (!t3.1.1) then
 (jr x1).bind fun t4 =>
 bif (!t4.1.1) then
 bif (decide (x0.1.1 = x1.1.1)) then
 some (((decide (x0.2.1 = x1.2.1)), ()), ())
 else
 some ((false, ()), ())
 else
 some ((false, ()), ())
 else
 some ((false, ()), ())
 else
 some ((false, ()), ())
 else
 some ((false, ()), ())
abbrev jw (k : Nat) (x0 : aV) : Option ((Bool × Unit) × Unit) :=
 (jg k x0.2.1 x0.2.2.1).bind fun t5 =>
 bif t5.1.1 then
 some ((((decide (x0.1 = x0.1)) && ((decide (x0.2.2.2.1 = 0)) && ((decide (x0.2.2.2.2.1 = 0)) && ((decide (x0.2.2.2.2.2.1 = 0)) && ((decide (x0.2.2.2.2.2.2.1 = 0)) && true))))), ()), ())
 else
 some ((false, ()), ())
abbrev jx (x0 : aV) : Option ((Bool × Unit) × Unit) :=
 some ((((decide (x0.1 = x0.1)) && ((((decide (x0.2.1.1.1 = 0)) && ((decide (x0.2.1.1.2.1 = 0)) && ((decide (x0.2.1.1.2.2.1 = 0)) && ((decide (x0.2.1.1.2.2.2.1 = 0)) && ((decide (x0.2.1.1.2.2.2.2.1 = 0)) && true))))) && ((decide (x0.2.1.2.1 = 0)) && true)) && ((((decide (x0.2.2.1.1.1 = 0)) && ((decide (x0.2.2.1.1.2.1 = 0)) && ((decide (x0.2.2.1.1.2.2.1 = 0)) && ((decide (x0.2.2.1.1.2.2.2.1 = 0)) && ((decide (x0.2.2.1.1.2.2.2.2.1 = 0)) && true))))) && ((decide (x0.2.2.1.2.1 = 0)) && true)) && ((decide (x0.2.2.2.1 = 0)) && ((decide (x0.2.2.2.2.1 = 0)) && ((decide (x0.2.2.2.2.2.1 = 0)) && true)))))), ()), ())
abbrev jy (x0 : aV) : Option ((Bool × Unit) × Unit) :=
 some ((((decide (x0.1 = x0.1)) && ((((decide (x0.2.1.1.1 = 0)) && ((decide (x0.2.1.1.2.1 = 0)) && ((decide (x0.2.1.1.2.2.1 = 0)) && ((decide (x0.2.1.1.2.2.2.1 = 0)) && ((decide (x0.2.1.1.2.2.2.2.1 = 0)) && true))))) && ((decide (x0.2.1.2.1 = 0)) && true)) && ((((decide (x0.2.2.1.1.1 = 0)) && ((decide (x0.2.2.1.1.2.1 = 0)) && ((decide (x0.2.2.1.1.2.2.1 = 0)) && ((decide (x0.2.2.1.1.2.2.2.1 = 0)) && ((decide (x0.2.2.1.1.2.2.2.2.1 = 0)) && true))))) && ((decide (x0.2.2.1.2.1 = 0)) && true)) && ((decide (x0.2.2.2.1 = 0)) && ((decide (x0.2.2.2.2.1 = 0)) && ((decide (x0.2.2.2.2.2.1 = 0)) && ((decide (x0.2.2.2.2.2.2.1 = 0)) && true))))))), ()), ())
abbrev jz (x0 : aV) : Option ((Bool × Unit) × Unit) :=
 bif (decide (x0.1 = 5)) then
 (bG x0.2.2.2.2.2.2.1 0 63).bind fun t6 =>
 bif t6.1.1 then
 jx x0
 else
 some ((false, ()), ())
 else
 bif (decide (x0.1 = 7)) then
 (bG x0.2.2.2.2.2.2.1 1 4).bind fun t7 =>
 bif t7.1.1 then
 jx x0
 else
 some ((false, ()), ())
 else
 bif (decide (x0.1 = 4)) then
 bif (decide (x0.1 = 4)) then
 jy x0
 else
 some ((false, ()), ())
 else
 bif (decide (x0.1 = 6)) then
 jy x0
 else
 some ((false, ()), ())
def jK (k : Nat) (x0 : aV) : Option ((Bool × Unit) × Unit) :=
 bif (decide (x0.1 = 1)) then
 (fK k x0.2.1).bind fun t1 =>
 bif t1.1.1 then
 (fK k x0.2.2.1).bind fun t2 =>
 bif t2.1.1 then
 (bG x0.2.2.2.1 (-1) 255).bind fun t3 =>
 bif t3.1.1 then
 (kq x0.2.2.2.2.1 x0.2.2.2.2.2.1).bind fun t4 =>
 bif t4.1.1 then
 some (((decide (x0.2.2.2.2.2.2.1 = 0)), ()), ())
 else
 some ((false, ()), ())
 else
 some ((false, ()), ())
 else
 some ((false, ()), ())
 else
 some ((false, ()), ())
 else
 bif (decide (x0.1 = 2)) then
 bif (decide (x0.1 = 2)) then
 jw k x0
 else
 jz x0
 else
 bif (decide (x0.1 = 3)) then
 jw k x0
 else
 jz x0
def Su (k : Nat) (x0 : aV) : Option ((Bool × Unit) × Unit) :=
 (jK k x0).bind fun t1 =>
 some (((!t1.1.1), ()), ())
def RQ (k : Nat) (rec : (Unit × ((List aV) × (Unit × (Int × (Int × Unit))))) → Option ((Unit × (Int × Unit)) ⊕ (Unit × Unit))) (v : (Unit × ((List aV) × (Unit × (Int × (Int × Unit)))))) : Option ((Unit × (Int × Unit)) ⊕ (Unit × Unit)) :=
 bif (decide (v.2.2.2.2.1 < v.2.2.2.1)) then
 bif ((decide (0 ≤ v.2.2.2.2.1)) && (decide (v.2.2.2.2.1 < (List.length v.2.1 : Int)))) then
 bif (decide ((Int.toNat v.2.2.2.2.1) < (List.length v.2.1))) then
 (Su k (List.getD v.2.1 (Int.toNat v.2.2.2.2.1) vJ)).bind fun t1 =>
 bif t1.1.1 then
 some (Sum.inl ((), v.2.2.2.2))
 else
 rec ((), v.2.1, (), v.2.2.2.1, (Wr .i64 (v.2.2.2.2.1 + 1)), ())
 else none
 else none
 else
 some (Sum.inr ((), ()))
def RU (k : Nat) (x0 : (List aV)) (x1 : Unit) : Option ((Int × Unit) × Unit) :=
 (iter (RQ k) k ((), x0, (), (List.length x0 : Int), 0, ())).bind fun o1 =>
 Sum.elim (fun a2 =>
 some (a2.2, ()))
 (fun b3 =>
 some (((-1), ()), ())) o1
def RT (k : Nat) (x0 : (List aV)) (x1 : Unit) : Option ((Bool × Unit) × Unit) :=
 (RU k x0 ()).bind fun t1 =>
 some (((decide (0 ≤ t1.1.1)), ()), ())
def Sr (k : Nat) (x0 : (List aV)) : Option ((Bool × Unit) × Unit) :=
 bif (decide ((List.length x0 : Int) ≤ 8)) then
 (RT k x0 ()).bind fun t1 =>
 some (((!t1.1.1), ()), ())
 else
 some ((false, ()), ())
def kJ (x0 : Int) : Option ((Bool × Unit) × Unit) :=
 some (((!(decide (x0 = 0))), ()), ())
def bM (rec : (Unit × ((List Int) × (Unit × (Int × (Int × Unit))))) → Option ((Unit × (Int × Unit)) ⊕ (Unit × Unit))) (v : (Unit × ((List Int) × (Unit × (Int × (Int × Unit)))))) : Option ((Unit × (Int × Unit)) ⊕ (Unit × Unit)) :=
 bif (decide (v.2.2.2.2.1 < v.2.2.2.1)) then
 bif ((decide (0 ≤ v.2.2.2.2.1)) && (decide (v.2.2.2.2.1 < (List.length v.2.1 : Int)))) then
 bif (decide ((Int.toNat v.2.2.2.2.1) < (List.length v.2.1))) then
 (kJ (List.getD v.2.1 (Int.toNat v.2.2.2.2.1) 0)).bind fun t1 =>
 bif t1.1.1 then
 some (Sum.inl ((), v.2.2.2.2))
 else
 rec ((), v.2.1, (), v.2.2.2.1, (Wr .i64 (v.2.2.2.2.1 + 1)), ())
 else none
 else none
 else
 some (Sum.inr ((), ()))
def gU (k : Nat) (x0 : (List Int)) (x1 : Unit) : Option ((Int × Unit) × Unit) :=
 (iter (bM) k ((), x0, (), (List.length x0 : Int), 0, ())).bind fun o1 =>
 Sum.elim (fun a2 =>
 some (a2.2, ()))
 (fun b3 =>
 some (((-1), ()), ())) o1
def fY (k : Nat) (x0 : (List Int)) (x1 : Unit) : Option ((Bool × Unit) × Unit) :=
 (gU k x0 ()).bind fun t1 =>
 some (((decide (0 ≤ t1.1.1)), ()), ())
def dy (k : Nat) (x0 : (List Int)) : Option ((Bool × Unit) × Unit) :=
 (fY k x0 ()).bind fun t1 =>
 some (((!t1.1.1), ()), ())
def jh (k : Nat) (x0 : bc) : Option ((Bool × Unit) × Unit) :=
 (dy k ([x0.1, x0.2.1, x0.2.2.1, x0.2.2.2.1, (List.length x0.2.2.2.2.2.2.1 : Int), (List.length x0.2.2.2.2.2.2.2.1 : Int)] : List Int)).bind fun t1 =>
 bif t1.1.1 then
 bif ((decide (x0.2.2.2.2.1.1 = 0)) && ((decide (x0.2.2.2.2.1.2.1 = 0)) && ((decide (x0.2.2.2.2.1.2.2.1 = 0)) && ((decide (x0.2.2.2.2.1.2.2.2.1 = 0)) && ((decide (x0.2.2.2.2.1.2.2.2.2.1 = 0)) && true))))) then
 some ((((decide (x0.2.2.2.2.2.1.1 = 0)) && ((decide (x0.2.2.2.2.2.1.2.1 = 0)) && ((decide (x0.2.2.2.2.2.1.2.2.1 = 0)) && ((decide (x0.2.2.2.2.2.1.2.2.2.1 = 0)) && ((decide (x0.2.2.2.2.2.1.2.2.2.2.1 = 0)) && true))))), ()), ())
 else
 some ((false, ()), ())
 else
 some ((false, ()), ())
def iN (k : Nat) (x0 : aR) : Option ((Bool × Unit) × Unit) :=
 (dy k ([x0.1, x0.2.1, x0.2.2.1, x0.2.2.2.1, x0.2.2.2.2.1, x0.2.2.2.2.2.1, x0.2.2.2.2.2.2.1, (List.length x0.2.2.2.2.2.2.2.2.2.1 : Int), (List.length x0.2.2.2.2.2.2.2.2.2.2.1 : Int)] : List Int)).bind fun t1 =>
 bif t1.1.1 then
 bif ((decide (x0.2.2.2.2.2.2.2.1.1 = 0)) && ((decide (x0.2.2.2.2.2.2.2.1.2.1 = 0)) && ((decide (x0.2.2.2.2.2.2.2.1.2.2.1 = 0)) && ((decide (x0.2.2.2.2.2.2.2.1.2.2.2.1 = 0)) && ((decide (x0.2.2.2.2.2.2.2.1.2.2.2.2.1 = 0)) && true))))) then
 some ((((decide (x0.2.2.2.2.2.2.2.2.1.1 = 0)) && ((decide (x0.2.2.2.2.2.2.2.2.1.2.1 = 0)) && ((decide (x0.2.2.2.2.2.2.2.2.1.2.2.1 = 0)) && ((decide (x0.2.2.2.2.2.2.2.2.1.2.2.2.1 = 0)) && ((decide (x0.2.2.2.2.2.2.2.2.1.2.2.2.2.1 = 0)) && true))))), ()), ())
 else
 some ((false, ()), ())
 else
 some ((false, ()), ())
def cR (x0 : aj) : Option ((ar × (ar × Unit)) × Unit) :=
 bif (decide (x0.1 = 4)) then
 some ((x0.2.2.1.2.2.2.2.2.2.2.1, x0.2.2.1.2.2.2.2.2.2.2.2.1, ()), ())
 else
 some ((x0.2.2.2.1.2.2.2.2.1, x0.2.2.2.1.2.2.2.2.2.1, ()), ())
def kr (x0 : ar) (x1 : ar) : Option ((Bool × Unit) × Unit) :=
 (fC x0).bind fun t1 =>
 bif t1.1.1 then
 (fC x1).bind fun t2 =>
 bif t2.1.1 then
 some (((decide (x0.1 = x1.1)), ()), ())
 else
 some ((false, ()), ())
 else
 some ((false, ()), ())
def cK (x0 : Int) : Option ((Int × Unit) × Unit) :=
 bif (decide (x0 = 0)) then
 some ((0, ()), ())
 else
 bif (decide (x0 = 1)) then
 some ((20, ()), ())
 else
 bif (decide (x0 = 2)) then
 bif (decide (x0 = 2)) then
 some ((8, ()), ())
 else
 some (((-1), ()), ())
 else
 bif (decide (x0 = 3)) then
 some ((8, ()), ())
 else
 some (((-1), ()), ())
def aS (x0 : aF) : Option ((Int × Unit) × Unit) :=
 (cK x0.1).bind fun t1 =>
 bif (decide (t1.1.1 < 0)) then
 some (((-1), ()), ())
 else
 bif (decide (x0.1 = 1)) then
 some (((Wr .i64 ((Wr .i64 (t1.1.1 + (List.length x0.2.2.2.2.2.2.2.2.2.2.2.2.1 : Int))) + (List.length x0.2.2.2.2.2.2.2.2.2.2.2.2.2.1 : Int))), ()), ())
 else
 some (((Wr .i64 (t1.1.1 + (List.length x0.2.2.2.2.2.2.2.2.2.2.2.2.2.1 : Int))), ()), ())
def jX (x0 : Int) : Option ((Bool × Unit) × Unit) :=
 (bG x0 0 65535).bind fun t1 =>
 some (t1.1, ())
def cS (rec : (Unit × ((List Int) × (Int × (Int × Unit)))) → Option ((Unit × (Bool × Unit)) ⊕ (Unit × Unit))) (v : (Unit × ((List Int) × (Int × (Int × Unit))))) : Option ((Unit × (Bool × Unit)) ⊕ (Unit × Unit)) :=
 bif (decide (v.2.2.2.1 < v.2.2.1)) then
 bif ((decide (0 ≤ v.2.2.2.1)) && (decide (v.2.2.2.1 < (List.length v.2.1 : Int)))) then
 bif (decide ((Int.toNat v.2.2.2.1) < (List.length v.2.1))) then
 (jX (List.getD v.2.1 (Int.toNat v.2.2.2.1) 0)).bind fun t1 =>
 bif (!t1.1.1) then
 some (Sum.inl ((), false, ()))
 else
 rec ((), v.2.1, v.2.2.1, (Wr .i64 (v.2.2.2.1 + 1)), ())
 else none
 else none
 else
 some (Sum.inr ((), ()))
def iD (k : Nat) (x0 : (List Int)) : Option ((Bool × Unit) × Unit) :=
 (iter (cS) k ((), x0, (List.length x0 : Int), 0, ())).bind fun o1 =>
 Sum.elim (fun a2 =>
 some (a2.2, ()))
 (fun b3 =>
 some ((true, ()), ())) o1
def dj (x0 : Int) : Option ((Bool × Unit) × Unit) :=
 (bG x0 0 255).bind fun t1 =>
 some (t1.1, ())
abbrev cr (k : Nat) (t3 : ((Bool × Unit) × Unit)) (x0 : aF) : Option ((Bool × Unit) × Unit) :=
 bif t3.1.1 then
 bif (decide ((Int.tmod (List.length x0.2.2.2.2.2.2.2.2.2.2.2.2.1 : Int) 4) = 0)) then
 (dy k ([x0.2.2.2.2.2.2.2.2.1, x0.2.2.2.2.2.2.2.2.2.1, x0.2.2.2.2.2.2.2.2.2.2.1] : List Int)).bind fun t11 =>
 bif t11.1.1 then
 some (((!x0.2.2.2.2.2.2.2.2.2.2.2.1), ()), ())
 else
 some ((false, ()), ())
 else
 some ((false, ()), ())
 else
 some ((false, ()), ())
abbrev bX (k : Nat) (t3 : ((Bool × Unit) × Unit)) (x0 : aF) (x1 : Int) : Option ((Bool × Unit) × Unit) :=
 bif t3.1.1 then
 (dy k ([x0.2.2.2.1, x0.2.2.2.2.1, x0.2.2.2.2.2.1, x0.2.2.2.2.2.2.1, x0.2.2.2.2.2.2.2.1, x0.2.2.2.2.2.2.2.2.1, x0.2.2.2.2.2.2.2.2.2.1, x0.2.2.2.2.2.2.2.2.2.2.1, (List.length x0.2.2.2.2.2.2.2.2.2.2.2.2.1 : Int)] : List Int)).bind fun t12 =>
 bif t12.1.1 then
 bif (!(!x0.2.2.2.2.2.2.2.2.2.2.2.1)) then
 some (((decide (x1 = 4)), ()), ())
 else
 some ((true, ()), ())
 else
 some ((false, ()), ())
 else
 some ((false, ()), ())
abbrev cu (k : Nat) (x0 : aF) : Option ((Bool × Unit) × Unit) :=
 (dy k ([x0.2.1, x0.2.2.1, x0.2.2.2.1, x0.2.2.2.2.1, x0.2.2.2.2.2.1, x0.2.2.2.2.2.2.1, x0.2.2.2.2.2.2.2.1, (List.length x0.2.2.2.2.2.2.2.2.2.2.2.2.1 : Int)] : List Int)).bind fun t13 =>
 bif t13.1.1 then
 some (((!x0.2.2.2.2.2.2.2.2.2.2.2.1), ()), ())
 else
 some ((false, ()), ())
abbrev bY (k : Nat) (x0 : aF) : Option ((Bool × Unit) × Unit) :=
 (dy k ([x0.2.1, x0.2.2.1, x0.2.2.2.1, x0.2.2.2.2.1, x0.2.2.2.2.2.1, x0.2.2.2.2.2.2.1, x0.2.2.2.2.2.2.2.1, x0.2.2.2.2.2.2.2.2.1, x0.2.2.2.2.2.2.2.2.2.1, x0.2.2.2.2.2.2.2.2.2.2.1, (List.length x0.2.2.2.2.2.2.2.2.2.2.2.2.1 : Int)] : List Int)).bind fun t14 =>
 bif t14.1.1 then
 some (((!x0.2.2.2.2.2.2.2.2.2.2.2.1), ()), ())
 else
 some ((false, ()), ())
abbrev cv (k : Nat) (x0 : aF) (t3 : ((Bool × Unit) × Unit)) (x1 : Int) : Option ((Bool × Unit) × Unit) :=
 bif (decide (x0.1 = 2)) then
 bX k t3 x0 x1
 else
 bif (decide (x0.1 = 3)) then
 some ((false, ()), ())
 else
 bY k x0
abbrev cx (k : Nat) (x0 : aF) (t3 : ((Bool × Unit) × Unit)) (x1 : Int) : Option ((Bool × Unit) × Unit) :=
 bif (decide (x0.1 = 1)) then
 cr k t3 x0
 else
 cv k x0 t3 x1
abbrev cy (k : Nat) (x0 : aF) (t3 : ((Bool × Unit) × Unit)) (x1 : Int) : Option ((Bool × Unit) × Unit) :=
 bif (decide (x0.1 = 1)) then
 bif t3.1.1 then
 some ((false, ()), ())
 else
 some ((false, ()), ())
 else
 cv k x0 t3 x1
abbrev bN (k : Nat) (x0 : aF) (t3 : ((Bool × Unit) × Unit)) (x1 : Int) : Option ((Bool × Unit) × Unit) :=
 (dj x0.2.2.2.2.2.2.2.2.1).bind fun t21 =>
 bif t21.1.1 then
 (dj x0.2.2.2.2.2.2.2.2.2.1).bind fun t22 =>
 bif t22.1.1 then
 (dC x0.2.2.2.2.2.2.2.2.2.2.1).bind fun t23 =>
 bif (decide (x0.1 = 1)) then
 bif t3.1.1 then
 some ((false, ()), ())
 else
 some ((false, ()), ())
 else
 bif (decide (x0.1 = 2)) then
 bX k t3 x0 x1
 else
 bif (decide (x0.1 = 3)) then
 bif t23.1.1 then
 cu k x0
 else
 some ((false, ()), ())
 else
 bY k x0
 else
 cy k x0 t3 x1
 else
 cy k x0 t3 x1
abbrev cz (k : Nat) (x0 : aF) (x1 : Int) : Option ((Bool × Unit) × Unit) :=
 (aS x0).bind fun t1 =>
 bif (!(decide (t1.1.1 < 0))) then
 (aS x0).bind fun t2 =>
 bif (decide (1500 < t2.1.1)) then
 some ((false, ()), ())
 else
 (iD k ([x0.2.1, x0.2.2.1] : List Int)).bind fun t3 =>
 (iD k ([x0.2.2.2.2.2.2.1, x0.2.2.2.2.2.2.2.1] : List Int)).bind fun t4 =>
 bif t4.1.1 then
 (dC x0.2.2.2.1).bind fun t5 =>
 bif t5.1.1 then
 (dC x0.2.2.2.2.1).bind fun t6 =>
 bif t6.1.1 then
 (bG x0.2.2.2.2.2.1 0 4095).bind fun t7 =>
 bif t7.1.1 then
 bif (decide ((List.length x0.2.2.2.2.2.2.2.2.2.2.2.2.1 : Int) ≤ 40)) then
 (dj x0.2.2.2.2.2.2.2.2.1).bind fun t8 =>
 bif t8.1.1 then
 (dj x0.2.2.2.2.2.2.2.2.2.1).bind fun t9 =>
 bif t9.1.1 then
 (dC x0.2.2.2.2.2.2.2.2.2.2.1).bind fun t10 =>
 bif (decide (x0.1 = 1)) then
 cr k t3 x0
 else
 bif (decide (x0.1 = 2)) then
 bX k t3 x0 x1
 else
 bif (decide (x0.1 = 3)) then
 bif t10.1.1 then
 cu k x0
 else
 some ((false, ()), ())
 else
 bY k x0
 else
 cx k x0 t3 x1
 else
 cx k x0 t3 x1
 else
 bN k x0 t3 x1
 else
 bN k x0 t3 x1
 else
 bN k x0 t3 x1
 else
 bN k x0 t3 x1
 else
 bN k x0 t3 x1
 else
 some ((false, ()), ())
def br (k : Nat) (x0 : aF) (x1 : Int) : Option ((Bool × Unit) × Unit) :=
 bif (!(decide (x1 = 4))) then
 bif (!(!(decide (x1 = 6)))) then
 cz k x0 x1
 else
 some ((false, ()), ())
 else
 cz k x0 x1
def cG (k : Nat) (x0 : Int) : Option (((List Int) × Unit) × Unit) :=
 (mT k x0 2).bind fun t1 =>
 some (t1.1, ())
def jY (x0 : Int) (x1 : Int) : Option ((Int × Unit) × Unit) :=
 bif (decide (65535 < (Wr .i64 (x0 + x1)))) then
 some (((Wr .i64 ((Wr .i64 (x0 + x1)) - 65535)), ()), ())
 else
 some (((Wr .i64 (x0 + x1)), ()), ())
def eA (rec : (Unit × ((List Int) × (Int × (Int × Unit)))) → Option ((Unit × (Int × Unit)))) (v : (Unit × ((List Int) × (Int × (Int × Unit))))) : Option ((Unit × (Int × Unit))) :=
 bif (decide (v.2.2.2.1 < (List.length v.2.1 : Int))) then
 bif ((decide (0 ≤ v.2.2.2.1)) && (decide (v.2.2.2.1 < (List.length v.2.1 : Int)))) then
 bif (decide ((Int.toNat v.2.2.2.1) < (List.length v.2.1))) then
 bif (decide ((Wr .i64 (v.2.2.2.1 + 1)) < (List.length v.2.1 : Int))) then
 bif ((decide (0 ≤ (Wr .i64 (v.2.2.2.1 + 1)))) && (decide ((Wr .i64 (v.2.2.2.1 + 1)) < (List.length v.2.1 : Int)))) then
 bif (decide ((Int.toNat (Wr .i64 (v.2.2.2.1 + 1))) < (List.length v.2.1))) then
 (jY v.2.2.1 (Wr .i64 (BitVec.ofInt (IntKind.bits .i64) (Wr .i64 ((Wr .i64 (List.getD v.2.1 (Int.toNat v.2.2.2.1) 0)) * 2 ^ min (Int.toNat 8) (IntKind.bits .i64))) ||| BitVec.ofInt (IntKind.bits .i64) (Wr .i64 (List.getD v.2.1 (Int.toNat (Wr .i64 (v.2.2.2.1 + 1))) 0))).toNat)).bind fun t1 =>
 rec ((), v.2.1, t1.1.1, (Wr .i64 (v.2.2.2.1 + 2)), ())
 else none
 else none
 else
 (jY v.2.2.1 (Wr .i64 ((Wr .i64 (List.getD v.2.1 (Int.toNat v.2.2.2.1) 0)) * 2 ^ min (Int.toNat 8) (IntKind.bits .i64)))).bind fun t2 =>
 rec ((), v.2.1, t2.1.1, (Wr .i64 (v.2.2.2.1 + 2)), ())
 else none
 else none
 else
 some ((), v.2.2.1, ())
def dR (k : Nat) (x0 : (List Int)) : Option ((Int × Unit) × Unit) :=
 (iter (eA) k ((), x0, 0, 0, ())).bind fun o1 =>
 some (o1.2, ())
def gV (k : Nat) (x0 : ar) (x1 : ar) (x2 : Int) (x3 : Int) : Option ((Int × Unit) × Unit) :=
 (cG k x3).bind fun t1 =>
 (aH k ([([0, (Wr .u8 x2)] : List Int), t1.1.1] : List (List Int))).bind fun t2 =>
 bif (decide (x0.1 = 6)) then
 (dL k x3).bind fun t3 =>
 (aH k ([t3.1.1, ([0, 0, 0, (Wr .u8 x2)] : List Int)] : List (List Int))).bind fun t4 =>
 (cD k x0).bind fun t5 =>
 (cD k x1).bind fun t6 =>
 (aH k ([t5.1.1, t6.1.1, t4.1.1] : List (List Int))).bind fun t7 =>
 (dR k t7.1.1).bind fun t8 =>
 some (t8.1, ())
 else
 (cD k x0).bind fun t9 =>
 (cD k x1).bind fun t10 =>
 (aH k ([t9.1.1, t10.1.1, t2.1.1] : List (List Int))).bind fun t11 =>
 (dR k t11.1.1).bind fun t12 =>
 some (t12.1, ())
def bw (x0 : (List Int)) : Option (((List Int) × Unit) × Unit) :=
 bif (decide (((0:Nat) + (List.length x0)) * 1 ≤ (1099511627776:Nat))) then some ((x0, ()), ()) else none
def aJ (k : Nat) (x0 : aF) (x1 : Int) : Option (((List Int) × Unit) × Unit) :=
 (cG k x0.2.1).bind fun t1 =>
 (cG k x0.2.2.1).bind fun t2 =>
 (aH k ([t1.1.1, t2.1.1] : List (List Int))).bind fun t3 =>
 bif (decide (x0.1 = 1)) then
 (cG k (Wr .i64 ((Wr .i64 (4096 * (Wr .i64 (5 + (Wr .i64 (Int.tdiv (List.length x0.2.2.2.2.2.2.2.2.2.2.2.2.1 : Int) 4)))))) + x0.2.2.2.2.2.1))).bind fun t4 =>
 (dL k x0.2.2.2.1).bind fun t5 =>
 (dL k x0.2.2.2.2.1).bind fun t6 =>
 (cG k x0.2.2.2.2.2.2.1).bind fun t7 =>
 (cG k x1).bind fun t8 =>
 (cG k x0.2.2.2.2.2.2.2.1).bind fun t9 =>
 (aH k ([t3.1.1, t5.1.1, t6.1.1, t4.1.1, t7.1.1, t8.1.1, t9.1.1, x0.2.2.2.2.2.2.2.2.2.2.2.2.1, x0.2.2.2.2.2.2.2.2.2.2.2.2.2.1] : List (List Int))).bind fun t10 =>
 some (t10.1, ())
 else
 bif (decide (x0.1 = 2)) then
 (aS x0).bind fun t11 =>
 (cG k t11.1.1).bind fun t12 =>
 (cG k x1).bind fun t13 =>
 (aH k ([t3.1.1, t12.1.1, t13.1.1, x0.2.2.2.2.2.2.2.2.2.2.2.2.2.1] : List (List Int))).bind fun t14 =>
 some (t14.1, ())
 else
 bif (decide (x0.1 = 3)) then
 (cG k x1).bind fun t15 =>
 (dL k x0.2.2.2.2.2.2.2.2.2.2.1).bind fun t16 =>
 (aH k ([([(Wr .u8 x0.2.2.2.2.2.2.2.2.1), (Wr .u8 x0.2.2.2.2.2.2.2.2.2.1)] : List Int), t15.1.1, t16.1.1, x0.2.2.2.2.2.2.2.2.2.2.2.2.2.1] : List (List Int))).bind fun t17 =>
 some (t17.1, ())
 else
 (bw x0.2.2.2.2.2.2.2.2.2.2.2.2.2.1).bind fun t18 =>
 some (t18.1, ())
def bS (k : Nat) (x0 : aF) (x1 : ar) (x2 : ar) : Option ((Int × Unit) × Unit) :=
 (kr x1 x2).bind fun t1 =>
 bif (!(!t1.1.1)) then
 (br k x0 x1.1).bind fun t2 =>
 bif (!t2.1.1) then
 some (((-1), ()), ())
 else
 bif (!(decide (x0.1 = 0))) then
 bif x0.2.2.2.2.2.2.2.2.2.2.2.1 then
 some ((0, ()), ())
 else
 bif (!(!(decide (x0.1 = 3)))) then
 bif (decide (x1.1 = 6)) then
 (aS x0).bind fun t3 =>
 (gV k x1 x2 (iI (mget (.int .i64) (.int .i64) ([(1, 6), (2, 17), (3, 58)] : List (Int × Int)) x0.1)) t3.1.1).bind fun t4 =>
 (aJ k x0 0).bind fun t5 =>
 (dR k t5.1.1).bind fun t6 =>
 (jY t4.1.1 t6.1.1).bind fun t7 =>
 bif (decide (x0.1 = 2)) then
 bif (decide ((Wr .i64 (65535 - t7.1.1)) = 0)) then
 some ((65535, ()), ())
 else
 some (((Wr .i64 (65535 - t7.1.1)), ()), ())
 else
 some (((Wr .i64 (65535 - t7.1.1)), ()), ())
 else
 (aJ k x0 0).bind fun t8 =>
 (dR k t8.1.1).bind fun t9 =>
 (jY 0 t9.1.1).bind fun t10 =>
 bif (decide (x0.1 = 2)) then
 bif (decide ((Wr .i64 (65535 - t10.1.1)) = 0)) then
 some ((65535, ()), ())
 else
 some (((Wr .i64 (65535 - t10.1.1)), ()), ())
 else
 some (((Wr .i64 (65535 - t10.1.1)), ()), ())
 else
 (aS x0).bind fun t11 =>
 (gV k x1 x2 (iI (mget (.int .i64) (.int .i64) ([(1, 6), (2, 17), (3, 58)] : List (Int × Int)) x0.1)) t11.1.1).bind fun t12 =>
 (aJ k x0 0).bind fun t13 =>
 (dR k t13.1.1).bind fun t14 =>
 (jY t12.1.1 t14.1.1).bind fun t15 =>
 bif (decide (x0.1 = 2)) then
 bif (decide ((Wr .i64 (65535 - t15.1.1)) = 0)) then
 some ((65535, ()), ())
 else
 some (((Wr .i64 (65535 - t15.1.1)), ()), ())
 else
 some (((Wr .i64 (65535 - t15.1.1)), ()), ())
 else
 some ((0, ()), ())
 else
 some (((-1), ()), ())
def iO (k : Nat) (x0 : aF) (x1 : ar) (x2 : ar) : Option (((List Int) × Unit) × Unit) :=
 (bS k x0 x1 x2).bind fun t1 =>
 bif (decide (t1.1.1 < 0)) then
 some ((([] : List Int), ()), ())
 else
 (aJ k x0 t1.1.1).bind fun t2 =>
 some (t2.1, ())
def fL (x0 : ar) (x1 : Int) : Option ((Bool × Unit) × Unit) :=
 (fC x0).bind fun t1 =>
 bif t1.1.1 then
 some (((decide (x0.1 = x1)), ()), ())
 else
 some ((false, ()), ())
def gE (x0 : aR) : Option ((Int × Unit) × Unit) :=
 some (((Wr .i64 (20 + (List.length x0.2.2.2.2.2.2.2.2.2.1 : Int))), ()), ())
def iE (x0 : aR) : Option ((Int × Unit) × Unit) :=
 (gE x0).bind fun t1 =>
 some (((Wr .i64 (t1.1.1 + (List.length x0.2.2.2.2.2.2.2.2.2.2.1 : Int))), ()), ())
def gm (x0 : aR) : Option ((Bool × Unit) × Unit) :=
 (bG x0.1 0 63).bind fun t1 =>
 bif (!(!t1.1.1)) then
 (bG x0.2.1 0 3).bind fun t2 =>
 bif (!(!t2.1.1)) then
 (jX x0.2.2.1).bind fun t3 =>
 bif (!(!t3.1.1)) then
 (bG x0.2.2.2.1 0 7).bind fun t4 =>
 bif (!(!t4.1.1)) then
 (bG x0.2.2.2.2.1 0 8191).bind fun t5 =>
 bif (!(!t5.1.1)) then
 (dj x0.2.2.2.2.2.1).bind fun t6 =>
 bif (!(!t6.1.1)) then
 (dj x0.2.2.2.2.2.2.1).bind fun t7 =>
 bif (!t7.1.1) then
 some ((false, ()), ())
 else
 (fL x0.2.2.2.2.2.2.2.1 4).bind fun t8 =>
 bif t8.1.1 then
 (fL x0.2.2.2.2.2.2.2.2.1 4).bind fun t9 =>
 bif t9.1.1 then
 bif (decide ((List.length x0.2.2.2.2.2.2.2.2.2.1 : Int) ≤ 40)) then
 bif (decide ((Int.tmod (List.length x0.2.2.2.2.2.2.2.2.2.1 : Int) 4) = 0)) then
 (iE x0).bind fun t10 =>
 some (((decide (t10.1.1 ≤ 1500)), ()), ())
 else
 some ((false, ()), ())
 else
 some ((false, ()), ())
 else
 some ((false, ()), ())
 else
 some ((false, ()), ())
 else
 some ((false, ()), ())
 else
 some ((false, ()), ())
 else
 some ((false, ()), ())
 else
 some ((false, ()), ())
 else
 some ((false, ()), ())
 else
 some ((false, ()), ())
def ji (x0 : aR) : Option ((Bool × Unit) × Unit) :=
 (gm x0).bind fun t1 =>
 bif t1.1.1 then
 bif (!(!(decide (x0.2.2.2.2.1 = 0)))) then
 some (((decide ((Int.tmod x0.2.2.2.1 2) = 1)), ()), ())
 else
 some ((true, ()), ())
 else
 some ((false, ()), ())
def eZ (x0 : Int) (x1 : Int) : Option ((Int × Unit) × Unit) :=
 (dj x0).bind fun t1 =>
 bif (!(!t1.1.1)) then
 bif (!(decide (x1 = 4))) then
 bif (!(decide (x1 = 6))) then
 some (((-1), ()), ())
 else
 bif (decide (x0 = 6)) then
 some ((1, ()), ())
 else
 bif (decide (x0 = 17)) then
 some ((2, ()), ())
 else
 bif (decide (x0 = 1)) then
 bif (!(decide (x1 = 4))) then
 bif (decide (x0 = 58)) then
 bif (decide (x1 = 6)) then
 some ((3, ()), ())
 else
 some ((0, ()), ())
 else
 some ((0, ()), ())
 else
 some ((3, ()), ())
 else
 bif (decide (x0 = 58)) then
 bif (decide (x1 = 6)) then
 some ((3, ()), ())
 else
 some ((0, ()), ())
 else
 some ((0, ()), ())
 else
 bif (decide (x0 = 6)) then
 some ((1, ()), ())
 else
 bif (decide (x0 = 17)) then
 some ((2, ()), ())
 else
 bif (decide (x0 = 1)) then
 bif (!(decide (x1 = 4))) then
 bif (decide (x0 = 58)) then
 bif (decide (x1 = 6)) then
 some ((3, ()), ())
 else
 some ((0, ()), ())
 else
 some ((0, ()), ())
 else
 some ((3, ()), ())
 else
 bif (decide (x0 = 58)) then
 bif (decide (x1 = 6)) then
 some ((3, ()), ())
 else
 some ((0, ()), ())
 else
 some ((0, ()), ())
 else
 some (((-1), ()), ())
def fc (k : Nat) (x0 : aR) (x1 : Int) : Option (((List Int) × Unit) × Unit) :=
 (gE x0).bind fun t1 =>
 (cG k (Wr .i64 ((Wr .i64 (8192 * x0.2.2.2.1)) + x0.2.2.2.2.1))).bind fun t2 =>
 (iE x0).bind fun t3 =>
 (cG k t3.1.1).bind fun t4 =>
 (cG k x0.2.2.1).bind fun t5 =>
 (cG k x1).bind fun t6 =>
 (cD k x0.2.2.2.2.2.2.2.1).bind fun t7 =>
 (cD k x0.2.2.2.2.2.2.2.2.1).bind fun t8 =>
 (aH k ([([(Wr .u8 (Wr .i64 (64 + (Wr .i64 (Int.tdiv t1.1.1 4))))), (Wr .u8 (Wr .i64 ((Wr .i64 (4 * x0.1)) + x0.2.1)))] : List Int), t4.1.1, t5.1.1, t2.1.1, ([(Wr .u8 x0.2.2.2.2.2.1), (Wr .u8 x0.2.2.2.2.2.2.1)] : List Int), t6.1.1, t7.1.1, t8.1.1, x0.2.2.2.2.2.2.2.2.2.1] : List (List Int))).bind fun t9 =>
 some (t9.1, ())
def jL (k : Nat) (x0 : (List Int)) : Option ((Int × Unit) × Unit) :=
 bif (decide (2000 < (List.length x0 : Int))) then
 some (((-1), ()), ())
 else
 (dR k x0).bind fun t1 =>
 some (((Wr .i64 (65535 - t1.1.1)), ()), ())
def ku (k : Nat) (x0 : aR) : Option ((Int × Unit) × Unit) :=
 (gm x0).bind fun t1 =>
 bif (!t1.1.1) then
 some (((-1), ()), ())
 else
 (fc k x0 0).bind fun t2 =>
 (jL k t2.1.1).bind fun t3 =>
 some (t3.1, ())
def gW (k : Nat) (x0 : aR) : Option (((List Int) × Unit) × Unit) :=
 (gm x0).bind fun t1 =>
 bif (!t1.1.1) then
 some ((([] : List Int), ()), ())
 else
 (ku k x0).bind fun t2 =>
 (fc k x0 t2.1.1).bind fun t3 =>
 (aH k ([t3.1.1, x0.2.2.2.2.2.2.2.2.2.2.1] : List (List Int))).bind fun t4 =>
 some (t4.1, ())
def gX (x0 : Int) : Option ((Bool × Unit) × Unit) :=
 bif (!(decide (x0 = 0))) then
 bif (!(decide (x0 = 43))) then
 some (((decide (x0 = 60)), ()), ())
 else
 some ((true, ()), ())
 else
 some ((true, ()), ())
def dc (rec : (Unit × ((List aB) × ((List aB) × (Int × (Int × Unit))))) → Option ((Unit × (Bool × Unit)) ⊕ (Unit × ((List aB) × Unit)))) (v : (Unit × ((List aB) × ((List aB) × (Int × (Int × Unit)))))) : Option ((Unit × (Bool × Unit)) ⊕ (Unit × ((List aB) × Unit))) :=
 bif (decide (v.2.2.2.2.1 < v.2.2.2.1)) then
 bif ((decide (0 ≤ v.2.2.2.2.1)) && (decide (v.2.2.2.2.1 < (List.length v.2.2.1 : Int)))) then
 bif (decide ((Int.toNat v.2.2.2.2.1) < (List.length v.2.2.1))) then
 (gX (List.getD v.2.2.1 (Int.toNat v.2.2.2.2.1) cF).1).bind fun t1 =>
 bif (!(!t1.1.1)) then
 bif (decide (0 < v.2.2.2.2.1)) then
 bif (!(decide ((List.getD v.2.2.1 (Int.toNat v.2.2.2.2.1) cF).1 = 0))) then
 bif (!(!(decide ((Int.tmod (List.length (List.getD v.2.2.1 (Int.toNat v.2.2.2.2.1) cF).2.1 : Int) 8) = 6)))) then
 bif (decide (62 < (List.length (List.getD v.2.2.1 (Int.toNat v.2.2.2.2.1) cF).2.1 : Int))) then
 some (Sum.inl ((), false, ()))
 else
 rec ((), v.2.1, v.2.2.1, v.2.2.2.1, (Wr .i64 (v.2.2.2.2.1 + 1)), ())
 else
 some (Sum.inl ((), false, ()))
 else
 some (Sum.inl ((), false, ()))
 else
 bif (!(!(decide ((Int.tmod (List.length (List.getD v.2.2.1 (Int.toNat v.2.2.2.2.1) cF).2.1 : Int) 8) = 6)))) then
 bif (decide (62 < (List.length (List.getD v.2.2.1 (Int.toNat v.2.2.2.2.1) cF).2.1 : Int))) then
 some (Sum.inl ((), false, ()))
 else
 rec ((), v.2.1, v.2.2.1, v.2.2.2.1, (Wr .i64 (v.2.2.2.2.1 + 1)), ())
 else
 some (Sum.inl ((), false, ()))
 else
 some (Sum.inl ((), false, ()))
 else none
 else none
 else
 some (Sum.inr ((), v.2.1, ()))
def kx (k : Nat) (x0 : (List aB)) : Option ((Bool × Unit) × Unit) :=
 (iter (dc) k ((), x0, x0, (List.length x0 : Int), 0, ())).bind fun o1 =>
 Sum.elim (fun a2 =>
 some (a2.2, ()))
 (fun b3 =>
 some (((decide ((List.length b3.2.1 : Int) ≤ 3)), ()), ())) o1
def cT (rec : (Unit × (Int × ((List aB) × (Int × (Int × Unit))))) → Option ((Unit × (Int × Unit)))) (v : (Unit × (Int × ((List aB) × (Int × (Int × Unit)))))) : Option ((Unit × (Int × Unit))) :=
 bif (decide (v.2.2.2.2.1 < v.2.2.2.1)) then
 bif ((decide (0 ≤ v.2.2.2.2.1)) && (decide (v.2.2.2.2.1 < (List.length v.2.2.1 : Int)))) then
 bif (decide ((Int.toNat v.2.2.2.2.1) < (List.length v.2.2.1))) then
 rec ((), (Wr .i64 (v.2.1 + (Wr .i64 (2 + (List.length (List.getD v.2.2.1 (Int.toNat v.2.2.2.2.1) cF).2.1 : Int))))), v.2.2.1, v.2.2.2.1, (Wr .i64 (v.2.2.2.2.1 + 1)), ())
 else none
 else none
 else
 some ((), v.2.1, ())
def iF (k : Nat) (x0 : (List aB)) : Option ((Int × Unit) × Unit) :=
 (iter (cT) k ((), 0, x0, (List.length x0 : Int), 0, ())).bind fun o1 =>
 some (o1.2, ())
def kK (k : Nat) (x0 : bc) : Option ((Bool × Unit) × Unit) :=
 (dj x0.1).bind fun t1 =>
 bif (!(!t1.1.1)) then
 (bG x0.2.1 0 1048575).bind fun t2 =>
 bif (!(!t2.1.1)) then
 (dj x0.2.2.1).bind fun t3 =>
 bif (!(!t3.1.1)) then
 (dj x0.2.2.2.1).bind fun t4 =>
 bif (!(!t4.1.1)) then
 (gX x0.2.2.2.1).bind fun t5 =>
 bif t5.1.1 then
 some ((false, ()), ())
 else
 (fL x0.2.2.2.2.1 6).bind fun t6 =>
 bif t6.1.1 then
 (fL x0.2.2.2.2.2.1 6).bind fun t7 =>
 bif t7.1.1 then
 (kx k x0.2.2.2.2.2.2.1).bind fun t8 =>
 bif t8.1.1 then
 (iF k x0.2.2.2.2.2.2.1).bind fun t9 =>
 some (((decide ((Wr .i64 ((Wr .i64 (40 + t9.1.1)) + (List.length x0.2.2.2.2.2.2.2.1 : Int))) ≤ 1500)), ()), ())
 else
 some ((false, ()), ())
 else
 some ((false, ()), ())
 else
 some ((false, ()), ())
 else
 some ((false, ()), ())
 else
 some ((false, ()), ())
 else
 some ((false, ()), ())
 else
 some ((false, ()), ())
def eC (x0 : Int) (x1 : bc) : Option ((Int × Unit) × Unit) :=
 bif (decide (x0 < (List.length x1.2.2.2.2.2.2.1 : Int))) then
 bif ((decide (0 ≤ x0)) && (decide (x0 < (List.length x1.2.2.2.2.2.2.1 : Int)))) then
 bif (decide ((Int.toNat x0) < (List.length x1.2.2.2.2.2.2.1))) then
 some (((Wr .u8 (List.getD x1.2.2.2.2.2.2.1 (Int.toNat x0) cF).1), ()), ())
 else none
 else none
 else
 some (((Wr .u8 x1.2.2.2.1), ()), ())
def cU (rec : (Unit × (Unit × (bc × ((List Int) × ((List aB) × (Int × (Int × Unit))))))) → Option ((Unit × (bc × ((List Int) × Unit))))) (v : (Unit × (Unit × (bc × ((List Int) × ((List aB) × (Int × (Int × Unit)))))))) : Option ((Unit × (bc × ((List Int) × Unit)))) :=
 bif (decide (v.2.2.2.2.2.2.1 < v.2.2.2.2.2.1)) then
 bif ((decide (0 ≤ v.2.2.2.2.2.2.1)) && (decide (v.2.2.2.2.2.2.1 < (List.length v.2.2.2.2.1 : Int)))) then
 bif (decide ((Int.toNat v.2.2.2.2.2.2.1) < (List.length v.2.2.2.2.1))) then
 (eC (Wr .i64 (v.2.2.2.2.2.2.1 + 1)) v.2.2.1).bind fun t9 =>
 bif (decide ((((List.length v.2.2.2.1) + (2:Nat)) * 1) ≤ (1099511627776:Nat))) then
 bif (decide ((((List.length (v.2.2.2.1 ++ ([t9.1.1, (Wr .u8 (Wr .i64 ((Wr .i64 (Int.tdiv (Wr .i64 (2 + (List.length (List.getD v.2.2.2.2.1 (Int.toNat v.2.2.2.2.2.2.1) cF).2.1 : Int))) 8)) - 1)))] : List Int))) + (List.length (List.getD v.2.2.2.2.1 (Int.toNat v.2.2.2.2.2.2.1) cF).2.1)) * 1) ≤ (1099511627776:Nat))) then
 rec ((), (), v.2.2.1, ((v.2.2.2.1 ++ ([t9.1.1, (Wr .u8 (Wr .i64 ((Wr .i64 (Int.tdiv (Wr .i64 (2 + (List.length (List.getD v.2.2.2.2.1 (Int.toNat v.2.2.2.2.2.2.1) cF).2.1 : Int))) 8)) - 1)))] : List Int)) ++ (List.getD v.2.2.2.2.1 (Int.toNat v.2.2.2.2.2.2.1) cF).2.1), v.2.2.2.2.1, v.2.2.2.2.2.1, (Wr .i64 (v.2.2.2.2.2.2.1 + 1)), ())
 else none
 else none
 else none
 else none
 else
 some ((), v.2.2.1, v.2.2.2.1, ())
def jM (k : Nat) (x0 : bc) : Option (((List Int) × Unit) × Unit) :=
 (kK k x0).bind fun t1 =>
 bif (!t1.1.1) then
 some ((([] : List Int), ()), ())
 else
 (iF k x0.2.2.2.2.2.2.1).bind fun t2 =>
 (dL k (Wr .i64 (BitVec.ofInt (IntKind.bits .i64) (Wr .i64 (BitVec.ofInt (IntKind.bits .i64) 1610612736 ||| BitVec.ofInt (IntKind.bits .i64) (Wr .i64 (x0.1 * 2 ^ min (Int.toNat 20) (IntKind.bits .i64)))).toNat) ||| BitVec.ofInt (IntKind.bits .i64) x0.2.1).toNat)).bind fun t3 =>
 (cG k (Wr .i64 (t2.1.1 + (List.length x0.2.2.2.2.2.2.2.1 : Int)))).bind fun t4 =>
 (eC 0 x0).bind fun t5 =>
 (cD k x0.2.2.2.2.1).bind fun t6 =>
 (cD k x0.2.2.2.2.2.1).bind fun t7 =>
 (aH k ([t3.1.1, t4.1.1, ([t5.1.1, (Wr .u8 x0.2.2.1)] : List Int), t6.1.1, t7.1.1] : List (List Int))).bind fun t8 =>
 (iter (cU) k ((), (), x0, t8.1.1, x0.2.2.2.2.2.2.1, (List.length x0.2.2.2.2.2.2.1 : Int), 0, ())).bind fun o9 =>
 bif (decide ((((List.length o9.2.2.1) + (List.length o9.2.1.2.2.2.2.2.2.2.1)) * 1) ≤ (1099511627776:Nat))) then
 some (((o9.2.2.1 ++ o9.2.1.2.2.2.2.2.2.2.1), ()), ())
 else none
def dZ (k : Nat) (x0 : aj) : Option (((List Int) × (Bool × Unit)) × Unit) :=
 (cR x0).bind fun t1 =>
 (bS k x0.2.2.2.2.1 t1.1.1 t1.1.2.1).bind fun t2 =>
 bif (decide (t2.1.1 < 0)) then
 some ((([] : List Int), false, ()), ())
 else
 (iO k x0.2.2.2.2.1 t1.1.1 t1.1.2.1).bind fun t3 =>
 bif (decide (x0.1 = 4)) then
 (ji (x0.2.2.1.1, x0.2.2.1.2.1, x0.2.2.1.2.2.1, x0.2.2.1.2.2.2.1, x0.2.2.1.2.2.2.2.1, x0.2.2.1.2.2.2.2.2.1, x0.2.2.1.2.2.2.2.2.2.1, x0.2.2.1.2.2.2.2.2.2.2.1, x0.2.2.1.2.2.2.2.2.2.2.2.1, x0.2.2.1.2.2.2.2.2.2.2.2.2.1, t3.1)).bind fun t4 =>
 bif (!t4.1.1) then
 (eZ x0.2.2.1.2.2.2.2.2.2.1 4).bind fun t5 =>
 (gW k (x0.2.2.1.1, x0.2.2.1.2.1, x0.2.2.1.2.2.1, x0.2.2.1.2.2.2.1, x0.2.2.1.2.2.2.2.1, x0.2.2.1.2.2.2.2.2.1, x0.2.2.1.2.2.2.2.2.2.1, x0.2.2.1.2.2.2.2.2.2.2.1, x0.2.2.1.2.2.2.2.2.2.2.2.1, x0.2.2.1.2.2.2.2.2.2.2.2.2.1, t3.1)).bind fun t6 =>
 (gm (x0.2.2.1.1, x0.2.2.1.2.1, x0.2.2.1.2.2.1, x0.2.2.1.2.2.2.1, x0.2.2.1.2.2.2.2.1, x0.2.2.1.2.2.2.2.2.1, x0.2.2.1.2.2.2.2.2.2.1, x0.2.2.1.2.2.2.2.2.2.2.1, x0.2.2.1.2.2.2.2.2.2.2.2.1, x0.2.2.1.2.2.2.2.2.2.2.2.2.1, t3.1)).bind fun t7 =>
 bif t7.1.1 then
 some ((t6.1.1, (decide (x0.2.2.2.2.1.1 = t5.1.1)), ()), ())
 else
 some ((t6.1.1, false, ()), ())
 else
 (gW k (x0.2.2.1.1, x0.2.2.1.2.1, x0.2.2.1.2.2.1, x0.2.2.1.2.2.2.1, x0.2.2.1.2.2.2.2.1, x0.2.2.1.2.2.2.2.2.1, x0.2.2.1.2.2.2.2.2.2.1, x0.2.2.1.2.2.2.2.2.2.2.1, x0.2.2.1.2.2.2.2.2.2.2.2.1, x0.2.2.1.2.2.2.2.2.2.2.2.2.1, t3.1)).bind fun t8 =>
 (gm (x0.2.2.1.1, x0.2.2.1.2.1, x0.2.2.1.2.2.1, x0.2.2.1.2.2.2.1, x0.2.2.1.2.2.2.2.1, x0.2.2.1.2.2.2.2.2.1, x0.2.2.1.2.2.2.2.2.2.1, x0.2.2.1.2.2.2.2.2.2.2.1, x0.2.2.1.2.2.2.2.2.2.2.2.1, x0.2.2.1.2.2.2.2.2.2.2.2.2.1, t3.1)).bind fun t9 =>
 bif t9.1.1 then
 some ((t8.1.1, (decide (x0.2.2.2.2.1.1 = 0)), ()), ())
 else
 some ((t8.1.1, false, ()), ())
 else
 (jM k (x0.2.2.2.1.1, x0.2.2.2.1.2.1, x0.2.2.2.1.2.2.1, x0.2.2.2.1.2.2.2.1, x0.2.2.2.1.2.2.2.2.1, x0.2.2.2.1.2.2.2.2.2.1, x0.2.2.2.1.2.2.2.2.2.2.1, t3.1)).bind fun t10 =>
 (kK k (x0.2.2.2.1.1, x0.2.2.2.1.2.1, x0.2.2.2.1.2.2.1, x0.2.2.2.1.2.2.2.1, x0.2.2.2.1.2.2.2.2.1, x0.2.2.2.1.2.2.2.2.2.1, x0.2.2.2.1.2.2.2.2.2.2.1, t3.1)).bind fun t11 =>
 bif t11.1.1 then
 (eZ x0.2.2.2.1.2.2.2.1 6).bind fun t12 =>
 some ((t10.1.1, (decide (x0.2.2.2.2.1.1 = t12.1.1)), ()), ())
 else
 some ((t10.1.1, false, ()), ())
def mU (x0 : Int) : Option ((Bool × Unit) × Unit) :=
 (bG x0 1536 65535).bind fun t1 =>
 bif t1.1.1 then
 some (((!(decide (x0 = 33024))), ()), ())
 else
 some ((false, ()), ())
def mV (x0 : bH) : Option ((Int × Unit) × Unit) :=
 bif (decide (0 ≤ x0.2.2.1)) then
 some ((18, ()), ())
 else
 some ((14, ()), ())
def kz (x0 : bH) : Option ((Bool × Unit) × Unit) :=
 (bG x0.1 0 281474976710655).bind fun t1 =>
 bif t1.1.1 then
 (bG x0.2.1 0 281474976710655).bind fun t2 =>
 bif t2.1.1 then
 (bG x0.2.2.1 (-1) 65535).bind fun t3 =>
 bif t3.1.1 then
 (mU x0.2.2.2.1).bind fun t4 =>
 bif t4.1.1 then
 (mV x0).bind fun t5 =>
 some (((decide ((Wr .i64 (t5.1.1 + (List.length x0.2.2.2.2.1 : Int))) ≤ 1600)), ()), ())
 else
 some ((false, ()), ())
 else
 some ((false, ()), ())
 else
 some ((false, ()), ())
 else
 some ((false, ()), ())
abbrev dW (k : Nat) (x0 : aj) : Option ((bH × (Bool × Unit)) × Unit) :=
 (dy k ([(List.length x0.2.1.2.2.2.2.1 : Int), (List.length x0.2.2.1.2.2.2.2.2.2.2.2.2.2.1 : Int), (List.length x0.2.2.2.1.2.2.2.2.2.2.2.1 : Int)] : List Int)).bind fun t3 =>
 bif (!t3.1.1) then
 some ((vw, false, ()), ())
 else
 (dZ k x0).bind fun t4 =>
 (aH k ([t4.1.1, x0.2.2.2.2.2.1] : List (List Int))).bind fun t5 =>
 bif t4.1.2.1 then
 (kz (x0.2.1.1, x0.2.1.2.1, x0.2.1.2.2.1, x0.2.1.2.2.2.1, t5.1)).bind fun t6 =>
 some (((x0.2.1.1, x0.2.1.2.1, x0.2.1.2.2.1, x0.2.1.2.2.2.1, t5.1), t6.1), ())
 else
 some (((x0.2.1.1, x0.2.1.2.1, x0.2.1.2.2.1, x0.2.1.2.2.2.1, t5.1), false, ()), ())
abbrev dk (k : Nat) (x0 : aj) : Option ((bH × (Bool × Unit)) × Unit) :=
 bif (decide (x0.1 = 6)) then
 (iN k x0.2.2.1).bind fun t2 =>
 bif t2.1.1 then
 bif (!(!(decide (x0.2.1.2.2.2.1 = 34525)))) then
 dW k x0
 else
 some ((vw, false, ()), ())
 else
 some ((vw, false, ()), ())
 else
 some ((vw, false, ()), ())
def ef (k : Nat) (x0 : aj) : Option ((bH × (Bool × Unit)) × Unit) :=
 bif (decide (x0.1 = 4)) then
 (jh k x0.2.2.2.1).bind fun t1 =>
 bif t1.1.1 then
 bif (!(decide (x0.2.1.2.2.2.1 = 2048))) then
 dk k x0
 else
 dW k x0
 else
 dk k x0
 else
 dk k x0
def jN (k : Nat) (x0 : aj) : Option ((Bool × Unit) × Unit) :=
 (ef k x0).bind fun t1 =>
 some (t1.1.2, ())
def Sn (x0 : Int) : Option ((Bool × Unit) × Unit) :=
 (bG x0 0 1000000000000).bind fun t1 =>
 some (((!t1.1.1), ()), ())
def RS (rec : (Unit × ((List Int) × (Unit × (Int × (Int × Unit))))) → Option ((Unit × (Int × Unit)) ⊕ (Unit × Unit))) (v : (Unit × ((List Int) × (Unit × (Int × (Int × Unit)))))) : Option ((Unit × (Int × Unit)) ⊕ (Unit × Unit)) :=
 bif (decide (v.2.2.2.2.1 < v.2.2.2.1)) then
 bif ((decide (0 ≤ v.2.2.2.2.1)) && (decide (v.2.2.2.2.1 < (List.length v.2.1 : Int)))) then
 bif (decide ((Int.toNat v.2.2.2.2.1) < (List.length v.2.1))) then
 (Sn (List.getD v.2.1 (Int.toNat v.2.2.2.2.1) 0)).bind fun t1 =>
 bif t1.1.1 then
 some (Sum.inl ((), v.2.2.2.2))
 else
 rec ((), v.2.1, (), v.2.2.2.1, (Wr .i64 (v.2.2.2.2.1 + 1)), ())
 else none
 else none
 else
 some (Sum.inr ((), ()))
def R7 (k : Nat) (x0 : (List Int)) (x1 : Unit) : Option ((Int × Unit) × Unit) :=
 (iter (RS) k ((), x0, (), (List.length x0 : Int), 0, ())).bind fun o1 =>
 Sum.elim (fun a2 =>
 some (a2.2, ()))
 (fun b3 =>
 some (((-1), ()), ())) o1
def R4 (k : Nat) (x0 : (List Int)) (x1 : Unit) : Option ((Bool × Unit) × Unit) :=
 (R7 k x0 ()).bind fun t1 =>
 some (((decide (0 ≤ t1.1.1)), ()), ())
def Sk (k : Nat) (x0 : (List Int)) : Option ((Bool × Unit) × Unit) :=
 bif (decide ((List.length x0 : Int) = 4)) then
 (R4 k x0 ()).bind fun t1 =>
 some (((!t1.1.1), ()), ())
 else
 some ((false, ()), ())
def bU (rec : (Unit × (aj × (aj × ((List aB) × ((List aB) × (Int × (Int × Unit))))))) → Option ((Unit × (aj × (aj × ((List aB) × Unit)))))) (v : (Unit × (aj × (aj × ((List aB) × ((List aB) × (Int × (Int × Unit)))))))) : Option ((Unit × (aj × (aj × ((List aB) × Unit))))) :=
 bif (decide (v.2.2.2.2.2.2.1 < v.2.2.2.2.2.1)) then
 bif ((decide (0 ≤ v.2.2.2.2.2.2.1)) && (decide (v.2.2.2.2.2.2.1 < (List.length v.2.2.2.2.1 : Int)))) then
 bif (decide ((Int.toNat v.2.2.2.2.2.2.1) < (List.length v.2.2.2.2.1))) then
 (bw (List.getD v.2.2.2.2.1 (Int.toNat v.2.2.2.2.2.2.1) cF).2.1).bind fun t5 =>
 bif (decide ((((List.length v.2.2.2.1) + (1:Nat)) * 32) ≤ (1099511627776:Nat))) then
 rec ((), v.2.1, v.2.2.1, (v.2.2.2.1 ++ ([((List.getD v.2.2.2.2.1 (Int.toNat v.2.2.2.2.2.2.1) cF).1, t5.1)] : List aB)), v.2.2.2.2.1, v.2.2.2.2.2.1, (Wr .i64 (v.2.2.2.2.2.2.1 + 1)), ())
 else none
 else none
 else none
 else
 some ((), v.2.1, v.2.2.1, v.2.2.2.1, ())
def iP (k : Nat) (x0 : aj) : Option ((aj × Unit) × Unit) :=
 (bw x0.2.2.1.2.2.2.2.2.2.2.2.2.1).bind fun t1 =>
 (bw x0.2.2.2.2.1.2.2.2.2.2.2.2.2.2.2.2.2.1).bind fun t2 =>
 (bw x0.2.2.2.2.1.2.2.2.2.2.2.2.2.2.2.2.2.2.1).bind fun t3 =>
 (bw x0.2.2.2.2.2.1).bind fun t4 =>
 (iter (bU) k ((), (x0.1, (x0.2.1.1, x0.2.1.2.1, x0.2.1.2.2.1, x0.2.1.2.2.2.1, ([] : List Int), ()), (x0.2.2.1.1, x0.2.2.1.2.1, x0.2.2.1.2.2.1, x0.2.2.1.2.2.2.1, x0.2.2.1.2.2.2.2.1, x0.2.2.1.2.2.2.2.2.1, x0.2.2.1.2.2.2.2.2.2.1, x0.2.2.1.2.2.2.2.2.2.2.1, x0.2.2.1.2.2.2.2.2.2.2.2.1, t1.1.1, ([] : List Int), ()), (x0.2.2.2.1.1, x0.2.2.2.1.2.1, x0.2.2.2.1.2.2.1, x0.2.2.2.1.2.2.2.1, x0.2.2.2.1.2.2.2.2.1, x0.2.2.2.1.2.2.2.2.2.1, x0.2.2.2.1.2.2.2.2.2.2.1, ([] : List Int), ()), (x0.2.2.2.2.1.1, x0.2.2.2.2.1.2.1, x0.2.2.2.2.1.2.2.1, x0.2.2.2.2.1.2.2.2.1, x0.2.2.2.2.1.2.2.2.2.1, x0.2.2.2.2.1.2.2.2.2.2.1, x0.2.2.2.2.1.2.2.2.2.2.2.1, x0.2.2.2.2.1.2.2.2.2.2.2.2.1, x0.2.2.2.2.1.2.2.2.2.2.2.2.2.1, x0.2.2.2.2.1.2.2.2.2.2.2.2.2.2.1, x0.2.2.2.2.1.2.2.2.2.2.2.2.2.2.2.1, x0.2.2.2.2.1.2.2.2.2.2.2.2.2.2.2.2.1, t2.1.1, t3.1), t4.1), oK, ([] : List aB), x0.2.2.2.1.2.2.2.2.2.2.1, (List.length x0.2.2.2.1.2.2.2.2.2.2.1 : Int), 0, ())).bind fun o5 =>
 some (((o5.2.1.1, o5.2.1.2.1, o5.2.1.2.2.1, (o5.2.1.2.2.2.1.1, o5.2.1.2.2.2.1.2.1, o5.2.1.2.2.2.1.2.2.1, o5.2.1.2.2.2.1.2.2.2.1, o5.2.1.2.2.2.1.2.2.2.2.1, o5.2.1.2.2.2.1.2.2.2.2.2.1, o5.2.2.2.1, o5.2.1.2.2.2.1.2.2.2.2.2.2.2), o5.2.1.2.2.2.2), ()), ())
def So (x0 : (List Int)) : Option (((List Int) × Unit) × Unit) :=
 bif (decide (((0:Nat) + (List.length x0)) * 8 ≤ (1099511627776:Nat))) then some ((x0, ()), ()) else none
def Se (k : Nat) (x0 : aj) : Option ((Int × Unit) × Unit) :=
 (ef k x0).bind fun t1 =>
 bif (!t1.1.2.1) then
 some (((-1), ()), ())
 else
 (mV t1.1.1).bind fun t2 =>
 some (((Wr .i64 (t2.1.1 + (List.length t1.1.1.2.2.2.2.1 : Int))), ()), ())
def gL (x0 : aj) : Option ((Int × Unit) × Unit) :=
 bif (decide (x0.1 = 4)) then
 some ((x0.2.2.1.2.2.2.2.2.2.1, ()), ())
 else
 some ((x0.2.2.2.1.2.2.2.1, ()), ())
def iQ (x0 : aj) : Option ((qZ × Unit) × Unit) :=
 (cR x0).bind fun t1 =>
 (gL x0).bind fun t2 =>
 some (((t1.1.1, t1.1.2.1, t2.1.1, x0.2.2.2.2.1.2.1, x0.2.2.2.2.1.2.2.1, ()), ()), ())
def dd (k : Nat) (x0 : bx) (x1 : ar) : Option ((Bool × Unit) × Unit) :=
 (jr x0).bind fun t1 =>
 bif (!t1.1.1) then
 bif (decide (x1.1 = x0.1.1)) then
 (lH k x1 x0.2.1).bind fun t2 =>
 some ((((decide (t2.1.1.1 = x0.1.1)) && ((decide (t2.1.1.2.1 = x0.1.2.1)) && ((decide (t2.1.1.2.2.1 = x0.1.2.2.1)) && ((decide (t2.1.1.2.2.2.1 = x0.1.2.2.2.1)) && ((decide (t2.1.1.2.2.2.2.1 = x0.1.2.2.2.2.1)) && true))))), ()), ())
 else
 some ((false, ()), ())
 else
 some ((true, ()), ())
def fk (k : Nat) (x0 : aV) (x1 : qZ) : Option ((Bool × Unit) × Unit) :=
 (dd k x0.2.1 x1.1).bind fun t1 =>
 bif t1.1.1 then
 (dd k x0.2.2.1 x1.2.1).bind fun t2 =>
 bif t2.1.1 then
 bif (!(decide (x0.2.2.2.1 = (-1)))) then
 bif (decide (x0.2.2.2.1 = x1.2.2.1)) then
 (bG x1.2.2.2.2.1 x0.2.2.2.2.1 x0.2.2.2.2.2.1).bind fun t3 =>
 some (t3.1, ())
 else
 some ((false, ()), ())
 else
 (bG x1.2.2.2.2.1 x0.2.2.2.2.1 x0.2.2.2.2.2.1).bind fun t4 =>
 some (t4.1, ())
 else
 some ((false, ()), ())
 else
 some ((false, ()), ())
def kL (k : Nat) (x0 : bx) (x1 : ar) : Option ((ar × Unit) × Unit) :=
 (lH k x1 x0.2.1).bind fun t1 =>
 some (((x1.1, (Wr .i64 ((Wr .i64 (x1.2.1 - t1.1.1.2.1)) + x0.1.2.1)), (Wr .i64 ((Wr .i64 (x1.2.2.1 - t1.1.1.2.2.1)) + x0.1.2.2.1)), (Wr .i64 ((Wr .i64 (x1.2.2.2.1 - t1.1.1.2.2.2.1)) + x0.1.2.2.2.1)), (Wr .i64 ((Wr .i64 (x1.2.2.2.2.1 - t1.1.1.2.2.2.2.1)) + x0.1.2.2.2.2.1)), ()), ()), ())
abbrev bz (k : Nat) (x0 : aV) (t1 : ((aj × Unit) × Unit)) : Option ((aj × (Int × Unit)) × Unit) :=
 bif (decide (x0.1 = 2)) then
 (dd k x0.2.1 t1.1.1.2.2.2.1.2.2.2.2.1).bind fun t4 =>
 bif t4.1.1 then
 (kL k x0.2.2.1 t1.1.1.2.2.2.1.2.2.2.2.1).bind fun t5 =>
 some (((t1.1.1.1, t1.1.1.2.1, t1.1.1.2.2.1, (t1.1.1.2.2.2.1.1, t1.1.1.2.2.2.1.2.1, t1.1.1.2.2.2.1.2.2.1, t1.1.1.2.2.2.1.2.2.2.1, t5.1.1, t1.1.1.2.2.2.1.2.2.2.2.2), t1.1.1.2.2.2.2), 0, ()), ())
 else
 some ((t1.1.1, 0, ()), ())
 else
 (dd k x0.2.1 t1.1.1.2.2.2.1.2.2.2.2.2.1).bind fun t6 =>
 bif t6.1.1 then
 (kL k x0.2.2.1 t1.1.1.2.2.2.1.2.2.2.2.2.1).bind fun t7 =>
 some (((t1.1.1.1, t1.1.1.2.1, t1.1.1.2.2.1, (t1.1.1.2.2.2.1.1, t1.1.1.2.2.2.1.2.1, t1.1.1.2.2.2.1.2.2.1, t1.1.1.2.2.2.1.2.2.2.1, t1.1.1.2.2.2.1.2.2.2.2.1, t7.1.1, t1.1.1.2.2.2.1.2.2.2.2.2.2), t1.1.1.2.2.2.2), 0, ()), ())
 else
 some ((t1.1.1, 0, ()), ())
abbrev bA (k : Nat) (x0 : aV) (t1 : ((aj × Unit) × Unit)) : Option ((aj × (Int × Unit)) × Unit) :=
 bif (decide (x0.1 = 2)) then
 bif (decide (t1.1.1.1 = 6)) then
 bz k x0 t1
 else
 (dd k x0.2.1 t1.1.1.2.2.1.2.2.2.2.2.2.2.1).bind fun t8 =>
 bif t8.1.1 then
 (kL k x0.2.2.1 t1.1.1.2.2.1.2.2.2.2.2.2.2.1).bind fun t9 =>
 some (((t1.1.1.1, t1.1.1.2.1, (t1.1.1.2.2.1.1, t1.1.1.2.2.1.2.1, t1.1.1.2.2.1.2.2.1, t1.1.1.2.2.1.2.2.2.1, t1.1.1.2.2.1.2.2.2.2.1, t1.1.1.2.2.1.2.2.2.2.2.1, t1.1.1.2.2.1.2.2.2.2.2.2.1, t9.1.1, t1.1.1.2.2.1.2.2.2.2.2.2.2.2), t1.1.1.2.2.2), 0, ()), ())
 else
 some ((t1.1.1, 0, ()), ())
 else
 bif (decide (t1.1.1.1 = 6)) then
 bz k x0 t1
 else
 (dd k x0.2.1 t1.1.1.2.2.1.2.2.2.2.2.2.2.2.1).bind fun t14 =>
 bif t14.1.1 then
 (kL k x0.2.2.1 t1.1.1.2.2.1.2.2.2.2.2.2.2.2.1).bind fun t15 =>
 some (((t1.1.1.1, t1.1.1.2.1, (t1.1.1.2.2.1.1, t1.1.1.2.2.1.2.1, t1.1.1.2.2.1.2.2.1, t1.1.1.2.2.1.2.2.2.1, t1.1.1.2.2.1.2.2.2.2.1, t1.1.1.2.2.1.2.2.2.2.2.1, t1.1.1.2.2.1.2.2.2.2.2.2.1, t1.1.1.2.2.1.2.2.2.2.2.2.2.1, t15.1.1, t1.1.1.2.2.1.2.2.2.2.2.2.2.2.2), t1.1.1.2.2.2), 0, ()), ())
 else
 some ((t1.1.1, 0, ()), ())
abbrev bB : Option ((aj × (Int × Unit)) × Unit) :=
 some ((oK, 3, ()), ())
abbrev bC (t1 : ((aj × Unit) × Unit)) : Option ((aj × (Int × Unit)) × Unit) :=
 bif (decide (t1.1.1.1 = 4)) then
 some (((t1.1.1.1, t1.1.1.2.1, (t1.1.1.2.2.1.1, 3, t1.1.1.2.2.1.2.2), t1.1.1.2.2.2), 0, ()), ())
 else
 some (((t1.1.1.1, t1.1.1.2.1, t1.1.1.2.2.1, ((Wr .i64 (t1.1.1.2.2.2.1.1 + (Wr .i64 (3 - (Int.tmod t1.1.1.2.2.2.1.1 4))))), t1.1.1.2.2.2.1.2), t1.1.1.2.2.2.2), 0, ()), ())
abbrev bD (t1 : ((aj × Unit) × Unit)) : Option ((aj × (Int × Unit)) × Unit) :=
 bif (decide (t1.1.1.1 = 4)) then
 some (((t1.1.1.1, t1.1.1.2.1, (t1.1.1.2.2.1.1, 3, t1.1.1.2.2.1.2.2), t1.1.1.2.2.2), 0, ()), ())
 else
 some (((t1.1.1.1, t1.1.1.2.1, t1.1.1.2.2.1, ((Wr .i64 (t1.1.1.2.2.2.1.1 + (Wr .i64 (3 - t1.1.1.2.2.1.2.1)))), t1.1.1.2.2.2.1.2), t1.1.1.2.2.2.2), 0, ()), ())
abbrev bE (x0 : aV) (t1 : ((aj × Unit) × Unit)) : Option ((aj × (Int × Unit)) × Unit) :=
 bif (decide (x0.1 = 4)) then
 bif (decide (t1.1.1.1 = 6)) then
 bif (decide (t1.1.1.2.2.2.1.2.2.1 < 2)) then
 bB
 else
 some (((t1.1.1.1, t1.1.1.2.1, t1.1.1.2.2.1, (t1.1.1.2.2.2.1.1, t1.1.1.2.2.2.1.2.1, (Wr .i64 (t1.1.1.2.2.2.1.2.2.1 - 1)), t1.1.1.2.2.2.1.2.2.2), t1.1.1.2.2.2.2), 0, ()), ())
 else
 bif (decide (t1.1.1.2.2.1.2.2.2.2.2.1 < 2)) then
 bB
 else
 some (((t1.1.1.1, t1.1.1.2.1, (t1.1.1.2.2.1.1, t1.1.1.2.2.1.2.1, t1.1.1.2.2.1.2.2.1, t1.1.1.2.2.1.2.2.2.1, t1.1.1.2.2.1.2.2.2.2.1, (Wr .i64 (t1.1.1.2.2.1.2.2.2.2.2.1 - 1)), t1.1.1.2.2.1.2.2.2.2.2.2), t1.1.1.2.2.2), 0, ()), ())
 else
 bif (decide (x0.1 = 5)) then
 bif (decide (t1.1.1.1 = 4)) then
 some (((t1.1.1.1, t1.1.1.2.1, (x0.2.2.2.2.2.2.1, t1.1.1.2.2.1.2), t1.1.1.2.2.2), 0, ()), ())
 else
 some (((t1.1.1.1, t1.1.1.2.1, t1.1.1.2.2.1, ((Wr .i64 ((Wr .i64 (4 * x0.2.2.2.2.2.2.1)) + (Int.tmod t1.1.1.2.2.2.1.1 4))), t1.1.1.2.2.2.1.2), t1.1.1.2.2.2.2), 0, ()), ())
 else
 bif (decide (x0.1 = 6)) then
 bif (decide (t1.1.1.1 = 6)) then
 bif (!(decide ((Int.tmod t1.1.1.2.2.2.1.1 4) = 1))) then
 bif (!(decide ((Int.tmod t1.1.1.2.2.2.1.1 4) = 2))) then
 some ((t1.1.1, 0, ()), ())
 else
 bC t1
 else
 bC t1
 else
 bif (!(decide (t1.1.1.2.2.1.2.1 = 1))) then
 bif (!(decide (t1.1.1.2.2.1.2.1 = 2))) then
 some ((t1.1.1, 0, ()), ())
 else
 bD t1
 else
 bD t1
 else
 some ((t1.1.1, 0, ()), ())
def fM (k : Nat) (x0 : aV) (x1 : aj) : Option ((aj × (Int × Unit)) × Unit) :=
 (iP k x1).bind fun t1 =>
 bif (decide (x0.1 = 1)) then
 (iQ x1).bind fun t2 =>
 (fk k x0 t2.1.1).bind fun t3 =>
 bif t3.1.1 then
 some ((oK, 2, ()), ())
 else
 some ((t1.1.1, 0, ()), ())
 else
 bif (decide (x0.1 = 2)) then
 bif (decide (x0.1 = 2)) then
 bA k x0 t1
 else
 bE x0 t1
 else
 bif (decide (x0.1 = 3)) then
 bA k x0 t1
 else
 bE x0 t1
def RY (k : Nat) (rec : (Unit × (aj × (aj × ((List Int) × ((List aV) × (Int × (Int × Unit))))))) → Option ((Unit × (aj × ((List Int) × (Int × Unit)))) ⊕ (Unit × (aj × (aj × ((List Int) × Unit)))))) (v : (Unit × (aj × (aj × ((List Int) × ((List aV) × (Int × (Int × Unit)))))))) : Option ((Unit × (aj × ((List Int) × (Int × Unit)))) ⊕ (Unit × (aj × (aj × ((List Int) × Unit))))) :=
 bif (decide (v.2.2.2.2.2.2.1 < v.2.2.2.2.2.1)) then
 bif ((decide (0 ≤ v.2.2.2.2.2.2.1)) && (decide (v.2.2.2.2.2.2.1 < (List.length v.2.2.2.2.1 : Int)))) then
 bif (decide ((Int.toNat v.2.2.2.2.2.2.1) < (List.length v.2.2.2.2.1))) then
 bif (decide ((List.getD v.2.2.2.2.1 (Int.toNat v.2.2.2.2.2.2.1) vJ).1 = 7)) then
 bif ((decide (0 ≤ (Wr .i64 ((List.getD v.2.2.2.2.1 (Int.toNat v.2.2.2.2.2.2.1) vJ).2.2.2.2.2.2.1 - 1)))) && (decide ((Wr .i64 ((List.getD v.2.2.2.2.1 (Int.toNat v.2.2.2.2.2.2.1) vJ).2.2.2.2.2.2.1 - 1)) < (List.length v.2.2.2.1 : Int)))) then
 bif (decide ((Int.toNat (Wr .i64 ((List.getD v.2.2.2.2.1 (Int.toNat v.2.2.2.2.2.2.1) vJ).2.2.2.2.2.2.1 - 1))) < (List.length v.2.2.2.1))) then
 (Se k v.2.2.1).bind fun t6 =>
 bif ((decide (0 ≤ (Wr .i64 ((List.getD v.2.2.2.2.1 (Int.toNat v.2.2.2.2.2.2.1) vJ).2.2.2.2.2.2.1 - 1)))) && (decide ((Wr .i64 ((List.getD v.2.2.2.2.1 (Int.toNat v.2.2.2.2.2.2.1) vJ).2.2.2.2.2.2.1 - 1)) < (List.length v.2.2.2.1 : Int)))) then
 bif (decide ((Int.toNat (Wr .i64 ((List.getD v.2.2.2.2.1 (Int.toNat v.2.2.2.2.2.2.1) vJ).2.2.2.2.2.2.1 - 1))) < (List.length v.2.2.2.1))) then
 let y7 : (List Int) := (List.set v.2.2.2.1 (Int.toNat (Wr .i64 ((List.getD v.2.2.2.2.1 (Int.toNat v.2.2.2.2.2.2.1) vJ).2.2.2.2.2.2.1 - 1))) (Nv 1000000000000 (Wr .i64 ((List.getD v.2.2.2.1 (Int.toNat (Wr .i64 ((List.getD v.2.2.2.2.1 (Int.toNat v.2.2.2.2.2.2.1) vJ).2.2.2.2.2.2.1 - 1))) 0) + t6.1.1))))
 (fM k (List.getD v.2.2.2.2.1 (Int.toNat v.2.2.2.2.2.2.1) vJ) v.2.2.1).bind fun t8 =>
 bif (!(decide (t8.1.2.1 = 0))) then
 some (Sum.inl ((), oK, y7, t8.1.2))
 else
 rec ((), v.2.1, t8.1.1, y7, v.2.2.2.2.1, v.2.2.2.2.2.1, (Wr .i64 (v.2.2.2.2.2.2.1 + 1)), ())
 else none
 else none
 else none
 else none
 else
 (fM k (List.getD v.2.2.2.2.1 (Int.toNat v.2.2.2.2.2.2.1) vJ) v.2.2.1).bind fun t9 =>
 bif (!(decide (t9.1.2.1 = 0))) then
 some (Sum.inl ((), oK, v.2.2.2.1, t9.1.2))
 else
 rec ((), v.2.1, t9.1.1, v.2.2.2.1, v.2.2.2.2.1, v.2.2.2.2.2.1, (Wr .i64 (v.2.2.2.2.2.2.1 + 1)), ())
 else none
 else none
 else
 some (Sum.inr ((), v.2.1, v.2.2.1, v.2.2.2.1, ()))
def Sl (k : Nat) (x0 : (List aV)) (x1 : aj) (x2 : (List Int)) : Option ((aj × ((List Int) × (Int × Unit))) × Unit) :=
 (Sr k x0).bind fun t1 =>
 bif (!(!t1.1.1)) then
 (jN k x1).bind fun t2 =>
 bif (!(!t2.1.1)) then
 (Sk k x2).bind fun t3 =>
 bif (!t3.1.1) then
 some ((oK, ([] : List Int), 1, ()), ())
 else
 (iP k x1).bind fun t4 =>
 (So x2).bind fun t5 =>
 (iter (RY k) k ((), oK, t4.1.1, t5.1.1, x0, (List.length x0 : Int), 0, ())).bind fun o6 =>
 Sum.elim (fun a7 =>
 some (a7.2, ()))
 (fun b8 =>
 some ((b8.2.2.1, b8.2.2.2.1, 0, ()), ())) o6
 else
 some ((oK, ([] : List Int), 1, ()), ())
 else
 some ((oK, ([] : List Int), 1, ()), ())
def j8 (rec : (Unit × ((List Int) × ((List Int) × (Int × Unit)))) → Option ((Unit × (Bool × Unit)) ⊕ (Unit × Unit))) (v : (Unit × ((List Int) × ((List Int) × (Int × Unit))))) : Option ((Unit × (Bool × Unit)) ⊕ (Unit × Unit)) :=
 bif (decide (v.2.2.2.1 < (List.length v.2.1 : Int))) then
 bif ((decide (0 ≤ v.2.2.2.1)) && (decide (v.2.2.2.1 < (List.length v.2.1 : Int)))) then
 bif (decide ((Int.toNat v.2.2.2.1) < (List.length v.2.1))) then
 bif ((decide (0 ≤ v.2.2.2.1)) && (decide (v.2.2.2.1 < (List.length v.2.2.1 : Int)))) then
 bif (decide ((Int.toNat v.2.2.2.1) < (List.length v.2.2.1))) then
 bif (!(decide ((List.getD v.2.1 (Int.toNat v.2.2.2.1) 0) = (List.getD v.2.2.1 (Int.toNat v.2.2.2.1) 0)))) then
 some (Sum.inl ((), false, ()))
 else
 rec ((), v.2.1, v.2.2.1, (Wr .i64 (v.2.2.2.1 + 1)), ())
 else none
 else none
 else none
 else none
 else
 some (Sum.inr ((), ()))
def dS (k : Nat) (x0 : (List Int)) (x1 : (List Int)) : Option ((Bool × Unit) × Unit) :=
 bif (!(decide ((List.length x0 : Int) = (List.length x1 : Int)))) then
 some ((false, ()), ())
 else
 (iter (j8) k ((), x0, x1, 0, ())).bind fun o1 =>
 Sum.elim (fun a2 =>
 some (a2.2, ()))
 (fun b3 =>
 some ((true, ()), ())) o1
def kA (k : Nat) (x0 : bH) (x1 : bH) : Option ((Bool × Unit) × Unit) :=
 bif (!(decide (x0.1 = x1.1))) then
 some ((false, ()), ())
 else
 bif (!(decide (x0.2.1 = x1.2.1))) then
 some ((false, ()), ())
 else
 bif (!(decide (x0.2.2.1 = x1.2.2.1))) then
 some ((false, ()), ())
 else
 bif (!(decide (x0.2.2.2.1 = x1.2.2.2.1))) then
 some ((false, ()), ())
 else
 (dS k x0.2.2.2.2.1 x1.2.2.2.2.1).bind fun t1 =>
 bif (!t1.1.1) then
 some ((false, ()), ())
 else
 some ((true, ()), ())
def gY (x0 : ar) (x1 : ar) : Option ((Bool × Unit) × Unit) :=
 bif (!(decide (x0.1 = x1.1))) then
 some ((false, ()), ())
 else
 bif (!(decide (x0.2.1 = x1.2.1))) then
 some ((false, ()), ())
 else
 bif (!(decide (x0.2.2.1 = x1.2.2.1))) then
 some ((false, ()), ())
 else
 bif (!(decide (x0.2.2.2.1 = x1.2.2.2.1))) then
 some ((false, ()), ())
 else
 bif (!(decide (x0.2.2.2.2.1 = x1.2.2.2.2.1))) then
 some ((false, ()), ())
 else
 some ((true, ()), ())
def lg (k : Nat) (x0 : aR) (x1 : aR) : Option ((Bool × Unit) × Unit) :=
 bif (!(decide (x0.1 = x1.1))) then
 some ((false, ()), ())
 else
 bif (!(decide (x0.2.1 = x1.2.1))) then
 some ((false, ()), ())
 else
 bif (!(decide (x0.2.2.1 = x1.2.2.1))) then
 some ((false, ()), ())
 else
 bif (!(decide (x0.2.2.2.1 = x1.2.2.2.1))) then
 some ((false, ()), ())
 else
 bif (!(decide (x0.2.2.2.2.1 = x1.2.2.2.2.1))) then
 some ((false, ()), ())
 else
 bif (!(decide (x0.2.2.2.2.2.1 = x1.2.2.2.2.2.1))) then
 some ((false, ()), ())
 else
 bif (!(decide (x0.2.2.2.2.2.2.1 = x1.2.2.2.2.2.2.1))) then
 some ((false, ()), ())
 else
 (gY x0.2.2.2.2.2.2.2.1 x1.2.2.2.2.2.2.2.1).bind fun t1 =>
 bif (!t1.1.1) then
 some ((false, ()), ())
 else
 (gY x0.2.2.2.2.2.2.2.2.1 x1.2.2.2.2.2.2.2.2.1).bind fun t2 =>
 bif (!t2.1.1) then
 some ((false, ()), ())
 else
 (dS k x0.2.2.2.2.2.2.2.2.2.1 x1.2.2.2.2.2.2.2.2.2.1).bind fun t3 =>
 bif (!t3.1.1) then
 some ((false, ()), ())
 else
 (dS k x0.2.2.2.2.2.2.2.2.2.2.1 x1.2.2.2.2.2.2.2.2.2.2.1).bind fun t4 =>
 bif (!t4.1.1) then
 some ((false, ()), ())
 else
 some ((true, ()), ())
def kM (k : Nat) (x0 : aB) (x1 : aB) : Option ((Bool × Unit) × Unit) :=
 bif (!(decide (x0.1 = x1.1))) then
 some ((false, ()), ())
 else
 (dS k x0.2.1 x1.2.1).bind fun t1 =>
 bif (!t1.1.1) then
 some ((false, ()), ())
 else
 some ((true, ()), ())
def kN (k : Nat) (rec : (Unit × ((List aB) × ((List aB) × (Int × Unit)))) → Option ((Unit × (Bool × Unit)) ⊕ (Unit × Unit))) (v : (Unit × ((List aB) × ((List aB) × (Int × Unit))))) : Option ((Unit × (Bool × Unit)) ⊕ (Unit × Unit)) :=
 bif (decide (v.2.2.2.1 < (List.length v.2.1 : Int))) then
 bif ((decide (0 ≤ v.2.2.2.1)) && (decide (v.2.2.2.1 < (List.length v.2.1 : Int)))) then
 bif (decide ((Int.toNat v.2.2.2.1) < (List.length v.2.1))) then
 bif ((decide (0 ≤ v.2.2.2.1)) && (decide (v.2.2.2.1 < (List.length v.2.2.1 : Int)))) then
 bif (decide ((Int.toNat v.2.2.2.1) < (List.length v.2.2.1))) then
 (kM k (List.getD v.2.1 (Int.toNat v.2.2.2.1) cF) (List.getD v.2.2.1 (Int.toNat v.2.2.2.1) cF)).bind fun t1 =>
 bif (!t1.1.1) then
 some (Sum.inl ((), false, ()))
 else
 rec ((), v.2.1, v.2.2.1, (Wr .i64 (v.2.2.2.1 + 1)), ())
 else none
 else none
 else none
 else none
 else
 some (Sum.inr ((), ()))
def mW (k : Nat) (x0 : (List aB)) (x1 : (List aB)) : Option ((Bool × Unit) × Unit) :=
 bif (!(decide ((List.length x0 : Int) = (List.length x1 : Int)))) then
 some ((false, ()), ())
 else
 (iter (kN k) k ((), x0, x1, 0, ())).bind fun o1 =>
 Sum.elim (fun a2 =>
 some (a2.2, ()))
 (fun b3 =>
 some ((true, ()), ())) o1
def md (k : Nat) (x0 : bc) (x1 : bc) : Option ((Bool × Unit) × Unit) :=
 bif (!(decide (x0.1 = x1.1))) then
 some ((false, ()), ())
 else
 bif (!(decide (x0.2.1 = x1.2.1))) then
 some ((false, ()), ())
 else
 bif (!(decide (x0.2.2.1 = x1.2.2.1))) then
 some ((false, ()), ())
 else
 bif (!(decide (x0.2.2.2.1 = x1.2.2.2.1))) then
 some ((false, ()), ())
 else
 (gY x0.2.2.2.2.1 x1.2.2.2.2.1).bind fun t1 =>
 bif (!t1.1.1) then
 some ((false, ()), ())
 else
 (gY x0.2.2.2.2.2.1 x1.2.2.2.2.2.1).bind fun t2 =>
 bif (!t2.1.1) then
 some ((false, ()), ())
 else
 (mW k x0.2.2.2.2.2.2.1 x1.2.2.2.2.2.2.1).bind fun t3 =>
 bif (!t3.1.1) then
 some ((false, ()), ())
 else
 (dS k x0.2.2.2.2.2.2.2.1 x1.2.2.2.2.2.2.2.1).bind fun t4 =>
 bif (!t4.1.1) then
 some ((false, ()), ())
 else
 some ((true, ()), ())
def kB (k : Nat) (x0 : aF) (x1 : aF) : Option ((Bool × Unit) × Unit) :=
 bif (!(decide (x0.1 = x1.1))) then
 some ((false, ()), ())
 else
 bif (!(decide (x0.2.1 = x1.2.1))) then
 some ((false, ()), ())
 else
 bif (!(decide (x0.2.2.1 = x1.2.2.1))) then
 some ((false, ()), ())
 else
 bif (!(decide (x0.2.2.2.1 = x1.2.2.2.1))) then
 some ((false, ()), ())
 else
 bif (!(decide (x0.2.2.2.2.1 = x1.2.2.2.2.1))) then
 some ((false, ()), ())
 else
 bif (!(decide (x0.2.2.2.2.2.1 = x1.2.2.2.2.2.1))) then
 some ((false, ()), ())
 else
 bif (!(decide (x0.2.2.2.2.2.2.1 = x1.2.2.2.2.2.2.1))) then
 some ((false, ()), ())
 else
 bif (!(decide (x0.2.2.2.2.2.2.2.1 = x1.2.2.2.2.2.2.2.1))) then
 some ((false, ()), ())
 else
 bif (!(decide (x0.2.2.2.2.2.2.2.2.1 = x1.2.2.2.2.2.2.2.2.1))) then
 some ((false, ()), ())
 else
 bif (!(decide (x0.2.2.2.2.2.2.2.2.2.1 = x1.2.2.2.2.2.2.2.2.2.1))) then
 some ((false, ()), ())
 else
 bif (!(decide (x0.2.2.2.2.2.2.2.2.2.2.1 = x1.2.2.2.2.2.2.2.2.2.2.1))) then
 some ((false, ()), ())
 else
 bif (!(x0.2.2.2.2.2.2.2.2.2.2.2.1 == x1.2.2.2.2.2.2.2.2.2.2.2.1)) then
 some ((false, ()), ())
 else
 (dS k x0.2.2.2.2.2.2.2.2.2.2.2.2.1 x1.2.2.2.2.2.2.2.2.2.2.2.2.1).bind fun t1 =>
 bif (!t1.1.1) then
 some ((false, ()), ())
 else
 (dS k x0.2.2.2.2.2.2.2.2.2.2.2.2.2.1 x1.2.2.2.2.2.2.2.2.2.2.2.2.2.1).bind fun t2 =>
 bif (!t2.1.1) then
 some ((false, ()), ())
 else
 some ((true, ()), ())
def fN (k : Nat) (x0 : aj) (x1 : aj) : Option ((Bool × Unit) × Unit) :=
 bif (!(decide (x0.1 = x1.1))) then
 some ((false, ()), ())
 else
 (kA k x0.2.1 x1.2.1).bind fun t1 =>
 bif (!t1.1.1) then
 some ((false, ()), ())
 else
 (lg k x0.2.2.1 x1.2.2.1).bind fun t2 =>
 bif (!t2.1.1) then
 some ((false, ()), ())
 else
 (md k x0.2.2.2.1 x1.2.2.2.1).bind fun t3 =>
 bif (!t3.1.1) then
 some ((false, ()), ())
 else
 (kB k x0.2.2.2.2.1 x1.2.2.2.2.1).bind fun t4 =>
 bif (!t4.1.1) then
 some ((false, ()), ())
 else
 (dS k x0.2.2.2.2.2.1 x1.2.2.2.2.2.1).bind fun t5 =>
 bif (!t5.1.1) then
 some ((false, ()), ())
 else
 some ((true, ()), ())
def Sv (rec : (Unit × ((List Int) × ((List Int) × (Int × Unit)))) → Option ((Unit × (Bool × Unit)) ⊕ (Unit × Unit))) (v : (Unit × ((List Int) × ((List Int) × (Int × Unit))))) : Option ((Unit × (Bool × Unit)) ⊕ (Unit × Unit)) :=
 bif (decide (v.2.2.2.1 < (List.length v.2.1 : Int))) then
 bif ((decide (0 ≤ v.2.2.2.1)) && (decide (v.2.2.2.1 < (List.length v.2.1 : Int)))) then
 bif (decide ((Int.toNat v.2.2.2.1) < (List.length v.2.1))) then
 bif ((decide (0 ≤ v.2.2.2.1)) && (decide (v.2.2.2.1 < (List.length v.2.2.1 : Int)))) then
 bif (decide ((Int.toNat v.2.2.2.1) < (List.length v.2.2.1))) then
 bif (!(decide ((List.getD v.2.1 (Int.toNat v.2.2.2.1) 0) = (List.getD v.2.2.1 (Int.toNat v.2.2.2.1) 0)))) then
 some (Sum.inl ((), false, ()))
 else
 rec ((), v.2.1, v.2.2.1, (Wr .i64 (v.2.2.2.1 + 1)), ())
 else none
 else none
 else none
 else none
 else
 some (Sum.inr ((), ()))
def Sg (k : Nat) (x0 : (List Int)) (x1 : (List Int)) : Option ((Bool × Unit) × Unit) :=
 bif (!(decide ((List.length x0 : Int) = (List.length x1 : Int)))) then
 some ((false, ()), ())
 else
 (iter (Sv) k ((), x0, x1, 0, ())).bind fun o1 =>
 Sum.elim (fun a2 =>
 some (a2.2, ()))
 (fun b3 =>
 some ((true, ()), ())) o1
def R9 (x0 : bx) (x1 : bx) : Option ((Bool × Unit) × Unit) :=
 (gY x0.1 x1.1).bind fun t1 =>
 bif (!t1.1.1) then
 some ((false, ()), ())
 else
 bif (!(decide (x0.2.1 = x1.2.1))) then
 some ((false, ()), ())
 else
 some ((true, ()), ())
def Sa (x0 : aV) (x1 : aV) : Option ((Bool × Unit) × Unit) :=
 bif (!(decide (x0.1 = x1.1))) then
 some ((false, ()), ())
 else
 (R9 x0.2.1 x1.2.1).bind fun t1 =>
 bif (!t1.1.1) then
 some ((false, ()), ())
 else
 (R9 x0.2.2.1 x1.2.2.1).bind fun t2 =>
 bif (!t2.1.1) then
 some ((false, ()), ())
 else
 bif (!(decide (x0.2.2.2.1 = x1.2.2.2.1))) then
 some ((false, ()), ())
 else
 bif (!(decide (x0.2.2.2.2.1 = x1.2.2.2.2.1))) then
 some ((false, ()), ())
 else
 bif (!(decide (x0.2.2.2.2.2.1 = x1.2.2.2.2.2.1))) then
 some ((false, ()), ())
 else
 bif (!(decide (x0.2.2.2.2.2.2.1 = x1.2.2.2.2.2.2.1))) then
 some ((false, ()), ())
 else
 some ((true, ()), ())
def Sm (rec : (Unit × ((List aV) × ((List aV) × (Int × Unit)))) → Option ((Unit × (Bool × Unit)) ⊕ (Unit × Unit))) (v : (Unit × ((List aV) × ((List aV) × (Int × Unit))))) : Option ((Unit × (Bool × Unit)) ⊕ (Unit × Unit)) :=
 bif (decide (v.2.2.2.1 < (List.length v.2.1 : Int))) then
 bif ((decide (0 ≤ v.2.2.2.1)) && (decide (v.2.2.2.1 < (List.length v.2.1 : Int)))) then
 bif (decide ((Int.toNat v.2.2.2.1) < (List.length v.2.1))) then
 bif ((decide (0 ≤ v.2.2.2.1)) && (decide (v.2.2.2.1 < (List.length v.2.2.1 : Int)))) then
 bif (decide ((Int.toNat v.2.2.2.1) < (List.length v.2.2.1))) then
 (Sa (List.getD v.2.1 (Int.toNat v.2.2.2.1) vJ) (List.getD v.2.2.1 (Int.toNat v.2.2.2.1) vJ)).bind fun t1 =>
 bif (!t1.1.1) then
 some (Sum.inl ((), false, ()))
 else
 rec ((), v.2.1, v.2.2.1, (Wr .i64 (v.2.2.2.1 + 1)), ())
 else none
 else none
 else none
 else none
 else
 some (Sum.inr ((), ()))
def Sw (k : Nat) (x0 : (List aV)) (x1 : (List aV)) : Option ((Bool × Unit) × Unit) :=
 bif (!(decide ((List.length x0 : Int) = (List.length x1 : Int)))) then
 some ((false, ()), ())
 else
 (iter (Sm) k ((), x0, x1, 0, ())).bind fun o1 =>
 Sum.elim (fun a2 =>
 some (a2.2, ()))
 (fun b3 =>
 some ((true, ()), ())) o1
def RW (rec : (((List aV) × Unit) × (Unit × (Int × (Int × Unit)))) → Option ((((List aV) × Unit) × (Int × Unit)))) (v : (((List aV) × Unit) × (Unit × (Int × (Int × Unit))))) : Option ((((List aV) × Unit) × (Int × Unit))) :=
 bif (decide (v.2.2.2.1 < (List.length v.1.1 : Int))) then
 bif ((decide (0 ≤ v.2.2.2.1)) && (decide (v.2.2.2.1 < (List.length v.1.1 : Int)))) then
 bif (decide ((Int.toNat v.2.2.2.1) < (List.length v.1.1))) then
 let y1 : (List aV) := (List.set v.1.1 (Int.toNat v.2.2.2.1) (v.2.2.1, (List.getD v.1.1 (Int.toNat v.2.2.2.1) vJ).2))
 bif ((decide (0 ≤ v.2.2.2.1)) && (decide (v.2.2.2.1 < (List.length y1 : Int)))) then
 bif (decide ((Int.toNat v.2.2.2.1) < (List.length y1))) then
 let y2 : (List aV) := (List.set y1 (Int.toNat v.2.2.2.1) ((List.getD y1 (Int.toNat v.2.2.2.1) vJ).1, (((Wr .i64 (v.2.2.1 + 1)), (List.getD y1 (Int.toNat v.2.2.2.1) vJ).2.1.1.2), (List.getD y1 (Int.toNat v.2.2.2.1) vJ).2.1.2), (List.getD y1 (Int.toNat v.2.2.2.1) vJ).2.2))
 bif ((decide (0 ≤ v.2.2.2.1)) && (decide (v.2.2.2.1 < (List.length y2 : Int)))) then
 bif (decide ((Int.toNat v.2.2.2.1) < (List.length y2))) then
 let y3 : (List aV) := (List.set y2 (Int.toNat v.2.2.2.1) ((List.getD y2 (Int.toNat v.2.2.2.1) vJ).1, (((List.getD y2 (Int.toNat v.2.2.2.1) vJ).2.1.1.1, (Wr .i64 ((Wr .i64 (v.2.2.1 + 1)) + 1)), (List.getD y2 (Int.toNat v.2.2.2.1) vJ).2.1.1.2.2), (List.getD y2 (Int.toNat v.2.2.2.1) vJ).2.1.2), (List.getD y2 (Int.toNat v.2.2.2.1) vJ).2.2))
 bif ((decide (0 ≤ v.2.2.2.1)) && (decide (v.2.2.2.1 < (List.length y3 : Int)))) then
 bif (decide ((Int.toNat v.2.2.2.1) < (List.length y3))) then
 let y4 : (List aV) := (List.set y3 (Int.toNat v.2.2.2.1) ((List.getD y3 (Int.toNat v.2.2.2.1) vJ).1, (((List.getD y3 (Int.toNat v.2.2.2.1) vJ).2.1.1.1, (List.getD y3 (Int.toNat v.2.2.2.1) vJ).2.1.1.2.1, (Wr .i64 ((Wr .i64 ((Wr .i64 (v.2.2.1 + 1)) + 1)) + 1)), (List.getD y3 (Int.toNat v.2.2.2.1) vJ).2.1.1.2.2.2), (List.getD y3 (Int.toNat v.2.2.2.1) vJ).2.1.2), (List.getD y3 (Int.toNat v.2.2.2.1) vJ).2.2))
 bif ((decide (0 ≤ v.2.2.2.1)) && (decide (v.2.2.2.1 < (List.length y4 : Int)))) then
 bif (decide ((Int.toNat v.2.2.2.1) < (List.length y4))) then
 let y5 : (List aV) := (List.set y4 (Int.toNat v.2.2.2.1) ((List.getD y4 (Int.toNat v.2.2.2.1) vJ).1, (((List.getD y4 (Int.toNat v.2.2.2.1) vJ).2.1.1.1, (List.getD y4 (Int.toNat v.2.2.2.1) vJ).2.1.1.2.1, (List.getD y4 (Int.toNat v.2.2.2.1) vJ).2.1.1.2.2.1, (Wr .i64 ((Wr .i64 ((Wr .i64 ((Wr .i64 (v.2.2.1 + 1)) + 1)) + 1)) + 1)), (List.getD y4 (Int.toNat v.2.2.2.1) vJ).2.1.1.2.2.2.2), (List.getD y4 (Int.toNat v.2.2.2.1) vJ).2.1.2), (List.getD y4 (Int.toNat v.2.2.2.1) vJ).2.2))
 bif ((decide (0 ≤ v.2.2.2.1)) && (decide (v.2.2.2.1 < (List.length y5 : Int)))) then
 bif (decide ((Int.toNat v.2.2.2.1) < (List.length y5))) then
 let y6 : (List aV) := (List.set y5 (Int.toNat v.2.2.2.1) ((List.getD y5 (Int.toNat v.2.2.2.1) vJ).1, (((List.getD y5 (Int.toNat v.2.2.2.1) vJ).2.1.1.1, (List.getD y5 (Int.toNat v.2.2.2.1) vJ).2.1.1.2.1, (List.getD y5 (Int.toNat v.2.2.2.1) vJ).2.1.1.2.2.1, (List.getD y5 (Int.toNat v.2.2.2.1) vJ).2.1.1.2.2.2.1, (Wr .i64 ((Wr .i64 ((Wr .i64 ((Wr .i64 ((Wr .i64 (v.2.2.1 + 1)) + 1)) + 1)) + 1)) + 1)), ()), (List.getD y5 (Int.toNat v.2.2.2.1) vJ).2.1.2), (List.getD y5 (Int.toNat v.2.2.2.1) vJ).2.2))
 bif ((decide (0 ≤ v.2.2.2.1)) && (decide (v.2.2.2.1 < (List.length y6 : Int)))) then
 bif (decide ((Int.toNat v.2.2.2.1) < (List.length y6))) then
 let y7 : (List aV) := (List.set y6 (Int.toNat v.2.2.2.1) ((List.getD y6 (Int.toNat v.2.2.2.1) vJ).1, ((List.getD y6 (Int.toNat v.2.2.2.1) vJ).2.1.1, (Wr .i64 ((Wr .i64 ((Wr .i64 ((Wr .i64 ((Wr .i64 ((Wr .i64 (v.2.2.1 + 1)) + 1)) + 1)) + 1)) + 1)) + 1)), ()), (List.getD y6 (Int.toNat v.2.2.2.1) vJ).2.2))
 bif ((decide (0 ≤ v.2.2.2.1)) && (decide (v.2.2.2.1 < (List.length y7 : Int)))) then
 bif (decide ((Int.toNat v.2.2.2.1) < (List.length y7))) then
 let y8 : (List aV) := (List.set y7 (Int.toNat v.2.2.2.1) ((List.getD y7 (Int.toNat v.2.2.2.1) vJ).1, (List.getD y7 (Int.toNat v.2.2.2.1) vJ).2.1, (((Wr .i64 ((Wr .i64 ((Wr .i64 ((Wr .i64 ((Wr .i64 ((Wr .i64 ((Wr .i64 (v.2.2.1 + 1)) + 1)) + 1)) + 1)) + 1)) + 1)) + 1)), (List.getD y7 (Int.toNat v.2.2.2.1) vJ).2.2.1.1.2), (List.getD y7 (Int.toNat v.2.2.2.1) vJ).2.2.1.2), (List.getD y7 (Int.toNat v.2.2.2.1) vJ).2.2.2))
 bif ((decide (0 ≤ v.2.2.2.1)) && (decide (v.2.2.2.1 < (List.length y8 : Int)))) then
 bif (decide ((Int.toNat v.2.2.2.1) < (List.length y8))) then
 let y9 : (List aV) := (List.set y8 (Int.toNat v.2.2.2.1) ((List.getD y8 (Int.toNat v.2.2.2.1) vJ).1, (List.getD y8 (Int.toNat v.2.2.2.1) vJ).2.1, (((List.getD y8 (Int.toNat v.2.2.2.1) vJ).2.2.1.1.1, (Wr .i64 ((Wr .i64 ((Wr .i64 ((Wr .i64 ((Wr .i64 ((Wr .i64 ((Wr .i64 ((Wr .i64 (v.2.2.1 + 1)) + 1)) + 1)) + 1)) + 1)) + 1)) + 1)) + 1)), (List.getD y8 (Int.toNat v.2.2.2.1) vJ).2.2.1.1.2.2), (List.getD y8 (Int.toNat v.2.2.2.1) vJ).2.2.1.2), (List.getD y8 (Int.toNat v.2.2.2.1) vJ).2.2.2))
 bif ((decide (0 ≤ v.2.2.2.1)) && (decide (v.2.2.2.1 < (List.length y9 : Int)))) then
 bif (decide ((Int.toNat v.2.2.2.1) < (List.length y9))) then
 let y10 : (List aV) := (List.set y9 (Int.toNat v.2.2.2.1) ((List.getD y9 (Int.toNat v.2.2.2.1) vJ).1, (List.getD y9 (Int.toNat v.2.2.2.1) vJ).2.1, (((List.getD y9 (Int.toNat v.2.2.2.1) vJ).2.2.1.1.1, (List.getD y9 (Int.toNat v.2.2.2.1) vJ).2.2.1.1.2.1, (Wr .i64 ((Wr .i64 ((Wr .i64 ((Wr .i64 ((Wr .i64 ((Wr .i64 ((Wr .i64 ((Wr .i64 ((Wr .i64 (v.2.2.1 + 1)) + 1)) + 1)) + 1)) + 1)) + 1)) + 1)) + 1)) + 1)), (List.getD y9 (Int.toNat v.2.2.2.1) vJ).2.2.1.1.2.2.2), (List.getD y9 (Int.toNat v.2.2.2.1) vJ).2.2.1.2), (List.getD y9 (Int.toNat v.2.2.2.1) vJ).2.2.2))
 bif ((decide (0 ≤ v.2.2.2.1)) && (decide (v.2.2.2.1 < (List.length y10 : Int)))) then
 bif (decide ((Int.toNat v.2.2.2.1) < (List.length y10))) then
 let y11 : (List aV) := (List.set y10 (Int.toNat v.2.2.2.1) ((List.getD y10 (Int.toNat v.2.2.2.1) vJ).1, (List.getD y10 (Int.toNat v.2.2.2.1) vJ).2.1, (((List.getD y10 (Int.toNat v.2.2.2.1) vJ).2.2.1.1.1, (List.getD y10 (Int.toNat v.2.2.2.1) vJ).2.2.1.1.2.1, (List.getD y10 (Int.toNat v.2.2.2.1) vJ).2.2.1.1.2.2.1, (Wr .i64 ((Wr .i64 ((Wr .i64 ((Wr .i64 ((Wr .i64 ((Wr .i64 ((Wr .i64 ((Wr .i64 ((Wr .i64 ((Wr .i64 (v.2.2.1 + 1)) + 1)) + 1)) + 1)) + 1)) + 1)) + 1)) + 1)) + 1)) + 1)), (List.getD y10 (Int.toNat v.2.2.2.1) vJ).2.2.1.1.2.2.2.2), (List.getD y10 (Int.toNat v.2.2.2.1) vJ).2.2.1.2), (List.getD y10 (Int.toNat v.2.2.2.1) vJ).2.2.2))
 bif ((decide (0 ≤ v.2.2.2.1)) && (decide (v.2.2.2.1 < (List.length y11 : Int)))) then
 bif (decide ((Int.toNat v.2.2.2.1) < (List.length y11))) then
 let y12 : (List aV) := (List.set y11 (Int.toNat v.2.2.2.1) ((List.getD y11 (Int.toNat v.2.2.2.1) vJ).1, (List.getD y11 (Int.toNat v.2.2.2.1) vJ).2.1, (((List.getD y11 (Int.toNat v.2.2.2.1) vJ).2.2.1.1.1, (List.getD y11 (Int.toNat v.2.2.2.1) vJ).2.2.1.1.2.1, (List.getD y11 (Int.toNat v.2.2.2.1) vJ).2.2.1.1.2.2.1, (List.getD y11 (Int.toNat v.2.2.2.1) vJ).2.2.1.1.2.2.2.1, (Wr .i64 ((Wr .i64 ((Wr .i64 ((Wr .i64 ((Wr .i64 ((Wr .i64 ((Wr .i64 ((Wr .i64 ((Wr .i64 ((Wr .i64 ((Wr .i64 (v.2.2.1 + 1)) + 1)) + 1)) + 1)) + 1)) + 1)) + 1)) + 1)) + 1)) + 1)) + 1)), ()), (List.getD y11 (Int.toNat v.2.2.2.1) vJ).2.2.1.2), (List.getD y11 (Int.toNat v.2.2.2.1) vJ).2.2.2))
 bif ((decide (0 ≤ v.2.2.2.1)) && (decide (v.2.2.2.1 < (List.length y12 : Int)))) then
 bif (decide ((Int.toNat v.2.2.2.1) < (List.length y12))) then
 let y13 : (List aV) := (List.set y12 (Int.toNat v.2.2.2.1) ((List.getD y12 (Int.toNat v.2.2.2.1) vJ).1, (List.getD y12 (Int.toNat v.2.2.2.1) vJ).2.1, ((List.getD y12 (Int.toNat v.2.2.2.1) vJ).2.2.1.1, (Wr .i64 ((Wr .i64 ((Wr .i64 ((Wr .i64 ((Wr .i64 ((Wr .i64 ((Wr .i64 ((Wr .i64 ((Wr .i64 ((Wr .i64 ((Wr .i64 ((Wr .i64 (v.2.2.1 + 1)) + 1)) + 1)) + 1)) + 1)) + 1)) + 1)) + 1)) + 1)) + 1)) + 1)) + 1)), ()), (List.getD y12 (Int.toNat v.2.2.2.1) vJ).2.2.2))
 bif ((decide (0 ≤ v.2.2.2.1)) && (decide (v.2.2.2.1 < (List.length y13 : Int)))) then
 bif (decide ((Int.toNat v.2.2.2.1) < (List.length y13))) then
 let y14 : (List aV) := (List.set y13 (Int.toNat v.2.2.2.1) ((List.getD y13 (Int.toNat v.2.2.2.1) vJ).1, (List.getD y13 (Int.toNat v.2.2.2.1) vJ).2.1, (List.getD y13 (Int.toNat v.2.2.2.1) vJ).2.2.1, (Wr .i64 ((Wr .i64 ((Wr .i64 ((Wr .i64 ((Wr .i64 ((Wr .i64 ((Wr .i64 ((Wr .i64 ((Wr .i64 ((Wr .i64 ((Wr .i64 ((Wr .i64 ((Wr .i64 (v.2.2.1 + 1)) + 1)) + 1)) + 1)) + 1)) + 1)) + 1)) + 1)) + 1)) + 1)) + 1)) + 1)) + 1)), (List.getD y13 (Int.toNat v.2.2.2.1) vJ).2.2.2.2))
 bif ((decide (0 ≤ v.2.2.2.1)) && (decide (v.2.2.2.1 < (List.length y14 : Int)))) then
 bif (decide ((Int.toNat v.2.2.2.1) < (List.length y14))) then
 let y15 : (List aV) := (List.set y14 (Int.toNat v.2.2.2.1) ((List.getD y14 (Int.toNat v.2.2.2.1) vJ).1, (List.getD y14 (Int.toNat v.2.2.2.1) vJ).2.1, (List.getD y14 (Int.toNat v.2.2.2.1) vJ).2.2.1, (List.getD y14 (Int.toNat v.2.2.2.1) vJ).2.2.2.1, (Wr .i64 ((Wr .i64 ((Wr .i64 ((Wr .i64 ((Wr .i64 ((Wr .i64 ((Wr .i64 ((Wr .i64 ((Wr .i64 ((Wr .i64 ((Wr .i64 ((Wr .i64 ((Wr .i64 ((Wr .i64 (v.2.2.1 + 1)) + 1)) + 1)) + 1)) + 1)) + 1)) + 1)) + 1)) + 1)) + 1)) + 1)) + 1)) + 1)) + 1)), (List.getD y14 (Int.toNat v.2.2.2.1) vJ).2.2.2.2.2))
 bif ((decide (0 ≤ v.2.2.2.1)) && (decide (v.2.2.2.1 < (List.length y15 : Int)))) then
 bif (decide ((Int.toNat v.2.2.2.1) < (List.length y15))) then
 let y16 : (List aV) := (List.set y15 (Int.toNat v.2.2.2.1) ((List.getD y15 (Int.toNat v.2.2.2.1) vJ).1, (List.getD y15 (Int.toNat v.2.2.2.1) vJ).2.1, (List.getD y15 (Int.toNat v.2.2.2.1) vJ).2.2.1, (List.getD y15 (Int.toNat v.2.2.2.1) vJ).2.2.2.1, (List.getD y15 (Int.toNat v.2.2.2.1) vJ).2.2.2.2.1, (Wr .i64 ((Wr .i64 ((Wr .i64 ((Wr .i64 ((Wr .i64 ((Wr .i64 ((Wr .i64 ((Wr .i64 ((Wr .i64 ((Wr .i64 ((Wr .i64 ((Wr .i64 ((Wr .i64 ((Wr .i64 ((Wr .i64 (v.2.2.1 + 1)) + 1)) + 1)) + 1)) + 1)) + 1)) + 1)) + 1)) + 1)) + 1)) + 1)) + 1)) + 1)) + 1)) + 1)), (List.getD y15 (Int.toNat v.2.2.2.1) vJ).2.2.2.2.2.2))
 bif ((decide (0 ≤ v.2.2.2.1)) && (decide (v.2.2.2.1 < (List.length y16 : Int)))) then
 bif (decide ((Int.toNat v.2.2.2.1) < (List.length y16))) then
 let y17 : (List aV) := (List.set y16 (Int.toNat v.2.2.2.1) ((List.getD y16 (Int.toNat v.2.2.2.1) vJ).1, (List.getD y16 (Int.toNat v.2.2.2.1) vJ).2.1, (List.getD y16 (Int.toNat v.2.2.2.1) vJ).2.2.1, (List.getD y16 (Int.toNat v.2.2.2.1) vJ).2.2.2.1, (List.getD y16 (Int.toNat v.2.2.2.1) vJ).2.2.2.2.1, (List.getD y16 (Int.toNat v.2.2.2.1) vJ).2.2.2.2.2.1, (Wr .i64 ((Wr .i64 ((Wr .i64 ((Wr .i64 ((Wr .i64 ((Wr .i64 ((Wr .i64 ((Wr .i64 ((Wr .i64 ((Wr .i64 ((Wr .i64 ((Wr .i64 ((Wr .i64 ((Wr .i64 ((Wr .i64 ((Wr .i64 (v.2.2.1 + 1)) + 1)) + 1)) + 1)) + 1)) + 1)) + 1)) + 1)) + 1)) + 1)) + 1)) + 1)) + 1)) + 1)) + 1)) + 1)), ()))
 rec ((y17, ()), (), (Wr .i64 ((Wr .i64 ((Wr .i64 ((Wr .i64 ((Wr .i64 ((Wr .i64 ((Wr .i64 ((Wr .i64 ((Wr .i64 ((Wr .i64 ((Wr .i64 ((Wr .i64 ((Wr .i64 ((Wr .i64 ((Wr .i64 ((Wr .i64 ((Wr .i64 (v.2.2.1 + 1)) + 1)) + 1)) + 1)) + 1)) + 1)) + 1)) + 1)) + 1)) + 1)) + 1)) + 1)) + 1)) + 1)) + 1)) + 1)) + 1)), (Wr .i64 (v.2.2.2.1 + 1)), ())
 else none
 else none
 else none
 else none
 else none
 else none
 else none
 else none
 else none
 else none
 else none
 else none
 else none
 else none
 else none
 else none
 else none
 else none
 else none
 else none
 else none
 else none
 else none
 else none
 else none
 else none
 else none
 else none
 else none
 else none
 else none
 else none
 else none
 else none
 else
 some (v.1, v.2.2.1, ())
def R8 (k : Nat) (x0 : (List aV)) (x1 : Int) : Option ((Int × Unit) × ((List aV) × Unit)) :=
 (iter (RW) k ((x0, ()), (), x1, 0, ())).bind fun o1 =>
 some (o1.2, o1.1)
def eg (rec : (((List Int) × Unit) × (Unit × (Int × (Int × Unit)))) → Option ((((List Int) × Unit) × (Int × Unit)))) (v : (((List Int) × Unit) × (Unit × (Int × (Int × Unit))))) : Option ((((List Int) × Unit) × (Int × Unit))) :=
 bif (decide (v.2.2.2.1 < (List.length v.1.1 : Int))) then
 bif ((decide (0 ≤ v.2.2.2.1)) && (decide (v.2.2.2.1 < (List.length v.1.1 : Int)))) then
 bif (decide ((Int.toNat v.2.2.2.1) < (List.length v.1.1))) then
 let y1 : (List Int) := (List.set v.1.1 (Int.toNat v.2.2.2.1) (Wr .u8 v.2.2.1))
 rec ((y1, ()), (), (Wr .i64 (v.2.2.1 + 1)), (Wr .i64 (v.2.2.2.1 + 1)), ())
 else none
 else none
 else
 some (v.1, v.2.2.1, ())
def aP (k : Nat) (x0 : (List Int)) (x1 : Int) : Option ((Int × Unit) × ((List Int) × Unit)) :=
 (iter (eg) k ((x0, ()), (), x1, 0, ())).bind fun o1 =>
 some (o1.2, o1.1)
def cV (k : Nat) (rec : (((List aB) × Unit) × (Unit × (Int × (Int × Unit)))) → Option ((((List aB) × Unit) × (Int × Unit)))) (v : (((List aB) × Unit) × (Unit × (Int × (Int × Unit))))) : Option ((((List aB) × Unit) × (Int × Unit))) :=
 bif (decide (v.2.2.2.1 < (List.length v.1.1 : Int))) then
 bif ((decide (0 ≤ v.2.2.2.1)) && (decide (v.2.2.2.1 < (List.length v.1.1 : Int)))) then
 bif (decide ((Int.toNat v.2.2.2.1) < (List.length v.1.1))) then
 let y1 : (List aB) := (List.set v.1.1 (Int.toNat v.2.2.2.1) (v.2.2.1, (List.getD v.1.1 (Int.toNat v.2.2.2.1) cF).2))
 bif ((decide (0 ≤ v.2.2.2.1)) && (decide (v.2.2.2.1 < (List.length y1 : Int)))) then
 bif (decide ((Int.toNat v.2.2.2.1) < (List.length y1))) then
 (aP k (List.getD y1 (Int.toNat v.2.2.2.1) cF).2.1 (Wr .i64 (v.2.2.1 + 1))).bind fun t2 =>
 let y3 : (List aB) := (List.set y1 (Int.toNat v.2.2.2.1) ((List.getD y1 (Int.toNat v.2.2.2.1) cF).1, t2.2))
 rec ((y3, ()), (), t2.1.1, (Wr .i64 (v.2.2.2.1 + 1)), ())
 else none
 else none
 else none
 else none
 else
 some (v.1, v.2.2.1, ())
def fP (k : Nat) (x0 : (List aB)) (x1 : Int) : Option ((Int × Unit) × ((List aB) × Unit)) :=
 (iter (cV k) k ((x0, ()), (), x1, 0, ())).bind fun o1 =>
 some (o1.2, o1.1)
def R0 (rec : (((List Int) × Unit) × (Unit × (Int × (Int × Unit)))) → Option ((((List Int) × Unit) × (Int × Unit)))) (v : (((List Int) × Unit) × (Unit × (Int × (Int × Unit))))) : Option ((((List Int) × Unit) × (Int × Unit))) :=
 bif (decide (v.2.2.2.1 < (List.length v.1.1 : Int))) then
 bif ((decide (0 ≤ v.2.2.2.1)) && (decide (v.2.2.2.1 < (List.length v.1.1 : Int)))) then
 bif (decide ((Int.toNat v.2.2.2.1) < (List.length v.1.1))) then
 let y1 : (List Int) := (List.set v.1.1 (Int.toNat v.2.2.2.1) v.2.2.1)
 rec ((y1, ()), (), (Wr .i64 (v.2.2.1 + 1)), (Wr .i64 (v.2.2.2.1 + 1)), ())
 else none
 else none
 else
 some (v.1, v.2.2.1, ())
def Sb (k : Nat) (x0 : (List Int)) (x1 : Int) : Option ((Int × Unit) × ((List Int) × Unit)) :=
 (iter (R0) k ((x0, ()), (), x1, 0, ())).bind fun o1 =>
 some (o1.2, o1.1)
def ej (rec : (Unit × ((List Int) × (Int × (Int × Unit)))) → Option ((Unit × (Int × Unit)) ⊕ (Unit × (Int × Unit)))) (v : (Unit × ((List Int) × (Int × (Int × Unit))))) : Option ((Unit × (Int × Unit)) ⊕ (Unit × (Int × Unit))) :=
 bif (decide (v.2.2.2.1 < (List.length v.2.1 : Int))) then
 bif ((decide (0 ≤ v.2.2.2.1)) && (decide (v.2.2.2.1 < (List.length v.2.1 : Int)))) then
 bif (decide ((Int.toNat v.2.2.2.1) < (List.length v.2.1))) then
 bif (!(decide ((List.getD v.2.1 (Int.toNat v.2.2.2.1) 0) = (Wr .u8 v.2.2.1)))) then
 some (Sum.inl ((), (-1), ()))
 else
 rec ((), v.2.1, (Wr .i64 (v.2.2.1 + 1)), (Wr .i64 (v.2.2.2.1 + 1)), ())
 else none
 else none
 else
 some (Sum.inr ((), v.2.2.1, ()))
def cM (k : Nat) (x0 : (List Int)) (x1 : Int) : Option ((Int × Unit) × Unit) :=
 (iter (ej) k ((), x0, x1, 0, ())).bind fun o1 =>
 Sum.elim (fun a2 =>
 some (a2.2, ()))
 (fun b3 =>
 some (b3.2, ())) o1
def kO (k : Nat) (x0 : bH) (x1 : Int) : Option ((Int × Unit) × Unit) :=
 (cM k x0.2.2.2.2.1 x1).bind fun t1 =>
 bif (decide (t1.1.1 < 0)) then
 some (((-1), ()), ())
 else
 some (t1.1, ())
def ly (k : Nat) (x0 : aR) (x1 : Int) : Option ((Int × Unit) × Unit) :=
 (cM k x0.2.2.2.2.2.2.2.2.2.1 x1).bind fun t1 =>
 bif (decide (t1.1.1 < 0)) then
 some (((-1), ()), ())
 else
 (cM k x0.2.2.2.2.2.2.2.2.2.2.1 t1.1.1).bind fun t2 =>
 bif (decide (t2.1.1 < 0)) then
 some (((-1), ()), ())
 else
 some (t2.1, ())
def cW (k : Nat) (rec : (Unit × ((List aB) × (Int × (Int × Unit)))) → Option ((Unit × (Int × Unit)) ⊕ (Unit × (Int × Unit)))) (v : (Unit × ((List aB) × (Int × (Int × Unit))))) : Option ((Unit × (Int × Unit)) ⊕ (Unit × (Int × Unit))) :=
 bif (decide (v.2.2.2.1 < (List.length v.2.1 : Int))) then
 bif ((decide (0 ≤ v.2.2.2.1)) && (decide (v.2.2.2.1 < (List.length v.2.1 : Int)))) then
 bif (decide ((Int.toNat v.2.2.2.1) < (List.length v.2.1))) then
 bif (!(decide ((List.getD v.2.1 (Int.toNat v.2.2.2.1) cF).1 = v.2.2.1))) then
 some (Sum.inl ((), (-1), ()))
 else
 bif ((decide (0 ≤ v.2.2.2.1)) && (decide (v.2.2.2.1 < (List.length v.2.1 : Int)))) then
 bif (decide ((Int.toNat v.2.2.2.1) < (List.length v.2.1))) then
 (cM k (List.getD v.2.1 (Int.toNat v.2.2.2.1) cF).2.1 (Wr .i64 (v.2.2.1 + 1))).bind fun t1 =>
 bif (decide (t1.1.1 < 0)) then
 some (Sum.inl ((), (-1), ()))
 else
 rec ((), v.2.1, t1.1.1, (Wr .i64 (v.2.2.2.1 + 1)), ())
 else none
 else none
 else none
 else none
 else
 some (Sum.inr ((), v.2.2.1, ()))
def jO (k : Nat) (x0 : (List aB)) (x1 : Int) : Option ((Int × Unit) × Unit) :=
 (iter (cW k) k ((), x0, x1, 0, ())).bind fun o1 =>
 Sum.elim (fun a2 =>
 some (a2.2, ()))
 (fun b3 =>
 some (b3.2, ())) o1
def me (k : Nat) (x0 : bc) (x1 : Int) : Option ((Int × Unit) × Unit) :=
 (jO k x0.2.2.2.2.2.2.1 x1).bind fun t1 =>
 bif (decide (t1.1.1 < 0)) then
 some (((-1), ()), ())
 else
 (cM k x0.2.2.2.2.2.2.2.1 t1.1.1).bind fun t2 =>
 bif (decide (t2.1.1 < 0)) then
 some (((-1), ()), ())
 else
 some (t2.1, ())
def kP (k : Nat) (x0 : aF) (x1 : Int) : Option ((Int × Unit) × Unit) :=
 (cM k x0.2.2.2.2.2.2.2.2.2.2.2.2.1 x1).bind fun t1 =>
 bif (decide (t1.1.1 < 0)) then
 some (((-1), ()), ())
 else
 (cM k x0.2.2.2.2.2.2.2.2.2.2.2.2.2.1 t1.1.1).bind fun t2 =>
 bif (decide (t2.1.1 < 0)) then
 some (((-1), ()), ())
 else
 some (t2.1, ())
def gA (k : Nat) (x0 : aj) (x1 : Int) : Option ((Int × Unit) × Unit) :=
 (kO k x0.2.1 x1).bind fun t1 =>
 bif (decide (t1.1.1 < 0)) then
 some (((-1), ()), ())
 else
 (ly k x0.2.2.1 t1.1.1).bind fun t2 =>
 bif (decide (t2.1.1 < 0)) then
 some (((-1), ()), ())
 else
 (me k x0.2.2.2.1 t2.1.1).bind fun t3 =>
 bif (decide (t3.1.1 < 0)) then
 some (((-1), ()), ())
 else
 (kP k x0.2.2.2.2.1 t3.1.1).bind fun t4 =>
 bif (decide (t4.1.1 < 0)) then
 some (((-1), ()), ())
 else
 (cM k x0.2.2.2.2.2.1 t4.1.1).bind fun t5 =>
 bif (decide (t5.1.1 < 0)) then
 some (((-1), ()), ())
 else
 some (t5.1, ())
def R3 (rec : (Unit × ((List Int) × (Int × (Int × Unit)))) → Option ((Unit × (Int × Unit)) ⊕ (Unit × (Int × Unit)))) (v : (Unit × ((List Int) × (Int × (Int × Unit))))) : Option ((Unit × (Int × Unit)) ⊕ (Unit × (Int × Unit))) :=
 bif (decide (v.2.2.2.1 < (List.length v.2.1 : Int))) then
 bif ((decide (0 ≤ v.2.2.2.1)) && (decide (v.2.2.2.1 < (List.length v.2.1 : Int)))) then
 bif (decide ((Int.toNat v.2.2.2.1) < (List.length v.2.1))) then
 bif (!(decide ((List.getD v.2.1 (Int.toNat v.2.2.2.1) 0) = v.2.2.1))) then
 some (Sum.inl ((), (-1), ()))
 else
 rec ((), v.2.1, (Wr .i64 (v.2.2.1 + 1)), (Wr .i64 (v.2.2.2.1 + 1)), ())
 else none
 else none
 else
 some (Sum.inr ((), v.2.2.1, ()))
def Sc (k : Nat) (x0 : (List Int)) (x1 : Int) : Option ((Int × Unit) × Unit) :=
 (iter (R3) k ((), x0, x1, 0, ())).bind fun o1 =>
 Sum.elim (fun a2 =>
 some (a2.2, ()))
 (fun b3 =>
 some (b3.2, ())) o1
def R5 (k : Nat) (x0 : (List aV)) (x1 : aj) (x2 : (List Int)) : Option ((Bool × Unit) × Unit) :=
 bif (decide (1048576 < (List.length x2 : Int))) then
 some ((true, ()), ())
 else
 (Sh x0 1048576).bind fun t1 =>
 bif (decide (t1.1.1 < 0)) then
 some ((true, ()), ())
 else
 (lv k x1 t1.1.1).bind fun t2 =>
 bif (decide (t2.1.1 < 0)) then
 some ((true, ()), ())
 else
 (R6 k x0).bind fun t3 =>
 (fH k x1).bind fun t4 =>
 (Sf k x2).bind fun t5 =>
 (Sq k t3.1.1 t4.1.1 t5.1.1).bind fun t6 =>
 (R6 k x0).bind fun t7 =>
 (fH k x1).bind fun t8 =>
 (Sf k x2).bind fun t9 =>
 (Sl k t7.1.1 t8.1.1 t9.1.1).bind fun t10 =>
 (fN k t10.1.1 t6.1.1).bind fun t11 =>
 bif (!(!t11.1.1)) then
 (Sg k t10.1.2.1 t6.1.2.1).bind fun t12 =>
 bif (!(!t12.1.1)) then
 bif (!(decide (t10.1.2.2.1 = t6.1.2.2.1))) then
 some ((false, ()), ())
 else
 (R6 k x0).bind fun t13 =>
 (Sw k t7.1.1 t13.1.1).bind fun t14 =>
 bif (!t14.1.1) then
 some ((false, ()), ())
 else
 (fH k x1).bind fun t15 =>
 (fN k t8.1.1 t15.1.1).bind fun t16 =>
 bif (!t16.1.1) then
 some ((false, ()), ())
 else
 (Sf k x2).bind fun t17 =>
 (Sg k t9.1.1 t17.1.1).bind fun t18 =>
 bif (!t18.1.1) then
 some ((false, ()), ())
 else
 (R8 k t7.1.1 1).bind fun t19 =>
 (aP k t8.1.1.2.1.2.2.2.2.1 t19.1.1).bind fun t20 =>
 (aP k t8.1.1.2.2.1.2.2.2.2.2.2.2.2.2.1 t20.1.1).bind fun t21 =>
 (aP k t8.1.1.2.2.1.2.2.2.2.2.2.2.2.2.2.1 t21.1.1).bind fun t22 =>
 (fP k t8.1.1.2.2.2.1.2.2.2.2.2.2.1 t22.1.1).bind fun t23 =>
 (aP k t8.1.1.2.2.2.1.2.2.2.2.2.2.2.1 t23.1.1).bind fun t24 =>
 (aP k t8.1.1.2.2.2.2.1.2.2.2.2.2.2.2.2.2.2.2.2.1 t24.1.1).bind fun t25 =>
 (aP k t8.1.1.2.2.2.2.1.2.2.2.2.2.2.2.2.2.2.2.2.2.1 t25.1.1).bind fun t26 =>
 (aP k t8.1.1.2.2.2.2.2.1 t26.1.1).bind fun t27 =>
 (Sb k t9.1.1 t27.1.1).bind fun t28 =>
 bif (!(decide (t28.1.1 < 0))) then
 (fN k t10.1.1 t6.1.1).bind fun t29 =>
 bif (!(!t29.1.1)) then
 (Sg k t10.1.2.1 t6.1.2.1).bind fun t30 =>
 bif (!(!t30.1.1)) then
 bif (!(decide (t10.1.2.2.1 = t6.1.2.2.1))) then
 some ((false, ()), ())
 else
 (aP k t10.1.1.2.1.2.2.2.2.1 1).bind fun t31 =>
 (aP k t10.1.1.2.2.1.2.2.2.2.2.2.2.2.2.1 t31.1.1).bind fun t32 =>
 (aP k t10.1.1.2.2.1.2.2.2.2.2.2.2.2.2.2.1 t32.1.1).bind fun t33 =>
 (fP k t10.1.1.2.2.2.1.2.2.2.2.2.2.1 t33.1.1).bind fun t34 =>
 (aP k t10.1.1.2.2.2.1.2.2.2.2.2.2.2.1 t34.1.1).bind fun t35 =>
 (aP k t10.1.1.2.2.2.2.1.2.2.2.2.2.2.2.2.2.2.2.2.1 t35.1.1).bind fun t36 =>
 (aP k t10.1.1.2.2.2.2.1.2.2.2.2.2.2.2.2.2.2.2.2.2.1 t36.1.1).bind fun t37 =>
 (aP k t10.1.1.2.2.2.2.2.1 t37.1.1).bind fun t38 =>
 (Sb k t10.1.2.1 t38.1.1).bind fun t39 =>
 (gA k (t10.1.1.1, (t10.1.1.2.1.1, t10.1.1.2.1.2.1, t10.1.1.2.1.2.2.1, t10.1.1.2.1.2.2.2.1, t31.2), (t10.1.1.2.2.1.1, t10.1.1.2.2.1.2.1, t10.1.1.2.2.1.2.2.1, t10.1.1.2.2.1.2.2.2.1, t10.1.1.2.2.1.2.2.2.2.1, t10.1.1.2.2.1.2.2.2.2.2.1, t10.1.1.2.2.1.2.2.2.2.2.2.1, t10.1.1.2.2.1.2.2.2.2.2.2.2.1, t10.1.1.2.2.1.2.2.2.2.2.2.2.2.1, t32.2.1, t33.2), (t10.1.1.2.2.2.1.1, t10.1.1.2.2.2.1.2.1, t10.1.1.2.2.2.1.2.2.1, t10.1.1.2.2.2.1.2.2.2.1, t10.1.1.2.2.2.1.2.2.2.2.1, t10.1.1.2.2.2.1.2.2.2.2.2.1, t34.2.1, t35.2), (t10.1.1.2.2.2.2.1.1, t10.1.1.2.2.2.2.1.2.1, t10.1.1.2.2.2.2.1.2.2.1, t10.1.1.2.2.2.2.1.2.2.2.1, t10.1.1.2.2.2.2.1.2.2.2.2.1, t10.1.1.2.2.2.2.1.2.2.2.2.2.1, t10.1.1.2.2.2.2.1.2.2.2.2.2.2.1, t10.1.1.2.2.2.2.1.2.2.2.2.2.2.2.1, t10.1.1.2.2.2.2.1.2.2.2.2.2.2.2.2.1, t10.1.1.2.2.2.2.1.2.2.2.2.2.2.2.2.2.1, t10.1.1.2.2.2.2.1.2.2.2.2.2.2.2.2.2.2.1, t10.1.1.2.2.2.2.1.2.2.2.2.2.2.2.2.2.2.2.1, t36.2.1, t37.2), t38.2) 1).bind fun t40 =>
 bif (decide (t40.1.1 < 0)) then
 some ((false, ()), ())
 else
 (Sc k t39.2.1 t40.1.1).bind fun t41 =>
 bif (decide (t41.1.1 < 0)) then
 some ((false, ()), ())
 else
 bif (!(decide (t41.1.1 = t39.1.1))) then
 some ((false, ()), ())
 else
 (R6 k x0).bind fun t42 =>
 (fH k x1).bind fun t43 =>
 (Sf k x2).bind fun t44 =>
 (Sl k t42.1.1 t43.1.1 t44.1.1).bind fun t45 =>
 (fN k t45.1.1 t6.1.1).bind fun t46 =>
 bif (!(!t46.1.1)) then
 (Sg k t45.1.2.1 t6.1.2.1).bind fun t47 =>
 bif (!(!t47.1.1)) then
 bif (!(decide (t45.1.2.2.1 = t6.1.2.2.1))) then
 some ((false, ()), ())
 else
 (gA k (t10.1.1.1, (t10.1.1.2.1.1, t10.1.1.2.1.2.1, t10.1.1.2.1.2.2.1, t10.1.1.2.1.2.2.2.1, t31.2), (t10.1.1.2.2.1.1, t10.1.1.2.2.1.2.1, t10.1.1.2.2.1.2.2.1, t10.1.1.2.2.1.2.2.2.1, t10.1.1.2.2.1.2.2.2.2.1, t10.1.1.2.2.1.2.2.2.2.2.1, t10.1.1.2.2.1.2.2.2.2.2.2.1, t10.1.1.2.2.1.2.2.2.2.2.2.2.1, t10.1.1.2.2.1.2.2.2.2.2.2.2.2.1, t32.2.1, t33.2), (t10.1.1.2.2.2.1.1, t10.1.1.2.2.2.1.2.1, t10.1.1.2.2.2.1.2.2.1, t10.1.1.2.2.2.1.2.2.2.1, t10.1.1.2.2.2.1.2.2.2.2.1, t10.1.1.2.2.2.1.2.2.2.2.2.1, t34.2.1, t35.2), (t10.1.1.2.2.2.2.1.1, t10.1.1.2.2.2.2.1.2.1, t10.1.1.2.2.2.2.1.2.2.1, t10.1.1.2.2.2.2.1.2.2.2.1, t10.1.1.2.2.2.2.1.2.2.2.2.1, t10.1.1.2.2.2.2.1.2.2.2.2.2.1, t10.1.1.2.2.2.2.1.2.2.2.2.2.2.1, t10.1.1.2.2.2.2.1.2.2.2.2.2.2.2.1, t10.1.1.2.2.2.2.1.2.2.2.2.2.2.2.2.1, t10.1.1.2.2.2.2.1.2.2.2.2.2.2.2.2.2.1, t10.1.1.2.2.2.2.1.2.2.2.2.2.2.2.2.2.2.1, t10.1.1.2.2.2.2.1.2.2.2.2.2.2.2.2.2.2.2.1, t36.2.1, t37.2), t38.2) 1).bind fun t48 =>
 bif (decide (t48.1.1 < 0)) then
 some ((false, ()), ())
 else
 (Sc k t39.2.1 t48.1.1).bind fun t49 =>
 bif (decide (t49.1.1 < 0)) then
 some ((false, ()), ())
 else
 bif (!(decide (t49.1.1 = t39.1.1))) then
 some ((false, ()), ())
 else
 some ((true, ()), ())
 else
 some ((false, ()), ())
 else
 some ((false, ()), ())
 else
 some ((false, ()), ())
 else
 some ((false, ()), ())
 else
 some ((false, ()), ())
 else
 some ((false, ()), ())
 else
 some ((false, ()), ())
end Go.Tw
