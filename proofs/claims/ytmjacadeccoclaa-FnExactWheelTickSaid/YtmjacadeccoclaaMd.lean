/- The mirrors of the functions as plain definitions, by which proofs go on. -/
import Derived.Test.YtmjacadeccoclaaT24
set_option linter.all false
namespace Go.Tw
open Go Go.RowKit
abbrev T_Timer : Ty := (.pr (.int .i64) (.pr (.int .i64) .un))
abbrev D_Timer := (Int × (Int × Unit))
def z_Timer : D_Timer := ((0 : Int), ((0 : Int), ()))
abbrev T_Spoke : Ty := (.pr (.sl T_Timer) .un)
abbrev D_Spoke := ((List D_Timer) × Unit)
def z_Spoke : D_Spoke := ([], ())
abbrev T_Wheel : Ty := (.pr (.int .i64) (.pr (.sl T_Spoke) .un))
abbrev D_Wheel := (Int × ((List D_Spoke) × Unit))
def z_Wheel : D_Wheel := ((0 : Int), ([], ()))
def laws_szTimerS (x0 : (List D_Timer)) (x1 : Int) : Option ((Int × Unit) × Unit) :=
  bif (decide ((IntKind.wrap .i64 (x1 - (((List.length x0) : Nat) : Int))) < (0 : Int))) then
    some (((-1 : Int), ()), ())
  else
    some (((IntKind.wrap .i64 (x1 - (((List.length x0) : Nat) : Int))), ()), ())
def laws_szSpoke (x0 : D_Spoke) (x1 : Int) : Option ((Int × Unit) × Unit) :=
  (laws_szTimerS x0.1 x1).bind fun t1 =>
    bif (decide (t1.1.1 < (0 : Int))) then
      some (((-1 : Int), ()), ())
    else
      some (t1.1, ())
def laws_szSpokeS_s5 (rec : (Unit × ((List D_Spoke) × D_Timer)) → Option ((Unit × (Int × Unit)) ⊕ (Unit × (Int × Unit)))) (v : (Unit × ((List D_Spoke) × D_Timer))) : Option ((Unit × (Int × Unit)) ⊕ (Unit × (Int × Unit))) :=
  bif (decide (v.2.2.2.1 < (((List.length v.2.1) : Nat) : Int))) then
    bif ((decide ((0 : Int) ≤ v.2.2.2.1)) && (decide (v.2.2.2.1 < (((List.length v.2.1) : Nat) : Int)))) then
      bif (decide ((Int.toNat v.2.2.2.1) < (List.length v.2.1))) then
        (laws_szSpoke (List.getD v.2.1 (Int.toNat v.2.2.2.1) z_Spoke) v.2.2.1).bind fun t1 =>
          bif (decide (t1.1.1 < (0 : Int))) then
            some (Sum.inl ((), (-1 : Int), ()))
          else
            rec ((), v.2.1, t1.1.1, (IntKind.wrap .i64 (v.2.2.2.1 + (1 : Int))), ())
      else none
    else none
  else
    some (Sum.inr ((), v.2.2.1, ()))
def laws_szSpokeS (k : Nat) (x0 : (List D_Spoke)) (x1 : Int) : Option ((Int × Unit) × Unit) :=
  bif (decide ((IntKind.wrap .i64 (x1 - (((List.length x0) : Nat) : Int))) < (0 : Int))) then
    some (((-1 : Int), ()), ())
  else
    (iter (laws_szSpokeS_s5) k ((), x0, (IntKind.wrap .i64 (x1 - (((List.length x0) : Nat) : Int))), (0 : Int), ())).bind fun o1 =>
      Sum.elim (fun a2 =>
        some (a2.2, ()))
      (fun b3 =>
        some (b3.2, ())) o1
def laws_szWheel (k : Nat) (x0 : D_Wheel) (x1 : Int) : Option ((Int × Unit) × Unit) :=
  (laws_szSpokeS k x0.2.1 x1).bind fun t1 =>
    bif (decide (t1.1.1 < (0 : Int))) then
      some (((-1 : Int), ()), ())
    else
      some (t1.1, ())
def laws_toTimer (x0 : D_Timer) : Option ((D_Timer × Unit) × Unit) :=
  some ((x0, ()), ())
def laws_toTimerS_s3 (rec : (Unit × ((List D_Timer) × ((List D_Timer) × (Int × Unit)))) → Option ((Unit × D_Spoke))) (v : (Unit × ((List D_Timer) × ((List D_Timer) × (Int × Unit))))) : Option ((Unit × D_Spoke)) :=
  bif (decide (v.2.2.2.1 < (((List.length v.2.1) : Nat) : Int))) then
    bif ((decide ((0 : Int) ≤ v.2.2.2.1)) && (decide (v.2.2.2.1 < (((List.length v.2.1) : Nat) : Int)))) then
      bif (decide ((Int.toNat v.2.2.2.1) < (List.length v.2.1))) then
        (laws_toTimer (List.getD v.2.1 (Int.toNat v.2.2.2.1) z_Timer)).bind fun t1 =>
          bif ((decide ((0 : Int) ≤ v.2.2.2.1)) && (decide (v.2.2.2.1 < (((List.length v.2.2.1) : Nat) : Int)))) then
            bif (decide ((Int.toNat v.2.2.2.1) < (List.length v.2.2.1))) then
              let y2 : (List D_Timer) := (List.set v.2.2.1 (Int.toNat v.2.2.2.1) t1.1.1)
              rec ((), v.2.1, y2, (IntKind.wrap .i64 (v.2.2.2.1 + (1 : Int))), ())
            else none
          else none
      else none
    else none
  else
    some ((), v.2.2.1, ())
def laws_toTimerS (k : Nat) (x0 : (List D_Timer)) : Option (D_Spoke × Unit) :=
  bif (((decide ((0 : Int) ≤ (((List.length x0) : Nat) : Int))) && (decide ((((List.length x0) : Nat) : Int) ≤ (((List.length x0) : Nat) : Int)))) && (decide (((16 : Int) * (((List.length x0) : Nat) : Int)) ≤ (1099511627776 : Int)))) then
    (iter (laws_toTimerS_s3) k ((), x0, (List.replicate (List.length x0) ((0 : Int), (0 : Int), ())), (0 : Int), ())).bind fun o1 =>
      some (o1.2, ())
  else none
def laws_toSpoke (k : Nat) (x0 : D_Spoke) : Option ((D_Spoke × Unit) × Unit) :=
  (laws_toTimerS k x0.1).bind fun t1 =>
    some (t1, ())
def laws_toSpokeS_s3 (k : Nat) (rec : (Unit × ((List D_Spoke) × ((List D_Spoke) × (Int × Unit)))) → Option ((Unit × ((List D_Spoke) × Unit)))) (v : (Unit × ((List D_Spoke) × ((List D_Spoke) × (Int × Unit))))) : Option ((Unit × ((List D_Spoke) × Unit))) :=
  bif (decide (v.2.2.2.1 < (((List.length v.2.1) : Nat) : Int))) then
    bif ((decide ((0 : Int) ≤ v.2.2.2.1)) && (decide (v.2.2.2.1 < (((List.length v.2.1) : Nat) : Int)))) then
      bif (decide ((Int.toNat v.2.2.2.1) < (List.length v.2.1))) then
        (laws_toSpoke k (List.getD v.2.1 (Int.toNat v.2.2.2.1) z_Spoke)).bind fun t1 =>
          bif ((decide ((0 : Int) ≤ v.2.2.2.1)) && (decide (v.2.2.2.1 < (((List.length v.2.2.1) : Nat) : Int)))) then
            bif (decide ((Int.toNat v.2.2.2.1) < (List.length v.2.2.1))) then
              let y2 : (List D_Spoke) := (List.set v.2.2.1 (Int.toNat v.2.2.2.1) t1.1.1)
              rec ((), v.2.1, y2, (IntKind.wrap .i64 (v.2.2.2.1 + (1 : Int))), ())
            else none
          else none
      else none
    else none
  else
    some ((), v.2.2.1, ())
def laws_toSpokeS (k : Nat) (x0 : (List D_Spoke)) : Option (((List D_Spoke) × Unit) × Unit) :=
  bif (((decide ((0 : Int) ≤ (((List.length x0) : Nat) : Int))) && (decide ((((List.length x0) : Nat) : Int) ≤ (((List.length x0) : Nat) : Int)))) && (decide (((24 : Int) * (((List.length x0) : Nat) : Int)) ≤ (1099511627776 : Int)))) then
    (iter (laws_toSpokeS_s3 k) k ((), x0, (List.replicate (List.length x0) (([] : List D_Timer), ())), (0 : Int), ())).bind fun o1 =>
      some (o1.2, ())
  else none
def laws_toWheel (k : Nat) (x0 : D_Wheel) : Option ((D_Wheel × Unit) × Unit) :=
  (laws_toSpokeS k x0.2.1).bind fun t1 =>
    some (((x0.1, t1.1), ()), ())
def spec_l12All_s3 (rec : (Unit × (D_Wheel × ((List D_Timer) × (Int × Unit)))) → Option ((Unit × D_Spoke))) (v : (Unit × (D_Wheel × ((List D_Timer) × (Int × Unit))))) : Option ((Unit × D_Spoke)) :=
  bif (decide (v.2.2.2.1 < (((List.length v.2.1.2.1) : Nat) : Int))) then
    bif ((decide ((0 : Int) ≤ v.2.2.2.1)) && (decide (v.2.2.2.1 < (((List.length v.2.1.2.1) : Nat) : Int)))) then
      bif (decide ((Int.toNat v.2.2.2.1) < (List.length v.2.1.2.1))) then
        bif (decide ((((List.length v.2.2.1) + (List.length (List.getD v.2.1.2.1 (Int.toNat v.2.2.2.1) z_Spoke).1)) * 16) ≤ (1099511627776 : Nat))) then
          rec ((), v.2.1, (v.2.2.1 ++ (List.getD v.2.1.2.1 (Int.toNat v.2.2.2.1) z_Spoke).1), (IntKind.wrap .i64 (v.2.2.2.1 + (1 : Int))), ())
        else none
      else none
    else none
  else
    some ((), v.2.2.1, ())
def spec_l12All (k : Nat) (x0 : D_Wheel) : Option (D_Spoke × Unit) :=
  (iter (spec_l12All_s3) k ((), x0, ([] : List D_Timer), (0 : Int), ())).bind fun o1 =>
    some (o1.2, ())
def spec_WheelOk_s5 (rec : (Unit × (D_Wheel × D_Timer)) → Option ((Unit × (Bool × Unit)) ⊕ (Unit × (D_Wheel × (Int × Unit))))) (v : (Unit × (D_Wheel × D_Timer))) : Option ((Unit × (Bool × Unit)) ⊕ (Unit × (D_Wheel × (Int × Unit)))) :=
  bif (decide (v.2.2.2.1 < (8 : Int))) then
    bif ((decide ((0 : Int) ≤ v.2.2.2.1)) && (decide (v.2.2.2.1 < (((List.length v.2.1.2.1) : Nat) : Int)))) then
      bif (decide ((Int.toNat v.2.2.2.1) < (List.length v.2.1.2.1))) then
        bif (decide ((64 : Int) < (((List.length (List.getD v.2.1.2.1 (Int.toNat v.2.2.2.1) z_Spoke).1) : Nat) : Int))) then
          some (Sum.inl ((), false, ()))
        else
          bif ((decide ((0 : Int) ≤ v.2.2.2.1)) && (decide (v.2.2.2.1 < (((List.length v.2.1.2.1) : Nat) : Int)))) then
            bif (decide ((Int.toNat v.2.2.2.1) < (List.length v.2.1.2.1))) then
              rec ((), v.2.1, (IntKind.wrap .i64 (v.2.2.1 + (((List.length (List.getD v.2.1.2.1 (Int.toNat v.2.2.2.1) z_Spoke).1) : Nat) : Int))), (IntKind.wrap .i64 (v.2.2.2.1 + (1 : Int))), ())
            else none
          else none
      else none
    else none
  else
    some (Sum.inr ((), v.2.1, v.2.2.1, ()))
def spec_WheelOk_s19 (rec : (Unit × (D_Wheel × ((List D_Timer) × D_Timer))) → Option ((Unit × (Bool × Unit)) ⊕ (Unit × (D_Wheel × ((List D_Timer) × (Int × Unit)))))) (v : (Unit × (D_Wheel × ((List D_Timer) × D_Timer)))) : Option ((Unit × (Bool × Unit)) ⊕ (Unit × (D_Wheel × ((List D_Timer) × (Int × Unit))))) :=
  bif (decide (v.2.2.2.2.1 < v.2.2.2.1)) then
    bif ((decide ((0 : Int) ≤ v.2.2.2.2.1)) && (decide (v.2.2.2.2.1 < (((List.length v.2.2.1) : Nat) : Int)))) then
      bif (decide ((Int.toNat v.2.2.2.2.1) < (List.length v.2.2.1))) then
        bif ((decide ((0 : Int) ≤ v.2.2.2.1)) && (decide (v.2.2.2.1 < (((List.length v.2.2.1) : Nat) : Int)))) then
          bif (decide ((Int.toNat v.2.2.2.1) < (List.length v.2.2.1))) then
            bif (decide ((List.getD v.2.2.1 (Int.toNat v.2.2.2.2.1) z_Timer).1 = (List.getD v.2.2.1 (Int.toNat v.2.2.2.1) z_Timer).1)) then
              some (Sum.inl ((), false, ()))
            else
              rec ((), v.2.1, v.2.2.1, v.2.2.2.1, (IntKind.wrap .i64 (v.2.2.2.2.1 + (1 : Int))), ())
          else none
        else none
      else none
    else none
  else
    some (Sum.inr ((), v.2.1, v.2.2.1, v.2.2.2.1, ()))
def spec_WheelOk_s14 (k : Nat) (rec : (Unit × (D_Wheel × ((List D_Timer) × (Int × Unit)))) → Option ((Unit × (Bool × Unit)) ⊕ (Unit × (D_Wheel × Unit)))) (v : (Unit × (D_Wheel × ((List D_Timer) × (Int × Unit))))) : Option ((Unit × (Bool × Unit)) ⊕ (Unit × (D_Wheel × Unit))) :=
  bif (decide (v.2.2.2.1 < (((List.length v.2.2.1) : Nat) : Int))) then
    bif ((decide ((0 : Int) ≤ v.2.2.2.1)) && (decide (v.2.2.2.1 < (((List.length v.2.2.1) : Nat) : Int)))) then
      bif (decide ((Int.toNat v.2.2.2.1) < (List.length v.2.2.1))) then
        bif (!(decide ((List.getD v.2.2.1 (Int.toNat v.2.2.2.1) z_Timer).1 < (0 : Int)))) then
          bif ((decide ((0 : Int) ≤ v.2.2.2.1)) && (decide (v.2.2.2.1 < (((List.length v.2.2.1) : Nat) : Int)))) then
            bif (decide ((Int.toNat v.2.2.2.1) < (List.length v.2.2.1))) then
              bif (!(decide ((9999 : Int) < (List.getD v.2.2.1 (Int.toNat v.2.2.2.1) z_Timer).1))) then
                bif ((decide ((0 : Int) ≤ v.2.2.2.1)) && (decide (v.2.2.2.1 < (((List.length v.2.2.1) : Nat) : Int)))) then
                  bif (decide ((Int.toNat v.2.2.2.1) < (List.length v.2.2.1))) then
                    bif (!(decide ((List.getD v.2.2.1 (Int.toNat v.2.2.2.1) z_Timer).2.1 ≤ v.2.1.1))) then
                      bif ((decide ((0 : Int) ≤ v.2.2.2.1)) && (decide (v.2.2.2.1 < (((List.length v.2.2.1) : Nat) : Int)))) then
                        bif (decide ((Int.toNat v.2.2.2.1) < (List.length v.2.2.1))) then
                          bif (decide ((IntKind.wrap .i64 (v.2.1.1 + (1000 : Int))) < (List.getD v.2.2.1 (Int.toNat v.2.2.2.1) z_Timer).2.1)) then
                            some (Sum.inl ((), false, ()))
                          else
                            (iter (spec_WheelOk_s19) k ((), v.2.1, v.2.2.1, v.2.2.2.1, (0 : Int), ())).bind fun o5 =>
                              Sum.elim (fun a6 =>
                                some (Sum.inl ((), a6.2)))
                              (fun b7 =>
                                rec ((), b7.2.1, b7.2.2.1, (IntKind.wrap .i64 (b7.2.2.2.1 + (1 : Int))), ())) o5
                        else none
                      else none
                    else
                      some (Sum.inl ((), false, ()))
                  else none
                else none
              else
                some (Sum.inl ((), false, ()))
            else none
          else none
        else
          some (Sum.inl ((), false, ()))
      else none
    else none
  else
    some (Sum.inr ((), v.2.1, ()))
def spec_WheelOk_s27 (rec : (Unit × (D_Wheel × D_Timer)) → Option ((Unit × (Bool × Unit)) ⊕ (Unit × (D_Wheel × (Int × Unit))))) (v : (Unit × (D_Wheel × D_Timer))) : Option ((Unit × (Bool × Unit)) ⊕ (Unit × (D_Wheel × (Int × Unit)))) :=
  bif ((decide ((0 : Int) ≤ v.2.2.1)) && (decide (v.2.2.1 < (((List.length v.2.1.2.1) : Nat) : Int)))) then
    bif (decide ((Int.toNat v.2.2.1) < (List.length v.2.1.2.1))) then
      bif (decide (v.2.2.2.1 < (((List.length (List.getD v.2.1.2.1 (Int.toNat v.2.2.1) z_Spoke).1) : Nat) : Int))) then
        bif ((decide ((0 : Int) ≤ v.2.2.1)) && (decide (v.2.2.1 < (((List.length v.2.1.2.1) : Nat) : Int)))) then
          bif (decide ((Int.toNat v.2.2.1) < (List.length v.2.1.2.1))) then
            bif ((decide ((0 : Int) ≤ v.2.2.2.1)) && (decide (v.2.2.2.1 < (((List.length (List.getD v.2.1.2.1 (Int.toNat v.2.2.1) z_Spoke).1) : Nat) : Int)))) then
              bif (decide ((Int.toNat v.2.2.2.1) < (List.length (List.getD v.2.1.2.1 (Int.toNat v.2.2.1) z_Spoke).1))) then
                bif (!(decide ((Int.tmod (List.getD (List.getD v.2.1.2.1 (Int.toNat v.2.2.1) z_Spoke).1 (Int.toNat v.2.2.2.1) z_Timer).2.1 (8 : Int)) = v.2.2.1))) then
                  some (Sum.inl ((), false, ()))
                else
                  rec ((), v.2.1, v.2.2.1, (IntKind.wrap .i64 (v.2.2.2.1 + (1 : Int))), ())
              else none
            else none
          else none
        else none
      else
        some (Sum.inr ((), v.2.1, v.2.2.1, ()))
    else none
  else none
def spec_WheelOk_s24 (k : Nat) (rec : (Unit × (D_Wheel × (Int × Unit))) → Option ((Unit × (Bool × Unit)) ⊕ (Unit × Unit))) (v : (Unit × (D_Wheel × (Int × Unit)))) : Option ((Unit × (Bool × Unit)) ⊕ (Unit × Unit)) :=
  bif (decide (v.2.2.1 < (8 : Int))) then
    (iter (spec_WheelOk_s27) k ((), v.2.1, v.2.2.1, (0 : Int), ())).bind fun o11 =>
      Sum.elim (fun a12 =>
        some (Sum.inl ((), a12.2)))
      (fun b13 =>
        rec ((), b13.2.1, (IntKind.wrap .i64 (b13.2.2.1 + (1 : Int))), ())) o11
  else
    some (Sum.inr ((), ()))
def spec_WheelOk (k : Nat) (x0 : D_Wheel) : Option ((Bool × Unit) × Unit) :=
  bif (!(decide (x0.1 < (0 : Int)))) then
    bif (!(decide ((1000000000000 : Int) < x0.1))) then
      bif (!(decide ((((List.length x0.2.1) : Nat) : Int) = (8 : Int)))) then
        some ((false, ()), ())
      else
        (iter (spec_WheelOk_s5) k ((), x0, (0 : Int), (0 : Int), ())).bind fun o1 =>
          Sum.elim (fun a2 =>
            some (a2.2, ()))
          (fun b3 =>
            bif (decide ((64 : Int) < b3.2.2.1)) then
              some ((false, ()), ())
            else
              (spec_l12All k b3.2.1).bind fun t4 =>
                (iter (spec_WheelOk_s14 k) k ((), b3.2.1, t4.1.1, (0 : Int), ())).bind fun o5 =>
                  Sum.elim (fun a6 =>
                    some (a6.2, ()))
                  (fun b7 =>
                    (iter (spec_WheelOk_s24 k) k ((), b7.2.1, (0 : Int), ())).bind fun o8 =>
                      Sum.elim (fun a9 =>
                        some (a9.2, ()))
                      (fun b10 =>
                        some ((true, ()), ())) o8) o5) o1
    else
      some ((false, ()), ())
  else
    some ((false, ()), ())
def spec_l12Without_s7 (rec : (Unit × (Int × (Int × (D_Wheel × (D_Wheel × (D_Wheel × (Int × ((List D_Timer) × (Int × Unit))))))))) → Option ((Unit × (Int × (Int × (D_Wheel × (D_Wheel × (D_Wheel × (Int × D_Spoke))))))))) (v : (Unit × (Int × (Int × (D_Wheel × (D_Wheel × (D_Wheel × (Int × ((List D_Timer) × (Int × Unit)))))))))) : Option ((Unit × (Int × (Int × (D_Wheel × (D_Wheel × (D_Wheel × (Int × D_Spoke)))))))) :=
  bif ((decide ((0 : Int) ≤ v.2.2.2.2.2.2.1)) && (decide (v.2.2.2.2.2.2.1 < (((List.length v.2.2.2.1.2.1) : Nat) : Int)))) then
    bif (decide ((Int.toNat v.2.2.2.2.2.2.1) < (List.length v.2.2.2.1.2.1))) then
      bif (decide (v.2.2.2.2.2.2.2.2.1 < (((List.length (List.getD v.2.2.2.1.2.1 (Int.toNat v.2.2.2.2.2.2.1) z_Spoke).1) : Nat) : Int))) then
        bif ((decide ((0 : Int) ≤ v.2.2.2.2.2.2.1)) && (decide (v.2.2.2.2.2.2.1 < (((List.length v.2.2.2.1.2.1) : Nat) : Int)))) then
          bif (decide ((Int.toNat v.2.2.2.2.2.2.1) < (List.length v.2.2.2.1.2.1))) then
            bif ((decide ((0 : Int) ≤ v.2.2.2.2.2.2.2.2.1)) && (decide (v.2.2.2.2.2.2.2.2.1 < (((List.length (List.getD v.2.2.2.1.2.1 (Int.toNat v.2.2.2.2.2.2.1) z_Spoke).1) : Nat) : Int)))) then
              bif (decide ((Int.toNat v.2.2.2.2.2.2.2.2.1) < (List.length (List.getD v.2.2.2.1.2.1 (Int.toNat v.2.2.2.2.2.2.1) z_Spoke).1))) then
                bif (!(decide ((List.getD (List.getD v.2.2.2.1.2.1 (Int.toNat v.2.2.2.2.2.2.1) z_Spoke).1 (Int.toNat v.2.2.2.2.2.2.2.2.1) z_Timer).1 = v.2.1))) then
                  bif (!(decide ((List.getD (List.getD v.2.2.2.1.2.1 (Int.toNat v.2.2.2.2.2.2.1) z_Spoke).1 (Int.toNat v.2.2.2.2.2.2.2.2.1) z_Timer).2.1 = v.2.2.1))) then
                    bif (decide ((((List.length v.2.2.2.2.2.2.2.1) + (1 : Nat)) * 16) ≤ (1099511627776 : Nat))) then
                      rec ((), v.2.1, v.2.2.1, v.2.2.2.1, v.2.2.2.2.1, v.2.2.2.2.2.1, v.2.2.2.2.2.2.1, (v.2.2.2.2.2.2.2.1 ++ ([(List.getD (List.getD v.2.2.2.1.2.1 (Int.toNat v.2.2.2.2.2.2.1) z_Spoke).1 (Int.toNat v.2.2.2.2.2.2.2.2.1) z_Timer)] : List D_Timer)), (IntKind.wrap .i64 (v.2.2.2.2.2.2.2.2.1 + (1 : Int))), ())
                    else none
                  else
                    rec ((), v.2.1, v.2.2.1, v.2.2.2.1, v.2.2.2.2.1, v.2.2.2.2.2.1, v.2.2.2.2.2.2.1, v.2.2.2.2.2.2.2.1, (IntKind.wrap .i64 (v.2.2.2.2.2.2.2.2.1 + (1 : Int))), ())
                else
                  rec ((), v.2.1, v.2.2.1, v.2.2.2.1, v.2.2.2.2.1, v.2.2.2.2.2.1, v.2.2.2.2.2.2.1, v.2.2.2.2.2.2.2.1, (IntKind.wrap .i64 (v.2.2.2.2.2.2.2.2.1 + (1 : Int))), ())
              else none
            else none
          else none
        else none
      else
        some ((), v.2.1, v.2.2.1, v.2.2.2.1, v.2.2.2.2.1, v.2.2.2.2.2.1, v.2.2.2.2.2.2.1, v.2.2.2.2.2.2.2.1, ())
    else none
  else none
def spec_l12Without_s3 (k : Nat) (rec : (Unit × (Int × (Int × (D_Wheel × (D_Wheel × (D_Wheel × (Int × Unit))))))) → Option ((Unit × (D_Wheel × (D_Wheel × Unit))))) (v : (Unit × (Int × (Int × (D_Wheel × (D_Wheel × (D_Wheel × (Int × Unit)))))))) : Option ((Unit × (D_Wheel × (D_Wheel × Unit)))) :=
  bif (decide (v.2.2.2.2.2.2.1 < (8 : Int))) then
    (iter (spec_l12Without_s7) k ((), v.2.1, v.2.2.1, v.2.2.2.1, v.2.2.2.2.1, v.2.2.2.2.2.1, v.2.2.2.2.2.2.1, ([] : List D_Timer), (0 : Int), ())).bind fun o1 =>
      bif ((decide ((0 : Int) ≤ o1.2.2.2.2.2.2.1)) && (decide (o1.2.2.2.2.2.2.1 < (((List.length o1.2.2.2.2.2.1.2.1) : Nat) : Int)))) then
        bif (decide ((Int.toNat o1.2.2.2.2.2.2.1) < (List.length o1.2.2.2.2.2.1.2.1))) then
          let y2 : (List D_Spoke) := (List.set o1.2.2.2.2.2.1.2.1 (Int.toNat o1.2.2.2.2.2.2.1) o1.2.2.2.2.2.2.2)
          rec ((), o1.2.1, o1.2.2.1, o1.2.2.2.1, o1.2.2.2.2.1, (o1.2.2.2.2.2.1.1, y2, ()), (IntKind.wrap .i64 (o1.2.2.2.2.2.2.1 + (1 : Int))), ())
        else none
      else none
  else
    some ((), v.2.2.2.2.1, v.2.2.2.2.2.1, ())
def spec_l12Without (k : Nat) (x0 : D_Wheel) (x1 : Int) (x2 : Int) (x3 : Int) : Option ((D_Wheel × Unit) × Unit) :=
  (iter (spec_l12Without_s3 k) k ((), x2, x3, x0, ((0 : Int), ([] : List D_Spoke), ()), (x1, ([(([] : List D_Timer), ()), (([] : List D_Timer), ()), (([] : List D_Timer), ()), (([] : List D_Timer), ()), (([] : List D_Timer), ()), (([] : List D_Timer), ()), (([] : List D_Timer), ()), (([] : List D_Timer), ())] : List D_Spoke), ()), (0 : Int), ())).bind fun o1 =>
    some (o1.2.2, ())
def spec_WheelRun_s10 (rec : (Unit × (Int × (D_Wheel × (D_Wheel × ((List D_Timer) × ((List D_Timer) × (D_Wheel × D_Timer))))))) → Option ((Unit × (Int × (D_Wheel × (D_Wheel × ((List D_Timer) × ((List D_Timer) × (D_Wheel × (Int × Unit)))))))))) (v : (Unit × (Int × (D_Wheel × (D_Wheel × ((List D_Timer) × ((List D_Timer) × (D_Wheel × D_Timer)))))))) : Option ((Unit × (Int × (D_Wheel × (D_Wheel × ((List D_Timer) × ((List D_Timer) × (D_Wheel × (Int × Unit))))))))) :=
  bif (decide (v.2.2.2.2.2.2.2.2.1 < (((List.length v.2.2.2.2.1) : Nat) : Int))) then
    bif ((decide ((0 : Int) ≤ v.2.2.2.2.2.2.2.2.1)) && (decide (v.2.2.2.2.2.2.2.2.1 < (((List.length v.2.2.2.2.1) : Nat) : Int)))) then
      bif (decide ((Int.toNat v.2.2.2.2.2.2.2.2.1) < (List.length v.2.2.2.2.1))) then
        bif (decide ((List.getD v.2.2.2.2.1 (Int.toNat v.2.2.2.2.2.2.2.2.1) z_Timer).2.1 = v.2.2.2.2.2.2.2.1)) then
          bif ((decide ((0 : Int) ≤ v.2.2.2.2.2.2.2.2.1)) && (decide (v.2.2.2.2.2.2.2.2.1 < (((List.length v.2.2.2.2.1) : Nat) : Int)))) then
            bif (decide ((Int.toNat v.2.2.2.2.2.2.2.2.1) < (List.length v.2.2.2.2.1))) then
              bif (decide ((((List.length v.2.2.2.2.2.1) + (1 : Nat)) * 16) ≤ (1099511627776 : Nat))) then
                rec ((), v.2.1, v.2.2.1, v.2.2.2.1, v.2.2.2.2.1, (v.2.2.2.2.2.1 ++ ([(List.getD v.2.2.2.2.1 (Int.toNat v.2.2.2.2.2.2.2.2.1) z_Timer)] : List D_Timer)), v.2.2.2.2.2.2.1, v.2.2.2.2.2.2.2.1, (IntKind.wrap .i64 (v.2.2.2.2.2.2.2.2.1 + (1 : Int))), ())
              else none
            else none
          else none
        else
          rec ((), v.2.1, v.2.2.1, v.2.2.2.1, v.2.2.2.2.1, v.2.2.2.2.2.1, v.2.2.2.2.2.2.1, v.2.2.2.2.2.2.2.1, (IntKind.wrap .i64 (v.2.2.2.2.2.2.2.2.1 + (1 : Int))), ())
      else none
    else none
  else
    some ((), v.2.1, v.2.2.1, v.2.2.2.1, v.2.2.2.2.1, v.2.2.2.2.2.1, v.2.2.2.2.2.2.1, v.2.2.2.2.2.2.2.1, ())
def spec_WheelRun_s7 (k : Nat) (rec : (Unit × (Int × (D_Wheel × (D_Wheel × ((List D_Timer) × ((List D_Timer) × (D_Wheel × (Int × Unit)))))))) → Option ((Unit × (D_Wheel × ((List D_Timer) × (D_Wheel × Unit)))))) (v : (Unit × (Int × (D_Wheel × (D_Wheel × ((List D_Timer) × ((List D_Timer) × (D_Wheel × (Int × Unit))))))))) : Option ((Unit × (D_Wheel × ((List D_Timer) × (D_Wheel × Unit))))) :=
  bif (decide (v.2.2.2.2.2.2.2.1 ≤ (IntKind.wrap .i64 (v.2.2.1.1 + v.2.1)))) then
    (iter (spec_WheelRun_s10) k ((), v.2.1, v.2.2.1, v.2.2.2.1, v.2.2.2.2.1, v.2.2.2.2.2.1, v.2.2.2.2.2.2.1, v.2.2.2.2.2.2.2.1, (0 : Int), ())).bind fun o4 =>
      (spec_l12Without k o4.2.2.2.2.2.2.1 o4.2.2.2.2.2.2.2.1 (-1 : Int) o4.2.2.2.2.2.2.2.1).bind fun t5 =>
        rec ((), o4.2.1, o4.2.2.1, o4.2.2.2.1, o4.2.2.2.2.1, o4.2.2.2.2.2.1, t5.1.1, (IntKind.wrap .i64 (o4.2.2.2.2.2.2.2.1 + (1 : Int))), ())
  else
    some ((), v.2.2.2.1, v.2.2.2.2.2.1, v.2.2.2.2.2.2.1, ())
def spec_WheelRun (k : Nat) (x0 : D_Wheel) (x1 : Int) : Option ((D_Wheel × D_Spoke) × Unit) :=
  (spec_WheelOk k x0).bind fun t1 =>
    bif (!(!t1.1.1)) then
      bif (!(decide (x1 < (0 : Int)))) then
        bif (!(decide ((1000 : Int) < x1))) then
          bif (decide ((1000000000000 : Int) < (IntKind.wrap .i64 (x0.1 + x1)))) then
            some ((((0 : Int), ([] : List D_Spoke), ()), ([] : List D_Timer), ()), ())
          else
            (spec_l12All k x0).bind fun t2 =>
              (spec_l12Without k x0 x0.1 (-1 : Int) (-1 : Int)).bind fun t3 =>
                (iter (spec_WheelRun_s7 k) k ((), x1, x0, ((0 : Int), ([] : List D_Spoke), ()), t2.1.1, ([] : List D_Timer), t3.1.1, (IntKind.wrap .i64 (x0.1 + (1 : Int))), ())).bind fun o4 =>
                  some ((o4.2.2.2.1, o4.2.2.1, ()), ())
        else
          some ((((0 : Int), ([] : List D_Spoke), ()), ([] : List D_Timer), ()), ())
      else
        some ((((0 : Int), ([] : List D_Spoke), ()), ([] : List D_Timer), ()), ())
    else
      some ((((0 : Int), ([] : List D_Spoke), ()), ([] : List D_Timer), ()), ())
def impl_within (x0 : Int) (x1 : Int) (x2 : Int) : Option ((Bool × Unit) × Unit) :=
  bif (decide (x1 ≤ x0)) then
    some (((decide (x0 ≤ x2)), ()), ())
  else
    some ((false, ()), ())
def impl_isNow (x0 : Int) : Option ((Bool × Unit) × Unit) :=
  (impl_within x0 (0 : Int) (1000000000000 : Int)).bind fun t1 =>
    some (t1.1, ())
def impl_Wheel_isAhead (x0 : D_Wheel) (x1 : Int) : Option ((Bool × Unit) × Unit) :=
  (impl_within x1 (IntKind.wrap .i64 (x0.1 + (1 : Int))) (IntKind.wrap .i64 (x0.1 + (1000 : Int)))).bind fun t1 =>
    some (t1.1, ())
def impl_WheelOk_s8 (rec : (Unit × (D_Wheel × ((List (Int × Bool)) × (Int × ((List D_Spoke) × (Int × (Int × ((List D_Timer) × D_Timer)))))))) → Option ((Unit × (Bool × Unit)) ⊕ (Unit × (D_Wheel × ((List (Int × Bool)) × ((List D_Spoke) × D_Timer)))))) (v : (Unit × (D_Wheel × ((List (Int × Bool)) × (Int × ((List D_Spoke) × (Int × (Int × ((List D_Timer) × D_Timer))))))))) : Option ((Unit × (Bool × Unit)) ⊕ (Unit × (D_Wheel × ((List (Int × Bool)) × ((List D_Spoke) × D_Timer))))) :=
  bif (decide (v.2.2.2.2.2.2.2.2.2.1 < v.2.2.2.2.2.2.2.2.1)) then
    bif ((decide ((0 : Int) ≤ v.2.2.2.2.2.2.2.2.2.1)) && (decide (v.2.2.2.2.2.2.2.2.2.1 < (((List.length v.2.2.2.2.2.2.2.1) : Nat) : Int)))) then
      bif (decide ((Int.toNat v.2.2.2.2.2.2.2.2.2.1) < (List.length v.2.2.2.2.2.2.2.1))) then
        (impl_within (List.getD v.2.2.2.2.2.2.2.1 (Int.toNat v.2.2.2.2.2.2.2.2.2.1) z_Timer).1 (0 : Int) (9999 : Int)).bind fun t2 =>
          bif (!(!t2.1.1)) then
            bif (!(mget v.2.2.1 (List.getD v.2.2.2.2.2.2.2.1 (Int.toNat v.2.2.2.2.2.2.2.2.2.1) z_Timer).1)) then
              (impl_Wheel_isAhead v.2.1 (List.getD v.2.2.2.2.2.2.2.1 (Int.toNat v.2.2.2.2.2.2.2.2.2.1) z_Timer).2.1).bind fun t3 =>
                bif (!(!t3.1.1)) then
                  bif (!(decide ((Int.tmod (List.getD v.2.2.2.2.2.2.2.1 (Int.toNat v.2.2.2.2.2.2.2.2.2.1) z_Timer).2.1 (8 : Int)) = v.2.2.2.1))) then
                    some (Sum.inl ((), false, ()))
                  else
                    rec ((), v.2.1, (mset v.2.2.1 (List.getD v.2.2.2.2.2.2.2.1 (Int.toNat v.2.2.2.2.2.2.2.2.2.1) z_Timer).1 true), v.2.2.2.1, v.2.2.2.2.1, v.2.2.2.2.2.1, v.2.2.2.2.2.2.1, v.2.2.2.2.2.2.2.1, v.2.2.2.2.2.2.2.2.1, (IntKind.wrap .i64 (v.2.2.2.2.2.2.2.2.2.1 + (1 : Int))), ())
                else
                  some (Sum.inl ((), false, ()))
            else
              some (Sum.inl ((), false, ()))
          else
            some (Sum.inl ((), false, ()))
      else none
    else none
  else
    some (Sum.inr ((), v.2.1, v.2.2.1, v.2.2.2.2.1, v.2.2.2.2.2.1, v.2.2.2.2.2.2.1, ()))
def impl_WheelOk_s5 (k : Nat) (rec : (Unit × (D_Wheel × ((List (Int × Bool)) × ((List D_Spoke) × D_Timer)))) → Option ((Unit × (Bool × Unit)) ⊕ (Unit × ((List (Int × Bool)) × Unit)))) (v : (Unit × (D_Wheel × ((List (Int × Bool)) × ((List D_Spoke) × D_Timer))))) : Option ((Unit × (Bool × Unit)) ⊕ (Unit × ((List (Int × Bool)) × Unit))) :=
  bif (decide (v.2.2.2.2.2.1 < v.2.2.2.2.1)) then
    bif ((decide ((0 : Int) ≤ v.2.2.2.2.2.1)) && (decide (v.2.2.2.2.2.1 < (((List.length v.2.2.2.1) : Nat) : Int)))) then
      bif (decide ((Int.toNat v.2.2.2.2.2.1) < (List.length v.2.2.2.1))) then
        (iter (impl_WheelOk_s8) k ((), v.2.1, v.2.2.1, v.2.2.2.2.2.1, v.2.2.2.1, v.2.2.2.2.1, v.2.2.2.2.2.1, (List.getD v.2.2.2.1 (Int.toNat v.2.2.2.2.2.1) z_Spoke).1, (((List.length (List.getD v.2.2.2.1 (Int.toNat v.2.2.2.2.2.1) z_Spoke).1) : Nat) : Int), (0 : Int), ())).bind fun o2 =>
          Sum.elim (fun a3 =>
            some (Sum.inl ((), a3.2)))
          (fun b4 =>
            rec ((), b4.2.1, b4.2.2.1, b4.2.2.2.1, b4.2.2.2.2.1, (IntKind.wrap .i64 (b4.2.2.2.2.2.1 + (1 : Int))), ())) o2
      else none
    else none
  else
    some (Sum.inr ((), v.2.2.1, ()))
def impl_WheelOk (k : Nat) (x0 : D_Wheel) : Option ((Bool × Unit) × Unit) :=
  (impl_isNow x0.1).bind fun t1 =>
    bif (!(!t1.1.1)) then
      bif (!(decide ((((List.length x0.2.1) : Nat) : Int) = (8 : Int)))) then
        some ((false, ()), ())
      else
        (iter (impl_WheelOk_s5 k) k ((), x0, ([] : List (Int × Bool)), x0.2.1, (((List.length x0.2.1) : Nat) : Int), (0 : Int), ())).bind fun o2 =>
          Sum.elim (fun a3 =>
            some (a3.2, ()))
          (fun b4 =>
            some (((decide ((((List.length b4.2.1) : Nat) : Int) ≤ (64 : Int))), ()), ())) o2
    else
      some ((false, ()), ())
def slices_Clone_impl_Timer_impl_Timer (x0 : (List D_Timer)) : Option (((List D_Timer) × Unit) × Unit) :=
  bif (decide (((0 : Nat) + (List.length x0)) * 16 ≤ (1099511627776 : Nat))) then some ((x0, ()), ()) else none
def impl_WheelRun_1 (x0 : D_Timer) : Option ((Bool × Unit) × Unit) :=
  some ((false, ()), ())
def impl_Wheel_tick_1 (x0 : D_Timer) (x1 : Int) : Option ((Bool × Unit) × Unit) :=
  some (((decide (x0.2.1 = x1)), ()), ())
def slices_IndexFunc_impl_Timer_impl_Timer_s2 (rec : (Unit × ((List D_Timer) × ((Int × Unit) × D_Timer))) → Option ((Unit × (Int × Unit)) ⊕ (Unit × Unit))) (v : (Unit × ((List D_Timer) × ((Int × Unit) × D_Timer)))) : Option ((Unit × (Int × Unit)) ⊕ (Unit × Unit)) :=
  bif (decide (v.2.2.2.2.1 < v.2.2.2.1)) then
    bif ((decide ((0 : Int) ≤ v.2.2.2.2.1)) && (decide (v.2.2.2.2.1 < (((List.length v.2.1) : Nat) : Int)))) then
      bif (decide ((Int.toNat v.2.2.2.2.1) < (List.length v.2.1))) then
        (impl_Wheel_tick_1 (List.getD v.2.1 (Int.toNat v.2.2.2.2.1) z_Timer) v.2.2.1.1).bind fun t1 =>
          bif t1.1.1 then
            some (Sum.inl ((), v.2.2.2.2))
          else
            rec ((), v.2.1, (v.2.2.1.1, ()), v.2.2.2.1, (IntKind.wrap .i64 (v.2.2.2.2.1 + (1 : Int))), ())
      else none
    else none
  else
    some (Sum.inr ((), ()))
def slices_IndexFunc_impl_Timer_impl_Timer (k : Nat) (x0 : (List D_Timer)) (x1 : (Int × Unit)) : Option ((Int × Unit) × Unit) :=
  (iter (slices_IndexFunc_impl_Timer_impl_Timer_s2) k ((), x0, (x1.1, ()), (((List.length x0) : Nat) : Int), (0 : Int), ())).bind fun o1 =>
    Sum.elim (fun a2 =>
      some (a2.2, ()))
    (fun b3 =>
      some (((-1 : Int), ()), ())) o1
def slices_DeleteFunc_impl_Timer_impl_Timer_s5 (rec : (Unit × ((List D_Timer) × ((Int × Unit) × D_Timer))) → Option ((Unit × ((List D_Timer) × (Int × Unit))))) (v : (Unit × ((List D_Timer) × ((Int × Unit) × D_Timer)))) : Option ((Unit × ((List D_Timer) × (Int × Unit)))) :=
  bif (decide (v.2.2.2.2.1 < (((List.length v.2.1) : Nat) : Int))) then
    bif ((decide ((0 : Int) ≤ v.2.2.2.2.1)) && (decide (v.2.2.2.2.1 < (((List.length v.2.1) : Nat) : Int)))) then
      bif (decide ((Int.toNat v.2.2.2.2.1) < (List.length v.2.1))) then
        (impl_Wheel_tick_1 (List.getD v.2.1 (Int.toNat v.2.2.2.2.1) z_Timer) v.2.2.1.1).bind fun t2 =>
          bif (!t2.1.1) then
            bif ((decide ((0 : Int) ≤ v.2.2.2.1)) && (decide (v.2.2.2.1 < (((List.length v.2.1) : Nat) : Int)))) then
              bif (decide ((Int.toNat v.2.2.2.1) < (List.length v.2.1))) then
                let y3 : (List D_Timer) := (List.set v.2.1 (Int.toNat v.2.2.2.1) (List.getD v.2.1 (Int.toNat v.2.2.2.2.1) z_Timer))
                rec ((), y3, (v.2.2.1.1, ()), (IntKind.wrap .i64 (v.2.2.2.1 + (1 : Int))), (IntKind.wrap .i64 (v.2.2.2.2.1 + (1 : Int))), ())
              else none
            else none
          else
            rec ((), v.2.1, (v.2.2.1.1, ()), v.2.2.2.1, (IntKind.wrap .i64 (v.2.2.2.2.1 + (1 : Int))), ())
      else none
    else none
  else
    some ((), v.2.1, v.2.2.2.1, ())
def slices_DeleteFunc_impl_Timer_impl_Timer (k : Nat) (x0 : (List D_Timer)) (x1 : (Int × Unit)) : Option (D_Spoke × D_Spoke) :=
  (slices_IndexFunc_impl_Timer_impl_Timer k x0 (x1.1, ())).bind fun t1 =>
    bif (decide (t1.1.1 = (-1 : Int))) then
      some ((x0, ()), ([] : List D_Timer), ())
    else
      (iter (slices_DeleteFunc_impl_Timer_impl_Timer_s5) k ((), x0, (x1.1, ()), t1.1.1, (IntKind.wrap .i64 (t1.1.1 + (1 : Int))), ())).bind fun o2 =>
        bif (((decide ((0 : Int) ≤ o2.2.2.1)) && (decide (o2.2.2.1 ≤ (((List.length o2.2.1) : Nat) : Int)))) && (decide ((((List.length o2.2.1) : Nat) : Int) ≤ (((List.length o2.2.1) : Nat) : Int)))) then
          bif ((decide ((0 : Int) ≤ o2.2.2.1)) && (decide (o2.2.2.1 ≤ (((List.length (clr ((0 : Int), (0 : Int), ()) (Int.toNat o2.2.2.1) ((List.length o2.2.1) - (Int.toNat o2.2.2.1)) o2.2.1)) : Nat) : Int)))) then
            some (((List.take (Int.toNat o2.2.2.1) (clr ((0 : Int), (0 : Int), ()) (Int.toNat o2.2.2.1) ((List.length o2.2.1) - (Int.toNat o2.2.2.1)) o2.2.1)), ()), ([] : List D_Timer), ())
          else none
        else none
def impl_copyWheel_s3 (k : Nat) (rec : (Unit × ((Int × Unit) × (D_Wheel × (D_Wheel × ((List D_Spoke) × ((List D_Spoke) × D_Timer)))))) → Option ((Unit × (D_Wheel × (D_Wheel × ((List D_Spoke) × Unit)))))) (v : (Unit × ((Int × Unit) × (D_Wheel × (D_Wheel × ((List D_Spoke) × ((List D_Spoke) × D_Timer))))))) : Option ((Unit × (D_Wheel × (D_Wheel × ((List D_Spoke) × Unit))))) :=
  bif (decide (v.2.2.2.2.2.2.2.1 < v.2.2.2.2.2.2.1)) then
    bif ((decide ((0 : Int) ≤ v.2.2.2.2.2.2.2.1)) && (decide (v.2.2.2.2.2.2.2.1 < (((List.length v.2.2.2.2.2.1) : Nat) : Int)))) then
      bif (decide ((Int.toNat v.2.2.2.2.2.2.2.1) < (List.length v.2.2.2.2.2.1))) then
        (slices_Clone_impl_Timer_impl_Timer (List.getD v.2.2.2.2.2.1 (Int.toNat v.2.2.2.2.2.2.2.1) z_Spoke).1).bind fun t1 =>
          (slices_DeleteFunc_impl_Timer_impl_Timer k t1.1.1 (v.2.1.1, ())).bind fun t2 =>
            bif (decide ((((List.length v.2.2.2.2.1) + (1 : Nat)) * 24) ≤ (1099511627776 : Nat))) then
              rec ((), (v.2.1.1, ()), v.2.2.1, v.2.2.2.1, (v.2.2.2.2.1 ++ ([t2.1] : List D_Spoke)), v.2.2.2.2.2.1, v.2.2.2.2.2.2.1, (IntKind.wrap .i64 (v.2.2.2.2.2.2.2.1 + (1 : Int))), ())
            else none
      else none
    else none
  else
    some ((), v.2.2.1, v.2.2.2.1, v.2.2.2.2.1, ())
def impl_copyWheel (k : Nat) (x0 : D_Wheel) (x1 : (Int × Unit)) : Option ((D_Wheel × Unit) × Unit) :=
  (iter (impl_copyWheel_s3 k) k ((), (x1.1, ()), x0, ((0 : Int), ([] : List D_Spoke), ()), ([] : List D_Spoke), x0.2.1, (((List.length x0.2.1) : Nat) : Int), (0 : Int), ())).bind fun o1 =>
    some (((o1.2.1.1, o1.2.2.2), ()), ())
def impl_Wheel_tick_s3 (rec : (Unit × (D_Wheel × (D_Wheel × (Int × ((List D_Timer) × ((List D_Timer) × D_Timer)))))) → Option ((Unit × (D_Wheel × (D_Wheel × (Int × D_Spoke)))))) (v : (Unit × (D_Wheel × (D_Wheel × (Int × ((List D_Timer) × ((List D_Timer) × D_Timer))))))) : Option ((Unit × (D_Wheel × (D_Wheel × (Int × D_Spoke))))) :=
  bif (decide (v.2.2.2.2.2.2.2.1 < v.2.2.2.2.2.2.1)) then
    bif ((decide ((0 : Int) ≤ v.2.2.2.2.2.2.2.1)) && (decide (v.2.2.2.2.2.2.2.1 < (((List.length v.2.2.2.2.2.1) : Nat) : Int)))) then
      bif (decide ((Int.toNat v.2.2.2.2.2.2.2.1) < (List.length v.2.2.2.2.2.1))) then
        bif (decide ((List.getD v.2.2.2.2.2.1 (Int.toNat v.2.2.2.2.2.2.2.1) z_Timer).2.1 = v.2.2.2.1)) then
          bif (decide ((((List.length v.2.2.2.2.1) + (1 : Nat)) * 16) ≤ (1099511627776 : Nat))) then
            rec ((), v.2.1, v.2.2.1, v.2.2.2.1, (v.2.2.2.2.1 ++ ([(List.getD v.2.2.2.2.2.1 (Int.toNat v.2.2.2.2.2.2.2.1) z_Timer)] : List D_Timer)), v.2.2.2.2.2.1, v.2.2.2.2.2.2.1, (IntKind.wrap .i64 (v.2.2.2.2.2.2.2.1 + (1 : Int))), ())
          else none
        else
          rec ((), v.2.1, v.2.2.1, v.2.2.2.1, v.2.2.2.2.1, v.2.2.2.2.2.1, v.2.2.2.2.2.2.1, (IntKind.wrap .i64 (v.2.2.2.2.2.2.2.1 + (1 : Int))), ())
      else none
    else none
  else
    some ((), v.2.1, v.2.2.1, v.2.2.2.1, v.2.2.2.2.1, ())
def impl_Wheel_tick (k : Nat) (x0 : D_Wheel) : Option ((D_Wheel × D_Spoke) × Unit) :=
  bif ((decide ((0 : Int) ≤ (Int.tmod (IntKind.wrap .i64 (x0.1 + (1 : Int))) (8 : Int)))) && (decide ((Int.tmod (IntKind.wrap .i64 (x0.1 + (1 : Int))) (8 : Int)) < (((List.length x0.2.1) : Nat) : Int)))) then
    bif (decide ((Int.toNat (Int.tmod (IntKind.wrap .i64 (x0.1 + (1 : Int))) (8 : Int))) < (List.length x0.2.1))) then
      (iter (impl_Wheel_tick_s3) k ((), x0, ((0 : Int), ([] : List D_Spoke), ()), (IntKind.wrap .i64 (x0.1 + (1 : Int))), ([] : List D_Timer), (List.getD x0.2.1 (Int.toNat (Int.tmod (IntKind.wrap .i64 (x0.1 + (1 : Int))) (8 : Int))) z_Spoke).1, (((List.length (List.getD x0.2.1 (Int.toNat (Int.tmod (IntKind.wrap .i64 (x0.1 + (1 : Int))) (8 : Int))) z_Spoke).1) : Nat) : Int), (0 : Int), ())).bind fun o1 =>
        (impl_copyWheel k o1.2.1 (o1.2.2.2.1, ())).bind fun t2 =>
          some (((o1.2.2.2.1, t2.1.1.2), o1.2.2.2.2), ())
    else none
  else none
def slices_IndexFunc_impl_Timer_impl_Timer_1_s2 (rec : (Unit × ((List D_Timer) × (Unit × D_Timer))) → Option ((Unit × (Int × Unit)) ⊕ (Unit × Unit))) (v : (Unit × ((List D_Timer) × (Unit × D_Timer)))) : Option ((Unit × (Int × Unit)) ⊕ (Unit × Unit)) :=
  bif (decide (v.2.2.2.2.1 < v.2.2.2.1)) then
    bif ((decide ((0 : Int) ≤ v.2.2.2.2.1)) && (decide (v.2.2.2.2.1 < (((List.length v.2.1) : Nat) : Int)))) then
      bif (decide ((Int.toNat v.2.2.2.2.1) < (List.length v.2.1))) then
        (impl_WheelRun_1 (List.getD v.2.1 (Int.toNat v.2.2.2.2.1) z_Timer)).bind fun t1 =>
          bif t1.1.1 then
            some (Sum.inl ((), v.2.2.2.2))
          else
            rec ((), v.2.1, (), v.2.2.2.1, (IntKind.wrap .i64 (v.2.2.2.2.1 + (1 : Int))), ())
      else none
    else none
  else
    some (Sum.inr ((), ()))
def slices_IndexFunc_impl_Timer_impl_Timer_1 (k : Nat) (x0 : (List D_Timer)) (x1 : Unit) : Option ((Int × Unit) × Unit) :=
  (iter (slices_IndexFunc_impl_Timer_impl_Timer_1_s2) k ((), x0, (), (((List.length x0) : Nat) : Int), (0 : Int), ())).bind fun o1 =>
    Sum.elim (fun a2 =>
      some (a2.2, ()))
    (fun b3 =>
      some (((-1 : Int), ()), ())) o1
def slices_DeleteFunc_impl_Timer_impl_Timer_1_s5 (rec : (Unit × ((List D_Timer) × (Unit × D_Timer))) → Option ((Unit × ((List D_Timer) × (Int × Unit))))) (v : (Unit × ((List D_Timer) × (Unit × D_Timer)))) : Option ((Unit × ((List D_Timer) × (Int × Unit)))) :=
  bif (decide (v.2.2.2.2.1 < (((List.length v.2.1) : Nat) : Int))) then
    bif ((decide ((0 : Int) ≤ v.2.2.2.2.1)) && (decide (v.2.2.2.2.1 < (((List.length v.2.1) : Nat) : Int)))) then
      bif (decide ((Int.toNat v.2.2.2.2.1) < (List.length v.2.1))) then
        (impl_WheelRun_1 (List.getD v.2.1 (Int.toNat v.2.2.2.2.1) z_Timer)).bind fun t2 =>
          bif (!t2.1.1) then
            bif ((decide ((0 : Int) ≤ v.2.2.2.1)) && (decide (v.2.2.2.1 < (((List.length v.2.1) : Nat) : Int)))) then
              bif (decide ((Int.toNat v.2.2.2.1) < (List.length v.2.1))) then
                let y3 : (List D_Timer) := (List.set v.2.1 (Int.toNat v.2.2.2.1) (List.getD v.2.1 (Int.toNat v.2.2.2.2.1) z_Timer))
                rec ((), y3, (), (IntKind.wrap .i64 (v.2.2.2.1 + (1 : Int))), (IntKind.wrap .i64 (v.2.2.2.2.1 + (1 : Int))), ())
              else none
            else none
          else
            rec ((), v.2.1, (), v.2.2.2.1, (IntKind.wrap .i64 (v.2.2.2.2.1 + (1 : Int))), ())
      else none
    else none
  else
    some ((), v.2.1, v.2.2.2.1, ())
def slices_DeleteFunc_impl_Timer_impl_Timer_1 (k : Nat) (x0 : (List D_Timer)) (x1 : Unit) : Option (D_Spoke × D_Spoke) :=
  (slices_IndexFunc_impl_Timer_impl_Timer_1 k x0 ()).bind fun t1 =>
    bif (decide (t1.1.1 = (-1 : Int))) then
      some ((x0, ()), ([] : List D_Timer), ())
    else
      (iter (slices_DeleteFunc_impl_Timer_impl_Timer_1_s5) k ((), x0, (), t1.1.1, (IntKind.wrap .i64 (t1.1.1 + (1 : Int))), ())).bind fun o2 =>
        bif (((decide ((0 : Int) ≤ o2.2.2.1)) && (decide (o2.2.2.1 ≤ (((List.length o2.2.1) : Nat) : Int)))) && (decide ((((List.length o2.2.1) : Nat) : Int) ≤ (((List.length o2.2.1) : Nat) : Int)))) then
          bif ((decide ((0 : Int) ≤ o2.2.2.1)) && (decide (o2.2.2.1 ≤ (((List.length (clr ((0 : Int), (0 : Int), ()) (Int.toNat o2.2.2.1) ((List.length o2.2.1) - (Int.toNat o2.2.2.1)) o2.2.1)) : Nat) : Int)))) then
            some (((List.take (Int.toNat o2.2.2.1) (clr ((0 : Int), (0 : Int), ()) (Int.toNat o2.2.2.1) ((List.length o2.2.1) - (Int.toNat o2.2.2.1)) o2.2.1)), ()), ([] : List D_Timer), ())
          else none
        else none
def impl_copyWheel_1_s3 (k : Nat) (rec : (Unit × (Unit × (D_Wheel × (D_Wheel × ((List D_Spoke) × ((List D_Spoke) × D_Timer)))))) → Option ((Unit × (D_Wheel × (D_Wheel × ((List D_Spoke) × Unit)))))) (v : (Unit × (Unit × (D_Wheel × (D_Wheel × ((List D_Spoke) × ((List D_Spoke) × D_Timer))))))) : Option ((Unit × (D_Wheel × (D_Wheel × ((List D_Spoke) × Unit))))) :=
  bif (decide (v.2.2.2.2.2.2.2.1 < v.2.2.2.2.2.2.1)) then
    bif ((decide ((0 : Int) ≤ v.2.2.2.2.2.2.2.1)) && (decide (v.2.2.2.2.2.2.2.1 < (((List.length v.2.2.2.2.2.1) : Nat) : Int)))) then
      bif (decide ((Int.toNat v.2.2.2.2.2.2.2.1) < (List.length v.2.2.2.2.2.1))) then
        (slices_Clone_impl_Timer_impl_Timer (List.getD v.2.2.2.2.2.1 (Int.toNat v.2.2.2.2.2.2.2.1) z_Spoke).1).bind fun t1 =>
          (slices_DeleteFunc_impl_Timer_impl_Timer_1 k t1.1.1 ()).bind fun t2 =>
            bif (decide ((((List.length v.2.2.2.2.1) + (1 : Nat)) * 24) ≤ (1099511627776 : Nat))) then
              rec ((), (), v.2.2.1, v.2.2.2.1, (v.2.2.2.2.1 ++ ([t2.1] : List D_Spoke)), v.2.2.2.2.2.1, v.2.2.2.2.2.2.1, (IntKind.wrap .i64 (v.2.2.2.2.2.2.2.1 + (1 : Int))), ())
            else none
      else none
    else none
  else
    some ((), v.2.2.1, v.2.2.2.1, v.2.2.2.2.1, ())
def impl_copyWheel_1 (k : Nat) (x0 : D_Wheel) (x1 : Unit) : Option ((D_Wheel × Unit) × Unit) :=
  (iter (impl_copyWheel_1_s3 k) k ((), (), x0, ((0 : Int), ([] : List D_Spoke), ()), ([] : List D_Spoke), x0.2.1, (((List.length x0.2.1) : Nat) : Int), (0 : Int), ())).bind fun o1 =>
    some (((o1.2.1.1, o1.2.2.2), ()), ())
def impl_WheelRun_s5 (k : Nat) (rec : (Unit × (D_Wheel × (D_Wheel × ((List D_Timer) × D_Timer)))) → Option ((Unit × (D_Wheel × (D_Wheel × D_Spoke))))) (v : (Unit × (D_Wheel × (D_Wheel × ((List D_Timer) × D_Timer))))) : Option ((Unit × (D_Wheel × (D_Wheel × D_Spoke)))) :=
  bif (decide (v.2.2.2.2.2.1 < v.2.2.2.2.1)) then
    (impl_Wheel_tick k v.2.2.1).bind fun t4 =>
      bif (decide ((((List.length v.2.2.2.1) + (List.length t4.1.2.1)) * 16) ≤ (1099511627776 : Nat))) then
        rec ((), v.2.1, t4.1.1, (v.2.2.2.1 ++ t4.1.2.1), v.2.2.2.2.1, (IntKind.wrap .i64 (v.2.2.2.2.2.1 + (1 : Int))), ())
      else none
  else
    some ((), v.2.1, v.2.2.1, v.2.2.2.1, ())
def impl_WheelRun (k : Nat) (x0 : D_Wheel) (x1 : Int) : Option ((D_Wheel × D_Spoke) × Unit) :=
  (impl_WheelOk k x0).bind fun t1 =>
    bif (!(!t1.1.1)) then
      (impl_within x1 (0 : Int) (1000 : Int)).bind fun t2 =>
        bif (!(!t2.1.1)) then
          bif (decide ((1000000000000 : Int) < (IntKind.wrap .i64 (x0.1 + x1)))) then
            some ((((0 : Int), ([] : List D_Spoke), ()), ([] : List D_Timer), ()), ())
          else
            (impl_copyWheel_1 k x0 ()).bind fun t3 =>
              (iter (impl_WheelRun_s5 k) k ((), ((0 : Int), ([] : List D_Spoke), ()), t3.1.1, ([] : List D_Timer), x1, (0 : Int), ())).bind fun o4 =>
                some (o4.2.2, ())
        else
          some ((((0 : Int), ([] : List D_Spoke), ()), ([] : List D_Timer), ()), ())
    else
      some ((((0 : Int), ([] : List D_Spoke), ()), ([] : List D_Timer), ()), ())
def laws_eqTimer (x0 : D_Timer) (x1 : D_Timer) : Option ((Bool × Unit) × Unit) :=
  bif (!(decide (x0.1 = x1.1))) then
    some ((false, ()), ())
  else
    bif (!(decide (x0.2.1 = x1.2.1))) then
      some ((false, ()), ())
    else
      some ((true, ()), ())
def laws_eqTimerS_s4 (rec : (Unit × ((List D_Timer) × ((List D_Timer) × (Int × Unit)))) → Option ((Unit × (Bool × Unit)) ⊕ (Unit × Unit))) (v : (Unit × ((List D_Timer) × ((List D_Timer) × (Int × Unit))))) : Option ((Unit × (Bool × Unit)) ⊕ (Unit × Unit)) :=
  bif (decide (v.2.2.2.1 < (((List.length v.2.1) : Nat) : Int))) then
    bif ((decide ((0 : Int) ≤ v.2.2.2.1)) && (decide (v.2.2.2.1 < (((List.length v.2.1) : Nat) : Int)))) then
      bif (decide ((Int.toNat v.2.2.2.1) < (List.length v.2.1))) then
        bif ((decide ((0 : Int) ≤ v.2.2.2.1)) && (decide (v.2.2.2.1 < (((List.length v.2.2.1) : Nat) : Int)))) then
          bif (decide ((Int.toNat v.2.2.2.1) < (List.length v.2.2.1))) then
            (laws_eqTimer (List.getD v.2.1 (Int.toNat v.2.2.2.1) z_Timer) (List.getD v.2.2.1 (Int.toNat v.2.2.2.1) z_Timer)).bind fun t1 =>
              bif (!t1.1.1) then
                some (Sum.inl ((), false, ()))
              else
                rec ((), v.2.1, v.2.2.1, (IntKind.wrap .i64 (v.2.2.2.1 + (1 : Int))), ())
          else none
        else none
      else none
    else none
  else
    some (Sum.inr ((), ()))
def laws_eqTimerS (k : Nat) (x0 : (List D_Timer)) (x1 : (List D_Timer)) : Option ((Bool × Unit) × Unit) :=
  bif (!(decide ((((List.length x0) : Nat) : Int) = (((List.length x1) : Nat) : Int)))) then
    some ((false, ()), ())
  else
    (iter (laws_eqTimerS_s4) k ((), x0, x1, (0 : Int), ())).bind fun o1 =>
      Sum.elim (fun a2 =>
        some (a2.2, ()))
      (fun b3 =>
        some ((true, ()), ())) o1
def laws_eqSpoke (k : Nat) (x0 : D_Spoke) (x1 : D_Spoke) : Option ((Bool × Unit) × Unit) :=
  (laws_eqTimerS k x0.1 x1.1).bind fun t1 =>
    bif (!t1.1.1) then
      some ((false, ()), ())
    else
      some ((true, ()), ())
def laws_eqSpokeS_s4 (k : Nat) (rec : (Unit × ((List D_Spoke) × ((List D_Spoke) × (Int × Unit)))) → Option ((Unit × (Bool × Unit)) ⊕ (Unit × Unit))) (v : (Unit × ((List D_Spoke) × ((List D_Spoke) × (Int × Unit))))) : Option ((Unit × (Bool × Unit)) ⊕ (Unit × Unit)) :=
  bif (decide (v.2.2.2.1 < (((List.length v.2.1) : Nat) : Int))) then
    bif ((decide ((0 : Int) ≤ v.2.2.2.1)) && (decide (v.2.2.2.1 < (((List.length v.2.1) : Nat) : Int)))) then
      bif (decide ((Int.toNat v.2.2.2.1) < (List.length v.2.1))) then
        bif ((decide ((0 : Int) ≤ v.2.2.2.1)) && (decide (v.2.2.2.1 < (((List.length v.2.2.1) : Nat) : Int)))) then
          bif (decide ((Int.toNat v.2.2.2.1) < (List.length v.2.2.1))) then
            (laws_eqSpoke k (List.getD v.2.1 (Int.toNat v.2.2.2.1) z_Spoke) (List.getD v.2.2.1 (Int.toNat v.2.2.2.1) z_Spoke)).bind fun t1 =>
              bif (!t1.1.1) then
                some (Sum.inl ((), false, ()))
              else
                rec ((), v.2.1, v.2.2.1, (IntKind.wrap .i64 (v.2.2.2.1 + (1 : Int))), ())
          else none
        else none
      else none
    else none
  else
    some (Sum.inr ((), ()))
def laws_eqSpokeS (k : Nat) (x0 : (List D_Spoke)) (x1 : (List D_Spoke)) : Option ((Bool × Unit) × Unit) :=
  bif (!(decide ((((List.length x0) : Nat) : Int) = (((List.length x1) : Nat) : Int)))) then
    some ((false, ()), ())
  else
    (iter (laws_eqSpokeS_s4 k) k ((), x0, x1, (0 : Int), ())).bind fun o1 =>
      Sum.elim (fun a2 =>
        some (a2.2, ()))
      (fun b3 =>
        some ((true, ()), ())) o1
def laws_eqWheel (k : Nat) (x0 : D_Wheel) (x1 : D_Wheel) : Option ((Bool × Unit) × Unit) :=
  bif (!(decide (x0.1 = x1.1))) then
    some ((false, ()), ())
  else
    (laws_eqSpokeS k x0.2.1 x1.2.1).bind fun t1 =>
      bif (!t1.1.1) then
        some ((false, ()), ())
      else
        some ((true, ()), ())
def laws_markTimerS_s2 (rec : (D_Spoke × (Unit × D_Timer)) → Option ((D_Spoke × (Int × Unit)))) (v : (D_Spoke × (Unit × D_Timer))) : Option ((D_Spoke × (Int × Unit))) :=
  bif (decide (v.2.2.2.1 < (((List.length v.1.1) : Nat) : Int))) then
    bif ((decide ((0 : Int) ≤ v.2.2.2.1)) && (decide (v.2.2.2.1 < (((List.length v.1.1) : Nat) : Int)))) then
      bif (decide ((Int.toNat v.2.2.2.1) < (List.length v.1.1))) then
        let y1 : (List D_Timer) := (List.set v.1.1 (Int.toNat v.2.2.2.1) (v.2.2.1, (List.getD v.1.1 (Int.toNat v.2.2.2.1) z_Timer).2))
        bif ((decide ((0 : Int) ≤ v.2.2.2.1)) && (decide (v.2.2.2.1 < (((List.length y1) : Nat) : Int)))) then
          bif (decide ((Int.toNat v.2.2.2.1) < (List.length y1))) then
            let y2 : (List D_Timer) := (List.set y1 (Int.toNat v.2.2.2.1) ((List.getD y1 (Int.toNat v.2.2.2.1) z_Timer).1, (IntKind.wrap .i64 (v.2.2.1 + (1 : Int))), ()))
            rec ((y2, ()), (), (IntKind.wrap .i64 ((IntKind.wrap .i64 (v.2.2.1 + (1 : Int))) + (1 : Int))), (IntKind.wrap .i64 (v.2.2.2.1 + (1 : Int))), ())
          else none
        else none
      else none
    else none
  else
    some (v.1, v.2.2.1, ())
def laws_markTimerS (k : Nat) (x0 : (List D_Timer)) (x1 : Int) : Option ((Int × Unit) × D_Spoke) :=
  (iter (laws_markTimerS_s2) k ((x0, ()), (), x1, (0 : Int), ())).bind fun o1 =>
    some (o1.2, o1.1)
def laws_markSpokeS_s2 (k : Nat) (rec : (((List D_Spoke) × Unit) × (Unit × D_Timer)) → Option ((((List D_Spoke) × Unit) × (Int × Unit)))) (v : (((List D_Spoke) × Unit) × (Unit × D_Timer))) : Option ((((List D_Spoke) × Unit) × (Int × Unit))) :=
  bif (decide (v.2.2.2.1 < (((List.length v.1.1) : Nat) : Int))) then
    bif ((decide ((0 : Int) ≤ v.2.2.2.1)) && (decide (v.2.2.2.1 < (((List.length v.1.1) : Nat) : Int)))) then
      bif (decide ((Int.toNat v.2.2.2.1) < (List.length v.1.1))) then
        (laws_markTimerS k (List.getD v.1.1 (Int.toNat v.2.2.2.1) z_Spoke).1 v.2.2.1).bind fun t1 =>
          let y2 : (List D_Spoke) := (List.set v.1.1 (Int.toNat v.2.2.2.1) t1.2)
          rec ((y2, ()), (), t1.1.1, (IntKind.wrap .i64 (v.2.2.2.1 + (1 : Int))), ())
      else none
    else none
  else
    some (v.1, v.2.2.1, ())
def laws_markSpokeS (k : Nat) (x0 : (List D_Spoke)) (x1 : Int) : Option ((Int × Unit) × ((List D_Spoke) × Unit)) :=
  (iter (laws_markSpokeS_s2 k) k ((x0, ()), (), x1, (0 : Int), ())).bind fun o1 =>
    some (o1.2, o1.1)
def laws_heldTimerS_s2 (rec : (Unit × ((List D_Timer) × D_Timer)) → Option ((Unit × (Int × Unit)) ⊕ (Unit × (Int × Unit)))) (v : (Unit × ((List D_Timer) × D_Timer))) : Option ((Unit × (Int × Unit)) ⊕ (Unit × (Int × Unit))) :=
  bif (decide (v.2.2.2.1 < (((List.length v.2.1) : Nat) : Int))) then
    bif ((decide ((0 : Int) ≤ v.2.2.2.1)) && (decide (v.2.2.2.1 < (((List.length v.2.1) : Nat) : Int)))) then
      bif (decide ((Int.toNat v.2.2.2.1) < (List.length v.2.1))) then
        bif (!(decide ((List.getD v.2.1 (Int.toNat v.2.2.2.1) z_Timer).1 = v.2.2.1))) then
          some (Sum.inl ((), (-1 : Int), ()))
        else
          bif ((decide ((0 : Int) ≤ v.2.2.2.1)) && (decide (v.2.2.2.1 < (((List.length v.2.1) : Nat) : Int)))) then
            bif (decide ((Int.toNat v.2.2.2.1) < (List.length v.2.1))) then
              bif (!(decide ((List.getD v.2.1 (Int.toNat v.2.2.2.1) z_Timer).2.1 = (IntKind.wrap .i64 (v.2.2.1 + (1 : Int)))))) then
                some (Sum.inl ((), (-1 : Int), ()))
              else
                rec ((), v.2.1, (IntKind.wrap .i64 ((IntKind.wrap .i64 (v.2.2.1 + (1 : Int))) + (1 : Int))), (IntKind.wrap .i64 (v.2.2.2.1 + (1 : Int))), ())
            else none
          else none
      else none
    else none
  else
    some (Sum.inr ((), v.2.2.1, ()))
def laws_heldTimerS (k : Nat) (x0 : (List D_Timer)) (x1 : Int) : Option ((Int × Unit) × Unit) :=
  (iter (laws_heldTimerS_s2) k ((), x0, x1, (0 : Int), ())).bind fun o1 =>
    Sum.elim (fun a2 =>
      some (a2.2, ()))
    (fun b3 =>
      some (b3.2, ())) o1
def laws_heldSpokeS_s2 (k : Nat) (rec : (Unit × ((List D_Spoke) × D_Timer)) → Option ((Unit × (Int × Unit)) ⊕ (Unit × (Int × Unit)))) (v : (Unit × ((List D_Spoke) × D_Timer))) : Option ((Unit × (Int × Unit)) ⊕ (Unit × (Int × Unit))) :=
  bif (decide (v.2.2.2.1 < (((List.length v.2.1) : Nat) : Int))) then
    bif ((decide ((0 : Int) ≤ v.2.2.2.1)) && (decide (v.2.2.2.1 < (((List.length v.2.1) : Nat) : Int)))) then
      bif (decide ((Int.toNat v.2.2.2.1) < (List.length v.2.1))) then
        (laws_heldTimerS k (List.getD v.2.1 (Int.toNat v.2.2.2.1) z_Spoke).1 v.2.2.1).bind fun t1 =>
          bif (decide (t1.1.1 < (0 : Int))) then
            some (Sum.inl ((), (-1 : Int), ()))
          else
            rec ((), v.2.1, t1.1.1, (IntKind.wrap .i64 (v.2.2.2.1 + (1 : Int))), ())
      else none
    else none
  else
    some (Sum.inr ((), v.2.2.1, ()))
def laws_heldSpokeS (k : Nat) (x0 : (List D_Spoke)) (x1 : Int) : Option ((Int × Unit) × Unit) :=
  (iter (laws_heldSpokeS_s2 k) k ((), x0, x1, (0 : Int), ())).bind fun o1 =>
    Sum.elim (fun a2 =>
      some (a2.2, ()))
    (fun b3 =>
      some (b3.2, ())) o1
def laws_heldWheel (k : Nat) (x0 : D_Wheel) (x1 : Int) : Option ((Int × Unit) × Unit) :=
  (laws_heldSpokeS k x0.2.1 x1).bind fun t1 =>
    bif (decide (t1.1.1 < (0 : Int))) then
      some (((-1 : Int), ()), ())
    else
      some (t1.1, ())
def laws_FnExactWheelRun (k : Nat) (x0 : D_Wheel) (x1 : Int) : Option ((Bool × Unit) × Unit) :=
  (laws_szWheel k x0 (1048576 : Int)).bind fun t1 =>
    bif (decide (t1.1.1 < (0 : Int))) then
      some ((true, ()), ())
    else
      (laws_toWheel k x0).bind fun t2 =>
        (spec_WheelRun k t2.1.1 x1).bind fun t3 =>
          (laws_toWheel k x0).bind fun t4 =>
            (impl_WheelRun k t4.1.1 x1).bind fun t5 =>
              (laws_eqWheel k t5.1.1 t3.1.1).bind fun t6 =>
                bif (!(!t6.1.1)) then
                  (laws_eqTimerS k t5.1.2.1 t3.1.2.1).bind fun t7 =>
                    bif (!t7.1.1) then
                      some ((false, ()), ())
                    else
                      (laws_toWheel k x0).bind fun t8 =>
                        (laws_eqWheel k t4.1.1 t8.1.1).bind fun t9 =>
                          bif (!t9.1.1) then
                            some ((false, ()), ())
                          else
                            (laws_markSpokeS k t4.1.1.2.1 (1 : Int)).bind fun t10 =>
                              bif (!(decide (t10.1.1 < (0 : Int)))) then
                                (laws_eqWheel k t5.1.1 t3.1.1).bind fun t11 =>
                                  bif (!(!t11.1.1)) then
                                    (laws_eqTimerS k t5.1.2.1 t3.1.2.1).bind fun t12 =>
                                      bif (!t12.1.1) then
                                        some ((false, ()), ())
                                      else
                                        (laws_markSpokeS k t5.1.1.2.1 (1 : Int)).bind fun t13 =>
                                          (laws_markTimerS k t5.1.2.1 t13.1.1).bind fun t14 =>
                                            (laws_heldWheel k (t5.1.1.1, t13.2) (1 : Int)).bind fun t15 =>
                                              bif (decide (t15.1.1 < (0 : Int))) then
                                                some ((false, ()), ())
                                              else
                                                (laws_heldTimerS k t14.2.1 t15.1.1).bind fun t16 =>
                                                  bif (decide (t16.1.1 < (0 : Int))) then
                                                    some ((false, ()), ())
                                                  else
                                                    bif (!(decide (t16.1.1 = t14.1.1))) then
                                                      some ((false, ()), ())
                                                    else
                                                      (laws_toWheel k x0).bind fun t17 =>
                                                        (impl_WheelRun k t17.1.1 x1).bind fun t18 =>
                                                          (laws_eqWheel k t18.1.1 t3.1.1).bind fun t19 =>
                                                            bif (!(!t19.1.1)) then
                                                              (laws_eqTimerS k t18.1.2.1 t3.1.2.1).bind fun t20 =>
                                                                bif (!t20.1.1) then
                                                                  some ((false, ()), ())
                                                                else
                                                                  (laws_heldWheel k (t5.1.1.1, t13.2) (1 : Int)).bind fun t21 =>
                                                                    bif (decide (t21.1.1 < (0 : Int))) then
                                                                      some ((false, ()), ())
                                                                    else
                                                                      (laws_heldTimerS k t14.2.1 t21.1.1).bind fun t22 =>
                                                                        bif (decide (t22.1.1 < (0 : Int))) then
                                                                          some ((false, ()), ())
                                                                        else
                                                                          bif (!(decide (t22.1.1 = t14.1.1))) then
                                                                            some ((false, ()), ())
                                                                          else
                                                                            some ((true, ()), ())
                                                            else
                                                              some ((false, ()), ())
                                  else
                                    some ((false, ()), ())
                              else
                                some ((false, ()), ())
                else
                  some ((false, ()), ())
def spec_WheelTick_s6 (rec : (Unit × (D_Wheel × (D_Wheel × ((List Int) × ((List D_Timer) × (Int × Unit)))))) → Option ((Unit × (D_Wheel × (D_Wheel × ((List Int) × Unit)))))) (v : (Unit × (D_Wheel × (D_Wheel × ((List Int) × ((List D_Timer) × (Int × Unit))))))) : Option ((Unit × (D_Wheel × (D_Wheel × ((List Int) × Unit))))) :=
  bif (decide (v.2.2.2.2.2.1 < (((List.length v.2.2.2.2.1) : Nat) : Int))) then
    bif ((decide ((0 : Int) ≤ v.2.2.2.2.2.1)) && (decide (v.2.2.2.2.2.1 < (((List.length v.2.2.2.2.1) : Nat) : Int)))) then
      bif (decide ((Int.toNat v.2.2.2.2.2.1) < (List.length v.2.2.2.2.1))) then
        bif (decide ((List.getD v.2.2.2.2.1 (Int.toNat v.2.2.2.2.2.1) z_Timer).2.1 = (IntKind.wrap .i64 (v.2.1.1 + (1 : Int))))) then
          bif ((decide ((0 : Int) ≤ v.2.2.2.2.2.1)) && (decide (v.2.2.2.2.2.1 < (((List.length v.2.2.2.2.1) : Nat) : Int)))) then
            bif (decide ((Int.toNat v.2.2.2.2.2.1) < (List.length v.2.2.2.2.1))) then
              bif (decide ((((List.length v.2.2.2.1) + (1 : Nat)) * 8) ≤ (1099511627776 : Nat))) then
                rec ((), v.2.1, v.2.2.1, (v.2.2.2.1 ++ ([(List.getD v.2.2.2.2.1 (Int.toNat v.2.2.2.2.2.1) z_Timer).1] : List Int)), v.2.2.2.2.1, (IntKind.wrap .i64 (v.2.2.2.2.2.1 + (1 : Int))), ())
              else none
            else none
          else none
        else
          rec ((), v.2.1, v.2.2.1, v.2.2.2.1, v.2.2.2.2.1, (IntKind.wrap .i64 (v.2.2.2.2.2.1 + (1 : Int))), ())
      else none
    else none
  else
    some ((), v.2.1, v.2.2.1, v.2.2.2.1, ())
def spec_WheelTick (k : Nat) (x0 : D_Wheel) : Option ((D_Wheel × ((List Int) × Unit)) × Unit) :=
  (spec_WheelOk k x0).bind fun t1 =>
    bif (!(!t1.1.1)) then
      bif (decide (x0.1 = (1000000000000 : Int))) then
        some ((((0 : Int), ([] : List D_Spoke), ()), ([] : List Int), ()), ())
      else
        (spec_l12All k x0).bind fun t2 =>
          (iter (spec_WheelTick_s6) k ((), x0, ((0 : Int), ([] : List D_Spoke), ()), ([] : List Int), t2.1.1, (0 : Int), ())).bind fun o3 =>
            (spec_l12Without k o3.2.1 (IntKind.wrap .i64 (o3.2.1.1 + (1 : Int))) (-1 : Int) (IntKind.wrap .i64 (o3.2.1.1 + (1 : Int)))).bind fun t4 =>
              some ((t4.1.1, o3.2.2.2), ())
    else
      some ((((0 : Int), ([] : List D_Spoke), ()), ([] : List Int), ()), ())
def impl_WheelTick_s6 (rec : (Unit × (D_Wheel × (D_Wheel × ((List Int) × ((List D_Timer) × D_Timer))))) → Option ((Unit × (D_Wheel × (D_Wheel × ((List Int) × Unit)))))) (v : (Unit × (D_Wheel × (D_Wheel × ((List Int) × ((List D_Timer) × D_Timer)))))) : Option ((Unit × (D_Wheel × (D_Wheel × ((List Int) × Unit))))) :=
  bif (decide (v.2.2.2.2.2.2.1 < v.2.2.2.2.2.1)) then
    bif ((decide ((0 : Int) ≤ v.2.2.2.2.2.2.1)) && (decide (v.2.2.2.2.2.2.1 < (((List.length v.2.2.2.2.1) : Nat) : Int)))) then
      bif (decide ((Int.toNat v.2.2.2.2.2.2.1) < (List.length v.2.2.2.2.1))) then
        bif (decide ((((List.length v.2.2.2.1) + (1 : Nat)) * 8) ≤ (1099511627776 : Nat))) then
          rec ((), v.2.1, v.2.2.1, (v.2.2.2.1 ++ ([(List.getD v.2.2.2.2.1 (Int.toNat v.2.2.2.2.2.2.1) z_Timer).1] : List Int)), v.2.2.2.2.1, v.2.2.2.2.2.1, (IntKind.wrap .i64 (v.2.2.2.2.2.2.1 + (1 : Int))), ())
        else none
      else none
    else none
  else
    some ((), v.2.1, v.2.2.1, v.2.2.2.1, ())
def impl_WheelTick (k : Nat) (x0 : D_Wheel) : Option ((D_Wheel × ((List Int) × Unit)) × Unit) :=
  (impl_WheelOk k x0).bind fun t1 =>
    bif (!(!t1.1.1)) then
      bif (decide (x0.1 = (1000000000000 : Int))) then
        some ((((0 : Int), ([] : List D_Spoke), ()), ([] : List Int), ()), ())
      else
        (impl_Wheel_tick k x0).bind fun t2 =>
          (iter (impl_WheelTick_s6) k ((), ((0 : Int), ([] : List D_Spoke), ()), t2.1.1, ([] : List Int), t2.1.2.1, (((List.length t2.1.2.1) : Nat) : Int), (0 : Int), ())).bind fun o3 =>
            some (o3.2.2, ())
    else
      some ((((0 : Int), ([] : List D_Spoke), ()), ([] : List Int), ()), ())
def laws_eqIntS_s4 (rec : (Unit × ((List Int) × ((List Int) × (Int × Unit)))) → Option ((Unit × (Bool × Unit)) ⊕ (Unit × Unit))) (v : (Unit × ((List Int) × ((List Int) × (Int × Unit))))) : Option ((Unit × (Bool × Unit)) ⊕ (Unit × Unit)) :=
  bif (decide (v.2.2.2.1 < (((List.length v.2.1) : Nat) : Int))) then
    bif ((decide ((0 : Int) ≤ v.2.2.2.1)) && (decide (v.2.2.2.1 < (((List.length v.2.1) : Nat) : Int)))) then
      bif (decide ((Int.toNat v.2.2.2.1) < (List.length v.2.1))) then
        bif ((decide ((0 : Int) ≤ v.2.2.2.1)) && (decide (v.2.2.2.1 < (((List.length v.2.2.1) : Nat) : Int)))) then
          bif (decide ((Int.toNat v.2.2.2.1) < (List.length v.2.2.1))) then
            bif (!(decide ((List.getD v.2.1 (Int.toNat v.2.2.2.1) (0 : Int)) = (List.getD v.2.2.1 (Int.toNat v.2.2.2.1) (0 : Int))))) then
              some (Sum.inl ((), false, ()))
            else
              rec ((), v.2.1, v.2.2.1, (IntKind.wrap .i64 (v.2.2.2.1 + (1 : Int))), ())
          else none
        else none
      else none
    else none
  else
    some (Sum.inr ((), ()))
def laws_eqIntS (k : Nat) (x0 : (List Int)) (x1 : (List Int)) : Option ((Bool × Unit) × Unit) :=
  bif (!(decide ((((List.length x0) : Nat) : Int) = (((List.length x1) : Nat) : Int)))) then
    some ((false, ()), ())
  else
    (iter (laws_eqIntS_s4) k ((), x0, x1, (0 : Int), ())).bind fun o1 =>
      Sum.elim (fun a2 =>
        some (a2.2, ()))
      (fun b3 =>
        some ((true, ()), ())) o1
def laws_markIntS_s2 (rec : (((List Int) × Unit) × (Unit × D_Timer)) → Option ((((List Int) × Unit) × (Int × Unit)))) (v : (((List Int) × Unit) × (Unit × D_Timer))) : Option ((((List Int) × Unit) × (Int × Unit))) :=
  bif (decide (v.2.2.2.1 < (((List.length v.1.1) : Nat) : Int))) then
    bif ((decide ((0 : Int) ≤ v.2.2.2.1)) && (decide (v.2.2.2.1 < (((List.length v.1.1) : Nat) : Int)))) then
      bif (decide ((Int.toNat v.2.2.2.1) < (List.length v.1.1))) then
        let y1 : (List Int) := (List.set v.1.1 (Int.toNat v.2.2.2.1) v.2.2.1)
        rec ((y1, ()), (), (IntKind.wrap .i64 (v.2.2.1 + (1 : Int))), (IntKind.wrap .i64 (v.2.2.2.1 + (1 : Int))), ())
      else none
    else none
  else
    some (v.1, v.2.2.1, ())
def laws_markIntS (k : Nat) (x0 : (List Int)) (x1 : Int) : Option ((Int × Unit) × ((List Int) × Unit)) :=
  (iter (laws_markIntS_s2) k ((x0, ()), (), x1, (0 : Int), ())).bind fun o1 =>
    some (o1.2, o1.1)
def laws_heldIntS_s2 (rec : (Unit × ((List Int) × D_Timer)) → Option ((Unit × (Int × Unit)) ⊕ (Unit × (Int × Unit)))) (v : (Unit × ((List Int) × D_Timer))) : Option ((Unit × (Int × Unit)) ⊕ (Unit × (Int × Unit))) :=
  bif (decide (v.2.2.2.1 < (((List.length v.2.1) : Nat) : Int))) then
    bif ((decide ((0 : Int) ≤ v.2.2.2.1)) && (decide (v.2.2.2.1 < (((List.length v.2.1) : Nat) : Int)))) then
      bif (decide ((Int.toNat v.2.2.2.1) < (List.length v.2.1))) then
        bif (!(decide ((List.getD v.2.1 (Int.toNat v.2.2.2.1) (0 : Int)) = v.2.2.1))) then
          some (Sum.inl ((), (-1 : Int), ()))
        else
          rec ((), v.2.1, (IntKind.wrap .i64 (v.2.2.1 + (1 : Int))), (IntKind.wrap .i64 (v.2.2.2.1 + (1 : Int))), ())
      else none
    else none
  else
    some (Sum.inr ((), v.2.2.1, ()))
def laws_heldIntS (k : Nat) (x0 : (List Int)) (x1 : Int) : Option ((Int × Unit) × Unit) :=
  (iter (laws_heldIntS_s2) k ((), x0, x1, (0 : Int), ())).bind fun o1 =>
    Sum.elim (fun a2 =>
      some (a2.2, ()))
    (fun b3 =>
      some (b3.2, ())) o1
def laws_FnExactWheelTick (k : Nat) (x0 : D_Wheel) : Option ((Bool × Unit) × Unit) :=
  (laws_szWheel k x0 (1048576 : Int)).bind fun t1 =>
    bif (decide (t1.1.1 < (0 : Int))) then
      some ((true, ()), ())
    else
      (laws_toWheel k x0).bind fun t2 =>
        (spec_WheelTick k t2.1.1).bind fun t3 =>
          (laws_toWheel k x0).bind fun t4 =>
            (impl_WheelTick k t4.1.1).bind fun t5 =>
              (laws_eqWheel k t5.1.1 t3.1.1).bind fun t6 =>
                bif (!(!t6.1.1)) then
                  (laws_eqIntS k t5.1.2.1 t3.1.2.1).bind fun t7 =>
                    bif (!t7.1.1) then
                      some ((false, ()), ())
                    else
                      (laws_toWheel k x0).bind fun t8 =>
                        (laws_eqWheel k t4.1.1 t8.1.1).bind fun t9 =>
                          bif (!t9.1.1) then
                            some ((false, ()), ())
                          else
                            (laws_markSpokeS k t4.1.1.2.1 (1 : Int)).bind fun t10 =>
                              bif (!(decide (t10.1.1 < (0 : Int)))) then
                                (laws_eqWheel k t5.1.1 t3.1.1).bind fun t11 =>
                                  bif (!(!t11.1.1)) then
                                    (laws_eqIntS k t5.1.2.1 t3.1.2.1).bind fun t12 =>
                                      bif (!t12.1.1) then
                                        some ((false, ()), ())
                                      else
                                        (laws_markSpokeS k t5.1.1.2.1 (1 : Int)).bind fun t13 =>
                                          (laws_markIntS k t5.1.2.1 t13.1.1).bind fun t14 =>
                                            (laws_heldWheel k (t5.1.1.1, t13.2) (1 : Int)).bind fun t15 =>
                                              bif (decide (t15.1.1 < (0 : Int))) then
                                                some ((false, ()), ())
                                              else
                                                (laws_heldIntS k t14.2.1 t15.1.1).bind fun t16 =>
                                                  bif (decide (t16.1.1 < (0 : Int))) then
                                                    some ((false, ()), ())
                                                  else
                                                    bif (!(decide (t16.1.1 = t14.1.1))) then
                                                      some ((false, ()), ())
                                                    else
                                                      (laws_toWheel k x0).bind fun t17 =>
                                                        (impl_WheelTick k t17.1.1).bind fun t18 =>
                                                          (laws_eqWheel k t18.1.1 t3.1.1).bind fun t19 =>
                                                            bif (!(!t19.1.1)) then
                                                              (laws_eqIntS k t18.1.2.1 t3.1.2.1).bind fun t20 =>
                                                                bif (!t20.1.1) then
                                                                  some ((false, ()), ())
                                                                else
                                                                  (laws_heldWheel k (t5.1.1.1, t13.2) (1 : Int)).bind fun t21 =>
                                                                    bif (decide (t21.1.1 < (0 : Int))) then
                                                                      some ((false, ()), ())
                                                                    else
                                                                      (laws_heldIntS k t14.2.1 t21.1.1).bind fun t22 =>
                                                                        bif (decide (t22.1.1 < (0 : Int))) then
                                                                          some ((false, ()), ())
                                                                        else
                                                                          bif (!(decide (t22.1.1 = t14.1.1))) then
                                                                            some ((false, ()), ())
                                                                          else
                                                                            some ((true, ()), ())
                                                            else
                                                              some ((false, ()), ())
                                  else
                                    some ((false, ()), ())
                              else
                                some ((false, ()), ())
                else
                  some ((false, ()), ())
end Go.Tw
