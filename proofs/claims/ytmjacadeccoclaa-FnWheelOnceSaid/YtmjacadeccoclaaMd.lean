/- The mirrors of the functions as plain definitions, by which proofs go on. -/
import Derived.Test.YtmjacadeccoclaaT24
set_option linter.all false
namespace Go.Tw
open Go Go.RowKit
abbrev T_Timer : Ty := (.pr (.int .i64) (.pr (.int .i64) .un))
abbrev D_Timer := (Int × (Int × Unit))
def z_Timer : D_Timer := ((0 : Int), ((0 : Int), ()))
abbrev T_Spoke : Ty := (.pr (.sl T_Timer) .un)
abbrev D_Spoke := ((List D_Timer) × Unit)
def z_Spoke : D_Spoke := ([], ())
abbrev T_Wheel : Ty := (.pr (.int .i64) (.pr (.sl T_Spoke) .un))
abbrev D_Wheel := (Int × ((List D_Spoke) × Unit))
def z_Wheel : D_Wheel := ((0 : Int), ([], ()))
abbrev T_l01Cur : Ty := (.pr (.sl (.int .u8)) T_Timer)
abbrev D_l01Cur := ((List Int) × D_Timer)
def z_l01Cur : D_l01Cur := ([], z_Timer)
def laws_szTimerS (x0 : (List D_Timer)) (x1 : Int) : Option ((Int × Unit) × Unit) :=
  bif (decide ((IntKind.wrap .i64 (x1 - (((List.length x0) : Nat) : Int))) < (0 : Int))) then
    some (((-1 : Int), ()), ())
  else
    some (((IntKind.wrap .i64 (x1 - (((List.length x0) : Nat) : Int))), ()), ())
def laws_szSpoke (x0 : D_Spoke) (x1 : Int) : Option ((Int × Unit) × Unit) :=
  (laws_szTimerS x0.1 x1).bind fun t1 =>
    bif (decide (t1.1.1 < (0 : Int))) then
      some (((-1 : Int), ()), ())
    else
      some (t1.1, ())
def laws_szSpokeS_s5 (rec : (Unit × ((List D_Spoke) × D_Timer)) → Option ((Unit × (Int × Unit)) ⊕ (Unit × (Int × Unit)))) (v : (Unit × ((List D_Spoke) × D_Timer))) : Option ((Unit × (Int × Unit)) ⊕ (Unit × (Int × Unit))) :=
  bif (decide (v.2.2.2.1 < (((List.length v.2.1) : Nat) : Int))) then
    bif ((decide ((0 : Int) ≤ v.2.2.2.1)) && (decide (v.2.2.2.1 < (((List.length v.2.1) : Nat) : Int)))) then
      bif (decide ((Int.toNat v.2.2.2.1) < (List.length v.2.1))) then
        (laws_szSpoke (List.getD v.2.1 (Int.toNat v.2.2.2.1) z_Spoke) v.2.2.1).bind fun t1 =>
          bif (decide (t1.1.1 < (0 : Int))) then
            some (Sum.inl ((), (-1 : Int), ()))
          else
            rec ((), v.2.1, t1.1.1, (IntKind.wrap .i64 (v.2.2.2.1 + (1 : Int))), ())
      else none
    else none
  else
    some (Sum.inr ((), v.2.2.1, ()))
def laws_szSpokeS (k : Nat) (x0 : (List D_Spoke)) (x1 : Int) : Option ((Int × Unit) × Unit) :=
  bif (decide ((IntKind.wrap .i64 (x1 - (((List.length x0) : Nat) : Int))) < (0 : Int))) then
    some (((-1 : Int), ()), ())
  else
    (iter (laws_szSpokeS_s5) k ((), x0, (IntKind.wrap .i64 (x1 - (((List.length x0) : Nat) : Int))), (0 : Int), ())).bind fun o1 =>
      Sum.elim (fun a2 =>
        some (a2.2, ()))
      (fun b3 =>
        some (b3.2, ())) o1
def laws_szWheel (k : Nat) (x0 : D_Wheel) (x1 : Int) : Option ((Int × Unit) × Unit) :=
  (laws_szSpokeS k x0.2.1 x1).bind fun t1 =>
    bif (decide (t1.1.1 < (0 : Int))) then
      some (((-1 : Int), ()), ())
    else
      some (t1.1, ())
def laws_toTimer (x0 : D_Timer) : Option ((D_Timer × Unit) × Unit) :=
  some ((x0, ()), ())
def laws_toTimerS_s3 (rec : (Unit × ((List D_Timer) × ((List D_Timer) × (Int × Unit)))) → Option ((Unit × D_Spoke))) (v : (Unit × ((List D_Timer) × ((List D_Timer) × (Int × Unit))))) : Option ((Unit × D_Spoke)) :=
  bif (decide (v.2.2.2.1 < (((List.length v.2.1) : Nat) : Int))) then
    bif ((decide ((0 : Int) ≤ v.2.2.2.1)) && (decide (v.2.2.2.1 < (((List.length v.2.1) : Nat) : Int)))) then
      bif (decide ((Int.toNat v.2.2.2.1) < (List.length v.2.1))) then
        (laws_toTimer (List.getD v.2.1 (Int.toNat v.2.2.2.1) z_Timer)).bind fun t1 =>
          bif ((decide ((0 : Int) ≤ v.2.2.2.1)) && (decide (v.2.2.2.1 < (((List.length v.2.2.1) : Nat) : Int)))) then
            bif (decide ((Int.toNat v.2.2.2.1) < (List.length v.2.2.1))) then
              let y2 : (List D_Timer) := (List.set v.2.2.1 (Int.toNat v.2.2.2.1) t1.1.1)
              rec ((), v.2.1, y2, (IntKind.wrap .i64 (v.2.2.2.1 + (1 : Int))), ())
            else none
          else none
      else none
    else none
  else
    some ((), v.2.2.1, ())
def laws_toTimerS (k : Nat) (x0 : (List D_Timer)) : Option (D_Spoke × Unit) :=
  bif (((decide ((0 : Int) ≤ (((List.length x0) : Nat) : Int))) && (decide ((((List.length x0) : Nat) : Int) ≤ (((List.length x0) : Nat) : Int)))) && (decide (((16 : Int) * (((List.length x0) : Nat) : Int)) ≤ (1099511627776 : Int)))) then
    (iter (laws_toTimerS_s3) k ((), x0, (List.replicate (List.length x0) ((0 : Int), (0 : Int), ())), (0 : Int), ())).bind fun o1 =>
      some (o1.2, ())
  else none
def laws_toSpoke (k : Nat) (x0 : D_Spoke) : Option ((D_Spoke × Unit) × Unit) :=
  (laws_toTimerS k x0.1).bind fun t1 =>
    some (t1, ())
def laws_toSpokeS_s3 (k : Nat) (rec : (Unit × ((List D_Spoke) × ((List D_Spoke) × (Int × Unit)))) → Option ((Unit × ((List D_Spoke) × Unit)))) (v : (Unit × ((List D_Spoke) × ((List D_Spoke) × (Int × Unit))))) : Option ((Unit × ((List D_Spoke) × Unit))) :=
  bif (decide (v.2.2.2.1 < (((List.length v.2.1) : Nat) : Int))) then
    bif ((decide ((0 : Int) ≤ v.2.2.2.1)) && (decide (v.2.2.2.1 < (((List.length v.2.1) : Nat) : Int)))) then
      bif (decide ((Int.toNat v.2.2.2.1) < (List.length v.2.1))) then
        (laws_toSpoke k (List.getD v.2.1 (Int.toNat v.2.2.2.1) z_Spoke)).bind fun t1 =>
          bif ((decide ((0 : Int) ≤ v.2.2.2.1)) && (decide (v.2.2.2.1 < (((List.length v.2.2.1) : Nat) : Int)))) then
            bif (decide ((Int.toNat v.2.2.2.1) < (List.length v.2.2.1))) then
              let y2 : (List D_Spoke) := (List.set v.2.2.1 (Int.toNat v.2.2.2.1) t1.1.1)
              rec ((), v.2.1, y2, (IntKind.wrap .i64 (v.2.2.2.1 + (1 : Int))), ())
            else none
          else none
      else none
    else none
  else
    some ((), v.2.2.1, ())
def laws_toSpokeS (k : Nat) (x0 : (List D_Spoke)) : Option (((List D_Spoke) × Unit) × Unit) :=
  bif (((decide ((0 : Int) ≤ (((List.length x0) : Nat) : Int))) && (decide ((((List.length x0) : Nat) : Int) ≤ (((List.length x0) : Nat) : Int)))) && (decide (((24 : Int) * (((List.length x0) : Nat) : Int)) ≤ (1099511627776 : Int)))) then
    (iter (laws_toSpokeS_s3 k) k ((), x0, (List.replicate (List.length x0) (([] : List D_Timer), ())), (0 : Int), ())).bind fun o1 =>
      some (o1.2, ())
  else none
def laws_toWheel (k : Nat) (x0 : D_Wheel) : Option ((D_Wheel × Unit) × Unit) :=
  (laws_toSpokeS k x0.2.1).bind fun t1 =>
    some (((x0.1, t1.1), ()), ())
def spec_l12All_s3 (rec : (Unit × (D_Wheel × ((List D_Timer) × (Int × Unit)))) → Option ((Unit × D_Spoke))) (v : (Unit × (D_Wheel × ((List D_Timer) × (Int × Unit))))) : Option ((Unit × D_Spoke)) :=
  bif (decide (v.2.2.2.1 < (((List.length v.2.1.2.1) : Nat) : Int))) then
    bif ((decide ((0 : Int) ≤ v.2.2.2.1)) && (decide (v.2.2.2.1 < (((List.length v.2.1.2.1) : Nat) : Int)))) then
      bif (decide ((Int.toNat v.2.2.2.1) < (List.length v.2.1.2.1))) then
        bif (decide ((((List.length v.2.2.1) + (List.length (List.getD v.2.1.2.1 (Int.toNat v.2.2.2.1) z_Spoke).1)) * 16) ≤ (1099511627776 : Nat))) then
          rec ((), v.2.1, (v.2.2.1 ++ (List.getD v.2.1.2.1 (Int.toNat v.2.2.2.1) z_Spoke).1), (IntKind.wrap .i64 (v.2.2.2.1 + (1 : Int))), ())
        else none
      else none
    else none
  else
    some ((), v.2.2.1, ())
def spec_l12All (k : Nat) (x0 : D_Wheel) : Option (D_Spoke × Unit) :=
  (iter (spec_l12All_s3) k ((), x0, ([] : List D_Timer), (0 : Int), ())).bind fun o1 =>
    some (o1.2, ())
def spec_WheelOk_s5 (rec : (Unit × (D_Wheel × D_Timer)) → Option ((Unit × (Bool × Unit)) ⊕ (Unit × (D_Wheel × (Int × Unit))))) (v : (Unit × (D_Wheel × D_Timer))) : Option ((Unit × (Bool × Unit)) ⊕ (Unit × (D_Wheel × (Int × Unit)))) :=
  bif (decide (v.2.2.2.1 < (8 : Int))) then
    bif ((decide ((0 : Int) ≤ v.2.2.2.1)) && (decide (v.2.2.2.1 < (((List.length v.2.1.2.1) : Nat) : Int)))) then
      bif (decide ((Int.toNat v.2.2.2.1) < (List.length v.2.1.2.1))) then
        bif (decide ((64 : Int) < (((List.length (List.getD v.2.1.2.1 (Int.toNat v.2.2.2.1) z_Spoke).1) : Nat) : Int))) then
          some (Sum.inl ((), false, ()))
        else
          bif ((decide ((0 : Int) ≤ v.2.2.2.1)) && (decide (v.2.2.2.1 < (((List.length v.2.1.2.1) : Nat) : Int)))) then
            bif (decide ((Int.toNat v.2.2.2.1) < (List.length v.2.1.2.1))) then
              rec ((), v.2.1, (IntKind.wrap .i64 (v.2.2.1 + (((List.length (List.getD v.2.1.2.1 (Int.toNat v.2.2.2.1) z_Spoke).1) : Nat) : Int))), (IntKind.wrap .i64 (v.2.2.2.1 + (1 : Int))), ())
            else none
          else none
      else none
    else none
  else
    some (Sum.inr ((), v.2.1, v.2.2.1, ()))
def spec_WheelOk_s19 (rec : (Unit × (D_Wheel × ((List D_Timer) × D_Timer))) → Option ((Unit × (Bool × Unit)) ⊕ (Unit × (D_Wheel × ((List D_Timer) × (Int × Unit)))))) (v : (Unit × (D_Wheel × ((List D_Timer) × D_Timer)))) : Option ((Unit × (Bool × Unit)) ⊕ (Unit × (D_Wheel × ((List D_Timer) × (Int × Unit))))) :=
  bif (decide (v.2.2.2.2.1 < v.2.2.2.1)) then
    bif ((decide ((0 : Int) ≤ v.2.2.2.2.1)) && (decide (v.2.2.2.2.1 < (((List.length v.2.2.1) : Nat) : Int)))) then
      bif (decide ((Int.toNat v.2.2.2.2.1) < (List.length v.2.2.1))) then
        bif ((decide ((0 : Int) ≤ v.2.2.2.1)) && (decide (v.2.2.2.1 < (((List.length v.2.2.1) : Nat) : Int)))) then
          bif (decide ((Int.toNat v.2.2.2.1) < (List.length v.2.2.1))) then
            bif (decide ((List.getD v.2.2.1 (Int.toNat v.2.2.2.2.1) z_Timer).1 = (List.getD v.2.2.1 (Int.toNat v.2.2.2.1) z_Timer).1)) then
              some (Sum.inl ((), false, ()))
            else
              rec ((), v.2.1, v.2.2.1, v.2.2.2.1, (IntKind.wrap .i64 (v.2.2.2.2.1 + (1 : Int))), ())
          else none
        else none
      else none
    else none
  else
    some (Sum.inr ((), v.2.1, v.2.2.1, v.2.2.2.1, ()))
def spec_WheelOk_s14 (k : Nat) (rec : (Unit × (D_Wheel × ((List D_Timer) × (Int × Unit)))) → Option ((Unit × (Bool × Unit)) ⊕ (Unit × (D_Wheel × Unit)))) (v : (Unit × (D_Wheel × ((List D_Timer) × (Int × Unit))))) : Option ((Unit × (Bool × Unit)) ⊕ (Unit × (D_Wheel × Unit))) :=
  bif (decide (v.2.2.2.1 < (((List.length v.2.2.1) : Nat) : Int))) then
    bif ((decide ((0 : Int) ≤ v.2.2.2.1)) && (decide (v.2.2.2.1 < (((List.length v.2.2.1) : Nat) : Int)))) then
      bif (decide ((Int.toNat v.2.2.2.1) < (List.length v.2.2.1))) then
        bif (!(decide ((List.getD v.2.2.1 (Int.toNat v.2.2.2.1) z_Timer).1 < (0 : Int)))) then
          bif ((decide ((0 : Int) ≤ v.2.2.2.1)) && (decide (v.2.2.2.1 < (((List.length v.2.2.1) : Nat) : Int)))) then
            bif (decide ((Int.toNat v.2.2.2.1) < (List.length v.2.2.1))) then
              bif (!(decide ((9999 : Int) < (List.getD v.2.2.1 (Int.toNat v.2.2.2.1) z_Timer).1))) then
                bif ((decide ((0 : Int) ≤ v.2.2.2.1)) && (decide (v.2.2.2.1 < (((List.length v.2.2.1) : Nat) : Int)))) then
                  bif (decide ((Int.toNat v.2.2.2.1) < (List.length v.2.2.1))) then
                    bif (!(decide ((List.getD v.2.2.1 (Int.toNat v.2.2.2.1) z_Timer).2.1 ≤ v.2.1.1))) then
                      bif ((decide ((0 : Int) ≤ v.2.2.2.1)) && (decide (v.2.2.2.1 < (((List.length v.2.2.1) : Nat) : Int)))) then
                        bif (decide ((Int.toNat v.2.2.2.1) < (List.length v.2.2.1))) then
                          bif (decide ((IntKind.wrap .i64 (v.2.1.1 + (1000 : Int))) < (List.getD v.2.2.1 (Int.toNat v.2.2.2.1) z_Timer).2.1)) then
                            some (Sum.inl ((), false, ()))
                          else
                            (iter (spec_WheelOk_s19) k ((), v.2.1, v.2.2.1, v.2.2.2.1, (0 : Int), ())).bind fun o5 =>
                              Sum.elim (fun a6 =>
                                some (Sum.inl ((), a6.2)))
                              (fun b7 =>
                                rec ((), b7.2.1, b7.2.2.1, (IntKind.wrap .i64 (b7.2.2.2.1 + (1 : Int))), ())) o5
                        else none
                      else none
                    else
                      some (Sum.inl ((), false, ()))
                  else none
                else none
              else
                some (Sum.inl ((), false, ()))
            else none
          else none
        else
          some (Sum.inl ((), false, ()))
      else none
    else none
  else
    some (Sum.inr ((), v.2.1, ()))
def spec_WheelOk_s27 (rec : (Unit × (D_Wheel × D_Timer)) → Option ((Unit × (Bool × Unit)) ⊕ (Unit × (D_Wheel × (Int × Unit))))) (v : (Unit × (D_Wheel × D_Timer))) : Option ((Unit × (Bool × Unit)) ⊕ (Unit × (D_Wheel × (Int × Unit)))) :=
  bif ((decide ((0 : Int) ≤ v.2.2.1)) && (decide (v.2.2.1 < (((List.length v.2.1.2.1) : Nat) : Int)))) then
    bif (decide ((Int.toNat v.2.2.1) < (List.length v.2.1.2.1))) then
      bif (decide (v.2.2.2.1 < (((List.length (List.getD v.2.1.2.1 (Int.toNat v.2.2.1) z_Spoke).1) : Nat) : Int))) then
        bif ((decide ((0 : Int) ≤ v.2.2.1)) && (decide (v.2.2.1 < (((List.length v.2.1.2.1) : Nat) : Int)))) then
          bif (decide ((Int.toNat v.2.2.1) < (List.length v.2.1.2.1))) then
            bif ((decide ((0 : Int) ≤ v.2.2.2.1)) && (decide (v.2.2.2.1 < (((List.length (List.getD v.2.1.2.1 (Int.toNat v.2.2.1) z_Spoke).1) : Nat) : Int)))) then
              bif (decide ((Int.toNat v.2.2.2.1) < (List.length (List.getD v.2.1.2.1 (Int.toNat v.2.2.1) z_Spoke).1))) then
                bif (!(decide ((Int.tmod (List.getD (List.getD v.2.1.2.1 (Int.toNat v.2.2.1) z_Spoke).1 (Int.toNat v.2.2.2.1) z_Timer).2.1 (8 : Int)) = v.2.2.1))) then
                  some (Sum.inl ((), false, ()))
                else
                  rec ((), v.2.1, v.2.2.1, (IntKind.wrap .i64 (v.2.2.2.1 + (1 : Int))), ())
              else none
            else none
          else none
        else none
      else
        some (Sum.inr ((), v.2.1, v.2.2.1, ()))
    else none
  else none
def spec_WheelOk_s24 (k : Nat) (rec : (Unit × (D_Wheel × (Int × Unit))) → Option ((Unit × (Bool × Unit)) ⊕ (Unit × Unit))) (v : (Unit × (D_Wheel × (Int × Unit)))) : Option ((Unit × (Bool × Unit)) ⊕ (Unit × Unit)) :=
  bif (decide (v.2.2.1 < (8 : Int))) then
    (iter (spec_WheelOk_s27) k ((), v.2.1, v.2.2.1, (0 : Int), ())).bind fun o11 =>
      Sum.elim (fun a12 =>
        some (Sum.inl ((), a12.2)))
      (fun b13 =>
        rec ((), b13.2.1, (IntKind.wrap .i64 (b13.2.2.1 + (1 : Int))), ())) o11
  else
    some (Sum.inr ((), ()))
def spec_WheelOk (k : Nat) (x0 : D_Wheel) : Option ((Bool × Unit) × Unit) :=
  bif (!(decide (x0.1 < (0 : Int)))) then
    bif (!(decide ((1000000000000 : Int) < x0.1))) then
      bif (!(decide ((((List.length x0.2.1) : Nat) : Int) = (8 : Int)))) then
        some ((false, ()), ())
      else
        (iter (spec_WheelOk_s5) k ((), x0, (0 : Int), (0 : Int), ())).bind fun o1 =>
          Sum.elim (fun a2 =>
            some (a2.2, ()))
          (fun b3 =>
            bif (decide ((64 : Int) < b3.2.2.1)) then
              some ((false, ()), ())
            else
              (spec_l12All k b3.2.1).bind fun t4 =>
                (iter (spec_WheelOk_s14 k) k ((), b3.2.1, t4.1.1, (0 : Int), ())).bind fun o5 =>
                  Sum.elim (fun a6 =>
                    some (a6.2, ()))
                  (fun b7 =>
                    (iter (spec_WheelOk_s24 k) k ((), b7.2.1, (0 : Int), ())).bind fun o8 =>
                      Sum.elim (fun a9 =>
                        some (a9.2, ()))
                      (fun b10 =>
                        some ((true, ()), ())) o8) o5) o1
    else
      some ((false, ()), ())
  else
    some ((false, ()), ())
def spec_l12Without_s7 (rec : (Unit × (Int × (Int × (D_Wheel × (D_Wheel × (D_Wheel × (Int × ((List D_Timer) × (Int × Unit))))))))) → Option ((Unit × (Int × (Int × (D_Wheel × (D_Wheel × (D_Wheel × (Int × D_Spoke))))))))) (v : (Unit × (Int × (Int × (D_Wheel × (D_Wheel × (D_Wheel × (Int × ((List D_Timer) × (Int × Unit)))))))))) : Option ((Unit × (Int × (Int × (D_Wheel × (D_Wheel × (D_Wheel × (Int × D_Spoke)))))))) :=
  bif ((decide ((0 : Int) ≤ v.2.2.2.2.2.2.1)) && (decide (v.2.2.2.2.2.2.1 < (((List.length v.2.2.2.1.2.1) : Nat) : Int)))) then
    bif (decide ((Int.toNat v.2.2.2.2.2.2.1) < (List.length v.2.2.2.1.2.1))) then
      bif (decide (v.2.2.2.2.2.2.2.2.1 < (((List.length (List.getD v.2.2.2.1.2.1 (Int.toNat v.2.2.2.2.2.2.1) z_Spoke).1) : Nat) : Int))) then
        bif ((decide ((0 : Int) ≤ v.2.2.2.2.2.2.1)) && (decide (v.2.2.2.2.2.2.1 < (((List.length v.2.2.2.1.2.1) : Nat) : Int)))) then
          bif (decide ((Int.toNat v.2.2.2.2.2.2.1) < (List.length v.2.2.2.1.2.1))) then
            bif ((decide ((0 : Int) ≤ v.2.2.2.2.2.2.2.2.1)) && (decide (v.2.2.2.2.2.2.2.2.1 < (((List.length (List.getD v.2.2.2.1.2.1 (Int.toNat v.2.2.2.2.2.2.1) z_Spoke).1) : Nat) : Int)))) then
              bif (decide ((Int.toNat v.2.2.2.2.2.2.2.2.1) < (List.length (List.getD v.2.2.2.1.2.1 (Int.toNat v.2.2.2.2.2.2.1) z_Spoke).1))) then
                bif (!(decide ((List.getD (List.getD v.2.2.2.1.2.1 (Int.toNat v.2.2.2.2.2.2.1) z_Spoke).1 (Int.toNat v.2.2.2.2.2.2.2.2.1) z_Timer).1 = v.2.1))) then
                  bif (!(decide ((List.getD (List.getD v.2.2.2.1.2.1 (Int.toNat v.2.2.2.2.2.2.1) z_Spoke).1 (Int.toNat v.2.2.2.2.2.2.2.2.1) z_Timer).2.1 = v.2.2.1))) then
                    bif (decide ((((List.length v.2.2.2.2.2.2.2.1) + (1 : Nat)) * 16) ≤ (1099511627776 : Nat))) then
                      rec ((), v.2.1, v.2.2.1, v.2.2.2.1, v.2.2.2.2.1, v.2.2.2.2.2.1, v.2.2.2.2.2.2.1, (v.2.2.2.2.2.2.2.1 ++ ([(List.getD (List.getD v.2.2.2.1.2.1 (Int.toNat v.2.2.2.2.2.2.1) z_Spoke).1 (Int.toNat v.2.2.2.2.2.2.2.2.1) z_Timer)] : List D_Timer)), (IntKind.wrap .i64 (v.2.2.2.2.2.2.2.2.1 + (1 : Int))), ())
                    else none
                  else
                    rec ((), v.2.1, v.2.2.1, v.2.2.2.1, v.2.2.2.2.1, v.2.2.2.2.2.1, v.2.2.2.2.2.2.1, v.2.2.2.2.2.2.2.1, (IntKind.wrap .i64 (v.2.2.2.2.2.2.2.2.1 + (1 : Int))), ())
                else
                  rec ((), v.2.1, v.2.2.1, v.2.2.2.1, v.2.2.2.2.1, v.2.2.2.2.2.1, v.2.2.2.2.2.2.1, v.2.2.2.2.2.2.2.1, (IntKind.wrap .i64 (v.2.2.2.2.2.2.2.2.1 + (1 : Int))), ())
              else none
            else none
          else none
        else none
      else
        some ((), v.2.1, v.2.2.1, v.2.2.2.1, v.2.2.2.2.1, v.2.2.2.2.2.1, v.2.2.2.2.2.2.1, v.2.2.2.2.2.2.2.1, ())
    else none
  else none
def spec_l12Without_s3 (k : Nat) (rec : (Unit × (Int × (Int × (D_Wheel × (D_Wheel × (D_Wheel × (Int × Unit))))))) → Option ((Unit × (D_Wheel × (D_Wheel × Unit))))) (v : (Unit × (Int × (Int × (D_Wheel × (D_Wheel × (D_Wheel × (Int × Unit)))))))) : Option ((Unit × (D_Wheel × (D_Wheel × Unit)))) :=
  bif (decide (v.2.2.2.2.2.2.1 < (8 : Int))) then
    (iter (spec_l12Without_s7) k ((), v.2.1, v.2.2.1, v.2.2.2.1, v.2.2.2.2.1, v.2.2.2.2.2.1, v.2.2.2.2.2.2.1, ([] : List D_Timer), (0 : Int), ())).bind fun o1 =>
      bif ((decide ((0 : Int) ≤ o1.2.2.2.2.2.2.1)) && (decide (o1.2.2.2.2.2.2.1 < (((List.length o1.2.2.2.2.2.1.2.1) : Nat) : Int)))) then
        bif (decide ((Int.toNat o1.2.2.2.2.2.2.1) < (List.length o1.2.2.2.2.2.1.2.1))) then
          let y2 : (List D_Spoke) := (List.set o1.2.2.2.2.2.1.2.1 (Int.toNat o1.2.2.2.2.2.2.1) o1.2.2.2.2.2.2.2)
          rec ((), o1.2.1, o1.2.2.1, o1.2.2.2.1, o1.2.2.2.2.1, (o1.2.2.2.2.2.1.1, y2, ()), (IntKind.wrap .i64 (o1.2.2.2.2.2.2.1 + (1 : Int))), ())
        else none
      else none
  else
    some ((), v.2.2.2.2.1, v.2.2.2.2.2.1, ())
def spec_l12Without (k : Nat) (x0 : D_Wheel) (x1 : Int) (x2 : Int) (x3 : Int) : Option ((D_Wheel × Unit) × Unit) :=
  (iter (spec_l12Without_s3 k) k ((), x2, x3, x0, ((0 : Int), ([] : List D_Spoke), ()), (x1, ([(([] : List D_Timer), ()), (([] : List D_Timer), ()), (([] : List D_Timer), ()), (([] : List D_Timer), ()), (([] : List D_Timer), ()), (([] : List D_Timer), ()), (([] : List D_Timer), ()), (([] : List D_Timer), ())] : List D_Spoke), ()), (0 : Int), ())).bind fun o1 =>
    some (o1.2.2, ())
def spec_WheelRun_s10 (rec : (Unit × (Int × (D_Wheel × (D_Wheel × ((List D_Timer) × ((List D_Timer) × (D_Wheel × D_Timer))))))) → Option ((Unit × (Int × (D_Wheel × (D_Wheel × ((List D_Timer) × ((List D_Timer) × (D_Wheel × (Int × Unit)))))))))) (v : (Unit × (Int × (D_Wheel × (D_Wheel × ((List D_Timer) × ((List D_Timer) × (D_Wheel × D_Timer)))))))) : Option ((Unit × (Int × (D_Wheel × (D_Wheel × ((List D_Timer) × ((List D_Timer) × (D_Wheel × (Int × Unit))))))))) :=
  bif (decide (v.2.2.2.2.2.2.2.2.1 < (((List.length v.2.2.2.2.1) : Nat) : Int))) then
    bif ((decide ((0 : Int) ≤ v.2.2.2.2.2.2.2.2.1)) && (decide (v.2.2.2.2.2.2.2.2.1 < (((List.length v.2.2.2.2.1) : Nat) : Int)))) then
      bif (decide ((Int.toNat v.2.2.2.2.2.2.2.2.1) < (List.length v.2.2.2.2.1))) then
        bif (decide ((List.getD v.2.2.2.2.1 (Int.toNat v.2.2.2.2.2.2.2.2.1) z_Timer).2.1 = v.2.2.2.2.2.2.2.1)) then
          bif ((decide ((0 : Int) ≤ v.2.2.2.2.2.2.2.2.1)) && (decide (v.2.2.2.2.2.2.2.2.1 < (((List.length v.2.2.2.2.1) : Nat) : Int)))) then
            bif (decide ((Int.toNat v.2.2.2.2.2.2.2.2.1) < (List.length v.2.2.2.2.1))) then
              bif (decide ((((List.length v.2.2.2.2.2.1) + (1 : Nat)) * 16) ≤ (1099511627776 : Nat))) then
                rec ((), v.2.1, v.2.2.1, v.2.2.2.1, v.2.2.2.2.1, (v.2.2.2.2.2.1 ++ ([(List.getD v.2.2.2.2.1 (Int.toNat v.2.2.2.2.2.2.2.2.1) z_Timer)] : List D_Timer)), v.2.2.2.2.2.2.1, v.2.2.2.2.2.2.2.1, (IntKind.wrap .i64 (v.2.2.2.2.2.2.2.2.1 + (1 : Int))), ())
              else none
            else none
          else none
        else
          rec ((), v.2.1, v.2.2.1, v.2.2.2.1, v.2.2.2.2.1, v.2.2.2.2.2.1, v.2.2.2.2.2.2.1, v.2.2.2.2.2.2.2.1, (IntKind.wrap .i64 (v.2.2.2.2.2.2.2.2.1 + (1 : Int))), ())
      else none
    else none
  else
    some ((), v.2.1, v.2.2.1, v.2.2.2.1, v.2.2.2.2.1, v.2.2.2.2.2.1, v.2.2.2.2.2.2.1, v.2.2.2.2.2.2.2.1, ())
def spec_WheelRun_s7 (k : Nat) (rec : (Unit × (Int × (D_Wheel × (D_Wheel × ((List D_Timer) × ((List D_Timer) × (D_Wheel × (Int × Unit)))))))) → Option ((Unit × (D_Wheel × ((List D_Timer) × (D_Wheel × Unit)))))) (v : (Unit × (Int × (D_Wheel × (D_Wheel × ((List D_Timer) × ((List D_Timer) × (D_Wheel × (Int × Unit))))))))) : Option ((Unit × (D_Wheel × ((List D_Timer) × (D_Wheel × Unit))))) :=
  bif (decide (v.2.2.2.2.2.2.2.1 ≤ (IntKind.wrap .i64 (v.2.2.1.1 + v.2.1)))) then
    (iter (spec_WheelRun_s10) k ((), v.2.1, v.2.2.1, v.2.2.2.1, v.2.2.2.2.1, v.2.2.2.2.2.1, v.2.2.2.2.2.2.1, v.2.2.2.2.2.2.2.1, (0 : Int), ())).bind fun o4 =>
      (spec_l12Without k o4.2.2.2.2.2.2.1 o4.2.2.2.2.2.2.2.1 (-1 : Int) o4.2.2.2.2.2.2.2.1).bind fun t5 =>
        rec ((), o4.2.1, o4.2.2.1, o4.2.2.2.1, o4.2.2.2.2.1, o4.2.2.2.2.2.1, t5.1.1, (IntKind.wrap .i64 (o4.2.2.2.2.2.2.2.1 + (1 : Int))), ())
  else
    some ((), v.2.2.2.1, v.2.2.2.2.2.1, v.2.2.2.2.2.2.1, ())
def spec_WheelRun (k : Nat) (x0 : D_Wheel) (x1 : Int) : Option ((D_Wheel × D_Spoke) × Unit) :=
  (spec_WheelOk k x0).bind fun t1 =>
    bif (!(!t1.1.1)) then
      bif (!(decide (x1 < (0 : Int)))) then
        bif (!(decide ((1000 : Int) < x1))) then
          bif (decide ((1000000000000 : Int) < (IntKind.wrap .i64 (x0.1 + x1)))) then
            some ((((0 : Int), ([] : List D_Spoke), ()), ([] : List D_Timer), ()), ())
          else
            (spec_l12All k x0).bind fun t2 =>
              (spec_l12Without k x0 x0.1 (-1 : Int) (-1 : Int)).bind fun t3 =>
                (iter (spec_WheelRun_s7 k) k ((), x1, x0, ((0 : Int), ([] : List D_Spoke), ()), t2.1.1, ([] : List D_Timer), t3.1.1, (IntKind.wrap .i64 (x0.1 + (1 : Int))), ())).bind fun o4 =>
                  some ((o4.2.2.2.1, o4.2.2.1, ()), ())
        else
          some ((((0 : Int), ([] : List D_Spoke), ()), ([] : List D_Timer), ()), ())
      else
        some ((((0 : Int), ([] : List D_Spoke), ()), ([] : List D_Timer), ()), ())
    else
      some ((((0 : Int), ([] : List D_Spoke), ()), ([] : List D_Timer), ()), ())
def impl_within (x0 : Int) (x1 : Int) (x2 : Int) : Option ((Bool × Unit) × Unit) :=
  bif (decide (x1 ≤ x0)) then
    some (((decide (x0 ≤ x2)), ()), ())
  else
    some ((false, ()), ())
def impl_isNow (x0 : Int) : Option ((Bool × Unit) × Unit) :=
  (impl_within x0 (0 : Int) (1000000000000 : Int)).bind fun t1 =>
    some (t1.1, ())
def impl_Wheel_isAhead (x0 : D_Wheel) (x1 : Int) : Option ((Bool × Unit) × Unit) :=
  (impl_within x1 (IntKind.wrap .i64 (x0.1 + (1 : Int))) (IntKind.wrap .i64 (x0.1 + (1000 : Int)))).bind fun t1 =>
    some (t1.1, ())
def impl_WheelOk_s8 (rec : (Unit × (D_Wheel × ((List (Int × Bool)) × (Int × ((List D_Spoke) × (Int × (Int × ((List D_Timer) × D_Timer)))))))) → Option ((Unit × (Bool × Unit)) ⊕ (Unit × (D_Wheel × ((List (Int × Bool)) × ((List D_Spoke) × D_Timer)))))) (v : (Unit × (D_Wheel × ((List (Int × Bool)) × (Int × ((List D_Spoke) × (Int × (Int × ((List D_Timer) × D_Timer))))))))) : Option ((Unit × (Bool × Unit)) ⊕ (Unit × (D_Wheel × ((List (Int × Bool)) × ((List D_Spoke) × D_Timer))))) :=
  bif (decide (v.2.2.2.2.2.2.2.2.2.1 < v.2.2.2.2.2.2.2.2.1)) then
    bif ((decide ((0 : Int) ≤ v.2.2.2.2.2.2.2.2.2.1)) && (decide (v.2.2.2.2.2.2.2.2.2.1 < (((List.length v.2.2.2.2.2.2.2.1) : Nat) : Int)))) then
      bif (decide ((Int.toNat v.2.2.2.2.2.2.2.2.2.1) < (List.length v.2.2.2.2.2.2.2.1))) then
        (impl_within (List.getD v.2.2.2.2.2.2.2.1 (Int.toNat v.2.2.2.2.2.2.2.2.2.1) z_Timer).1 (0 : Int) (9999 : Int)).bind fun t2 =>
          bif (!(!t2.1.1)) then
            bif (!(mget v.2.2.1 (List.getD v.2.2.2.2.2.2.2.1 (Int.toNat v.2.2.2.2.2.2.2.2.2.1) z_Timer).1)) then
              (impl_Wheel_isAhead v.2.1 (List.getD v.2.2.2.2.2.2.2.1 (Int.toNat v.2.2.2.2.2.2.2.2.2.1) z_Timer).2.1).bind fun t3 =>
                bif (!(!t3.1.1)) then
                  bif (!(decide ((Int.tmod (List.getD v.2.2.2.2.2.2.2.1 (Int.toNat v.2.2.2.2.2.2.2.2.2.1) z_Timer).2.1 (8 : Int)) = v.2.2.2.1))) then
                    some (Sum.inl ((), false, ()))
                  else
                    rec ((), v.2.1, (mset v.2.2.1 (List.getD v.2.2.2.2.2.2.2.1 (Int.toNat v.2.2.2.2.2.2.2.2.2.1) z_Timer).1 true), v.2.2.2.1, v.2.2.2.2.1, v.2.2.2.2.2.1, v.2.2.2.2.2.2.1, v.2.2.2.2.2.2.2.1, v.2.2.2.2.2.2.2.2.1, (IntKind.wrap .i64 (v.2.2.2.2.2.2.2.2.2.1 + (1 : Int))), ())
                else
                  some (Sum.inl ((), false, ()))
            else
              some (Sum.inl ((), false, ()))
          else
            some (Sum.inl ((), false, ()))
      else none
    else none
  else
    some (Sum.inr ((), v.2.1, v.2.2.1, v.2.2.2.2.1, v.2.2.2.2.2.1, v.2.2.2.2.2.2.1, ()))
def impl_WheelOk_s5 (k : Nat) (rec : (Unit × (D_Wheel × ((List (Int × Bool)) × ((List D_Spoke) × D_Timer)))) → Option ((Unit × (Bool × Unit)) ⊕ (Unit × ((List (Int × Bool)) × Unit)))) (v : (Unit × (D_Wheel × ((List (Int × Bool)) × ((List D_Spoke) × D_Timer))))) : Option ((Unit × (Bool × Unit)) ⊕ (Unit × ((List (Int × Bool)) × Unit))) :=
  bif (decide (v.2.2.2.2.2.1 < v.2.2.2.2.1)) then
    bif ((decide ((0 : Int) ≤ v.2.2.2.2.2.1)) && (decide (v.2.2.2.2.2.1 < (((List.length v.2.2.2.1) : Nat) : Int)))) then
      bif (decide ((Int.toNat v.2.2.2.2.2.1) < (List.length v.2.2.2.1))) then
        (iter (impl_WheelOk_s8) k ((), v.2.1, v.2.2.1, v.2.2.2.2.2.1, v.2.2.2.1, v.2.2.2.2.1, v.2.2.2.2.2.1, (List.getD v.2.2.2.1 (Int.toNat v.2.2.2.2.2.1) z_Spoke).1, (((List.length (List.getD v.2.2.2.1 (Int.toNat v.2.2.2.2.2.1) z_Spoke).1) : Nat) : Int), (0 : Int), ())).bind fun o2 =>
          Sum.elim (fun a3 =>
            some (Sum.inl ((), a3.2)))
          (fun b4 =>
            rec ((), b4.2.1, b4.2.2.1, b4.2.2.2.1, b4.2.2.2.2.1, (IntKind.wrap .i64 (b4.2.2.2.2.2.1 + (1 : Int))), ())) o2
      else none
    else none
  else
    some (Sum.inr ((), v.2.2.1, ()))
def impl_WheelOk (k : Nat) (x0 : D_Wheel) : Option ((Bool × Unit) × Unit) :=
  (impl_isNow x0.1).bind fun t1 =>
    bif (!(!t1.1.1)) then
      bif (!(decide ((((List.length x0.2.1) : Nat) : Int) = (8 : Int)))) then
        some ((false, ()), ())
      else
        (iter (impl_WheelOk_s5 k) k ((), x0, ([] : List (Int × Bool)), x0.2.1, (((List.length x0.2.1) : Nat) : Int), (0 : Int), ())).bind fun o2 =>
          Sum.elim (fun a3 =>
            some (a3.2, ()))
          (fun b4 =>
            some (((decide ((((List.length b4.2.1) : Nat) : Int) ≤ (64 : Int))), ()), ())) o2
    else
      some ((false, ()), ())
def slices_Clone_impl_Timer_impl_Timer (x0 : (List D_Timer)) : Option (((List D_Timer) × Unit) × Unit) :=
  bif (decide (((0 : Nat) + (List.length x0)) * 16 ≤ (1099511627776 : Nat))) then some ((x0, ()), ()) else none
def impl_WheelRun_1 (x0 : D_Timer) : Option ((Bool × Unit) × Unit) :=
  some ((false, ()), ())
def impl_Wheel_tick_1 (x0 : D_Timer) (x1 : Int) : Option ((Bool × Unit) × Unit) :=
  some (((decide (x0.2.1 = x1)), ()), ())
def slices_IndexFunc_impl_Timer_impl_Timer_s2 (rec : (Unit × ((List D_Timer) × ((Int × Unit) × D_Timer))) → Option ((Unit × (Int × Unit)) ⊕ (Unit × Unit))) (v : (Unit × ((List D_Timer) × ((Int × Unit) × D_Timer)))) : Option ((Unit × (Int × Unit)) ⊕ (Unit × Unit)) :=
  bif (decide (v.2.2.2.2.1 < v.2.2.2.1)) then
    bif ((decide ((0 : Int) ≤ v.2.2.2.2.1)) && (decide (v.2.2.2.2.1 < (((List.length v.2.1) : Nat) : Int)))) then
      bif (decide ((Int.toNat v.2.2.2.2.1) < (List.length v.2.1))) then
        (impl_Wheel_tick_1 (List.getD v.2.1 (Int.toNat v.2.2.2.2.1) z_Timer) v.2.2.1.1).bind fun t1 =>
          bif t1.1.1 then
            some (Sum.inl ((), v.2.2.2.2))
          else
            rec ((), v.2.1, (v.2.2.1.1, ()), v.2.2.2.1, (IntKind.wrap .i64 (v.2.2.2.2.1 + (1 : Int))), ())
      else none
    else none
  else
    some (Sum.inr ((), ()))
def slices_IndexFunc_impl_Timer_impl_Timer (k : Nat) (x0 : (List D_Timer)) (x1 : (Int × Unit)) : Option ((Int × Unit) × Unit) :=
  (iter (slices_IndexFunc_impl_Timer_impl_Timer_s2) k ((), x0, (x1.1, ()), (((List.length x0) : Nat) : Int), (0 : Int), ())).bind fun o1 =>
    Sum.elim (fun a2 =>
      some (a2.2, ()))
    (fun b3 =>
      some (((-1 : Int), ()), ())) o1
def slices_DeleteFunc_impl_Timer_impl_Timer_s5 (rec : (Unit × ((List D_Timer) × ((Int × Unit) × D_Timer))) → Option ((Unit × ((List D_Timer) × (Int × Unit))))) (v : (Unit × ((List D_Timer) × ((Int × Unit) × D_Timer)))) : Option ((Unit × ((List D_Timer) × (Int × Unit)))) :=
  bif (decide (v.2.2.2.2.1 < (((List.length v.2.1) : Nat) : Int))) then
    bif ((decide ((0 : Int) ≤ v.2.2.2.2.1)) && (decide (v.2.2.2.2.1 < (((List.length v.2.1) : Nat) : Int)))) then
      bif (decide ((Int.toNat v.2.2.2.2.1) < (List.length v.2.1))) then
        (impl_Wheel_tick_1 (List.getD v.2.1 (Int.toNat v.2.2.2.2.1) z_Timer) v.2.2.1.1).bind fun t2 =>
          bif (!t2.1.1) then
            bif ((decide ((0 : Int) ≤ v.2.2.2.1)) && (decide (v.2.2.2.1 < (((List.length v.2.1) : Nat) : Int)))) then
              bif (decide ((Int.toNat v.2.2.2.1) < (List.length v.2.1))) then
                let y3 : (List D_Timer) := (List.set v.2.1 (Int.toNat v.2.2.2.1) (List.getD v.2.1 (Int.toNat v.2.2.2.2.1) z_Timer))
                rec ((), y3, (v.2.2.1.1, ()), (IntKind.wrap .i64 (v.2.2.2.1 + (1 : Int))), (IntKind.wrap .i64 (v.2.2.2.2.1 + (1 : Int))), ())
              else none
            else none
          else
            rec ((), v.2.1, (v.2.2.1.1, ()), v.2.2.2.1, (IntKind.wrap .i64 (v.2.2.2.2.1 + (1 : Int))), ())
      else none
    else none
  else
    some ((), v.2.1, v.2.2.2.1, ())
def slices_DeleteFunc_impl_Timer_impl_Timer (k : Nat) (x0 : (List D_Timer)) (x1 : (Int × Unit)) : Option (D_Spoke × D_Spoke) :=
  (slices_IndexFunc_impl_Timer_impl_Timer k x0 (x1.1, ())).bind fun t1 =>
    bif (decide (t1.1.1 = (-1 : Int))) then
      some ((x0, ()), ([] : List D_Timer), ())
    else
      (iter (slices_DeleteFunc_impl_Timer_impl_Timer_s5) k ((), x0, (x1.1, ()), t1.1.1, (IntKind.wrap .i64 (t1.1.1 + (1 : Int))), ())).bind fun o2 =>
        bif (((decide ((0 : Int) ≤ o2.2.2.1)) && (decide (o2.2.2.1 ≤ (((List.length o2.2.1) : Nat) : Int)))) && (decide ((((List.length o2.2.1) : Nat) : Int) ≤ (((List.length o2.2.1) : Nat) : Int)))) then
          bif ((decide ((0 : Int) ≤ o2.2.2.1)) && (decide (o2.2.2.1 ≤ (((List.length (clr ((0 : Int), (0 : Int), ()) (Int.toNat o2.2.2.1) ((List.length o2.2.1) - (Int.toNat o2.2.2.1)) o2.2.1)) : Nat) : Int)))) then
            some (((List.take (Int.toNat o2.2.2.1) (clr ((0 : Int), (0 : Int), ()) (Int.toNat o2.2.2.1) ((List.length o2.2.1) - (Int.toNat o2.2.2.1)) o2.2.1)), ()), ([] : List D_Timer), ())
          else none
        else none
def impl_copyWheel_s3 (k : Nat) (rec : (Unit × ((Int × Unit) × (D_Wheel × (D_Wheel × ((List D_Spoke) × ((List D_Spoke) × D_Timer)))))) → Option ((Unit × (D_Wheel × (D_Wheel × ((List D_Spoke) × Unit)))))) (v : (Unit × ((Int × Unit) × (D_Wheel × (D_Wheel × ((List D_Spoke) × ((List D_Spoke) × D_Timer))))))) : Option ((Unit × (D_Wheel × (D_Wheel × ((List D_Spoke) × Unit))))) :=
  bif (decide (v.2.2.2.2.2.2.2.1 < v.2.2.2.2.2.2.1)) then
    bif ((decide ((0 : Int) ≤ v.2.2.2.2.2.2.2.1)) && (decide (v.2.2.2.2.2.2.2.1 < (((List.length v.2.2.2.2.2.1) : Nat) : Int)))) then
      bif (decide ((Int.toNat v.2.2.2.2.2.2.2.1) < (List.length v.2.2.2.2.2.1))) then
        (slices_Clone_impl_Timer_impl_Timer (List.getD v.2.2.2.2.2.1 (Int.toNat v.2.2.2.2.2.2.2.1) z_Spoke).1).bind fun t1 =>
          (slices_DeleteFunc_impl_Timer_impl_Timer k t1.1.1 (v.2.1.1, ())).bind fun t2 =>
            bif (decide ((((List.length v.2.2.2.2.1) + (1 : Nat)) * 24) ≤ (1099511627776 : Nat))) then
              rec ((), (v.2.1.1, ()), v.2.2.1, v.2.2.2.1, (v.2.2.2.2.1 ++ ([t2.1] : List D_Spoke)), v.2.2.2.2.2.1, v.2.2.2.2.2.2.1, (IntKind.wrap .i64 (v.2.2.2.2.2.2.2.1 + (1 : Int))), ())
            else none
      else none
    else none
  else
    some ((), v.2.2.1, v.2.2.2.1, v.2.2.2.2.1, ())
def impl_copyWheel (k : Nat) (x0 : D_Wheel) (x1 : (Int × Unit)) : Option ((D_Wheel × Unit) × Unit) :=
  (iter (impl_copyWheel_s3 k) k ((), (x1.1, ()), x0, ((0 : Int), ([] : List D_Spoke), ()), ([] : List D_Spoke), x0.2.1, (((List.length x0.2.1) : Nat) : Int), (0 : Int), ())).bind fun o1 =>
    some (((o1.2.1.1, o1.2.2.2), ()), ())
def impl_Wheel_tick_s3 (rec : (Unit × (D_Wheel × (D_Wheel × (Int × ((List D_Timer) × ((List D_Timer) × D_Timer)))))) → Option ((Unit × (D_Wheel × (D_Wheel × (Int × D_Spoke)))))) (v : (Unit × (D_Wheel × (D_Wheel × (Int × ((List D_Timer) × ((List D_Timer) × D_Timer))))))) : Option ((Unit × (D_Wheel × (D_Wheel × (Int × D_Spoke))))) :=
  bif (decide (v.2.2.2.2.2.2.2.1 < v.2.2.2.2.2.2.1)) then
    bif ((decide ((0 : Int) ≤ v.2.2.2.2.2.2.2.1)) && (decide (v.2.2.2.2.2.2.2.1 < (((List.length v.2.2.2.2.2.1) : Nat) : Int)))) then
      bif (decide ((Int.toNat v.2.2.2.2.2.2.2.1) < (List.length v.2.2.2.2.2.1))) then
        bif (decide ((List.getD v.2.2.2.2.2.1 (Int.toNat v.2.2.2.2.2.2.2.1) z_Timer).2.1 = v.2.2.2.1)) then
          bif (decide ((((List.length v.2.2.2.2.1) + (1 : Nat)) * 16) ≤ (1099511627776 : Nat))) then
            rec ((), v.2.1, v.2.2.1, v.2.2.2.1, (v.2.2.2.2.1 ++ ([(List.getD v.2.2.2.2.2.1 (Int.toNat v.2.2.2.2.2.2.2.1) z_Timer)] : List D_Timer)), v.2.2.2.2.2.1, v.2.2.2.2.2.2.1, (IntKind.wrap .i64 (v.2.2.2.2.2.2.2.1 + (1 : Int))), ())
          else none
        else
          rec ((), v.2.1, v.2.2.1, v.2.2.2.1, v.2.2.2.2.1, v.2.2.2.2.2.1, v.2.2.2.2.2.2.1, (IntKind.wrap .i64 (v.2.2.2.2.2.2.2.1 + (1 : Int))), ())
      else none
    else none
  else
    some ((), v.2.1, v.2.2.1, v.2.2.2.1, v.2.2.2.2.1, ())
def impl_Wheel_tick (k : Nat) (x0 : D_Wheel) : Option ((D_Wheel × D_Spoke) × Unit) :=
  bif ((decide ((0 : Int) ≤ (Int.tmod (IntKind.wrap .i64 (x0.1 + (1 : Int))) (8 : Int)))) && (decide ((Int.tmod (IntKind.wrap .i64 (x0.1 + (1 : Int))) (8 : Int)) < (((List.length x0.2.1) : Nat) : Int)))) then
    bif (decide ((Int.toNat (Int.tmod (IntKind.wrap .i64 (x0.1 + (1 : Int))) (8 : Int))) < (List.length x0.2.1))) then
      (iter (impl_Wheel_tick_s3) k ((), x0, ((0 : Int), ([] : List D_Spoke), ()), (IntKind.wrap .i64 (x0.1 + (1 : Int))), ([] : List D_Timer), (List.getD x0.2.1 (Int.toNat (Int.tmod (IntKind.wrap .i64 (x0.1 + (1 : Int))) (8 : Int))) z_Spoke).1, (((List.length (List.getD x0.2.1 (Int.toNat (Int.tmod (IntKind.wrap .i64 (x0.1 + (1 : Int))) (8 : Int))) z_Spoke).1) : Nat) : Int), (0 : Int), ())).bind fun o1 =>
        (impl_copyWheel k o1.2.1 (o1.2.2.2.1, ())).bind fun t2 =>
          some (((o1.2.2.2.1, t2.1.1.2), o1.2.2.2.2), ())
    else none
  else none
def slices_IndexFunc_impl_Timer_impl_Timer_1_s2 (rec : (Unit × ((List D_Timer) × (Unit × D_Timer))) → Option ((Unit × (Int × Unit)) ⊕ (Unit × Unit))) (v : (Unit × ((List D_Timer) × (Unit × D_Timer)))) : Option ((Unit × (Int × Unit)) ⊕ (Unit × Unit)) :=
  bif (decide (v.2.2.2.2.1 < v.2.2.2.1)) then
    bif ((decide ((0 : Int) ≤ v.2.2.2.2.1)) && (decide (v.2.2.2.2.1 < (((List.length v.2.1) : Nat) : Int)))) then
      bif (decide ((Int.toNat v.2.2.2.2.1) < (List.length v.2.1))) then
        (impl_WheelRun_1 (List.getD v.2.1 (Int.toNat v.2.2.2.2.1) z_Timer)).bind fun t1 =>
          bif t1.1.1 then
            some (Sum.inl ((), v.2.2.2.2))
          else
            rec ((), v.2.1, (), v.2.2.2.1, (IntKind.wrap .i64 (v.2.2.2.2.1 + (1 : Int))), ())
      else none
    else none
  else
    some (Sum.inr ((), ()))
def slices_IndexFunc_impl_Timer_impl_Timer_1 (k : Nat) (x0 : (List D_Timer)) (x1 : Unit) : Option ((Int × Unit) × Unit) :=
  (iter (slices_IndexFunc_impl_Timer_impl_Timer_1_s2) k ((), x0, (), (((List.length x0) : Nat) : Int), (0 : Int), ())).bind fun o1 =>
    Sum.elim (fun a2 =>
      some (a2.2, ()))
    (fun b3 =>
      some (((-1 : Int), ()), ())) o1
def slices_DeleteFunc_impl_Timer_impl_Timer_1_s5 (rec : (Unit × ((List D_Timer) × (Unit × D_Timer))) → Option ((Unit × ((List D_Timer) × (Int × Unit))))) (v : (Unit × ((List D_Timer) × (Unit × D_Timer)))) : Option ((Unit × ((List D_Timer) × (Int × Unit)))) :=
  bif (decide (v.2.2.2.2.1 < (((List.length v.2.1) : Nat) : Int))) then
    bif ((decide ((0 : Int) ≤ v.2.2.2.2.1)) && (decide (v.2.2.2.2.1 < (((List.length v.2.1) : Nat) : Int)))) then
      bif (decide ((Int.toNat v.2.2.2.2.1) < (List.length v.2.1))) then
        (impl_WheelRun_1 (List.getD v.2.1 (Int.toNat v.2.2.2.2.1) z_Timer)).bind fun t2 =>
          bif (!t2.1.1) then
            bif ((decide ((0 : Int) ≤ v.2.2.2.1)) && (decide (v.2.2.2.1 < (((List.length v.2.1) : Nat) : Int)))) then
              bif (decide ((Int.toNat v.2.2.2.1) < (List.length v.2.1))) then
                let y3 : (List D_Timer) := (List.set v.2.1 (Int.toNat v.2.2.2.1) (List.getD v.2.1 (Int.toNat v.2.2.2.2.1) z_Timer))
                rec ((), y3, (), (IntKind.wrap .i64 (v.2.2.2.1 + (1 : Int))), (IntKind.wrap .i64 (v.2.2.2.2.1 + (1 : Int))), ())
              else none
            else none
          else
            rec ((), v.2.1, (), v.2.2.2.1, (IntKind.wrap .i64 (v.2.2.2.2.1 + (1 : Int))), ())
      else none
    else none
  else
    some ((), v.2.1, v.2.2.2.1, ())
def slices_DeleteFunc_impl_Timer_impl_Timer_1 (k : Nat) (x0 : (List D_Timer)) (x1 : Unit) : Option (D_Spoke × D_Spoke) :=
  (slices_IndexFunc_impl_Timer_impl_Timer_1 k x0 ()).bind fun t1 =>
    bif (decide (t1.1.1 = (-1 : Int))) then
      some ((x0, ()), ([] : List D_Timer), ())
    else
      (iter (slices_DeleteFunc_impl_Timer_impl_Timer_1_s5) k ((), x0, (), t1.1.1, (IntKind.wrap .i64 (t1.1.1 + (1 : Int))), ())).bind fun o2 =>
        bif (((decide ((0 : Int) ≤ o2.2.2.1)) && (decide (o2.2.2.1 ≤ (((List.length o2.2.1) : Nat) : Int)))) && (decide ((((List.length o2.2.1) : Nat) : Int) ≤ (((List.length o2.2.1) : Nat) : Int)))) then
          bif ((decide ((0 : Int) ≤ o2.2.2.1)) && (decide (o2.2.2.1 ≤ (((List.length (clr ((0 : Int), (0 : Int), ()) (Int.toNat o2.2.2.1) ((List.length o2.2.1) - (Int.toNat o2.2.2.1)) o2.2.1)) : Nat) : Int)))) then
            some (((List.take (Int.toNat o2.2.2.1) (clr ((0 : Int), (0 : Int), ()) (Int.toNat o2.2.2.1) ((List.length o2.2.1) - (Int.toNat o2.2.2.1)) o2.2.1)), ()), ([] : List D_Timer), ())
          else none
        else none
def impl_copyWheel_1_s3 (k : Nat) (rec : (Unit × (Unit × (D_Wheel × (D_Wheel × ((List D_Spoke) × ((List D_Spoke) × D_Timer)))))) → Option ((Unit × (D_Wheel × (D_Wheel × ((List D_Spoke) × Unit)))))) (v : (Unit × (Unit × (D_Wheel × (D_Wheel × ((List D_Spoke) × ((List D_Spoke) × D_Timer))))))) : Option ((Unit × (D_Wheel × (D_Wheel × ((List D_Spoke) × Unit))))) :=
  bif (decide (v.2.2.2.2.2.2.2.1 < v.2.2.2.2.2.2.1)) then
    bif ((decide ((0 : Int) ≤ v.2.2.2.2.2.2.2.1)) && (decide (v.2.2.2.2.2.2.2.1 < (((List.length v.2.2.2.2.2.1) : Nat) : Int)))) then
      bif (decide ((Int.toNat v.2.2.2.2.2.2.2.1) < (List.length v.2.2.2.2.2.1))) then
        (slices_Clone_impl_Timer_impl_Timer (List.getD v.2.2.2.2.2.1 (Int.toNat v.2.2.2.2.2.2.2.1) z_Spoke).1).bind fun t1 =>
          (slices_DeleteFunc_impl_Timer_impl_Timer_1 k t1.1.1 ()).bind fun t2 =>
            bif (decide ((((List.length v.2.2.2.2.1) + (1 : Nat)) * 24) ≤ (1099511627776 : Nat))) then
              rec ((), (), v.2.2.1, v.2.2.2.1, (v.2.2.2.2.1 ++ ([t2.1] : List D_Spoke)), v.2.2.2.2.2.1, v.2.2.2.2.2.2.1, (IntKind.wrap .i64 (v.2.2.2.2.2.2.2.1 + (1 : Int))), ())
            else none
      else none
    else none
  else
    some ((), v.2.2.1, v.2.2.2.1, v.2.2.2.2.1, ())
def impl_copyWheel_1 (k : Nat) (x0 : D_Wheel) (x1 : Unit) : Option ((D_Wheel × Unit) × Unit) :=
  (iter (impl_copyWheel_1_s3 k) k ((), (), x0, ((0 : Int), ([] : List D_Spoke), ()), ([] : List D_Spoke), x0.2.1, (((List.length x0.2.1) : Nat) : Int), (0 : Int), ())).bind fun o1 =>
    some (((o1.2.1.1, o1.2.2.2), ()), ())
def impl_WheelRun_s5 (k : Nat) (rec : (Unit × (D_Wheel × (D_Wheel × ((List D_Timer) × D_Timer)))) → Option ((Unit × (D_Wheel × (D_Wheel × D_Spoke))))) (v : (Unit × (D_Wheel × (D_Wheel × ((List D_Timer) × D_Timer))))) : Option ((Unit × (D_Wheel × (D_Wheel × D_Spoke)))) :=
  bif (decide (v.2.2.2.2.2.1 < v.2.2.2.2.1)) then
    (impl_Wheel_tick k v.2.2.1).bind fun t4 =>
      bif (decide ((((List.length v.2.2.2.1) + (List.length t4.1.2.1)) * 16) ≤ (1099511627776 : Nat))) then
        rec ((), v.2.1, t4.1.1, (v.2.2.2.1 ++ t4.1.2.1), v.2.2.2.2.1, (IntKind.wrap .i64 (v.2.2.2.2.2.1 + (1 : Int))), ())
      else none
  else
    some ((), v.2.1, v.2.2.1, v.2.2.2.1, ())
def impl_WheelRun (k : Nat) (x0 : D_Wheel) (x1 : Int) : Option ((D_Wheel × D_Spoke) × Unit) :=
  (impl_WheelOk k x0).bind fun t1 =>
    bif (!(!t1.1.1)) then
      (impl_within x1 (0 : Int) (1000 : Int)).bind fun t2 =>
        bif (!(!t2.1.1)) then
          bif (decide ((1000000000000 : Int) < (IntKind.wrap .i64 (x0.1 + x1)))) then
            some ((((0 : Int), ([] : List D_Spoke), ()), ([] : List D_Timer), ()), ())
          else
            (impl_copyWheel_1 k x0 ()).bind fun t3 =>
              (iter (impl_WheelRun_s5 k) k ((), ((0 : Int), ([] : List D_Spoke), ()), t3.1.1, ([] : List D_Timer), x1, (0 : Int), ())).bind fun o4 =>
                some (o4.2.2, ())
        else
          some ((((0 : Int), ([] : List D_Spoke), ()), ([] : List D_Timer), ()), ())
    else
      some ((((0 : Int), ([] : List D_Spoke), ()), ([] : List D_Timer), ()), ())
def laws_eqTimer (x0 : D_Timer) (x1 : D_Timer) : Option ((Bool × Unit) × Unit) :=
  bif (!(decide (x0.1 = x1.1))) then
    some ((false, ()), ())
  else
    bif (!(decide (x0.2.1 = x1.2.1))) then
      some ((false, ()), ())
    else
      some ((true, ()), ())
def laws_eqTimerS_s4 (rec : (Unit × ((List D_Timer) × ((List D_Timer) × (Int × Unit)))) → Option ((Unit × (Bool × Unit)) ⊕ (Unit × Unit))) (v : (Unit × ((List D_Timer) × ((List D_Timer) × (Int × Unit))))) : Option ((Unit × (Bool × Unit)) ⊕ (Unit × Unit)) :=
  bif (decide (v.2.2.2.1 < (((List.length v.2.1) : Nat) : Int))) then
    bif ((decide ((0 : Int) ≤ v.2.2.2.1)) && (decide (v.2.2.2.1 < (((List.length v.2.1) : Nat) : Int)))) then
      bif (decide ((Int.toNat v.2.2.2.1) < (List.length v.2.1))) then
        bif ((decide ((0 : Int) ≤ v.2.2.2.1)) && (decide (v.2.2.2.1 < (((List.length v.2.2.1) : Nat) : Int)))) then
          bif (decide ((Int.toNat v.2.2.2.1) < (List.length v.2.2.1))) then
            (laws_eqTimer (List.getD v.2.1 (Int.toNat v.2.2.2.1) z_Timer) (List.getD v.2.2.1 (Int.toNat v.2.2.2.1) z_Timer)).bind fun t1 =>
              bif (!t1.1.1) then
                some (Sum.inl ((), false, ()))
              else
                rec ((), v.2.1, v.2.2.1, (IntKind.wrap .i64 (v.2.2.2.1 + (1 : Int))), ())
          else none
        else none
      else none
    else none
  else
    some (Sum.inr ((), ()))
def laws_eqTimerS (k : Nat) (x0 : (List D_Timer)) (x1 : (List D_Timer)) : Option ((Bool × Unit) × Unit) :=
  bif (!(decide ((((List.length x0) : Nat) : Int) = (((List.length x1) : Nat) : Int)))) then
    some ((false, ()), ())
  else
    (iter (laws_eqTimerS_s4) k ((), x0, x1, (0 : Int), ())).bind fun o1 =>
      Sum.elim (fun a2 =>
        some (a2.2, ()))
      (fun b3 =>
        some ((true, ()), ())) o1
def laws_eqSpoke (k : Nat) (x0 : D_Spoke) (x1 : D_Spoke) : Option ((Bool × Unit) × Unit) :=
  (laws_eqTimerS k x0.1 x1.1).bind fun t1 =>
    bif (!t1.1.1) then
      some ((false, ()), ())
    else
      some ((true, ()), ())
def laws_eqSpokeS_s4 (k : Nat) (rec : (Unit × ((List D_Spoke) × ((List D_Spoke) × (Int × Unit)))) → Option ((Unit × (Bool × Unit)) ⊕ (Unit × Unit))) (v : (Unit × ((List D_Spoke) × ((List D_Spoke) × (Int × Unit))))) : Option ((Unit × (Bool × Unit)) ⊕ (Unit × Unit)) :=
  bif (decide (v.2.2.2.1 < (((List.length v.2.1) : Nat) : Int))) then
    bif ((decide ((0 : Int) ≤ v.2.2.2.1)) && (decide (v.2.2.2.1 < (((List.length v.2.1) : Nat) : Int)))) then
      bif (decide ((Int.toNat v.2.2.2.1) < (List.length v.2.1))) then
        bif ((decide ((0 : Int) ≤ v.2.2.2.1)) && (decide (v.2.2.2.1 < (((List.length v.2.2.1) : Nat) : Int)))) then
          bif (decide ((Int.toNat v.2.2.2.1) < (List.length v.2.2.1))) then
            (laws_eqSpoke k (List.getD v.2.1 (Int.toNat v.2.2.2.1) z_Spoke) (List.getD v.2.2.1 (Int.toNat v.2.2.2.1) z_Spoke)).bind fun t1 =>
              bif (!t1.1.1) then
                some (Sum.inl ((), false, ()))
              else
                rec ((), v.2.1, v.2.2.1, (IntKind.wrap .i64 (v.2.2.2.1 + (1 : Int))), ())
          else none
        else none
      else none
    else none
  else
    some (Sum.inr ((), ()))
def laws_eqSpokeS (k : Nat) (x0 : (List D_Spoke)) (x1 : (List D_Spoke)) : Option ((Bool × Unit) × Unit) :=
  bif (!(decide ((((List.length x0) : Nat) : Int) = (((List.length x1) : Nat) : Int)))) then
    some ((false, ()), ())
  else
    (iter (laws_eqSpokeS_s4 k) k ((), x0, x1, (0 : Int), ())).bind fun o1 =>
      Sum.elim (fun a2 =>
        some (a2.2, ()))
      (fun b3 =>
        some ((true, ()), ())) o1
def laws_eqWheel (k : Nat) (x0 : D_Wheel) (x1 : D_Wheel) : Option ((Bool × Unit) × Unit) :=
  bif (!(decide (x0.1 = x1.1))) then
    some ((false, ()), ())
  else
    (laws_eqSpokeS k x0.2.1 x1.2.1).bind fun t1 =>
      bif (!t1.1.1) then
        some ((false, ()), ())
      else
        some ((true, ()), ())
def laws_markTimerS_s2 (rec : (D_Spoke × (Unit × D_Timer)) → Option ((D_Spoke × (Int × Unit)))) (v : (D_Spoke × (Unit × D_Timer))) : Option ((D_Spoke × (Int × Unit))) :=
  bif (decide (v.2.2.2.1 < (((List.length v.1.1) : Nat) : Int))) then
    bif ((decide ((0 : Int) ≤ v.2.2.2.1)) && (decide (v.2.2.2.1 < (((List.length v.1.1) : Nat) : Int)))) then
      bif (decide ((Int.toNat v.2.2.2.1) < (List.length v.1.1))) then
        let y1 : (List D_Timer) := (List.set v.1.1 (Int.toNat v.2.2.2.1) (v.2.2.1, (List.getD v.1.1 (Int.toNat v.2.2.2.1) z_Timer).2))
        bif ((decide ((0 : Int) ≤ v.2.2.2.1)) && (decide (v.2.2.2.1 < (((List.length y1) : Nat) : Int)))) then
          bif (decide ((Int.toNat v.2.2.2.1) < (List.length y1))) then
            let y2 : (List D_Timer) := (List.set y1 (Int.toNat v.2.2.2.1) ((List.getD y1 (Int.toNat v.2.2.2.1) z_Timer).1, (IntKind.wrap .i64 (v.2.2.1 + (1 : Int))), ()))
            rec ((y2, ()), (), (IntKind.wrap .i64 ((IntKind.wrap .i64 (v.2.2.1 + (1 : Int))) + (1 : Int))), (IntKind.wrap .i64 (v.2.2.2.1 + (1 : Int))), ())
          else none
        else none
      else none
    else none
  else
    some (v.1, v.2.2.1, ())
def laws_markTimerS (k : Nat) (x0 : (List D_Timer)) (x1 : Int) : Option ((Int × Unit) × D_Spoke) :=
  (iter (laws_markTimerS_s2) k ((x0, ()), (), x1, (0 : Int), ())).bind fun o1 =>
    some (o1.2, o1.1)
def laws_markSpokeS_s2 (k : Nat) (rec : (((List D_Spoke) × Unit) × (Unit × D_Timer)) → Option ((((List D_Spoke) × Unit) × (Int × Unit)))) (v : (((List D_Spoke) × Unit) × (Unit × D_Timer))) : Option ((((List D_Spoke) × Unit) × (Int × Unit))) :=
  bif (decide (v.2.2.2.1 < (((List.length v.1.1) : Nat) : Int))) then
    bif ((decide ((0 : Int) ≤ v.2.2.2.1)) && (decide (v.2.2.2.1 < (((List.length v.1.1) : Nat) : Int)))) then
      bif (decide ((Int.toNat v.2.2.2.1) < (List.length v.1.1))) then
        (laws_markTimerS k (List.getD v.1.1 (Int.toNat v.2.2.2.1) z_Spoke).1 v.2.2.1).bind fun t1 =>
          let y2 : (List D_Spoke) := (List.set v.1.1 (Int.toNat v.2.2.2.1) t1.2)
          rec ((y2, ()), (), t1.1.1, (IntKind.wrap .i64 (v.2.2.2.1 + (1 : Int))), ())
      else none
    else none
  else
    some (v.1, v.2.2.1, ())
def laws_markSpokeS (k : Nat) (x0 : (List D_Spoke)) (x1 : Int) : Option ((Int × Unit) × ((List D_Spoke) × Unit)) :=
  (iter (laws_markSpokeS_s2 k) k ((x0, ()), (), x1, (0 : Int), ())).bind fun o1 =>
    some (o1.2, o1.1)
def laws_heldTimerS_s2 (rec : (Unit × ((List D_Timer) × D_Timer)) → Option ((Unit × (Int × Unit)) ⊕ (Unit × (Int × Unit)))) (v : (Unit × ((List D_Timer) × D_Timer))) : Option ((Unit × (Int × Unit)) ⊕ (Unit × (Int × Unit))) :=
  bif (decide (v.2.2.2.1 < (((List.length v.2.1) : Nat) : Int))) then
    bif ((decide ((0 : Int) ≤ v.2.2.2.1)) && (decide (v.2.2.2.1 < (((List.length v.2.1) : Nat) : Int)))) then
      bif (decide ((Int.toNat v.2.2.2.1) < (List.length v.2.1))) then
        bif (!(decide ((List.getD v.2.1 (Int.toNat v.2.2.2.1) z_Timer).1 = v.2.2.1))) then
          some (Sum.inl ((), (-1 : Int), ()))
        else
          bif ((decide ((0 : Int) ≤ v.2.2.2.1)) && (decide (v.2.2.2.1 < (((List.length v.2.1) : Nat) : Int)))) then
            bif (decide ((Int.toNat v.2.2.2.1) < (List.length v.2.1))) then
              bif (!(decide ((List.getD v.2.1 (Int.toNat v.2.2.2.1) z_Timer).2.1 = (IntKind.wrap .i64 (v.2.2.1 + (1 : Int)))))) then
                some (Sum.inl ((), (-1 : Int), ()))
              else
                rec ((), v.2.1, (IntKind.wrap .i64 ((IntKind.wrap .i64 (v.2.2.1 + (1 : Int))) + (1 : Int))), (IntKind.wrap .i64 (v.2.2.2.1 + (1 : Int))), ())
            else none
          else none
      else none
    else none
  else
    some (Sum.inr ((), v.2.2.1, ()))
def laws_heldTimerS (k : Nat) (x0 : (List D_Timer)) (x1 : Int) : Option ((Int × Unit) × Unit) :=
  (iter (laws_heldTimerS_s2) k ((), x0, x1, (0 : Int), ())).bind fun o1 =>
    Sum.elim (fun a2 =>
      some (a2.2, ()))
    (fun b3 =>
      some (b3.2, ())) o1
def laws_heldSpokeS_s2 (k : Nat) (rec : (Unit × ((List D_Spoke) × D_Timer)) → Option ((Unit × (Int × Unit)) ⊕ (Unit × (Int × Unit)))) (v : (Unit × ((List D_Spoke) × D_Timer))) : Option ((Unit × (Int × Unit)) ⊕ (Unit × (Int × Unit))) :=
  bif (decide (v.2.2.2.1 < (((List.length v.2.1) : Nat) : Int))) then
    bif ((decide ((0 : Int) ≤ v.2.2.2.1)) && (decide (v.2.2.2.1 < (((List.length v.2.1) : Nat) : Int)))) then
      bif (decide ((Int.toNat v.2.2.2.1) < (List.length v.2.1))) then
        (laws_heldTimerS k (List.getD v.2.1 (Int.toNat v.2.2.2.1) z_Spoke).1 v.2.2.1).bind fun t1 =>
          bif (decide (t1.1.1 < (0 : Int))) then
            some (Sum.inl ((), (-1 : Int), ()))
          else
            rec ((), v.2.1, t1.1.1, (IntKind.wrap .i64 (v.2.2.2.1 + (1 : Int))), ())
      else none
    else none
  else
    some (Sum.inr ((), v.2.2.1, ()))
def laws_heldSpokeS (k : Nat) (x0 : (List D_Spoke)) (x1 : Int) : Option ((Int × Unit) × Unit) :=
  (iter (laws_heldSpokeS_s2 k) k ((), x0, x1, (0 : Int), ())).bind fun o1 =>
    Sum.elim (fun a2 =>
      some (a2.2, ()))
    (fun b3 =>
      some (b3.2, ())) o1
def laws_heldWheel (k : Nat) (x0 : D_Wheel) (x1 : Int) : Option ((Int × Unit) × Unit) :=
  (laws_heldSpokeS k x0.2.1 x1).bind fun t1 =>
    bif (decide (t1.1.1 < (0 : Int))) then
      some (((-1 : Int), ()), ())
    else
      some (t1.1, ())
def laws_FnExactWheelRun (k : Nat) (x0 : D_Wheel) (x1 : Int) : Option ((Bool × Unit) × Unit) :=
  (laws_szWheel k x0 (1048576 : Int)).bind fun t1 =>
    bif (decide (t1.1.1 < (0 : Int))) then
      some ((true, ()), ())
    else
      (laws_toWheel k x0).bind fun t2 =>
        (spec_WheelRun k t2.1.1 x1).bind fun t3 =>
          (laws_toWheel k x0).bind fun t4 =>
            (impl_WheelRun k t4.1.1 x1).bind fun t5 =>
              (laws_eqWheel k t5.1.1 t3.1.1).bind fun t6 =>
                bif (!(!t6.1.1)) then
                  (laws_eqTimerS k t5.1.2.1 t3.1.2.1).bind fun t7 =>
                    bif (!t7.1.1) then
                      some ((false, ()), ())
                    else
                      (laws_toWheel k x0).bind fun t8 =>
                        (laws_eqWheel k t4.1.1 t8.1.1).bind fun t9 =>
                          bif (!t9.1.1) then
                            some ((false, ()), ())
                          else
                            (laws_markSpokeS k t4.1.1.2.1 (1 : Int)).bind fun t10 =>
                              bif (!(decide (t10.1.1 < (0 : Int)))) then
                                (laws_eqWheel k t5.1.1 t3.1.1).bind fun t11 =>
                                  bif (!(!t11.1.1)) then
                                    (laws_eqTimerS k t5.1.2.1 t3.1.2.1).bind fun t12 =>
                                      bif (!t12.1.1) then
                                        some ((false, ()), ())
                                      else
                                        (laws_markSpokeS k t5.1.1.2.1 (1 : Int)).bind fun t13 =>
                                          (laws_markTimerS k t5.1.2.1 t13.1.1).bind fun t14 =>
                                            (laws_heldWheel k (t5.1.1.1, t13.2) (1 : Int)).bind fun t15 =>
                                              bif (decide (t15.1.1 < (0 : Int))) then
                                                some ((false, ()), ())
                                              else
                                                (laws_heldTimerS k t14.2.1 t15.1.1).bind fun t16 =>
                                                  bif (decide (t16.1.1 < (0 : Int))) then
                                                    some ((false, ()), ())
                                                  else
                                                    bif (!(decide (t16.1.1 = t14.1.1))) then
                                                      some ((false, ()), ())
                                                    else
                                                      (laws_toWheel k x0).bind fun t17 =>
                                                        (impl_WheelRun k t17.1.1 x1).bind fun t18 =>
                                                          (laws_eqWheel k t18.1.1 t3.1.1).bind fun t19 =>
                                                            bif (!(!t19.1.1)) then
                                                              (laws_eqTimerS k t18.1.2.1 t3.1.2.1).bind fun t20 =>
                                                                bif (!t20.1.1) then
                                                                  some ((false, ()), ())
                                                                else
                                                                  (laws_heldWheel k (t5.1.1.1, t13.2) (1 : Int)).bind fun t21 =>
                                                                    bif (decide (t21.1.1 < (0 : Int))) then
                                                                      some ((false, ()), ())
                                                                    else
                                                                      (laws_heldTimerS k t14.2.1 t21.1.1).bind fun t22 =>
                                                                        bif (decide (t22.1.1 < (0 : Int))) then
                                                                          some ((false, ()), ())
                                                                        else
                                                                          bif (!(decide (t22.1.1 = t14.1.1))) then
                                                                            some ((false, ()), ())
                                                                          else
                                                                            some ((true, ()), ())
                                                            else
                                                              some ((false, ()), ())
                                  else
                                    some ((false, ()), ())
                              else
                                some ((false, ()), ())
                else
                  some ((false, ()), ())
def spec_WheelTick_s6 (rec : (Unit × (D_Wheel × (D_Wheel × ((List Int) × ((List D_Timer) × (Int × Unit)))))) → Option ((Unit × (D_Wheel × (D_Wheel × ((List Int) × Unit)))))) (v : (Unit × (D_Wheel × (D_Wheel × ((List Int) × ((List D_Timer) × (Int × Unit))))))) : Option ((Unit × (D_Wheel × (D_Wheel × ((List Int) × Unit))))) :=
  bif (decide (v.2.2.2.2.2.1 < (((List.length v.2.2.2.2.1) : Nat) : Int))) then
    bif ((decide ((0 : Int) ≤ v.2.2.2.2.2.1)) && (decide (v.2.2.2.2.2.1 < (((List.length v.2.2.2.2.1) : Nat) : Int)))) then
      bif (decide ((Int.toNat v.2.2.2.2.2.1) < (List.length v.2.2.2.2.1))) then
        bif (decide ((List.getD v.2.2.2.2.1 (Int.toNat v.2.2.2.2.2.1) z_Timer).2.1 = (IntKind.wrap .i64 (v.2.1.1 + (1 : Int))))) then
          bif ((decide ((0 : Int) ≤ v.2.2.2.2.2.1)) && (decide (v.2.2.2.2.2.1 < (((List.length v.2.2.2.2.1) : Nat) : Int)))) then
            bif (decide ((Int.toNat v.2.2.2.2.2.1) < (List.length v.2.2.2.2.1))) then
              bif (decide ((((List.length v.2.2.2.1) + (1 : Nat)) * 8) ≤ (1099511627776 : Nat))) then
                rec ((), v.2.1, v.2.2.1, (v.2.2.2.1 ++ ([(List.getD v.2.2.2.2.1 (Int.toNat v.2.2.2.2.2.1) z_Timer).1] : List Int)), v.2.2.2.2.1, (IntKind.wrap .i64 (v.2.2.2.2.2.1 + (1 : Int))), ())
              else none
            else none
          else none
        else
          rec ((), v.2.1, v.2.2.1, v.2.2.2.1, v.2.2.2.2.1, (IntKind.wrap .i64 (v.2.2.2.2.2.1 + (1 : Int))), ())
      else none
    else none
  else
    some ((), v.2.1, v.2.2.1, v.2.2.2.1, ())
def spec_WheelTick (k : Nat) (x0 : D_Wheel) : Option ((D_Wheel × ((List Int) × Unit)) × Unit) :=
  (spec_WheelOk k x0).bind fun t1 =>
    bif (!(!t1.1.1)) then
      bif (decide (x0.1 = (1000000000000 : Int))) then
        some ((((0 : Int), ([] : List D_Spoke), ()), ([] : List Int), ()), ())
      else
        (spec_l12All k x0).bind fun t2 =>
          (iter (spec_WheelTick_s6) k ((), x0, ((0 : Int), ([] : List D_Spoke), ()), ([] : List Int), t2.1.1, (0 : Int), ())).bind fun o3 =>
            (spec_l12Without k o3.2.1 (IntKind.wrap .i64 (o3.2.1.1 + (1 : Int))) (-1 : Int) (IntKind.wrap .i64 (o3.2.1.1 + (1 : Int)))).bind fun t4 =>
              some ((t4.1.1, o3.2.2.2), ())
    else
      some ((((0 : Int), ([] : List D_Spoke), ()), ([] : List Int), ()), ())
def impl_WheelTick_s6 (rec : (Unit × (D_Wheel × (D_Wheel × ((List Int) × ((List D_Timer) × D_Timer))))) → Option ((Unit × (D_Wheel × (D_Wheel × ((List Int) × Unit)))))) (v : (Unit × (D_Wheel × (D_Wheel × ((List Int) × ((List D_Timer) × D_Timer)))))) : Option ((Unit × (D_Wheel × (D_Wheel × ((List Int) × Unit))))) :=
  bif (decide (v.2.2.2.2.2.2.1 < v.2.2.2.2.2.1)) then
    bif ((decide ((0 : Int) ≤ v.2.2.2.2.2.2.1)) && (decide (v.2.2.2.2.2.2.1 < (((List.length v.2.2.2.2.1) : Nat) : Int)))) then
      bif (decide ((Int.toNat v.2.2.2.2.2.2.1) < (List.length v.2.2.2.2.1))) then
        bif (decide ((((List.length v.2.2.2.1) + (1 : Nat)) * 8) ≤ (1099511627776 : Nat))) then
          rec ((), v.2.1, v.2.2.1, (v.2.2.2.1 ++ ([(List.getD v.2.2.2.2.1 (Int.toNat v.2.2.2.2.2.2.1) z_Timer).1] : List Int)), v.2.2.2.2.1, v.2.2.2.2.2.1, (IntKind.wrap .i64 (v.2.2.2.2.2.2.1 + (1 : Int))), ())
        else none
      else none
    else none
  else
    some ((), v.2.1, v.2.2.1, v.2.2.2.1, ())
def impl_WheelTick (k : Nat) (x0 : D_Wheel) : Option ((D_Wheel × ((List Int) × Unit)) × Unit) :=
  (impl_WheelOk k x0).bind fun t1 =>
    bif (!(!t1.1.1)) then
      bif (decide (x0.1 = (1000000000000 : Int))) then
        some ((((0 : Int), ([] : List D_Spoke), ()), ([] : List Int), ()), ())
      else
        (impl_Wheel_tick k x0).bind fun t2 =>
          (iter (impl_WheelTick_s6) k ((), ((0 : Int), ([] : List D_Spoke), ()), t2.1.1, ([] : List Int), t2.1.2.1, (((List.length t2.1.2.1) : Nat) : Int), (0 : Int), ())).bind fun o3 =>
            some (o3.2.2, ())
    else
      some ((((0 : Int), ([] : List D_Spoke), ()), ([] : List Int), ()), ())
def laws_eqIntS_s4 (rec : (Unit × ((List Int) × ((List Int) × (Int × Unit)))) → Option ((Unit × (Bool × Unit)) ⊕ (Unit × Unit))) (v : (Unit × ((List Int) × ((List Int) × (Int × Unit))))) : Option ((Unit × (Bool × Unit)) ⊕ (Unit × Unit)) :=
  bif (decide (v.2.2.2.1 < (((List.length v.2.1) : Nat) : Int))) then
    bif ((decide ((0 : Int) ≤ v.2.2.2.1)) && (decide (v.2.2.2.1 < (((List.length v.2.1) : Nat) : Int)))) then
      bif (decide ((Int.toNat v.2.2.2.1) < (List.length v.2.1))) then
        bif ((decide ((0 : Int) ≤ v.2.2.2.1)) && (decide (v.2.2.2.1 < (((List.length v.2.2.1) : Nat) : Int)))) then
          bif (decide ((Int.toNat v.2.2.2.1) < (List.length v.2.2.1))) then
            bif (!(decide ((List.getD v.2.1 (Int.toNat v.2.2.2.1) (0 : Int)) = (List.getD v.2.2.1 (Int.toNat v.2.2.2.1) (0 : Int))))) then
              some (Sum.inl ((), false, ()))
            else
              rec ((), v.2.1, v.2.2.1, (IntKind.wrap .i64 (v.2.2.2.1 + (1 : Int))), ())
          else none
        else none
      else none
    else none
  else
    some (Sum.inr ((), ()))
def laws_eqIntS (k : Nat) (x0 : (List Int)) (x1 : (List Int)) : Option ((Bool × Unit) × Unit) :=
  bif (!(decide ((((List.length x0) : Nat) : Int) = (((List.length x1) : Nat) : Int)))) then
    some ((false, ()), ())
  else
    (iter (laws_eqIntS_s4) k ((), x0, x1, (0 : Int), ())).bind fun o1 =>
      Sum.elim (fun a2 =>
        some (a2.2, ()))
      (fun b3 =>
        some ((true, ()), ())) o1
def laws_markIntS_s2 (rec : (((List Int) × Unit) × (Unit × D_Timer)) → Option ((((List Int) × Unit) × (Int × Unit)))) (v : (((List Int) × Unit) × (Unit × D_Timer))) : Option ((((List Int) × Unit) × (Int × Unit))) :=
  bif (decide (v.2.2.2.1 < (((List.length v.1.1) : Nat) : Int))) then
    bif ((decide ((0 : Int) ≤ v.2.2.2.1)) && (decide (v.2.2.2.1 < (((List.length v.1.1) : Nat) : Int)))) then
      bif (decide ((Int.toNat v.2.2.2.1) < (List.length v.1.1))) then
        let y1 : (List Int) := (List.set v.1.1 (Int.toNat v.2.2.2.1) v.2.2.1)
        rec ((y1, ()), (), (IntKind.wrap .i64 (v.2.2.1 + (1 : Int))), (IntKind.wrap .i64 (v.2.2.2.1 + (1 : Int))), ())
      else none
    else none
  else
    some (v.1, v.2.2.1, ())
def laws_markIntS (k : Nat) (x0 : (List Int)) (x1 : Int) : Option ((Int × Unit) × ((List Int) × Unit)) :=
  (iter (laws_markIntS_s2) k ((x0, ()), (), x1, (0 : Int), ())).bind fun o1 =>
    some (o1.2, o1.1)
def laws_heldIntS_s2 (rec : (Unit × ((List Int) × D_Timer)) → Option ((Unit × (Int × Unit)) ⊕ (Unit × (Int × Unit)))) (v : (Unit × ((List Int) × D_Timer))) : Option ((Unit × (Int × Unit)) ⊕ (Unit × (Int × Unit))) :=
  bif (decide (v.2.2.2.1 < (((List.length v.2.1) : Nat) : Int))) then
    bif ((decide ((0 : Int) ≤ v.2.2.2.1)) && (decide (v.2.2.2.1 < (((List.length v.2.1) : Nat) : Int)))) then
      bif (decide ((Int.toNat v.2.2.2.1) < (List.length v.2.1))) then
        bif (!(decide ((List.getD v.2.1 (Int.toNat v.2.2.2.1) (0 : Int)) = v.2.2.1))) then
          some (Sum.inl ((), (-1 : Int), ()))
        else
          rec ((), v.2.1, (IntKind.wrap .i64 (v.2.2.1 + (1 : Int))), (IntKind.wrap .i64 (v.2.2.2.1 + (1 : Int))), ())
      else none
    else none
  else
    some (Sum.inr ((), v.2.2.1, ()))
def laws_heldIntS (k : Nat) (x0 : (List Int)) (x1 : Int) : Option ((Int × Unit) × Unit) :=
  (iter (laws_heldIntS_s2) k ((), x0, x1, (0 : Int), ())).bind fun o1 =>
    Sum.elim (fun a2 =>
      some (a2.2, ()))
    (fun b3 =>
      some (b3.2, ())) o1
def laws_FnExactWheelTick (k : Nat) (x0 : D_Wheel) : Option ((Bool × Unit) × Unit) :=
  (laws_szWheel k x0 (1048576 : Int)).bind fun t1 =>
    bif (decide (t1.1.1 < (0 : Int))) then
      some ((true, ()), ())
    else
      (laws_toWheel k x0).bind fun t2 =>
        (spec_WheelTick k t2.1.1).bind fun t3 =>
          (laws_toWheel k x0).bind fun t4 =>
            (impl_WheelTick k t4.1.1).bind fun t5 =>
              (laws_eqWheel k t5.1.1 t3.1.1).bind fun t6 =>
                bif (!(!t6.1.1)) then
                  (laws_eqIntS k t5.1.2.1 t3.1.2.1).bind fun t7 =>
                    bif (!t7.1.1) then
                      some ((false, ()), ())
                    else
                      (laws_toWheel k x0).bind fun t8 =>
                        (laws_eqWheel k t4.1.1 t8.1.1).bind fun t9 =>
                          bif (!t9.1.1) then
                            some ((false, ()), ())
                          else
                            (laws_markSpokeS k t4.1.1.2.1 (1 : Int)).bind fun t10 =>
                              bif (!(decide (t10.1.1 < (0 : Int)))) then
                                (laws_eqWheel k t5.1.1 t3.1.1).bind fun t11 =>
                                  bif (!(!t11.1.1)) then
                                    (laws_eqIntS k t5.1.2.1 t3.1.2.1).bind fun t12 =>
                                      bif (!t12.1.1) then
                                        some ((false, ()), ())
                                      else
                                        (laws_markSpokeS k t5.1.1.2.1 (1 : Int)).bind fun t13 =>
                                          (laws_markIntS k t5.1.2.1 t13.1.1).bind fun t14 =>
                                            (laws_heldWheel k (t5.1.1.1, t13.2) (1 : Int)).bind fun t15 =>
                                              bif (decide (t15.1.1 < (0 : Int))) then
                                                some ((false, ()), ())
                                              else
                                                (laws_heldIntS k t14.2.1 t15.1.1).bind fun t16 =>
                                                  bif (decide (t16.1.1 < (0 : Int))) then
                                                    some ((false, ()), ())
                                                  else
                                                    bif (!(decide (t16.1.1 = t14.1.1))) then
                                                      some ((false, ()), ())
                                                    else
                                                      (laws_toWheel k x0).bind fun t17 =>
                                                        (impl_WheelTick k t17.1.1).bind fun t18 =>
                                                          (laws_eqWheel k t18.1.1 t3.1.1).bind fun t19 =>
                                                            bif (!(!t19.1.1)) then
                                                              (laws_eqIntS k t18.1.2.1 t3.1.2.1).bind fun t20 =>
                                                                bif (!t20.1.1) then
                                                                  some ((false, ()), ())
                                                                else
                                                                  (laws_heldWheel k (t5.1.1.1, t13.2) (1 : Int)).bind fun t21 =>
                                                                    bif (decide (t21.1.1 < (0 : Int))) then
                                                                      some ((false, ()), ())
                                                                    else
                                                                      (laws_heldIntS k t14.2.1 t21.1.1).bind fun t22 =>
                                                                        bif (decide (t22.1.1 < (0 : Int))) then
                                                                          some ((false, ()), ())
                                                                        else
                                                                          bif (!(decide (t22.1.1 = t14.1.1))) then
                                                                            some ((false, ()), ())
                                                                          else
                                                                            some ((true, ()), ())
                                                            else
                                                              some ((false, ()), ())
                                  else
                                    some ((false, ()), ())
                              else
                                some ((false, ()), ())
                else
                  some ((false, ()), ())
def laws_big (x0 : (List Int)) : Option ((Bool × Unit) × Unit) :=
  some (((decide ((1048576 : Int) < (((List.length x0) : Nat) : Int))), ()), ())
def spec_WheelNew (k : Nat) (x0 : Int) : Option ((D_Wheel × Unit) × Unit) :=
  (spec_WheelOk k (x0, ([(([] : List D_Timer), ()), (([] : List D_Timer), ()), (([] : List D_Timer), ()), (([] : List D_Timer), ()), (([] : List D_Timer), ()), (([] : List D_Timer), ()), (([] : List D_Timer), ()), (([] : List D_Timer), ())] : List D_Spoke), ())).bind fun t1 =>
    bif (!t1.1.1) then
      some ((((0 : Int), ([] : List D_Spoke), ()), ()), ())
    else
      some (((x0, ([(([] : List D_Timer), ()), (([] : List D_Timer), ()), (([] : List D_Timer), ()), (([] : List D_Timer), ()), (([] : List D_Timer), ()), (([] : List D_Timer), ()), (([] : List D_Timer), ()), (([] : List D_Timer), ())] : List D_Spoke), ()), ()), ())
def spec_l12Has_s3 (rec : (Unit × (Int × ((List D_Timer) × (Int × Unit)))) → Option ((Unit × (Bool × Unit)) ⊕ (Unit × Unit))) (v : (Unit × (Int × ((List D_Timer) × (Int × Unit))))) : Option ((Unit × (Bool × Unit)) ⊕ (Unit × Unit)) :=
  bif (decide (v.2.2.2.1 < (((List.length v.2.2.1) : Nat) : Int))) then
    bif ((decide ((0 : Int) ≤ v.2.2.2.1)) && (decide (v.2.2.2.1 < (((List.length v.2.2.1) : Nat) : Int)))) then
      bif (decide ((Int.toNat v.2.2.2.1) < (List.length v.2.2.1))) then
        bif (decide ((List.getD v.2.2.1 (Int.toNat v.2.2.2.1) z_Timer).1 = v.2.1)) then
          some (Sum.inl ((), true, ()))
        else
          rec ((), v.2.1, v.2.2.1, (IntKind.wrap .i64 (v.2.2.2.1 + (1 : Int))), ())
      else none
    else none
  else
    some (Sum.inr ((), ()))
def spec_l12Has (k : Nat) (x0 : D_Wheel) (x1 : Int) : Option ((Bool × Unit) × Unit) :=
  (spec_l12All k x0).bind fun t1 =>
    (iter (spec_l12Has_s3) k ((), x1, t1.1.1, (0 : Int), ())).bind fun o2 =>
      Sum.elim (fun a3 =>
        some (a3.2, ()))
      (fun b4 =>
        some ((false, ()), ())) o2
def spec_WheelSet (k : Nat) (x0 : D_Wheel) (x1 : Int) (x2 : Int) : Option ((D_Wheel × (Int × Unit)) × Unit) :=
  (spec_WheelOk k x0).bind fun t1 =>
    bif (!(!t1.1.1)) then
      bif (!(decide (x1 < (0 : Int)))) then
        bif (decide ((9999 : Int) < x1)) then
          some ((((0 : Int), ([] : List D_Spoke), ()), (1 : Int), ()), ())
        else
          bif (!(decide (x2 ≤ x0.1))) then
            bif (decide ((IntKind.wrap .i64 (x0.1 + (1000 : Int))) < x2)) then
              some ((((0 : Int), ([] : List D_Spoke), ()), (2 : Int), ()), ())
            else
              (spec_l12Has k x0 x1).bind fun t2 =>
                bif (!t2.1.1) then
                  (spec_l12All k x0).bind fun t3 =>
                    bif (decide ((((List.length t3.1.1) : Nat) : Int) = (64 : Int))) then
                      some ((((0 : Int), ([] : List D_Spoke), ()), (3 : Int), ()), ())
                    else
                      (spec_l12Without k x0 x0.1 x1 (-1 : Int)).bind fun t4 =>
                        bif ((decide ((0 : Int) ≤ (Int.tmod x2 (8 : Int)))) && (decide ((Int.tmod x2 (8 : Int)) < (((List.length t4.1.1.2.1) : Nat) : Int)))) then
                          bif (decide ((Int.toNat (Int.tmod x2 (8 : Int))) < (List.length t4.1.1.2.1))) then
                            bif (decide ((((List.length (List.getD t4.1.1.2.1 (Int.toNat (Int.tmod x2 (8 : Int))) z_Spoke).1) + (1 : Nat)) * 16) ≤ (1099511627776 : Nat))) then
                              bif ((decide ((0 : Int) ≤ (Int.tmod x2 (8 : Int)))) && (decide ((Int.tmod x2 (8 : Int)) < (((List.length t4.1.1.2.1) : Nat) : Int)))) then
                                bif (decide ((Int.toNat (Int.tmod x2 (8 : Int))) = (Int.toNat (Int.tmod x2 (8 : Int))))) then
                                  let y5 : (List D_Spoke) := (List.set t4.1.1.2.1 (Int.toNat (Int.tmod x2 (8 : Int))) (((List.getD t4.1.1.2.1 (Int.toNat (Int.tmod x2 (8 : Int))) z_Spoke).1 ++ ([(x1, x2, ())] : List D_Timer)), ()))
                                  some (((t4.1.1.1, y5, ()), (0 : Int), ()), ())
                                else none
                              else none
                            else none
                          else none
                        else none
                else
                  (spec_l12Without k x0 x0.1 x1 (-1 : Int)).bind fun t6 =>
                    bif ((decide ((0 : Int) ≤ (Int.tmod x2 (8 : Int)))) && (decide ((Int.tmod x2 (8 : Int)) < (((List.length t6.1.1.2.1) : Nat) : Int)))) then
                      bif (decide ((Int.toNat (Int.tmod x2 (8 : Int))) < (List.length t6.1.1.2.1))) then
                        bif (decide ((((List.length (List.getD t6.1.1.2.1 (Int.toNat (Int.tmod x2 (8 : Int))) z_Spoke).1) + (1 : Nat)) * 16) ≤ (1099511627776 : Nat))) then
                          bif ((decide ((0 : Int) ≤ (Int.tmod x2 (8 : Int)))) && (decide ((Int.tmod x2 (8 : Int)) < (((List.length t6.1.1.2.1) : Nat) : Int)))) then
                            bif (decide ((Int.toNat (Int.tmod x2 (8 : Int))) = (Int.toNat (Int.tmod x2 (8 : Int))))) then
                              let y7 : (List D_Spoke) := (List.set t6.1.1.2.1 (Int.toNat (Int.tmod x2 (8 : Int))) (((List.getD t6.1.1.2.1 (Int.toNat (Int.tmod x2 (8 : Int))) z_Spoke).1 ++ ([(x1, x2, ())] : List D_Timer)), ()))
                              some (((t6.1.1.1, y7, ()), (0 : Int), ()), ())
                            else none
                          else none
                        else none
                      else none
                    else none
          else
            some ((((0 : Int), ([] : List D_Spoke), ()), (2 : Int), ()), ())
      else
        some ((((0 : Int), ([] : List D_Spoke), ()), (1 : Int), ()), ())
    else
      some ((((0 : Int), ([] : List D_Spoke), ()), (1 : Int), ()), ())
def spec_l01Cur_pick (x0 : D_l01Cur) (x1 : Int) : Option ((Int × Unit) × (D_l01Cur × Unit)) :=
  bif (decide (x1 < (2 : Int))) then
    some (((0 : Int), ()), x0, ())
  else
    bif (decide (x0.2.1 < (((List.length x0.1) : Nat) : Int))) then
      bif ((decide ((0 : Int) ≤ x0.2.1)) && (decide (x0.2.1 < (((List.length x0.1) : Nat) : Int)))) then
        bif (decide ((Int.toNat x0.2.1) < (List.length x0.1))) then
          bif (!(decide (x1 = (0 : Int)))) then
            some (((Int.tmod (IntKind.wrap .i64 (List.getD x0.1 (Int.toNat x0.2.1) (0 : Int))) x1), ()), (x0.1, (IntKind.wrap .i64 (x0.2.1 + (1 : Int))), x0.2.2), ())
          else none
        else none
      else none
    else
      bif (decide ((0 : Int) < (((List.length x0.1) : Nat) : Int))) then
        bif (!(decide ((((List.length x0.1) : Nat) : Int) = (0 : Int)))) then
          bif ((decide ((0 : Int) ≤ (Int.tmod x0.2.1 (((List.length x0.1) : Nat) : Int)))) && (decide ((Int.tmod x0.2.1 (((List.length x0.1) : Nat) : Int)) < (((List.length x0.1) : Nat) : Int)))) then
            bif (decide ((Int.toNat (Int.tmod x0.2.1 (((List.length x0.1) : Nat) : Int))) < (List.length x0.1))) then
              bif (!(decide (x1 = (0 : Int)))) then
                some (((Int.tmod (IntKind.wrap .i64 ((IntKind.wrap .i64 (Int.tdiv (Int.tmod (IntKind.wrap .i64 ((IntKind.wrap .i64 (x0.2.2.1 * (1103 : Int))) + (12345 : Int))) (65521 : Int)) (7 : Int))) + (IntKind.wrap .i64 (List.getD x0.1 (Int.toNat (Int.tmod x0.2.1 (((List.length x0.1) : Nat) : Int))) (0 : Int))))) x1), ()), (x0.1, (IntKind.wrap .i64 (x0.2.1 + (1 : Int))), (Int.tmod (IntKind.wrap .i64 ((IntKind.wrap .i64 (x0.2.2.1 * (1103 : Int))) + (12345 : Int))) (65521 : Int)), ()), ())
              else none
            else none
          else none
        else none
      else
        bif (!(decide (x1 = (0 : Int)))) then
          some (((Int.tmod (0 : Int) x1), ()), (x0.1, (IntKind.wrap .i64 (x0.2.1 + (1 : Int))), (Int.tmod (IntKind.wrap .i64 ((IntKind.wrap .i64 (x0.2.2.1 * (1103 : Int))) + (12345 : Int))) (65521 : Int)), ()), ())
        else none
def spec_l01Cur_wide (x0 : D_l01Cur) (x1 : Int) : Option ((Int × Unit) × (D_l01Cur × Unit)) :=
  (spec_l01Cur_pick x0 (256 : Int)).bind fun t1 =>
    (spec_l01Cur_pick t1.2.1 (256 : Int)).bind fun t2 =>
      (spec_l01Cur_pick t2.2.1 (256 : Int)).bind fun t3 =>
        bif (!(decide (x1 = (0 : Int)))) then
          some (((Int.tmod (IntKind.wrap .i64 ((IntKind.wrap .i64 ((IntKind.wrap .i64 ((65536 : Int) * t1.1.1)) + (IntKind.wrap .i64 ((256 : Int) * t2.1.1)))) + t3.1.1)) x1), ()), t3.2)
        else none
def spec_l01Cur_size (x0 : D_l01Cur) (x1 : Int) : Option ((Int × Unit) × (D_l01Cur × Unit)) :=
  (spec_l01Cur_pick x0 (IntKind.wrap .i64 ((imin x1 (IntKind.wrap .i64 ((1 : Int) + (IntKind.wrap .i64 (Int.tdiv (((List.length x0.1) : Nat) : Int) (8 : Int)))))) + (1 : Int)))).bind fun t1 =>
    some (t1.1, t1.2)
def spec_l01Cur_wheel_s3 (k : Nat) (rec : ((D_l01Cur × Unit) × (Unit × (D_Wheel × (D_Wheel × (Int × Unit))))) → Option (((D_l01Cur × Unit) × (D_Wheel × (D_Wheel × Unit))))) (v : ((D_l01Cur × Unit) × (Unit × (D_Wheel × (D_Wheel × (Int × Unit)))))) : Option (((D_l01Cur × Unit) × (D_Wheel × (D_Wheel × Unit)))) :=
  bif (decide ((0 : Int) < v.2.2.2.2.1)) then
    (spec_l01Cur_pick (v.1.1.1, v.1.1.2.1, v.1.1.2.2.1, ()) (12 : Int)).bind fun t7 =>
      (spec_l01Cur_pick t7.2.1 (256 : Int)).bind fun t8 =>
        (spec_l01Cur_pick t8.2.1 (4 : Int)).bind fun t9 =>
          (spec_l01Cur_pick t9.2.1 (4 : Int)).bind fun t10 =>
            bif ((decide ((0 : Int) ≤ t10.1.1)) && (decide (t10.1.1 < (4 : Int)))) then
              (spec_l01Cur_pick t10.2.1 (40 : Int)).bind fun t11 =>
                (spec_WheelSet k v.2.2.2.1 t11.1.1 (IntKind.wrap .i64 (v.2.2.2.1.1 + (List.getD ([(IntKind.wrap .i64 ((1 : Int) + t7.1.1)), (IntKind.wrap .i64 ((1 : Int) + t8.1.1)), (1000 : Int), (IntKind.wrap .i64 ((8 : Int) * (IntKind.wrap .i64 ((1 : Int) + t9.1.1))))] : List Int) (Int.toNat t10.1.1) (0 : Int))))).bind fun t12 =>
                  bif (decide (t12.1.2.1 = (0 : Int))) then
                    rec (t11.2, (), v.2.2.1, t12.1.1, (IntKind.wrap .i64 (v.2.2.2.2.1 - (1 : Int))), ())
                  else
                    rec (t11.2, (), v.2.2.1, v.2.2.2.1, (IntKind.wrap .i64 (v.2.2.2.2.1 - (1 : Int))), ())
            else none
  else
    some (((v.1.1.1, v.1.1.2.1, v.1.1.2.2.1, ()), ()), v.2.2.1, v.2.2.2.1, ())
def spec_l01Cur_wheel (k : Nat) (x0 : D_l01Cur) : Option ((D_Wheel × Unit) × (D_l01Cur × Unit)) :=
  (spec_l01Cur_pick x0 (256 : Int)).bind fun t1 =>
    (spec_l01Cur_pick t1.2.1 (12 : Int)).bind fun t2 =>
      (spec_l01Cur_wide t2.2.1 (16777216 : Int)).bind fun t3 =>
        (spec_l01Cur_pick t3.2.1 (4 : Int)).bind fun t4 =>
          bif ((decide ((0 : Int) ≤ t4.1.1)) && (decide (t4.1.1 < (4 : Int)))) then
            bif (decide ((Int.toNat t4.1.1) < (4 : Nat))) then
              (spec_WheelNew k (List.getD ([t1.1.1, (0 : Int), (IntKind.wrap .i64 ((1000000000000 : Int) - t2.1.1)), t3.1.1] : List Int) (Int.toNat t4.1.1) (0 : Int))).bind fun t5 =>
                (spec_l01Cur_size t4.2.1 (30 : Int)).bind fun t6 =>
                  (iter (spec_l01Cur_wheel_s3 k) k (t6.2, (), ((0 : Int), ([] : List D_Spoke), ()), t5.1.1, t6.1)).bind fun o7 =>
                    some (o7.2.2, (o7.1.1.1, o7.1.1.2.1, o7.1.1.2.2.1, ()), ())
            else none
          else none
def spec_l01Cur_raw (x0 : D_l01Cur) : Option ((Int × Unit) × (D_l01Cur × Unit)) :=
  (spec_l01Cur_pick x0 (8 : Int)).bind fun t1 =>
    bif (decide (t1.1.1 = (0 : Int))) then
      (spec_l01Cur_pick t1.2.1 (256 : Int)).bind fun t2 =>
        some (((IntKind.wrap .i64 (t2.1.1 - (128 : Int))), ()), t2.2)
    else
      bif (decide (t1.1.1 = (1 : Int))) then
        (spec_l01Cur_pick t1.2.1 (8 : Int)).bind fun t3 =>
          bif ((decide ((0 : Int) ≤ t3.1.1)) && (decide (t3.1.1 < (8 : Int)))) then
            bif (decide ((Int.toNat t3.1.1) < (8 : Nat))) then
              some (((List.getD ([(9223372036854775807 : Int), (-9223372036854775808 : Int), (4611686018427387904 : Int), (65535 : Int), (65536 : Int), (-1000 : Int), (4294967295 : Int), (4294967296 : Int)] : List Int) (Int.toNat t3.1.1) (0 : Int)), ()), t3.2)
            else none
          else none
      else
        (spec_l01Cur_pick t1.2.1 (14 : Int)).bind fun t4 =>
          some (((IntKind.wrap .i64 (t4.1.1 - (3 : Int))), ()), t4.2)
def spec_l01Cur_badWheel_s14 (k : Nat) (rec : ((D_l01Cur × Unit) × (Unit × (D_Wheel × (D_Wheel × (Int × Unit))))) → Option (((D_l01Cur × Unit) × (D_Wheel × (D_Wheel × Unit))))) (v : ((D_l01Cur × Unit) × (Unit × (D_Wheel × (D_Wheel × (Int × Unit)))))) : Option (((D_l01Cur × Unit) × (D_Wheel × (D_Wheel × Unit)))) :=
  (spec_l12All k v.2.2.2.1).bind fun t12 =>
    (spec_l01Cur_pick (v.1.1.1, v.1.1.2.1, v.1.1.2.2.1, ()) (2 : Int)).bind fun t13 =>
      bif (decide ((((List.length t12.1.1) : Nat) : Int) < (IntKind.wrap .i64 ((64 : Int) + t13.1.1)))) then
        (spec_l01Cur_pick t13.2.1 (200 : Int)).bind fun t14 =>
          bif ((decide ((0 : Int) ≤ (Int.tmod (IntKind.wrap .i64 ((IntKind.wrap .i64 (v.2.2.2.1.1 + (1 : Int))) + t14.1.1)) (8 : Int)))) && (decide ((Int.tmod (IntKind.wrap .i64 ((IntKind.wrap .i64 (v.2.2.2.1.1 + (1 : Int))) + t14.1.1)) (8 : Int)) < (((List.length v.2.2.2.1.2.1) : Nat) : Int)))) then
            bif (decide ((Int.toNat (Int.tmod (IntKind.wrap .i64 ((IntKind.wrap .i64 (v.2.2.2.1.1 + (1 : Int))) + t14.1.1)) (8 : Int))) < (List.length v.2.2.2.1.2.1))) then
              bif (decide ((((List.length (List.getD v.2.2.2.1.2.1 (Int.toNat (Int.tmod (IntKind.wrap .i64 ((IntKind.wrap .i64 (v.2.2.2.1.1 + (1 : Int))) + t14.1.1)) (8 : Int))) z_Spoke).1) + (1 : Nat)) * 16) ≤ (1099511627776 : Nat))) then
                bif ((decide ((0 : Int) ≤ (Int.tmod (IntKind.wrap .i64 ((IntKind.wrap .i64 (v.2.2.2.1.1 + (1 : Int))) + t14.1.1)) (8 : Int)))) && (decide ((Int.tmod (IntKind.wrap .i64 ((IntKind.wrap .i64 (v.2.2.2.1.1 + (1 : Int))) + t14.1.1)) (8 : Int)) < (((List.length v.2.2.2.1.2.1) : Nat) : Int)))) then
                  bif (decide ((Int.toNat (Int.tmod (IntKind.wrap .i64 ((IntKind.wrap .i64 (v.2.2.2.1.1 + (1 : Int))) + t14.1.1)) (8 : Int))) = (Int.toNat (Int.tmod (IntKind.wrap .i64 ((IntKind.wrap .i64 (v.2.2.2.1.1 + (1 : Int))) + t14.1.1)) (8 : Int))))) then
                    let y15 : (List D_Spoke) := (List.set v.2.2.2.1.2.1 (Int.toNat (Int.tmod (IntKind.wrap .i64 ((IntKind.wrap .i64 (v.2.2.2.1.1 + (1 : Int))) + t14.1.1)) (8 : Int))) (((List.getD v.2.2.2.1.2.1 (Int.toNat (Int.tmod (IntKind.wrap .i64 ((IntKind.wrap .i64 (v.2.2.2.1.1 + (1 : Int))) + t14.1.1)) (8 : Int))) z_Spoke).1 ++ ([((IntKind.wrap .i64 ((100 : Int) + v.2.2.2.2.1)), (IntKind.wrap .i64 ((IntKind.wrap .i64 (v.2.2.2.1.1 + (1 : Int))) + t14.1.1)), ())] : List D_Timer)), ()))
                    rec (t14.2, (), v.2.2.1, (v.2.2.2.1.1, y15, ()), (IntKind.wrap .i64 (v.2.2.2.2.1 + (1 : Int))), ())
                  else none
                else none
              else none
            else none
          else none
      else
        some (t13.2, v.2.2.1, v.2.2.2.1, ())
def spec_l01Cur_badWheel (k : Nat) (x0 : D_l01Cur) : Option ((D_Wheel × Unit) × (D_l01Cur × Unit)) :=
  (spec_l01Cur_wheel k x0).bind fun t1 =>
    (spec_l01Cur_pick t1.2.1 (8 : Int)).bind fun t2 =>
      (spec_l01Cur_pick t2.2.1 (14 : Int)).bind fun t3 =>
        bif (decide (t3.1.1 = (0 : Int))) then
          (spec_l01Cur_raw t3.2.1).bind fun t4 =>
            (spec_l01Cur_pick t4.2.1 (2 : Int)).bind fun t5 =>
              bif ((decide ((0 : Int) ≤ t5.1.1)) && (decide (t5.1.1 < (2 : Int)))) then
                some ((((List.getD ([t4.1.1, (IntKind.wrap .i64 (t1.1.1.1 + (1 : Int)))] : List Int) (Int.toNat t5.1.1) (0 : Int)), t1.1.1.2), ()), t5.2)
              else none
        else
          bif (decide (t3.1.1 = (1 : Int))) then
            (spec_l01Cur_pick t3.2.1 (8 : Int)).bind fun t6 =>
              bif ((decide ((0 : Int) ≤ t6.1.1)) && (decide (t6.1.1 ≤ (((List.length t1.1.1.2.1) : Nat) : Int)))) then
                some (((t1.1.1.1, (List.take (Int.toNat t6.1.1) t1.1.1.2.1), ()), ()), t6.2)
              else none
          else
            bif (decide (t3.1.1 = (2 : Int))) then
              bif ((decide ((0 : Int) ≤ t2.1.1)) && (decide (t2.1.1 < (((List.length t1.1.1.2.1) : Nat) : Int)))) then
                bif (decide ((Int.toNat t2.1.1) < (List.length t1.1.1.2.1))) then
                  (spec_l01Cur_raw t3.2.1).bind fun t7 =>
                    (spec_l01Cur_pick t7.2.1 (9 : Int)).bind fun t8 =>
                      bif (decide ((((List.length (List.getD t1.1.1.2.1 (Int.toNat t2.1.1) z_Spoke).1) + (1 : Nat)) * 16) ≤ (1099511627776 : Nat))) then
                        bif ((decide ((0 : Int) ≤ t2.1.1)) && (decide (t2.1.1 < (((List.length t1.1.1.2.1) : Nat) : Int)))) then
                          bif (decide ((Int.toNat t2.1.1) = (Int.toNat t2.1.1))) then
                            let y9 : (List D_Spoke) := (List.set t1.1.1.2.1 (Int.toNat t2.1.1) (((List.getD t1.1.1.2.1 (Int.toNat t2.1.1) z_Spoke).1 ++ ([(t7.1.1, (IntKind.wrap .i64 ((IntKind.wrap .i64 (t1.1.1.1 + (1 : Int))) + t8.1.1)), ())] : List D_Timer)), ()))
                            some (((t1.1.1.1, y9, ()), ()), t8.2)
                          else none
                        else none
                      else none
                else none
              else none
            else
              bif (decide (t3.1.1 = (3 : Int))) then
                bif ((decide ((0 : Int) ≤ t2.1.1)) && (decide (t2.1.1 < (((List.length t1.1.1.2.1) : Nat) : Int)))) then
                  bif (decide ((Int.toNat t2.1.1) < (List.length t1.1.1.2.1))) then
                    (spec_l01Cur_raw t3.2.1).bind fun t10 =>
                      bif (decide ((((List.length (List.getD t1.1.1.2.1 (Int.toNat t2.1.1) z_Spoke).1) + (1 : Nat)) * 16) ≤ (1099511627776 : Nat))) then
                        bif ((decide ((0 : Int) ≤ t2.1.1)) && (decide (t2.1.1 < (((List.length t1.1.1.2.1) : Nat) : Int)))) then
                          bif (decide ((Int.toNat t2.1.1) = (Int.toNat t2.1.1))) then
                            let y11 : (List D_Spoke) := (List.set t1.1.1.2.1 (Int.toNat t2.1.1) (((List.getD t1.1.1.2.1 (Int.toNat t2.1.1) z_Spoke).1 ++ ([((50 : Int), t10.1)] : List D_Timer)), ()))
                            some (((t1.1.1.1, y11, ()), ()), t10.2)
                          else none
                        else none
                      else none
                  else none
                else none
              else
                bif (decide (t3.1.1 = (4 : Int))) then
                  (iter (spec_l01Cur_badWheel_s14 k) k (t3.2, (), ((0 : Int), ([] : List D_Spoke), ()), t1.1.1, (0 : Int), ())).bind fun o12 =>
                    some (o12.2.2, (o12.1.1.1, o12.1.1.2.1, o12.1.1.2.2.1, ()), ())
                else
                  some (t1.1, t3.2)
def spec_DrawWheelRun (k : Nat) (x0 : (List Int)) : Option ((D_Wheel × (Int × Unit)) × Unit) :=
  (spec_l01Cur_badWheel k (x0, (0 : Int), (IntKind.wrap .i64 ((71 : Int) + (Int.tmod (((List.length x0) : Nat) : Int) (1000 : Int)))), ())).bind fun t1 =>
    (spec_l01Cur_pick t1.2.1 (30 : Int)).bind fun t2 =>
      (spec_l01Cur_pick t2.2.1 (256 : Int)).bind fun t3 =>
        (spec_l01Cur_raw t3.2.1).bind fun t4 =>
          (spec_l01Cur_pick t4.2.1 (5 : Int)).bind fun t5 =>
            bif ((decide ((0 : Int) ≤ t5.1.1)) && (decide (t5.1.1 < (5 : Int)))) then
              some ((t1.1.1, (List.getD ([t2.1.1, t3.1.1, (1000 : Int), (1001 : Int), t4.1.1] : List Int) (Int.toNat t5.1.1) (0 : Int)), ()), ())
            else none
def impl_Wheel_timers_s3 (rec : (Unit × ((List D_Timer) × ((List D_Spoke) × D_Timer))) → Option ((Unit × D_Spoke))) (v : (Unit × ((List D_Timer) × ((List D_Spoke) × D_Timer)))) : Option ((Unit × D_Spoke)) :=
  bif (decide (v.2.2.2.2.1 < v.2.2.2.1)) then
    bif ((decide ((0 : Int) ≤ v.2.2.2.2.1)) && (decide (v.2.2.2.2.1 < (((List.length v.2.2.1) : Nat) : Int)))) then
      bif (decide ((Int.toNat v.2.2.2.2.1) < (List.length v.2.2.1))) then
        bif (decide ((((List.length v.2.1) + (List.length (List.getD v.2.2.1 (Int.toNat v.2.2.2.2.1) z_Spoke).1)) * 16) ≤ (1099511627776 : Nat))) then
          rec ((), (v.2.1 ++ (List.getD v.2.2.1 (Int.toNat v.2.2.2.2.1) z_Spoke).1), v.2.2.1, v.2.2.2.1, (IntKind.wrap .i64 (v.2.2.2.2.1 + (1 : Int))), ())
        else none
      else none
    else none
  else
    some ((), v.2.1, ())
def impl_Wheel_timers (k : Nat) (x0 : D_Wheel) : Option (D_Spoke × Unit) :=
  (iter (impl_Wheel_timers_s3) k ((), ([] : List D_Timer), x0.2.1, (((List.length x0.2.1) : Nat) : Int), (0 : Int), ())).bind fun o1 =>
    some (o1.2, ())
def impl_WheelNext_s5 (rec : (Unit × (Int × ((List D_Timer) × D_Timer))) → Option ((Unit × (Int × Unit)))) (v : (Unit × (Int × ((List D_Timer) × D_Timer)))) : Option ((Unit × (Int × Unit))) :=
  bif (decide (v.2.2.2.2.1 < v.2.2.2.1)) then
    bif ((decide ((0 : Int) ≤ v.2.2.2.2.1)) && (decide (v.2.2.2.2.1 < (((List.length v.2.2.1) : Nat) : Int)))) then
      bif (decide ((Int.toNat v.2.2.2.2.1) < (List.length v.2.2.1))) then
        bif (!(decide (v.2.1 < (0 : Int)))) then
          bif (decide ((List.getD v.2.2.1 (Int.toNat v.2.2.2.2.1) z_Timer).2.1 < v.2.1)) then
            rec ((), (List.getD v.2.2.1 (Int.toNat v.2.2.2.2.1) z_Timer).2.1, v.2.2.1, v.2.2.2.1, (IntKind.wrap .i64 (v.2.2.2.2.1 + (1 : Int))), ())
          else
            rec ((), v.2.1, v.2.2.1, v.2.2.2.1, (IntKind.wrap .i64 (v.2.2.2.2.1 + (1 : Int))), ())
        else
          rec ((), (List.getD v.2.2.1 (Int.toNat v.2.2.2.2.1) z_Timer).2.1, v.2.2.1, v.2.2.2.1, (IntKind.wrap .i64 (v.2.2.2.2.1 + (1 : Int))), ())
      else none
    else none
  else
    some ((), v.2.1, ())
def impl_WheelNext (k : Nat) (x0 : D_Wheel) : Option ((Int × Unit) × Unit) :=
  (impl_WheelOk k x0).bind fun t1 =>
    bif (!t1.1.1) then
      some (((-1 : Int), ()), ())
    else
      (impl_Wheel_timers k x0).bind fun t2 =>
        (iter (impl_WheelNext_s5) k ((), (-1 : Int), t2.1.1, (((List.length t2.1.1) : Nat) : Int), (0 : Int), ())).bind fun o3 =>
          some (o3.2, ())
def spec_WheelNext_s6 (rec : (Unit × ((List D_Timer) × D_Timer)) → Option ((Unit × (Int × Unit)))) (v : (Unit × ((List D_Timer) × D_Timer))) : Option ((Unit × (Int × Unit))) :=
  bif (decide (v.2.2.2.1 < (((List.length v.2.1) : Nat) : Int))) then
    bif (!(decide (v.2.2.1 < (0 : Int)))) then
      bif ((decide ((0 : Int) ≤ v.2.2.2.1)) && (decide (v.2.2.2.1 < (((List.length v.2.1) : Nat) : Int)))) then
        bif (decide ((Int.toNat v.2.2.2.1) < (List.length v.2.1))) then
          bif (decide ((List.getD v.2.1 (Int.toNat v.2.2.2.1) z_Timer).2.1 < v.2.2.1)) then
            bif ((decide ((0 : Int) ≤ v.2.2.2.1)) && (decide (v.2.2.2.1 < (((List.length v.2.1) : Nat) : Int)))) then
              bif (decide ((Int.toNat v.2.2.2.1) < (List.length v.2.1))) then
                rec ((), v.2.1, (List.getD v.2.1 (Int.toNat v.2.2.2.1) z_Timer).2.1, (IntKind.wrap .i64 (v.2.2.2.1 + (1 : Int))), ())
              else none
            else none
          else
            rec ((), v.2.1, v.2.2.1, (IntKind.wrap .i64 (v.2.2.2.1 + (1 : Int))), ())
        else none
      else none
    else
      bif ((decide ((0 : Int) ≤ v.2.2.2.1)) && (decide (v.2.2.2.1 < (((List.length v.2.1) : Nat) : Int)))) then
        bif (decide ((Int.toNat v.2.2.2.1) < (List.length v.2.1))) then
          rec ((), v.2.1, (List.getD v.2.1 (Int.toNat v.2.2.2.1) z_Timer).2.1, (IntKind.wrap .i64 (v.2.2.2.1 + (1 : Int))), ())
        else none
      else none
  else
    some ((), v.2.2.1, ())
def spec_WheelNext (k : Nat) (x0 : D_Wheel) : Option ((Int × Unit) × Unit) :=
  (spec_WheelOk k x0).bind fun t1 =>
    bif (!t1.1.1) then
      some (((-1 : Int), ()), ())
    else
      (spec_l12All k x0).bind fun t2 =>
        (iter (spec_WheelNext_s6) k ((), t2.1.1, (-1 : Int), (0 : Int), ())).bind fun o3 =>
          some (o3.2, ())
def laws_FnWheelTicks_s18 (rec : (Unit × (D_Wheel × (Int × (D_Wheel × ((List D_Timer) × (Int × (Int × (D_Wheel × ((List Int) × (Int × Unit)))))))))) → Option ((Unit × (Bool × Unit)) ⊕ (Unit × (D_Wheel × (Int × (D_Wheel × ((List D_Timer) × (Int × (Int × (D_Wheel × Unit)))))))))) (v : (Unit × (D_Wheel × (Int × (D_Wheel × ((List D_Timer) × (Int × (Int × (D_Wheel × ((List Int) × (Int × Unit))))))))))) : Option ((Unit × (Bool × Unit)) ⊕ (Unit × (D_Wheel × (Int × (D_Wheel × ((List D_Timer) × (Int × (Int × (D_Wheel × Unit))))))))) :=
  bif (decide (v.2.2.2.2.2.2.2.2.2.1 < (((List.length v.2.2.2.2.2.2.2.2.1) : Nat) : Int))) then
    bif (!(decide ((((List.length v.2.2.2.2.1) : Nat) : Int) ≤ v.2.2.2.2.2.1))) then
      bif ((decide ((0 : Int) ≤ v.2.2.2.2.2.1)) && (decide (v.2.2.2.2.2.1 < (((List.length v.2.2.2.2.1) : Nat) : Int)))) then
        bif (decide ((Int.toNat v.2.2.2.2.2.1) < (List.length v.2.2.2.2.1))) then
          bif ((decide ((0 : Int) ≤ v.2.2.2.2.2.2.2.2.2.1)) && (decide (v.2.2.2.2.2.2.2.2.2.1 < (((List.length v.2.2.2.2.2.2.2.2.1) : Nat) : Int)))) then
            bif (decide ((Int.toNat v.2.2.2.2.2.2.2.2.2.1) < (List.length v.2.2.2.2.2.2.2.2.1))) then
              bif (!(!(decide ((List.getD v.2.2.2.2.1 (Int.toNat v.2.2.2.2.2.1) z_Timer).1 = (List.getD v.2.2.2.2.2.2.2.2.1 (Int.toNat v.2.2.2.2.2.2.2.2.2.1) (0 : Int)))))) then
                bif ((decide ((0 : Int) ≤ v.2.2.2.2.2.1)) && (decide (v.2.2.2.2.2.1 < (((List.length v.2.2.2.2.1) : Nat) : Int)))) then
                  bif (decide ((Int.toNat v.2.2.2.2.2.1) < (List.length v.2.2.2.2.1))) then
                    bif (!(decide ((List.getD v.2.2.2.2.1 (Int.toNat v.2.2.2.2.2.1) z_Timer).2.1 = v.2.2.2.2.2.2.2.1.1))) then
                      some (Sum.inl ((), false, ()))
                    else
                      rec ((), v.2.1, v.2.2.1, v.2.2.2.1, v.2.2.2.2.1, (IntKind.wrap .i64 (v.2.2.2.2.2.1 + (1 : Int))), v.2.2.2.2.2.2.1, v.2.2.2.2.2.2.2.1, v.2.2.2.2.2.2.2.2.1, (IntKind.wrap .i64 (v.2.2.2.2.2.2.2.2.2.1 + (1 : Int))), ())
                  else none
                else none
              else
                some (Sum.inl ((), false, ()))
            else none
          else none
        else none
      else none
    else
      some (Sum.inl ((), false, ()))
  else
    some (Sum.inr ((), v.2.1, v.2.2.1, v.2.2.2.1, v.2.2.2.2.1, v.2.2.2.2.2.1, v.2.2.2.2.2.2.1, v.2.2.2.2.2.2.2.1, ()))
def laws_FnWheelTicks_s12 (k : Nat) (rec : (Unit × (D_Wheel × (Int × (D_Wheel × ((List D_Timer) × D_Timer))))) → Option ((Unit × (Bool × Unit)) ⊕ (Unit × (D_Wheel × (D_Wheel × ((List D_Timer) × (Int × Unit))))))) (v : (Unit × (D_Wheel × (Int × (D_Wheel × ((List D_Timer) × D_Timer)))))) : Option ((Unit × (Bool × Unit)) ⊕ (Unit × (D_Wheel × (D_Wheel × ((List D_Timer) × (Int × Unit)))))) :=
  bif (decide (v.2.2.2.2.2.2.1 < v.2.2.1)) then
    (impl_WheelTick k v.2.1).bind fun t8 =>
      bif (!(decide (t8.1.1.1 = (IntKind.wrap .i64 (v.2.1.1 + (1 : Int)))))) then
        some (Sum.inl ((), false, ()))
      else
        (iter (laws_FnWheelTicks_s18) k ((), v.2.1, v.2.2.1, v.2.2.2.1, v.2.2.2.2.1, v.2.2.2.2.2.1, v.2.2.2.2.2.2.1, t8.1.1, t8.1.2.1, (0 : Int), ())).bind fun o9 =>
          Sum.elim (fun a10 =>
            some (Sum.inl ((), a10.2)))
          (fun b11 =>
            rec ((), b11.2.2.2.2.2.2.2.1, b11.2.2.1, b11.2.2.2.1, b11.2.2.2.2.1, b11.2.2.2.2.2.1, (IntKind.wrap .i64 (b11.2.2.2.2.2.2.1 + (1 : Int))), ())) o9
  else
    some (Sum.inr ((), v.2.1, v.2.2.2.1, v.2.2.2.2.1, v.2.2.2.2.2.1, ()))
def laws_FnWheelTicks (k : Nat) (x0 : (List Int)) : Option ((Bool × Unit) × Unit) :=
  (laws_big x0).bind fun t1 =>
    bif t1.1.1 then
      some ((true, ()), ())
    else
      (spec_DrawWheelRun k x0).bind fun t2 =>
        (impl_WheelOk k t2.1.1).bind fun t3 =>
          (spec_WheelOk k t2.1.1).bind fun t4 =>
            bif (!(t3.1.1 == t4.1.1)) then
              some ((false, ()), ())
            else
              (spec_WheelOk k t2.1.1).bind fun t5 =>
                bif (!(!t5.1.1)) then
                  bif (!(decide (t2.1.2.1 < (0 : Int)))) then
                    bif (!(decide ((40 : Int) < t2.1.2.1))) then
                      bif (decide ((1000000000000 : Int) < (IntKind.wrap .i64 (t2.1.1.1 + t2.1.2.1)))) then
                        some ((true, ()), ())
                      else
                        (spec_DrawWheelRun k x0).bind fun t6 =>
                          (impl_WheelRun k t6.1.1 t2.1.2.1).bind fun t7 =>
                            (iter (laws_FnWheelTicks_s12 k) k ((), t2.1.1, t2.1.2.1, t7.1.1, t7.1.2.1, (0 : Int), (0 : Int), ())).bind fun o8 =>
                              Sum.elim (fun a9 =>
                                some (a9.2, ()))
                              (fun b10 =>
                                bif (decide (b10.2.2.2.2.1 = (((List.length b10.2.2.2.1) : Nat) : Int))) then
                                  (impl_WheelNext k b10.2.1).bind fun t11 =>
                                    (impl_WheelNext k b10.2.2.1).bind fun t12 =>
                                      bif (decide (t11.1.1 = t12.1.1)) then
                                        (spec_WheelNext k b10.2.2.1).bind fun t13 =>
                                          (impl_WheelNext k b10.2.2.1).bind fun t14 =>
                                            bif (decide (t13.1.1 = t14.1.1)) then
                                              some (((decide (b10.2.2.1.1 = b10.2.1.1)), ()), ())
                                            else
                                              some ((false, ()), ())
                                      else
                                        some ((false, ()), ())
                                else
                                  some ((false, ()), ())) o8
                    else
                      some ((true, ()), ())
                  else
                    some ((true, ()), ())
                else
                  some ((true, ()), ())
def spec_Clip (x0 : Int) (x1 : Int) (x2 : Int) : Option ((Int × Unit) × Unit) :=
  bif (decide (x0 < x1)) then
    some ((x1, ()), ())
  else
    bif (decide (x2 < x0)) then
      some ((x2, ()), ())
    else
      some ((x0, ()), ())
def spec_l01Cur_once (x0 : D_l01Cur) (x1 : Int) : Option ((Bool × Unit) × (D_l01Cur × Unit)) :=
  (spec_l01Cur_pick x0 x1).bind fun t1 =>
    some (((decide (t1.1.1 = (IntKind.wrap .i64 (x1 - (1 : Int))))), ()), t1.2)
def spec_DrawWheelSet (k : Nat) (x0 : (List Int)) : Option ((D_Wheel × D_Timer) × Unit) :=
  (spec_l01Cur_badWheel k (x0, (0 : Int), (IntKind.wrap .i64 ((71 : Int) + (Int.tmod (((List.length x0) : Nat) : Int) (1000 : Int)))), ())).bind fun t1 =>
    (spec_l01Cur_raw t1.2.1).bind fun t2 =>
      (spec_l01Cur_once t2.2.1 (6 : Int)).bind fun t3 =>
        bif (!t3.1.1) then
          (spec_Clip t1.1.1.1 (0 : Int) (1000000000000 : Int)).bind fun t4 =>
            (spec_l01Cur_pick t3.2.1 (20 : Int)).bind fun t5 =>
              (spec_l01Cur_pick t5.2.1 (256 : Int)).bind fun t6 =>
                (spec_l01Cur_pick t6.2.1 (5 : Int)).bind fun t7 =>
                  bif ((decide ((0 : Int) ≤ t7.1.1)) && (decide (t7.1.1 < (5 : Int)))) then
                    bif (decide ((Int.toNat t7.1.1) < (5 : Nat))) then
                      (spec_l01Cur_pick t7.2.1 (40 : Int)).bind fun t8 =>
                        (spec_l01Cur_raw t8.2.1).bind fun t9 =>
                          (spec_l01Cur_pick t9.2.1 (4 : Int)).bind fun t10 =>
                            bif ((decide ((0 : Int) ≤ t10.1.1)) && (decide (t10.1.1 < (4 : Int)))) then
                              some ((t1.1.1, (List.getD ([t8.1.1, t9.1.1, (9999 : Int), (10000 : Int)] : List Int) (Int.toNat t10.1.1) (0 : Int)), (IntKind.wrap .i64 (t4.1.1 + (List.getD ([t5.1.1, (1000 : Int), (1001 : Int), (0 : Int), (IntKind.wrap .i64 ((1 : Int) + t6.1.1))] : List Int) (Int.toNat t7.1.1) (0 : Int)))), ()), ())
                            else none
                    else none
                  else none
        else
          (spec_l01Cur_pick t3.2.1 (40 : Int)).bind fun t11 =>
            (spec_l01Cur_raw t11.2.1).bind fun t12 =>
              (spec_l01Cur_pick t12.2.1 (4 : Int)).bind fun t13 =>
                bif ((decide ((0 : Int) ≤ t13.1.1)) && (decide (t13.1.1 < (4 : Int)))) then
                  some ((t1.1.1, (List.getD ([t11.1.1, t12.1.1, (9999 : Int), (10000 : Int)] : List Int) (Int.toNat t13.1.1) (0 : Int)), t2.1), ())
                else none
def impl_Wheel_hasTimer_1 (x0 : D_Timer) (x1 : Int) : Option ((Bool × Unit) × Unit) :=
  some (((decide (x0.1 = x1)), ()), ())
def slices_IndexFunc_impl_Timer_impl_Timer_2_s2 (rec : (Unit × ((List D_Timer) × ((Int × Unit) × D_Timer))) → Option ((Unit × (Int × Unit)) ⊕ (Unit × Unit))) (v : (Unit × ((List D_Timer) × ((Int × Unit) × D_Timer)))) : Option ((Unit × (Int × Unit)) ⊕ (Unit × Unit)) :=
  bif (decide (v.2.2.2.2.1 < v.2.2.2.1)) then
    bif ((decide ((0 : Int) ≤ v.2.2.2.2.1)) && (decide (v.2.2.2.2.1 < (((List.length v.2.1) : Nat) : Int)))) then
      bif (decide ((Int.toNat v.2.2.2.2.1) < (List.length v.2.1))) then
        (impl_Wheel_hasTimer_1 (List.getD v.2.1 (Int.toNat v.2.2.2.2.1) z_Timer) v.2.2.1.1).bind fun t1 =>
          bif t1.1.1 then
            some (Sum.inl ((), v.2.2.2.2))
          else
            rec ((), v.2.1, (v.2.2.1.1, ()), v.2.2.2.1, (IntKind.wrap .i64 (v.2.2.2.2.1 + (1 : Int))), ())
      else none
    else none
  else
    some (Sum.inr ((), ()))
def slices_IndexFunc_impl_Timer_impl_Timer_2 (k : Nat) (x0 : (List D_Timer)) (x1 : (Int × Unit)) : Option ((Int × Unit) × Unit) :=
  (iter (slices_IndexFunc_impl_Timer_impl_Timer_2_s2) k ((), x0, (x1.1, ()), (((List.length x0) : Nat) : Int), (0 : Int), ())).bind fun o1 =>
    Sum.elim (fun a2 =>
      some (a2.2, ()))
    (fun b3 =>
      some (((-1 : Int), ()), ())) o1
def slices_ContainsFunc_impl_Timer_impl_Timer (k : Nat) (x0 : (List D_Timer)) (x1 : (Int × Unit)) : Option ((Bool × Unit) × Unit) :=
  (slices_IndexFunc_impl_Timer_impl_Timer_2 k x0 (x1.1, ())).bind fun t1 =>
    some (((decide ((0 : Int) ≤ t1.1.1)), ()), ())
def impl_Wheel_hasTimer (k : Nat) (x0 : D_Wheel) (x1 : Int) : Option ((Bool × Unit) × Unit) :=
  (impl_Wheel_timers k x0).bind fun t1 =>
    (slices_ContainsFunc_impl_Timer_impl_Timer k t1.1.1 (x1, ())).bind fun t2 =>
      some (t2.1, ())
def impl_WheelSet_1 (x0 : D_Timer) (x1 : Int) : Option ((Bool × Unit) × Unit) :=
  some (((decide (x0.1 = x1)), ()), ())
def slices_IndexFunc_impl_Timer_impl_Timer_3_s2 (rec : (Unit × ((List D_Timer) × ((Int × Unit) × D_Timer))) → Option ((Unit × (Int × Unit)) ⊕ (Unit × Unit))) (v : (Unit × ((List D_Timer) × ((Int × Unit) × D_Timer)))) : Option ((Unit × (Int × Unit)) ⊕ (Unit × Unit)) :=
  bif (decide (v.2.2.2.2.1 < v.2.2.2.1)) then
    bif ((decide ((0 : Int) ≤ v.2.2.2.2.1)) && (decide (v.2.2.2.2.1 < (((List.length v.2.1) : Nat) : Int)))) then
      bif (decide ((Int.toNat v.2.2.2.2.1) < (List.length v.2.1))) then
        (impl_WheelSet_1 (List.getD v.2.1 (Int.toNat v.2.2.2.2.1) z_Timer) v.2.2.1.1).bind fun t1 =>
          bif t1.1.1 then
            some (Sum.inl ((), v.2.2.2.2))
          else
            rec ((), v.2.1, (v.2.2.1.1, ()), v.2.2.2.1, (IntKind.wrap .i64 (v.2.2.2.2.1 + (1 : Int))), ())
      else none
    else none
  else
    some (Sum.inr ((), ()))
def slices_IndexFunc_impl_Timer_impl_Timer_3 (k : Nat) (x0 : (List D_Timer)) (x1 : (Int × Unit)) : Option ((Int × Unit) × Unit) :=
  (iter (slices_IndexFunc_impl_Timer_impl_Timer_3_s2) k ((), x0, (x1.1, ()), (((List.length x0) : Nat) : Int), (0 : Int), ())).bind fun o1 =>
    Sum.elim (fun a2 =>
      some (a2.2, ()))
    (fun b3 =>
      some (((-1 : Int), ()), ())) o1
def slices_DeleteFunc_impl_Timer_impl_Timer_2_s5 (rec : (Unit × ((List D_Timer) × ((Int × Unit) × D_Timer))) → Option ((Unit × ((List D_Timer) × (Int × Unit))))) (v : (Unit × ((List D_Timer) × ((Int × Unit) × D_Timer)))) : Option ((Unit × ((List D_Timer) × (Int × Unit)))) :=
  bif (decide (v.2.2.2.2.1 < (((List.length v.2.1) : Nat) : Int))) then
    bif ((decide ((0 : Int) ≤ v.2.2.2.2.1)) && (decide (v.2.2.2.2.1 < (((List.length v.2.1) : Nat) : Int)))) then
      bif (decide ((Int.toNat v.2.2.2.2.1) < (List.length v.2.1))) then
        (impl_WheelSet_1 (List.getD v.2.1 (Int.toNat v.2.2.2.2.1) z_Timer) v.2.2.1.1).bind fun t2 =>
          bif (!t2.1.1) then
            bif ((decide ((0 : Int) ≤ v.2.2.2.1)) && (decide (v.2.2.2.1 < (((List.length v.2.1) : Nat) : Int)))) then
              bif (decide ((Int.toNat v.2.2.2.1) < (List.length v.2.1))) then
                let y3 : (List D_Timer) := (List.set v.2.1 (Int.toNat v.2.2.2.1) (List.getD v.2.1 (Int.toNat v.2.2.2.2.1) z_Timer))
                rec ((), y3, (v.2.2.1.1, ()), (IntKind.wrap .i64 (v.2.2.2.1 + (1 : Int))), (IntKind.wrap .i64 (v.2.2.2.2.1 + (1 : Int))), ())
              else none
            else none
          else
            rec ((), v.2.1, (v.2.2.1.1, ()), v.2.2.2.1, (IntKind.wrap .i64 (v.2.2.2.2.1 + (1 : Int))), ())
      else none
    else none
  else
    some ((), v.2.1, v.2.2.2.1, ())
def slices_DeleteFunc_impl_Timer_impl_Timer_2 (k : Nat) (x0 : (List D_Timer)) (x1 : (Int × Unit)) : Option (D_Spoke × D_Spoke) :=
  (slices_IndexFunc_impl_Timer_impl_Timer_3 k x0 (x1.1, ())).bind fun t1 =>
    bif (decide (t1.1.1 = (-1 : Int))) then
      some ((x0, ()), ([] : List D_Timer), ())
    else
      (iter (slices_DeleteFunc_impl_Timer_impl_Timer_2_s5) k ((), x0, (x1.1, ()), t1.1.1, (IntKind.wrap .i64 (t1.1.1 + (1 : Int))), ())).bind fun o2 =>
        bif (((decide ((0 : Int) ≤ o2.2.2.1)) && (decide (o2.2.2.1 ≤ (((List.length o2.2.1) : Nat) : Int)))) && (decide ((((List.length o2.2.1) : Nat) : Int) ≤ (((List.length o2.2.1) : Nat) : Int)))) then
          bif ((decide ((0 : Int) ≤ o2.2.2.1)) && (decide (o2.2.2.1 ≤ (((List.length (clr ((0 : Int), (0 : Int), ()) (Int.toNat o2.2.2.1) ((List.length o2.2.1) - (Int.toNat o2.2.2.1)) o2.2.1)) : Nat) : Int)))) then
            some (((List.take (Int.toNat o2.2.2.1) (clr ((0 : Int), (0 : Int), ()) (Int.toNat o2.2.2.1) ((List.length o2.2.1) - (Int.toNat o2.2.2.1)) o2.2.1)), ()), ([] : List D_Timer), ())
          else none
        else none
def impl_copyWheel_2_s3 (k : Nat) (rec : (Unit × ((Int × Unit) × (D_Wheel × (D_Wheel × ((List D_Spoke) × ((List D_Spoke) × D_Timer)))))) → Option ((Unit × (D_Wheel × (D_Wheel × ((List D_Spoke) × Unit)))))) (v : (Unit × ((Int × Unit) × (D_Wheel × (D_Wheel × ((List D_Spoke) × ((List D_Spoke) × D_Timer))))))) : Option ((Unit × (D_Wheel × (D_Wheel × ((List D_Spoke) × Unit))))) :=
  bif (decide (v.2.2.2.2.2.2.2.1 < v.2.2.2.2.2.2.1)) then
    bif ((decide ((0 : Int) ≤ v.2.2.2.2.2.2.2.1)) && (decide (v.2.2.2.2.2.2.2.1 < (((List.length v.2.2.2.2.2.1) : Nat) : Int)))) then
      bif (decide ((Int.toNat v.2.2.2.2.2.2.2.1) < (List.length v.2.2.2.2.2.1))) then
        (slices_Clone_impl_Timer_impl_Timer (List.getD v.2.2.2.2.2.1 (Int.toNat v.2.2.2.2.2.2.2.1) z_Spoke).1).bind fun t1 =>
          (slices_DeleteFunc_impl_Timer_impl_Timer_2 k t1.1.1 (v.2.1.1, ())).bind fun t2 =>
            bif (decide ((((List.length v.2.2.2.2.1) + (1 : Nat)) * 24) ≤ (1099511627776 : Nat))) then
              rec ((), (v.2.1.1, ()), v.2.2.1, v.2.2.2.1, (v.2.2.2.2.1 ++ ([t2.1] : List D_Spoke)), v.2.2.2.2.2.1, v.2.2.2.2.2.2.1, (IntKind.wrap .i64 (v.2.2.2.2.2.2.2.1 + (1 : Int))), ())
            else none
      else none
    else none
  else
    some ((), v.2.2.1, v.2.2.2.1, v.2.2.2.2.1, ())
def impl_copyWheel_2 (k : Nat) (x0 : D_Wheel) (x1 : (Int × Unit)) : Option ((D_Wheel × Unit) × Unit) :=
  (iter (impl_copyWheel_2_s3 k) k ((), (x1.1, ()), x0, ((0 : Int), ([] : List D_Spoke), ()), ([] : List D_Spoke), x0.2.1, (((List.length x0.2.1) : Nat) : Int), (0 : Int), ())).bind fun o1 =>
    some (((o1.2.1.1, o1.2.2.2), ()), ())
def impl_WheelSet (k : Nat) (x0 : D_Wheel) (x1 : Int) (x2 : Int) : Option ((D_Wheel × (Int × Unit)) × Unit) :=
  (impl_WheelOk k x0).bind fun t1 =>
    bif (!(!t1.1.1)) then
      (impl_within x1 (0 : Int) (9999 : Int)).bind fun t2 =>
        bif (!t2.1.1) then
          some ((((0 : Int), ([] : List D_Spoke), ()), (1 : Int), ()), ())
        else
          (impl_Wheel_isAhead x0 x2).bind fun t3 =>
            bif (!t3.1.1) then
              some ((((0 : Int), ([] : List D_Spoke), ()), (2 : Int), ()), ())
            else
              (impl_Wheel_hasTimer k x0 x1).bind fun t4 =>
                bif (!t4.1.1) then
                  (impl_Wheel_timers k x0).bind fun t5 =>
                    bif (decide ((((List.length t5.1.1) : Nat) : Int) = (64 : Int))) then
                      some ((((0 : Int), ([] : List D_Spoke), ()), (3 : Int), ()), ())
                    else
                      (impl_copyWheel_2 k x0 (x1, ())).bind fun t6 =>
                        bif ((decide ((0 : Int) ≤ (Int.tmod x2 (8 : Int)))) && (decide ((Int.tmod x2 (8 : Int)) < (((List.length t6.1.1.2.1) : Nat) : Int)))) then
                          bif (decide ((Int.toNat (Int.tmod x2 (8 : Int))) < (List.length t6.1.1.2.1))) then
                            bif (decide ((((List.length (List.getD t6.1.1.2.1 (Int.toNat (Int.tmod x2 (8 : Int))) z_Spoke).1) + (1 : Nat)) * 16) ≤ (1099511627776 : Nat))) then
                              bif (decide ((Int.toNat (Int.tmod x2 (8 : Int))) = (Int.toNat (Int.tmod x2 (8 : Int))))) then
                                let y7 : (List D_Spoke) := (List.set t6.1.1.2.1 (Int.toNat (Int.tmod x2 (8 : Int))) (((List.getD t6.1.1.2.1 (Int.toNat (Int.tmod x2 (8 : Int))) z_Spoke).1 ++ ([(x1, x2, ())] : List D_Timer)), ()))
                                some (((t6.1.1.1, y7, ()), (0 : Int), ()), ())
                              else none
                            else none
                          else none
                        else none
                else
                  (impl_copyWheel_2 k x0 (x1, ())).bind fun t8 =>
                    bif ((decide ((0 : Int) ≤ (Int.tmod x2 (8 : Int)))) && (decide ((Int.tmod x2 (8 : Int)) < (((List.length t8.1.1.2.1) : Nat) : Int)))) then
                      bif (decide ((Int.toNat (Int.tmod x2 (8 : Int))) < (List.length t8.1.1.2.1))) then
                        bif (decide ((((List.length (List.getD t8.1.1.2.1 (Int.toNat (Int.tmod x2 (8 : Int))) z_Spoke).1) + (1 : Nat)) * 16) ≤ (1099511627776 : Nat))) then
                          bif (decide ((Int.toNat (Int.tmod x2 (8 : Int))) = (Int.toNat (Int.tmod x2 (8 : Int))))) then
                            let y9 : (List D_Spoke) := (List.set t8.1.1.2.1 (Int.toNat (Int.tmod x2 (8 : Int))) (((List.getD t8.1.1.2.1 (Int.toNat (Int.tmod x2 (8 : Int))) z_Spoke).1 ++ ([(x1, x2, ())] : List D_Timer)), ()))
                            some (((t8.1.1.1, y9, ()), (0 : Int), ()), ())
                          else none
                        else none
                      else none
                    else none
    else
      some ((((0 : Int), ([] : List D_Spoke), ()), (1 : Int), ()), ())
def laws_pick_s5 (rec : (Unit × ((List Int) × (Int × (Int × D_Timer)))) → Option ((Unit × (Int × D_Timer)))) (v : (Unit × ((List Int) × (Int × (Int × D_Timer))))) : Option ((Unit × (Int × D_Timer))) :=
  bif (decide (v.2.2.2.2.2.1 < (3 : Int))) then
    bif (!(decide ((((List.length v.2.1) : Nat) : Int) = (0 : Int)))) then
      bif ((decide ((0 : Int) ≤ (Int.tmod (IntKind.wrap .i64 (v.2.2.1 + v.2.2.2.2.2.1)) (((List.length v.2.1) : Nat) : Int)))) && (decide ((Int.tmod (IntKind.wrap .i64 (v.2.2.1 + v.2.2.2.2.2.1)) (((List.length v.2.1) : Nat) : Int)) < (((List.length v.2.1) : Nat) : Int)))) then
        bif (decide ((Int.toNat (Int.tmod (IntKind.wrap .i64 (v.2.2.1 + v.2.2.2.2.2.1)) (((List.length v.2.1) : Nat) : Int))) < (List.length v.2.1))) then
          rec ((), v.2.1, v.2.2.1, v.2.2.2.1, (IntKind.wrap .i64 ((IntKind.wrap .i64 ((31 : Int) * v.2.2.2.2.1)) + (IntKind.wrap .i64 (List.getD v.2.1 (Int.toNat (Int.tmod (IntKind.wrap .i64 (v.2.2.1 + v.2.2.2.2.2.1)) (((List.length v.2.1) : Nat) : Int))) (0 : Int))))), (IntKind.wrap .i64 (v.2.2.2.2.2.1 + (1 : Int))), ())
        else none
      else none
    else none
  else
    some ((), v.2.2.1, v.2.2.2.1, v.2.2.2.2.1, ())
def laws_pick (k : Nat) (x0 : (List Int)) (x1 : Int) (x2 : Int) : Option ((Int × Unit) × Unit) :=
  bif (!(decide ((((List.length x0) : Nat) : Int) = (0 : Int)))) then
    bif (decide (x2 < (2 : Int))) then
      some (((0 : Int), ()), ())
    else
      (iter (laws_pick_s5) k ((), x0, x1, x2, (0 : Int), (0 : Int), ())).bind fun o1 =>
        bif (!(decide (o1.2.2.1 = (0 : Int)))) then
          some (((Int.tmod (IntKind.wrap .i64 (o1.2.2.2.1 + o1.2.1)) o1.2.2.1), ()), ())
        else none
  else
    some (((0 : Int), ()), ())
def impl_WheelDrop_1 (x0 : D_Timer) (x1 : Int) : Option ((Bool × Unit) × Unit) :=
  some (((decide (x0.1 = x1)), ()), ())
def slices_IndexFunc_impl_Timer_impl_Timer_4_s2 (rec : (Unit × ((List D_Timer) × ((Int × Unit) × D_Timer))) → Option ((Unit × (Int × Unit)) ⊕ (Unit × Unit))) (v : (Unit × ((List D_Timer) × ((Int × Unit) × D_Timer)))) : Option ((Unit × (Int × Unit)) ⊕ (Unit × Unit)) :=
  bif (decide (v.2.2.2.2.1 < v.2.2.2.1)) then
    bif ((decide ((0 : Int) ≤ v.2.2.2.2.1)) && (decide (v.2.2.2.2.1 < (((List.length v.2.1) : Nat) : Int)))) then
      bif (decide ((Int.toNat v.2.2.2.2.1) < (List.length v.2.1))) then
        (impl_WheelDrop_1 (List.getD v.2.1 (Int.toNat v.2.2.2.2.1) z_Timer) v.2.2.1.1).bind fun t1 =>
          bif t1.1.1 then
            some (Sum.inl ((), v.2.2.2.2))
          else
            rec ((), v.2.1, (v.2.2.1.1, ()), v.2.2.2.1, (IntKind.wrap .i64 (v.2.2.2.2.1 + (1 : Int))), ())
      else none
    else none
  else
    some (Sum.inr ((), ()))
def slices_IndexFunc_impl_Timer_impl_Timer_4 (k : Nat) (x0 : (List D_Timer)) (x1 : (Int × Unit)) : Option ((Int × Unit) × Unit) :=
  (iter (slices_IndexFunc_impl_Timer_impl_Timer_4_s2) k ((), x0, (x1.1, ()), (((List.length x0) : Nat) : Int), (0 : Int), ())).bind fun o1 =>
    Sum.elim (fun a2 =>
      some (a2.2, ()))
    (fun b3 =>
      some (((-1 : Int), ()), ())) o1
def slices_DeleteFunc_impl_Timer_impl_Timer_3_s5 (rec : (Unit × ((List D_Timer) × ((Int × Unit) × D_Timer))) → Option ((Unit × ((List D_Timer) × (Int × Unit))))) (v : (Unit × ((List D_Timer) × ((Int × Unit) × D_Timer)))) : Option ((Unit × ((List D_Timer) × (Int × Unit)))) :=
  bif (decide (v.2.2.2.2.1 < (((List.length v.2.1) : Nat) : Int))) then
    bif ((decide ((0 : Int) ≤ v.2.2.2.2.1)) && (decide (v.2.2.2.2.1 < (((List.length v.2.1) : Nat) : Int)))) then
      bif (decide ((Int.toNat v.2.2.2.2.1) < (List.length v.2.1))) then
        (impl_WheelDrop_1 (List.getD v.2.1 (Int.toNat v.2.2.2.2.1) z_Timer) v.2.2.1.1).bind fun t2 =>
          bif (!t2.1.1) then
            bif ((decide ((0 : Int) ≤ v.2.2.2.1)) && (decide (v.2.2.2.1 < (((List.length v.2.1) : Nat) : Int)))) then
              bif (decide ((Int.toNat v.2.2.2.1) < (List.length v.2.1))) then
                let y3 : (List D_Timer) := (List.set v.2.1 (Int.toNat v.2.2.2.1) (List.getD v.2.1 (Int.toNat v.2.2.2.2.1) z_Timer))
                rec ((), y3, (v.2.2.1.1, ()), (IntKind.wrap .i64 (v.2.2.2.1 + (1 : Int))), (IntKind.wrap .i64 (v.2.2.2.2.1 + (1 : Int))), ())
              else none
            else none
          else
            rec ((), v.2.1, (v.2.2.1.1, ()), v.2.2.2.1, (IntKind.wrap .i64 (v.2.2.2.2.1 + (1 : Int))), ())
      else none
    else none
  else
    some ((), v.2.1, v.2.2.2.1, ())
def slices_DeleteFunc_impl_Timer_impl_Timer_3 (k : Nat) (x0 : (List D_Timer)) (x1 : (Int × Unit)) : Option (D_Spoke × D_Spoke) :=
  (slices_IndexFunc_impl_Timer_impl_Timer_4 k x0 (x1.1, ())).bind fun t1 =>
    bif (decide (t1.1.1 = (-1 : Int))) then
      some ((x0, ()), ([] : List D_Timer), ())
    else
      (iter (slices_DeleteFunc_impl_Timer_impl_Timer_3_s5) k ((), x0, (x1.1, ()), t1.1.1, (IntKind.wrap .i64 (t1.1.1 + (1 : Int))), ())).bind fun o2 =>
        bif (((decide ((0 : Int) ≤ o2.2.2.1)) && (decide (o2.2.2.1 ≤ (((List.length o2.2.1) : Nat) : Int)))) && (decide ((((List.length o2.2.1) : Nat) : Int) ≤ (((List.length o2.2.1) : Nat) : Int)))) then
          bif ((decide ((0 : Int) ≤ o2.2.2.1)) && (decide (o2.2.2.1 ≤ (((List.length (clr ((0 : Int), (0 : Int), ()) (Int.toNat o2.2.2.1) ((List.length o2.2.1) - (Int.toNat o2.2.2.1)) o2.2.1)) : Nat) : Int)))) then
            some (((List.take (Int.toNat o2.2.2.1) (clr ((0 : Int), (0 : Int), ()) (Int.toNat o2.2.2.1) ((List.length o2.2.1) - (Int.toNat o2.2.2.1)) o2.2.1)), ()), ([] : List D_Timer), ())
          else none
        else none
def impl_copyWheel_3_s3 (k : Nat) (rec : (Unit × ((Int × Unit) × (D_Wheel × (D_Wheel × ((List D_Spoke) × ((List D_Spoke) × D_Timer)))))) → Option ((Unit × (D_Wheel × (D_Wheel × ((List D_Spoke) × Unit)))))) (v : (Unit × ((Int × Unit) × (D_Wheel × (D_Wheel × ((List D_Spoke) × ((List D_Spoke) × D_Timer))))))) : Option ((Unit × (D_Wheel × (D_Wheel × ((List D_Spoke) × Unit))))) :=
  bif (decide (v.2.2.2.2.2.2.2.1 < v.2.2.2.2.2.2.1)) then
    bif ((decide ((0 : Int) ≤ v.2.2.2.2.2.2.2.1)) && (decide (v.2.2.2.2.2.2.2.1 < (((List.length v.2.2.2.2.2.1) : Nat) : Int)))) then
      bif (decide ((Int.toNat v.2.2.2.2.2.2.2.1) < (List.length v.2.2.2.2.2.1))) then
        (slices_Clone_impl_Timer_impl_Timer (List.getD v.2.2.2.2.2.1 (Int.toNat v.2.2.2.2.2.2.2.1) z_Spoke).1).bind fun t1 =>
          (slices_DeleteFunc_impl_Timer_impl_Timer_3 k t1.1.1 (v.2.1.1, ())).bind fun t2 =>
            bif (decide ((((List.length v.2.2.2.2.1) + (1 : Nat)) * 24) ≤ (1099511627776 : Nat))) then
              rec ((), (v.2.1.1, ()), v.2.2.1, v.2.2.2.1, (v.2.2.2.2.1 ++ ([t2.1] : List D_Spoke)), v.2.2.2.2.2.1, v.2.2.2.2.2.2.1, (IntKind.wrap .i64 (v.2.2.2.2.2.2.2.1 + (1 : Int))), ())
            else none
      else none
    else none
  else
    some ((), v.2.2.1, v.2.2.2.1, v.2.2.2.2.1, ())
def impl_copyWheel_3 (k : Nat) (x0 : D_Wheel) (x1 : (Int × Unit)) : Option ((D_Wheel × Unit) × Unit) :=
  (iter (impl_copyWheel_3_s3 k) k ((), (x1.1, ()), x0, ((0 : Int), ([] : List D_Spoke), ()), ([] : List D_Spoke), x0.2.1, (((List.length x0.2.1) : Nat) : Int), (0 : Int), ())).bind fun o1 =>
    some (((o1.2.1.1, o1.2.2.2), ()), ())
def impl_WheelDrop (k : Nat) (x0 : D_Wheel) (x1 : Int) : Option ((D_Wheel × (Int × Unit)) × Unit) :=
  (impl_WheelOk k x0).bind fun t1 =>
    bif (!t1.1.1) then
      some ((((0 : Int), ([] : List D_Spoke), ()), (1 : Int), ()), ())
    else
      (impl_Wheel_hasTimer k x0 x1).bind fun t2 =>
        bif (!t2.1.1) then
          some ((((0 : Int), ([] : List D_Spoke), ()), (4 : Int), ()), ())
        else
          (impl_copyWheel_3 k x0 (x1, ())).bind fun t3 =>
            some ((t3.1.1, (0 : Int), ()), ())
def laws_FnWheelLast_s15 (rec : (Unit × (D_Wheel × (Int × (Int × (D_Wheel × ((List D_Timer) × D_Timer)))))) → Option ((Unit × (Bool × Unit)) ⊕ (Unit × (D_Wheel × (Int × (Int × (D_Wheel × (Int × Unit)))))))) (v : (Unit × (D_Wheel × (Int × (Int × (D_Wheel × ((List D_Timer) × D_Timer))))))) : Option ((Unit × (Bool × Unit)) ⊕ (Unit × (D_Wheel × (Int × (Int × (D_Wheel × (Int × Unit))))))) :=
  bif (decide (v.2.2.2.2.2.2.2.1 < (((List.length v.2.2.2.2.2.1) : Nat) : Int))) then
    bif ((decide ((0 : Int) ≤ v.2.2.2.2.2.2.2.1)) && (decide (v.2.2.2.2.2.2.2.1 < (((List.length v.2.2.2.2.2.1) : Nat) : Int)))) then
      bif (decide ((Int.toNat v.2.2.2.2.2.2.2.1) < (List.length v.2.2.2.2.2.1))) then
        bif (decide ((List.getD v.2.2.2.2.2.1 (Int.toNat v.2.2.2.2.2.2.2.1) z_Timer).1 = v.2.2.1)) then
          bif ((decide ((0 : Int) ≤ v.2.2.2.2.2.2.2.1)) && (decide (v.2.2.2.2.2.2.2.1 < (((List.length v.2.2.2.2.2.1) : Nat) : Int)))) then
            bif (decide ((Int.toNat v.2.2.2.2.2.2.2.1) < (List.length v.2.2.2.2.2.1))) then
              bif (!(decide ((List.getD v.2.2.2.2.2.1 (Int.toNat v.2.2.2.2.2.2.2.1) z_Timer).2.1 = v.2.2.2.1))) then
                some (Sum.inl ((), false, ()))
              else
                rec ((), v.2.1, v.2.2.1, v.2.2.2.1, v.2.2.2.2.1, v.2.2.2.2.2.1, (IntKind.wrap .i64 (v.2.2.2.2.2.2.1 + (1 : Int))), (IntKind.wrap .i64 (v.2.2.2.2.2.2.2.1 + (1 : Int))), ())
            else none
          else none
        else
          rec ((), v.2.1, v.2.2.1, v.2.2.2.1, v.2.2.2.2.1, v.2.2.2.2.2.1, v.2.2.2.2.2.2.1, (IntKind.wrap .i64 (v.2.2.2.2.2.2.2.1 + (1 : Int))), ())
      else none
    else none
  else
    some (Sum.inr ((), v.2.1, v.2.2.1, v.2.2.2.1, v.2.2.2.2.1, v.2.2.2.2.2.2.1, ()))
def laws_FnWheelLast_s26 (rec : (Unit × (Int × ((List D_Timer) × (Int × Unit)))) → Option ((Unit × (Bool × Unit)) ⊕ (Unit × Unit))) (v : (Unit × (Int × ((List D_Timer) × (Int × Unit))))) : Option ((Unit × (Bool × Unit)) ⊕ (Unit × Unit)) :=
  bif (decide (v.2.2.2.1 < (((List.length v.2.2.1) : Nat) : Int))) then
    bif ((decide ((0 : Int) ≤ v.2.2.2.1)) && (decide (v.2.2.2.1 < (((List.length v.2.2.1) : Nat) : Int)))) then
      bif (decide ((Int.toNat v.2.2.2.1) < (List.length v.2.2.1))) then
        bif (decide ((List.getD v.2.2.1 (Int.toNat v.2.2.2.1) z_Timer).1 = v.2.1)) then
          some (Sum.inl ((), false, ()))
        else
          rec ((), v.2.1, v.2.2.1, (IntKind.wrap .i64 (v.2.2.2.1 + (1 : Int))), ())
      else none
    else none
  else
    some (Sum.inr ((), ()))
def laws_FnWheelLast (k : Nat) (x0 : (List Int)) : Option ((Bool × Unit) × Unit) :=
  (laws_big x0).bind fun t1 =>
    bif t1.1.1 then
      some ((true, ()), ())
    else
      (spec_DrawWheelSet k x0).bind fun t2 =>
        (spec_WheelSet k t2.1.1 t2.1.2.1 t2.1.2.2.1).bind fun t3 =>
          (impl_WheelSet k t2.1.1 t2.1.2.1 t2.1.2.2.1).bind fun t4 =>
            bif (!(!(decide (t4.1.2.1 = t3.1.2.1)))) then
              bif (!(decide (t4.1.2.1 = (0 : Int)))) then
                some (((decide (t4.1.2.1 = t3.1.2.1)), ()), ())
              else
                (laws_pick k x0 (9 : Int) (200 : Int)).bind fun t5 =>
                  (impl_WheelSet k t4.1.1 t2.1.2.1 (IntKind.wrap .i64 ((IntKind.wrap .i64 (t2.1.1.1 + (1 : Int))) + t5.1.1))).bind fun t6 =>
                    bif (!(!(decide (t6.1.2.1 = (0 : Int))))) then
                      bif (decide ((1000000000000 : Int) < (IntKind.wrap .i64 ((IntKind.wrap .i64 (t2.1.1.1 + (1 : Int))) + t5.1.1)))) then
                        some (((decide (t6.1.2.1 = (0 : Int))), ()), ())
                      else
                        (impl_WheelRun k t6.1.1 (IntKind.wrap .i64 ((IntKind.wrap .i64 ((IntKind.wrap .i64 (t2.1.1.1 + (1 : Int))) + t5.1.1)) - t2.1.1.1))).bind fun t7 =>
                          (iter (laws_FnWheelLast_s15) k ((), t2.1.1, t2.1.2.1, (IntKind.wrap .i64 ((IntKind.wrap .i64 (t2.1.1.1 + (1 : Int))) + t5.1.1)), t6.1.1, t7.1.2.1, (0 : Int), (0 : Int), ())).bind fun o8 =>
                            Sum.elim (fun a9 =>
                              some (a9.2, ()))
                            (fun b10 =>
                              (impl_WheelDrop k b10.2.2.2.2.1 b10.2.2.1).bind fun t11 =>
                                bif (!(!(decide (b10.2.2.2.2.2.1 = (1 : Int))))) then
                                  bif (!(decide (t11.1.2.1 = (0 : Int)))) then
                                    some ((false, ()), ())
                                  else
                                    (impl_WheelRun k t11.1.1 (IntKind.wrap .i64 (b10.2.2.2.1 - b10.2.1.1))).bind fun t12 =>
                                      (iter (laws_FnWheelLast_s26) k ((), b10.2.2.1, t12.1.2.1, (0 : Int), ())).bind fun o13 =>
                                        Sum.elim (fun a14 =>
                                          some (a14.2, ()))
                                        (fun b15 =>
                                          some ((true, ()), ())) o13
                                else
                                  some ((false, ()), ())) o8
                    else
                      some (((decide (t6.1.2.1 = (0 : Int))), ()), ())
            else
              some (((decide (t4.1.2.1 = t3.1.2.1)), ()), ())
def laws_timers_s3 (rec : (Unit × (D_Wheel × ((List D_Timer) × (Int × Unit)))) → Option ((Unit × D_Spoke))) (v : (Unit × (D_Wheel × ((List D_Timer) × (Int × Unit))))) : Option ((Unit × D_Spoke)) :=
  bif (decide (v.2.2.2.1 < (((List.length v.2.1.2.1) : Nat) : Int))) then
    bif ((decide ((0 : Int) ≤ v.2.2.2.1)) && (decide (v.2.2.2.1 < (((List.length v.2.1.2.1) : Nat) : Int)))) then
      bif (decide ((Int.toNat v.2.2.2.1) < (List.length v.2.1.2.1))) then
        bif (decide ((((List.length v.2.2.1) + (List.length (List.getD v.2.1.2.1 (Int.toNat v.2.2.2.1) z_Spoke).1)) * 16) ≤ (1099511627776 : Nat))) then
          rec ((), v.2.1, (v.2.2.1 ++ (List.getD v.2.1.2.1 (Int.toNat v.2.2.2.1) z_Spoke).1), (IntKind.wrap .i64 (v.2.2.2.1 + (1 : Int))), ())
        else none
      else none
    else none
  else
    some ((), v.2.2.1, ())
def laws_timers (k : Nat) (x0 : D_Wheel) : Option (D_Spoke × Unit) :=
  (iter (laws_timers_s3) k ((), x0, ([] : List D_Timer), (0 : Int), ())).bind fun o1 =>
    some (o1.2, ())
def laws_FnWheelOnce_s23 (rec : (Unit × (D_Wheel × (Int × ((List D_Timer) × ((List D_Timer) × ((List D_Timer) × (Int × (Int × ((List D_Timer) × (Int × Unit)))))))))) → Option ((Unit × (Int × Unit)))) (v : (Unit × (D_Wheel × (Int × ((List D_Timer) × ((List D_Timer) × ((List D_Timer) × (Int × (Int × ((List D_Timer) × (Int × Unit))))))))))) : Option ((Unit × (Int × Unit))) :=
  bif (decide (v.2.2.2.2.2.2.2.2.2.1 < (((List.length v.2.2.2.2.2.2.2.2.1) : Nat) : Int))) then
    bif ((decide ((0 : Int) ≤ v.2.2.2.2.2.2.2.2.2.1)) && (decide (v.2.2.2.2.2.2.2.2.2.1 < (((List.length v.2.2.2.2.2.2.2.2.1) : Nat) : Int)))) then
      bif (decide ((Int.toNat v.2.2.2.2.2.2.2.2.2.1) < (List.length v.2.2.2.2.2.2.2.2.1))) then
        bif ((decide ((0 : Int) ≤ v.2.2.2.2.2.2.1)) && (decide (v.2.2.2.2.2.2.1 < (((List.length v.2.2.2.2.1) : Nat) : Int)))) then
          bif (decide ((Int.toNat v.2.2.2.2.2.2.1) < (List.length v.2.2.2.2.1))) then
            bif ((decide ((List.getD v.2.2.2.2.2.2.2.2.1 (Int.toNat v.2.2.2.2.2.2.2.2.2.1) z_Timer).1 = (List.getD v.2.2.2.2.1 (Int.toNat v.2.2.2.2.2.2.1) z_Timer).1)) && ((decide ((List.getD v.2.2.2.2.2.2.2.2.1 (Int.toNat v.2.2.2.2.2.2.2.2.2.1) z_Timer).2.1 = (List.getD v.2.2.2.2.1 (Int.toNat v.2.2.2.2.2.2.1) z_Timer).2.1)) && true)) then
              rec ((), v.2.1, v.2.2.1, v.2.2.2.1, v.2.2.2.2.1, v.2.2.2.2.2.1, v.2.2.2.2.2.2.1, (IntKind.wrap .i64 (v.2.2.2.2.2.2.2.1 + (1 : Int))), v.2.2.2.2.2.2.2.2.1, (IntKind.wrap .i64 (v.2.2.2.2.2.2.2.2.2.1 + (1 : Int))), ())
            else
              rec ((), v.2.1, v.2.2.1, v.2.2.2.1, v.2.2.2.2.1, v.2.2.2.2.2.1, v.2.2.2.2.2.2.1, v.2.2.2.2.2.2.2.1, v.2.2.2.2.2.2.2.2.1, (IntKind.wrap .i64 (v.2.2.2.2.2.2.2.2.2.1 + (1 : Int))), ())
          else none
        else none
      else none
    else none
  else
    some ((), v.2.2.2.2.2.2.2.1, ())
def laws_FnWheelOnce_s16 (k : Nat) (rec : (Unit × (D_Wheel × (Int × ((List D_Timer) × ((List D_Timer) × ((List D_Timer) × (Int × Unit))))))) → Option ((Unit × (Bool × Unit)) ⊕ (Unit × D_Spoke))) (v : (Unit × (D_Wheel × (Int × ((List D_Timer) × ((List D_Timer) × ((List D_Timer) × (Int × Unit)))))))) : Option ((Unit × (Bool × Unit)) ⊕ (Unit × D_Spoke)) :=
  bif (decide (v.2.2.2.2.2.2.1 < (((List.length v.2.2.2.2.1) : Nat) : Int))) then
    bif ((decide ((0 : Int) ≤ v.2.2.2.2.2.2.1)) && (decide (v.2.2.2.2.2.2.1 < (((List.length v.2.2.2.2.1) : Nat) : Int)))) then
      bif (decide ((Int.toNat v.2.2.2.2.2.2.1) < (List.length v.2.2.2.2.1))) then
        bif (decide ((List.getD v.2.2.2.2.1 (Int.toNat v.2.2.2.2.2.2.1) z_Timer).2.1 ≤ (IntKind.wrap .i64 (v.2.1.1 + v.2.2.1)))) then
          (iter (laws_FnWheelOnce_s23) k ((), v.2.1, v.2.2.1, v.2.2.2.1, v.2.2.2.2.1, v.2.2.2.2.2.1, v.2.2.2.2.2.2.1, (0 : Int), v.2.2.2.1, (0 : Int), ())).bind fun o9 =>
            bif (!(decide (o9.2.1 = (1 : Int)))) then
              some (Sum.inl ((), false, ()))
            else
              rec ((), v.2.1, v.2.2.1, v.2.2.2.1, v.2.2.2.2.1, v.2.2.2.2.2.1, (IntKind.wrap .i64 (v.2.2.2.2.2.2.1 + (1 : Int))), ())
        else
          (iter (laws_FnWheelOnce_s23) k ((), v.2.1, v.2.2.1, v.2.2.2.1, v.2.2.2.2.1, v.2.2.2.2.2.1, v.2.2.2.2.2.2.1, (0 : Int), v.2.2.2.2.2.1, (0 : Int), ())).bind fun o10 =>
            bif (!(decide (o10.2.1 = (1 : Int)))) then
              some (Sum.inl ((), false, ()))
            else
              rec ((), v.2.1, v.2.2.1, v.2.2.2.1, v.2.2.2.2.1, v.2.2.2.2.2.1, (IntKind.wrap .i64 (v.2.2.2.2.2.2.1 + (1 : Int))), ())
      else none
    else none
  else
    some (Sum.inr ((), v.2.2.2.1, ()))
def laws_FnWheelOnce_s30 (rec : (Unit × ((List D_Timer) × (Int × Unit))) → Option ((Unit × (Bool × Unit)) ⊕ (Unit × Unit))) (v : (Unit × ((List D_Timer) × (Int × Unit)))) : Option ((Unit × (Bool × Unit)) ⊕ (Unit × Unit)) :=
  bif (decide (v.2.2.1 < (((List.length v.2.1) : Nat) : Int))) then
    bif ((decide ((0 : Int) ≤ (IntKind.wrap .i64 (v.2.2.1 - (1 : Int))))) && (decide ((IntKind.wrap .i64 (v.2.2.1 - (1 : Int))) < (((List.length v.2.1) : Nat) : Int)))) then
      bif (decide ((Int.toNat (IntKind.wrap .i64 (v.2.2.1 - (1 : Int)))) < (List.length v.2.1))) then
        bif ((decide ((0 : Int) ≤ v.2.2.1)) && (decide (v.2.2.1 < (((List.length v.2.1) : Nat) : Int)))) then
          bif (decide ((Int.toNat v.2.2.1) < (List.length v.2.1))) then
            bif (decide ((List.getD v.2.1 (Int.toNat v.2.2.1) z_Timer).2.1 < (List.getD v.2.1 (Int.toNat (IntKind.wrap .i64 (v.2.2.1 - (1 : Int)))) z_Timer).2.1)) then
              some (Sum.inl ((), false, ()))
            else
              rec ((), v.2.1, (IntKind.wrap .i64 (v.2.2.1 + (1 : Int))), ())
          else none
        else none
      else none
    else none
  else
    some (Sum.inr ((), ()))
def laws_FnWheelOnce (k : Nat) (x0 : (List Int)) : Option ((Bool × Unit) × Unit) :=
  (laws_big x0).bind fun t1 =>
    bif t1.1.1 then
      some ((true, ()), ())
    else
      (spec_DrawWheelRun k x0).bind fun t2 =>
        (spec_WheelRun k t2.1.1 t2.1.2.1).bind fun t3 =>
          (spec_DrawWheelRun k x0).bind fun t4 =>
            (impl_WheelRun k t4.1.1 t2.1.2.1).bind fun t5 =>
              bif (decide ((((List.length t3.1.1.2.1) : Nat) : Int) = (0 : Int))) then
                bif (decide ((((List.length t5.1.1.2.1) : Nat) : Int) = (0 : Int))) then
                  some (((decide ((((List.length t5.1.2.1) : Nat) : Int) = (0 : Int))), ()), ())
                else
                  some ((false, ()), ())
              else
                (spec_WheelOk k t5.1.1).bind fun t6 =>
                  bif (!(!t6.1.1)) then
                    bif (!(decide (t5.1.1.1 = (IntKind.wrap .i64 (t2.1.1.1 + t2.1.2.1))))) then
                      some ((false, ()), ())
                    else
                      (laws_timers k t2.1.1).bind fun t7 =>
                        (laws_timers k t5.1.1).bind fun t8 =>
                          bif (!(decide ((IntKind.wrap .i64 ((((List.length t5.1.2.1) : Nat) : Int) + (((List.length t8.1.1) : Nat) : Int))) = (((List.length t7.1.1) : Nat) : Int)))) then
                            some ((false, ()), ())
                          else
                            (iter (laws_FnWheelOnce_s16 k) k ((), t2.1.1, t2.1.2.1, t5.1.2.1, t7.1.1, t8.1.1, (0 : Int), ())).bind fun o9 =>
                              Sum.elim (fun a10 =>
                                some (a10.2, ()))
                              (fun b11 =>
                                (iter (laws_FnWheelOnce_s30) k ((), b11.2.1, (1 : Int), ())).bind fun o12 =>
                                  Sum.elim (fun a13 =>
                                    some (a13.2, ()))
                                  (fun b14 =>
                                    some ((true, ()), ())) o12) o9
                  else
                    some ((false, ()), ())
end Go.Tw
