/- The mirrors of the functions as plain definitions, by which proofs go on. -/
import Derived.Test.YtmlhnnjekfbenaaT23
set_option linter.all false
namespace Go.Tw
open Go Go.RowKit
abbrev T_Vec : Ty := (.pr (.int .i64) (.pr (.int .i64) (.pr (.int .i64) .un)))
abbrev D_Vec := (Int × (Int × (Int × Unit)))
def z_Vec : D_Vec := ((0 : Int), ((0 : Int), ((0 : Int), ())))
abbrev T_Event : Ty := (.pr (.int .i64) (.pr (.int .i64) (.pr (.sl (.int .u8)) (.pr T_Vec .un))))
abbrev D_Event := (Int × (Int × ((List Int) × (D_Vec × Unit))))
def z_Event : D_Event := ((0 : Int), ((0 : Int), ([], (z_Vec, ()))))
def laws_szByteS (x0 : (List Int)) (x1 : Int) : Option ((Int × Unit) × Unit) :=
  bif (decide ((IntKind.wrap .i64 (x1 - (((List.length x0) : Nat) : Int))) < (0 : Int))) then
    some (((-1 : Int), ()), ())
  else
    some (((IntKind.wrap .i64 (x1 - (((List.length x0) : Nat) : Int))), ()), ())
def laws_szEvent (x0 : D_Event) (x1 : Int) : Option ((Int × Unit) × Unit) :=
  (laws_szByteS x0.2.2.1 x1).bind fun t1 =>
    bif (decide (t1.1.1 < (0 : Int))) then
      some (((-1 : Int), ()), ())
    else
      some (t1.1, ())
def laws_szEventS_s5 (rec : (Unit × ((List D_Event) × (Int × (Int × Unit)))) → Option ((Unit × (Int × Unit)) ⊕ (Unit × (Int × Unit)))) (v : (Unit × ((List D_Event) × (Int × (Int × Unit))))) : Option ((Unit × (Int × Unit)) ⊕ (Unit × (Int × Unit))) :=
  bif (decide (v.2.2.2.1 < (((List.length v.2.1) : Nat) : Int))) then
    bif ((decide ((0 : Int) ≤ v.2.2.2.1)) && (decide (v.2.2.2.1 < (((List.length v.2.1) : Nat) : Int)))) then
      bif (decide ((Int.toNat v.2.2.2.1) < (List.length v.2.1))) then
        (laws_szEvent (List.getD v.2.1 (Int.toNat v.2.2.2.1) z_Event) v.2.2.1).bind fun t1 =>
          bif (decide (t1.1.1 < (0 : Int))) then
            some (Sum.inl ((), (-1 : Int), ()))
          else
            rec ((), v.2.1, t1.1.1, (IntKind.wrap .i64 (v.2.2.2.1 + (1 : Int))), ())
      else none
    else none
  else
    some (Sum.inr ((), v.2.2.1, ()))
def laws_szEventS (k : Nat) (x0 : (List D_Event)) (x1 : Int) : Option ((Int × Unit) × Unit) :=
  bif (decide ((IntKind.wrap .i64 (x1 - (((List.length x0) : Nat) : Int))) < (0 : Int))) then
    some (((-1 : Int), ()), ())
  else
    (iter (laws_szEventS_s5) k ((), x0, (IntKind.wrap .i64 (x1 - (((List.length x0) : Nat) : Int))), (0 : Int), ())).bind fun o1 =>
      Sum.elim (fun a2 =>
        some (a2.2, ()))
      (fun b3 =>
        some (b3.2, ())) o1
def laws_toByteS_s3 (rec : (Unit × ((List Int) × ((List Int) × (Int × Unit)))) → Option ((Unit × ((List Int) × Unit)))) (v : (Unit × ((List Int) × ((List Int) × (Int × Unit))))) : Option ((Unit × ((List Int) × Unit))) :=
  bif (decide (v.2.2.2.1 < (((List.length v.2.1) : Nat) : Int))) then
    bif ((decide ((0 : Int) ≤ v.2.2.2.1)) && (decide (v.2.2.2.1 < (((List.length v.2.1) : Nat) : Int)))) then
      bif (decide ((Int.toNat v.2.2.2.1) < (List.length v.2.1))) then
        bif ((decide ((0 : Int) ≤ v.2.2.2.1)) && (decide (v.2.2.2.1 < (((List.length v.2.2.1) : Nat) : Int)))) then
          bif (decide ((Int.toNat v.2.2.2.1) < (List.length v.2.2.1))) then
            rec ((), v.2.1, (List.set v.2.2.1 (Int.toNat v.2.2.2.1) (List.getD v.2.1 (Int.toNat v.2.2.2.1) (0 : Int))), (IntKind.wrap .i64 (v.2.2.2.1 + (1 : Int))), ())
          else none
        else none
      else none
    else none
  else
    some ((), v.2.2.1, ())
def laws_toByteS (k : Nat) (x0 : (List Int)) : Option (((List Int) × Unit) × Unit) :=
  bif (((decide ((0 : Int) ≤ (((List.length x0) : Nat) : Int))) && (decide ((((List.length x0) : Nat) : Int) ≤ (((List.length x0) : Nat) : Int)))) && (decide (((1 : Int) * (((List.length x0) : Nat) : Int)) ≤ (1099511627776 : Int)))) then
    (iter (laws_toByteS_s3) k ((), x0, (List.replicate (List.length x0) (0 : Int)), (0 : Int), ())).bind fun o1 =>
      some (o1.2, ())
  else none
def laws_toVec (x0 : D_Vec) : Option ((D_Vec × Unit) × Unit) :=
  some ((x0, ()), ())
def laws_toEvent (k : Nat) (x0 : D_Event) : Option ((D_Event × Unit) × Unit) :=
  (laws_toByteS k x0.2.2.1).bind fun t1 =>
    (laws_toVec x0.2.2.2.1).bind fun t2 =>
      some (((x0.1, x0.2.1, t1.1.1, t2.1), ()), ())
def laws_toEventS_s3 (k : Nat) (rec : (Unit × ((List D_Event) × ((List D_Event) × (Int × Unit)))) → Option ((Unit × ((List D_Event) × Unit)))) (v : (Unit × ((List D_Event) × ((List D_Event) × (Int × Unit))))) : Option ((Unit × ((List D_Event) × Unit))) :=
  bif (decide (v.2.2.2.1 < (((List.length v.2.1) : Nat) : Int))) then
    bif ((decide ((0 : Int) ≤ v.2.2.2.1)) && (decide (v.2.2.2.1 < (((List.length v.2.1) : Nat) : Int)))) then
      bif (decide ((Int.toNat v.2.2.2.1) < (List.length v.2.1))) then
        (laws_toEvent k (List.getD v.2.1 (Int.toNat v.2.2.2.1) z_Event)).bind fun t1 =>
          bif ((decide ((0 : Int) ≤ v.2.2.2.1)) && (decide (v.2.2.2.1 < (((List.length v.2.2.1) : Nat) : Int)))) then
            bif (decide ((Int.toNat v.2.2.2.1) < (List.length v.2.2.1))) then
              rec ((), v.2.1, (List.set v.2.2.1 (Int.toNat v.2.2.2.1) t1.1.1), (IntKind.wrap .i64 (v.2.2.2.1 + (1 : Int))), ())
            else none
          else none
      else none
    else none
  else
    some ((), v.2.2.1, ())
def laws_toEventS (k : Nat) (x0 : (List D_Event)) : Option (((List D_Event) × Unit) × Unit) :=
  bif (((decide ((0 : Int) ≤ (((List.length x0) : Nat) : Int))) && (decide ((((List.length x0) : Nat) : Int) ≤ (((List.length x0) : Nat) : Int)))) && (decide (((64 : Int) * (((List.length x0) : Nat) : Int)) ≤ (1099511627776 : Int)))) then
    (iter (laws_toEventS_s3 k) k ((), x0, (List.replicate (List.length x0) ((0 : Int), (0 : Int), ([] : List Int), ((0 : Int), (0 : Int), (0 : Int), ()), ())), (0 : Int), ())).bind fun o1 =>
      some (o1.2, ())
  else none
def spec_EventsOk_s5 (rec : (Unit × ((List D_Event) × (Int × (Int × Unit)))) → Option ((Unit × (Bool × Unit)) ⊕ (Unit × Unit))) (v : (Unit × ((List D_Event) × (Int × (Int × Unit))))) : Option ((Unit × (Bool × Unit)) ⊕ (Unit × Unit)) :=
  bif (decide (v.2.2.2.1 < (((List.length v.2.1) : Nat) : Int))) then
    bif ((decide ((0 : Int) ≤ v.2.2.2.1)) && (decide (v.2.2.2.1 < (((List.length v.2.1) : Nat) : Int)))) then
      bif (decide ((Int.toNat v.2.2.2.1) < (List.length v.2.1))) then
        bif (!(decide ((List.getD v.2.1 (Int.toNat v.2.2.2.1) z_Event).1 < (1 : Int)))) then
          bif (!(decide ((4 : Int) < (List.getD v.2.1 (Int.toNat v.2.2.2.1) z_Event).1))) then
            bif (decide ((2000 : Int) < (((List.length (List.getD v.2.1 (Int.toNat v.2.2.2.1) z_Event).2.2.1) : Nat) : Int))) then
              some (Sum.inl ((), false, ()))
            else
              bif (!(decide ((List.getD v.2.1 (Int.toNat v.2.2.2.1) z_Event).1 = (2 : Int)))) then
                bif (!(!(decide ((List.getD v.2.1 (Int.toNat v.2.2.2.1) z_Event).2.1 = (0 : Int))))) then
                  bif (decide ((List.getD v.2.1 (Int.toNat v.2.2.2.1) z_Event).1 = (2 : Int))) then
                    bif (!(decide ((List.getD v.2.1 (Int.toNat v.2.2.2.1) z_Event).2.1 < (1 : Int)))) then
                      bif (decide (v.2.2.1 < (List.getD v.2.1 (Int.toNat v.2.2.2.1) z_Event).2.1)) then
                        some (Sum.inl ((), false, ()))
                      else
                        bif (!(decide ((List.getD v.2.1 (Int.toNat v.2.2.2.1) z_Event).1 = (1 : Int)))) then
                          bif (!(!((decide ((List.getD v.2.1 (Int.toNat v.2.2.2.1) z_Event).2.2.2.1.1 = (0 : Int))) && ((decide ((List.getD v.2.1 (Int.toNat v.2.2.2.1) z_Event).2.2.2.1.2.1 = (0 : Int))) && ((decide ((List.getD v.2.1 (Int.toNat v.2.2.2.1) z_Event).2.2.2.1.2.2.1 = (0 : Int))) && true))))) then
                            bif (!(decide ((List.getD v.2.1 (Int.toNat v.2.2.2.1) z_Event).1 = (2 : Int)))) then
                              bif (decide ((List.getD v.2.1 (Int.toNat v.2.2.2.1) z_Event).1 = (4 : Int))) then
                                bif (decide ((0 : Int) < (((List.length (List.getD v.2.1 (Int.toNat v.2.2.2.1) z_Event).2.2.1) : Nat) : Int))) then
                                  some (Sum.inl ((), false, ()))
                                else
                                  rec ((), v.2.1, (IntKind.wrap .i64 (v.2.2.1 - (List.getD v.2.1 (Int.toNat v.2.2.2.1) z_Event).2.1)), (IntKind.wrap .i64 (v.2.2.2.1 + (1 : Int))), ())
                              else
                                rec ((), v.2.1, (IntKind.wrap .i64 (v.2.2.1 - (List.getD v.2.1 (Int.toNat v.2.2.2.1) z_Event).2.1)), (IntKind.wrap .i64 (v.2.2.2.1 + (1 : Int))), ())
                            else
                              bif (decide ((0 : Int) < (((List.length (List.getD v.2.1 (Int.toNat v.2.2.2.1) z_Event).2.2.1) : Nat) : Int))) then
                                some (Sum.inl ((), false, ()))
                              else
                                rec ((), v.2.1, (IntKind.wrap .i64 (v.2.2.1 - (List.getD v.2.1 (Int.toNat v.2.2.2.1) z_Event).2.1)), (IntKind.wrap .i64 (v.2.2.2.1 + (1 : Int))), ())
                          else
                            some (Sum.inl ((), false, ()))
                        else
                          bif (!(decide ((List.getD v.2.1 (Int.toNat v.2.2.2.1) z_Event).1 = (2 : Int)))) then
                            bif (decide ((List.getD v.2.1 (Int.toNat v.2.2.2.1) z_Event).1 = (4 : Int))) then
                              bif (decide ((0 : Int) < (((List.length (List.getD v.2.1 (Int.toNat v.2.2.2.1) z_Event).2.2.1) : Nat) : Int))) then
                                some (Sum.inl ((), false, ()))
                              else
                                rec ((), v.2.1, (IntKind.wrap .i64 (v.2.2.1 - (List.getD v.2.1 (Int.toNat v.2.2.2.1) z_Event).2.1)), (IntKind.wrap .i64 (v.2.2.2.1 + (1 : Int))), ())
                            else
                              rec ((), v.2.1, (IntKind.wrap .i64 (v.2.2.1 - (List.getD v.2.1 (Int.toNat v.2.2.2.1) z_Event).2.1)), (IntKind.wrap .i64 (v.2.2.2.1 + (1 : Int))), ())
                          else
                            bif (decide ((0 : Int) < (((List.length (List.getD v.2.1 (Int.toNat v.2.2.2.1) z_Event).2.2.1) : Nat) : Int))) then
                              some (Sum.inl ((), false, ()))
                            else
                              rec ((), v.2.1, (IntKind.wrap .i64 (v.2.2.1 - (List.getD v.2.1 (Int.toNat v.2.2.2.1) z_Event).2.1)), (IntKind.wrap .i64 (v.2.2.2.1 + (1 : Int))), ())
                    else
                      some (Sum.inl ((), false, ()))
                  else
                    bif (!(decide ((List.getD v.2.1 (Int.toNat v.2.2.2.1) z_Event).1 = (1 : Int)))) then
                      bif (!(!((decide ((List.getD v.2.1 (Int.toNat v.2.2.2.1) z_Event).2.2.2.1.1 = (0 : Int))) && ((decide ((List.getD v.2.1 (Int.toNat v.2.2.2.1) z_Event).2.2.2.1.2.1 = (0 : Int))) && ((decide ((List.getD v.2.1 (Int.toNat v.2.2.2.1) z_Event).2.2.2.1.2.2.1 = (0 : Int))) && true))))) then
                        bif (!(decide ((List.getD v.2.1 (Int.toNat v.2.2.2.1) z_Event).1 = (2 : Int)))) then
                          bif (decide ((List.getD v.2.1 (Int.toNat v.2.2.2.1) z_Event).1 = (4 : Int))) then
                            bif (decide ((0 : Int) < (((List.length (List.getD v.2.1 (Int.toNat v.2.2.2.1) z_Event).2.2.1) : Nat) : Int))) then
                              some (Sum.inl ((), false, ()))
                            else
                              rec ((), v.2.1, (IntKind.wrap .i64 (v.2.2.1 - (List.getD v.2.1 (Int.toNat v.2.2.2.1) z_Event).2.1)), (IntKind.wrap .i64 (v.2.2.2.1 + (1 : Int))), ())
                          else
                            rec ((), v.2.1, (IntKind.wrap .i64 (v.2.2.1 - (List.getD v.2.1 (Int.toNat v.2.2.2.1) z_Event).2.1)), (IntKind.wrap .i64 (v.2.2.2.1 + (1 : Int))), ())
                        else
                          bif (decide ((0 : Int) < (((List.length (List.getD v.2.1 (Int.toNat v.2.2.2.1) z_Event).2.2.1) : Nat) : Int))) then
                            some (Sum.inl ((), false, ()))
                          else
                            rec ((), v.2.1, (IntKind.wrap .i64 (v.2.2.1 - (List.getD v.2.1 (Int.toNat v.2.2.2.1) z_Event).2.1)), (IntKind.wrap .i64 (v.2.2.2.1 + (1 : Int))), ())
                      else
                        some (Sum.inl ((), false, ()))
                    else
                      bif (!(decide ((List.getD v.2.1 (Int.toNat v.2.2.2.1) z_Event).1 = (2 : Int)))) then
                        bif (decide ((List.getD v.2.1 (Int.toNat v.2.2.2.1) z_Event).1 = (4 : Int))) then
                          bif (decide ((0 : Int) < (((List.length (List.getD v.2.1 (Int.toNat v.2.2.2.1) z_Event).2.2.1) : Nat) : Int))) then
                            some (Sum.inl ((), false, ()))
                          else
                            rec ((), v.2.1, (IntKind.wrap .i64 (v.2.2.1 - (List.getD v.2.1 (Int.toNat v.2.2.2.1) z_Event).2.1)), (IntKind.wrap .i64 (v.2.2.2.1 + (1 : Int))), ())
                        else
                          rec ((), v.2.1, (IntKind.wrap .i64 (v.2.2.1 - (List.getD v.2.1 (Int.toNat v.2.2.2.1) z_Event).2.1)), (IntKind.wrap .i64 (v.2.2.2.1 + (1 : Int))), ())
                      else
                        bif (decide ((0 : Int) < (((List.length (List.getD v.2.1 (Int.toNat v.2.2.2.1) z_Event).2.2.1) : Nat) : Int))) then
                          some (Sum.inl ((), false, ()))
                        else
                          rec ((), v.2.1, (IntKind.wrap .i64 (v.2.2.1 - (List.getD v.2.1 (Int.toNat v.2.2.2.1) z_Event).2.1)), (IntKind.wrap .i64 (v.2.2.2.1 + (1 : Int))), ())
                else
                  some (Sum.inl ((), false, ()))
              else
                bif (decide ((List.getD v.2.1 (Int.toNat v.2.2.2.1) z_Event).1 = (2 : Int))) then
                  bif (!(decide ((List.getD v.2.1 (Int.toNat v.2.2.2.1) z_Event).2.1 < (1 : Int)))) then
                    bif (decide (v.2.2.1 < (List.getD v.2.1 (Int.toNat v.2.2.2.1) z_Event).2.1)) then
                      some (Sum.inl ((), false, ()))
                    else
                      bif (!(decide ((List.getD v.2.1 (Int.toNat v.2.2.2.1) z_Event).1 = (1 : Int)))) then
                        bif (!(!((decide ((List.getD v.2.1 (Int.toNat v.2.2.2.1) z_Event).2.2.2.1.1 = (0 : Int))) && ((decide ((List.getD v.2.1 (Int.toNat v.2.2.2.1) z_Event).2.2.2.1.2.1 = (0 : Int))) && ((decide ((List.getD v.2.1 (Int.toNat v.2.2.2.1) z_Event).2.2.2.1.2.2.1 = (0 : Int))) && true))))) then
                          bif (!(decide ((List.getD v.2.1 (Int.toNat v.2.2.2.1) z_Event).1 = (2 : Int)))) then
                            bif (decide ((List.getD v.2.1 (Int.toNat v.2.2.2.1) z_Event).1 = (4 : Int))) then
                              bif (decide ((0 : Int) < (((List.length (List.getD v.2.1 (Int.toNat v.2.2.2.1) z_Event).2.2.1) : Nat) : Int))) then
                                some (Sum.inl ((), false, ()))
                              else
                                rec ((), v.2.1, (IntKind.wrap .i64 (v.2.2.1 - (List.getD v.2.1 (Int.toNat v.2.2.2.1) z_Event).2.1)), (IntKind.wrap .i64 (v.2.2.2.1 + (1 : Int))), ())
                            else
                              rec ((), v.2.1, (IntKind.wrap .i64 (v.2.2.1 - (List.getD v.2.1 (Int.toNat v.2.2.2.1) z_Event).2.1)), (IntKind.wrap .i64 (v.2.2.2.1 + (1 : Int))), ())
                          else
                            bif (decide ((0 : Int) < (((List.length (List.getD v.2.1 (Int.toNat v.2.2.2.1) z_Event).2.2.1) : Nat) : Int))) then
                              some (Sum.inl ((), false, ()))
                            else
                              rec ((), v.2.1, (IntKind.wrap .i64 (v.2.2.1 - (List.getD v.2.1 (Int.toNat v.2.2.2.1) z_Event).2.1)), (IntKind.wrap .i64 (v.2.2.2.1 + (1 : Int))), ())
                        else
                          some (Sum.inl ((), false, ()))
                      else
                        bif (!(decide ((List.getD v.2.1 (Int.toNat v.2.2.2.1) z_Event).1 = (2 : Int)))) then
                          bif (decide ((List.getD v.2.1 (Int.toNat v.2.2.2.1) z_Event).1 = (4 : Int))) then
                            bif (decide ((0 : Int) < (((List.length (List.getD v.2.1 (Int.toNat v.2.2.2.1) z_Event).2.2.1) : Nat) : Int))) then
                              some (Sum.inl ((), false, ()))
                            else
                              rec ((), v.2.1, (IntKind.wrap .i64 (v.2.2.1 - (List.getD v.2.1 (Int.toNat v.2.2.2.1) z_Event).2.1)), (IntKind.wrap .i64 (v.2.2.2.1 + (1 : Int))), ())
                          else
                            rec ((), v.2.1, (IntKind.wrap .i64 (v.2.2.1 - (List.getD v.2.1 (Int.toNat v.2.2.2.1) z_Event).2.1)), (IntKind.wrap .i64 (v.2.2.2.1 + (1 : Int))), ())
                        else
                          bif (decide ((0 : Int) < (((List.length (List.getD v.2.1 (Int.toNat v.2.2.2.1) z_Event).2.2.1) : Nat) : Int))) then
                            some (Sum.inl ((), false, ()))
                          else
                            rec ((), v.2.1, (IntKind.wrap .i64 (v.2.2.1 - (List.getD v.2.1 (Int.toNat v.2.2.2.1) z_Event).2.1)), (IntKind.wrap .i64 (v.2.2.2.1 + (1 : Int))), ())
                  else
                    some (Sum.inl ((), false, ()))
                else
                  bif (!(decide ((List.getD v.2.1 (Int.toNat v.2.2.2.1) z_Event).1 = (1 : Int)))) then
                    bif (!(!((decide ((List.getD v.2.1 (Int.toNat v.2.2.2.1) z_Event).2.2.2.1.1 = (0 : Int))) && ((decide ((List.getD v.2.1 (Int.toNat v.2.2.2.1) z_Event).2.2.2.1.2.1 = (0 : Int))) && ((decide ((List.getD v.2.1 (Int.toNat v.2.2.2.1) z_Event).2.2.2.1.2.2.1 = (0 : Int))) && true))))) then
                      bif (!(decide ((List.getD v.2.1 (Int.toNat v.2.2.2.1) z_Event).1 = (2 : Int)))) then
                        bif (decide ((List.getD v.2.1 (Int.toNat v.2.2.2.1) z_Event).1 = (4 : Int))) then
                          bif (decide ((0 : Int) < (((List.length (List.getD v.2.1 (Int.toNat v.2.2.2.1) z_Event).2.2.1) : Nat) : Int))) then
                            some (Sum.inl ((), false, ()))
                          else
                            rec ((), v.2.1, (IntKind.wrap .i64 (v.2.2.1 - (List.getD v.2.1 (Int.toNat v.2.2.2.1) z_Event).2.1)), (IntKind.wrap .i64 (v.2.2.2.1 + (1 : Int))), ())
                        else
                          rec ((), v.2.1, (IntKind.wrap .i64 (v.2.2.1 - (List.getD v.2.1 (Int.toNat v.2.2.2.1) z_Event).2.1)), (IntKind.wrap .i64 (v.2.2.2.1 + (1 : Int))), ())
                      else
                        bif (decide ((0 : Int) < (((List.length (List.getD v.2.1 (Int.toNat v.2.2.2.1) z_Event).2.2.1) : Nat) : Int))) then
                          some (Sum.inl ((), false, ()))
                        else
                          rec ((), v.2.1, (IntKind.wrap .i64 (v.2.2.1 - (List.getD v.2.1 (Int.toNat v.2.2.2.1) z_Event).2.1)), (IntKind.wrap .i64 (v.2.2.2.1 + (1 : Int))), ())
                    else
                      some (Sum.inl ((), false, ()))
                  else
                    bif (!(decide ((List.getD v.2.1 (Int.toNat v.2.2.2.1) z_Event).1 = (2 : Int)))) then
                      bif (decide ((List.getD v.2.1 (Int.toNat v.2.2.2.1) z_Event).1 = (4 : Int))) then
                        bif (decide ((0 : Int) < (((List.length (List.getD v.2.1 (Int.toNat v.2.2.2.1) z_Event).2.2.1) : Nat) : Int))) then
                          some (Sum.inl ((), false, ()))
                        else
                          rec ((), v.2.1, (IntKind.wrap .i64 (v.2.2.1 - (List.getD v.2.1 (Int.toNat v.2.2.2.1) z_Event).2.1)), (IntKind.wrap .i64 (v.2.2.2.1 + (1 : Int))), ())
                      else
                        rec ((), v.2.1, (IntKind.wrap .i64 (v.2.2.1 - (List.getD v.2.1 (Int.toNat v.2.2.2.1) z_Event).2.1)), (IntKind.wrap .i64 (v.2.2.2.1 + (1 : Int))), ())
                    else
                      bif (decide ((0 : Int) < (((List.length (List.getD v.2.1 (Int.toNat v.2.2.2.1) z_Event).2.2.1) : Nat) : Int))) then
                        some (Sum.inl ((), false, ()))
                      else
                        rec ((), v.2.1, (IntKind.wrap .i64 (v.2.2.1 - (List.getD v.2.1 (Int.toNat v.2.2.2.1) z_Event).2.1)), (IntKind.wrap .i64 (v.2.2.2.1 + (1 : Int))), ())
          else
            some (Sum.inl ((), false, ()))
        else
          some (Sum.inl ((), false, ()))
      else none
    else none
  else
    some (Sum.inr ((), ()))
def spec_EventsOk (k : Nat) (x0 : (List D_Event)) : Option ((Bool × Unit) × Unit) :=
  bif (decide ((200 : Int) < (((List.length x0) : Nat) : Int))) then
    some ((false, ()), ())
  else
    (iter (spec_EventsOk_s5) k ((), x0, (4000 : Int), (0 : Int), ())).bind fun o1 =>
      Sum.elim (fun a2 =>
        some (a2.2, ()))
      (fun b3 =>
        some ((true, ()), ())) o1
def impl_within (x0 : Int) (x1 : Int) (x2 : Int) : Option ((Bool × Unit) × Unit) :=
  bif (decide (x1 ≤ x0)) then
    some (((decide (x0 ≤ x2)), ()), ())
  else
    some ((false, ()), ())
def impl_eventOk (x0 : D_Event) : Option ((Bool × Unit) × Unit) :=
  bif (decide (x0.1 = (1 : Int))) then
    bif (decide (x0.2.1 = (0 : Int))) then
      some (((decide ((((List.length x0.2.2.1) : Nat) : Int) ≤ (2000 : Int))), ()), ())
    else
      some ((false, ()), ())
  else
    bif (decide (x0.1 = (3 : Int))) then
      bif (decide (x0.2.1 = (0 : Int))) then
        bif (decide ((((List.length x0.2.2.1) : Nat) : Int) ≤ (2000 : Int))) then
          some ((((decide (x0.2.2.2.1.1 = (0 : Int))) && ((decide (x0.2.2.2.1.2.1 = (0 : Int))) && ((decide (x0.2.2.2.1.2.2.1 = (0 : Int))) && true))), ()), ())
        else
          some ((false, ()), ())
      else
        some ((false, ()), ())
    else
      bif (decide (x0.1 = (2 : Int))) then
        (impl_within x0.2.1 (1 : Int) (4000 : Int)).bind fun t1 =>
          bif t1.1.1 then
            bif (decide ((((List.length x0.2.2.1) : Nat) : Int) = (0 : Int))) then
              some ((((decide (x0.2.2.2.1.1 = (0 : Int))) && ((decide (x0.2.2.2.1.2.1 = (0 : Int))) && ((decide (x0.2.2.2.1.2.2.1 = (0 : Int))) && true))), ()), ())
            else
              some ((false, ()), ())
          else
            some ((false, ()), ())
      else
        bif (decide (x0.1 = (4 : Int))) then
          bif (decide (x0.2.1 = (0 : Int))) then
            bif (decide ((((List.length x0.2.2.1) : Nat) : Int) = (0 : Int))) then
              some ((((decide (x0.2.2.2.1.1 = (0 : Int))) && ((decide (x0.2.2.2.1.2.1 = (0 : Int))) && ((decide (x0.2.2.2.1.2.2.1 = (0 : Int))) && true))), ()), ())
            else
              some ((false, ()), ())
          else
            some ((false, ()), ())
        else
          some ((false, ()), ())
def impl_EventsOk_s3 (rec : (Unit × ((List D_Event) × (Int × ((List D_Event) × (Int × (Int × Unit)))))) → Option ((Unit × (Bool × Unit)) ⊕ (Unit × ((List D_Event) × (Int × Unit))))) (v : (Unit × ((List D_Event) × (Int × ((List D_Event) × (Int × (Int × Unit))))))) : Option ((Unit × (Bool × Unit)) ⊕ (Unit × ((List D_Event) × (Int × Unit)))) :=
  bif (decide (v.2.2.2.2.2.1 < v.2.2.2.2.1)) then
    bif ((decide ((0 : Int) ≤ v.2.2.2.2.2.1)) && (decide (v.2.2.2.2.2.1 < (((List.length v.2.2.2.1) : Nat) : Int)))) then
      bif (decide ((Int.toNat v.2.2.2.2.2.1) < (List.length v.2.2.2.1))) then
        (impl_eventOk (List.getD v.2.2.2.1 (Int.toNat v.2.2.2.2.2.1) z_Event)).bind fun t1 =>
          bif (!t1.1.1) then
            some (Sum.inl ((), false, ()))
          else
            rec ((), v.2.1, (IntKind.wrap .i64 (v.2.2.1 + (List.getD v.2.2.2.1 (Int.toNat v.2.2.2.2.2.1) z_Event).2.1)), v.2.2.2.1, v.2.2.2.2.1, (IntKind.wrap .i64 (v.2.2.2.2.2.1 + (1 : Int))), ())
      else none
    else none
  else
    some (Sum.inr ((), v.2.1, v.2.2.1, ()))
def impl_EventsOk (k : Nat) (x0 : (List D_Event)) : Option ((Bool × Unit) × Unit) :=
  (iter (impl_EventsOk_s3) k ((), x0, (0 : Int), x0, (((List.length x0) : Nat) : Int), (0 : Int), ())).bind fun o1 =>
    Sum.elim (fun a2 =>
      some (a2.2, ()))
    (fun b3 =>
      bif (decide ((((List.length b3.2.1) : Nat) : Int) ≤ (200 : Int))) then
        some (((decide (b3.2.2.1 ≤ (4000 : Int))), ()), ())
      else
        some ((false, ()), ())) o1
def laws_eqByteS_s4 (rec : (Unit × ((List Int) × ((List Int) × (Int × Unit)))) → Option ((Unit × (Bool × Unit)) ⊕ (Unit × Unit))) (v : (Unit × ((List Int) × ((List Int) × (Int × Unit))))) : Option ((Unit × (Bool × Unit)) ⊕ (Unit × Unit)) :=
  bif (decide (v.2.2.2.1 < (((List.length v.2.1) : Nat) : Int))) then
    bif ((decide ((0 : Int) ≤ v.2.2.2.1)) && (decide (v.2.2.2.1 < (((List.length v.2.1) : Nat) : Int)))) then
      bif (decide ((Int.toNat v.2.2.2.1) < (List.length v.2.1))) then
        bif ((decide ((0 : Int) ≤ v.2.2.2.1)) && (decide (v.2.2.2.1 < (((List.length v.2.2.1) : Nat) : Int)))) then
          bif (decide ((Int.toNat v.2.2.2.1) < (List.length v.2.2.1))) then
            bif (!(decide ((List.getD v.2.1 (Int.toNat v.2.2.2.1) (0 : Int)) = (List.getD v.2.2.1 (Int.toNat v.2.2.2.1) (0 : Int))))) then
              some (Sum.inl ((), false, ()))
            else
              rec ((), v.2.1, v.2.2.1, (IntKind.wrap .i64 (v.2.2.2.1 + (1 : Int))), ())
          else none
        else none
      else none
    else none
  else
    some (Sum.inr ((), ()))
def laws_eqByteS (k : Nat) (x0 : (List Int)) (x1 : (List Int)) : Option ((Bool × Unit) × Unit) :=
  bif (!(decide ((((List.length x0) : Nat) : Int) = (((List.length x1) : Nat) : Int)))) then
    some ((false, ()), ())
  else
    (iter (laws_eqByteS_s4) k ((), x0, x1, (0 : Int), ())).bind fun o1 =>
      Sum.elim (fun a2 =>
        some (a2.2, ()))
      (fun b3 =>
        some ((true, ()), ())) o1
def laws_eqVec (x0 : D_Vec) (x1 : D_Vec) : Option ((Bool × Unit) × Unit) :=
  bif (!(decide (x0.1 = x1.1))) then
    some ((false, ()), ())
  else
    bif (!(decide (x0.2.1 = x1.2.1))) then
      some ((false, ()), ())
    else
      bif (!(decide (x0.2.2.1 = x1.2.2.1))) then
        some ((false, ()), ())
      else
        some ((true, ()), ())
def laws_eqEvent (k : Nat) (x0 : D_Event) (x1 : D_Event) : Option ((Bool × Unit) × Unit) :=
  bif (!(decide (x0.1 = x1.1))) then
    some ((false, ()), ())
  else
    bif (!(decide (x0.2.1 = x1.2.1))) then
      some ((false, ()), ())
    else
      (laws_eqByteS k x0.2.2.1 x1.2.2.1).bind fun t1 =>
        bif (!t1.1.1) then
          some ((false, ()), ())
        else
          (laws_eqVec x0.2.2.2.1 x1.2.2.2.1).bind fun t2 =>
            bif (!t2.1.1) then
              some ((false, ()), ())
            else
              some ((true, ()), ())
def laws_eqEventS_s4 (k : Nat) (rec : (Unit × ((List D_Event) × ((List D_Event) × (Int × Unit)))) → Option ((Unit × (Bool × Unit)) ⊕ (Unit × Unit))) (v : (Unit × ((List D_Event) × ((List D_Event) × (Int × Unit))))) : Option ((Unit × (Bool × Unit)) ⊕ (Unit × Unit)) :=
  bif (decide (v.2.2.2.1 < (((List.length v.2.1) : Nat) : Int))) then
    bif ((decide ((0 : Int) ≤ v.2.2.2.1)) && (decide (v.2.2.2.1 < (((List.length v.2.1) : Nat) : Int)))) then
      bif (decide ((Int.toNat v.2.2.2.1) < (List.length v.2.1))) then
        bif ((decide ((0 : Int) ≤ v.2.2.2.1)) && (decide (v.2.2.2.1 < (((List.length v.2.2.1) : Nat) : Int)))) then
          bif (decide ((Int.toNat v.2.2.2.1) < (List.length v.2.2.1))) then
            (laws_eqEvent k (List.getD v.2.1 (Int.toNat v.2.2.2.1) z_Event) (List.getD v.2.2.1 (Int.toNat v.2.2.2.1) z_Event)).bind fun t1 =>
              bif (!t1.1.1) then
                some (Sum.inl ((), false, ()))
              else
                rec ((), v.2.1, v.2.2.1, (IntKind.wrap .i64 (v.2.2.2.1 + (1 : Int))), ())
          else none
        else none
      else none
    else none
  else
    some (Sum.inr ((), ()))
def laws_eqEventS (k : Nat) (x0 : (List D_Event)) (x1 : (List D_Event)) : Option ((Bool × Unit) × Unit) :=
  bif (!(decide ((((List.length x0) : Nat) : Int) = (((List.length x1) : Nat) : Int)))) then
    some ((false, ()), ())
  else
    (iter (laws_eqEventS_s4 k) k ((), x0, x1, (0 : Int), ())).bind fun o1 =>
      Sum.elim (fun a2 =>
        some (a2.2, ()))
      (fun b3 =>
        some ((true, ()), ())) o1
def laws_FnExactEventsOk (k : Nat) (x0 : (List D_Event)) : Option ((Bool × Unit) × Unit) :=
  (laws_szEventS k x0 (1048576 : Int)).bind fun t1 =>
    bif (decide (t1.1.1 < (0 : Int))) then
      some ((true, ()), ())
    else
      (laws_toEventS k x0).bind fun t2 =>
        (spec_EventsOk k t2.1.1).bind fun t3 =>
          (laws_toEventS k x0).bind fun t4 =>
            (impl_EventsOk k t4.1.1).bind fun t5 =>
              bif (!(t5.1.1 == t3.1.1)) then
                some ((false, ()), ())
              else
                (laws_toEventS k x0).bind fun t6 =>
                  (laws_eqEventS k t4.1.1 t6.1.1).bind fun t7 =>
                    bif (!t7.1.1) then
                      some ((false, ()), ())
                    else
                      some ((true, ()), ())
def spec_l24Frame_s3 (rec : (Unit × ((List D_Event) × D_Vec)) → Option ((Unit × (Int × Unit)) ⊕ (Unit × Unit))) (v : (Unit × ((List D_Event) × D_Vec))) : Option ((Unit × (Int × Unit)) ⊕ (Unit × Unit)) :=
  bif (decide (v.2.2.2.2.1 < (((List.length v.2.1) : Nat) : Int))) then
    bif ((decide ((0 : Int) ≤ v.2.2.2.2.1)) && (decide (v.2.2.2.2.1 < (((List.length v.2.1) : Nat) : Int)))) then
      bif (decide ((Int.toNat v.2.2.2.2.1) < (List.length v.2.1))) then
        bif (decide ((List.getD v.2.1 (Int.toNat v.2.2.2.2.1) z_Event).1 = (1 : Int))) then
          bif (decide ((IntKind.wrap .i64 (v.2.2.2.1 + (1 : Int))) = v.2.2.1)) then
            some (Sum.inl ((), v.2.2.2.2))
          else
            rec ((), v.2.1, v.2.2.1, (IntKind.wrap .i64 (v.2.2.2.1 + (1 : Int))), (IntKind.wrap .i64 (v.2.2.2.2.1 + (1 : Int))), ())
        else
          rec ((), v.2.1, v.2.2.1, v.2.2.2.1, (IntKind.wrap .i64 (v.2.2.2.2.1 + (1 : Int))), ())
      else none
    else none
  else
    some (Sum.inr ((), ()))
def spec_l24Frame (k : Nat) (x0 : (List D_Event)) (x1 : Int) : Option ((Int × Unit) × Unit) :=
  (iter (spec_l24Frame_s3) k ((), x0, x1, (-1 : Int), (0 : Int), ())).bind fun o1 =>
    Sum.elim (fun a2 =>
      some (a2.2, ()))
    (fun b3 =>
      some (((-1 : Int), ()), ())) o1
def spec_FrameAt (k : Nat) (x0 : (List D_Event)) (x1 : Int) : Option ((Int × Unit) × Unit) :=
  (spec_EventsOk k x0).bind fun t1 =>
    bif (!t1.1.1) then
      some (((-1 : Int), ()), ())
    else
      (spec_l24Frame k x0 x1).bind fun t2 =>
        some (t2.1, ())
def impl_frameAt_s2 (rec : (Unit × (Int × ((List D_Event) × (Int × (Int × Unit))))) → Option ((Unit × (Int × Unit)) ⊕ (Unit × Unit))) (v : (Unit × (Int × ((List D_Event) × (Int × (Int × Unit)))))) : Option ((Unit × (Int × Unit)) ⊕ (Unit × Unit)) :=
  bif (decide (v.2.2.2.2.1 < v.2.2.2.1)) then
    bif ((decide ((0 : Int) ≤ v.2.2.2.2.1)) && (decide (v.2.2.2.2.1 < (((List.length v.2.2.1) : Nat) : Int)))) then
      bif (decide ((Int.toNat v.2.2.2.2.1) < (List.length v.2.2.1))) then
        bif (!(decide ((List.getD v.2.2.1 (Int.toNat v.2.2.2.2.1) z_Event).1 = (1 : Int)))) then
          rec ((), v.2.1, v.2.2.1, v.2.2.2.1, (IntKind.wrap .i64 (v.2.2.2.2.1 + (1 : Int))), ())
        else
          bif (decide (v.2.1 = (0 : Int))) then
            some (Sum.inl ((), v.2.2.2.2))
          else
            rec ((), (IntKind.wrap .i64 (v.2.1 - (1 : Int))), v.2.2.1, v.2.2.2.1, (IntKind.wrap .i64 (v.2.2.2.2.1 + (1 : Int))), ())
      else none
    else none
  else
    some (Sum.inr ((), ()))
def impl_frameAt (k : Nat) (x0 : (List D_Event)) (x1 : Int) : Option ((Int × Unit) × Unit) :=
  (iter (impl_frameAt_s2) k ((), x1, x0, (((List.length x0) : Nat) : Int), (0 : Int), ())).bind fun o1 =>
    Sum.elim (fun a2 =>
      some (a2.2, ()))
    (fun b3 =>
      some (((-1 : Int), ()), ())) o1
def impl_FrameAt (k : Nat) (x0 : (List D_Event)) (x1 : Int) : Option ((Int × Unit) × Unit) :=
  (impl_EventsOk k x0).bind fun t1 =>
    bif (!t1.1.1) then
      some (((-1 : Int), ()), ())
    else
      (impl_frameAt k x0 x1).bind fun t2 =>
        some (t2.1, ())
def laws_FnExactFrameAt (k : Nat) (x0 : (List D_Event)) (x1 : Int) : Option ((Bool × Unit) × Unit) :=
  (laws_szEventS k x0 (1048576 : Int)).bind fun t1 =>
    bif (decide (t1.1.1 < (0 : Int))) then
      some ((true, ()), ())
    else
      (laws_toEventS k x0).bind fun t2 =>
        (spec_FrameAt k t2.1.1 x1).bind fun t3 =>
          (laws_toEventS k x0).bind fun t4 =>
            (impl_FrameAt k t4.1.1 x1).bind fun t5 =>
              bif (!(decide (t5.1.1 = t3.1.1))) then
                some ((false, ()), ())
              else
                (laws_toEventS k x0).bind fun t6 =>
                  (laws_eqEventS k t4.1.1 t6.1.1).bind fun t7 =>
                    bif (!t7.1.1) then
                      some ((false, ()), ())
                    else
                      some ((true, ()), ())
end Go.Tw
