/- The mirrors of the functions as plain definitions, by which proofs go on. -/
import Derived.Test.YtaigepmndpefgaaT24
set_option linter.all false
namespace Go.Tw
open Go Go.RowKit
abbrev T_Done : Ty := (.pr (.int .i64) (.pr (.int .i64) .un))
abbrev D_Done := (Int × (Int × Unit))
def z_Done : D_Done := ((0 : Int), ((0 : Int), ()))
abbrev T_Vec : Ty := (.pr (.int .i64) T_Done)
abbrev D_Vec := (Int × D_Done)
def z_Vec : D_Vec := ((0 : Int), z_Done)
abbrev T_Job : Ty := (.pr (.int .i64) (.pr T_Vec .un))
abbrev D_Job := (Int × (D_Vec × Unit))
def z_Job : D_Job := ((0 : Int), (z_Vec, ()))
abbrev T_Line : Ty := (.pr (.int .i64) (.pr (.sl T_Job) (.pr (.sl T_Job) (.pr (.sl T_Job) .un))))
abbrev D_Line := (Int × ((List D_Job) × ((List D_Job) × ((List D_Job) × Unit))))
def z_Line : D_Line := ((0 : Int), ([], ([], ([], ()))))
def laws_szJobS (x0 : (List D_Job)) (x1 : Int) : Option ((Int × Unit) × Unit) :=
  bif (decide ((IntKind.wrap .i64 (x1 - (((List.length x0) : Nat) : Int))) < (0 : Int))) then
    some (((-1 : Int), ()), ())
  else
    some (((IntKind.wrap .i64 (x1 - (((List.length x0) : Nat) : Int))), ()), ())
def laws_szLine (x0 : D_Line) (x1 : Int) : Option ((Int × Unit) × Unit) :=
  (laws_szJobS x0.2.1 x1).bind fun t1 =>
    bif (decide (t1.1.1 < (0 : Int))) then
      some (((-1 : Int), ()), ())
    else
      (laws_szJobS x0.2.2.1 t1.1.1).bind fun t2 =>
        bif (decide (t2.1.1 < (0 : Int))) then
          some (((-1 : Int), ()), ())
        else
          (laws_szJobS x0.2.2.2.1 t2.1.1).bind fun t3 =>
            bif (decide (t3.1.1 < (0 : Int))) then
              some (((-1 : Int), ()), ())
            else
              some (t3.1, ())
def laws_toVec (x0 : D_Vec) : Option ((D_Vec × Unit) × Unit) :=
  some ((x0, ()), ())
def laws_toJob (x0 : D_Job) : Option ((D_Job × Unit) × Unit) :=
  (laws_toVec x0.2.1).bind fun t1 =>
    some (((x0.1, t1.1), ()), ())
def laws_toJobS_s3 (rec : (Unit × ((List D_Job) × ((List D_Job) × (Int × Unit)))) → Option ((Unit × ((List D_Job) × Unit)))) (v : (Unit × ((List D_Job) × ((List D_Job) × (Int × Unit))))) : Option ((Unit × ((List D_Job) × Unit))) :=
  bif (decide (v.2.2.2.1 < (((List.length v.2.1) : Nat) : Int))) then
    bif ((decide ((0 : Int) ≤ v.2.2.2.1)) && (decide (v.2.2.2.1 < (((List.length v.2.1) : Nat) : Int)))) then
      bif (decide ((Int.toNat v.2.2.2.1) < (List.length v.2.1))) then
        (laws_toJob (List.getD v.2.1 (Int.toNat v.2.2.2.1) z_Job)).bind fun t1 =>
          bif ((decide ((0 : Int) ≤ v.2.2.2.1)) && (decide (v.2.2.2.1 < (((List.length v.2.2.1) : Nat) : Int)))) then
            bif (decide ((Int.toNat v.2.2.2.1) < (List.length v.2.2.1))) then
              let y2 : (List D_Job) := (List.set v.2.2.1 (Int.toNat v.2.2.2.1) t1.1.1)
              rec ((), v.2.1, y2, (IntKind.wrap .i64 (v.2.2.2.1 + (1 : Int))), ())
            else none
          else none
      else none
    else none
  else
    some ((), v.2.2.1, ())
def laws_toJobS (k : Nat) (x0 : (List D_Job)) : Option (((List D_Job) × Unit) × Unit) :=
  bif (((decide ((0 : Int) ≤ (((List.length x0) : Nat) : Int))) && (decide ((((List.length x0) : Nat) : Int) ≤ (((List.length x0) : Nat) : Int)))) && (decide (((32 : Int) * (((List.length x0) : Nat) : Int)) ≤ (1099511627776 : Int)))) then
    (iter (laws_toJobS_s3) k ((), x0, (List.replicate (List.length x0) ((0 : Int), ((0 : Int), (0 : Int), (0 : Int), ()), ())), (0 : Int), ())).bind fun o1 =>
      some (o1.2, ())
  else none
def laws_toLine (k : Nat) (x0 : D_Line) : Option ((D_Line × Unit) × Unit) :=
  (laws_toJobS k x0.2.1).bind fun t1 =>
    (laws_toJobS k x0.2.2.1).bind fun t2 =>
      (laws_toJobS k x0.2.2.2.1).bind fun t3 =>
        some (((x0.1, t1.1.1, t2.1.1, t3.1), ()), ())
def spec_l21All (x0 : D_Line) : Option (((List D_Job) × Unit) × Unit) :=
  bif (decide ((((0 : Nat) + (List.length x0.2.2.2.1)) * 32) ≤ (1099511627776 : Nat))) then
    bif (decide ((((List.length x0.2.2.2.1) + (List.length x0.2.2.1)) * 32) ≤ (1099511627776 : Nat))) then
      bif (decide ((((List.length (x0.2.2.2.1 ++ x0.2.2.1)) + (List.length x0.2.1)) * 32) ≤ (1099511627776 : Nat))) then
        some ((((x0.2.2.2.1 ++ x0.2.2.1) ++ x0.2.1), ()), ())
      else none
    else none
  else none
def spec_LineOk_s12 (rec : (Unit × (D_Line × ((List D_Job) × D_Done))) → Option ((Unit × (Bool × Unit)) ⊕ (Unit × (D_Line × ((List D_Job) × (Int × Unit)))))) (v : (Unit × (D_Line × ((List D_Job) × D_Done)))) : Option ((Unit × (Bool × Unit)) ⊕ (Unit × (D_Line × ((List D_Job) × (Int × Unit))))) :=
  bif (decide (v.2.2.2.2.1 < v.2.2.2.1)) then
    bif ((decide ((0 : Int) ≤ v.2.2.2.2.1)) && (decide (v.2.2.2.2.1 < (((List.length v.2.2.1) : Nat) : Int)))) then
      bif (decide ((Int.toNat v.2.2.2.2.1) < (List.length v.2.2.1))) then
        bif ((decide ((0 : Int) ≤ v.2.2.2.1)) && (decide (v.2.2.2.1 < (((List.length v.2.2.1) : Nat) : Int)))) then
          bif (decide ((Int.toNat v.2.2.2.1) < (List.length v.2.2.1))) then
            bif (decide ((List.getD v.2.2.1 (Int.toNat v.2.2.2.2.1) z_Job).1 = (List.getD v.2.2.1 (Int.toNat v.2.2.2.1) z_Job).1)) then
              some (Sum.inl ((), false, ()))
            else
              rec ((), v.2.1, v.2.2.1, v.2.2.2.1, (IntKind.wrap .i64 (v.2.2.2.2.1 + (1 : Int))), ())
          else none
        else none
      else none
    else none
  else
    some (Sum.inr ((), v.2.1, v.2.2.1, v.2.2.2.1, ()))
def spec_LineOk_s7 (k : Nat) (rec : (Unit × (D_Line × ((List D_Job) × (Int × Unit)))) → Option ((Unit × (Bool × Unit)) ⊕ (Unit × Unit))) (v : (Unit × (D_Line × ((List D_Job) × (Int × Unit))))) : Option ((Unit × (Bool × Unit)) ⊕ (Unit × Unit)) :=
  bif (decide (v.2.2.2.1 < (((List.length v.2.2.1) : Nat) : Int))) then
    bif ((decide ((0 : Int) ≤ v.2.2.2.1)) && (decide (v.2.2.2.1 < (((List.length v.2.2.1) : Nat) : Int)))) then
      bif (decide ((Int.toNat v.2.2.2.1) < (List.length v.2.2.1))) then
        bif (!(decide ((List.getD v.2.2.1 (Int.toNat v.2.2.2.1) z_Job).1 < (0 : Int)))) then
          bif ((decide ((0 : Int) ≤ v.2.2.2.1)) && (decide (v.2.2.2.1 < (((List.length v.2.2.1) : Nat) : Int)))) then
            bif (decide ((Int.toNat v.2.2.2.1) < (List.length v.2.2.1))) then
              bif (decide ((1000000000000 : Int) < (List.getD v.2.2.1 (Int.toNat v.2.2.2.1) z_Job).1)) then
                some (Sum.inl ((), false, ()))
              else
                (iter (spec_LineOk_s12) k ((), v.2.1, v.2.2.1, v.2.2.2.1, (0 : Int), ())).bind fun o2 =>
                  Sum.elim (fun a3 =>
                    some (Sum.inl ((), a3.2)))
                  (fun b4 =>
                    bif ((decide ((0 : Int) ≤ b4.2.2.2.1)) && (decide (b4.2.2.2.1 < (((List.length b4.2.2.1) : Nat) : Int)))) then
                      bif (decide ((Int.toNat b4.2.2.2.1) < (List.length b4.2.2.1))) then
                        bif (decide (b4.2.2.2.1 < (((List.length b4.2.1.2.2.2.1) : Nat) : Int))) then
                          bif (!(!(decide ((List.getD b4.2.2.1 (Int.toNat b4.2.2.2.1) z_Job).2.1.1 = (0 : Int))))) then
                            bif (!(!(decide ((List.getD b4.2.2.1 (Int.toNat b4.2.2.2.1) z_Job).2.1.2.1 = (0 : Int))))) then
                              bif (!(decide ((List.getD b4.2.2.1 (Int.toNat b4.2.2.2.1) z_Job).2.1.2.2.1 < (1 : Int)))) then
                                bif (decide ((1000 : Int) < (List.getD b4.2.2.1 (Int.toNat b4.2.2.2.1) z_Job).2.1.2.2.1)) then
                                  some (Sum.inl ((), false, ()))
                                else
                                  rec ((), b4.2.1, b4.2.2.1, (IntKind.wrap .i64 (b4.2.2.2.1 + (1 : Int))), ())
                              else
                                some (Sum.inl ((), false, ()))
                            else
                              some (Sum.inl ((), false, ()))
                          else
                            some (Sum.inl ((), false, ()))
                        else
                          bif (decide (b4.2.2.2.1 < (IntKind.wrap .i64 ((((List.length b4.2.1.2.2.2.1) : Nat) : Int) + (((List.length b4.2.1.2.2.1) : Nat) : Int))))) then
                            bif (!(!(decide ((List.getD b4.2.2.1 (Int.toNat b4.2.2.2.1) z_Job).2.1.1 = (0 : Int))))) then
                              bif (!(decide ((List.getD b4.2.2.1 (Int.toNat b4.2.2.2.1) z_Job).2.1.2.1 < (1 : Int)))) then
                                bif (!(decide ((1000 : Int) < (List.getD b4.2.2.1 (Int.toNat b4.2.2.2.1) z_Job).2.1.2.1))) then
                                  bif (!(decide ((List.getD b4.2.2.1 (Int.toNat b4.2.2.2.1) z_Job).2.1.2.2.1 < (1 : Int)))) then
                                    bif (decide ((1000 : Int) < (List.getD b4.2.2.1 (Int.toNat b4.2.2.2.1) z_Job).2.1.2.2.1)) then
                                      some (Sum.inl ((), false, ()))
                                    else
                                      rec ((), b4.2.1, b4.2.2.1, (IntKind.wrap .i64 (b4.2.2.2.1 + (1 : Int))), ())
                                  else
                                    some (Sum.inl ((), false, ()))
                                else
                                  some (Sum.inl ((), false, ()))
                              else
                                some (Sum.inl ((), false, ()))
                            else
                              some (Sum.inl ((), false, ()))
                          else
                            bif (!(decide ((List.getD b4.2.2.1 (Int.toNat b4.2.2.2.1) z_Job).2.1.1 < (1 : Int)))) then
                              bif (decide ((1000 : Int) < (List.getD b4.2.2.1 (Int.toNat b4.2.2.2.1) z_Job).2.1.1)) then
                                some (Sum.inl ((), false, ()))
                              else
                                bif (!(decide ((List.getD b4.2.2.1 (Int.toNat b4.2.2.2.1) z_Job).2.1.2.1 < (1 : Int)))) then
                                  bif (!(decide ((1000 : Int) < (List.getD b4.2.2.1 (Int.toNat b4.2.2.2.1) z_Job).2.1.2.1))) then
                                    bif (!(decide ((List.getD b4.2.2.1 (Int.toNat b4.2.2.2.1) z_Job).2.1.2.2.1 < (1 : Int)))) then
                                      bif (decide ((1000 : Int) < (List.getD b4.2.2.1 (Int.toNat b4.2.2.2.1) z_Job).2.1.2.2.1)) then
                                        some (Sum.inl ((), false, ()))
                                      else
                                        rec ((), b4.2.1, b4.2.2.1, (IntKind.wrap .i64 (b4.2.2.2.1 + (1 : Int))), ())
                                    else
                                      some (Sum.inl ((), false, ()))
                                  else
                                    some (Sum.inl ((), false, ()))
                                else
                                  some (Sum.inl ((), false, ()))
                            else
                              some (Sum.inl ((), false, ()))
                      else none
                    else none) o2
            else none
          else none
        else
          some (Sum.inl ((), false, ()))
      else none
    else none
  else
    some (Sum.inr ((), ()))
def spec_LineOk (k : Nat) (x0 : D_Line) : Option ((Bool × Unit) × Unit) :=
  bif (!(decide (x0.1 < (1 : Int)))) then
    bif (!(decide ((16 : Int) < x0.1))) then
      bif (!(decide (x0.1 < (((List.length x0.2.1) : Nat) : Int)))) then
        bif (!(decide (x0.1 < (((List.length x0.2.2.1) : Nat) : Int)))) then
          bif (decide (x0.1 < (((List.length x0.2.2.2.1) : Nat) : Int))) then
            some ((false, ()), ())
          else
            (spec_l21All x0).bind fun t1 =>
              bif (decide (x0.1 < (((List.length t1.1.1) : Nat) : Int))) then
                some ((false, ()), ())
              else
                (iter (spec_LineOk_s7 k) k ((), x0, t1.1.1, (0 : Int), ())).bind fun o2 =>
                  Sum.elim (fun a3 =>
                    some (a3.2, ()))
                  (fun b4 =>
                    some ((true, ()), ())) o2
        else
          some ((false, ()), ())
      else
        some ((false, ()), ())
    else
      some ((false, ()), ())
  else
    some ((false, ()), ())
def spec_l21Copy (x0 : D_Line) : Option ((D_Line × Unit) × Unit) :=
  bif (decide ((((0 : Nat) + (List.length x0.2.1)) * 32) ≤ (1099511627776 : Nat))) then
    bif (decide ((((0 : Nat) + (List.length x0.2.2.1)) * 32) ≤ (1099511627776 : Nat))) then
      bif (decide ((((0 : Nat) + (List.length x0.2.2.2.1)) * 32) ≤ (1099511627776 : Nat))) then
        some ((x0, ()), ())
      else none
    else none
  else none
def spec_l21Tick (x0 : D_Line) : Option ((D_Line × (Int × Unit)) × Unit) :=
  (spec_l21Copy x0).bind fun t1 =>
    bif (decide ((0 : Int) < (((List.length t1.1.1.2.2.2.1) : Nat) : Int))) then
      bif (decide ((0 : Int) < (((List.length t1.1.1.2.2.2.1) : Nat) : Int))) then
        bif (decide ((0 : Nat) < (List.length t1.1.1.2.2.2.1))) then
          bif (decide ((0 : Int) < (((List.length t1.1.1.2.2.2.1) : Nat) : Int))) then
            bif (decide ((0 : Nat) < (List.length t1.1.1.2.2.2.1))) then
              let y2 : (List D_Job) := (List.set t1.1.1.2.2.2.1 (0 : Nat) ((List.getD t1.1.1.2.2.2.1 (0 : Nat) z_Job).1, ((List.getD t1.1.1.2.2.2.1 (0 : Nat) z_Job).2.1.1, (List.getD t1.1.1.2.2.2.1 (0 : Nat) z_Job).2.1.2.1, (IntKind.wrap .i64 ((List.getD t1.1.1.2.2.2.1 (0 : Nat) z_Job).2.1.2.2.1 - (1 : Int))), ()), ()))
              bif (decide ((0 : Int) < (((List.length y2) : Nat) : Int))) then
                bif (decide ((0 : Nat) < (List.length y2))) then
                  bif (decide ((List.getD y2 (0 : Nat) z_Job).2.1.2.2.1 = (0 : Int))) then
                    bif (decide ((0 : Int) < (((List.length y2) : Nat) : Int))) then
                      bif (decide ((0 : Nat) < (List.length y2))) then
                        bif ((decide ((1 : Int) ≤ (((List.length y2) : Nat) : Int))) && (decide ((((List.length y2) : Nat) : Int) ≤ (((List.length y2) : Nat) : Int)))) then
                          bif (decide ((((0 : Nat) + (List.length (List.take ((List.length y2) - (1 : Nat)) (List.drop (1 : Nat) y2)))) * 32) ≤ (1099511627776 : Nat))) then
                            bif (decide ((0 : Int) < (((List.length t1.1.1.2.2.1) : Nat) : Int))) then
                              bif (decide ((0 : Int) < (((List.length t1.1.1.2.2.1) : Nat) : Int))) then
                                bif (decide ((0 : Nat) < (List.length t1.1.1.2.2.1))) then
                                  bif (decide ((0 : Int) < (((List.length t1.1.1.2.2.1) : Nat) : Int))) then
                                    bif (decide ((0 : Nat) < (List.length t1.1.1.2.2.1))) then
                                      let y3 : (List D_Job) := (List.set t1.1.1.2.2.1 (0 : Nat) ((List.getD t1.1.1.2.2.1 (0 : Nat) z_Job).1, ((List.getD t1.1.1.2.2.1 (0 : Nat) z_Job).2.1.1, (IntKind.wrap .i64 ((List.getD t1.1.1.2.2.1 (0 : Nat) z_Job).2.1.2.1 - (1 : Int))), (List.getD t1.1.1.2.2.1 (0 : Nat) z_Job).2.1.2.2), ()))
                                      bif (decide ((0 : Int) < (((List.length y3) : Nat) : Int))) then
                                        bif (decide ((0 : Nat) < (List.length y3))) then
                                          bif (decide ((List.getD y3 (0 : Nat) z_Job).2.1.2.1 = (0 : Int))) then
                                            bif (decide ((0 : Int) < (((List.length y3) : Nat) : Int))) then
                                              bif (decide ((0 : Nat) < (List.length y3))) then
                                                bif (decide ((((List.length (List.take ((List.length y2) - (1 : Nat)) (List.drop (1 : Nat) y2))) + (1 : Nat)) * 32) ≤ (1099511627776 : Nat))) then
                                                  bif ((decide ((1 : Int) ≤ (((List.length y3) : Nat) : Int))) && (decide ((((List.length y3) : Nat) : Int) ≤ (((List.length y3) : Nat) : Int)))) then
                                                    bif (decide ((((0 : Nat) + (List.length (List.take ((List.length y3) - (1 : Nat)) (List.drop (1 : Nat) y3)))) * 32) ≤ (1099511627776 : Nat))) then
                                                      bif (decide ((0 : Int) < (((List.length t1.1.1.2.1) : Nat) : Int))) then
                                                        bif (decide ((0 : Int) < (((List.length t1.1.1.2.1) : Nat) : Int))) then
                                                          bif (decide ((0 : Nat) < (List.length t1.1.1.2.1))) then
                                                            bif (decide ((0 : Int) < (((List.length t1.1.1.2.1) : Nat) : Int))) then
                                                              bif (decide ((0 : Nat) < (List.length t1.1.1.2.1))) then
                                                                let y4 : (List D_Job) := (List.set t1.1.1.2.1 (0 : Nat) ((List.getD t1.1.1.2.1 (0 : Nat) z_Job).1, ((IntKind.wrap .i64 ((List.getD t1.1.1.2.1 (0 : Nat) z_Job).2.1.1 - (1 : Int))), (List.getD t1.1.1.2.1 (0 : Nat) z_Job).2.1.2), ()))
                                                                bif (decide ((0 : Int) < (((List.length y4) : Nat) : Int))) then
                                                                  bif (decide ((0 : Nat) < (List.length y4))) then
                                                                    bif (decide ((List.getD y4 (0 : Nat) z_Job).2.1.1 = (0 : Int))) then
                                                                      bif (decide ((0 : Int) < (((List.length y4) : Nat) : Int))) then
                                                                        bif (decide ((0 : Nat) < (List.length y4))) then
                                                                          bif (decide ((((List.length (List.take ((List.length y3) - (1 : Nat)) (List.drop (1 : Nat) y3))) + (1 : Nat)) * 32) ≤ (1099511627776 : Nat))) then
                                                                            bif ((decide ((1 : Int) ≤ (((List.length y4) : Nat) : Int))) && (decide ((((List.length y4) : Nat) : Int) ≤ (((List.length y4) : Nat) : Int)))) then
                                                                              bif (decide ((((0 : Nat) + (List.length (List.take ((List.length y4) - (1 : Nat)) (List.drop (1 : Nat) y4)))) * 32) ≤ (1099511627776 : Nat))) then
                                                                                some (((t1.1.1.1, (List.take ((List.length y4) - (1 : Nat)) (List.drop (1 : Nat) y4)), ((List.take ((List.length y3) - (1 : Nat)) (List.drop (1 : Nat) y3)) ++ ([(List.getD y4 (0 : Nat) z_Job)] : List D_Job)), ((List.take ((List.length y2) - (1 : Nat)) (List.drop (1 : Nat) y2)) ++ ([(List.getD y3 (0 : Nat) z_Job)] : List D_Job)), ()), (List.getD y2 (0 : Nat) z_Job).1, ()), ())
                                                                              else none
                                                                            else none
                                                                          else none
                                                                        else none
                                                                      else none
                                                                    else
                                                                      some (((t1.1.1.1, y4, (List.take ((List.length y3) - (1 : Nat)) (List.drop (1 : Nat) y3)), ((List.take ((List.length y2) - (1 : Nat)) (List.drop (1 : Nat) y2)) ++ ([(List.getD y3 (0 : Nat) z_Job)] : List D_Job)), ()), (List.getD y2 (0 : Nat) z_Job).1, ()), ())
                                                                  else none
                                                                else none
                                                              else none
                                                            else none
                                                          else none
                                                        else none
                                                      else
                                                        some (((t1.1.1.1, t1.1.1.2.1, (List.take ((List.length y3) - (1 : Nat)) (List.drop (1 : Nat) y3)), ((List.take ((List.length y2) - (1 : Nat)) (List.drop (1 : Nat) y2)) ++ ([(List.getD y3 (0 : Nat) z_Job)] : List D_Job)), ()), (List.getD y2 (0 : Nat) z_Job).1, ()), ())
                                                    else none
                                                  else none
                                                else none
                                              else none
                                            else none
                                          else
                                            bif (decide ((0 : Int) < (((List.length t1.1.1.2.1) : Nat) : Int))) then
                                              bif (decide ((0 : Int) < (((List.length t1.1.1.2.1) : Nat) : Int))) then
                                                bif (decide ((0 : Nat) < (List.length t1.1.1.2.1))) then
                                                  bif (decide ((0 : Int) < (((List.length t1.1.1.2.1) : Nat) : Int))) then
                                                    bif (decide ((0 : Nat) < (List.length t1.1.1.2.1))) then
                                                      let y5 : (List D_Job) := (List.set t1.1.1.2.1 (0 : Nat) ((List.getD t1.1.1.2.1 (0 : Nat) z_Job).1, ((IntKind.wrap .i64 ((List.getD t1.1.1.2.1 (0 : Nat) z_Job).2.1.1 - (1 : Int))), (List.getD t1.1.1.2.1 (0 : Nat) z_Job).2.1.2), ()))
                                                      bif (decide ((0 : Int) < (((List.length y5) : Nat) : Int))) then
                                                        bif (decide ((0 : Nat) < (List.length y5))) then
                                                          bif (decide ((List.getD y5 (0 : Nat) z_Job).2.1.1 = (0 : Int))) then
                                                            bif (decide ((0 : Int) < (((List.length y5) : Nat) : Int))) then
                                                              bif (decide ((0 : Nat) < (List.length y5))) then
                                                                bif (decide ((((List.length y3) + (1 : Nat)) * 32) ≤ (1099511627776 : Nat))) then
                                                                  bif ((decide ((1 : Int) ≤ (((List.length y5) : Nat) : Int))) && (decide ((((List.length y5) : Nat) : Int) ≤ (((List.length y5) : Nat) : Int)))) then
                                                                    bif (decide ((((0 : Nat) + (List.length (List.take ((List.length y5) - (1 : Nat)) (List.drop (1 : Nat) y5)))) * 32) ≤ (1099511627776 : Nat))) then
                                                                      some (((t1.1.1.1, (List.take ((List.length y5) - (1 : Nat)) (List.drop (1 : Nat) y5)), (y3 ++ ([(List.getD y5 (0 : Nat) z_Job)] : List D_Job)), (List.take ((List.length y2) - (1 : Nat)) (List.drop (1 : Nat) y2)), ()), (List.getD y2 (0 : Nat) z_Job).1, ()), ())
                                                                    else none
                                                                  else none
                                                                else none
                                                              else none
                                                            else none
                                                          else
                                                            some (((t1.1.1.1, y5, y3, (List.take ((List.length y2) - (1 : Nat)) (List.drop (1 : Nat) y2)), ()), (List.getD y2 (0 : Nat) z_Job).1, ()), ())
                                                        else none
                                                      else none
                                                    else none
                                                  else none
                                                else none
                                              else none
                                            else
                                              some (((t1.1.1.1, t1.1.1.2.1, y3, (List.take ((List.length y2) - (1 : Nat)) (List.drop (1 : Nat) y2)), ()), (List.getD y2 (0 : Nat) z_Job).1, ()), ())
                                        else none
                                      else none
                                    else none
                                  else none
                                else none
                              else none
                            else
                              bif (decide ((0 : Int) < (((List.length t1.1.1.2.1) : Nat) : Int))) then
                                bif (decide ((0 : Int) < (((List.length t1.1.1.2.1) : Nat) : Int))) then
                                  bif (decide ((0 : Nat) < (List.length t1.1.1.2.1))) then
                                    bif (decide ((0 : Int) < (((List.length t1.1.1.2.1) : Nat) : Int))) then
                                      bif (decide ((0 : Nat) < (List.length t1.1.1.2.1))) then
                                        let y6 : (List D_Job) := (List.set t1.1.1.2.1 (0 : Nat) ((List.getD t1.1.1.2.1 (0 : Nat) z_Job).1, ((IntKind.wrap .i64 ((List.getD t1.1.1.2.1 (0 : Nat) z_Job).2.1.1 - (1 : Int))), (List.getD t1.1.1.2.1 (0 : Nat) z_Job).2.1.2), ()))
                                        bif (decide ((0 : Int) < (((List.length y6) : Nat) : Int))) then
                                          bif (decide ((0 : Nat) < (List.length y6))) then
                                            bif (decide ((List.getD y6 (0 : Nat) z_Job).2.1.1 = (0 : Int))) then
                                              bif (decide ((0 : Int) < (((List.length y6) : Nat) : Int))) then
                                                bif (decide ((0 : Nat) < (List.length y6))) then
                                                  bif (decide ((((List.length t1.1.1.2.2.1) + (1 : Nat)) * 32) ≤ (1099511627776 : Nat))) then
                                                    bif ((decide ((1 : Int) ≤ (((List.length y6) : Nat) : Int))) && (decide ((((List.length y6) : Nat) : Int) ≤ (((List.length y6) : Nat) : Int)))) then
                                                      bif (decide ((((0 : Nat) + (List.length (List.take ((List.length y6) - (1 : Nat)) (List.drop (1 : Nat) y6)))) * 32) ≤ (1099511627776 : Nat))) then
                                                        some (((t1.1.1.1, (List.take ((List.length y6) - (1 : Nat)) (List.drop (1 : Nat) y6)), (t1.1.1.2.2.1 ++ ([(List.getD y6 (0 : Nat) z_Job)] : List D_Job)), (List.take ((List.length y2) - (1 : Nat)) (List.drop (1 : Nat) y2)), ()), (List.getD y2 (0 : Nat) z_Job).1, ()), ())
                                                      else none
                                                    else none
                                                  else none
                                                else none
                                              else none
                                            else
                                              some (((t1.1.1.1, y6, t1.1.1.2.2.1, (List.take ((List.length y2) - (1 : Nat)) (List.drop (1 : Nat) y2)), ()), (List.getD y2 (0 : Nat) z_Job).1, ()), ())
                                          else none
                                        else none
                                      else none
                                    else none
                                  else none
                                else none
                              else
                                some (((t1.1.1.1, t1.1.1.2.1, t1.1.1.2.2.1, (List.take ((List.length y2) - (1 : Nat)) (List.drop (1 : Nat) y2)), ()), (List.getD y2 (0 : Nat) z_Job).1, ()), ())
                          else none
                        else none
                      else none
                    else none
                  else
                    bif (decide ((0 : Int) < (((List.length t1.1.1.2.2.1) : Nat) : Int))) then
                      bif (decide ((0 : Int) < (((List.length t1.1.1.2.2.1) : Nat) : Int))) then
                        bif (decide ((0 : Nat) < (List.length t1.1.1.2.2.1))) then
                          bif (decide ((0 : Int) < (((List.length t1.1.1.2.2.1) : Nat) : Int))) then
                            bif (decide ((0 : Nat) < (List.length t1.1.1.2.2.1))) then
                              let y7 : (List D_Job) := (List.set t1.1.1.2.2.1 (0 : Nat) ((List.getD t1.1.1.2.2.1 (0 : Nat) z_Job).1, ((List.getD t1.1.1.2.2.1 (0 : Nat) z_Job).2.1.1, (IntKind.wrap .i64 ((List.getD t1.1.1.2.2.1 (0 : Nat) z_Job).2.1.2.1 - (1 : Int))), (List.getD t1.1.1.2.2.1 (0 : Nat) z_Job).2.1.2.2), ()))
                              bif (decide ((0 : Int) < (((List.length y7) : Nat) : Int))) then
                                bif (decide ((0 : Nat) < (List.length y7))) then
                                  bif (decide ((List.getD y7 (0 : Nat) z_Job).2.1.2.1 = (0 : Int))) then
                                    bif (decide ((0 : Int) < (((List.length y7) : Nat) : Int))) then
                                      bif (decide ((0 : Nat) < (List.length y7))) then
                                        bif (decide ((((List.length y2) + (1 : Nat)) * 32) ≤ (1099511627776 : Nat))) then
                                          bif ((decide ((1 : Int) ≤ (((List.length y7) : Nat) : Int))) && (decide ((((List.length y7) : Nat) : Int) ≤ (((List.length y7) : Nat) : Int)))) then
                                            bif (decide ((((0 : Nat) + (List.length (List.take ((List.length y7) - (1 : Nat)) (List.drop (1 : Nat) y7)))) * 32) ≤ (1099511627776 : Nat))) then
                                              bif (decide ((0 : Int) < (((List.length t1.1.1.2.1) : Nat) : Int))) then
                                                bif (decide ((0 : Int) < (((List.length t1.1.1.2.1) : Nat) : Int))) then
                                                  bif (decide ((0 : Nat) < (List.length t1.1.1.2.1))) then
                                                    bif (decide ((0 : Int) < (((List.length t1.1.1.2.1) : Nat) : Int))) then
                                                      bif (decide ((0 : Nat) < (List.length t1.1.1.2.1))) then
                                                        let y8 : (List D_Job) := (List.set t1.1.1.2.1 (0 : Nat) ((List.getD t1.1.1.2.1 (0 : Nat) z_Job).1, ((IntKind.wrap .i64 ((List.getD t1.1.1.2.1 (0 : Nat) z_Job).2.1.1 - (1 : Int))), (List.getD t1.1.1.2.1 (0 : Nat) z_Job).2.1.2), ()))
                                                        bif (decide ((0 : Int) < (((List.length y8) : Nat) : Int))) then
                                                          bif (decide ((0 : Nat) < (List.length y8))) then
                                                            bif (decide ((List.getD y8 (0 : Nat) z_Job).2.1.1 = (0 : Int))) then
                                                              bif (decide ((0 : Int) < (((List.length y8) : Nat) : Int))) then
                                                                bif (decide ((0 : Nat) < (List.length y8))) then
                                                                  bif (decide ((((List.length (List.take ((List.length y7) - (1 : Nat)) (List.drop (1 : Nat) y7))) + (1 : Nat)) * 32) ≤ (1099511627776 : Nat))) then
                                                                    bif ((decide ((1 : Int) ≤ (((List.length y8) : Nat) : Int))) && (decide ((((List.length y8) : Nat) : Int) ≤ (((List.length y8) : Nat) : Int)))) then
                                                                      bif (decide ((((0 : Nat) + (List.length (List.take ((List.length y8) - (1 : Nat)) (List.drop (1 : Nat) y8)))) * 32) ≤ (1099511627776 : Nat))) then
                                                                        some (((t1.1.1.1, (List.take ((List.length y8) - (1 : Nat)) (List.drop (1 : Nat) y8)), ((List.take ((List.length y7) - (1 : Nat)) (List.drop (1 : Nat) y7)) ++ ([(List.getD y8 (0 : Nat) z_Job)] : List D_Job)), (y2 ++ ([(List.getD y7 (0 : Nat) z_Job)] : List D_Job)), ()), (-1 : Int), ()), ())
                                                                      else none
                                                                    else none
                                                                  else none
                                                                else none
                                                              else none
                                                            else
                                                              some (((t1.1.1.1, y8, (List.take ((List.length y7) - (1 : Nat)) (List.drop (1 : Nat) y7)), (y2 ++ ([(List.getD y7 (0 : Nat) z_Job)] : List D_Job)), ()), (-1 : Int), ()), ())
                                                          else none
                                                        else none
                                                      else none
                                                    else none
                                                  else none
                                                else none
                                              else
                                                some (((t1.1.1.1, t1.1.1.2.1, (List.take ((List.length y7) - (1 : Nat)) (List.drop (1 : Nat) y7)), (y2 ++ ([(List.getD y7 (0 : Nat) z_Job)] : List D_Job)), ()), (-1 : Int), ()), ())
                                            else none
                                          else none
                                        else none
                                      else none
                                    else none
                                  else
                                    bif (decide ((0 : Int) < (((List.length t1.1.1.2.1) : Nat) : Int))) then
                                      bif (decide ((0 : Int) < (((List.length t1.1.1.2.1) : Nat) : Int))) then
                                        bif (decide ((0 : Nat) < (List.length t1.1.1.2.1))) then
                                          bif (decide ((0 : Int) < (((List.length t1.1.1.2.1) : Nat) : Int))) then
                                            bif (decide ((0 : Nat) < (List.length t1.1.1.2.1))) then
                                              let y9 : (List D_Job) := (List.set t1.1.1.2.1 (0 : Nat) ((List.getD t1.1.1.2.1 (0 : Nat) z_Job).1, ((IntKind.wrap .i64 ((List.getD t1.1.1.2.1 (0 : Nat) z_Job).2.1.1 - (1 : Int))), (List.getD t1.1.1.2.1 (0 : Nat) z_Job).2.1.2), ()))
                                              bif (decide ((0 : Int) < (((List.length y9) : Nat) : Int))) then
                                                bif (decide ((0 : Nat) < (List.length y9))) then
                                                  bif (decide ((List.getD y9 (0 : Nat) z_Job).2.1.1 = (0 : Int))) then
                                                    bif (decide ((0 : Int) < (((List.length y9) : Nat) : Int))) then
                                                      bif (decide ((0 : Nat) < (List.length y9))) then
                                                        bif (decide ((((List.length y7) + (1 : Nat)) * 32) ≤ (1099511627776 : Nat))) then
                                                          bif ((decide ((1 : Int) ≤ (((List.length y9) : Nat) : Int))) && (decide ((((List.length y9) : Nat) : Int) ≤ (((List.length y9) : Nat) : Int)))) then
                                                            bif (decide ((((0 : Nat) + (List.length (List.take ((List.length y9) - (1 : Nat)) (List.drop (1 : Nat) y9)))) * 32) ≤ (1099511627776 : Nat))) then
                                                              some (((t1.1.1.1, (List.take ((List.length y9) - (1 : Nat)) (List.drop (1 : Nat) y9)), (y7 ++ ([(List.getD y9 (0 : Nat) z_Job)] : List D_Job)), y2, ()), (-1 : Int), ()), ())
                                                            else none
                                                          else none
                                                        else none
                                                      else none
                                                    else none
                                                  else
                                                    some (((t1.1.1.1, y9, y7, y2, ()), (-1 : Int), ()), ())
                                                else none
                                              else none
                                            else none
                                          else none
                                        else none
                                      else none
                                    else
                                      some (((t1.1.1.1, t1.1.1.2.1, y7, y2, ()), (-1 : Int), ()), ())
                                else none
                              else none
                            else none
                          else none
                        else none
                      else none
                    else
                      bif (decide ((0 : Int) < (((List.length t1.1.1.2.1) : Nat) : Int))) then
                        bif (decide ((0 : Int) < (((List.length t1.1.1.2.1) : Nat) : Int))) then
                          bif (decide ((0 : Nat) < (List.length t1.1.1.2.1))) then
                            bif (decide ((0 : Int) < (((List.length t1.1.1.2.1) : Nat) : Int))) then
                              bif (decide ((0 : Nat) < (List.length t1.1.1.2.1))) then
                                let y10 : (List D_Job) := (List.set t1.1.1.2.1 (0 : Nat) ((List.getD t1.1.1.2.1 (0 : Nat) z_Job).1, ((IntKind.wrap .i64 ((List.getD t1.1.1.2.1 (0 : Nat) z_Job).2.1.1 - (1 : Int))), (List.getD t1.1.1.2.1 (0 : Nat) z_Job).2.1.2), ()))
                                bif (decide ((0 : Int) < (((List.length y10) : Nat) : Int))) then
                                  bif (decide ((0 : Nat) < (List.length y10))) then
                                    bif (decide ((List.getD y10 (0 : Nat) z_Job).2.1.1 = (0 : Int))) then
                                      bif (decide ((0 : Int) < (((List.length y10) : Nat) : Int))) then
                                        bif (decide ((0 : Nat) < (List.length y10))) then
                                          bif (decide ((((List.length t1.1.1.2.2.1) + (1 : Nat)) * 32) ≤ (1099511627776 : Nat))) then
                                            bif ((decide ((1 : Int) ≤ (((List.length y10) : Nat) : Int))) && (decide ((((List.length y10) : Nat) : Int) ≤ (((List.length y10) : Nat) : Int)))) then
                                              bif (decide ((((0 : Nat) + (List.length (List.take ((List.length y10) - (1 : Nat)) (List.drop (1 : Nat) y10)))) * 32) ≤ (1099511627776 : Nat))) then
                                                some (((t1.1.1.1, (List.take ((List.length y10) - (1 : Nat)) (List.drop (1 : Nat) y10)), (t1.1.1.2.2.1 ++ ([(List.getD y10 (0 : Nat) z_Job)] : List D_Job)), y2, ()), (-1 : Int), ()), ())
                                              else none
                                            else none
                                          else none
                                        else none
                                      else none
                                    else
                                      some (((t1.1.1.1, y10, t1.1.1.2.2.1, y2, ()), (-1 : Int), ()), ())
                                  else none
                                else none
                              else none
                            else none
                          else none
                        else none
                      else
                        some (((t1.1.1.1, t1.1.1.2.1, t1.1.1.2.2.1, y2, ()), (-1 : Int), ()), ())
                else none
              else none
            else none
          else none
        else none
      else none
    else
      bif (decide ((0 : Int) < (((List.length t1.1.1.2.2.1) : Nat) : Int))) then
        bif (decide ((0 : Int) < (((List.length t1.1.1.2.2.1) : Nat) : Int))) then
          bif (decide ((0 : Nat) < (List.length t1.1.1.2.2.1))) then
            bif (decide ((0 : Int) < (((List.length t1.1.1.2.2.1) : Nat) : Int))) then
              bif (decide ((0 : Nat) < (List.length t1.1.1.2.2.1))) then
                let y11 : (List D_Job) := (List.set t1.1.1.2.2.1 (0 : Nat) ((List.getD t1.1.1.2.2.1 (0 : Nat) z_Job).1, ((List.getD t1.1.1.2.2.1 (0 : Nat) z_Job).2.1.1, (IntKind.wrap .i64 ((List.getD t1.1.1.2.2.1 (0 : Nat) z_Job).2.1.2.1 - (1 : Int))), (List.getD t1.1.1.2.2.1 (0 : Nat) z_Job).2.1.2.2), ()))
                bif (decide ((0 : Int) < (((List.length y11) : Nat) : Int))) then
                  bif (decide ((0 : Nat) < (List.length y11))) then
                    bif (decide ((List.getD y11 (0 : Nat) z_Job).2.1.2.1 = (0 : Int))) then
                      bif (decide ((0 : Int) < (((List.length y11) : Nat) : Int))) then
                        bif (decide ((0 : Nat) < (List.length y11))) then
                          bif (decide ((((List.length t1.1.1.2.2.2.1) + (1 : Nat)) * 32) ≤ (1099511627776 : Nat))) then
                            bif ((decide ((1 : Int) ≤ (((List.length y11) : Nat) : Int))) && (decide ((((List.length y11) : Nat) : Int) ≤ (((List.length y11) : Nat) : Int)))) then
                              bif (decide ((((0 : Nat) + (List.length (List.take ((List.length y11) - (1 : Nat)) (List.drop (1 : Nat) y11)))) * 32) ≤ (1099511627776 : Nat))) then
                                bif (decide ((0 : Int) < (((List.length t1.1.1.2.1) : Nat) : Int))) then
                                  bif (decide ((0 : Int) < (((List.length t1.1.1.2.1) : Nat) : Int))) then
                                    bif (decide ((0 : Nat) < (List.length t1.1.1.2.1))) then
                                      bif (decide ((0 : Int) < (((List.length t1.1.1.2.1) : Nat) : Int))) then
                                        bif (decide ((0 : Nat) < (List.length t1.1.1.2.1))) then
                                          let y12 : (List D_Job) := (List.set t1.1.1.2.1 (0 : Nat) ((List.getD t1.1.1.2.1 (0 : Nat) z_Job).1, ((IntKind.wrap .i64 ((List.getD t1.1.1.2.1 (0 : Nat) z_Job).2.1.1 - (1 : Int))), (List.getD t1.1.1.2.1 (0 : Nat) z_Job).2.1.2), ()))
                                          bif (decide ((0 : Int) < (((List.length y12) : Nat) : Int))) then
                                            bif (decide ((0 : Nat) < (List.length y12))) then
                                              bif (decide ((List.getD y12 (0 : Nat) z_Job).2.1.1 = (0 : Int))) then
                                                bif (decide ((0 : Int) < (((List.length y12) : Nat) : Int))) then
                                                  bif (decide ((0 : Nat) < (List.length y12))) then
                                                    bif (decide ((((List.length (List.take ((List.length y11) - (1 : Nat)) (List.drop (1 : Nat) y11))) + (1 : Nat)) * 32) ≤ (1099511627776 : Nat))) then
                                                      bif ((decide ((1 : Int) ≤ (((List.length y12) : Nat) : Int))) && (decide ((((List.length y12) : Nat) : Int) ≤ (((List.length y12) : Nat) : Int)))) then
                                                        bif (decide ((((0 : Nat) + (List.length (List.take ((List.length y12) - (1 : Nat)) (List.drop (1 : Nat) y12)))) * 32) ≤ (1099511627776 : Nat))) then
                                                          some (((t1.1.1.1, (List.take ((List.length y12) - (1 : Nat)) (List.drop (1 : Nat) y12)), ((List.take ((List.length y11) - (1 : Nat)) (List.drop (1 : Nat) y11)) ++ ([(List.getD y12 (0 : Nat) z_Job)] : List D_Job)), (t1.1.1.2.2.2.1 ++ ([(List.getD y11 (0 : Nat) z_Job)] : List D_Job)), ()), (-1 : Int), ()), ())
                                                        else none
                                                      else none
                                                    else none
                                                  else none
                                                else none
                                              else
                                                some (((t1.1.1.1, y12, (List.take ((List.length y11) - (1 : Nat)) (List.drop (1 : Nat) y11)), (t1.1.1.2.2.2.1 ++ ([(List.getD y11 (0 : Nat) z_Job)] : List D_Job)), ()), (-1 : Int), ()), ())
                                            else none
                                          else none
                                        else none
                                      else none
                                    else none
                                  else none
                                else
                                  some (((t1.1.1.1, t1.1.1.2.1, (List.take ((List.length y11) - (1 : Nat)) (List.drop (1 : Nat) y11)), (t1.1.1.2.2.2.1 ++ ([(List.getD y11 (0 : Nat) z_Job)] : List D_Job)), ()), (-1 : Int), ()), ())
                              else none
                            else none
                          else none
                        else none
                      else none
                    else
                      bif (decide ((0 : Int) < (((List.length t1.1.1.2.1) : Nat) : Int))) then
                        bif (decide ((0 : Int) < (((List.length t1.1.1.2.1) : Nat) : Int))) then
                          bif (decide ((0 : Nat) < (List.length t1.1.1.2.1))) then
                            bif (decide ((0 : Int) < (((List.length t1.1.1.2.1) : Nat) : Int))) then
                              bif (decide ((0 : Nat) < (List.length t1.1.1.2.1))) then
                                let y13 : (List D_Job) := (List.set t1.1.1.2.1 (0 : Nat) ((List.getD t1.1.1.2.1 (0 : Nat) z_Job).1, ((IntKind.wrap .i64 ((List.getD t1.1.1.2.1 (0 : Nat) z_Job).2.1.1 - (1 : Int))), (List.getD t1.1.1.2.1 (0 : Nat) z_Job).2.1.2), ()))
                                bif (decide ((0 : Int) < (((List.length y13) : Nat) : Int))) then
                                  bif (decide ((0 : Nat) < (List.length y13))) then
                                    bif (decide ((List.getD y13 (0 : Nat) z_Job).2.1.1 = (0 : Int))) then
                                      bif (decide ((0 : Int) < (((List.length y13) : Nat) : Int))) then
                                        bif (decide ((0 : Nat) < (List.length y13))) then
                                          bif (decide ((((List.length y11) + (1 : Nat)) * 32) ≤ (1099511627776 : Nat))) then
                                            bif ((decide ((1 : Int) ≤ (((List.length y13) : Nat) : Int))) && (decide ((((List.length y13) : Nat) : Int) ≤ (((List.length y13) : Nat) : Int)))) then
                                              bif (decide ((((0 : Nat) + (List.length (List.take ((List.length y13) - (1 : Nat)) (List.drop (1 : Nat) y13)))) * 32) ≤ (1099511627776 : Nat))) then
                                                some (((t1.1.1.1, (List.take ((List.length y13) - (1 : Nat)) (List.drop (1 : Nat) y13)), (y11 ++ ([(List.getD y13 (0 : Nat) z_Job)] : List D_Job)), t1.1.1.2.2.2), (-1 : Int), ()), ())
                                              else none
                                            else none
                                          else none
                                        else none
                                      else none
                                    else
                                      some (((t1.1.1.1, y13, y11, t1.1.1.2.2.2), (-1 : Int), ()), ())
                                  else none
                                else none
                              else none
                            else none
                          else none
                        else none
                      else
                        some (((t1.1.1.1, t1.1.1.2.1, y11, t1.1.1.2.2.2), (-1 : Int), ()), ())
                  else none
                else none
              else none
            else none
          else none
        else none
      else
        bif (decide ((0 : Int) < (((List.length t1.1.1.2.1) : Nat) : Int))) then
          bif (decide ((0 : Int) < (((List.length t1.1.1.2.1) : Nat) : Int))) then
            bif (decide ((0 : Nat) < (List.length t1.1.1.2.1))) then
              bif (decide ((0 : Int) < (((List.length t1.1.1.2.1) : Nat) : Int))) then
                bif (decide ((0 : Nat) < (List.length t1.1.1.2.1))) then
                  let y14 : (List D_Job) := (List.set t1.1.1.2.1 (0 : Nat) ((List.getD t1.1.1.2.1 (0 : Nat) z_Job).1, ((IntKind.wrap .i64 ((List.getD t1.1.1.2.1 (0 : Nat) z_Job).2.1.1 - (1 : Int))), (List.getD t1.1.1.2.1 (0 : Nat) z_Job).2.1.2), ()))
                  bif (decide ((0 : Int) < (((List.length y14) : Nat) : Int))) then
                    bif (decide ((0 : Nat) < (List.length y14))) then
                      bif (decide ((List.getD y14 (0 : Nat) z_Job).2.1.1 = (0 : Int))) then
                        bif (decide ((0 : Int) < (((List.length y14) : Nat) : Int))) then
                          bif (decide ((0 : Nat) < (List.length y14))) then
                            bif (decide ((((List.length t1.1.1.2.2.1) + (1 : Nat)) * 32) ≤ (1099511627776 : Nat))) then
                              bif ((decide ((1 : Int) ≤ (((List.length y14) : Nat) : Int))) && (decide ((((List.length y14) : Nat) : Int) ≤ (((List.length y14) : Nat) : Int)))) then
                                bif (decide ((((0 : Nat) + (List.length (List.take ((List.length y14) - (1 : Nat)) (List.drop (1 : Nat) y14)))) * 32) ≤ (1099511627776 : Nat))) then
                                  some (((t1.1.1.1, (List.take ((List.length y14) - (1 : Nat)) (List.drop (1 : Nat) y14)), (t1.1.1.2.2.1 ++ ([(List.getD y14 (0 : Nat) z_Job)] : List D_Job)), t1.1.1.2.2.2), (-1 : Int), ()), ())
                                else none
                              else none
                            else none
                          else none
                        else none
                      else
                        some (((t1.1.1.1, y14, t1.1.1.2.2), (-1 : Int), ()), ())
                    else none
                  else none
                else none
              else none
            else none
          else none
        else
          some ((t1.1.1, (-1 : Int), ()), ())
def spec_LineRun_s6 (rec : (Unit × (Int × (D_Line × (D_Line × ((List D_Done) × (Int × Unit)))))) → Option ((Unit × (D_Line × (D_Line × ((List D_Done) × Unit)))))) (v : (Unit × (Int × (D_Line × (D_Line × ((List D_Done) × (Int × Unit))))))) : Option ((Unit × (D_Line × (D_Line × ((List D_Done) × Unit))))) :=
  bif (decide (v.2.2.2.2.2.1 ≤ v.2.1)) then
    (spec_l21All v.2.2.2.1).bind fun t3 =>
      bif (decide ((0 : Int) < (((List.length t3.1.1) : Nat) : Int))) then
        (spec_l21Tick v.2.2.2.1).bind fun t4 =>
          bif (decide ((0 : Int) ≤ t4.1.2.1)) then
            bif (decide ((((List.length v.2.2.2.2.1) + (1 : Nat)) * 16) ≤ (1099511627776 : Nat))) then
              rec ((), v.2.1, v.2.2.1, t4.1.1, (v.2.2.2.2.1 ++ ([(t4.1.2.1, v.2.2.2.2.2)] : List D_Done)), (IntKind.wrap .i64 (v.2.2.2.2.2.1 + (1 : Int))), ())
            else none
          else
            rec ((), v.2.1, v.2.2.1, t4.1.1, v.2.2.2.2.1, (IntKind.wrap .i64 (v.2.2.2.2.2.1 + (1 : Int))), ())
      else
        some ((), v.2.2.1, v.2.2.2.1, v.2.2.2.2.1, ())
  else
    some ((), v.2.2.1, v.2.2.2.1, v.2.2.2.2.1, ())
def spec_LineRun (k : Nat) (x0 : D_Line) (x1 : Int) : Option ((D_Line × ((List D_Done) × Unit)) × Unit) :=
  (spec_LineOk k x0).bind fun t1 =>
    bif (!(!t1.1.1)) then
      bif (!(decide (x1 < (0 : Int)))) then
        bif (decide ((20000 : Int) < x1)) then
          some ((((0 : Int), ([] : List D_Job), ([] : List D_Job), ([] : List D_Job), ()), ([] : List D_Done), ()), ())
        else
          (spec_l21Copy x0).bind fun t2 =>
            (iter (spec_LineRun_s6) k ((), x1, ((0 : Int), ([] : List D_Job), ([] : List D_Job), ([] : List D_Job), ()), t2.1.1, ([] : List D_Done), (1 : Int), ())).bind fun o3 =>
              some (o3.2.2, ())
      else
        some ((((0 : Int), ([] : List D_Job), ([] : List D_Job), ([] : List D_Job), ()), ([] : List D_Done), ()), ())
    else
      some ((((0 : Int), ([] : List D_Job), ([] : List D_Job), ([] : List D_Job), ()), ([] : List D_Done), ()), ())
def impl_within (x0 : Int) (x1 : Int) (x2 : Int) : Option ((Bool × Unit) × Unit) :=
  bif (decide (x1 ≤ x0)) then
    some (((decide (x0 ≤ x2)), ()), ())
  else
    some ((false, ()), ())
def slices_Concat_impl_Job_impl_Job_s3 (rec : (Unit × ((List (List D_Job)) × (Int × ((List (List D_Job)) × D_Done)))) → Option ((Unit × ((List (List D_Job)) × (Int × Unit))))) (v : (Unit × ((List (List D_Job)) × (Int × ((List (List D_Job)) × D_Done))))) : Option ((Unit × ((List (List D_Job)) × (Int × Unit)))) :=
  bif (decide (v.2.2.2.2.2.1 < v.2.2.2.2.1)) then
    bif ((decide ((0 : Int) ≤ v.2.2.2.2.2.1)) && (decide (v.2.2.2.2.2.1 < (((List.length v.2.2.2.1) : Nat) : Int)))) then
      bif (decide ((Int.toNat v.2.2.2.2.2.1) < (List.length v.2.2.2.1))) then
        bif (decide ((IntKind.wrap .i64 (v.2.2.1 + (((List.length (List.getD v.2.2.2.1 (Int.toNat v.2.2.2.2.2.1) [])) : Nat) : Int))) < (0 : Int))) then
          none
        else
          rec ((), v.2.1, (IntKind.wrap .i64 (v.2.2.1 + (((List.length (List.getD v.2.2.2.1 (Int.toNat v.2.2.2.2.2.1) [])) : Nat) : Int))), v.2.2.2.1, v.2.2.2.2.1, (IntKind.wrap .i64 (v.2.2.2.2.2.1 + (1 : Int))), ())
      else none
    else none
  else
    some ((), v.2.1, v.2.2.1, ())
def slices_Concat_impl_Job_impl_Job_s11 (rec : (Unit × ((List D_Job) × ((List (List D_Job)) × D_Done))) → Option ((Unit × ((List D_Job) × Unit)))) (v : (Unit × ((List D_Job) × ((List (List D_Job)) × D_Done)))) : Option ((Unit × ((List D_Job) × Unit))) :=
  bif (decide (v.2.2.2.2.1 < v.2.2.2.1)) then
    bif ((decide ((0 : Int) ≤ v.2.2.2.2.1)) && (decide (v.2.2.2.2.1 < (((List.length v.2.2.1) : Nat) : Int)))) then
      bif (decide ((Int.toNat v.2.2.2.2.1) < (List.length v.2.2.1))) then
        bif (decide ((((List.length v.2.1) + (List.length (List.getD v.2.2.1 (Int.toNat v.2.2.2.2.1) []))) * 32) ≤ (1099511627776 : Nat))) then
          rec ((), (v.2.1 ++ (List.getD v.2.2.1 (Int.toNat v.2.2.2.2.1) [])), v.2.2.1, v.2.2.2.1, (IntKind.wrap .i64 (v.2.2.2.2.1 + (1 : Int))), ())
        else none
      else none
    else none
  else
    some ((), v.2.1, ())
def slices_Concat_impl_Job_impl_Job (k : Nat) (x0 : (List (List D_Job))) : Option (((List D_Job) × Unit) × Unit) :=
  (iter (slices_Concat_impl_Job_impl_Job_s3) k ((), x0, (0 : Int), x0, (((List.length x0) : Nat) : Int), (0 : Int), ())).bind fun o1 =>
    bif (decide (o1.2.2.1 < (0 : Int))) then
      none
    else
      bif (decide ((0 : Int) < (IntKind.wrap .i64 (o1.2.2.1 - (0 : Int))))) then
        bif ((decide ((0 : Int) ≤ (IntKind.wrap .i64 (o1.2.2.1 - (0 : Int))))) && (decide (((32 : Int) * (IntKind.wrap .i64 (o1.2.2.1 - (0 : Int)))) ≤ (1099511627776 : Int)))) then
          bif (decide ((0 : Int) ≤ (((List.length (List.replicate (Int.toNat (IntKind.wrap .i64 (o1.2.2.1 - (0 : Int)))) ((0 : Int), ((0 : Int), (0 : Int), (0 : Int), ()), ()))) : Nat) : Int))) then
            (iter (slices_Concat_impl_Job_impl_Job_s11) k ((), (List.take (0 : Nat) (List.replicate (Int.toNat (IntKind.wrap .i64 (o1.2.2.1 - (0 : Int)))) ((0 : Int), ((0 : Int), (0 : Int), (0 : Int), ()), ()))), o1.2.1, (((List.length o1.2.1) : Nat) : Int), (0 : Int), ())).bind fun o2 =>
              some (o2.2, ())
          else none
        else none
      else
        (iter (slices_Concat_impl_Job_impl_Job_s11) k ((), ([] : List D_Job), o1.2.1, (((List.length o1.2.1) : Nat) : Int), (0 : Int), ())).bind fun o3 =>
          some (o3.2, ())
def impl_Line_jobs (k : Nat) (x0 : D_Line) : Option (((List D_Job) × Unit) × Unit) :=
  (slices_Concat_impl_Job_impl_Job k ([x0.2.1, x0.2.2.1, x0.2.2.2.1] : List (List D_Job))).bind fun t1 =>
    some (t1.1, ())
def impl_Vec_isFrom (x0 : D_Vec) (x1 : Int) (x2 : Int) : Option ((Bool × Unit) × Unit) :=
  (impl_within x0.1 x1 x2).bind fun t1 =>
    bif t1.1.1 then
      (impl_within x0.2.1 x1 x2).bind fun t2 =>
        bif t2.1.1 then
          (impl_within x0.2.2.1 x1 x2).bind fun t3 =>
            some (t3.1, ())
        else
          some ((false, ()), ())
    else
      some ((false, ()), ())
def impl_CostOk (x0 : D_Vec) : Option ((Bool × Unit) × Unit) :=
  (impl_Vec_isFrom x0 (1 : Int) (1000 : Int)).bind fun t1 =>
    some (t1.1, ())
def impl_isNeed (x0 : Int) : Option ((Bool × Unit) × Unit) :=
  (impl_within x0 (1 : Int) (1000 : Int)).bind fun t1 =>
    some (t1.1, ())
def impl_LineOk_s5 (rec : (Unit × (D_Line × ((List (Int × Bool)) × ((List D_Job) × D_Done)))) → Option ((Unit × (Bool × Unit)) ⊕ (Unit × Unit))) (v : (Unit × (D_Line × ((List (Int × Bool)) × ((List D_Job) × D_Done))))) : Option ((Unit × (Bool × Unit)) ⊕ (Unit × Unit)) :=
  bif (decide (v.2.2.2.2.2.1 < v.2.2.2.2.1)) then
    bif ((decide ((0 : Int) ≤ v.2.2.2.2.2.1)) && (decide (v.2.2.2.2.2.1 < (((List.length v.2.2.2.1) : Nat) : Int)))) then
      bif (decide ((Int.toNat v.2.2.2.2.2.1) < (List.length v.2.2.2.1))) then
        (impl_CostOk (List.getD v.2.2.2.1 (Int.toNat v.2.2.2.2.2.1) z_Job).2.1).bind fun t4 =>
          bif (decide ((IntKind.wrap .i64 ((((List.length v.2.1.2.1) : Nat) : Int) + (((List.length v.2.1.2.2.1) : Nat) : Int))) ≤ v.2.2.2.2.2.1)) then
            bif (decide ((List.getD v.2.2.2.1 (Int.toNat v.2.2.2.2.2.1) z_Job).2.1.1 = (0 : Int))) then
              bif (decide ((List.getD v.2.2.2.1 (Int.toNat v.2.2.2.2.2.1) z_Job).2.1.2.1 = (0 : Int))) then
                (impl_isNeed (List.getD v.2.2.2.1 (Int.toNat v.2.2.2.2.2.1) z_Job).2.1.2.2.1).bind fun t5 =>
                  bif (!(!t5.1.1)) then
                    (impl_within (List.getD v.2.2.2.1 (Int.toNat v.2.2.2.2.2.1) z_Job).1 (0 : Int) (1000000000000 : Int)).bind fun t6 =>
                      bif (!(!t6.1.1)) then
                        bif (mget v.2.2.1 (List.getD v.2.2.2.1 (Int.toNat v.2.2.2.2.2.1) z_Job).1) then
                          some (Sum.inl ((), false, ()))
                        else
                          rec ((), v.2.1, (mset v.2.2.1 (List.getD v.2.2.2.1 (Int.toNat v.2.2.2.2.2.1) z_Job).1 true), v.2.2.2.1, v.2.2.2.2.1, (IntKind.wrap .i64 (v.2.2.2.2.2.1 + (1 : Int))), ())
                      else
                        some (Sum.inl ((), false, ()))
                  else
                    some (Sum.inl ((), false, ()))
              else
                some (Sum.inl ((), false, ()))
            else
              some (Sum.inl ((), false, ()))
          else
            bif (decide ((((List.length v.2.1.2.1) : Nat) : Int) ≤ v.2.2.2.2.2.1)) then
              bif (decide ((List.getD v.2.2.2.1 (Int.toNat v.2.2.2.2.2.1) z_Job).2.1.1 = (0 : Int))) then
                (impl_isNeed (List.getD v.2.2.2.1 (Int.toNat v.2.2.2.2.2.1) z_Job).2.1.2.1).bind fun t7 =>
                  bif t7.1.1 then
                    (impl_isNeed (List.getD v.2.2.2.1 (Int.toNat v.2.2.2.2.2.1) z_Job).2.1.2.2.1).bind fun t8 =>
                      bif (!(!t8.1.1)) then
                        (impl_within (List.getD v.2.2.2.1 (Int.toNat v.2.2.2.2.2.1) z_Job).1 (0 : Int) (1000000000000 : Int)).bind fun t9 =>
                          bif (!(!t9.1.1)) then
                            bif (mget v.2.2.1 (List.getD v.2.2.2.1 (Int.toNat v.2.2.2.2.2.1) z_Job).1) then
                              some (Sum.inl ((), false, ()))
                            else
                              rec ((), v.2.1, (mset v.2.2.1 (List.getD v.2.2.2.1 (Int.toNat v.2.2.2.2.2.1) z_Job).1 true), v.2.2.2.1, v.2.2.2.2.1, (IntKind.wrap .i64 (v.2.2.2.2.2.1 + (1 : Int))), ())
                          else
                            some (Sum.inl ((), false, ()))
                      else
                        some (Sum.inl ((), false, ()))
                  else
                    some (Sum.inl ((), false, ()))
              else
                some (Sum.inl ((), false, ()))
            else
              bif (!(!t4.1.1)) then
                (impl_within (List.getD v.2.2.2.1 (Int.toNat v.2.2.2.2.2.1) z_Job).1 (0 : Int) (1000000000000 : Int)).bind fun t10 =>
                  bif (!(!t10.1.1)) then
                    bif (mget v.2.2.1 (List.getD v.2.2.2.1 (Int.toNat v.2.2.2.2.2.1) z_Job).1) then
                      some (Sum.inl ((), false, ()))
                    else
                      rec ((), v.2.1, (mset v.2.2.1 (List.getD v.2.2.2.1 (Int.toNat v.2.2.2.2.2.1) z_Job).1 true), v.2.2.2.1, v.2.2.2.2.1, (IntKind.wrap .i64 (v.2.2.2.2.2.1 + (1 : Int))), ())
                  else
                    some (Sum.inl ((), false, ()))
              else
                some (Sum.inl ((), false, ()))
      else none
    else none
  else
    some (Sum.inr ((), ()))
def impl_LineOk (k : Nat) (x0 : D_Line) : Option ((Bool × Unit) × Unit) :=
  (impl_within x0.1 (1 : Int) (16 : Int)).bind fun t1 =>
    bif (!(!t1.1.1)) then
      (impl_Line_jobs k x0).bind fun t2 =>
        bif (decide (x0.1 < (((List.length t2.1.1) : Nat) : Int))) then
          some ((false, ()), ())
        else
          (impl_Line_jobs k x0).bind fun t3 =>
            (iter (impl_LineOk_s5) k ((), x0, ([] : List (Int × Bool)), t3.1.1, (((List.length t3.1.1) : Nat) : Int), (0 : Int), ())).bind fun o4 =>
              Sum.elim (fun a5 =>
                some (a5.2, ()))
              (fun b6 =>
                some ((true, ()), ())) o4
    else
      some ((false, ()), ())
def slices_Clone_impl_Job_impl_Job (x0 : (List D_Job)) : Option (((List D_Job) × Unit) × Unit) :=
  bif (decide (((0 : Nat) + (List.length x0)) * 32 ≤ (1099511627776 : Nat))) then some ((x0, ()), ()) else none
def impl_copyLine (x0 : D_Line) : Option ((D_Line × Unit) × Unit) :=
  (slices_Clone_impl_Job_impl_Job x0.2.1).bind fun t1 =>
    (slices_Clone_impl_Job_impl_Job x0.2.2.1).bind fun t2 =>
      (slices_Clone_impl_Job_impl_Job x0.2.2.2.1).bind fun t3 =>
        some (((x0.1, t1.1.1, t2.1.1, t3.1), ()), ())
def impl_LineRun_s5 (rec : (Unit × (Int × (D_Line × (D_Line × ((List D_Done) × (Int × Unit)))))) → Option ((Unit × (D_Line × (D_Line × ((List D_Done) × Unit)))))) (v : (Unit × (Int × (D_Line × (D_Line × ((List D_Done) × (Int × Unit))))))) : Option ((Unit × (D_Line × (D_Line × ((List D_Done) × Unit))))) :=
  bif (decide (v.2.2.2.2.2.1 ≤ v.2.1)) then
    bif (decide ((0 : Int) < (((List.length v.2.2.2.1.2.2.2.1) : Nat) : Int))) then
      bif (decide ((0 : Int) < (((List.length v.2.2.2.1.2.2.2.1) : Nat) : Int))) then
        bif (decide ((0 : Nat) < (List.length v.2.2.2.1.2.2.2.1))) then
          bif (decide ((0 : Int) < (((List.length v.2.2.2.1.2.2.2.1) : Nat) : Int))) then
            bif (decide ((0 : Nat) < (List.length v.2.2.2.1.2.2.2.1))) then
              let y4 : (List D_Job) := (List.set v.2.2.2.1.2.2.2.1 (0 : Nat) ((List.getD v.2.2.2.1.2.2.2.1 (0 : Nat) z_Job).1, ((List.getD v.2.2.2.1.2.2.2.1 (0 : Nat) z_Job).2.1.1, (List.getD v.2.2.2.1.2.2.2.1 (0 : Nat) z_Job).2.1.2.1, (IntKind.wrap .i64 ((List.getD v.2.2.2.1.2.2.2.1 (0 : Nat) z_Job).2.1.2.2.1 - (1 : Int))), ()), ()))
              bif (decide ((0 : Int) < (((List.length y4) : Nat) : Int))) then
                bif (decide ((0 : Nat) < (List.length y4))) then
                  bif (decide ((List.getD y4 (0 : Nat) z_Job).2.1.2.2.1 = (0 : Int))) then
                    bif (decide ((0 : Int) < (((List.length y4) : Nat) : Int))) then
                      bif (decide ((0 : Nat) < (List.length y4))) then
                        bif ((decide ((1 : Int) ≤ (((List.length y4) : Nat) : Int))) && (decide ((((List.length y4) : Nat) : Int) ≤ (((List.length y4) : Nat) : Int)))) then
                          bif (decide ((0 : Int) < (((List.length v.2.2.2.1.2.2.1) : Nat) : Int))) then
                            bif (decide ((0 : Int) < (((List.length v.2.2.2.1.2.2.1) : Nat) : Int))) then
                              bif (decide ((0 : Nat) < (List.length v.2.2.2.1.2.2.1))) then
                                bif (decide ((0 : Int) < (((List.length v.2.2.2.1.2.2.1) : Nat) : Int))) then
                                  bif (decide ((0 : Nat) < (List.length v.2.2.2.1.2.2.1))) then
                                    let y5 : (List D_Job) := (List.set v.2.2.2.1.2.2.1 (0 : Nat) ((List.getD v.2.2.2.1.2.2.1 (0 : Nat) z_Job).1, ((List.getD v.2.2.2.1.2.2.1 (0 : Nat) z_Job).2.1.1, (IntKind.wrap .i64 ((List.getD v.2.2.2.1.2.2.1 (0 : Nat) z_Job).2.1.2.1 - (1 : Int))), (List.getD v.2.2.2.1.2.2.1 (0 : Nat) z_Job).2.1.2.2), ()))
                                    bif (decide ((0 : Int) < (((List.length y5) : Nat) : Int))) then
                                      bif (decide ((0 : Nat) < (List.length y5))) then
                                        bif (decide ((List.getD y5 (0 : Nat) z_Job).2.1.2.1 = (0 : Int))) then
                                          bif (decide ((0 : Int) < (((List.length y5) : Nat) : Int))) then
                                            bif (decide ((0 : Nat) < (List.length y5))) then
                                              bif (decide (((((List.length y4) - (1 : Nat)) + (1 : Nat)) * 32) ≤ (1099511627776 : Nat))) then
                                                bif ((decide ((1 : Int) ≤ (((List.length y5) : Nat) : Int))) && (decide ((((List.length y5) : Nat) : Int) ≤ (((List.length y5) : Nat) : Int)))) then
                                                  bif (decide ((0 : Int) < (((List.length v.2.2.2.1.2.1) : Nat) : Int))) then
                                                    bif (decide ((0 : Int) < (((List.length v.2.2.2.1.2.1) : Nat) : Int))) then
                                                      bif (decide ((0 : Nat) < (List.length v.2.2.2.1.2.1))) then
                                                        bif (decide ((0 : Int) < (((List.length v.2.2.2.1.2.1) : Nat) : Int))) then
                                                          bif (decide ((0 : Nat) < (List.length v.2.2.2.1.2.1))) then
                                                            let y6 : (List D_Job) := (List.set v.2.2.2.1.2.1 (0 : Nat) ((List.getD v.2.2.2.1.2.1 (0 : Nat) z_Job).1, ((IntKind.wrap .i64 ((List.getD v.2.2.2.1.2.1 (0 : Nat) z_Job).2.1.1 - (1 : Int))), (List.getD v.2.2.2.1.2.1 (0 : Nat) z_Job).2.1.2), ()))
                                                            bif (decide ((0 : Int) < (((List.length y6) : Nat) : Int))) then
                                                              bif (decide ((0 : Nat) < (List.length y6))) then
                                                                bif (decide ((List.getD y6 (0 : Nat) z_Job).2.1.1 = (0 : Int))) then
                                                                  bif (decide ((0 : Int) < (((List.length y6) : Nat) : Int))) then
                                                                    bif (decide ((0 : Nat) < (List.length y6))) then
                                                                      bif (decide (((((List.length y5) - (1 : Nat)) + (1 : Nat)) * 32) ≤ (1099511627776 : Nat))) then
                                                                        bif ((decide ((1 : Int) ≤ (((List.length y6) : Nat) : Int))) && (decide ((((List.length y6) : Nat) : Int) ≤ (((List.length y6) : Nat) : Int)))) then
                                                                          bif (decide ((0 : Int) ≤ (List.getD y4 (0 : Nat) z_Job).1)) then
                                                                            bif (decide ((((List.length v.2.2.2.2.1) + (1 : Nat)) * 16) ≤ (1099511627776 : Nat))) then
                                                                              rec ((), v.2.1, v.2.2.1, (v.2.2.2.1.1, (List.take ((List.length y6) - (1 : Nat)) (List.drop (1 : Nat) y6)), ((List.take ((List.length y5) - (1 : Nat)) (List.drop (1 : Nat) y5)) ++ ([(List.getD y6 (0 : Nat) z_Job)] : List D_Job)), ((List.take ((List.length y4) - (1 : Nat)) (List.drop (1 : Nat) y4)) ++ ([(List.getD y5 (0 : Nat) z_Job)] : List D_Job)), ()), (v.2.2.2.2.1 ++ ([((List.getD y4 (0 : Nat) z_Job).1, v.2.2.2.2.2)] : List D_Done)), (IntKind.wrap .i64 (v.2.2.2.2.2.1 + (1 : Int))), ())
                                                                            else none
                                                                          else
                                                                            rec ((), v.2.1, v.2.2.1, (v.2.2.2.1.1, (List.take ((List.length y6) - (1 : Nat)) (List.drop (1 : Nat) y6)), ((List.take ((List.length y5) - (1 : Nat)) (List.drop (1 : Nat) y5)) ++ ([(List.getD y6 (0 : Nat) z_Job)] : List D_Job)), ((List.take ((List.length y4) - (1 : Nat)) (List.drop (1 : Nat) y4)) ++ ([(List.getD y5 (0 : Nat) z_Job)] : List D_Job)), ()), v.2.2.2.2.1, (IntKind.wrap .i64 (v.2.2.2.2.2.1 + (1 : Int))), ())
                                                                        else none
                                                                      else none
                                                                    else none
                                                                  else none
                                                                else
                                                                  bif (decide ((0 : Int) ≤ (List.getD y4 (0 : Nat) z_Job).1)) then
                                                                    bif (decide ((((List.length v.2.2.2.2.1) + (1 : Nat)) * 16) ≤ (1099511627776 : Nat))) then
                                                                      rec ((), v.2.1, v.2.2.1, (v.2.2.2.1.1, y6, (List.take ((List.length y5) - (1 : Nat)) (List.drop (1 : Nat) y5)), ((List.take ((List.length y4) - (1 : Nat)) (List.drop (1 : Nat) y4)) ++ ([(List.getD y5 (0 : Nat) z_Job)] : List D_Job)), ()), (v.2.2.2.2.1 ++ ([((List.getD y4 (0 : Nat) z_Job).1, v.2.2.2.2.2)] : List D_Done)), (IntKind.wrap .i64 (v.2.2.2.2.2.1 + (1 : Int))), ())
                                                                    else none
                                                                  else
                                                                    rec ((), v.2.1, v.2.2.1, (v.2.2.2.1.1, y6, (List.take ((List.length y5) - (1 : Nat)) (List.drop (1 : Nat) y5)), ((List.take ((List.length y4) - (1 : Nat)) (List.drop (1 : Nat) y4)) ++ ([(List.getD y5 (0 : Nat) z_Job)] : List D_Job)), ()), v.2.2.2.2.1, (IntKind.wrap .i64 (v.2.2.2.2.2.1 + (1 : Int))), ())
                                                              else none
                                                            else none
                                                          else none
                                                        else none
                                                      else none
                                                    else none
                                                  else
                                                    bif (decide ((0 : Int) ≤ (List.getD y4 (0 : Nat) z_Job).1)) then
                                                      bif (decide ((((List.length v.2.2.2.2.1) + (1 : Nat)) * 16) ≤ (1099511627776 : Nat))) then
                                                        rec ((), v.2.1, v.2.2.1, (v.2.2.2.1.1, v.2.2.2.1.2.1, (List.take ((List.length y5) - (1 : Nat)) (List.drop (1 : Nat) y5)), ((List.take ((List.length y4) - (1 : Nat)) (List.drop (1 : Nat) y4)) ++ ([(List.getD y5 (0 : Nat) z_Job)] : List D_Job)), ()), (v.2.2.2.2.1 ++ ([((List.getD y4 (0 : Nat) z_Job).1, v.2.2.2.2.2)] : List D_Done)), (IntKind.wrap .i64 (v.2.2.2.2.2.1 + (1 : Int))), ())
                                                      else none
                                                    else
                                                      rec ((), v.2.1, v.2.2.1, (v.2.2.2.1.1, v.2.2.2.1.2.1, (List.take ((List.length y5) - (1 : Nat)) (List.drop (1 : Nat) y5)), ((List.take ((List.length y4) - (1 : Nat)) (List.drop (1 : Nat) y4)) ++ ([(List.getD y5 (0 : Nat) z_Job)] : List D_Job)), ()), v.2.2.2.2.1, (IntKind.wrap .i64 (v.2.2.2.2.2.1 + (1 : Int))), ())
                                                else none
                                              else none
                                            else none
                                          else none
                                        else
                                          bif (decide ((0 : Int) < (((List.length v.2.2.2.1.2.1) : Nat) : Int))) then
                                            bif (decide ((0 : Int) < (((List.length v.2.2.2.1.2.1) : Nat) : Int))) then
                                              bif (decide ((0 : Nat) < (List.length v.2.2.2.1.2.1))) then
                                                bif (decide ((0 : Int) < (((List.length v.2.2.2.1.2.1) : Nat) : Int))) then
                                                  bif (decide ((0 : Nat) < (List.length v.2.2.2.1.2.1))) then
                                                    let y7 : (List D_Job) := (List.set v.2.2.2.1.2.1 (0 : Nat) ((List.getD v.2.2.2.1.2.1 (0 : Nat) z_Job).1, ((IntKind.wrap .i64 ((List.getD v.2.2.2.1.2.1 (0 : Nat) z_Job).2.1.1 - (1 : Int))), (List.getD v.2.2.2.1.2.1 (0 : Nat) z_Job).2.1.2), ()))
                                                    bif (decide ((0 : Int) < (((List.length y7) : Nat) : Int))) then
                                                      bif (decide ((0 : Nat) < (List.length y7))) then
                                                        bif (decide ((List.getD y7 (0 : Nat) z_Job).2.1.1 = (0 : Int))) then
                                                          bif (decide ((0 : Int) < (((List.length y7) : Nat) : Int))) then
                                                            bif (decide ((0 : Nat) < (List.length y7))) then
                                                              bif (decide ((((List.length y5) + (1 : Nat)) * 32) ≤ (1099511627776 : Nat))) then
                                                                bif ((decide ((1 : Int) ≤ (((List.length y7) : Nat) : Int))) && (decide ((((List.length y7) : Nat) : Int) ≤ (((List.length y7) : Nat) : Int)))) then
                                                                  bif (decide ((0 : Int) ≤ (List.getD y4 (0 : Nat) z_Job).1)) then
                                                                    bif (decide ((((List.length v.2.2.2.2.1) + (1 : Nat)) * 16) ≤ (1099511627776 : Nat))) then
                                                                      rec ((), v.2.1, v.2.2.1, (v.2.2.2.1.1, (List.take ((List.length y7) - (1 : Nat)) (List.drop (1 : Nat) y7)), (y5 ++ ([(List.getD y7 (0 : Nat) z_Job)] : List D_Job)), (List.take ((List.length y4) - (1 : Nat)) (List.drop (1 : Nat) y4)), ()), (v.2.2.2.2.1 ++ ([((List.getD y4 (0 : Nat) z_Job).1, v.2.2.2.2.2)] : List D_Done)), (IntKind.wrap .i64 (v.2.2.2.2.2.1 + (1 : Int))), ())
                                                                    else none
                                                                  else
                                                                    rec ((), v.2.1, v.2.2.1, (v.2.2.2.1.1, (List.take ((List.length y7) - (1 : Nat)) (List.drop (1 : Nat) y7)), (y5 ++ ([(List.getD y7 (0 : Nat) z_Job)] : List D_Job)), (List.take ((List.length y4) - (1 : Nat)) (List.drop (1 : Nat) y4)), ()), v.2.2.2.2.1, (IntKind.wrap .i64 (v.2.2.2.2.2.1 + (1 : Int))), ())
                                                                else none
                                                              else none
                                                            else none
                                                          else none
                                                        else
                                                          bif (decide ((0 : Int) ≤ (List.getD y4 (0 : Nat) z_Job).1)) then
                                                            bif (decide ((((List.length v.2.2.2.2.1) + (1 : Nat)) * 16) ≤ (1099511627776 : Nat))) then
                                                              rec ((), v.2.1, v.2.2.1, (v.2.2.2.1.1, y7, y5, (List.take ((List.length y4) - (1 : Nat)) (List.drop (1 : Nat) y4)), ()), (v.2.2.2.2.1 ++ ([((List.getD y4 (0 : Nat) z_Job).1, v.2.2.2.2.2)] : List D_Done)), (IntKind.wrap .i64 (v.2.2.2.2.2.1 + (1 : Int))), ())
                                                            else none
                                                          else
                                                            rec ((), v.2.1, v.2.2.1, (v.2.2.2.1.1, y7, y5, (List.take ((List.length y4) - (1 : Nat)) (List.drop (1 : Nat) y4)), ()), v.2.2.2.2.1, (IntKind.wrap .i64 (v.2.2.2.2.2.1 + (1 : Int))), ())
                                                      else none
                                                    else none
                                                  else none
                                                else none
                                              else none
                                            else none
                                          else
                                            bif (decide ((0 : Int) ≤ (List.getD y4 (0 : Nat) z_Job).1)) then
                                              bif (decide ((((List.length v.2.2.2.2.1) + (1 : Nat)) * 16) ≤ (1099511627776 : Nat))) then
                                                rec ((), v.2.1, v.2.2.1, (v.2.2.2.1.1, v.2.2.2.1.2.1, y5, (List.take ((List.length y4) - (1 : Nat)) (List.drop (1 : Nat) y4)), ()), (v.2.2.2.2.1 ++ ([((List.getD y4 (0 : Nat) z_Job).1, v.2.2.2.2.2)] : List D_Done)), (IntKind.wrap .i64 (v.2.2.2.2.2.1 + (1 : Int))), ())
                                              else none
                                            else
                                              rec ((), v.2.1, v.2.2.1, (v.2.2.2.1.1, v.2.2.2.1.2.1, y5, (List.take ((List.length y4) - (1 : Nat)) (List.drop (1 : Nat) y4)), ()), v.2.2.2.2.1, (IntKind.wrap .i64 (v.2.2.2.2.2.1 + (1 : Int))), ())
                                      else none
                                    else none
                                  else none
                                else none
                              else none
                            else none
                          else
                            bif (decide ((0 : Int) < (((List.length v.2.2.2.1.2.1) : Nat) : Int))) then
                              bif (decide ((0 : Int) < (((List.length v.2.2.2.1.2.1) : Nat) : Int))) then
                                bif (decide ((0 : Nat) < (List.length v.2.2.2.1.2.1))) then
                                  bif (decide ((0 : Int) < (((List.length v.2.2.2.1.2.1) : Nat) : Int))) then
                                    bif (decide ((0 : Nat) < (List.length v.2.2.2.1.2.1))) then
                                      let y8 : (List D_Job) := (List.set v.2.2.2.1.2.1 (0 : Nat) ((List.getD v.2.2.2.1.2.1 (0 : Nat) z_Job).1, ((IntKind.wrap .i64 ((List.getD v.2.2.2.1.2.1 (0 : Nat) z_Job).2.1.1 - (1 : Int))), (List.getD v.2.2.2.1.2.1 (0 : Nat) z_Job).2.1.2), ()))
                                      bif (decide ((0 : Int) < (((List.length y8) : Nat) : Int))) then
                                        bif (decide ((0 : Nat) < (List.length y8))) then
                                          bif (decide ((List.getD y8 (0 : Nat) z_Job).2.1.1 = (0 : Int))) then
                                            bif (decide ((0 : Int) < (((List.length y8) : Nat) : Int))) then
                                              bif (decide ((0 : Nat) < (List.length y8))) then
                                                bif (decide ((((List.length v.2.2.2.1.2.2.1) + (1 : Nat)) * 32) ≤ (1099511627776 : Nat))) then
                                                  bif ((decide ((1 : Int) ≤ (((List.length y8) : Nat) : Int))) && (decide ((((List.length y8) : Nat) : Int) ≤ (((List.length y8) : Nat) : Int)))) then
                                                    bif (decide ((0 : Int) ≤ (List.getD y4 (0 : Nat) z_Job).1)) then
                                                      bif (decide ((((List.length v.2.2.2.2.1) + (1 : Nat)) * 16) ≤ (1099511627776 : Nat))) then
                                                        rec ((), v.2.1, v.2.2.1, (v.2.2.2.1.1, (List.take ((List.length y8) - (1 : Nat)) (List.drop (1 : Nat) y8)), (v.2.2.2.1.2.2.1 ++ ([(List.getD y8 (0 : Nat) z_Job)] : List D_Job)), (List.take ((List.length y4) - (1 : Nat)) (List.drop (1 : Nat) y4)), ()), (v.2.2.2.2.1 ++ ([((List.getD y4 (0 : Nat) z_Job).1, v.2.2.2.2.2)] : List D_Done)), (IntKind.wrap .i64 (v.2.2.2.2.2.1 + (1 : Int))), ())
                                                      else none
                                                    else
                                                      rec ((), v.2.1, v.2.2.1, (v.2.2.2.1.1, (List.take ((List.length y8) - (1 : Nat)) (List.drop (1 : Nat) y8)), (v.2.2.2.1.2.2.1 ++ ([(List.getD y8 (0 : Nat) z_Job)] : List D_Job)), (List.take ((List.length y4) - (1 : Nat)) (List.drop (1 : Nat) y4)), ()), v.2.2.2.2.1, (IntKind.wrap .i64 (v.2.2.2.2.2.1 + (1 : Int))), ())
                                                  else none
                                                else none
                                              else none
                                            else none
                                          else
                                            bif (decide ((0 : Int) ≤ (List.getD y4 (0 : Nat) z_Job).1)) then
                                              bif (decide ((((List.length v.2.2.2.2.1) + (1 : Nat)) * 16) ≤ (1099511627776 : Nat))) then
                                                rec ((), v.2.1, v.2.2.1, (v.2.2.2.1.1, y8, v.2.2.2.1.2.2.1, (List.take ((List.length y4) - (1 : Nat)) (List.drop (1 : Nat) y4)), ()), (v.2.2.2.2.1 ++ ([((List.getD y4 (0 : Nat) z_Job).1, v.2.2.2.2.2)] : List D_Done)), (IntKind.wrap .i64 (v.2.2.2.2.2.1 + (1 : Int))), ())
                                              else none
                                            else
                                              rec ((), v.2.1, v.2.2.1, (v.2.2.2.1.1, y8, v.2.2.2.1.2.2.1, (List.take ((List.length y4) - (1 : Nat)) (List.drop (1 : Nat) y4)), ()), v.2.2.2.2.1, (IntKind.wrap .i64 (v.2.2.2.2.2.1 + (1 : Int))), ())
                                        else none
                                      else none
                                    else none
                                  else none
                                else none
                              else none
                            else
                              bif (decide ((0 : Int) ≤ (List.getD y4 (0 : Nat) z_Job).1)) then
                                bif (decide ((((List.length v.2.2.2.2.1) + (1 : Nat)) * 16) ≤ (1099511627776 : Nat))) then
                                  rec ((), v.2.1, v.2.2.1, (v.2.2.2.1.1, v.2.2.2.1.2.1, v.2.2.2.1.2.2.1, (List.take ((List.length y4) - (1 : Nat)) (List.drop (1 : Nat) y4)), ()), (v.2.2.2.2.1 ++ ([((List.getD y4 (0 : Nat) z_Job).1, v.2.2.2.2.2)] : List D_Done)), (IntKind.wrap .i64 (v.2.2.2.2.2.1 + (1 : Int))), ())
                                else none
                              else
                                rec ((), v.2.1, v.2.2.1, (v.2.2.2.1.1, v.2.2.2.1.2.1, v.2.2.2.1.2.2.1, (List.take ((List.length y4) - (1 : Nat)) (List.drop (1 : Nat) y4)), ()), v.2.2.2.2.1, (IntKind.wrap .i64 (v.2.2.2.2.2.1 + (1 : Int))), ())
                        else none
                      else none
                    else none
                  else
                    bif (decide ((0 : Int) < (((List.length v.2.2.2.1.2.2.1) : Nat) : Int))) then
                      bif (decide ((0 : Int) < (((List.length v.2.2.2.1.2.2.1) : Nat) : Int))) then
                        bif (decide ((0 : Nat) < (List.length v.2.2.2.1.2.2.1))) then
                          bif (decide ((0 : Int) < (((List.length v.2.2.2.1.2.2.1) : Nat) : Int))) then
                            bif (decide ((0 : Nat) < (List.length v.2.2.2.1.2.2.1))) then
                              let y9 : (List D_Job) := (List.set v.2.2.2.1.2.2.1 (0 : Nat) ((List.getD v.2.2.2.1.2.2.1 (0 : Nat) z_Job).1, ((List.getD v.2.2.2.1.2.2.1 (0 : Nat) z_Job).2.1.1, (IntKind.wrap .i64 ((List.getD v.2.2.2.1.2.2.1 (0 : Nat) z_Job).2.1.2.1 - (1 : Int))), (List.getD v.2.2.2.1.2.2.1 (0 : Nat) z_Job).2.1.2.2), ()))
                              bif (decide ((0 : Int) < (((List.length y9) : Nat) : Int))) then
                                bif (decide ((0 : Nat) < (List.length y9))) then
                                  bif (decide ((List.getD y9 (0 : Nat) z_Job).2.1.2.1 = (0 : Int))) then
                                    bif (decide ((0 : Int) < (((List.length y9) : Nat) : Int))) then
                                      bif (decide ((0 : Nat) < (List.length y9))) then
                                        bif (decide ((((List.length y4) + (1 : Nat)) * 32) ≤ (1099511627776 : Nat))) then
                                          bif ((decide ((1 : Int) ≤ (((List.length y9) : Nat) : Int))) && (decide ((((List.length y9) : Nat) : Int) ≤ (((List.length y9) : Nat) : Int)))) then
                                            bif (decide ((0 : Int) < (((List.length v.2.2.2.1.2.1) : Nat) : Int))) then
                                              bif (decide ((0 : Int) < (((List.length v.2.2.2.1.2.1) : Nat) : Int))) then
                                                bif (decide ((0 : Nat) < (List.length v.2.2.2.1.2.1))) then
                                                  bif (decide ((0 : Int) < (((List.length v.2.2.2.1.2.1) : Nat) : Int))) then
                                                    bif (decide ((0 : Nat) < (List.length v.2.2.2.1.2.1))) then
                                                      let y10 : (List D_Job) := (List.set v.2.2.2.1.2.1 (0 : Nat) ((List.getD v.2.2.2.1.2.1 (0 : Nat) z_Job).1, ((IntKind.wrap .i64 ((List.getD v.2.2.2.1.2.1 (0 : Nat) z_Job).2.1.1 - (1 : Int))), (List.getD v.2.2.2.1.2.1 (0 : Nat) z_Job).2.1.2), ()))
                                                      bif (decide ((0 : Int) < (((List.length y10) : Nat) : Int))) then
                                                        bif (decide ((0 : Nat) < (List.length y10))) then
                                                          bif (decide ((List.getD y10 (0 : Nat) z_Job).2.1.1 = (0 : Int))) then
                                                            bif (decide ((0 : Int) < (((List.length y10) : Nat) : Int))) then
                                                              bif (decide ((0 : Nat) < (List.length y10))) then
                                                                bif (decide (((((List.length y9) - (1 : Nat)) + (1 : Nat)) * 32) ≤ (1099511627776 : Nat))) then
                                                                  bif ((decide ((1 : Int) ≤ (((List.length y10) : Nat) : Int))) && (decide ((((List.length y10) : Nat) : Int) ≤ (((List.length y10) : Nat) : Int)))) then
                                                                    rec ((), v.2.1, v.2.2.1, (v.2.2.2.1.1, (List.take ((List.length y10) - (1 : Nat)) (List.drop (1 : Nat) y10)), ((List.take ((List.length y9) - (1 : Nat)) (List.drop (1 : Nat) y9)) ++ ([(List.getD y10 (0 : Nat) z_Job)] : List D_Job)), (y4 ++ ([(List.getD y9 (0 : Nat) z_Job)] : List D_Job)), ()), v.2.2.2.2.1, (IntKind.wrap .i64 (v.2.2.2.2.2.1 + (1 : Int))), ())
                                                                  else none
                                                                else none
                                                              else none
                                                            else none
                                                          else
                                                            rec ((), v.2.1, v.2.2.1, (v.2.2.2.1.1, y10, (List.take ((List.length y9) - (1 : Nat)) (List.drop (1 : Nat) y9)), (y4 ++ ([(List.getD y9 (0 : Nat) z_Job)] : List D_Job)), ()), v.2.2.2.2.1, (IntKind.wrap .i64 (v.2.2.2.2.2.1 + (1 : Int))), ())
                                                        else none
                                                      else none
                                                    else none
                                                  else none
                                                else none
                                              else none
                                            else
                                              rec ((), v.2.1, v.2.2.1, (v.2.2.2.1.1, v.2.2.2.1.2.1, (List.take ((List.length y9) - (1 : Nat)) (List.drop (1 : Nat) y9)), (y4 ++ ([(List.getD y9 (0 : Nat) z_Job)] : List D_Job)), ()), v.2.2.2.2.1, (IntKind.wrap .i64 (v.2.2.2.2.2.1 + (1 : Int))), ())
                                          else none
                                        else none
                                      else none
                                    else none
                                  else
                                    bif (decide ((0 : Int) < (((List.length v.2.2.2.1.2.1) : Nat) : Int))) then
                                      bif (decide ((0 : Int) < (((List.length v.2.2.2.1.2.1) : Nat) : Int))) then
                                        bif (decide ((0 : Nat) < (List.length v.2.2.2.1.2.1))) then
                                          bif (decide ((0 : Int) < (((List.length v.2.2.2.1.2.1) : Nat) : Int))) then
                                            bif (decide ((0 : Nat) < (List.length v.2.2.2.1.2.1))) then
                                              let y11 : (List D_Job) := (List.set v.2.2.2.1.2.1 (0 : Nat) ((List.getD v.2.2.2.1.2.1 (0 : Nat) z_Job).1, ((IntKind.wrap .i64 ((List.getD v.2.2.2.1.2.1 (0 : Nat) z_Job).2.1.1 - (1 : Int))), (List.getD v.2.2.2.1.2.1 (0 : Nat) z_Job).2.1.2), ()))
                                              bif (decide ((0 : Int) < (((List.length y11) : Nat) : Int))) then
                                                bif (decide ((0 : Nat) < (List.length y11))) then
                                                  bif (decide ((List.getD y11 (0 : Nat) z_Job).2.1.1 = (0 : Int))) then
                                                    bif (decide ((0 : Int) < (((List.length y11) : Nat) : Int))) then
                                                      bif (decide ((0 : Nat) < (List.length y11))) then
                                                        bif (decide ((((List.length y9) + (1 : Nat)) * 32) ≤ (1099511627776 : Nat))) then
                                                          bif ((decide ((1 : Int) ≤ (((List.length y11) : Nat) : Int))) && (decide ((((List.length y11) : Nat) : Int) ≤ (((List.length y11) : Nat) : Int)))) then
                                                            rec ((), v.2.1, v.2.2.1, (v.2.2.2.1.1, (List.take ((List.length y11) - (1 : Nat)) (List.drop (1 : Nat) y11)), (y9 ++ ([(List.getD y11 (0 : Nat) z_Job)] : List D_Job)), y4, ()), v.2.2.2.2.1, (IntKind.wrap .i64 (v.2.2.2.2.2.1 + (1 : Int))), ())
                                                          else none
                                                        else none
                                                      else none
                                                    else none
                                                  else
                                                    rec ((), v.2.1, v.2.2.1, (v.2.2.2.1.1, y11, y9, y4, ()), v.2.2.2.2.1, (IntKind.wrap .i64 (v.2.2.2.2.2.1 + (1 : Int))), ())
                                                else none
                                              else none
                                            else none
                                          else none
                                        else none
                                      else none
                                    else
                                      rec ((), v.2.1, v.2.2.1, (v.2.2.2.1.1, v.2.2.2.1.2.1, y9, y4, ()), v.2.2.2.2.1, (IntKind.wrap .i64 (v.2.2.2.2.2.1 + (1 : Int))), ())
                                else none
                              else none
                            else none
                          else none
                        else none
                      else none
                    else
                      bif (decide ((0 : Int) < (((List.length v.2.2.2.1.2.1) : Nat) : Int))) then
                        bif (decide ((0 : Int) < (((List.length v.2.2.2.1.2.1) : Nat) : Int))) then
                          bif (decide ((0 : Nat) < (List.length v.2.2.2.1.2.1))) then
                            bif (decide ((0 : Int) < (((List.length v.2.2.2.1.2.1) : Nat) : Int))) then
                              bif (decide ((0 : Nat) < (List.length v.2.2.2.1.2.1))) then
                                let y12 : (List D_Job) := (List.set v.2.2.2.1.2.1 (0 : Nat) ((List.getD v.2.2.2.1.2.1 (0 : Nat) z_Job).1, ((IntKind.wrap .i64 ((List.getD v.2.2.2.1.2.1 (0 : Nat) z_Job).2.1.1 - (1 : Int))), (List.getD v.2.2.2.1.2.1 (0 : Nat) z_Job).2.1.2), ()))
                                bif (decide ((0 : Int) < (((List.length y12) : Nat) : Int))) then
                                  bif (decide ((0 : Nat) < (List.length y12))) then
                                    bif (decide ((List.getD y12 (0 : Nat) z_Job).2.1.1 = (0 : Int))) then
                                      bif (decide ((0 : Int) < (((List.length y12) : Nat) : Int))) then
                                        bif (decide ((0 : Nat) < (List.length y12))) then
                                          bif (decide ((((List.length v.2.2.2.1.2.2.1) + (1 : Nat)) * 32) ≤ (1099511627776 : Nat))) then
                                            bif ((decide ((1 : Int) ≤ (((List.length y12) : Nat) : Int))) && (decide ((((List.length y12) : Nat) : Int) ≤ (((List.length y12) : Nat) : Int)))) then
                                              rec ((), v.2.1, v.2.2.1, (v.2.2.2.1.1, (List.take ((List.length y12) - (1 : Nat)) (List.drop (1 : Nat) y12)), (v.2.2.2.1.2.2.1 ++ ([(List.getD y12 (0 : Nat) z_Job)] : List D_Job)), y4, ()), v.2.2.2.2.1, (IntKind.wrap .i64 (v.2.2.2.2.2.1 + (1 : Int))), ())
                                            else none
                                          else none
                                        else none
                                      else none
                                    else
                                      rec ((), v.2.1, v.2.2.1, (v.2.2.2.1.1, y12, v.2.2.2.1.2.2.1, y4, ()), v.2.2.2.2.1, (IntKind.wrap .i64 (v.2.2.2.2.2.1 + (1 : Int))), ())
                                  else none
                                else none
                              else none
                            else none
                          else none
                        else none
                      else
                        rec ((), v.2.1, v.2.2.1, (v.2.2.2.1.1, v.2.2.2.1.2.1, v.2.2.2.1.2.2.1, y4, ()), v.2.2.2.2.1, (IntKind.wrap .i64 (v.2.2.2.2.2.1 + (1 : Int))), ())
                else none
              else none
            else none
          else none
        else none
      else none
    else
      bif (decide ((0 : Int) < (((List.length v.2.2.2.1.2.2.1) : Nat) : Int))) then
        bif (decide ((0 : Int) < (((List.length v.2.2.2.1.2.2.1) : Nat) : Int))) then
          bif (decide ((0 : Nat) < (List.length v.2.2.2.1.2.2.1))) then
            bif (decide ((0 : Int) < (((List.length v.2.2.2.1.2.2.1) : Nat) : Int))) then
              bif (decide ((0 : Nat) < (List.length v.2.2.2.1.2.2.1))) then
                let y13 : (List D_Job) := (List.set v.2.2.2.1.2.2.1 (0 : Nat) ((List.getD v.2.2.2.1.2.2.1 (0 : Nat) z_Job).1, ((List.getD v.2.2.2.1.2.2.1 (0 : Nat) z_Job).2.1.1, (IntKind.wrap .i64 ((List.getD v.2.2.2.1.2.2.1 (0 : Nat) z_Job).2.1.2.1 - (1 : Int))), (List.getD v.2.2.2.1.2.2.1 (0 : Nat) z_Job).2.1.2.2), ()))
                bif (decide ((0 : Int) < (((List.length y13) : Nat) : Int))) then
                  bif (decide ((0 : Nat) < (List.length y13))) then
                    bif (decide ((List.getD y13 (0 : Nat) z_Job).2.1.2.1 = (0 : Int))) then
                      bif (decide ((0 : Int) < (((List.length y13) : Nat) : Int))) then
                        bif (decide ((0 : Nat) < (List.length y13))) then
                          bif (decide ((((List.length v.2.2.2.1.2.2.2.1) + (1 : Nat)) * 32) ≤ (1099511627776 : Nat))) then
                            bif ((decide ((1 : Int) ≤ (((List.length y13) : Nat) : Int))) && (decide ((((List.length y13) : Nat) : Int) ≤ (((List.length y13) : Nat) : Int)))) then
                              bif (decide ((0 : Int) < (((List.length v.2.2.2.1.2.1) : Nat) : Int))) then
                                bif (decide ((0 : Int) < (((List.length v.2.2.2.1.2.1) : Nat) : Int))) then
                                  bif (decide ((0 : Nat) < (List.length v.2.2.2.1.2.1))) then
                                    bif (decide ((0 : Int) < (((List.length v.2.2.2.1.2.1) : Nat) : Int))) then
                                      bif (decide ((0 : Nat) < (List.length v.2.2.2.1.2.1))) then
                                        let y14 : (List D_Job) := (List.set v.2.2.2.1.2.1 (0 : Nat) ((List.getD v.2.2.2.1.2.1 (0 : Nat) z_Job).1, ((IntKind.wrap .i64 ((List.getD v.2.2.2.1.2.1 (0 : Nat) z_Job).2.1.1 - (1 : Int))), (List.getD v.2.2.2.1.2.1 (0 : Nat) z_Job).2.1.2), ()))
                                        bif (decide ((0 : Int) < (((List.length y14) : Nat) : Int))) then
                                          bif (decide ((0 : Nat) < (List.length y14))) then
                                            bif (decide ((List.getD y14 (0 : Nat) z_Job).2.1.1 = (0 : Int))) then
                                              bif (decide ((0 : Int) < (((List.length y14) : Nat) : Int))) then
                                                bif (decide ((0 : Nat) < (List.length y14))) then
                                                  bif (decide (((((List.length y13) - (1 : Nat)) + (1 : Nat)) * 32) ≤ (1099511627776 : Nat))) then
                                                    bif ((decide ((1 : Int) ≤ (((List.length y14) : Nat) : Int))) && (decide ((((List.length y14) : Nat) : Int) ≤ (((List.length y14) : Nat) : Int)))) then
                                                      rec ((), v.2.1, v.2.2.1, (v.2.2.2.1.1, (List.take ((List.length y14) - (1 : Nat)) (List.drop (1 : Nat) y14)), ((List.take ((List.length y13) - (1 : Nat)) (List.drop (1 : Nat) y13)) ++ ([(List.getD y14 (0 : Nat) z_Job)] : List D_Job)), (v.2.2.2.1.2.2.2.1 ++ ([(List.getD y13 (0 : Nat) z_Job)] : List D_Job)), ()), v.2.2.2.2.1, (IntKind.wrap .i64 (v.2.2.2.2.2.1 + (1 : Int))), ())
                                                    else none
                                                  else none
                                                else none
                                              else none
                                            else
                                              rec ((), v.2.1, v.2.2.1, (v.2.2.2.1.1, y14, (List.take ((List.length y13) - (1 : Nat)) (List.drop (1 : Nat) y13)), (v.2.2.2.1.2.2.2.1 ++ ([(List.getD y13 (0 : Nat) z_Job)] : List D_Job)), ()), v.2.2.2.2.1, (IntKind.wrap .i64 (v.2.2.2.2.2.1 + (1 : Int))), ())
                                          else none
                                        else none
                                      else none
                                    else none
                                  else none
                                else none
                              else
                                rec ((), v.2.1, v.2.2.1, (v.2.2.2.1.1, v.2.2.2.1.2.1, (List.take ((List.length y13) - (1 : Nat)) (List.drop (1 : Nat) y13)), (v.2.2.2.1.2.2.2.1 ++ ([(List.getD y13 (0 : Nat) z_Job)] : List D_Job)), ()), v.2.2.2.2.1, (IntKind.wrap .i64 (v.2.2.2.2.2.1 + (1 : Int))), ())
                            else none
                          else none
                        else none
                      else none
                    else
                      bif (decide ((0 : Int) < (((List.length v.2.2.2.1.2.1) : Nat) : Int))) then
                        bif (decide ((0 : Int) < (((List.length v.2.2.2.1.2.1) : Nat) : Int))) then
                          bif (decide ((0 : Nat) < (List.length v.2.2.2.1.2.1))) then
                            bif (decide ((0 : Int) < (((List.length v.2.2.2.1.2.1) : Nat) : Int))) then
                              bif (decide ((0 : Nat) < (List.length v.2.2.2.1.2.1))) then
                                let y15 : (List D_Job) := (List.set v.2.2.2.1.2.1 (0 : Nat) ((List.getD v.2.2.2.1.2.1 (0 : Nat) z_Job).1, ((IntKind.wrap .i64 ((List.getD v.2.2.2.1.2.1 (0 : Nat) z_Job).2.1.1 - (1 : Int))), (List.getD v.2.2.2.1.2.1 (0 : Nat) z_Job).2.1.2), ()))
                                bif (decide ((0 : Int) < (((List.length y15) : Nat) : Int))) then
                                  bif (decide ((0 : Nat) < (List.length y15))) then
                                    bif (decide ((List.getD y15 (0 : Nat) z_Job).2.1.1 = (0 : Int))) then
                                      bif (decide ((0 : Int) < (((List.length y15) : Nat) : Int))) then
                                        bif (decide ((0 : Nat) < (List.length y15))) then
                                          bif (decide ((((List.length y13) + (1 : Nat)) * 32) ≤ (1099511627776 : Nat))) then
                                            bif ((decide ((1 : Int) ≤ (((List.length y15) : Nat) : Int))) && (decide ((((List.length y15) : Nat) : Int) ≤ (((List.length y15) : Nat) : Int)))) then
                                              rec ((), v.2.1, v.2.2.1, (v.2.2.2.1.1, (List.take ((List.length y15) - (1 : Nat)) (List.drop (1 : Nat) y15)), (y13 ++ ([(List.getD y15 (0 : Nat) z_Job)] : List D_Job)), v.2.2.2.1.2.2.2), v.2.2.2.2.1, (IntKind.wrap .i64 (v.2.2.2.2.2.1 + (1 : Int))), ())
                                            else none
                                          else none
                                        else none
                                      else none
                                    else
                                      rec ((), v.2.1, v.2.2.1, (v.2.2.2.1.1, y15, y13, v.2.2.2.1.2.2.2), v.2.2.2.2.1, (IntKind.wrap .i64 (v.2.2.2.2.2.1 + (1 : Int))), ())
                                  else none
                                else none
                              else none
                            else none
                          else none
                        else none
                      else
                        rec ((), v.2.1, v.2.2.1, (v.2.2.2.1.1, v.2.2.2.1.2.1, y13, v.2.2.2.1.2.2.2), v.2.2.2.2.1, (IntKind.wrap .i64 (v.2.2.2.2.2.1 + (1 : Int))), ())
                  else none
                else none
              else none
            else none
          else none
        else none
      else
        bif (decide ((0 : Int) < (((List.length v.2.2.2.1.2.1) : Nat) : Int))) then
          bif (decide ((0 : Int) < (((List.length v.2.2.2.1.2.1) : Nat) : Int))) then
            bif (decide ((0 : Nat) < (List.length v.2.2.2.1.2.1))) then
              bif (decide ((0 : Int) < (((List.length v.2.2.2.1.2.1) : Nat) : Int))) then
                bif (decide ((0 : Nat) < (List.length v.2.2.2.1.2.1))) then
                  let y16 : (List D_Job) := (List.set v.2.2.2.1.2.1 (0 : Nat) ((List.getD v.2.2.2.1.2.1 (0 : Nat) z_Job).1, ((IntKind.wrap .i64 ((List.getD v.2.2.2.1.2.1 (0 : Nat) z_Job).2.1.1 - (1 : Int))), (List.getD v.2.2.2.1.2.1 (0 : Nat) z_Job).2.1.2), ()))
                  bif (decide ((0 : Int) < (((List.length y16) : Nat) : Int))) then
                    bif (decide ((0 : Nat) < (List.length y16))) then
                      bif (decide ((List.getD y16 (0 : Nat) z_Job).2.1.1 = (0 : Int))) then
                        bif (decide ((0 : Int) < (((List.length y16) : Nat) : Int))) then
                          bif (decide ((0 : Nat) < (List.length y16))) then
                            bif (decide ((((List.length v.2.2.2.1.2.2.1) + (1 : Nat)) * 32) ≤ (1099511627776 : Nat))) then
                              bif ((decide ((1 : Int) ≤ (((List.length y16) : Nat) : Int))) && (decide ((((List.length y16) : Nat) : Int) ≤ (((List.length y16) : Nat) : Int)))) then
                                rec ((), v.2.1, v.2.2.1, (v.2.2.2.1.1, (List.take ((List.length y16) - (1 : Nat)) (List.drop (1 : Nat) y16)), (v.2.2.2.1.2.2.1 ++ ([(List.getD y16 (0 : Nat) z_Job)] : List D_Job)), v.2.2.2.1.2.2.2), v.2.2.2.2.1, (IntKind.wrap .i64 (v.2.2.2.2.2.1 + (1 : Int))), ())
                              else none
                            else none
                          else none
                        else none
                      else
                        rec ((), v.2.1, v.2.2.1, (v.2.2.2.1.1, y16, v.2.2.2.1.2.2), v.2.2.2.2.1, (IntKind.wrap .i64 (v.2.2.2.2.2.1 + (1 : Int))), ())
                    else none
                  else none
                else none
              else none
            else none
          else none
        else
          rec ((), v.2.1, v.2.2.1, v.2.2.2.1, v.2.2.2.2.1, (IntKind.wrap .i64 (v.2.2.2.2.2.1 + (1 : Int))), ())
  else
    some ((), v.2.2.1, v.2.2.2.1, v.2.2.2.2.1, ())
def impl_LineRun (k : Nat) (x0 : D_Line) (x1 : Int) : Option ((D_Line × ((List D_Done) × Unit)) × Unit) :=
  (impl_LineOk k x0).bind fun t1 =>
    bif (!(!t1.1.1)) then
      (impl_within x1 (0 : Int) (20000 : Int)).bind fun t2 =>
        bif (!t2.1.1) then
          some ((((0 : Int), ([] : List D_Job), ([] : List D_Job), ([] : List D_Job), ()), ([] : List D_Done), ()), ())
        else
          (impl_copyLine x0).bind fun t3 =>
            (iter (impl_LineRun_s5) k ((), x1, ((0 : Int), ([] : List D_Job), ([] : List D_Job), ([] : List D_Job), ()), t3.1.1, ([] : List D_Done), (1 : Int), ())).bind fun o4 =>
              (impl_copyLine o4.2.2.1).bind fun t5 =>
                some ((t5.1.1, o4.2.2.2), ())
    else
      some ((((0 : Int), ([] : List D_Job), ([] : List D_Job), ([] : List D_Job), ()), ([] : List D_Done), ()), ())
def laws_eqVec (x0 : D_Vec) (x1 : D_Vec) : Option ((Bool × Unit) × Unit) :=
  bif (!(decide (x0.1 = x1.1))) then
    some ((false, ()), ())
  else
    bif (!(decide (x0.2.1 = x1.2.1))) then
      some ((false, ()), ())
    else
      bif (!(decide (x0.2.2.1 = x1.2.2.1))) then
        some ((false, ()), ())
      else
        some ((true, ()), ())
def laws_eqJob (x0 : D_Job) (x1 : D_Job) : Option ((Bool × Unit) × Unit) :=
  bif (!(decide (x0.1 = x1.1))) then
    some ((false, ()), ())
  else
    (laws_eqVec x0.2.1 x1.2.1).bind fun t1 =>
      bif (!t1.1.1) then
        some ((false, ()), ())
      else
        some ((true, ()), ())
def laws_eqJobS_s4 (rec : (Unit × ((List D_Job) × ((List D_Job) × (Int × Unit)))) → Option ((Unit × (Bool × Unit)) ⊕ (Unit × Unit))) (v : (Unit × ((List D_Job) × ((List D_Job) × (Int × Unit))))) : Option ((Unit × (Bool × Unit)) ⊕ (Unit × Unit)) :=
  bif (decide (v.2.2.2.1 < (((List.length v.2.1) : Nat) : Int))) then
    bif ((decide ((0 : Int) ≤ v.2.2.2.1)) && (decide (v.2.2.2.1 < (((List.length v.2.1) : Nat) : Int)))) then
      bif (decide ((Int.toNat v.2.2.2.1) < (List.length v.2.1))) then
        bif ((decide ((0 : Int) ≤ v.2.2.2.1)) && (decide (v.2.2.2.1 < (((List.length v.2.2.1) : Nat) : Int)))) then
          bif (decide ((Int.toNat v.2.2.2.1) < (List.length v.2.2.1))) then
            (laws_eqJob (List.getD v.2.1 (Int.toNat v.2.2.2.1) z_Job) (List.getD v.2.2.1 (Int.toNat v.2.2.2.1) z_Job)).bind fun t1 =>
              bif (!t1.1.1) then
                some (Sum.inl ((), false, ()))
              else
                rec ((), v.2.1, v.2.2.1, (IntKind.wrap .i64 (v.2.2.2.1 + (1 : Int))), ())
          else none
        else none
      else none
    else none
  else
    some (Sum.inr ((), ()))
def laws_eqJobS (k : Nat) (x0 : (List D_Job)) (x1 : (List D_Job)) : Option ((Bool × Unit) × Unit) :=
  bif (!(decide ((((List.length x0) : Nat) : Int) = (((List.length x1) : Nat) : Int)))) then
    some ((false, ()), ())
  else
    (iter (laws_eqJobS_s4) k ((), x0, x1, (0 : Int), ())).bind fun o1 =>
      Sum.elim (fun a2 =>
        some (a2.2, ()))
      (fun b3 =>
        some ((true, ()), ())) o1
def laws_eqLine (k : Nat) (x0 : D_Line) (x1 : D_Line) : Option ((Bool × Unit) × Unit) :=
  bif (!(decide (x0.1 = x1.1))) then
    some ((false, ()), ())
  else
    (laws_eqJobS k x0.2.1 x1.2.1).bind fun t1 =>
      bif (!t1.1.1) then
        some ((false, ()), ())
      else
        (laws_eqJobS k x0.2.2.1 x1.2.2.1).bind fun t2 =>
          bif (!t2.1.1) then
            some ((false, ()), ())
          else
            (laws_eqJobS k x0.2.2.2.1 x1.2.2.2.1).bind fun t3 =>
              bif (!t3.1.1) then
                some ((false, ()), ())
              else
                some ((true, ()), ())
def laws_eqDone (x0 : D_Done) (x1 : D_Done) : Option ((Bool × Unit) × Unit) :=
  bif (!(decide (x0.1 = x1.1))) then
    some ((false, ()), ())
  else
    bif (!(decide (x0.2.1 = x1.2.1))) then
      some ((false, ()), ())
    else
      some ((true, ()), ())
def laws_eqDoneS_s4 (rec : (Unit × ((List D_Done) × ((List D_Done) × (Int × Unit)))) → Option ((Unit × (Bool × Unit)) ⊕ (Unit × Unit))) (v : (Unit × ((List D_Done) × ((List D_Done) × (Int × Unit))))) : Option ((Unit × (Bool × Unit)) ⊕ (Unit × Unit)) :=
  bif (decide (v.2.2.2.1 < (((List.length v.2.1) : Nat) : Int))) then
    bif ((decide ((0 : Int) ≤ v.2.2.2.1)) && (decide (v.2.2.2.1 < (((List.length v.2.1) : Nat) : Int)))) then
      bif (decide ((Int.toNat v.2.2.2.1) < (List.length v.2.1))) then
        bif ((decide ((0 : Int) ≤ v.2.2.2.1)) && (decide (v.2.2.2.1 < (((List.length v.2.2.1) : Nat) : Int)))) then
          bif (decide ((Int.toNat v.2.2.2.1) < (List.length v.2.2.1))) then
            (laws_eqDone (List.getD v.2.1 (Int.toNat v.2.2.2.1) z_Done) (List.getD v.2.2.1 (Int.toNat v.2.2.2.1) z_Done)).bind fun t1 =>
              bif (!t1.1.1) then
                some (Sum.inl ((), false, ()))
              else
                rec ((), v.2.1, v.2.2.1, (IntKind.wrap .i64 (v.2.2.2.1 + (1 : Int))), ())
          else none
        else none
      else none
    else none
  else
    some (Sum.inr ((), ()))
def laws_eqDoneS (k : Nat) (x0 : (List D_Done)) (x1 : (List D_Done)) : Option ((Bool × Unit) × Unit) :=
  bif (!(decide ((((List.length x0) : Nat) : Int) = (((List.length x1) : Nat) : Int)))) then
    some ((false, ()), ())
  else
    (iter (laws_eqDoneS_s4) k ((), x0, x1, (0 : Int), ())).bind fun o1 =>
      Sum.elim (fun a2 =>
        some (a2.2, ()))
      (fun b3 =>
        some ((true, ()), ())) o1
def laws_markJobS_s2 (rec : (((List D_Job) × Unit) × (Unit × D_Done)) → Option ((((List D_Job) × Unit) × (Int × Unit)))) (v : (((List D_Job) × Unit) × (Unit × D_Done))) : Option ((((List D_Job) × Unit) × (Int × Unit))) :=
  bif (decide (v.2.2.2.1 < (((List.length v.1.1) : Nat) : Int))) then
    bif ((decide ((0 : Int) ≤ v.2.2.2.1)) && (decide (v.2.2.2.1 < (((List.length v.1.1) : Nat) : Int)))) then
      bif (decide ((Int.toNat v.2.2.2.1) < (List.length v.1.1))) then
        let y1 : (List D_Job) := (List.set v.1.1 (Int.toNat v.2.2.2.1) (v.2.2.1, (List.getD v.1.1 (Int.toNat v.2.2.2.1) z_Job).2))
        bif ((decide ((0 : Int) ≤ v.2.2.2.1)) && (decide (v.2.2.2.1 < (((List.length y1) : Nat) : Int)))) then
          bif (decide ((Int.toNat v.2.2.2.1) < (List.length y1))) then
            let y2 : (List D_Job) := (List.set y1 (Int.toNat v.2.2.2.1) ((List.getD y1 (Int.toNat v.2.2.2.1) z_Job).1, ((IntKind.wrap .i64 (v.2.2.1 + (1 : Int))), (List.getD y1 (Int.toNat v.2.2.2.1) z_Job).2.1.2), ()))
            bif ((decide ((0 : Int) ≤ v.2.2.2.1)) && (decide (v.2.2.2.1 < (((List.length y2) : Nat) : Int)))) then
              bif (decide ((Int.toNat v.2.2.2.1) < (List.length y2))) then
                let y3 : (List D_Job) := (List.set y2 (Int.toNat v.2.2.2.1) ((List.getD y2 (Int.toNat v.2.2.2.1) z_Job).1, ((List.getD y2 (Int.toNat v.2.2.2.1) z_Job).2.1.1, (IntKind.wrap .i64 ((IntKind.wrap .i64 (v.2.2.1 + (1 : Int))) + (1 : Int))), (List.getD y2 (Int.toNat v.2.2.2.1) z_Job).2.1.2.2), ()))
                bif ((decide ((0 : Int) ≤ v.2.2.2.1)) && (decide (v.2.2.2.1 < (((List.length y3) : Nat) : Int)))) then
                  bif (decide ((Int.toNat v.2.2.2.1) < (List.length y3))) then
                    let y4 : (List D_Job) := (List.set y3 (Int.toNat v.2.2.2.1) ((List.getD y3 (Int.toNat v.2.2.2.1) z_Job).1, ((List.getD y3 (Int.toNat v.2.2.2.1) z_Job).2.1.1, (List.getD y3 (Int.toNat v.2.2.2.1) z_Job).2.1.2.1, (IntKind.wrap .i64 ((IntKind.wrap .i64 ((IntKind.wrap .i64 (v.2.2.1 + (1 : Int))) + (1 : Int))) + (1 : Int))), ()), ()))
                    rec ((y4, ()), (), (IntKind.wrap .i64 ((IntKind.wrap .i64 ((IntKind.wrap .i64 ((IntKind.wrap .i64 (v.2.2.1 + (1 : Int))) + (1 : Int))) + (1 : Int))) + (1 : Int))), (IntKind.wrap .i64 (v.2.2.2.1 + (1 : Int))), ())
                  else none
                else none
              else none
            else none
          else none
        else none
      else none
    else none
  else
    some (v.1, v.2.2.1, ())
def laws_markJobS (k : Nat) (x0 : (List D_Job)) (x1 : Int) : Option ((Int × Unit) × ((List D_Job) × Unit)) :=
  (iter (laws_markJobS_s2) k ((x0, ()), (), x1, (0 : Int), ())).bind fun o1 =>
    some (o1.2, o1.1)
def laws_markDoneS_s2 (rec : (((List D_Done) × Unit) × (Unit × D_Done)) → Option ((((List D_Done) × Unit) × (Int × Unit)))) (v : (((List D_Done) × Unit) × (Unit × D_Done))) : Option ((((List D_Done) × Unit) × (Int × Unit))) :=
  bif (decide (v.2.2.2.1 < (((List.length v.1.1) : Nat) : Int))) then
    bif ((decide ((0 : Int) ≤ v.2.2.2.1)) && (decide (v.2.2.2.1 < (((List.length v.1.1) : Nat) : Int)))) then
      bif (decide ((Int.toNat v.2.2.2.1) < (List.length v.1.1))) then
        let y1 : (List D_Done) := (List.set v.1.1 (Int.toNat v.2.2.2.1) (v.2.2.1, (List.getD v.1.1 (Int.toNat v.2.2.2.1) z_Done).2))
        bif ((decide ((0 : Int) ≤ v.2.2.2.1)) && (decide (v.2.2.2.1 < (((List.length y1) : Nat) : Int)))) then
          bif (decide ((Int.toNat v.2.2.2.1) < (List.length y1))) then
            let y2 : (List D_Done) := (List.set y1 (Int.toNat v.2.2.2.1) ((List.getD y1 (Int.toNat v.2.2.2.1) z_Done).1, (IntKind.wrap .i64 (v.2.2.1 + (1 : Int))), ()))
            rec ((y2, ()), (), (IntKind.wrap .i64 ((IntKind.wrap .i64 (v.2.2.1 + (1 : Int))) + (1 : Int))), (IntKind.wrap .i64 (v.2.2.2.1 + (1 : Int))), ())
          else none
        else none
      else none
    else none
  else
    some (v.1, v.2.2.1, ())
def laws_markDoneS (k : Nat) (x0 : (List D_Done)) (x1 : Int) : Option ((Int × Unit) × ((List D_Done) × Unit)) :=
  (iter (laws_markDoneS_s2) k ((x0, ()), (), x1, (0 : Int), ())).bind fun o1 =>
    some (o1.2, o1.1)
def laws_heldJobS_s2 (rec : (Unit × ((List D_Job) × D_Done)) → Option ((Unit × (Int × Unit)) ⊕ (Unit × (Int × Unit)))) (v : (Unit × ((List D_Job) × D_Done))) : Option ((Unit × (Int × Unit)) ⊕ (Unit × (Int × Unit))) :=
  bif (decide (v.2.2.2.1 < (((List.length v.2.1) : Nat) : Int))) then
    bif ((decide ((0 : Int) ≤ v.2.2.2.1)) && (decide (v.2.2.2.1 < (((List.length v.2.1) : Nat) : Int)))) then
      bif (decide ((Int.toNat v.2.2.2.1) < (List.length v.2.1))) then
        bif (!(decide ((List.getD v.2.1 (Int.toNat v.2.2.2.1) z_Job).1 = v.2.2.1))) then
          some (Sum.inl ((), (-1 : Int), ()))
        else
          bif ((decide ((0 : Int) ≤ v.2.2.2.1)) && (decide (v.2.2.2.1 < (((List.length v.2.1) : Nat) : Int)))) then
            bif (decide ((Int.toNat v.2.2.2.1) < (List.length v.2.1))) then
              bif (!(decide ((List.getD v.2.1 (Int.toNat v.2.2.2.1) z_Job).2.1.1 = (IntKind.wrap .i64 (v.2.2.1 + (1 : Int)))))) then
                some (Sum.inl ((), (-1 : Int), ()))
              else
                bif ((decide ((0 : Int) ≤ v.2.2.2.1)) && (decide (v.2.2.2.1 < (((List.length v.2.1) : Nat) : Int)))) then
                  bif (decide ((Int.toNat v.2.2.2.1) < (List.length v.2.1))) then
                    bif (!(decide ((List.getD v.2.1 (Int.toNat v.2.2.2.1) z_Job).2.1.2.1 = (IntKind.wrap .i64 ((IntKind.wrap .i64 (v.2.2.1 + (1 : Int))) + (1 : Int)))))) then
                      some (Sum.inl ((), (-1 : Int), ()))
                    else
                      bif ((decide ((0 : Int) ≤ v.2.2.2.1)) && (decide (v.2.2.2.1 < (((List.length v.2.1) : Nat) : Int)))) then
                        bif (decide ((Int.toNat v.2.2.2.1) < (List.length v.2.1))) then
                          bif (!(decide ((List.getD v.2.1 (Int.toNat v.2.2.2.1) z_Job).2.1.2.2.1 = (IntKind.wrap .i64 ((IntKind.wrap .i64 ((IntKind.wrap .i64 (v.2.2.1 + (1 : Int))) + (1 : Int))) + (1 : Int)))))) then
                            some (Sum.inl ((), (-1 : Int), ()))
                          else
                            rec ((), v.2.1, (IntKind.wrap .i64 ((IntKind.wrap .i64 ((IntKind.wrap .i64 ((IntKind.wrap .i64 (v.2.2.1 + (1 : Int))) + (1 : Int))) + (1 : Int))) + (1 : Int))), (IntKind.wrap .i64 (v.2.2.2.1 + (1 : Int))), ())
                        else none
                      else none
                  else none
                else none
            else none
          else none
      else none
    else none
  else
    some (Sum.inr ((), v.2.2.1, ()))
def laws_heldJobS (k : Nat) (x0 : (List D_Job)) (x1 : Int) : Option ((Int × Unit) × Unit) :=
  (iter (laws_heldJobS_s2) k ((), x0, x1, (0 : Int), ())).bind fun o1 =>
    Sum.elim (fun a2 =>
      some (a2.2, ()))
    (fun b3 =>
      some (b3.2, ())) o1
def laws_heldLine (k : Nat) (x0 : D_Line) (x1 : Int) : Option ((Int × Unit) × Unit) :=
  (laws_heldJobS k x0.2.1 x1).bind fun t1 =>
    bif (decide (t1.1.1 < (0 : Int))) then
      some (((-1 : Int), ()), ())
    else
      (laws_heldJobS k x0.2.2.1 t1.1.1).bind fun t2 =>
        bif (decide (t2.1.1 < (0 : Int))) then
          some (((-1 : Int), ()), ())
        else
          (laws_heldJobS k x0.2.2.2.1 t2.1.1).bind fun t3 =>
            bif (decide (t3.1.1 < (0 : Int))) then
              some (((-1 : Int), ()), ())
            else
              some (t3.1, ())
def laws_heldDoneS_s2 (rec : (Unit × ((List D_Done) × D_Done)) → Option ((Unit × (Int × Unit)) ⊕ (Unit × (Int × Unit)))) (v : (Unit × ((List D_Done) × D_Done))) : Option ((Unit × (Int × Unit)) ⊕ (Unit × (Int × Unit))) :=
  bif (decide (v.2.2.2.1 < (((List.length v.2.1) : Nat) : Int))) then
    bif ((decide ((0 : Int) ≤ v.2.2.2.1)) && (decide (v.2.2.2.1 < (((List.length v.2.1) : Nat) : Int)))) then
      bif (decide ((Int.toNat v.2.2.2.1) < (List.length v.2.1))) then
        bif (!(decide ((List.getD v.2.1 (Int.toNat v.2.2.2.1) z_Done).1 = v.2.2.1))) then
          some (Sum.inl ((), (-1 : Int), ()))
        else
          bif ((decide ((0 : Int) ≤ v.2.2.2.1)) && (decide (v.2.2.2.1 < (((List.length v.2.1) : Nat) : Int)))) then
            bif (decide ((Int.toNat v.2.2.2.1) < (List.length v.2.1))) then
              bif (!(decide ((List.getD v.2.1 (Int.toNat v.2.2.2.1) z_Done).2.1 = (IntKind.wrap .i64 (v.2.2.1 + (1 : Int)))))) then
                some (Sum.inl ((), (-1 : Int), ()))
              else
                rec ((), v.2.1, (IntKind.wrap .i64 ((IntKind.wrap .i64 (v.2.2.1 + (1 : Int))) + (1 : Int))), (IntKind.wrap .i64 (v.2.2.2.1 + (1 : Int))), ())
            else none
          else none
      else none
    else none
  else
    some (Sum.inr ((), v.2.2.1, ()))
def laws_heldDoneS (k : Nat) (x0 : (List D_Done)) (x1 : Int) : Option ((Int × Unit) × Unit) :=
  (iter (laws_heldDoneS_s2) k ((), x0, x1, (0 : Int), ())).bind fun o1 =>
    Sum.elim (fun a2 =>
      some (a2.2, ()))
    (fun b3 =>
      some (b3.2, ())) o1
def laws_FnExactLineRun (k : Nat) (x0 : D_Line) (x1 : Int) : Option ((Bool × Unit) × Unit) :=
  (laws_szLine x0 (1048576 : Int)).bind fun t1 =>
    bif (decide (t1.1.1 < (0 : Int))) then
      some ((true, ()), ())
    else
      (laws_toLine k x0).bind fun t2 =>
        (spec_LineRun k t2.1.1 x1).bind fun t3 =>
          (laws_toLine k x0).bind fun t4 =>
            (impl_LineRun k t4.1.1 x1).bind fun t5 =>
              (laws_eqLine k t5.1.1 t3.1.1).bind fun t6 =>
                bif (!(!t6.1.1)) then
                  (laws_eqDoneS k t5.1.2.1 t3.1.2.1).bind fun t7 =>
                    bif (!t7.1.1) then
                      some ((false, ()), ())
                    else
                      (laws_toLine k x0).bind fun t8 =>
                        (laws_eqLine k t4.1.1 t8.1.1).bind fun t9 =>
                          bif (!t9.1.1) then
                            some ((false, ()), ())
                          else
                            (laws_markJobS k t4.1.1.2.1 (1 : Int)).bind fun t10 =>
                              (laws_markJobS k t4.1.1.2.2.1 t10.1.1).bind fun t11 =>
                                (laws_markJobS k t4.1.1.2.2.2.1 t11.1.1).bind fun t12 =>
                                  bif (!(decide (t12.1.1 < (0 : Int)))) then
                                    (laws_eqLine k t5.1.1 t3.1.1).bind fun t13 =>
                                      bif (!(!t13.1.1)) then
                                        (laws_eqDoneS k t5.1.2.1 t3.1.2.1).bind fun t14 =>
                                          bif (!t14.1.1) then
                                            some ((false, ()), ())
                                          else
                                            (laws_markJobS k t5.1.1.2.1 (1 : Int)).bind fun t15 =>
                                              (laws_markJobS k t5.1.1.2.2.1 t15.1.1).bind fun t16 =>
                                                (laws_markJobS k t5.1.1.2.2.2.1 t16.1.1).bind fun t17 =>
                                                  (laws_markDoneS k t5.1.2.1 t17.1.1).bind fun t18 =>
                                                    (laws_heldLine k (t5.1.1.1, t15.2.1, t16.2.1, t17.2) (1 : Int)).bind fun t19 =>
                                                      bif (decide (t19.1.1 < (0 : Int))) then
                                                        some ((false, ()), ())
                                                      else
                                                        (laws_heldDoneS k t18.2.1 t19.1.1).bind fun t20 =>
                                                          bif (decide (t20.1.1 < (0 : Int))) then
                                                            some ((false, ()), ())
                                                          else
                                                            bif (!(decide (t20.1.1 = t18.1.1))) then
                                                              some ((false, ()), ())
                                                            else
                                                              (laws_toLine k x0).bind fun t21 =>
                                                                (impl_LineRun k t21.1.1 x1).bind fun t22 =>
                                                                  (laws_eqLine k t22.1.1 t3.1.1).bind fun t23 =>
                                                                    bif (!(!t23.1.1)) then
                                                                      (laws_eqDoneS k t22.1.2.1 t3.1.2.1).bind fun t24 =>
                                                                        bif (!t24.1.1) then
                                                                          some ((false, ()), ())
                                                                        else
                                                                          (laws_heldLine k (t5.1.1.1, t15.2.1, t16.2.1, t17.2) (1 : Int)).bind fun t25 =>
                                                                            bif (decide (t25.1.1 < (0 : Int))) then
                                                                              some ((false, ()), ())
                                                                            else
                                                                              (laws_heldDoneS k t18.2.1 t25.1.1).bind fun t26 =>
                                                                                bif (decide (t26.1.1 < (0 : Int))) then
                                                                                  some ((false, ()), ())
                                                                                else
                                                                                  bif (!(decide (t26.1.1 = t18.1.1))) then
                                                                                    some ((false, ()), ())
                                                                                  else
                                                                                    some ((true, ()), ())
                                                                    else
                                                                      some ((false, ()), ())
                                      else
                                        some ((false, ()), ())
                                  else
                                    some ((false, ()), ())
                else
                  some ((false, ()), ())
end Go.Tw
