/- The mirrors of the functions as plain definitions, by which proofs go on. -/
import Derived.Test.YtmjacadeccoclaaT24
set_option linter.all false
namespace Go.Tw
open Go Go.RowKit
abbrev T_Done : Ty := (.pr (.int .i64) (.pr (.int .i64) .un))
abbrev D_Done := (Int × (Int × Unit))
def z_Done : D_Done := ((0 : Int), ((0 : Int), ()))
abbrev T_Vec : Ty := (.pr (.int .i64) T_Done)
abbrev D_Vec := (Int × D_Done)
def z_Vec : D_Vec := ((0 : Int), z_Done)
abbrev T_Job : Ty := (.pr (.int .i64) (.pr T_Vec .un))
abbrev D_Job := (Int × (D_Vec × Unit))
def z_Job : D_Job := ((0 : Int), (z_Vec, ()))
abbrev T_Line : Ty := (.pr (.int .i64) (.pr (.sl T_Job) (.pr (.sl T_Job) (.pr (.sl T_Job) .un))))
abbrev D_Line := (Int × ((List D_Job) × ((List D_Job) × ((List D_Job) × Unit))))
def z_Line : D_Line := ((0 : Int), ([], ([], ([], ()))))
abbrev T_l01Cur : Ty := (.pr (.sl (.int .u8)) T_Done)
abbrev D_l01Cur := ((List Int) × D_Done)
def z_l01Cur : D_l01Cur := ([], z_Done)
def laws_szJobS (x0 : (List D_Job)) (x1 : Int) : Option ((Int × Unit) × Unit) :=
  bif (decide ((IntKind.wrap .i64 (x1 - (((List.length x0) : Nat) : Int))) < (0 : Int))) then
    some (((-1 : Int), ()), ())
  else
    some (((IntKind.wrap .i64 (x1 - (((List.length x0) : Nat) : Int))), ()), ())
def laws_szLine (x0 : D_Line) (x1 : Int) : Option ((Int × Unit) × Unit) :=
  (laws_szJobS x0.2.1 x1).bind fun t1 =>
    bif (decide (t1.1.1 < (0 : Int))) then
      some (((-1 : Int), ()), ())
    else
      (laws_szJobS x0.2.2.1 t1.1.1).bind fun t2 =>
        bif (decide (t2.1.1 < (0 : Int))) then
          some (((-1 : Int), ()), ())
        else
          (laws_szJobS x0.2.2.2.1 t2.1.1).bind fun t3 =>
            bif (decide (t3.1.1 < (0 : Int))) then
              some (((-1 : Int), ()), ())
            else
              some (t3.1, ())
def laws_toVec (x0 : D_Vec) : Option ((D_Vec × Unit) × Unit) :=
  some ((x0, ()), ())
def laws_toJob (x0 : D_Job) : Option ((D_Job × Unit) × Unit) :=
  (laws_toVec x0.2.1).bind fun t1 =>
    some (((x0.1, t1.1), ()), ())
def laws_toJobS_s3 (rec : (Unit × ((List D_Job) × ((List D_Job) × (Int × Unit)))) → Option ((Unit × ((List D_Job) × Unit)))) (v : (Unit × ((List D_Job) × ((List D_Job) × (Int × Unit))))) : Option ((Unit × ((List D_Job) × Unit))) :=
  bif (decide (v.2.2.2.1 < (((List.length v.2.1) : Nat) : Int))) then
    bif ((decide ((0 : Int) ≤ v.2.2.2.1)) && (decide (v.2.2.2.1 < (((List.length v.2.1) : Nat) : Int)))) then
      bif (decide ((Int.toNat v.2.2.2.1) < (List.length v.2.1))) then
        (laws_toJob (List.getD v.2.1 (Int.toNat v.2.2.2.1) z_Job)).bind fun t1 =>
          bif ((decide ((0 : Int) ≤ v.2.2.2.1)) && (decide (v.2.2.2.1 < (((List.length v.2.2.1) : Nat) : Int)))) then
            bif (decide ((Int.toNat v.2.2.2.1) < (List.length v.2.2.1))) then
              let y2 : (List D_Job) := (List.set v.2.2.1 (Int.toNat v.2.2.2.1) t1.1.1)
              rec ((), v.2.1, y2, (IntKind.wrap .i64 (v.2.2.2.1 + (1 : Int))), ())
            else none
          else none
      else none
    else none
  else
    some ((), v.2.2.1, ())
def laws_toJobS (k : Nat) (x0 : (List D_Job)) : Option (((List D_Job) × Unit) × Unit) :=
  bif (((decide ((0 : Int) ≤ (((List.length x0) : Nat) : Int))) && (decide ((((List.length x0) : Nat) : Int) ≤ (((List.length x0) : Nat) : Int)))) && (decide (((32 : Int) * (((List.length x0) : Nat) : Int)) ≤ (1099511627776 : Int)))) then
    (iter (laws_toJobS_s3) k ((), x0, (List.replicate (List.length x0) ((0 : Int), ((0 : Int), (0 : Int), (0 : Int), ()), ())), (0 : Int), ())).bind fun o1 =>
      some (o1.2, ())
  else none
def laws_toLine (k : Nat) (x0 : D_Line) : Option ((D_Line × Unit) × Unit) :=
  (laws_toJobS k x0.2.1).bind fun t1 =>
    (laws_toJobS k x0.2.2.1).bind fun t2 =>
      (laws_toJobS k x0.2.2.2.1).bind fun t3 =>
        some (((x0.1, t1.1.1, t2.1.1, t3.1), ()), ())
def spec_l21All (x0 : D_Line) : Option (((List D_Job) × Unit) × Unit) :=
  bif (decide ((((0 : Nat) + (List.length x0.2.2.2.1)) * 32) ≤ (1099511627776 : Nat))) then
    bif (decide ((((List.length x0.2.2.2.1) + (List.length x0.2.2.1)) * 32) ≤ (1099511627776 : Nat))) then
      bif (decide ((((List.length (x0.2.2.2.1 ++ x0.2.2.1)) + (List.length x0.2.1)) * 32) ≤ (1099511627776 : Nat))) then
        some ((((x0.2.2.2.1 ++ x0.2.2.1) ++ x0.2.1), ()), ())
      else none
    else none
  else none
def spec_LineOk_s12 (rec : (Unit × (D_Line × ((List D_Job) × D_Done))) → Option ((Unit × (Bool × Unit)) ⊕ (Unit × (D_Line × ((List D_Job) × (Int × Unit)))))) (v : (Unit × (D_Line × ((List D_Job) × D_Done)))) : Option ((Unit × (Bool × Unit)) ⊕ (Unit × (D_Line × ((List D_Job) × (Int × Unit))))) :=
  bif (decide (v.2.2.2.2.1 < v.2.2.2.1)) then
    bif ((decide ((0 : Int) ≤ v.2.2.2.2.1)) && (decide (v.2.2.2.2.1 < (((List.length v.2.2.1) : Nat) : Int)))) then
      bif (decide ((Int.toNat v.2.2.2.2.1) < (List.length v.2.2.1))) then
        bif ((decide ((0 : Int) ≤ v.2.2.2.1)) && (decide (v.2.2.2.1 < (((List.length v.2.2.1) : Nat) : Int)))) then
          bif (decide ((Int.toNat v.2.2.2.1) < (List.length v.2.2.1))) then
            bif (decide ((List.getD v.2.2.1 (Int.toNat v.2.2.2.2.1) z_Job).1 = (List.getD v.2.2.1 (Int.toNat v.2.2.2.1) z_Job).1)) then
              some (Sum.inl ((), false, ()))
            else
              rec ((), v.2.1, v.2.2.1, v.2.2.2.1, (IntKind.wrap .i64 (v.2.2.2.2.1 + (1 : Int))), ())
          else none
        else none
      else none
    else none
  else
    some (Sum.inr ((), v.2.1, v.2.2.1, v.2.2.2.1, ()))
def spec_LineOk_s7 (k : Nat) (rec : (Unit × (D_Line × ((List D_Job) × (Int × Unit)))) → Option ((Unit × (Bool × Unit)) ⊕ (Unit × Unit))) (v : (Unit × (D_Line × ((List D_Job) × (Int × Unit))))) : Option ((Unit × (Bool × Unit)) ⊕ (Unit × Unit)) :=
  bif (decide (v.2.2.2.1 < (((List.length v.2.2.1) : Nat) : Int))) then
    bif ((decide ((0 : Int) ≤ v.2.2.2.1)) && (decide (v.2.2.2.1 < (((List.length v.2.2.1) : Nat) : Int)))) then
      bif (decide ((Int.toNat v.2.2.2.1) < (List.length v.2.2.1))) then
        bif (!(decide ((List.getD v.2.2.1 (Int.toNat v.2.2.2.1) z_Job).1 < (0 : Int)))) then
          bif ((decide ((0 : Int) ≤ v.2.2.2.1)) && (decide (v.2.2.2.1 < (((List.length v.2.2.1) : Nat) : Int)))) then
            bif (decide ((Int.toNat v.2.2.2.1) < (List.length v.2.2.1))) then
              bif (decide ((1000000000000 : Int) < (List.getD v.2.2.1 (Int.toNat v.2.2.2.1) z_Job).1)) then
                some (Sum.inl ((), false, ()))
              else
                (iter (spec_LineOk_s12) k ((), v.2.1, v.2.2.1, v.2.2.2.1, (0 : Int), ())).bind fun o2 =>
                  Sum.elim (fun a3 =>
                    some (Sum.inl ((), a3.2)))
                  (fun b4 =>
                    bif ((decide ((0 : Int) ≤ b4.2.2.2.1)) && (decide (b4.2.2.2.1 < (((List.length b4.2.2.1) : Nat) : Int)))) then
                      bif (decide ((Int.toNat b4.2.2.2.1) < (List.length b4.2.2.1))) then
                        bif (decide (b4.2.2.2.1 < (((List.length b4.2.1.2.2.2.1) : Nat) : Int))) then
                          bif (!(!(decide ((List.getD b4.2.2.1 (Int.toNat b4.2.2.2.1) z_Job).2.1.1 = (0 : Int))))) then
                            bif (!(!(decide ((List.getD b4.2.2.1 (Int.toNat b4.2.2.2.1) z_Job).2.1.2.1 = (0 : Int))))) then
                              bif (!(decide ((List.getD b4.2.2.1 (Int.toNat b4.2.2.2.1) z_Job).2.1.2.2.1 < (1 : Int)))) then
                                bif (decide ((1000 : Int) < (List.getD b4.2.2.1 (Int.toNat b4.2.2.2.1) z_Job).2.1.2.2.1)) then
                                  some (Sum.inl ((), false, ()))
                                else
                                  rec ((), b4.2.1, b4.2.2.1, (IntKind.wrap .i64 (b4.2.2.2.1 + (1 : Int))), ())
                              else
                                some (Sum.inl ((), false, ()))
                            else
                              some (Sum.inl ((), false, ()))
                          else
                            some (Sum.inl ((), false, ()))
                        else
                          bif (decide (b4.2.2.2.1 < (IntKind.wrap .i64 ((((List.length b4.2.1.2.2.2.1) : Nat) : Int) + (((List.length b4.2.1.2.2.1) : Nat) : Int))))) then
                            bif (!(!(decide ((List.getD b4.2.2.1 (Int.toNat b4.2.2.2.1) z_Job).2.1.1 = (0 : Int))))) then
                              bif (!(decide ((List.getD b4.2.2.1 (Int.toNat b4.2.2.2.1) z_Job).2.1.2.1 < (1 : Int)))) then
                                bif (!(decide ((1000 : Int) < (List.getD b4.2.2.1 (Int.toNat b4.2.2.2.1) z_Job).2.1.2.1))) then
                                  bif (!(decide ((List.getD b4.2.2.1 (Int.toNat b4.2.2.2.1) z_Job).2.1.2.2.1 < (1 : Int)))) then
                                    bif (decide ((1000 : Int) < (List.getD b4.2.2.1 (Int.toNat b4.2.2.2.1) z_Job).2.1.2.2.1)) then
                                      some (Sum.inl ((), false, ()))
                                    else
                                      rec ((), b4.2.1, b4.2.2.1, (IntKind.wrap .i64 (b4.2.2.2.1 + (1 : Int))), ())
                                  else
                                    some (Sum.inl ((), false, ()))
                                else
                                  some (Sum.inl ((), false, ()))
                              else
                                some (Sum.inl ((), false, ()))
                            else
                              some (Sum.inl ((), false, ()))
                          else
                            bif (!(decide ((List.getD b4.2.2.1 (Int.toNat b4.2.2.2.1) z_Job).2.1.1 < (1 : Int)))) then
                              bif (decide ((1000 : Int) < (List.getD b4.2.2.1 (Int.toNat b4.2.2.2.1) z_Job).2.1.1)) then
                                some (Sum.inl ((), false, ()))
                              else
                                bif (!(decide ((List.getD b4.2.2.1 (Int.toNat b4.2.2.2.1) z_Job).2.1.2.1 < (1 : Int)))) then
                                  bif (!(decide ((1000 : Int) < (List.getD b4.2.2.1 (Int.toNat b4.2.2.2.1) z_Job).2.1.2.1))) then
                                    bif (!(decide ((List.getD b4.2.2.1 (Int.toNat b4.2.2.2.1) z_Job).2.1.2.2.1 < (1 : Int)))) then
                                      bif (decide ((1000 : Int) < (List.getD b4.2.2.1 (Int.toNat b4.2.2.2.1) z_Job).2.1.2.2.1)) then
                                        some (Sum.inl ((), false, ()))
                                      else
                                        rec ((), b4.2.1, b4.2.2.1, (IntKind.wrap .i64 (b4.2.2.2.1 + (1 : Int))), ())
                                    else
                                      some (Sum.inl ((), false, ()))
                                  else
                                    some (Sum.inl ((), false, ()))
                                else
                                  some (Sum.inl ((), false, ()))
                            else
                              some (Sum.inl ((), false, ()))
                      else none
                    else none) o2
            else none
          else none
        else
          some (Sum.inl ((), false, ()))
      else none
    else none
  else
    some (Sum.inr ((), ()))
def spec_LineOk (k : Nat) (x0 : D_Line) : Option ((Bool × Unit) × Unit) :=
  bif (!(decide (x0.1 < (1 : Int)))) then
    bif (!(decide ((16 : Int) < x0.1))) then
      bif (!(decide (x0.1 < (((List.length x0.2.1) : Nat) : Int)))) then
        bif (!(decide (x0.1 < (((List.length x0.2.2.1) : Nat) : Int)))) then
          bif (decide (x0.1 < (((List.length x0.2.2.2.1) : Nat) : Int))) then
            some ((false, ()), ())
          else
            (spec_l21All x0).bind fun t1 =>
              bif (decide (x0.1 < (((List.length t1.1.1) : Nat) : Int))) then
                some ((false, ()), ())
              else
                (iter (spec_LineOk_s7 k) k ((), x0, t1.1.1, (0 : Int), ())).bind fun o2 =>
                  Sum.elim (fun a3 =>
                    some (a3.2, ()))
                  (fun b4 =>
                    some ((true, ()), ())) o2
        else
          some ((false, ()), ())
      else
        some ((false, ()), ())
    else
      some ((false, ()), ())
  else
    some ((false, ()), ())
def spec_l21Through_s5 (rec : (Unit × ((List D_Job) × ((List Int) × (Int × D_Vec)))) → Option ((Unit × ((List Int) × Unit)))) (v : (Unit × ((List D_Job) × ((List Int) × (Int × D_Vec))))) : Option ((Unit × ((List Int) × Unit))) :=
  bif (decide (v.2.2.2.2.2.2.1 < (((List.length v.2.1) : Nat) : Int))) then
    bif ((decide ((0 : Int) ≤ v.2.2.2.2.2.2.1)) && (decide (v.2.2.2.2.2.2.1 < (((List.length v.2.1) : Nat) : Int)))) then
      bif (decide ((Int.toNat v.2.2.2.2.2.2.1) < (List.length v.2.1))) then
        bif ((decide ((0 : Int) ≤ v.2.2.2.2.2.2.1)) && (decide (v.2.2.2.2.2.2.1 < (((List.length v.2.1) : Nat) : Int)))) then
          bif (decide ((Int.toNat v.2.2.2.2.2.2.1) < (List.length v.2.1))) then
            bif (decide ((0 : Int) < (List.getD v.2.1 (Int.toNat v.2.2.2.2.2.2.1) z_Job).2.1.1)) then
              bif ((decide ((0 : Int) ≤ v.2.2.2.2.2.2.1)) && (decide (v.2.2.2.2.2.2.1 < (((List.length v.2.1) : Nat) : Int)))) then
                bif (decide ((Int.toNat v.2.2.2.2.2.2.1) < (List.length v.2.1))) then
                  bif ((decide ((0 : Int) ≤ v.2.2.2.2.2.2.1)) && (decide (v.2.2.2.2.2.2.1 < (((List.length v.2.1) : Nat) : Int)))) then
                    bif (decide ((Int.toNat v.2.2.2.2.2.2.1) < (List.length v.2.1))) then
                      bif (decide ((0 : Int) < (List.getD v.2.1 (Int.toNat v.2.2.2.2.2.2.1) z_Job).2.1.2.1)) then
                        bif ((decide ((0 : Int) ≤ v.2.2.2.2.2.2.1)) && (decide (v.2.2.2.2.2.2.1 < (((List.length v.2.1) : Nat) : Int)))) then
                          bif (decide ((Int.toNat v.2.2.2.2.2.2.1) < (List.length v.2.1))) then
                            bif (decide ((((List.length v.2.2.1) + (1 : Nat)) * 8) ≤ (1099511627776 : Nat))) then
                              rec ((), v.2.1, (v.2.2.1 ++ ([(IntKind.wrap .i64 ((imax v.2.2.2.2.2.1 (IntKind.wrap .i64 ((imax v.2.2.2.2.1 (IntKind.wrap .i64 (v.2.2.2.1 + (List.getD v.2.1 (Int.toNat v.2.2.2.2.2.2.1) z_Job).2.1.1))) + (List.getD v.2.1 (Int.toNat v.2.2.2.2.2.2.1) z_Job).2.1.2.1))) + (List.getD v.2.1 (Int.toNat v.2.2.2.2.2.2.1) z_Job).2.1.2.2.1))] : List Int)), (IntKind.wrap .i64 (v.2.2.2.1 + (List.getD v.2.1 (Int.toNat v.2.2.2.2.2.2.1) z_Job).2.1.1)), (IntKind.wrap .i64 ((imax v.2.2.2.2.1 (IntKind.wrap .i64 (v.2.2.2.1 + (List.getD v.2.1 (Int.toNat v.2.2.2.2.2.2.1) z_Job).2.1.1))) + (List.getD v.2.1 (Int.toNat v.2.2.2.2.2.2.1) z_Job).2.1.2.1)), (IntKind.wrap .i64 ((imax v.2.2.2.2.2.1 (IntKind.wrap .i64 ((imax v.2.2.2.2.1 (IntKind.wrap .i64 (v.2.2.2.1 + (List.getD v.2.1 (Int.toNat v.2.2.2.2.2.2.1) z_Job).2.1.1))) + (List.getD v.2.1 (Int.toNat v.2.2.2.2.2.2.1) z_Job).2.1.2.1))) + (List.getD v.2.1 (Int.toNat v.2.2.2.2.2.2.1) z_Job).2.1.2.2.1)), (IntKind.wrap .i64 (v.2.2.2.2.2.2.1 + (1 : Int))), ())
                            else none
                          else none
                        else none
                      else
                        bif ((decide ((0 : Int) ≤ v.2.2.2.2.2.2.1)) && (decide (v.2.2.2.2.2.2.1 < (((List.length v.2.1) : Nat) : Int)))) then
                          bif (decide ((Int.toNat v.2.2.2.2.2.2.1) < (List.length v.2.1))) then
                            bif (decide ((((List.length v.2.2.1) + (1 : Nat)) * 8) ≤ (1099511627776 : Nat))) then
                              rec ((), v.2.1, (v.2.2.1 ++ ([(IntKind.wrap .i64 (v.2.2.2.2.2.1 + (List.getD v.2.1 (Int.toNat v.2.2.2.2.2.2.1) z_Job).2.1.2.2.1))] : List Int)), (IntKind.wrap .i64 (v.2.2.2.1 + (List.getD v.2.1 (Int.toNat v.2.2.2.2.2.2.1) z_Job).2.1.1)), (IntKind.wrap .i64 ((imax v.2.2.2.2.1 (IntKind.wrap .i64 (v.2.2.2.1 + (List.getD v.2.1 (Int.toNat v.2.2.2.2.2.2.1) z_Job).2.1.1))) + (List.getD v.2.1 (Int.toNat v.2.2.2.2.2.2.1) z_Job).2.1.2.1)), (IntKind.wrap .i64 (v.2.2.2.2.2.1 + (List.getD v.2.1 (Int.toNat v.2.2.2.2.2.2.1) z_Job).2.1.2.2.1)), (IntKind.wrap .i64 (v.2.2.2.2.2.2.1 + (1 : Int))), ())
                            else none
                          else none
                        else none
                    else none
                  else none
                else none
              else none
            else
              bif ((decide ((0 : Int) ≤ v.2.2.2.2.2.2.1)) && (decide (v.2.2.2.2.2.2.1 < (((List.length v.2.1) : Nat) : Int)))) then
                bif (decide ((Int.toNat v.2.2.2.2.2.2.1) < (List.length v.2.1))) then
                  bif ((decide ((0 : Int) ≤ v.2.2.2.2.2.2.1)) && (decide (v.2.2.2.2.2.2.1 < (((List.length v.2.1) : Nat) : Int)))) then
                    bif (decide ((Int.toNat v.2.2.2.2.2.2.1) < (List.length v.2.1))) then
                      bif (decide ((0 : Int) < (List.getD v.2.1 (Int.toNat v.2.2.2.2.2.2.1) z_Job).2.1.2.1)) then
                        bif ((decide ((0 : Int) ≤ v.2.2.2.2.2.2.1)) && (decide (v.2.2.2.2.2.2.1 < (((List.length v.2.1) : Nat) : Int)))) then
                          bif (decide ((Int.toNat v.2.2.2.2.2.2.1) < (List.length v.2.1))) then
                            bif (decide ((((List.length v.2.2.1) + (1 : Nat)) * 8) ≤ (1099511627776 : Nat))) then
                              rec ((), v.2.1, (v.2.2.1 ++ ([(IntKind.wrap .i64 ((imax v.2.2.2.2.2.1 (IntKind.wrap .i64 (v.2.2.2.2.1 + (List.getD v.2.1 (Int.toNat v.2.2.2.2.2.2.1) z_Job).2.1.2.1))) + (List.getD v.2.1 (Int.toNat v.2.2.2.2.2.2.1) z_Job).2.1.2.2.1))] : List Int)), (IntKind.wrap .i64 (v.2.2.2.1 + (List.getD v.2.1 (Int.toNat v.2.2.2.2.2.2.1) z_Job).2.1.1)), (IntKind.wrap .i64 (v.2.2.2.2.1 + (List.getD v.2.1 (Int.toNat v.2.2.2.2.2.2.1) z_Job).2.1.2.1)), (IntKind.wrap .i64 ((imax v.2.2.2.2.2.1 (IntKind.wrap .i64 (v.2.2.2.2.1 + (List.getD v.2.1 (Int.toNat v.2.2.2.2.2.2.1) z_Job).2.1.2.1))) + (List.getD v.2.1 (Int.toNat v.2.2.2.2.2.2.1) z_Job).2.1.2.2.1)), (IntKind.wrap .i64 (v.2.2.2.2.2.2.1 + (1 : Int))), ())
                            else none
                          else none
                        else none
                      else
                        bif ((decide ((0 : Int) ≤ v.2.2.2.2.2.2.1)) && (decide (v.2.2.2.2.2.2.1 < (((List.length v.2.1) : Nat) : Int)))) then
                          bif (decide ((Int.toNat v.2.2.2.2.2.2.1) < (List.length v.2.1))) then
                            bif (decide ((((List.length v.2.2.1) + (1 : Nat)) * 8) ≤ (1099511627776 : Nat))) then
                              rec ((), v.2.1, (v.2.2.1 ++ ([(IntKind.wrap .i64 (v.2.2.2.2.2.1 + (List.getD v.2.1 (Int.toNat v.2.2.2.2.2.2.1) z_Job).2.1.2.2.1))] : List Int)), (IntKind.wrap .i64 (v.2.2.2.1 + (List.getD v.2.1 (Int.toNat v.2.2.2.2.2.2.1) z_Job).2.1.1)), (IntKind.wrap .i64 (v.2.2.2.2.1 + (List.getD v.2.1 (Int.toNat v.2.2.2.2.2.2.1) z_Job).2.1.2.1)), (IntKind.wrap .i64 (v.2.2.2.2.2.1 + (List.getD v.2.1 (Int.toNat v.2.2.2.2.2.2.1) z_Job).2.1.2.2.1)), (IntKind.wrap .i64 (v.2.2.2.2.2.2.1 + (1 : Int))), ())
                            else none
                          else none
                        else none
                    else none
                  else none
                else none
              else none
          else none
        else none
      else none
    else none
  else
    some ((), v.2.2.1, ())
def spec_l21Through (k : Nat) (x0 : D_Line) : Option (((List Int) × Unit) × Unit) :=
  (spec_l21All x0).bind fun t1 =>
    (iter (spec_l21Through_s5) k ((), t1.1.1, ([] : List Int), (0 : Int), (0 : Int), (0 : Int), (0 : Int), ())).bind fun o2 =>
      some (o2.2, ())
def spec_LineEnd (k : Nat) (x0 : D_Line) : Option ((Int × Unit) × Unit) :=
  (spec_LineOk k x0).bind fun t1 =>
    bif (!t1.1.1) then
      some (((-1 : Int), ()), ())
    else
      (spec_l21Through k x0).bind fun t2 =>
        bif (decide ((((List.length t2.1.1) : Nat) : Int) = (0 : Int))) then
          some (((0 : Int), ()), ())
        else
          bif ((decide ((0 : Int) ≤ (IntKind.wrap .i64 ((((List.length t2.1.1) : Nat) : Int) - (1 : Int))))) && (decide ((IntKind.wrap .i64 ((((List.length t2.1.1) : Nat) : Int) - (1 : Int))) < (((List.length t2.1.1) : Nat) : Int)))) then
            bif (decide ((Int.toNat (IntKind.wrap .i64 ((((List.length t2.1.1) : Nat) : Int) - (1 : Int)))) < (List.length t2.1.1))) then
              some (((List.getD t2.1.1 (Int.toNat (IntKind.wrap .i64 ((((List.length t2.1.1) : Nat) : Int) - (1 : Int)))) (0 : Int)), ()), ())
            else none
          else none
def impl_within (x0 : Int) (x1 : Int) (x2 : Int) : Option ((Bool × Unit) × Unit) :=
  bif (decide (x1 ≤ x0)) then
    some (((decide (x0 ≤ x2)), ()), ())
  else
    some ((false, ()), ())
def slices_Concat_impl_Job_impl_Job_s3 (rec : (Unit × ((List (List D_Job)) × (Int × ((List (List D_Job)) × D_Done)))) → Option ((Unit × ((List (List D_Job)) × (Int × Unit))))) (v : (Unit × ((List (List D_Job)) × (Int × ((List (List D_Job)) × D_Done))))) : Option ((Unit × ((List (List D_Job)) × (Int × Unit)))) :=
  bif (decide (v.2.2.2.2.2.1 < v.2.2.2.2.1)) then
    bif ((decide ((0 : Int) ≤ v.2.2.2.2.2.1)) && (decide (v.2.2.2.2.2.1 < (((List.length v.2.2.2.1) : Nat) : Int)))) then
      bif (decide ((Int.toNat v.2.2.2.2.2.1) < (List.length v.2.2.2.1))) then
        bif (decide ((IntKind.wrap .i64 (v.2.2.1 + (((List.length (List.getD v.2.2.2.1 (Int.toNat v.2.2.2.2.2.1) [])) : Nat) : Int))) < (0 : Int))) then
          none
        else
          rec ((), v.2.1, (IntKind.wrap .i64 (v.2.2.1 + (((List.length (List.getD v.2.2.2.1 (Int.toNat v.2.2.2.2.2.1) [])) : Nat) : Int))), v.2.2.2.1, v.2.2.2.2.1, (IntKind.wrap .i64 (v.2.2.2.2.2.1 + (1 : Int))), ())
      else none
    else none
  else
    some ((), v.2.1, v.2.2.1, ())
def slices_Concat_impl_Job_impl_Job_s11 (rec : (Unit × ((List D_Job) × ((List (List D_Job)) × D_Done))) → Option ((Unit × ((List D_Job) × Unit)))) (v : (Unit × ((List D_Job) × ((List (List D_Job)) × D_Done)))) : Option ((Unit × ((List D_Job) × Unit))) :=
  bif (decide (v.2.2.2.2.1 < v.2.2.2.1)) then
    bif ((decide ((0 : Int) ≤ v.2.2.2.2.1)) && (decide (v.2.2.2.2.1 < (((List.length v.2.2.1) : Nat) : Int)))) then
      bif (decide ((Int.toNat v.2.2.2.2.1) < (List.length v.2.2.1))) then
        bif (decide ((((List.length v.2.1) + (List.length (List.getD v.2.2.1 (Int.toNat v.2.2.2.2.1) []))) * 32) ≤ (1099511627776 : Nat))) then
          rec ((), (v.2.1 ++ (List.getD v.2.2.1 (Int.toNat v.2.2.2.2.1) [])), v.2.2.1, v.2.2.2.1, (IntKind.wrap .i64 (v.2.2.2.2.1 + (1 : Int))), ())
        else none
      else none
    else none
  else
    some ((), v.2.1, ())
def slices_Concat_impl_Job_impl_Job (k : Nat) (x0 : (List (List D_Job))) : Option (((List D_Job) × Unit) × Unit) :=
  (iter (slices_Concat_impl_Job_impl_Job_s3) k ((), x0, (0 : Int), x0, (((List.length x0) : Nat) : Int), (0 : Int), ())).bind fun o1 =>
    bif (decide (o1.2.2.1 < (0 : Int))) then
      none
    else
      bif (decide ((0 : Int) < (IntKind.wrap .i64 (o1.2.2.1 - (0 : Int))))) then
        bif ((decide ((0 : Int) ≤ (IntKind.wrap .i64 (o1.2.2.1 - (0 : Int))))) && (decide (((32 : Int) * (IntKind.wrap .i64 (o1.2.2.1 - (0 : Int)))) ≤ (1099511627776 : Int)))) then
          bif (decide ((0 : Int) ≤ (((List.length (List.replicate (Int.toNat (IntKind.wrap .i64 (o1.2.2.1 - (0 : Int)))) ((0 : Int), ((0 : Int), (0 : Int), (0 : Int), ()), ()))) : Nat) : Int))) then
            (iter (slices_Concat_impl_Job_impl_Job_s11) k ((), (List.take (0 : Nat) (List.replicate (Int.toNat (IntKind.wrap .i64 (o1.2.2.1 - (0 : Int)))) ((0 : Int), ((0 : Int), (0 : Int), (0 : Int), ()), ()))), o1.2.1, (((List.length o1.2.1) : Nat) : Int), (0 : Int), ())).bind fun o2 =>
              some (o2.2, ())
          else none
        else none
      else
        (iter (slices_Concat_impl_Job_impl_Job_s11) k ((), ([] : List D_Job), o1.2.1, (((List.length o1.2.1) : Nat) : Int), (0 : Int), ())).bind fun o3 =>
          some (o3.2, ())
def impl_Line_jobs (k : Nat) (x0 : D_Line) : Option (((List D_Job) × Unit) × Unit) :=
  (slices_Concat_impl_Job_impl_Job k ([x0.2.1, x0.2.2.1, x0.2.2.2.1] : List (List D_Job))).bind fun t1 =>
    some (t1.1, ())
def impl_Vec_isFrom (x0 : D_Vec) (x1 : Int) (x2 : Int) : Option ((Bool × Unit) × Unit) :=
  (impl_within x0.1 x1 x2).bind fun t1 =>
    bif t1.1.1 then
      (impl_within x0.2.1 x1 x2).bind fun t2 =>
        bif t2.1.1 then
          (impl_within x0.2.2.1 x1 x2).bind fun t3 =>
            some (t3.1, ())
        else
          some ((false, ()), ())
    else
      some ((false, ()), ())
def impl_CostOk (x0 : D_Vec) : Option ((Bool × Unit) × Unit) :=
  (impl_Vec_isFrom x0 (1 : Int) (1000 : Int)).bind fun t1 =>
    some (t1.1, ())
def impl_isNeed (x0 : Int) : Option ((Bool × Unit) × Unit) :=
  (impl_within x0 (1 : Int) (1000 : Int)).bind fun t1 =>
    some (t1.1, ())
def impl_LineOk_s5 (rec : (Unit × (D_Line × ((List (Int × Bool)) × ((List D_Job) × D_Done)))) → Option ((Unit × (Bool × Unit)) ⊕ (Unit × Unit))) (v : (Unit × (D_Line × ((List (Int × Bool)) × ((List D_Job) × D_Done))))) : Option ((Unit × (Bool × Unit)) ⊕ (Unit × Unit)) :=
  bif (decide (v.2.2.2.2.2.1 < v.2.2.2.2.1)) then
    bif ((decide ((0 : Int) ≤ v.2.2.2.2.2.1)) && (decide (v.2.2.2.2.2.1 < (((List.length v.2.2.2.1) : Nat) : Int)))) then
      bif (decide ((Int.toNat v.2.2.2.2.2.1) < (List.length v.2.2.2.1))) then
        (impl_CostOk (List.getD v.2.2.2.1 (Int.toNat v.2.2.2.2.2.1) z_Job).2.1).bind fun t4 =>
          bif (decide ((IntKind.wrap .i64 ((((List.length v.2.1.2.1) : Nat) : Int) + (((List.length v.2.1.2.2.1) : Nat) : Int))) ≤ v.2.2.2.2.2.1)) then
            bif (decide ((List.getD v.2.2.2.1 (Int.toNat v.2.2.2.2.2.1) z_Job).2.1.1 = (0 : Int))) then
              bif (decide ((List.getD v.2.2.2.1 (Int.toNat v.2.2.2.2.2.1) z_Job).2.1.2.1 = (0 : Int))) then
                (impl_isNeed (List.getD v.2.2.2.1 (Int.toNat v.2.2.2.2.2.1) z_Job).2.1.2.2.1).bind fun t5 =>
                  bif (!(!t5.1.1)) then
                    (impl_within (List.getD v.2.2.2.1 (Int.toNat v.2.2.2.2.2.1) z_Job).1 (0 : Int) (1000000000000 : Int)).bind fun t6 =>
                      bif (!(!t6.1.1)) then
                        bif (mget v.2.2.1 (List.getD v.2.2.2.1 (Int.toNat v.2.2.2.2.2.1) z_Job).1) then
                          some (Sum.inl ((), false, ()))
                        else
                          rec ((), v.2.1, (mset v.2.2.1 (List.getD v.2.2.2.1 (Int.toNat v.2.2.2.2.2.1) z_Job).1 true), v.2.2.2.1, v.2.2.2.2.1, (IntKind.wrap .i64 (v.2.2.2.2.2.1 + (1 : Int))), ())
                      else
                        some (Sum.inl ((), false, ()))
                  else
                    some (Sum.inl ((), false, ()))
              else
                some (Sum.inl ((), false, ()))
            else
              some (Sum.inl ((), false, ()))
          else
            bif (decide ((((List.length v.2.1.2.1) : Nat) : Int) ≤ v.2.2.2.2.2.1)) then
              bif (decide ((List.getD v.2.2.2.1 (Int.toNat v.2.2.2.2.2.1) z_Job).2.1.1 = (0 : Int))) then
                (impl_isNeed (List.getD v.2.2.2.1 (Int.toNat v.2.2.2.2.2.1) z_Job).2.1.2.1).bind fun t7 =>
                  bif t7.1.1 then
                    (impl_isNeed (List.getD v.2.2.2.1 (Int.toNat v.2.2.2.2.2.1) z_Job).2.1.2.2.1).bind fun t8 =>
                      bif (!(!t8.1.1)) then
                        (impl_within (List.getD v.2.2.2.1 (Int.toNat v.2.2.2.2.2.1) z_Job).1 (0 : Int) (1000000000000 : Int)).bind fun t9 =>
                          bif (!(!t9.1.1)) then
                            bif (mget v.2.2.1 (List.getD v.2.2.2.1 (Int.toNat v.2.2.2.2.2.1) z_Job).1) then
                              some (Sum.inl ((), false, ()))
                            else
                              rec ((), v.2.1, (mset v.2.2.1 (List.getD v.2.2.2.1 (Int.toNat v.2.2.2.2.2.1) z_Job).1 true), v.2.2.2.1, v.2.2.2.2.1, (IntKind.wrap .i64 (v.2.2.2.2.2.1 + (1 : Int))), ())
                          else
                            some (Sum.inl ((), false, ()))
                      else
                        some (Sum.inl ((), false, ()))
                  else
                    some (Sum.inl ((), false, ()))
              else
                some (Sum.inl ((), false, ()))
            else
              bif (!(!t4.1.1)) then
                (impl_within (List.getD v.2.2.2.1 (Int.toNat v.2.2.2.2.2.1) z_Job).1 (0 : Int) (1000000000000 : Int)).bind fun t10 =>
                  bif (!(!t10.1.1)) then
                    bif (mget v.2.2.1 (List.getD v.2.2.2.1 (Int.toNat v.2.2.2.2.2.1) z_Job).1) then
                      some (Sum.inl ((), false, ()))
                    else
                      rec ((), v.2.1, (mset v.2.2.1 (List.getD v.2.2.2.1 (Int.toNat v.2.2.2.2.2.1) z_Job).1 true), v.2.2.2.1, v.2.2.2.2.1, (IntKind.wrap .i64 (v.2.2.2.2.2.1 + (1 : Int))), ())
                  else
                    some (Sum.inl ((), false, ()))
              else
                some (Sum.inl ((), false, ()))
      else none
    else none
  else
    some (Sum.inr ((), ()))
def impl_LineOk (k : Nat) (x0 : D_Line) : Option ((Bool × Unit) × Unit) :=
  (impl_within x0.1 (1 : Int) (16 : Int)).bind fun t1 =>
    bif (!(!t1.1.1)) then
      (impl_Line_jobs k x0).bind fun t2 =>
        bif (decide (x0.1 < (((List.length t2.1.1) : Nat) : Int))) then
          some ((false, ()), ())
        else
          (impl_Line_jobs k x0).bind fun t3 =>
            (iter (impl_LineOk_s5) k ((), x0, ([] : List (Int × Bool)), t3.1.1, (((List.length t3.1.1) : Nat) : Int), (0 : Int), ())).bind fun o4 =>
              Sum.elim (fun a5 =>
                some (a5.2, ()))
              (fun b6 =>
                some ((true, ()), ())) o4
    else
      some ((false, ()), ())
def slices_Clone_impl_Job_impl_Job (x0 : (List D_Job)) : Option (((List D_Job) × Unit) × Unit) :=
  bif (decide (((0 : Nat) + (List.length x0)) * 32 ≤ (1099511627776 : Nat))) then some ((x0, ()), ()) else none
def impl_copyLine (x0 : D_Line) : Option ((D_Line × Unit) × Unit) :=
  (slices_Clone_impl_Job_impl_Job x0.2.1).bind fun t1 =>
    (slices_Clone_impl_Job_impl_Job x0.2.2.1).bind fun t2 =>
      (slices_Clone_impl_Job_impl_Job x0.2.2.2.1).bind fun t3 =>
        some (((x0.1, t1.1.1, t2.1.1, t3.1), ()), ())
def impl_LineEnd_s4 (k : Nat) (rec : (Unit × (D_Line × (Int × Unit))) → Option ((Unit × (Int × Unit)))) (v : (Unit × (D_Line × (Int × Unit)))) : Option ((Unit × (Int × Unit))) :=
  (impl_Line_jobs k v.2.1).bind fun t3 =>
    bif (decide ((0 : Int) < (((List.length t3.1.1) : Nat) : Int))) then
      bif (decide ((0 : Int) < (((List.length v.2.1.2.2.2.1) : Nat) : Int))) then
        bif (decide ((0 : Int) < (((List.length v.2.1.2.2.2.1) : Nat) : Int))) then
          bif (decide ((0 : Nat) < (List.length v.2.1.2.2.2.1))) then
            bif (decide ((0 : Int) < (((List.length v.2.1.2.2.2.1) : Nat) : Int))) then
              bif (decide ((0 : Nat) < (List.length v.2.1.2.2.2.1))) then
                let y4 : (List D_Job) := (List.set v.2.1.2.2.2.1 (0 : Nat) ((List.getD v.2.1.2.2.2.1 (0 : Nat) z_Job).1, ((List.getD v.2.1.2.2.2.1 (0 : Nat) z_Job).2.1.1, (List.getD v.2.1.2.2.2.1 (0 : Nat) z_Job).2.1.2.1, (IntKind.wrap .i64 ((List.getD v.2.1.2.2.2.1 (0 : Nat) z_Job).2.1.2.2.1 - (1 : Int))), ()), ()))
                bif (decide ((0 : Int) < (((List.length y4) : Nat) : Int))) then
                  bif (decide ((0 : Nat) < (List.length y4))) then
                    bif (decide ((List.getD y4 (0 : Nat) z_Job).2.1.2.2.1 = (0 : Int))) then
                      bif (decide ((0 : Int) < (((List.length y4) : Nat) : Int))) then
                        bif (decide ((0 : Nat) < (List.length y4))) then
                          bif ((decide ((1 : Int) ≤ (((List.length y4) : Nat) : Int))) && (decide ((((List.length y4) : Nat) : Int) ≤ (((List.length y4) : Nat) : Int)))) then
                            bif (decide ((0 : Int) < (((List.length v.2.1.2.2.1) : Nat) : Int))) then
                              bif (decide ((0 : Int) < (((List.length v.2.1.2.2.1) : Nat) : Int))) then
                                bif (decide ((0 : Nat) < (List.length v.2.1.2.2.1))) then
                                  bif (decide ((0 : Int) < (((List.length v.2.1.2.2.1) : Nat) : Int))) then
                                    bif (decide ((0 : Nat) < (List.length v.2.1.2.2.1))) then
                                      let y5 : (List D_Job) := (List.set v.2.1.2.2.1 (0 : Nat) ((List.getD v.2.1.2.2.1 (0 : Nat) z_Job).1, ((List.getD v.2.1.2.2.1 (0 : Nat) z_Job).2.1.1, (IntKind.wrap .i64 ((List.getD v.2.1.2.2.1 (0 : Nat) z_Job).2.1.2.1 - (1 : Int))), (List.getD v.2.1.2.2.1 (0 : Nat) z_Job).2.1.2.2), ()))
                                      bif (decide ((0 : Int) < (((List.length y5) : Nat) : Int))) then
                                        bif (decide ((0 : Nat) < (List.length y5))) then
                                          bif (decide ((List.getD y5 (0 : Nat) z_Job).2.1.2.1 = (0 : Int))) then
                                            bif (decide ((0 : Int) < (((List.length y5) : Nat) : Int))) then
                                              bif (decide ((0 : Nat) < (List.length y5))) then
                                                bif (decide (((((List.length y4) - (1 : Nat)) + (1 : Nat)) * 32) ≤ (1099511627776 : Nat))) then
                                                  bif ((decide ((1 : Int) ≤ (((List.length y5) : Nat) : Int))) && (decide ((((List.length y5) : Nat) : Int) ≤ (((List.length y5) : Nat) : Int)))) then
                                                    bif (decide ((0 : Int) < (((List.length v.2.1.2.1) : Nat) : Int))) then
                                                      bif (decide ((0 : Int) < (((List.length v.2.1.2.1) : Nat) : Int))) then
                                                        bif (decide ((0 : Nat) < (List.length v.2.1.2.1))) then
                                                          bif (decide ((0 : Int) < (((List.length v.2.1.2.1) : Nat) : Int))) then
                                                            bif (decide ((0 : Nat) < (List.length v.2.1.2.1))) then
                                                              let y6 : (List D_Job) := (List.set v.2.1.2.1 (0 : Nat) ((List.getD v.2.1.2.1 (0 : Nat) z_Job).1, ((IntKind.wrap .i64 ((List.getD v.2.1.2.1 (0 : Nat) z_Job).2.1.1 - (1 : Int))), (List.getD v.2.1.2.1 (0 : Nat) z_Job).2.1.2), ()))
                                                              bif (decide ((0 : Int) < (((List.length y6) : Nat) : Int))) then
                                                                bif (decide ((0 : Nat) < (List.length y6))) then
                                                                  bif (decide ((List.getD y6 (0 : Nat) z_Job).2.1.1 = (0 : Int))) then
                                                                    bif (decide ((0 : Int) < (((List.length y6) : Nat) : Int))) then
                                                                      bif (decide ((0 : Nat) < (List.length y6))) then
                                                                        bif (decide (((((List.length y5) - (1 : Nat)) + (1 : Nat)) * 32) ≤ (1099511627776 : Nat))) then
                                                                          bif ((decide ((1 : Int) ≤ (((List.length y6) : Nat) : Int))) && (decide ((((List.length y6) : Nat) : Int) ≤ (((List.length y6) : Nat) : Int)))) then
                                                                            rec ((), (v.2.1.1, (List.take ((List.length y6) - (1 : Nat)) (List.drop (1 : Nat) y6)), ((List.take ((List.length y5) - (1 : Nat)) (List.drop (1 : Nat) y5)) ++ ([(List.getD y6 (0 : Nat) z_Job)] : List D_Job)), ((List.take ((List.length y4) - (1 : Nat)) (List.drop (1 : Nat) y4)) ++ ([(List.getD y5 (0 : Nat) z_Job)] : List D_Job)), ()), (IntKind.wrap .i64 (v.2.2.1 + (1 : Int))), ())
                                                                          else none
                                                                        else none
                                                                      else none
                                                                    else none
                                                                  else
                                                                    rec ((), (v.2.1.1, y6, (List.take ((List.length y5) - (1 : Nat)) (List.drop (1 : Nat) y5)), ((List.take ((List.length y4) - (1 : Nat)) (List.drop (1 : Nat) y4)) ++ ([(List.getD y5 (0 : Nat) z_Job)] : List D_Job)), ()), (IntKind.wrap .i64 (v.2.2.1 + (1 : Int))), ())
                                                                else none
                                                              else none
                                                            else none
                                                          else none
                                                        else none
                                                      else none
                                                    else
                                                      rec ((), (v.2.1.1, v.2.1.2.1, (List.take ((List.length y5) - (1 : Nat)) (List.drop (1 : Nat) y5)), ((List.take ((List.length y4) - (1 : Nat)) (List.drop (1 : Nat) y4)) ++ ([(List.getD y5 (0 : Nat) z_Job)] : List D_Job)), ()), (IntKind.wrap .i64 (v.2.2.1 + (1 : Int))), ())
                                                  else none
                                                else none
                                              else none
                                            else none
                                          else
                                            bif (decide ((0 : Int) < (((List.length v.2.1.2.1) : Nat) : Int))) then
                                              bif (decide ((0 : Int) < (((List.length v.2.1.2.1) : Nat) : Int))) then
                                                bif (decide ((0 : Nat) < (List.length v.2.1.2.1))) then
                                                  bif (decide ((0 : Int) < (((List.length v.2.1.2.1) : Nat) : Int))) then
                                                    bif (decide ((0 : Nat) < (List.length v.2.1.2.1))) then
                                                      let y7 : (List D_Job) := (List.set v.2.1.2.1 (0 : Nat) ((List.getD v.2.1.2.1 (0 : Nat) z_Job).1, ((IntKind.wrap .i64 ((List.getD v.2.1.2.1 (0 : Nat) z_Job).2.1.1 - (1 : Int))), (List.getD v.2.1.2.1 (0 : Nat) z_Job).2.1.2), ()))
                                                      bif (decide ((0 : Int) < (((List.length y7) : Nat) : Int))) then
                                                        bif (decide ((0 : Nat) < (List.length y7))) then
                                                          bif (decide ((List.getD y7 (0 : Nat) z_Job).2.1.1 = (0 : Int))) then
                                                            bif (decide ((0 : Int) < (((List.length y7) : Nat) : Int))) then
                                                              bif (decide ((0 : Nat) < (List.length y7))) then
                                                                bif (decide ((((List.length y5) + (1 : Nat)) * 32) ≤ (1099511627776 : Nat))) then
                                                                  bif ((decide ((1 : Int) ≤ (((List.length y7) : Nat) : Int))) && (decide ((((List.length y7) : Nat) : Int) ≤ (((List.length y7) : Nat) : Int)))) then
                                                                    rec ((), (v.2.1.1, (List.take ((List.length y7) - (1 : Nat)) (List.drop (1 : Nat) y7)), (y5 ++ ([(List.getD y7 (0 : Nat) z_Job)] : List D_Job)), (List.take ((List.length y4) - (1 : Nat)) (List.drop (1 : Nat) y4)), ()), (IntKind.wrap .i64 (v.2.2.1 + (1 : Int))), ())
                                                                  else none
                                                                else none
                                                              else none
                                                            else none
                                                          else
                                                            rec ((), (v.2.1.1, y7, y5, (List.take ((List.length y4) - (1 : Nat)) (List.drop (1 : Nat) y4)), ()), (IntKind.wrap .i64 (v.2.2.1 + (1 : Int))), ())
                                                        else none
                                                      else none
                                                    else none
                                                  else none
                                                else none
                                              else none
                                            else
                                              rec ((), (v.2.1.1, v.2.1.2.1, y5, (List.take ((List.length y4) - (1 : Nat)) (List.drop (1 : Nat) y4)), ()), (IntKind.wrap .i64 (v.2.2.1 + (1 : Int))), ())
                                        else none
                                      else none
                                    else none
                                  else none
                                else none
                              else none
                            else
                              bif (decide ((0 : Int) < (((List.length v.2.1.2.1) : Nat) : Int))) then
                                bif (decide ((0 : Int) < (((List.length v.2.1.2.1) : Nat) : Int))) then
                                  bif (decide ((0 : Nat) < (List.length v.2.1.2.1))) then
                                    bif (decide ((0 : Int) < (((List.length v.2.1.2.1) : Nat) : Int))) then
                                      bif (decide ((0 : Nat) < (List.length v.2.1.2.1))) then
                                        let y8 : (List D_Job) := (List.set v.2.1.2.1 (0 : Nat) ((List.getD v.2.1.2.1 (0 : Nat) z_Job).1, ((IntKind.wrap .i64 ((List.getD v.2.1.2.1 (0 : Nat) z_Job).2.1.1 - (1 : Int))), (List.getD v.2.1.2.1 (0 : Nat) z_Job).2.1.2), ()))
                                        bif (decide ((0 : Int) < (((List.length y8) : Nat) : Int))) then
                                          bif (decide ((0 : Nat) < (List.length y8))) then
                                            bif (decide ((List.getD y8 (0 : Nat) z_Job).2.1.1 = (0 : Int))) then
                                              bif (decide ((0 : Int) < (((List.length y8) : Nat) : Int))) then
                                                bif (decide ((0 : Nat) < (List.length y8))) then
                                                  bif (decide ((((List.length v.2.1.2.2.1) + (1 : Nat)) * 32) ≤ (1099511627776 : Nat))) then
                                                    bif ((decide ((1 : Int) ≤ (((List.length y8) : Nat) : Int))) && (decide ((((List.length y8) : Nat) : Int) ≤ (((List.length y8) : Nat) : Int)))) then
                                                      rec ((), (v.2.1.1, (List.take ((List.length y8) - (1 : Nat)) (List.drop (1 : Nat) y8)), (v.2.1.2.2.1 ++ ([(List.getD y8 (0 : Nat) z_Job)] : List D_Job)), (List.take ((List.length y4) - (1 : Nat)) (List.drop (1 : Nat) y4)), ()), (IntKind.wrap .i64 (v.2.2.1 + (1 : Int))), ())
                                                    else none
                                                  else none
                                                else none
                                              else none
                                            else
                                              rec ((), (v.2.1.1, y8, v.2.1.2.2.1, (List.take ((List.length y4) - (1 : Nat)) (List.drop (1 : Nat) y4)), ()), (IntKind.wrap .i64 (v.2.2.1 + (1 : Int))), ())
                                          else none
                                        else none
                                      else none
                                    else none
                                  else none
                                else none
                              else
                                rec ((), (v.2.1.1, v.2.1.2.1, v.2.1.2.2.1, (List.take ((List.length y4) - (1 : Nat)) (List.drop (1 : Nat) y4)), ()), (IntKind.wrap .i64 (v.2.2.1 + (1 : Int))), ())
                          else none
                        else none
                      else none
                    else
                      bif (decide ((0 : Int) < (((List.length v.2.1.2.2.1) : Nat) : Int))) then
                        bif (decide ((0 : Int) < (((List.length v.2.1.2.2.1) : Nat) : Int))) then
                          bif (decide ((0 : Nat) < (List.length v.2.1.2.2.1))) then
                            bif (decide ((0 : Int) < (((List.length v.2.1.2.2.1) : Nat) : Int))) then
                              bif (decide ((0 : Nat) < (List.length v.2.1.2.2.1))) then
                                let y9 : (List D_Job) := (List.set v.2.1.2.2.1 (0 : Nat) ((List.getD v.2.1.2.2.1 (0 : Nat) z_Job).1, ((List.getD v.2.1.2.2.1 (0 : Nat) z_Job).2.1.1, (IntKind.wrap .i64 ((List.getD v.2.1.2.2.1 (0 : Nat) z_Job).2.1.2.1 - (1 : Int))), (List.getD v.2.1.2.2.1 (0 : Nat) z_Job).2.1.2.2), ()))
                                bif (decide ((0 : Int) < (((List.length y9) : Nat) : Int))) then
                                  bif (decide ((0 : Nat) < (List.length y9))) then
                                    bif (decide ((List.getD y9 (0 : Nat) z_Job).2.1.2.1 = (0 : Int))) then
                                      bif (decide ((0 : Int) < (((List.length y9) : Nat) : Int))) then
                                        bif (decide ((0 : Nat) < (List.length y9))) then
                                          bif (decide ((((List.length y4) + (1 : Nat)) * 32) ≤ (1099511627776 : Nat))) then
                                            bif ((decide ((1 : Int) ≤ (((List.length y9) : Nat) : Int))) && (decide ((((List.length y9) : Nat) : Int) ≤ (((List.length y9) : Nat) : Int)))) then
                                              bif (decide ((0 : Int) < (((List.length v.2.1.2.1) : Nat) : Int))) then
                                                bif (decide ((0 : Int) < (((List.length v.2.1.2.1) : Nat) : Int))) then
                                                  bif (decide ((0 : Nat) < (List.length v.2.1.2.1))) then
                                                    bif (decide ((0 : Int) < (((List.length v.2.1.2.1) : Nat) : Int))) then
                                                      bif (decide ((0 : Nat) < (List.length v.2.1.2.1))) then
                                                        let y10 : (List D_Job) := (List.set v.2.1.2.1 (0 : Nat) ((List.getD v.2.1.2.1 (0 : Nat) z_Job).1, ((IntKind.wrap .i64 ((List.getD v.2.1.2.1 (0 : Nat) z_Job).2.1.1 - (1 : Int))), (List.getD v.2.1.2.1 (0 : Nat) z_Job).2.1.2), ()))
                                                        bif (decide ((0 : Int) < (((List.length y10) : Nat) : Int))) then
                                                          bif (decide ((0 : Nat) < (List.length y10))) then
                                                            bif (decide ((List.getD y10 (0 : Nat) z_Job).2.1.1 = (0 : Int))) then
                                                              bif (decide ((0 : Int) < (((List.length y10) : Nat) : Int))) then
                                                                bif (decide ((0 : Nat) < (List.length y10))) then
                                                                  bif (decide (((((List.length y9) - (1 : Nat)) + (1 : Nat)) * 32) ≤ (1099511627776 : Nat))) then
                                                                    bif ((decide ((1 : Int) ≤ (((List.length y10) : Nat) : Int))) && (decide ((((List.length y10) : Nat) : Int) ≤ (((List.length y10) : Nat) : Int)))) then
                                                                      rec ((), (v.2.1.1, (List.take ((List.length y10) - (1 : Nat)) (List.drop (1 : Nat) y10)), ((List.take ((List.length y9) - (1 : Nat)) (List.drop (1 : Nat) y9)) ++ ([(List.getD y10 (0 : Nat) z_Job)] : List D_Job)), (y4 ++ ([(List.getD y9 (0 : Nat) z_Job)] : List D_Job)), ()), (IntKind.wrap .i64 (v.2.2.1 + (1 : Int))), ())
                                                                    else none
                                                                  else none
                                                                else none
                                                              else none
                                                            else
                                                              rec ((), (v.2.1.1, y10, (List.take ((List.length y9) - (1 : Nat)) (List.drop (1 : Nat) y9)), (y4 ++ ([(List.getD y9 (0 : Nat) z_Job)] : List D_Job)), ()), (IntKind.wrap .i64 (v.2.2.1 + (1 : Int))), ())
                                                          else none
                                                        else none
                                                      else none
                                                    else none
                                                  else none
                                                else none
                                              else
                                                rec ((), (v.2.1.1, v.2.1.2.1, (List.take ((List.length y9) - (1 : Nat)) (List.drop (1 : Nat) y9)), (y4 ++ ([(List.getD y9 (0 : Nat) z_Job)] : List D_Job)), ()), (IntKind.wrap .i64 (v.2.2.1 + (1 : Int))), ())
                                            else none
                                          else none
                                        else none
                                      else none
                                    else
                                      bif (decide ((0 : Int) < (((List.length v.2.1.2.1) : Nat) : Int))) then
                                        bif (decide ((0 : Int) < (((List.length v.2.1.2.1) : Nat) : Int))) then
                                          bif (decide ((0 : Nat) < (List.length v.2.1.2.1))) then
                                            bif (decide ((0 : Int) < (((List.length v.2.1.2.1) : Nat) : Int))) then
                                              bif (decide ((0 : Nat) < (List.length v.2.1.2.1))) then
                                                let y11 : (List D_Job) := (List.set v.2.1.2.1 (0 : Nat) ((List.getD v.2.1.2.1 (0 : Nat) z_Job).1, ((IntKind.wrap .i64 ((List.getD v.2.1.2.1 (0 : Nat) z_Job).2.1.1 - (1 : Int))), (List.getD v.2.1.2.1 (0 : Nat) z_Job).2.1.2), ()))
                                                bif (decide ((0 : Int) < (((List.length y11) : Nat) : Int))) then
                                                  bif (decide ((0 : Nat) < (List.length y11))) then
                                                    bif (decide ((List.getD y11 (0 : Nat) z_Job).2.1.1 = (0 : Int))) then
                                                      bif (decide ((0 : Int) < (((List.length y11) : Nat) : Int))) then
                                                        bif (decide ((0 : Nat) < (List.length y11))) then
                                                          bif (decide ((((List.length y9) + (1 : Nat)) * 32) ≤ (1099511627776 : Nat))) then
                                                            bif ((decide ((1 : Int) ≤ (((List.length y11) : Nat) : Int))) && (decide ((((List.length y11) : Nat) : Int) ≤ (((List.length y11) : Nat) : Int)))) then
                                                              rec ((), (v.2.1.1, (List.take ((List.length y11) - (1 : Nat)) (List.drop (1 : Nat) y11)), (y9 ++ ([(List.getD y11 (0 : Nat) z_Job)] : List D_Job)), y4, ()), (IntKind.wrap .i64 (v.2.2.1 + (1 : Int))), ())
                                                            else none
                                                          else none
                                                        else none
                                                      else none
                                                    else
                                                      rec ((), (v.2.1.1, y11, y9, y4, ()), (IntKind.wrap .i64 (v.2.2.1 + (1 : Int))), ())
                                                  else none
                                                else none
                                              else none
                                            else none
                                          else none
                                        else none
                                      else
                                        rec ((), (v.2.1.1, v.2.1.2.1, y9, y4, ()), (IntKind.wrap .i64 (v.2.2.1 + (1 : Int))), ())
                                  else none
                                else none
                              else none
                            else none
                          else none
                        else none
                      else
                        bif (decide ((0 : Int) < (((List.length v.2.1.2.1) : Nat) : Int))) then
                          bif (decide ((0 : Int) < (((List.length v.2.1.2.1) : Nat) : Int))) then
                            bif (decide ((0 : Nat) < (List.length v.2.1.2.1))) then
                              bif (decide ((0 : Int) < (((List.length v.2.1.2.1) : Nat) : Int))) then
                                bif (decide ((0 : Nat) < (List.length v.2.1.2.1))) then
                                  let y12 : (List D_Job) := (List.set v.2.1.2.1 (0 : Nat) ((List.getD v.2.1.2.1 (0 : Nat) z_Job).1, ((IntKind.wrap .i64 ((List.getD v.2.1.2.1 (0 : Nat) z_Job).2.1.1 - (1 : Int))), (List.getD v.2.1.2.1 (0 : Nat) z_Job).2.1.2), ()))
                                  bif (decide ((0 : Int) < (((List.length y12) : Nat) : Int))) then
                                    bif (decide ((0 : Nat) < (List.length y12))) then
                                      bif (decide ((List.getD y12 (0 : Nat) z_Job).2.1.1 = (0 : Int))) then
                                        bif (decide ((0 : Int) < (((List.length y12) : Nat) : Int))) then
                                          bif (decide ((0 : Nat) < (List.length y12))) then
                                            bif (decide ((((List.length v.2.1.2.2.1) + (1 : Nat)) * 32) ≤ (1099511627776 : Nat))) then
                                              bif ((decide ((1 : Int) ≤ (((List.length y12) : Nat) : Int))) && (decide ((((List.length y12) : Nat) : Int) ≤ (((List.length y12) : Nat) : Int)))) then
                                                rec ((), (v.2.1.1, (List.take ((List.length y12) - (1 : Nat)) (List.drop (1 : Nat) y12)), (v.2.1.2.2.1 ++ ([(List.getD y12 (0 : Nat) z_Job)] : List D_Job)), y4, ()), (IntKind.wrap .i64 (v.2.2.1 + (1 : Int))), ())
                                              else none
                                            else none
                                          else none
                                        else none
                                      else
                                        rec ((), (v.2.1.1, y12, v.2.1.2.2.1, y4, ()), (IntKind.wrap .i64 (v.2.2.1 + (1 : Int))), ())
                                    else none
                                  else none
                                else none
                              else none
                            else none
                          else none
                        else
                          rec ((), (v.2.1.1, v.2.1.2.1, v.2.1.2.2.1, y4, ()), (IntKind.wrap .i64 (v.2.2.1 + (1 : Int))), ())
                  else none
                else none
              else none
            else none
          else none
        else none
      else
        bif (decide ((0 : Int) < (((List.length v.2.1.2.2.1) : Nat) : Int))) then
          bif (decide ((0 : Int) < (((List.length v.2.1.2.2.1) : Nat) : Int))) then
            bif (decide ((0 : Nat) < (List.length v.2.1.2.2.1))) then
              bif (decide ((0 : Int) < (((List.length v.2.1.2.2.1) : Nat) : Int))) then
                bif (decide ((0 : Nat) < (List.length v.2.1.2.2.1))) then
                  let y13 : (List D_Job) := (List.set v.2.1.2.2.1 (0 : Nat) ((List.getD v.2.1.2.2.1 (0 : Nat) z_Job).1, ((List.getD v.2.1.2.2.1 (0 : Nat) z_Job).2.1.1, (IntKind.wrap .i64 ((List.getD v.2.1.2.2.1 (0 : Nat) z_Job).2.1.2.1 - (1 : Int))), (List.getD v.2.1.2.2.1 (0 : Nat) z_Job).2.1.2.2), ()))
                  bif (decide ((0 : Int) < (((List.length y13) : Nat) : Int))) then
                    bif (decide ((0 : Nat) < (List.length y13))) then
                      bif (decide ((List.getD y13 (0 : Nat) z_Job).2.1.2.1 = (0 : Int))) then
                        bif (decide ((0 : Int) < (((List.length y13) : Nat) : Int))) then
                          bif (decide ((0 : Nat) < (List.length y13))) then
                            bif (decide ((((List.length v.2.1.2.2.2.1) + (1 : Nat)) * 32) ≤ (1099511627776 : Nat))) then
                              bif ((decide ((1 : Int) ≤ (((List.length y13) : Nat) : Int))) && (decide ((((List.length y13) : Nat) : Int) ≤ (((List.length y13) : Nat) : Int)))) then
                                bif (decide ((0 : Int) < (((List.length v.2.1.2.1) : Nat) : Int))) then
                                  bif (decide ((0 : Int) < (((List.length v.2.1.2.1) : Nat) : Int))) then
                                    bif (decide ((0 : Nat) < (List.length v.2.1.2.1))) then
                                      bif (decide ((0 : Int) < (((List.length v.2.1.2.1) : Nat) : Int))) then
                                        bif (decide ((0 : Nat) < (List.length v.2.1.2.1))) then
                                          let y14 : (List D_Job) := (List.set v.2.1.2.1 (0 : Nat) ((List.getD v.2.1.2.1 (0 : Nat) z_Job).1, ((IntKind.wrap .i64 ((List.getD v.2.1.2.1 (0 : Nat) z_Job).2.1.1 - (1 : Int))), (List.getD v.2.1.2.1 (0 : Nat) z_Job).2.1.2), ()))
                                          bif (decide ((0 : Int) < (((List.length y14) : Nat) : Int))) then
                                            bif (decide ((0 : Nat) < (List.length y14))) then
                                              bif (decide ((List.getD y14 (0 : Nat) z_Job).2.1.1 = (0 : Int))) then
                                                bif (decide ((0 : Int) < (((List.length y14) : Nat) : Int))) then
                                                  bif (decide ((0 : Nat) < (List.length y14))) then
                                                    bif (decide (((((List.length y13) - (1 : Nat)) + (1 : Nat)) * 32) ≤ (1099511627776 : Nat))) then
                                                      bif ((decide ((1 : Int) ≤ (((List.length y14) : Nat) : Int))) && (decide ((((List.length y14) : Nat) : Int) ≤ (((List.length y14) : Nat) : Int)))) then
                                                        rec ((), (v.2.1.1, (List.take ((List.length y14) - (1 : Nat)) (List.drop (1 : Nat) y14)), ((List.take ((List.length y13) - (1 : Nat)) (List.drop (1 : Nat) y13)) ++ ([(List.getD y14 (0 : Nat) z_Job)] : List D_Job)), (v.2.1.2.2.2.1 ++ ([(List.getD y13 (0 : Nat) z_Job)] : List D_Job)), ()), (IntKind.wrap .i64 (v.2.2.1 + (1 : Int))), ())
                                                      else none
                                                    else none
                                                  else none
                                                else none
                                              else
                                                rec ((), (v.2.1.1, y14, (List.take ((List.length y13) - (1 : Nat)) (List.drop (1 : Nat) y13)), (v.2.1.2.2.2.1 ++ ([(List.getD y13 (0 : Nat) z_Job)] : List D_Job)), ()), (IntKind.wrap .i64 (v.2.2.1 + (1 : Int))), ())
                                            else none
                                          else none
                                        else none
                                      else none
                                    else none
                                  else none
                                else
                                  rec ((), (v.2.1.1, v.2.1.2.1, (List.take ((List.length y13) - (1 : Nat)) (List.drop (1 : Nat) y13)), (v.2.1.2.2.2.1 ++ ([(List.getD y13 (0 : Nat) z_Job)] : List D_Job)), ()), (IntKind.wrap .i64 (v.2.2.1 + (1 : Int))), ())
                              else none
                            else none
                          else none
                        else none
                      else
                        bif (decide ((0 : Int) < (((List.length v.2.1.2.1) : Nat) : Int))) then
                          bif (decide ((0 : Int) < (((List.length v.2.1.2.1) : Nat) : Int))) then
                            bif (decide ((0 : Nat) < (List.length v.2.1.2.1))) then
                              bif (decide ((0 : Int) < (((List.length v.2.1.2.1) : Nat) : Int))) then
                                bif (decide ((0 : Nat) < (List.length v.2.1.2.1))) then
                                  let y15 : (List D_Job) := (List.set v.2.1.2.1 (0 : Nat) ((List.getD v.2.1.2.1 (0 : Nat) z_Job).1, ((IntKind.wrap .i64 ((List.getD v.2.1.2.1 (0 : Nat) z_Job).2.1.1 - (1 : Int))), (List.getD v.2.1.2.1 (0 : Nat) z_Job).2.1.2), ()))
                                  bif (decide ((0 : Int) < (((List.length y15) : Nat) : Int))) then
                                    bif (decide ((0 : Nat) < (List.length y15))) then
                                      bif (decide ((List.getD y15 (0 : Nat) z_Job).2.1.1 = (0 : Int))) then
                                        bif (decide ((0 : Int) < (((List.length y15) : Nat) : Int))) then
                                          bif (decide ((0 : Nat) < (List.length y15))) then
                                            bif (decide ((((List.length y13) + (1 : Nat)) * 32) ≤ (1099511627776 : Nat))) then
                                              bif ((decide ((1 : Int) ≤ (((List.length y15) : Nat) : Int))) && (decide ((((List.length y15) : Nat) : Int) ≤ (((List.length y15) : Nat) : Int)))) then
                                                rec ((), (v.2.1.1, (List.take ((List.length y15) - (1 : Nat)) (List.drop (1 : Nat) y15)), (y13 ++ ([(List.getD y15 (0 : Nat) z_Job)] : List D_Job)), v.2.1.2.2.2), (IntKind.wrap .i64 (v.2.2.1 + (1 : Int))), ())
                                              else none
                                            else none
                                          else none
                                        else none
                                      else
                                        rec ((), (v.2.1.1, y15, y13, v.2.1.2.2.2), (IntKind.wrap .i64 (v.2.2.1 + (1 : Int))), ())
                                    else none
                                  else none
                                else none
                              else none
                            else none
                          else none
                        else
                          rec ((), (v.2.1.1, v.2.1.2.1, y13, v.2.1.2.2.2), (IntKind.wrap .i64 (v.2.2.1 + (1 : Int))), ())
                    else none
                  else none
                else none
              else none
            else none
          else none
        else
          bif (decide ((0 : Int) < (((List.length v.2.1.2.1) : Nat) : Int))) then
            bif (decide ((0 : Int) < (((List.length v.2.1.2.1) : Nat) : Int))) then
              bif (decide ((0 : Nat) < (List.length v.2.1.2.1))) then
                bif (decide ((0 : Int) < (((List.length v.2.1.2.1) : Nat) : Int))) then
                  bif (decide ((0 : Nat) < (List.length v.2.1.2.1))) then
                    let y16 : (List D_Job) := (List.set v.2.1.2.1 (0 : Nat) ((List.getD v.2.1.2.1 (0 : Nat) z_Job).1, ((IntKind.wrap .i64 ((List.getD v.2.1.2.1 (0 : Nat) z_Job).2.1.1 - (1 : Int))), (List.getD v.2.1.2.1 (0 : Nat) z_Job).2.1.2), ()))
                    bif (decide ((0 : Int) < (((List.length y16) : Nat) : Int))) then
                      bif (decide ((0 : Nat) < (List.length y16))) then
                        bif (decide ((List.getD y16 (0 : Nat) z_Job).2.1.1 = (0 : Int))) then
                          bif (decide ((0 : Int) < (((List.length y16) : Nat) : Int))) then
                            bif (decide ((0 : Nat) < (List.length y16))) then
                              bif (decide ((((List.length v.2.1.2.2.1) + (1 : Nat)) * 32) ≤ (1099511627776 : Nat))) then
                                bif ((decide ((1 : Int) ≤ (((List.length y16) : Nat) : Int))) && (decide ((((List.length y16) : Nat) : Int) ≤ (((List.length y16) : Nat) : Int)))) then
                                  rec ((), (v.2.1.1, (List.take ((List.length y16) - (1 : Nat)) (List.drop (1 : Nat) y16)), (v.2.1.2.2.1 ++ ([(List.getD y16 (0 : Nat) z_Job)] : List D_Job)), v.2.1.2.2.2), (IntKind.wrap .i64 (v.2.2.1 + (1 : Int))), ())
                                else none
                              else none
                            else none
                          else none
                        else
                          rec ((), (v.2.1.1, y16, v.2.1.2.2), (IntKind.wrap .i64 (v.2.2.1 + (1 : Int))), ())
                      else none
                    else none
                  else none
                else none
              else none
            else none
          else
            rec ((), v.2.1, (IntKind.wrap .i64 (v.2.2.1 + (1 : Int))), ())
    else
      some ((), v.2.2)
def impl_LineEnd (k : Nat) (x0 : D_Line) : Option ((Int × Unit) × Unit) :=
  (impl_LineOk k x0).bind fun t1 =>
    bif (!t1.1.1) then
      some (((-1 : Int), ()), ())
    else
      (impl_copyLine x0).bind fun t2 =>
        (iter (impl_LineEnd_s4 k) k ((), t2.1.1, (0 : Int), ())).bind fun o3 =>
          some (o3.2, ())
def laws_eqVec (x0 : D_Vec) (x1 : D_Vec) : Option ((Bool × Unit) × Unit) :=
  bif (!(decide (x0.1 = x1.1))) then
    some ((false, ()), ())
  else
    bif (!(decide (x0.2.1 = x1.2.1))) then
      some ((false, ()), ())
    else
      bif (!(decide (x0.2.2.1 = x1.2.2.1))) then
        some ((false, ()), ())
      else
        some ((true, ()), ())
def laws_eqJob (x0 : D_Job) (x1 : D_Job) : Option ((Bool × Unit) × Unit) :=
  bif (!(decide (x0.1 = x1.1))) then
    some ((false, ()), ())
  else
    (laws_eqVec x0.2.1 x1.2.1).bind fun t1 =>
      bif (!t1.1.1) then
        some ((false, ()), ())
      else
        some ((true, ()), ())
def laws_eqJobS_s4 (rec : (Unit × ((List D_Job) × ((List D_Job) × (Int × Unit)))) → Option ((Unit × (Bool × Unit)) ⊕ (Unit × Unit))) (v : (Unit × ((List D_Job) × ((List D_Job) × (Int × Unit))))) : Option ((Unit × (Bool × Unit)) ⊕ (Unit × Unit)) :=
  bif (decide (v.2.2.2.1 < (((List.length v.2.1) : Nat) : Int))) then
    bif ((decide ((0 : Int) ≤ v.2.2.2.1)) && (decide (v.2.2.2.1 < (((List.length v.2.1) : Nat) : Int)))) then
      bif (decide ((Int.toNat v.2.2.2.1) < (List.length v.2.1))) then
        bif ((decide ((0 : Int) ≤ v.2.2.2.1)) && (decide (v.2.2.2.1 < (((List.length v.2.2.1) : Nat) : Int)))) then
          bif (decide ((Int.toNat v.2.2.2.1) < (List.length v.2.2.1))) then
            (laws_eqJob (List.getD v.2.1 (Int.toNat v.2.2.2.1) z_Job) (List.getD v.2.2.1 (Int.toNat v.2.2.2.1) z_Job)).bind fun t1 =>
              bif (!t1.1.1) then
                some (Sum.inl ((), false, ()))
              else
                rec ((), v.2.1, v.2.2.1, (IntKind.wrap .i64 (v.2.2.2.1 + (1 : Int))), ())
          else none
        else none
      else none
    else none
  else
    some (Sum.inr ((), ()))
def laws_eqJobS (k : Nat) (x0 : (List D_Job)) (x1 : (List D_Job)) : Option ((Bool × Unit) × Unit) :=
  bif (!(decide ((((List.length x0) : Nat) : Int) = (((List.length x1) : Nat) : Int)))) then
    some ((false, ()), ())
  else
    (iter (laws_eqJobS_s4) k ((), x0, x1, (0 : Int), ())).bind fun o1 =>
      Sum.elim (fun a2 =>
        some (a2.2, ()))
      (fun b3 =>
        some ((true, ()), ())) o1
def laws_eqLine (k : Nat) (x0 : D_Line) (x1 : D_Line) : Option ((Bool × Unit) × Unit) :=
  bif (!(decide (x0.1 = x1.1))) then
    some ((false, ()), ())
  else
    (laws_eqJobS k x0.2.1 x1.2.1).bind fun t1 =>
      bif (!t1.1.1) then
        some ((false, ()), ())
      else
        (laws_eqJobS k x0.2.2.1 x1.2.2.1).bind fun t2 =>
          bif (!t2.1.1) then
            some ((false, ()), ())
          else
            (laws_eqJobS k x0.2.2.2.1 x1.2.2.2.1).bind fun t3 =>
              bif (!t3.1.1) then
                some ((false, ()), ())
              else
                some ((true, ()), ())
def laws_FnExactLineEnd (k : Nat) (x0 : D_Line) : Option ((Bool × Unit) × Unit) :=
  (laws_szLine x0 (1048576 : Int)).bind fun t1 =>
    bif (decide (t1.1.1 < (0 : Int))) then
      some ((true, ()), ())
    else
      (laws_toLine k x0).bind fun t2 =>
        (spec_LineEnd k t2.1.1).bind fun t3 =>
          (laws_toLine k x0).bind fun t4 =>
            (impl_LineEnd k t4.1.1).bind fun t5 =>
              bif (!(decide (t5.1.1 = t3.1.1))) then
                some ((false, ()), ())
              else
                (laws_toLine k x0).bind fun t6 =>
                  (laws_eqLine k t4.1.1 t6.1.1).bind fun t7 =>
                    bif (!t7.1.1) then
                      some ((false, ()), ())
                    else
                      some ((true, ()), ())
def spec_l21Copy (x0 : D_Line) : Option ((D_Line × Unit) × Unit) :=
  bif (decide ((((0 : Nat) + (List.length x0.2.1)) * 32) ≤ (1099511627776 : Nat))) then
    bif (decide ((((0 : Nat) + (List.length x0.2.2.1)) * 32) ≤ (1099511627776 : Nat))) then
      bif (decide ((((0 : Nat) + (List.length x0.2.2.2.1)) * 32) ≤ (1099511627776 : Nat))) then
        some ((x0, ()), ())
      else none
    else none
  else none
def spec_l21Tick (x0 : D_Line) : Option ((D_Line × (Int × Unit)) × Unit) :=
  (spec_l21Copy x0).bind fun t1 =>
    bif (decide ((0 : Int) < (((List.length t1.1.1.2.2.2.1) : Nat) : Int))) then
      bif (decide ((0 : Int) < (((List.length t1.1.1.2.2.2.1) : Nat) : Int))) then
        bif (decide ((0 : Nat) < (List.length t1.1.1.2.2.2.1))) then
          bif (decide ((0 : Int) < (((List.length t1.1.1.2.2.2.1) : Nat) : Int))) then
            bif (decide ((0 : Nat) < (List.length t1.1.1.2.2.2.1))) then
              let y2 : (List D_Job) := (List.set t1.1.1.2.2.2.1 (0 : Nat) ((List.getD t1.1.1.2.2.2.1 (0 : Nat) z_Job).1, ((List.getD t1.1.1.2.2.2.1 (0 : Nat) z_Job).2.1.1, (List.getD t1.1.1.2.2.2.1 (0 : Nat) z_Job).2.1.2.1, (IntKind.wrap .i64 ((List.getD t1.1.1.2.2.2.1 (0 : Nat) z_Job).2.1.2.2.1 - (1 : Int))), ()), ()))
              bif (decide ((0 : Int) < (((List.length y2) : Nat) : Int))) then
                bif (decide ((0 : Nat) < (List.length y2))) then
                  bif (decide ((List.getD y2 (0 : Nat) z_Job).2.1.2.2.1 = (0 : Int))) then
                    bif (decide ((0 : Int) < (((List.length y2) : Nat) : Int))) then
                      bif (decide ((0 : Nat) < (List.length y2))) then
                        bif ((decide ((1 : Int) ≤ (((List.length y2) : Nat) : Int))) && (decide ((((List.length y2) : Nat) : Int) ≤ (((List.length y2) : Nat) : Int)))) then
                          bif (decide ((((0 : Nat) + (List.length (List.take ((List.length y2) - (1 : Nat)) (List.drop (1 : Nat) y2)))) * 32) ≤ (1099511627776 : Nat))) then
                            bif (decide ((0 : Int) < (((List.length t1.1.1.2.2.1) : Nat) : Int))) then
                              bif (decide ((0 : Int) < (((List.length t1.1.1.2.2.1) : Nat) : Int))) then
                                bif (decide ((0 : Nat) < (List.length t1.1.1.2.2.1))) then
                                  bif (decide ((0 : Int) < (((List.length t1.1.1.2.2.1) : Nat) : Int))) then
                                    bif (decide ((0 : Nat) < (List.length t1.1.1.2.2.1))) then
                                      let y3 : (List D_Job) := (List.set t1.1.1.2.2.1 (0 : Nat) ((List.getD t1.1.1.2.2.1 (0 : Nat) z_Job).1, ((List.getD t1.1.1.2.2.1 (0 : Nat) z_Job).2.1.1, (IntKind.wrap .i64 ((List.getD t1.1.1.2.2.1 (0 : Nat) z_Job).2.1.2.1 - (1 : Int))), (List.getD t1.1.1.2.2.1 (0 : Nat) z_Job).2.1.2.2), ()))
                                      bif (decide ((0 : Int) < (((List.length y3) : Nat) : Int))) then
                                        bif (decide ((0 : Nat) < (List.length y3))) then
                                          bif (decide ((List.getD y3 (0 : Nat) z_Job).2.1.2.1 = (0 : Int))) then
                                            bif (decide ((0 : Int) < (((List.length y3) : Nat) : Int))) then
                                              bif (decide ((0 : Nat) < (List.length y3))) then
                                                bif (decide ((((List.length (List.take ((List.length y2) - (1 : Nat)) (List.drop (1 : Nat) y2))) + (1 : Nat)) * 32) ≤ (1099511627776 : Nat))) then
                                                  bif ((decide ((1 : Int) ≤ (((List.length y3) : Nat) : Int))) && (decide ((((List.length y3) : Nat) : Int) ≤ (((List.length y3) : Nat) : Int)))) then
                                                    bif (decide ((((0 : Nat) + (List.length (List.take ((List.length y3) - (1 : Nat)) (List.drop (1 : Nat) y3)))) * 32) ≤ (1099511627776 : Nat))) then
                                                      bif (decide ((0 : Int) < (((List.length t1.1.1.2.1) : Nat) : Int))) then
                                                        bif (decide ((0 : Int) < (((List.length t1.1.1.2.1) : Nat) : Int))) then
                                                          bif (decide ((0 : Nat) < (List.length t1.1.1.2.1))) then
                                                            bif (decide ((0 : Int) < (((List.length t1.1.1.2.1) : Nat) : Int))) then
                                                              bif (decide ((0 : Nat) < (List.length t1.1.1.2.1))) then
                                                                let y4 : (List D_Job) := (List.set t1.1.1.2.1 (0 : Nat) ((List.getD t1.1.1.2.1 (0 : Nat) z_Job).1, ((IntKind.wrap .i64 ((List.getD t1.1.1.2.1 (0 : Nat) z_Job).2.1.1 - (1 : Int))), (List.getD t1.1.1.2.1 (0 : Nat) z_Job).2.1.2), ()))
                                                                bif (decide ((0 : Int) < (((List.length y4) : Nat) : Int))) then
                                                                  bif (decide ((0 : Nat) < (List.length y4))) then
                                                                    bif (decide ((List.getD y4 (0 : Nat) z_Job).2.1.1 = (0 : Int))) then
                                                                      bif (decide ((0 : Int) < (((List.length y4) : Nat) : Int))) then
                                                                        bif (decide ((0 : Nat) < (List.length y4))) then
                                                                          bif (decide ((((List.length (List.take ((List.length y3) - (1 : Nat)) (List.drop (1 : Nat) y3))) + (1 : Nat)) * 32) ≤ (1099511627776 : Nat))) then
                                                                            bif ((decide ((1 : Int) ≤ (((List.length y4) : Nat) : Int))) && (decide ((((List.length y4) : Nat) : Int) ≤ (((List.length y4) : Nat) : Int)))) then
                                                                              bif (decide ((((0 : Nat) + (List.length (List.take ((List.length y4) - (1 : Nat)) (List.drop (1 : Nat) y4)))) * 32) ≤ (1099511627776 : Nat))) then
                                                                                some (((t1.1.1.1, (List.take ((List.length y4) - (1 : Nat)) (List.drop (1 : Nat) y4)), ((List.take ((List.length y3) - (1 : Nat)) (List.drop (1 : Nat) y3)) ++ ([(List.getD y4 (0 : Nat) z_Job)] : List D_Job)), ((List.take ((List.length y2) - (1 : Nat)) (List.drop (1 : Nat) y2)) ++ ([(List.getD y3 (0 : Nat) z_Job)] : List D_Job)), ()), (List.getD y2 (0 : Nat) z_Job).1, ()), ())
                                                                              else none
                                                                            else none
                                                                          else none
                                                                        else none
                                                                      else none
                                                                    else
                                                                      some (((t1.1.1.1, y4, (List.take ((List.length y3) - (1 : Nat)) (List.drop (1 : Nat) y3)), ((List.take ((List.length y2) - (1 : Nat)) (List.drop (1 : Nat) y2)) ++ ([(List.getD y3 (0 : Nat) z_Job)] : List D_Job)), ()), (List.getD y2 (0 : Nat) z_Job).1, ()), ())
                                                                  else none
                                                                else none
                                                              else none
                                                            else none
                                                          else none
                                                        else none
                                                      else
                                                        some (((t1.1.1.1, t1.1.1.2.1, (List.take ((List.length y3) - (1 : Nat)) (List.drop (1 : Nat) y3)), ((List.take ((List.length y2) - (1 : Nat)) (List.drop (1 : Nat) y2)) ++ ([(List.getD y3 (0 : Nat) z_Job)] : List D_Job)), ()), (List.getD y2 (0 : Nat) z_Job).1, ()), ())
                                                    else none
                                                  else none
                                                else none
                                              else none
                                            else none
                                          else
                                            bif (decide ((0 : Int) < (((List.length t1.1.1.2.1) : Nat) : Int))) then
                                              bif (decide ((0 : Int) < (((List.length t1.1.1.2.1) : Nat) : Int))) then
                                                bif (decide ((0 : Nat) < (List.length t1.1.1.2.1))) then
                                                  bif (decide ((0 : Int) < (((List.length t1.1.1.2.1) : Nat) : Int))) then
                                                    bif (decide ((0 : Nat) < (List.length t1.1.1.2.1))) then
                                                      let y5 : (List D_Job) := (List.set t1.1.1.2.1 (0 : Nat) ((List.getD t1.1.1.2.1 (0 : Nat) z_Job).1, ((IntKind.wrap .i64 ((List.getD t1.1.1.2.1 (0 : Nat) z_Job).2.1.1 - (1 : Int))), (List.getD t1.1.1.2.1 (0 : Nat) z_Job).2.1.2), ()))
                                                      bif (decide ((0 : Int) < (((List.length y5) : Nat) : Int))) then
                                                        bif (decide ((0 : Nat) < (List.length y5))) then
                                                          bif (decide ((List.getD y5 (0 : Nat) z_Job).2.1.1 = (0 : Int))) then
                                                            bif (decide ((0 : Int) < (((List.length y5) : Nat) : Int))) then
                                                              bif (decide ((0 : Nat) < (List.length y5))) then
                                                                bif (decide ((((List.length y3) + (1 : Nat)) * 32) ≤ (1099511627776 : Nat))) then
                                                                  bif ((decide ((1 : Int) ≤ (((List.length y5) : Nat) : Int))) && (decide ((((List.length y5) : Nat) : Int) ≤ (((List.length y5) : Nat) : Int)))) then
                                                                    bif (decide ((((0 : Nat) + (List.length (List.take ((List.length y5) - (1 : Nat)) (List.drop (1 : Nat) y5)))) * 32) ≤ (1099511627776 : Nat))) then
                                                                      some (((t1.1.1.1, (List.take ((List.length y5) - (1 : Nat)) (List.drop (1 : Nat) y5)), (y3 ++ ([(List.getD y5 (0 : Nat) z_Job)] : List D_Job)), (List.take ((List.length y2) - (1 : Nat)) (List.drop (1 : Nat) y2)), ()), (List.getD y2 (0 : Nat) z_Job).1, ()), ())
                                                                    else none
                                                                  else none
                                                                else none
                                                              else none
                                                            else none
                                                          else
                                                            some (((t1.1.1.1, y5, y3, (List.take ((List.length y2) - (1 : Nat)) (List.drop (1 : Nat) y2)), ()), (List.getD y2 (0 : Nat) z_Job).1, ()), ())
                                                        else none
                                                      else none
                                                    else none
                                                  else none
                                                else none
                                              else none
                                            else
                                              some (((t1.1.1.1, t1.1.1.2.1, y3, (List.take ((List.length y2) - (1 : Nat)) (List.drop (1 : Nat) y2)), ()), (List.getD y2 (0 : Nat) z_Job).1, ()), ())
                                        else none
                                      else none
                                    else none
                                  else none
                                else none
                              else none
                            else
                              bif (decide ((0 : Int) < (((List.length t1.1.1.2.1) : Nat) : Int))) then
                                bif (decide ((0 : Int) < (((List.length t1.1.1.2.1) : Nat) : Int))) then
                                  bif (decide ((0 : Nat) < (List.length t1.1.1.2.1))) then
                                    bif (decide ((0 : Int) < (((List.length t1.1.1.2.1) : Nat) : Int))) then
                                      bif (decide ((0 : Nat) < (List.length t1.1.1.2.1))) then
                                        let y6 : (List D_Job) := (List.set t1.1.1.2.1 (0 : Nat) ((List.getD t1.1.1.2.1 (0 : Nat) z_Job).1, ((IntKind.wrap .i64 ((List.getD t1.1.1.2.1 (0 : Nat) z_Job).2.1.1 - (1 : Int))), (List.getD t1.1.1.2.1 (0 : Nat) z_Job).2.1.2), ()))
                                        bif (decide ((0 : Int) < (((List.length y6) : Nat) : Int))) then
                                          bif (decide ((0 : Nat) < (List.length y6))) then
                                            bif (decide ((List.getD y6 (0 : Nat) z_Job).2.1.1 = (0 : Int))) then
                                              bif (decide ((0 : Int) < (((List.length y6) : Nat) : Int))) then
                                                bif (decide ((0 : Nat) < (List.length y6))) then
                                                  bif (decide ((((List.length t1.1.1.2.2.1) + (1 : Nat)) * 32) ≤ (1099511627776 : Nat))) then
                                                    bif ((decide ((1 : Int) ≤ (((List.length y6) : Nat) : Int))) && (decide ((((List.length y6) : Nat) : Int) ≤ (((List.length y6) : Nat) : Int)))) then
                                                      bif (decide ((((0 : Nat) + (List.length (List.take ((List.length y6) - (1 : Nat)) (List.drop (1 : Nat) y6)))) * 32) ≤ (1099511627776 : Nat))) then
                                                        some (((t1.1.1.1, (List.take ((List.length y6) - (1 : Nat)) (List.drop (1 : Nat) y6)), (t1.1.1.2.2.1 ++ ([(List.getD y6 (0 : Nat) z_Job)] : List D_Job)), (List.take ((List.length y2) - (1 : Nat)) (List.drop (1 : Nat) y2)), ()), (List.getD y2 (0 : Nat) z_Job).1, ()), ())
                                                      else none
                                                    else none
                                                  else none
                                                else none
                                              else none
                                            else
                                              some (((t1.1.1.1, y6, t1.1.1.2.2.1, (List.take ((List.length y2) - (1 : Nat)) (List.drop (1 : Nat) y2)), ()), (List.getD y2 (0 : Nat) z_Job).1, ()), ())
                                          else none
                                        else none
                                      else none
                                    else none
                                  else none
                                else none
                              else
                                some (((t1.1.1.1, t1.1.1.2.1, t1.1.1.2.2.1, (List.take ((List.length y2) - (1 : Nat)) (List.drop (1 : Nat) y2)), ()), (List.getD y2 (0 : Nat) z_Job).1, ()), ())
                          else none
                        else none
                      else none
                    else none
                  else
                    bif (decide ((0 : Int) < (((List.length t1.1.1.2.2.1) : Nat) : Int))) then
                      bif (decide ((0 : Int) < (((List.length t1.1.1.2.2.1) : Nat) : Int))) then
                        bif (decide ((0 : Nat) < (List.length t1.1.1.2.2.1))) then
                          bif (decide ((0 : Int) < (((List.length t1.1.1.2.2.1) : Nat) : Int))) then
                            bif (decide ((0 : Nat) < (List.length t1.1.1.2.2.1))) then
                              let y7 : (List D_Job) := (List.set t1.1.1.2.2.1 (0 : Nat) ((List.getD t1.1.1.2.2.1 (0 : Nat) z_Job).1, ((List.getD t1.1.1.2.2.1 (0 : Nat) z_Job).2.1.1, (IntKind.wrap .i64 ((List.getD t1.1.1.2.2.1 (0 : Nat) z_Job).2.1.2.1 - (1 : Int))), (List.getD t1.1.1.2.2.1 (0 : Nat) z_Job).2.1.2.2), ()))
                              bif (decide ((0 : Int) < (((List.length y7) : Nat) : Int))) then
                                bif (decide ((0 : Nat) < (List.length y7))) then
                                  bif (decide ((List.getD y7 (0 : Nat) z_Job).2.1.2.1 = (0 : Int))) then
                                    bif (decide ((0 : Int) < (((List.length y7) : Nat) : Int))) then
                                      bif (decide ((0 : Nat) < (List.length y7))) then
                                        bif (decide ((((List.length y2) + (1 : Nat)) * 32) ≤ (1099511627776 : Nat))) then
                                          bif ((decide ((1 : Int) ≤ (((List.length y7) : Nat) : Int))) && (decide ((((List.length y7) : Nat) : Int) ≤ (((List.length y7) : Nat) : Int)))) then
                                            bif (decide ((((0 : Nat) + (List.length (List.take ((List.length y7) - (1 : Nat)) (List.drop (1 : Nat) y7)))) * 32) ≤ (1099511627776 : Nat))) then
                                              bif (decide ((0 : Int) < (((List.length t1.1.1.2.1) : Nat) : Int))) then
                                                bif (decide ((0 : Int) < (((List.length t1.1.1.2.1) : Nat) : Int))) then
                                                  bif (decide ((0 : Nat) < (List.length t1.1.1.2.1))) then
                                                    bif (decide ((0 : Int) < (((List.length t1.1.1.2.1) : Nat) : Int))) then
                                                      bif (decide ((0 : Nat) < (List.length t1.1.1.2.1))) then
                                                        let y8 : (List D_Job) := (List.set t1.1.1.2.1 (0 : Nat) ((List.getD t1.1.1.2.1 (0 : Nat) z_Job).1, ((IntKind.wrap .i64 ((List.getD t1.1.1.2.1 (0 : Nat) z_Job).2.1.1 - (1 : Int))), (List.getD t1.1.1.2.1 (0 : Nat) z_Job).2.1.2), ()))
                                                        bif (decide ((0 : Int) < (((List.length y8) : Nat) : Int))) then
                                                          bif (decide ((0 : Nat) < (List.length y8))) then
                                                            bif (decide ((List.getD y8 (0 : Nat) z_Job).2.1.1 = (0 : Int))) then
                                                              bif (decide ((0 : Int) < (((List.length y8) : Nat) : Int))) then
                                                                bif (decide ((0 : Nat) < (List.length y8))) then
                                                                  bif (decide ((((List.length (List.take ((List.length y7) - (1 : Nat)) (List.drop (1 : Nat) y7))) + (1 : Nat)) * 32) ≤ (1099511627776 : Nat))) then
                                                                    bif ((decide ((1 : Int) ≤ (((List.length y8) : Nat) : Int))) && (decide ((((List.length y8) : Nat) : Int) ≤ (((List.length y8) : Nat) : Int)))) then
                                                                      bif (decide ((((0 : Nat) + (List.length (List.take ((List.length y8) - (1 : Nat)) (List.drop (1 : Nat) y8)))) * 32) ≤ (1099511627776 : Nat))) then
                                                                        some (((t1.1.1.1, (List.take ((List.length y8) - (1 : Nat)) (List.drop (1 : Nat) y8)), ((List.take ((List.length y7) - (1 : Nat)) (List.drop (1 : Nat) y7)) ++ ([(List.getD y8 (0 : Nat) z_Job)] : List D_Job)), (y2 ++ ([(List.getD y7 (0 : Nat) z_Job)] : List D_Job)), ()), (-1 : Int), ()), ())
                                                                      else none
                                                                    else none
                                                                  else none
                                                                else none
                                                              else none
                                                            else
                                                              some (((t1.1.1.1, y8, (List.take ((List.length y7) - (1 : Nat)) (List.drop (1 : Nat) y7)), (y2 ++ ([(List.getD y7 (0 : Nat) z_Job)] : List D_Job)), ()), (-1 : Int), ()), ())
                                                          else none
                                                        else none
                                                      else none
                                                    else none
                                                  else none
                                                else none
                                              else
                                                some (((t1.1.1.1, t1.1.1.2.1, (List.take ((List.length y7) - (1 : Nat)) (List.drop (1 : Nat) y7)), (y2 ++ ([(List.getD y7 (0 : Nat) z_Job)] : List D_Job)), ()), (-1 : Int), ()), ())
                                            else none
                                          else none
                                        else none
                                      else none
                                    else none
                                  else
                                    bif (decide ((0 : Int) < (((List.length t1.1.1.2.1) : Nat) : Int))) then
                                      bif (decide ((0 : Int) < (((List.length t1.1.1.2.1) : Nat) : Int))) then
                                        bif (decide ((0 : Nat) < (List.length t1.1.1.2.1))) then
                                          bif (decide ((0 : Int) < (((List.length t1.1.1.2.1) : Nat) : Int))) then
                                            bif (decide ((0 : Nat) < (List.length t1.1.1.2.1))) then
                                              let y9 : (List D_Job) := (List.set t1.1.1.2.1 (0 : Nat) ((List.getD t1.1.1.2.1 (0 : Nat) z_Job).1, ((IntKind.wrap .i64 ((List.getD t1.1.1.2.1 (0 : Nat) z_Job).2.1.1 - (1 : Int))), (List.getD t1.1.1.2.1 (0 : Nat) z_Job).2.1.2), ()))
                                              bif (decide ((0 : Int) < (((List.length y9) : Nat) : Int))) then
                                                bif (decide ((0 : Nat) < (List.length y9))) then
                                                  bif (decide ((List.getD y9 (0 : Nat) z_Job).2.1.1 = (0 : Int))) then
                                                    bif (decide ((0 : Int) < (((List.length y9) : Nat) : Int))) then
                                                      bif (decide ((0 : Nat) < (List.length y9))) then
                                                        bif (decide ((((List.length y7) + (1 : Nat)) * 32) ≤ (1099511627776 : Nat))) then
                                                          bif ((decide ((1 : Int) ≤ (((List.length y9) : Nat) : Int))) && (decide ((((List.length y9) : Nat) : Int) ≤ (((List.length y9) : Nat) : Int)))) then
                                                            bif (decide ((((0 : Nat) + (List.length (List.take ((List.length y9) - (1 : Nat)) (List.drop (1 : Nat) y9)))) * 32) ≤ (1099511627776 : Nat))) then
                                                              some (((t1.1.1.1, (List.take ((List.length y9) - (1 : Nat)) (List.drop (1 : Nat) y9)), (y7 ++ ([(List.getD y9 (0 : Nat) z_Job)] : List D_Job)), y2, ()), (-1 : Int), ()), ())
                                                            else none
                                                          else none
                                                        else none
                                                      else none
                                                    else none
                                                  else
                                                    some (((t1.1.1.1, y9, y7, y2, ()), (-1 : Int), ()), ())
                                                else none
                                              else none
                                            else none
                                          else none
                                        else none
                                      else none
                                    else
                                      some (((t1.1.1.1, t1.1.1.2.1, y7, y2, ()), (-1 : Int), ()), ())
                                else none
                              else none
                            else none
                          else none
                        else none
                      else none
                    else
                      bif (decide ((0 : Int) < (((List.length t1.1.1.2.1) : Nat) : Int))) then
                        bif (decide ((0 : Int) < (((List.length t1.1.1.2.1) : Nat) : Int))) then
                          bif (decide ((0 : Nat) < (List.length t1.1.1.2.1))) then
                            bif (decide ((0 : Int) < (((List.length t1.1.1.2.1) : Nat) : Int))) then
                              bif (decide ((0 : Nat) < (List.length t1.1.1.2.1))) then
                                let y10 : (List D_Job) := (List.set t1.1.1.2.1 (0 : Nat) ((List.getD t1.1.1.2.1 (0 : Nat) z_Job).1, ((IntKind.wrap .i64 ((List.getD t1.1.1.2.1 (0 : Nat) z_Job).2.1.1 - (1 : Int))), (List.getD t1.1.1.2.1 (0 : Nat) z_Job).2.1.2), ()))
                                bif (decide ((0 : Int) < (((List.length y10) : Nat) : Int))) then
                                  bif (decide ((0 : Nat) < (List.length y10))) then
                                    bif (decide ((List.getD y10 (0 : Nat) z_Job).2.1.1 = (0 : Int))) then
                                      bif (decide ((0 : Int) < (((List.length y10) : Nat) : Int))) then
                                        bif (decide ((0 : Nat) < (List.length y10))) then
                                          bif (decide ((((List.length t1.1.1.2.2.1) + (1 : Nat)) * 32) ≤ (1099511627776 : Nat))) then
                                            bif ((decide ((1 : Int) ≤ (((List.length y10) : Nat) : Int))) && (decide ((((List.length y10) : Nat) : Int) ≤ (((List.length y10) : Nat) : Int)))) then
                                              bif (decide ((((0 : Nat) + (List.length (List.take ((List.length y10) - (1 : Nat)) (List.drop (1 : Nat) y10)))) * 32) ≤ (1099511627776 : Nat))) then
                                                some (((t1.1.1.1, (List.take ((List.length y10) - (1 : Nat)) (List.drop (1 : Nat) y10)), (t1.1.1.2.2.1 ++ ([(List.getD y10 (0 : Nat) z_Job)] : List D_Job)), y2, ()), (-1 : Int), ()), ())
                                              else none
                                            else none
                                          else none
                                        else none
                                      else none
                                    else
                                      some (((t1.1.1.1, y10, t1.1.1.2.2.1, y2, ()), (-1 : Int), ()), ())
                                  else none
                                else none
                              else none
                            else none
                          else none
                        else none
                      else
                        some (((t1.1.1.1, t1.1.1.2.1, t1.1.1.2.2.1, y2, ()), (-1 : Int), ()), ())
                else none
              else none
            else none
          else none
        else none
      else none
    else
      bif (decide ((0 : Int) < (((List.length t1.1.1.2.2.1) : Nat) : Int))) then
        bif (decide ((0 : Int) < (((List.length t1.1.1.2.2.1) : Nat) : Int))) then
          bif (decide ((0 : Nat) < (List.length t1.1.1.2.2.1))) then
            bif (decide ((0 : Int) < (((List.length t1.1.1.2.2.1) : Nat) : Int))) then
              bif (decide ((0 : Nat) < (List.length t1.1.1.2.2.1))) then
                let y11 : (List D_Job) := (List.set t1.1.1.2.2.1 (0 : Nat) ((List.getD t1.1.1.2.2.1 (0 : Nat) z_Job).1, ((List.getD t1.1.1.2.2.1 (0 : Nat) z_Job).2.1.1, (IntKind.wrap .i64 ((List.getD t1.1.1.2.2.1 (0 : Nat) z_Job).2.1.2.1 - (1 : Int))), (List.getD t1.1.1.2.2.1 (0 : Nat) z_Job).2.1.2.2), ()))
                bif (decide ((0 : Int) < (((List.length y11) : Nat) : Int))) then
                  bif (decide ((0 : Nat) < (List.length y11))) then
                    bif (decide ((List.getD y11 (0 : Nat) z_Job).2.1.2.1 = (0 : Int))) then
                      bif (decide ((0 : Int) < (((List.length y11) : Nat) : Int))) then
                        bif (decide ((0 : Nat) < (List.length y11))) then
                          bif (decide ((((List.length t1.1.1.2.2.2.1) + (1 : Nat)) * 32) ≤ (1099511627776 : Nat))) then
                            bif ((decide ((1 : Int) ≤ (((List.length y11) : Nat) : Int))) && (decide ((((List.length y11) : Nat) : Int) ≤ (((List.length y11) : Nat) : Int)))) then
                              bif (decide ((((0 : Nat) + (List.length (List.take ((List.length y11) - (1 : Nat)) (List.drop (1 : Nat) y11)))) * 32) ≤ (1099511627776 : Nat))) then
                                bif (decide ((0 : Int) < (((List.length t1.1.1.2.1) : Nat) : Int))) then
                                  bif (decide ((0 : Int) < (((List.length t1.1.1.2.1) : Nat) : Int))) then
                                    bif (decide ((0 : Nat) < (List.length t1.1.1.2.1))) then
                                      bif (decide ((0 : Int) < (((List.length t1.1.1.2.1) : Nat) : Int))) then
                                        bif (decide ((0 : Nat) < (List.length t1.1.1.2.1))) then
                                          let y12 : (List D_Job) := (List.set t1.1.1.2.1 (0 : Nat) ((List.getD t1.1.1.2.1 (0 : Nat) z_Job).1, ((IntKind.wrap .i64 ((List.getD t1.1.1.2.1 (0 : Nat) z_Job).2.1.1 - (1 : Int))), (List.getD t1.1.1.2.1 (0 : Nat) z_Job).2.1.2), ()))
                                          bif (decide ((0 : Int) < (((List.length y12) : Nat) : Int))) then
                                            bif (decide ((0 : Nat) < (List.length y12))) then
                                              bif (decide ((List.getD y12 (0 : Nat) z_Job).2.1.1 = (0 : Int))) then
                                                bif (decide ((0 : Int) < (((List.length y12) : Nat) : Int))) then
                                                  bif (decide ((0 : Nat) < (List.length y12))) then
                                                    bif (decide ((((List.length (List.take ((List.length y11) - (1 : Nat)) (List.drop (1 : Nat) y11))) + (1 : Nat)) * 32) ≤ (1099511627776 : Nat))) then
                                                      bif ((decide ((1 : Int) ≤ (((List.length y12) : Nat) : Int))) && (decide ((((List.length y12) : Nat) : Int) ≤ (((List.length y12) : Nat) : Int)))) then
                                                        bif (decide ((((0 : Nat) + (List.length (List.take ((List.length y12) - (1 : Nat)) (List.drop (1 : Nat) y12)))) * 32) ≤ (1099511627776 : Nat))) then
                                                          some (((t1.1.1.1, (List.take ((List.length y12) - (1 : Nat)) (List.drop (1 : Nat) y12)), ((List.take ((List.length y11) - (1 : Nat)) (List.drop (1 : Nat) y11)) ++ ([(List.getD y12 (0 : Nat) z_Job)] : List D_Job)), (t1.1.1.2.2.2.1 ++ ([(List.getD y11 (0 : Nat) z_Job)] : List D_Job)), ()), (-1 : Int), ()), ())
                                                        else none
                                                      else none
                                                    else none
                                                  else none
                                                else none
                                              else
                                                some (((t1.1.1.1, y12, (List.take ((List.length y11) - (1 : Nat)) (List.drop (1 : Nat) y11)), (t1.1.1.2.2.2.1 ++ ([(List.getD y11 (0 : Nat) z_Job)] : List D_Job)), ()), (-1 : Int), ()), ())
                                            else none
                                          else none
                                        else none
                                      else none
                                    else none
                                  else none
                                else
                                  some (((t1.1.1.1, t1.1.1.2.1, (List.take ((List.length y11) - (1 : Nat)) (List.drop (1 : Nat) y11)), (t1.1.1.2.2.2.1 ++ ([(List.getD y11 (0 : Nat) z_Job)] : List D_Job)), ()), (-1 : Int), ()), ())
                              else none
                            else none
                          else none
                        else none
                      else none
                    else
                      bif (decide ((0 : Int) < (((List.length t1.1.1.2.1) : Nat) : Int))) then
                        bif (decide ((0 : Int) < (((List.length t1.1.1.2.1) : Nat) : Int))) then
                          bif (decide ((0 : Nat) < (List.length t1.1.1.2.1))) then
                            bif (decide ((0 : Int) < (((List.length t1.1.1.2.1) : Nat) : Int))) then
                              bif (decide ((0 : Nat) < (List.length t1.1.1.2.1))) then
                                let y13 : (List D_Job) := (List.set t1.1.1.2.1 (0 : Nat) ((List.getD t1.1.1.2.1 (0 : Nat) z_Job).1, ((IntKind.wrap .i64 ((List.getD t1.1.1.2.1 (0 : Nat) z_Job).2.1.1 - (1 : Int))), (List.getD t1.1.1.2.1 (0 : Nat) z_Job).2.1.2), ()))
                                bif (decide ((0 : Int) < (((List.length y13) : Nat) : Int))) then
                                  bif (decide ((0 : Nat) < (List.length y13))) then
                                    bif (decide ((List.getD y13 (0 : Nat) z_Job).2.1.1 = (0 : Int))) then
                                      bif (decide ((0 : Int) < (((List.length y13) : Nat) : Int))) then
                                        bif (decide ((0 : Nat) < (List.length y13))) then
                                          bif (decide ((((List.length y11) + (1 : Nat)) * 32) ≤ (1099511627776 : Nat))) then
                                            bif ((decide ((1 : Int) ≤ (((List.length y13) : Nat) : Int))) && (decide ((((List.length y13) : Nat) : Int) ≤ (((List.length y13) : Nat) : Int)))) then
                                              bif (decide ((((0 : Nat) + (List.length (List.take ((List.length y13) - (1 : Nat)) (List.drop (1 : Nat) y13)))) * 32) ≤ (1099511627776 : Nat))) then
                                                some (((t1.1.1.1, (List.take ((List.length y13) - (1 : Nat)) (List.drop (1 : Nat) y13)), (y11 ++ ([(List.getD y13 (0 : Nat) z_Job)] : List D_Job)), t1.1.1.2.2.2), (-1 : Int), ()), ())
                                              else none
                                            else none
                                          else none
                                        else none
                                      else none
                                    else
                                      some (((t1.1.1.1, y13, y11, t1.1.1.2.2.2), (-1 : Int), ()), ())
                                  else none
                                else none
                              else none
                            else none
                          else none
                        else none
                      else
                        some (((t1.1.1.1, t1.1.1.2.1, y11, t1.1.1.2.2.2), (-1 : Int), ()), ())
                  else none
                else none
              else none
            else none
          else none
        else none
      else
        bif (decide ((0 : Int) < (((List.length t1.1.1.2.1) : Nat) : Int))) then
          bif (decide ((0 : Int) < (((List.length t1.1.1.2.1) : Nat) : Int))) then
            bif (decide ((0 : Nat) < (List.length t1.1.1.2.1))) then
              bif (decide ((0 : Int) < (((List.length t1.1.1.2.1) : Nat) : Int))) then
                bif (decide ((0 : Nat) < (List.length t1.1.1.2.1))) then
                  let y14 : (List D_Job) := (List.set t1.1.1.2.1 (0 : Nat) ((List.getD t1.1.1.2.1 (0 : Nat) z_Job).1, ((IntKind.wrap .i64 ((List.getD t1.1.1.2.1 (0 : Nat) z_Job).2.1.1 - (1 : Int))), (List.getD t1.1.1.2.1 (0 : Nat) z_Job).2.1.2), ()))
                  bif (decide ((0 : Int) < (((List.length y14) : Nat) : Int))) then
                    bif (decide ((0 : Nat) < (List.length y14))) then
                      bif (decide ((List.getD y14 (0 : Nat) z_Job).2.1.1 = (0 : Int))) then
                        bif (decide ((0 : Int) < (((List.length y14) : Nat) : Int))) then
                          bif (decide ((0 : Nat) < (List.length y14))) then
                            bif (decide ((((List.length t1.1.1.2.2.1) + (1 : Nat)) * 32) ≤ (1099511627776 : Nat))) then
                              bif ((decide ((1 : Int) ≤ (((List.length y14) : Nat) : Int))) && (decide ((((List.length y14) : Nat) : Int) ≤ (((List.length y14) : Nat) : Int)))) then
                                bif (decide ((((0 : Nat) + (List.length (List.take ((List.length y14) - (1 : Nat)) (List.drop (1 : Nat) y14)))) * 32) ≤ (1099511627776 : Nat))) then
                                  some (((t1.1.1.1, (List.take ((List.length y14) - (1 : Nat)) (List.drop (1 : Nat) y14)), (t1.1.1.2.2.1 ++ ([(List.getD y14 (0 : Nat) z_Job)] : List D_Job)), t1.1.1.2.2.2), (-1 : Int), ()), ())
                                else none
                              else none
                            else none
                          else none
                        else none
                      else
                        some (((t1.1.1.1, y14, t1.1.1.2.2), (-1 : Int), ()), ())
                    else none
                  else none
                else none
              else none
            else none
          else none
        else
          some ((t1.1.1, (-1 : Int), ()), ())
def spec_LineTick (k : Nat) (x0 : D_Line) : Option ((D_Line × (Int × Unit)) × Unit) :=
  (spec_LineOk k x0).bind fun t1 =>
    bif (!t1.1.1) then
      some ((((0 : Int), ([] : List D_Job), ([] : List D_Job), ([] : List D_Job), ()), (-1 : Int), ()), ())
    else
      (spec_l21Tick x0).bind fun t2 =>
        some (t2.1, ())
def impl_LineTick (k : Nat) (x0 : D_Line) : Option ((D_Line × (Int × Unit)) × Unit) :=
  (impl_LineOk k x0).bind fun t1 =>
    bif (!t1.1.1) then
      some ((((0 : Int), ([] : List D_Job), ([] : List D_Job), ([] : List D_Job), ()), (-1 : Int), ()), ())
    else
      (impl_copyLine x0).bind fun t2 =>
        bif (decide ((0 : Int) < (((List.length t2.1.1.2.2.2.1) : Nat) : Int))) then
          bif (decide ((0 : Int) < (((List.length t2.1.1.2.2.2.1) : Nat) : Int))) then
            bif (decide ((0 : Nat) < (List.length t2.1.1.2.2.2.1))) then
              bif (decide ((0 : Int) < (((List.length t2.1.1.2.2.2.1) : Nat) : Int))) then
                bif (decide ((0 : Nat) < (List.length t2.1.1.2.2.2.1))) then
                  let y3 : (List D_Job) := (List.set t2.1.1.2.2.2.1 (0 : Nat) ((List.getD t2.1.1.2.2.2.1 (0 : Nat) z_Job).1, ((List.getD t2.1.1.2.2.2.1 (0 : Nat) z_Job).2.1.1, (List.getD t2.1.1.2.2.2.1 (0 : Nat) z_Job).2.1.2.1, (IntKind.wrap .i64 ((List.getD t2.1.1.2.2.2.1 (0 : Nat) z_Job).2.1.2.2.1 - (1 : Int))), ()), ()))
                  bif (decide ((0 : Int) < (((List.length y3) : Nat) : Int))) then
                    bif (decide ((0 : Nat) < (List.length y3))) then
                      bif (decide ((List.getD y3 (0 : Nat) z_Job).2.1.2.2.1 = (0 : Int))) then
                        bif (decide ((0 : Int) < (((List.length y3) : Nat) : Int))) then
                          bif (decide ((0 : Nat) < (List.length y3))) then
                            bif ((decide ((1 : Int) ≤ (((List.length y3) : Nat) : Int))) && (decide ((((List.length y3) : Nat) : Int) ≤ (((List.length y3) : Nat) : Int)))) then
                              bif (decide ((0 : Int) < (((List.length t2.1.1.2.2.1) : Nat) : Int))) then
                                bif (decide ((0 : Int) < (((List.length t2.1.1.2.2.1) : Nat) : Int))) then
                                  bif (decide ((0 : Nat) < (List.length t2.1.1.2.2.1))) then
                                    bif (decide ((0 : Int) < (((List.length t2.1.1.2.2.1) : Nat) : Int))) then
                                      bif (decide ((0 : Nat) < (List.length t2.1.1.2.2.1))) then
                                        let y4 : (List D_Job) := (List.set t2.1.1.2.2.1 (0 : Nat) ((List.getD t2.1.1.2.2.1 (0 : Nat) z_Job).1, ((List.getD t2.1.1.2.2.1 (0 : Nat) z_Job).2.1.1, (IntKind.wrap .i64 ((List.getD t2.1.1.2.2.1 (0 : Nat) z_Job).2.1.2.1 - (1 : Int))), (List.getD t2.1.1.2.2.1 (0 : Nat) z_Job).2.1.2.2), ()))
                                        bif (decide ((0 : Int) < (((List.length y4) : Nat) : Int))) then
                                          bif (decide ((0 : Nat) < (List.length y4))) then
                                            bif (decide ((List.getD y4 (0 : Nat) z_Job).2.1.2.1 = (0 : Int))) then
                                              bif (decide ((0 : Int) < (((List.length y4) : Nat) : Int))) then
                                                bif (decide ((0 : Nat) < (List.length y4))) then
                                                  bif (decide (((((List.length y3) - (1 : Nat)) + (1 : Nat)) * 32) ≤ (1099511627776 : Nat))) then
                                                    bif ((decide ((1 : Int) ≤ (((List.length y4) : Nat) : Int))) && (decide ((((List.length y4) : Nat) : Int) ≤ (((List.length y4) : Nat) : Int)))) then
                                                      bif (decide ((0 : Int) < (((List.length t2.1.1.2.1) : Nat) : Int))) then
                                                        bif (decide ((0 : Int) < (((List.length t2.1.1.2.1) : Nat) : Int))) then
                                                          bif (decide ((0 : Nat) < (List.length t2.1.1.2.1))) then
                                                            bif (decide ((0 : Int) < (((List.length t2.1.1.2.1) : Nat) : Int))) then
                                                              bif (decide ((0 : Nat) < (List.length t2.1.1.2.1))) then
                                                                let y5 : (List D_Job) := (List.set t2.1.1.2.1 (0 : Nat) ((List.getD t2.1.1.2.1 (0 : Nat) z_Job).1, ((IntKind.wrap .i64 ((List.getD t2.1.1.2.1 (0 : Nat) z_Job).2.1.1 - (1 : Int))), (List.getD t2.1.1.2.1 (0 : Nat) z_Job).2.1.2), ()))
                                                                bif (decide ((0 : Int) < (((List.length y5) : Nat) : Int))) then
                                                                  bif (decide ((0 : Nat) < (List.length y5))) then
                                                                    bif (decide ((List.getD y5 (0 : Nat) z_Job).2.1.1 = (0 : Int))) then
                                                                      bif (decide ((0 : Int) < (((List.length y5) : Nat) : Int))) then
                                                                        bif (decide ((0 : Nat) < (List.length y5))) then
                                                                          bif (decide (((((List.length y4) - (1 : Nat)) + (1 : Nat)) * 32) ≤ (1099511627776 : Nat))) then
                                                                            bif ((decide ((1 : Int) ≤ (((List.length y5) : Nat) : Int))) && (decide ((((List.length y5) : Nat) : Int) ≤ (((List.length y5) : Nat) : Int)))) then
                                                                              (impl_copyLine (t2.1.1.1, (List.take ((List.length y5) - (1 : Nat)) (List.drop (1 : Nat) y5)), ((List.take ((List.length y4) - (1 : Nat)) (List.drop (1 : Nat) y4)) ++ ([(List.getD y5 (0 : Nat) z_Job)] : List D_Job)), ((List.take ((List.length y3) - (1 : Nat)) (List.drop (1 : Nat) y3)) ++ ([(List.getD y4 (0 : Nat) z_Job)] : List D_Job)), ())).bind fun t6 =>
                                                                                some ((t6.1.1, (List.getD y3 (0 : Nat) z_Job).1, ()), ())
                                                                            else none
                                                                          else none
                                                                        else none
                                                                      else none
                                                                    else
                                                                      (impl_copyLine (t2.1.1.1, y5, (List.take ((List.length y4) - (1 : Nat)) (List.drop (1 : Nat) y4)), ((List.take ((List.length y3) - (1 : Nat)) (List.drop (1 : Nat) y3)) ++ ([(List.getD y4 (0 : Nat) z_Job)] : List D_Job)), ())).bind fun t7 =>
                                                                        some ((t7.1.1, (List.getD y3 (0 : Nat) z_Job).1, ()), ())
                                                                  else none
                                                                else none
                                                              else none
                                                            else none
                                                          else none
                                                        else none
                                                      else
                                                        (impl_copyLine (t2.1.1.1, t2.1.1.2.1, (List.take ((List.length y4) - (1 : Nat)) (List.drop (1 : Nat) y4)), ((List.take ((List.length y3) - (1 : Nat)) (List.drop (1 : Nat) y3)) ++ ([(List.getD y4 (0 : Nat) z_Job)] : List D_Job)), ())).bind fun t8 =>
                                                          some ((t8.1.1, (List.getD y3 (0 : Nat) z_Job).1, ()), ())
                                                    else none
                                                  else none
                                                else none
                                              else none
                                            else
                                              bif (decide ((0 : Int) < (((List.length t2.1.1.2.1) : Nat) : Int))) then
                                                bif (decide ((0 : Int) < (((List.length t2.1.1.2.1) : Nat) : Int))) then
                                                  bif (decide ((0 : Nat) < (List.length t2.1.1.2.1))) then
                                                    bif (decide ((0 : Int) < (((List.length t2.1.1.2.1) : Nat) : Int))) then
                                                      bif (decide ((0 : Nat) < (List.length t2.1.1.2.1))) then
                                                        let y9 : (List D_Job) := (List.set t2.1.1.2.1 (0 : Nat) ((List.getD t2.1.1.2.1 (0 : Nat) z_Job).1, ((IntKind.wrap .i64 ((List.getD t2.1.1.2.1 (0 : Nat) z_Job).2.1.1 - (1 : Int))), (List.getD t2.1.1.2.1 (0 : Nat) z_Job).2.1.2), ()))
                                                        bif (decide ((0 : Int) < (((List.length y9) : Nat) : Int))) then
                                                          bif (decide ((0 : Nat) < (List.length y9))) then
                                                            bif (decide ((List.getD y9 (0 : Nat) z_Job).2.1.1 = (0 : Int))) then
                                                              bif (decide ((0 : Int) < (((List.length y9) : Nat) : Int))) then
                                                                bif (decide ((0 : Nat) < (List.length y9))) then
                                                                  bif (decide ((((List.length y4) + (1 : Nat)) * 32) ≤ (1099511627776 : Nat))) then
                                                                    bif ((decide ((1 : Int) ≤ (((List.length y9) : Nat) : Int))) && (decide ((((List.length y9) : Nat) : Int) ≤ (((List.length y9) : Nat) : Int)))) then
                                                                      (impl_copyLine (t2.1.1.1, (List.take ((List.length y9) - (1 : Nat)) (List.drop (1 : Nat) y9)), (y4 ++ ([(List.getD y9 (0 : Nat) z_Job)] : List D_Job)), (List.take ((List.length y3) - (1 : Nat)) (List.drop (1 : Nat) y3)), ())).bind fun t10 =>
                                                                        some ((t10.1.1, (List.getD y3 (0 : Nat) z_Job).1, ()), ())
                                                                    else none
                                                                  else none
                                                                else none
                                                              else none
                                                            else
                                                              (impl_copyLine (t2.1.1.1, y9, y4, (List.take ((List.length y3) - (1 : Nat)) (List.drop (1 : Nat) y3)), ())).bind fun t11 =>
                                                                some ((t11.1.1, (List.getD y3 (0 : Nat) z_Job).1, ()), ())
                                                          else none
                                                        else none
                                                      else none
                                                    else none
                                                  else none
                                                else none
                                              else
                                                (impl_copyLine (t2.1.1.1, t2.1.1.2.1, y4, (List.take ((List.length y3) - (1 : Nat)) (List.drop (1 : Nat) y3)), ())).bind fun t12 =>
                                                  some ((t12.1.1, (List.getD y3 (0 : Nat) z_Job).1, ()), ())
                                          else none
                                        else none
                                      else none
                                    else none
                                  else none
                                else none
                              else
                                bif (decide ((0 : Int) < (((List.length t2.1.1.2.1) : Nat) : Int))) then
                                  bif (decide ((0 : Int) < (((List.length t2.1.1.2.1) : Nat) : Int))) then
                                    bif (decide ((0 : Nat) < (List.length t2.1.1.2.1))) then
                                      bif (decide ((0 : Int) < (((List.length t2.1.1.2.1) : Nat) : Int))) then
                                        bif (decide ((0 : Nat) < (List.length t2.1.1.2.1))) then
                                          let y13 : (List D_Job) := (List.set t2.1.1.2.1 (0 : Nat) ((List.getD t2.1.1.2.1 (0 : Nat) z_Job).1, ((IntKind.wrap .i64 ((List.getD t2.1.1.2.1 (0 : Nat) z_Job).2.1.1 - (1 : Int))), (List.getD t2.1.1.2.1 (0 : Nat) z_Job).2.1.2), ()))
                                          bif (decide ((0 : Int) < (((List.length y13) : Nat) : Int))) then
                                            bif (decide ((0 : Nat) < (List.length y13))) then
                                              bif (decide ((List.getD y13 (0 : Nat) z_Job).2.1.1 = (0 : Int))) then
                                                bif (decide ((0 : Int) < (((List.length y13) : Nat) : Int))) then
                                                  bif (decide ((0 : Nat) < (List.length y13))) then
                                                    bif (decide ((((List.length t2.1.1.2.2.1) + (1 : Nat)) * 32) ≤ (1099511627776 : Nat))) then
                                                      bif ((decide ((1 : Int) ≤ (((List.length y13) : Nat) : Int))) && (decide ((((List.length y13) : Nat) : Int) ≤ (((List.length y13) : Nat) : Int)))) then
                                                        (impl_copyLine (t2.1.1.1, (List.take ((List.length y13) - (1 : Nat)) (List.drop (1 : Nat) y13)), (t2.1.1.2.2.1 ++ ([(List.getD y13 (0 : Nat) z_Job)] : List D_Job)), (List.take ((List.length y3) - (1 : Nat)) (List.drop (1 : Nat) y3)), ())).bind fun t14 =>
                                                          some ((t14.1.1, (List.getD y3 (0 : Nat) z_Job).1, ()), ())
                                                      else none
                                                    else none
                                                  else none
                                                else none
                                              else
                                                (impl_copyLine (t2.1.1.1, y13, t2.1.1.2.2.1, (List.take ((List.length y3) - (1 : Nat)) (List.drop (1 : Nat) y3)), ())).bind fun t15 =>
                                                  some ((t15.1.1, (List.getD y3 (0 : Nat) z_Job).1, ()), ())
                                            else none
                                          else none
                                        else none
                                      else none
                                    else none
                                  else none
                                else
                                  (impl_copyLine (t2.1.1.1, t2.1.1.2.1, t2.1.1.2.2.1, (List.take ((List.length y3) - (1 : Nat)) (List.drop (1 : Nat) y3)), ())).bind fun t16 =>
                                    some ((t16.1.1, (List.getD y3 (0 : Nat) z_Job).1, ()), ())
                            else none
                          else none
                        else none
                      else
                        bif (decide ((0 : Int) < (((List.length t2.1.1.2.2.1) : Nat) : Int))) then
                          bif (decide ((0 : Int) < (((List.length t2.1.1.2.2.1) : Nat) : Int))) then
                            bif (decide ((0 : Nat) < (List.length t2.1.1.2.2.1))) then
                              bif (decide ((0 : Int) < (((List.length t2.1.1.2.2.1) : Nat) : Int))) then
                                bif (decide ((0 : Nat) < (List.length t2.1.1.2.2.1))) then
                                  let y17 : (List D_Job) := (List.set t2.1.1.2.2.1 (0 : Nat) ((List.getD t2.1.1.2.2.1 (0 : Nat) z_Job).1, ((List.getD t2.1.1.2.2.1 (0 : Nat) z_Job).2.1.1, (IntKind.wrap .i64 ((List.getD t2.1.1.2.2.1 (0 : Nat) z_Job).2.1.2.1 - (1 : Int))), (List.getD t2.1.1.2.2.1 (0 : Nat) z_Job).2.1.2.2), ()))
                                  bif (decide ((0 : Int) < (((List.length y17) : Nat) : Int))) then
                                    bif (decide ((0 : Nat) < (List.length y17))) then
                                      bif (decide ((List.getD y17 (0 : Nat) z_Job).2.1.2.1 = (0 : Int))) then
                                        bif (decide ((0 : Int) < (((List.length y17) : Nat) : Int))) then
                                          bif (decide ((0 : Nat) < (List.length y17))) then
                                            bif (decide ((((List.length y3) + (1 : Nat)) * 32) ≤ (1099511627776 : Nat))) then
                                              bif ((decide ((1 : Int) ≤ (((List.length y17) : Nat) : Int))) && (decide ((((List.length y17) : Nat) : Int) ≤ (((List.length y17) : Nat) : Int)))) then
                                                bif (decide ((0 : Int) < (((List.length t2.1.1.2.1) : Nat) : Int))) then
                                                  bif (decide ((0 : Int) < (((List.length t2.1.1.2.1) : Nat) : Int))) then
                                                    bif (decide ((0 : Nat) < (List.length t2.1.1.2.1))) then
                                                      bif (decide ((0 : Int) < (((List.length t2.1.1.2.1) : Nat) : Int))) then
                                                        bif (decide ((0 : Nat) < (List.length t2.1.1.2.1))) then
                                                          let y18 : (List D_Job) := (List.set t2.1.1.2.1 (0 : Nat) ((List.getD t2.1.1.2.1 (0 : Nat) z_Job).1, ((IntKind.wrap .i64 ((List.getD t2.1.1.2.1 (0 : Nat) z_Job).2.1.1 - (1 : Int))), (List.getD t2.1.1.2.1 (0 : Nat) z_Job).2.1.2), ()))
                                                          bif (decide ((0 : Int) < (((List.length y18) : Nat) : Int))) then
                                                            bif (decide ((0 : Nat) < (List.length y18))) then
                                                              bif (decide ((List.getD y18 (0 : Nat) z_Job).2.1.1 = (0 : Int))) then
                                                                bif (decide ((0 : Int) < (((List.length y18) : Nat) : Int))) then
                                                                  bif (decide ((0 : Nat) < (List.length y18))) then
                                                                    bif (decide (((((List.length y17) - (1 : Nat)) + (1 : Nat)) * 32) ≤ (1099511627776 : Nat))) then
                                                                      bif ((decide ((1 : Int) ≤ (((List.length y18) : Nat) : Int))) && (decide ((((List.length y18) : Nat) : Int) ≤ (((List.length y18) : Nat) : Int)))) then
                                                                        (impl_copyLine (t2.1.1.1, (List.take ((List.length y18) - (1 : Nat)) (List.drop (1 : Nat) y18)), ((List.take ((List.length y17) - (1 : Nat)) (List.drop (1 : Nat) y17)) ++ ([(List.getD y18 (0 : Nat) z_Job)] : List D_Job)), (y3 ++ ([(List.getD y17 (0 : Nat) z_Job)] : List D_Job)), ())).bind fun t19 =>
                                                                          some ((t19.1.1, (-1 : Int), ()), ())
                                                                      else none
                                                                    else none
                                                                  else none
                                                                else none
                                                              else
                                                                (impl_copyLine (t2.1.1.1, y18, (List.take ((List.length y17) - (1 : Nat)) (List.drop (1 : Nat) y17)), (y3 ++ ([(List.getD y17 (0 : Nat) z_Job)] : List D_Job)), ())).bind fun t20 =>
                                                                  some ((t20.1.1, (-1 : Int), ()), ())
                                                            else none
                                                          else none
                                                        else none
                                                      else none
                                                    else none
                                                  else none
                                                else
                                                  (impl_copyLine (t2.1.1.1, t2.1.1.2.1, (List.take ((List.length y17) - (1 : Nat)) (List.drop (1 : Nat) y17)), (y3 ++ ([(List.getD y17 (0 : Nat) z_Job)] : List D_Job)), ())).bind fun t21 =>
                                                    some ((t21.1.1, (-1 : Int), ()), ())
                                              else none
                                            else none
                                          else none
                                        else none
                                      else
                                        bif (decide ((0 : Int) < (((List.length t2.1.1.2.1) : Nat) : Int))) then
                                          bif (decide ((0 : Int) < (((List.length t2.1.1.2.1) : Nat) : Int))) then
                                            bif (decide ((0 : Nat) < (List.length t2.1.1.2.1))) then
                                              bif (decide ((0 : Int) < (((List.length t2.1.1.2.1) : Nat) : Int))) then
                                                bif (decide ((0 : Nat) < (List.length t2.1.1.2.1))) then
                                                  let y22 : (List D_Job) := (List.set t2.1.1.2.1 (0 : Nat) ((List.getD t2.1.1.2.1 (0 : Nat) z_Job).1, ((IntKind.wrap .i64 ((List.getD t2.1.1.2.1 (0 : Nat) z_Job).2.1.1 - (1 : Int))), (List.getD t2.1.1.2.1 (0 : Nat) z_Job).2.1.2), ()))
                                                  bif (decide ((0 : Int) < (((List.length y22) : Nat) : Int))) then
                                                    bif (decide ((0 : Nat) < (List.length y22))) then
                                                      bif (decide ((List.getD y22 (0 : Nat) z_Job).2.1.1 = (0 : Int))) then
                                                        bif (decide ((0 : Int) < (((List.length y22) : Nat) : Int))) then
                                                          bif (decide ((0 : Nat) < (List.length y22))) then
                                                            bif (decide ((((List.length y17) + (1 : Nat)) * 32) ≤ (1099511627776 : Nat))) then
                                                              bif ((decide ((1 : Int) ≤ (((List.length y22) : Nat) : Int))) && (decide ((((List.length y22) : Nat) : Int) ≤ (((List.length y22) : Nat) : Int)))) then
                                                                (impl_copyLine (t2.1.1.1, (List.take ((List.length y22) - (1 : Nat)) (List.drop (1 : Nat) y22)), (y17 ++ ([(List.getD y22 (0 : Nat) z_Job)] : List D_Job)), y3, ())).bind fun t23 =>
                                                                  some ((t23.1.1, (-1 : Int), ()), ())
                                                              else none
                                                            else none
                                                          else none
                                                        else none
                                                      else
                                                        (impl_copyLine (t2.1.1.1, y22, y17, y3, ())).bind fun t24 =>
                                                          some ((t24.1.1, (-1 : Int), ()), ())
                                                    else none
                                                  else none
                                                else none
                                              else none
                                            else none
                                          else none
                                        else
                                          (impl_copyLine (t2.1.1.1, t2.1.1.2.1, y17, y3, ())).bind fun t25 =>
                                            some ((t25.1.1, (-1 : Int), ()), ())
                                    else none
                                  else none
                                else none
                              else none
                            else none
                          else none
                        else
                          bif (decide ((0 : Int) < (((List.length t2.1.1.2.1) : Nat) : Int))) then
                            bif (decide ((0 : Int) < (((List.length t2.1.1.2.1) : Nat) : Int))) then
                              bif (decide ((0 : Nat) < (List.length t2.1.1.2.1))) then
                                bif (decide ((0 : Int) < (((List.length t2.1.1.2.1) : Nat) : Int))) then
                                  bif (decide ((0 : Nat) < (List.length t2.1.1.2.1))) then
                                    let y26 : (List D_Job) := (List.set t2.1.1.2.1 (0 : Nat) ((List.getD t2.1.1.2.1 (0 : Nat) z_Job).1, ((IntKind.wrap .i64 ((List.getD t2.1.1.2.1 (0 : Nat) z_Job).2.1.1 - (1 : Int))), (List.getD t2.1.1.2.1 (0 : Nat) z_Job).2.1.2), ()))
                                    bif (decide ((0 : Int) < (((List.length y26) : Nat) : Int))) then
                                      bif (decide ((0 : Nat) < (List.length y26))) then
                                        bif (decide ((List.getD y26 (0 : Nat) z_Job).2.1.1 = (0 : Int))) then
                                          bif (decide ((0 : Int) < (((List.length y26) : Nat) : Int))) then
                                            bif (decide ((0 : Nat) < (List.length y26))) then
                                              bif (decide ((((List.length t2.1.1.2.2.1) + (1 : Nat)) * 32) ≤ (1099511627776 : Nat))) then
                                                bif ((decide ((1 : Int) ≤ (((List.length y26) : Nat) : Int))) && (decide ((((List.length y26) : Nat) : Int) ≤ (((List.length y26) : Nat) : Int)))) then
                                                  (impl_copyLine (t2.1.1.1, (List.take ((List.length y26) - (1 : Nat)) (List.drop (1 : Nat) y26)), (t2.1.1.2.2.1 ++ ([(List.getD y26 (0 : Nat) z_Job)] : List D_Job)), y3, ())).bind fun t27 =>
                                                    some ((t27.1.1, (-1 : Int), ()), ())
                                                else none
                                              else none
                                            else none
                                          else none
                                        else
                                          (impl_copyLine (t2.1.1.1, y26, t2.1.1.2.2.1, y3, ())).bind fun t28 =>
                                            some ((t28.1.1, (-1 : Int), ()), ())
                                      else none
                                    else none
                                  else none
                                else none
                              else none
                            else none
                          else
                            (impl_copyLine (t2.1.1.1, t2.1.1.2.1, t2.1.1.2.2.1, y3, ())).bind fun t29 =>
                              some ((t29.1.1, (-1 : Int), ()), ())
                    else none
                  else none
                else none
              else none
            else none
          else none
        else
          bif (decide ((0 : Int) < (((List.length t2.1.1.2.2.1) : Nat) : Int))) then
            bif (decide ((0 : Int) < (((List.length t2.1.1.2.2.1) : Nat) : Int))) then
              bif (decide ((0 : Nat) < (List.length t2.1.1.2.2.1))) then
                bif (decide ((0 : Int) < (((List.length t2.1.1.2.2.1) : Nat) : Int))) then
                  bif (decide ((0 : Nat) < (List.length t2.1.1.2.2.1))) then
                    let y30 : (List D_Job) := (List.set t2.1.1.2.2.1 (0 : Nat) ((List.getD t2.1.1.2.2.1 (0 : Nat) z_Job).1, ((List.getD t2.1.1.2.2.1 (0 : Nat) z_Job).2.1.1, (IntKind.wrap .i64 ((List.getD t2.1.1.2.2.1 (0 : Nat) z_Job).2.1.2.1 - (1 : Int))), (List.getD t2.1.1.2.2.1 (0 : Nat) z_Job).2.1.2.2), ()))
                    bif (decide ((0 : Int) < (((List.length y30) : Nat) : Int))) then
                      bif (decide ((0 : Nat) < (List.length y30))) then
                        bif (decide ((List.getD y30 (0 : Nat) z_Job).2.1.2.1 = (0 : Int))) then
                          bif (decide ((0 : Int) < (((List.length y30) : Nat) : Int))) then
                            bif (decide ((0 : Nat) < (List.length y30))) then
                              bif (decide ((((List.length t2.1.1.2.2.2.1) + (1 : Nat)) * 32) ≤ (1099511627776 : Nat))) then
                                bif ((decide ((1 : Int) ≤ (((List.length y30) : Nat) : Int))) && (decide ((((List.length y30) : Nat) : Int) ≤ (((List.length y30) : Nat) : Int)))) then
                                  bif (decide ((0 : Int) < (((List.length t2.1.1.2.1) : Nat) : Int))) then
                                    bif (decide ((0 : Int) < (((List.length t2.1.1.2.1) : Nat) : Int))) then
                                      bif (decide ((0 : Nat) < (List.length t2.1.1.2.1))) then
                                        bif (decide ((0 : Int) < (((List.length t2.1.1.2.1) : Nat) : Int))) then
                                          bif (decide ((0 : Nat) < (List.length t2.1.1.2.1))) then
                                            let y31 : (List D_Job) := (List.set t2.1.1.2.1 (0 : Nat) ((List.getD t2.1.1.2.1 (0 : Nat) z_Job).1, ((IntKind.wrap .i64 ((List.getD t2.1.1.2.1 (0 : Nat) z_Job).2.1.1 - (1 : Int))), (List.getD t2.1.1.2.1 (0 : Nat) z_Job).2.1.2), ()))
                                            bif (decide ((0 : Int) < (((List.length y31) : Nat) : Int))) then
                                              bif (decide ((0 : Nat) < (List.length y31))) then
                                                bif (decide ((List.getD y31 (0 : Nat) z_Job).2.1.1 = (0 : Int))) then
                                                  bif (decide ((0 : Int) < (((List.length y31) : Nat) : Int))) then
                                                    bif (decide ((0 : Nat) < (List.length y31))) then
                                                      bif (decide (((((List.length y30) - (1 : Nat)) + (1 : Nat)) * 32) ≤ (1099511627776 : Nat))) then
                                                        bif ((decide ((1 : Int) ≤ (((List.length y31) : Nat) : Int))) && (decide ((((List.length y31) : Nat) : Int) ≤ (((List.length y31) : Nat) : Int)))) then
                                                          (impl_copyLine (t2.1.1.1, (List.take ((List.length y31) - (1 : Nat)) (List.drop (1 : Nat) y31)), ((List.take ((List.length y30) - (1 : Nat)) (List.drop (1 : Nat) y30)) ++ ([(List.getD y31 (0 : Nat) z_Job)] : List D_Job)), (t2.1.1.2.2.2.1 ++ ([(List.getD y30 (0 : Nat) z_Job)] : List D_Job)), ())).bind fun t32 =>
                                                            some ((t32.1.1, (-1 : Int), ()), ())
                                                        else none
                                                      else none
                                                    else none
                                                  else none
                                                else
                                                  (impl_copyLine (t2.1.1.1, y31, (List.take ((List.length y30) - (1 : Nat)) (List.drop (1 : Nat) y30)), (t2.1.1.2.2.2.1 ++ ([(List.getD y30 (0 : Nat) z_Job)] : List D_Job)), ())).bind fun t33 =>
                                                    some ((t33.1.1, (-1 : Int), ()), ())
                                              else none
                                            else none
                                          else none
                                        else none
                                      else none
                                    else none
                                  else
                                    (impl_copyLine (t2.1.1.1, t2.1.1.2.1, (List.take ((List.length y30) - (1 : Nat)) (List.drop (1 : Nat) y30)), (t2.1.1.2.2.2.1 ++ ([(List.getD y30 (0 : Nat) z_Job)] : List D_Job)), ())).bind fun t34 =>
                                      some ((t34.1.1, (-1 : Int), ()), ())
                                else none
                              else none
                            else none
                          else none
                        else
                          bif (decide ((0 : Int) < (((List.length t2.1.1.2.1) : Nat) : Int))) then
                            bif (decide ((0 : Int) < (((List.length t2.1.1.2.1) : Nat) : Int))) then
                              bif (decide ((0 : Nat) < (List.length t2.1.1.2.1))) then
                                bif (decide ((0 : Int) < (((List.length t2.1.1.2.1) : Nat) : Int))) then
                                  bif (decide ((0 : Nat) < (List.length t2.1.1.2.1))) then
                                    let y35 : (List D_Job) := (List.set t2.1.1.2.1 (0 : Nat) ((List.getD t2.1.1.2.1 (0 : Nat) z_Job).1, ((IntKind.wrap .i64 ((List.getD t2.1.1.2.1 (0 : Nat) z_Job).2.1.1 - (1 : Int))), (List.getD t2.1.1.2.1 (0 : Nat) z_Job).2.1.2), ()))
                                    bif (decide ((0 : Int) < (((List.length y35) : Nat) : Int))) then
                                      bif (decide ((0 : Nat) < (List.length y35))) then
                                        bif (decide ((List.getD y35 (0 : Nat) z_Job).2.1.1 = (0 : Int))) then
                                          bif (decide ((0 : Int) < (((List.length y35) : Nat) : Int))) then
                                            bif (decide ((0 : Nat) < (List.length y35))) then
                                              bif (decide ((((List.length y30) + (1 : Nat)) * 32) ≤ (1099511627776 : Nat))) then
                                                bif ((decide ((1 : Int) ≤ (((List.length y35) : Nat) : Int))) && (decide ((((List.length y35) : Nat) : Int) ≤ (((List.length y35) : Nat) : Int)))) then
                                                  (impl_copyLine (t2.1.1.1, (List.take ((List.length y35) - (1 : Nat)) (List.drop (1 : Nat) y35)), (y30 ++ ([(List.getD y35 (0 : Nat) z_Job)] : List D_Job)), t2.1.1.2.2.2)).bind fun t36 =>
                                                    some ((t36.1.1, (-1 : Int), ()), ())
                                                else none
                                              else none
                                            else none
                                          else none
                                        else
                                          (impl_copyLine (t2.1.1.1, y35, y30, t2.1.1.2.2.2)).bind fun t37 =>
                                            some ((t37.1.1, (-1 : Int), ()), ())
                                      else none
                                    else none
                                  else none
                                else none
                              else none
                            else none
                          else
                            (impl_copyLine (t2.1.1.1, t2.1.1.2.1, y30, t2.1.1.2.2.2)).bind fun t38 =>
                              some ((t38.1.1, (-1 : Int), ()), ())
                      else none
                    else none
                  else none
                else none
              else none
            else none
          else
            bif (decide ((0 : Int) < (((List.length t2.1.1.2.1) : Nat) : Int))) then
              bif (decide ((0 : Int) < (((List.length t2.1.1.2.1) : Nat) : Int))) then
                bif (decide ((0 : Nat) < (List.length t2.1.1.2.1))) then
                  bif (decide ((0 : Int) < (((List.length t2.1.1.2.1) : Nat) : Int))) then
                    bif (decide ((0 : Nat) < (List.length t2.1.1.2.1))) then
                      let y39 : (List D_Job) := (List.set t2.1.1.2.1 (0 : Nat) ((List.getD t2.1.1.2.1 (0 : Nat) z_Job).1, ((IntKind.wrap .i64 ((List.getD t2.1.1.2.1 (0 : Nat) z_Job).2.1.1 - (1 : Int))), (List.getD t2.1.1.2.1 (0 : Nat) z_Job).2.1.2), ()))
                      bif (decide ((0 : Int) < (((List.length y39) : Nat) : Int))) then
                        bif (decide ((0 : Nat) < (List.length y39))) then
                          bif (decide ((List.getD y39 (0 : Nat) z_Job).2.1.1 = (0 : Int))) then
                            bif (decide ((0 : Int) < (((List.length y39) : Nat) : Int))) then
                              bif (decide ((0 : Nat) < (List.length y39))) then
                                bif (decide ((((List.length t2.1.1.2.2.1) + (1 : Nat)) * 32) ≤ (1099511627776 : Nat))) then
                                  bif ((decide ((1 : Int) ≤ (((List.length y39) : Nat) : Int))) && (decide ((((List.length y39) : Nat) : Int) ≤ (((List.length y39) : Nat) : Int)))) then
                                    (impl_copyLine (t2.1.1.1, (List.take ((List.length y39) - (1 : Nat)) (List.drop (1 : Nat) y39)), (t2.1.1.2.2.1 ++ ([(List.getD y39 (0 : Nat) z_Job)] : List D_Job)), t2.1.1.2.2.2)).bind fun t40 =>
                                      some ((t40.1.1, (-1 : Int), ()), ())
                                  else none
                                else none
                              else none
                            else none
                          else
                            (impl_copyLine (t2.1.1.1, y39, t2.1.1.2.2)).bind fun t41 =>
                              some ((t41.1.1, (-1 : Int), ()), ())
                        else none
                      else none
                    else none
                  else none
                else none
              else none
            else
              (impl_copyLine t2.1.1).bind fun t42 =>
                some ((t42.1.1, (-1 : Int), ()), ())
def laws_markJobS_s2 (rec : (((List D_Job) × Unit) × (Unit × D_Done)) → Option ((((List D_Job) × Unit) × (Int × Unit)))) (v : (((List D_Job) × Unit) × (Unit × D_Done))) : Option ((((List D_Job) × Unit) × (Int × Unit))) :=
  bif (decide (v.2.2.2.1 < (((List.length v.1.1) : Nat) : Int))) then
    bif ((decide ((0 : Int) ≤ v.2.2.2.1)) && (decide (v.2.2.2.1 < (((List.length v.1.1) : Nat) : Int)))) then
      bif (decide ((Int.toNat v.2.2.2.1) < (List.length v.1.1))) then
        let y1 : (List D_Job) := (List.set v.1.1 (Int.toNat v.2.2.2.1) (v.2.2.1, (List.getD v.1.1 (Int.toNat v.2.2.2.1) z_Job).2))
        bif ((decide ((0 : Int) ≤ v.2.2.2.1)) && (decide (v.2.2.2.1 < (((List.length y1) : Nat) : Int)))) then
          bif (decide ((Int.toNat v.2.2.2.1) < (List.length y1))) then
            let y2 : (List D_Job) := (List.set y1 (Int.toNat v.2.2.2.1) ((List.getD y1 (Int.toNat v.2.2.2.1) z_Job).1, ((IntKind.wrap .i64 (v.2.2.1 + (1 : Int))), (List.getD y1 (Int.toNat v.2.2.2.1) z_Job).2.1.2), ()))
            bif ((decide ((0 : Int) ≤ v.2.2.2.1)) && (decide (v.2.2.2.1 < (((List.length y2) : Nat) : Int)))) then
              bif (decide ((Int.toNat v.2.2.2.1) < (List.length y2))) then
                let y3 : (List D_Job) := (List.set y2 (Int.toNat v.2.2.2.1) ((List.getD y2 (Int.toNat v.2.2.2.1) z_Job).1, ((List.getD y2 (Int.toNat v.2.2.2.1) z_Job).2.1.1, (IntKind.wrap .i64 ((IntKind.wrap .i64 (v.2.2.1 + (1 : Int))) + (1 : Int))), (List.getD y2 (Int.toNat v.2.2.2.1) z_Job).2.1.2.2), ()))
                bif ((decide ((0 : Int) ≤ v.2.2.2.1)) && (decide (v.2.2.2.1 < (((List.length y3) : Nat) : Int)))) then
                  bif (decide ((Int.toNat v.2.2.2.1) < (List.length y3))) then
                    let y4 : (List D_Job) := (List.set y3 (Int.toNat v.2.2.2.1) ((List.getD y3 (Int.toNat v.2.2.2.1) z_Job).1, ((List.getD y3 (Int.toNat v.2.2.2.1) z_Job).2.1.1, (List.getD y3 (Int.toNat v.2.2.2.1) z_Job).2.1.2.1, (IntKind.wrap .i64 ((IntKind.wrap .i64 ((IntKind.wrap .i64 (v.2.2.1 + (1 : Int))) + (1 : Int))) + (1 : Int))), ()), ()))
                    rec ((y4, ()), (), (IntKind.wrap .i64 ((IntKind.wrap .i64 ((IntKind.wrap .i64 ((IntKind.wrap .i64 (v.2.2.1 + (1 : Int))) + (1 : Int))) + (1 : Int))) + (1 : Int))), (IntKind.wrap .i64 (v.2.2.2.1 + (1 : Int))), ())
                  else none
                else none
              else none
            else none
          else none
        else none
      else none
    else none
  else
    some (v.1, v.2.2.1, ())
def laws_markJobS (k : Nat) (x0 : (List D_Job)) (x1 : Int) : Option ((Int × Unit) × ((List D_Job) × Unit)) :=
  (iter (laws_markJobS_s2) k ((x0, ()), (), x1, (0 : Int), ())).bind fun o1 =>
    some (o1.2, o1.1)
def laws_heldJobS_s2 (rec : (Unit × ((List D_Job) × D_Done)) → Option ((Unit × (Int × Unit)) ⊕ (Unit × (Int × Unit)))) (v : (Unit × ((List D_Job) × D_Done))) : Option ((Unit × (Int × Unit)) ⊕ (Unit × (Int × Unit))) :=
  bif (decide (v.2.2.2.1 < (((List.length v.2.1) : Nat) : Int))) then
    bif ((decide ((0 : Int) ≤ v.2.2.2.1)) && (decide (v.2.2.2.1 < (((List.length v.2.1) : Nat) : Int)))) then
      bif (decide ((Int.toNat v.2.2.2.1) < (List.length v.2.1))) then
        bif (!(decide ((List.getD v.2.1 (Int.toNat v.2.2.2.1) z_Job).1 = v.2.2.1))) then
          some (Sum.inl ((), (-1 : Int), ()))
        else
          bif ((decide ((0 : Int) ≤ v.2.2.2.1)) && (decide (v.2.2.2.1 < (((List.length v.2.1) : Nat) : Int)))) then
            bif (decide ((Int.toNat v.2.2.2.1) < (List.length v.2.1))) then
              bif (!(decide ((List.getD v.2.1 (Int.toNat v.2.2.2.1) z_Job).2.1.1 = (IntKind.wrap .i64 (v.2.2.1 + (1 : Int)))))) then
                some (Sum.inl ((), (-1 : Int), ()))
              else
                bif ((decide ((0 : Int) ≤ v.2.2.2.1)) && (decide (v.2.2.2.1 < (((List.length v.2.1) : Nat) : Int)))) then
                  bif (decide ((Int.toNat v.2.2.2.1) < (List.length v.2.1))) then
                    bif (!(decide ((List.getD v.2.1 (Int.toNat v.2.2.2.1) z_Job).2.1.2.1 = (IntKind.wrap .i64 ((IntKind.wrap .i64 (v.2.2.1 + (1 : Int))) + (1 : Int)))))) then
                      some (Sum.inl ((), (-1 : Int), ()))
                    else
                      bif ((decide ((0 : Int) ≤ v.2.2.2.1)) && (decide (v.2.2.2.1 < (((List.length v.2.1) : Nat) : Int)))) then
                        bif (decide ((Int.toNat v.2.2.2.1) < (List.length v.2.1))) then
                          bif (!(decide ((List.getD v.2.1 (Int.toNat v.2.2.2.1) z_Job).2.1.2.2.1 = (IntKind.wrap .i64 ((IntKind.wrap .i64 ((IntKind.wrap .i64 (v.2.2.1 + (1 : Int))) + (1 : Int))) + (1 : Int)))))) then
                            some (Sum.inl ((), (-1 : Int), ()))
                          else
                            rec ((), v.2.1, (IntKind.wrap .i64 ((IntKind.wrap .i64 ((IntKind.wrap .i64 ((IntKind.wrap .i64 (v.2.2.1 + (1 : Int))) + (1 : Int))) + (1 : Int))) + (1 : Int))), (IntKind.wrap .i64 (v.2.2.2.1 + (1 : Int))), ())
                        else none
                      else none
                  else none
                else none
            else none
          else none
      else none
    else none
  else
    some (Sum.inr ((), v.2.2.1, ()))
def laws_heldJobS (k : Nat) (x0 : (List D_Job)) (x1 : Int) : Option ((Int × Unit) × Unit) :=
  (iter (laws_heldJobS_s2) k ((), x0, x1, (0 : Int), ())).bind fun o1 =>
    Sum.elim (fun a2 =>
      some (a2.2, ()))
    (fun b3 =>
      some (b3.2, ())) o1
def laws_heldLine (k : Nat) (x0 : D_Line) (x1 : Int) : Option ((Int × Unit) × Unit) :=
  (laws_heldJobS k x0.2.1 x1).bind fun t1 =>
    bif (decide (t1.1.1 < (0 : Int))) then
      some (((-1 : Int), ()), ())
    else
      (laws_heldJobS k x0.2.2.1 t1.1.1).bind fun t2 =>
        bif (decide (t2.1.1 < (0 : Int))) then
          some (((-1 : Int), ()), ())
        else
          (laws_heldJobS k x0.2.2.2.1 t2.1.1).bind fun t3 =>
            bif (decide (t3.1.1 < (0 : Int))) then
              some (((-1 : Int), ()), ())
            else
              some (t3.1, ())
def laws_FnExactLineTick (k : Nat) (x0 : D_Line) : Option ((Bool × Unit) × Unit) :=
  (laws_szLine x0 (1048576 : Int)).bind fun t1 =>
    bif (decide (t1.1.1 < (0 : Int))) then
      some ((true, ()), ())
    else
      (laws_toLine k x0).bind fun t2 =>
        (spec_LineTick k t2.1.1).bind fun t3 =>
          (laws_toLine k x0).bind fun t4 =>
            (impl_LineTick k t4.1.1).bind fun t5 =>
              (laws_eqLine k t5.1.1 t3.1.1).bind fun t6 =>
                bif (!(!t6.1.1)) then
                  bif (!(decide (t5.1.2.1 = t3.1.2.1))) then
                    some ((false, ()), ())
                  else
                    (laws_toLine k x0).bind fun t7 =>
                      (laws_eqLine k t4.1.1 t7.1.1).bind fun t8 =>
                        bif (!t8.1.1) then
                          some ((false, ()), ())
                        else
                          (laws_markJobS k t4.1.1.2.1 (1 : Int)).bind fun t9 =>
                            (laws_markJobS k t4.1.1.2.2.1 t9.1.1).bind fun t10 =>
                              (laws_markJobS k t4.1.1.2.2.2.1 t10.1.1).bind fun t11 =>
                                bif (!(decide (t11.1.1 < (0 : Int)))) then
                                  (laws_eqLine k t5.1.1 t3.1.1).bind fun t12 =>
                                    bif (!(!t12.1.1)) then
                                      bif (!(decide (t5.1.2.1 = t3.1.2.1))) then
                                        some ((false, ()), ())
                                      else
                                        (laws_markJobS k t5.1.1.2.1 (1 : Int)).bind fun t13 =>
                                          (laws_markJobS k t5.1.1.2.2.1 t13.1.1).bind fun t14 =>
                                            (laws_markJobS k t5.1.1.2.2.2.1 t14.1.1).bind fun t15 =>
                                              (laws_heldLine k (t5.1.1.1, t13.2.1, t14.2.1, t15.2) (1 : Int)).bind fun t16 =>
                                                bif (decide (t16.1.1 < (0 : Int))) then
                                                  some ((false, ()), ())
                                                else
                                                  bif (!(decide (t16.1.1 = t15.1.1))) then
                                                    some ((false, ()), ())
                                                  else
                                                    (laws_toLine k x0).bind fun t17 =>
                                                      (impl_LineTick k t17.1.1).bind fun t18 =>
                                                        (laws_eqLine k t18.1.1 t3.1.1).bind fun t19 =>
                                                          bif (!(!t19.1.1)) then
                                                            bif (!(decide (t18.1.2.1 = t3.1.2.1))) then
                                                              some ((false, ()), ())
                                                            else
                                                              (laws_heldLine k (t5.1.1.1, t13.2.1, t14.2.1, t15.2) (1 : Int)).bind fun t20 =>
                                                                bif (decide (t20.1.1 < (0 : Int))) then
                                                                  some ((false, ()), ())
                                                                else
                                                                  bif (!(decide (t20.1.1 = t15.1.1))) then
                                                                    some ((false, ()), ())
                                                                  else
                                                                    some ((true, ()), ())
                                                          else
                                                            some ((false, ()), ())
                                    else
                                      some ((false, ()), ())
                                else
                                  some ((false, ()), ())
                else
                  some ((false, ()), ())
def spec_LineNew (k : Nat) (x0 : Int) : Option ((D_Line × Unit) × Unit) :=
  (spec_LineOk k (x0, ([] : List D_Job), ([] : List D_Job), ([] : List D_Job), ())).bind fun t1 =>
    bif (!t1.1.1) then
      some ((((0 : Int), ([] : List D_Job), ([] : List D_Job), ([] : List D_Job), ()), ()), ())
    else
      some (((x0, ([] : List D_Job), ([] : List D_Job), ([] : List D_Job), ()), ()), ())
def spec_l13All (x0 : D_Vec) (x1 : Int) (x2 : Int) : Option ((Bool × Unit) × Unit) :=
  bif (decide (x1 ≤ x0.1)) then
    bif (decide (x0.1 ≤ x2)) then
      bif (decide (x1 ≤ x0.2.1)) then
        bif (decide (x0.2.1 ≤ x2)) then
          bif (decide (x1 ≤ x0.2.2.1)) then
            some (((decide (x0.2.2.1 ≤ x2)), ()), ())
          else
            some ((false, ()), ())
        else
          some ((false, ()), ())
      else
        some ((false, ()), ())
    else
      some ((false, ()), ())
  else
    some ((false, ()), ())
def spec_CostOk (x0 : D_Vec) : Option ((Bool × Unit) × Unit) :=
  (spec_l13All x0 (1 : Int) (1000 : Int)).bind fun t1 =>
    some (t1.1, ())
def spec_LinePut_s5 (rec : (Unit × (D_Line × (D_Job × (D_Line × ((List D_Job) × (Int × Unit)))))) → Option ((Unit × (D_Line × (Int × Unit))) ⊕ (Unit × (D_Line × (D_Job × (D_Line × ((List D_Job) × Unit))))))) (v : (Unit × (D_Line × (D_Job × (D_Line × ((List D_Job) × (Int × Unit))))))) : Option ((Unit × (D_Line × (Int × Unit))) ⊕ (Unit × (D_Line × (D_Job × (D_Line × ((List D_Job) × Unit)))))) :=
  bif (decide (v.2.2.2.2.2.1 < (((List.length v.2.2.2.2.1) : Nat) : Int))) then
    bif ((decide ((0 : Int) ≤ v.2.2.2.2.2.1)) && (decide (v.2.2.2.2.2.1 < (((List.length v.2.2.2.2.1) : Nat) : Int)))) then
      bif (decide ((Int.toNat v.2.2.2.2.2.1) < (List.length v.2.2.2.2.1))) then
        bif (decide ((List.getD v.2.2.2.2.1 (Int.toNat v.2.2.2.2.2.1) z_Job).1 = v.2.2.1.1)) then
          some (Sum.inl ((), ((0 : Int), ([] : List D_Job), ([] : List D_Job), ([] : List D_Job), ()), (2 : Int), ()))
        else
          rec ((), v.2.1, v.2.2.1, v.2.2.2.1, v.2.2.2.2.1, (IntKind.wrap .i64 (v.2.2.2.2.2.1 + (1 : Int))), ())
      else none
    else none
  else
    some (Sum.inr ((), v.2.1, v.2.2.1, v.2.2.2.1, v.2.2.2.2.1, ()))
def spec_LinePut (k : Nat) (x0 : D_Line) (x1 : D_Job) : Option ((D_Line × (Int × Unit)) × Unit) :=
  (spec_LineOk k x0).bind fun t1 =>
    bif (!(!t1.1.1)) then
      (spec_CostOk x1.2.1).bind fun t2 =>
        bif (!(!t2.1.1)) then
          bif (!(decide (x1.1 < (0 : Int)))) then
            bif (decide ((1000000000000 : Int) < x1.1)) then
              some ((((0 : Int), ([] : List D_Job), ([] : List D_Job), ([] : List D_Job), ()), (1 : Int), ()), ())
            else
              (spec_l21All x0).bind fun t3 =>
                (iter (spec_LinePut_s5) k ((), x0, x1, ((0 : Int), ([] : List D_Job), ([] : List D_Job), ([] : List D_Job), ()), t3.1.1, (0 : Int), ())).bind fun o4 =>
                  Sum.elim (fun a5 =>
                    some (a5.2, ()))
                  (fun b6 =>
                    bif (decide ((((List.length b6.2.2.2.2.1) : Nat) : Int) = b6.2.1.1)) then
                      some ((((0 : Int), ([] : List D_Job), ([] : List D_Job), ([] : List D_Job), ()), (3 : Int), ()), ())
                    else
                      (spec_l21Copy b6.2.1).bind fun t7 =>
                        bif (decide ((((List.length t7.1.1.2.1) + (1 : Nat)) * 32) ≤ (1099511627776 : Nat))) then
                          some (((t7.1.1.1, (t7.1.1.2.1 ++ ([b6.2.2.1] : List D_Job)), t7.1.1.2.2), (0 : Int), ()), ())
                        else none) o4
          else
            some ((((0 : Int), ([] : List D_Job), ([] : List D_Job), ([] : List D_Job), ()), (1 : Int), ()), ())
        else
          some ((((0 : Int), ([] : List D_Job), ([] : List D_Job), ([] : List D_Job), ()), (1 : Int), ()), ())
    else
      some ((((0 : Int), ([] : List D_Job), ([] : List D_Job), ([] : List D_Job), ()), (1 : Int), ()), ())
def spec_LineTimes_s5 (k : Nat) (rec : (Unit × ((List D_Job) × (D_Line × (Int × Unit)))) → Option ((Unit × ((List Int) × Unit)) ⊕ (Unit × (D_Line × Unit)))) (v : (Unit × ((List D_Job) × (D_Line × (Int × Unit))))) : Option ((Unit × ((List Int) × Unit)) ⊕ (Unit × (D_Line × Unit))) :=
  bif (decide (v.2.2.2.1 < (((List.length v.2.1) : Nat) : Int))) then
    bif ((decide ((0 : Int) ≤ v.2.2.2.1)) && (decide (v.2.2.2.1 < (((List.length v.2.1) : Nat) : Int)))) then
      bif (decide ((Int.toNat v.2.2.2.1) < (List.length v.2.1))) then
        (spec_LinePut k v.2.2.1 (List.getD v.2.1 (Int.toNat v.2.2.2.1) z_Job)).bind fun t2 =>
          bif (!(decide (t2.1.2.1 = (0 : Int)))) then
            some (Sum.inl ((), ([] : List Int), ()))
          else
            rec ((), v.2.1, t2.1.1, (IntKind.wrap .i64 (v.2.2.2.1 + (1 : Int))), ())
      else none
    else none
  else
    some (Sum.inr ((), v.2.2.1, ()))
def spec_LineTimes (k : Nat) (x0 : (List D_Job)) : Option (((List Int) × Unit) × Unit) :=
  bif (decide ((16 : Int) < (((List.length x0) : Nat) : Int))) then
    some ((([] : List Int), ()), ())
  else
    (spec_LineNew k (16 : Int)).bind fun t1 =>
      (iter (spec_LineTimes_s5 k) k ((), x0, t1.1.1, (0 : Int), ())).bind fun o2 =>
        Sum.elim (fun a3 =>
          some (a3.2, ()))
        (fun b4 =>
          (spec_l21Through k b4.2.1).bind fun t5 =>
            some (t5.1, ())) o2
def impl_LineNew (x0 : Int) : Option ((D_Line × Unit) × Unit) :=
  (impl_within x0 (1 : Int) (16 : Int)).bind fun t1 =>
    bif (!t1.1.1) then
      some ((((0 : Int), ([] : List D_Job), ([] : List D_Job), ([] : List D_Job), ()), ()), ())
    else
      some (((x0, ([] : List D_Job), ([] : List D_Job), ([] : List D_Job), ()), ()), ())
def impl_LinePut_1 (x0 : D_Job) (x1 : D_Job) : Option ((Bool × Unit) × Unit) :=
  some (((decide (x0.1 = x1.1)), ()), ())
def slices_IndexFunc_impl_Job_impl_Job_s2 (rec : (Unit × ((List D_Job) × ((D_Job × Unit) × D_Done))) → Option ((Unit × (Int × Unit)) ⊕ (Unit × Unit))) (v : (Unit × ((List D_Job) × ((D_Job × Unit) × D_Done)))) : Option ((Unit × (Int × Unit)) ⊕ (Unit × Unit)) :=
  bif (decide (v.2.2.2.2.1 < v.2.2.2.1)) then
    bif ((decide ((0 : Int) ≤ v.2.2.2.2.1)) && (decide (v.2.2.2.2.1 < (((List.length v.2.1) : Nat) : Int)))) then
      bif (decide ((Int.toNat v.2.2.2.2.1) < (List.length v.2.1))) then
        (impl_LinePut_1 (List.getD v.2.1 (Int.toNat v.2.2.2.2.1) z_Job) v.2.2.1.1).bind fun t1 =>
          bif t1.1.1 then
            some (Sum.inl ((), v.2.2.2.2))
          else
            rec ((), v.2.1, (v.2.2.1.1, ()), v.2.2.2.1, (IntKind.wrap .i64 (v.2.2.2.2.1 + (1 : Int))), ())
      else none
    else none
  else
    some (Sum.inr ((), ()))
def slices_IndexFunc_impl_Job_impl_Job (k : Nat) (x0 : (List D_Job)) (x1 : (D_Job × Unit)) : Option ((Int × Unit) × Unit) :=
  (iter (slices_IndexFunc_impl_Job_impl_Job_s2) k ((), x0, (x1.1, ()), (((List.length x0) : Nat) : Int), (0 : Int), ())).bind fun o1 =>
    Sum.elim (fun a2 =>
      some (a2.2, ()))
    (fun b3 =>
      some (((-1 : Int), ()), ())) o1
def slices_ContainsFunc_impl_Job_impl_Job (k : Nat) (x0 : (List D_Job)) (x1 : (D_Job × Unit)) : Option ((Bool × Unit) × Unit) :=
  (slices_IndexFunc_impl_Job_impl_Job k x0 (x1.1, ())).bind fun t1 =>
    some (((decide ((0 : Int) ≤ t1.1.1)), ()), ())
def impl_LinePut (k : Nat) (x0 : D_Line) (x1 : D_Job) : Option ((D_Line × (Int × Unit)) × Unit) :=
  (impl_LineOk k x0).bind fun t1 =>
    bif (!(!t1.1.1)) then
      (impl_CostOk x1.2.1).bind fun t2 =>
        bif (!(!t2.1.1)) then
          (impl_within x1.1 (0 : Int) (1000000000000 : Int)).bind fun t3 =>
            bif (!t3.1.1) then
              some ((((0 : Int), ([] : List D_Job), ([] : List D_Job), ([] : List D_Job), ()), (1 : Int), ()), ())
            else
              (impl_Line_jobs k x0).bind fun t4 =>
                (slices_ContainsFunc_impl_Job_impl_Job k t4.1.1 (x1, ())).bind fun t5 =>
                  bif t5.1.1 then
                    some ((((0 : Int), ([] : List D_Job), ([] : List D_Job), ([] : List D_Job), ()), (2 : Int), ()), ())
                  else
                    (impl_Line_jobs k x0).bind fun t6 =>
                      bif (decide ((((List.length t6.1.1) : Nat) : Int) = x0.1)) then
                        some ((((0 : Int), ([] : List D_Job), ([] : List D_Job), ([] : List D_Job), ()), (3 : Int), ()), ())
                      else
                        (impl_copyLine x0).bind fun t7 =>
                          bif (decide ((((List.length t7.1.1.2.1) + (1 : Nat)) * 32) ≤ (1099511627776 : Nat))) then
                            some (((t7.1.1.1, (t7.1.1.2.1 ++ ([x1] : List D_Job)), t7.1.1.2.2), (0 : Int), ()), ())
                          else none
        else
          some ((((0 : Int), ([] : List D_Job), ([] : List D_Job), ([] : List D_Job), ()), (1 : Int), ()), ())
    else
      some ((((0 : Int), ([] : List D_Job), ([] : List D_Job), ([] : List D_Job), ()), (1 : Int), ()), ())
def impl_LineTimes_s3 (k : Nat) (rec : (Unit × ((List D_Job) × (D_Line × ((List D_Job) × D_Done)))) → Option ((Unit × ((List Int) × Unit)) ⊕ (Unit × ((List D_Job) × (D_Line × Unit))))) (v : (Unit × ((List D_Job) × (D_Line × ((List D_Job) × D_Done))))) : Option ((Unit × ((List Int) × Unit)) ⊕ (Unit × ((List D_Job) × (D_Line × Unit)))) :=
  bif (decide (v.2.2.2.2.2.1 < v.2.2.2.2.1)) then
    bif ((decide ((0 : Int) ≤ v.2.2.2.2.2.1)) && (decide (v.2.2.2.2.2.1 < (((List.length v.2.2.2.1) : Nat) : Int)))) then
      bif (decide ((Int.toNat v.2.2.2.2.2.1) < (List.length v.2.2.2.1))) then
        (impl_LinePut k v.2.2.1 (List.getD v.2.2.2.1 (Int.toNat v.2.2.2.2.2.1) z_Job)).bind fun t2 =>
          bif (!(decide (t2.1.2.1 = (0 : Int)))) then
            some (Sum.inl ((), ([] : List Int), ()))
          else
            rec ((), v.2.1, t2.1.1, v.2.2.2.1, v.2.2.2.2.1, (IntKind.wrap .i64 (v.2.2.2.2.2.1 + (1 : Int))), ())
      else none
    else none
  else
    some (Sum.inr ((), v.2.1, v.2.2.1, ()))
def impl_LineTimes_s11 (rec : (Unit × ((List D_Job) × (D_Line × ((List Int) × (Int × Unit))))) → Option ((Unit × ((List Int) × Unit)))) (v : (Unit × ((List D_Job) × (D_Line × ((List Int) × (Int × Unit)))))) : Option ((Unit × ((List Int) × Unit))) :=
  bif (decide ((((List.length v.2.2.2.1) : Nat) : Int) < (((List.length v.2.1) : Nat) : Int))) then
    bif (decide ((0 : Int) < (((List.length v.2.2.1.2.2.2.1) : Nat) : Int))) then
      bif (decide ((0 : Int) < (((List.length v.2.2.1.2.2.2.1) : Nat) : Int))) then
        bif (decide ((0 : Nat) < (List.length v.2.2.1.2.2.2.1))) then
          bif (decide ((0 : Int) < (((List.length v.2.2.1.2.2.2.1) : Nat) : Int))) then
            bif (decide ((0 : Nat) < (List.length v.2.2.1.2.2.2.1))) then
              let y6 : (List D_Job) := (List.set v.2.2.1.2.2.2.1 (0 : Nat) ((List.getD v.2.2.1.2.2.2.1 (0 : Nat) z_Job).1, ((List.getD v.2.2.1.2.2.2.1 (0 : Nat) z_Job).2.1.1, (List.getD v.2.2.1.2.2.2.1 (0 : Nat) z_Job).2.1.2.1, (IntKind.wrap .i64 ((List.getD v.2.2.1.2.2.2.1 (0 : Nat) z_Job).2.1.2.2.1 - (1 : Int))), ()), ()))
              bif (decide ((0 : Int) < (((List.length y6) : Nat) : Int))) then
                bif (decide ((0 : Nat) < (List.length y6))) then
                  bif (decide ((List.getD y6 (0 : Nat) z_Job).2.1.2.2.1 = (0 : Int))) then
                    bif (decide ((0 : Int) < (((List.length y6) : Nat) : Int))) then
                      bif (decide ((0 : Nat) < (List.length y6))) then
                        bif ((decide ((1 : Int) ≤ (((List.length y6) : Nat) : Int))) && (decide ((((List.length y6) : Nat) : Int) ≤ (((List.length y6) : Nat) : Int)))) then
                          bif (decide ((0 : Int) < (((List.length v.2.2.1.2.2.1) : Nat) : Int))) then
                            bif (decide ((0 : Int) < (((List.length v.2.2.1.2.2.1) : Nat) : Int))) then
                              bif (decide ((0 : Nat) < (List.length v.2.2.1.2.2.1))) then
                                bif (decide ((0 : Int) < (((List.length v.2.2.1.2.2.1) : Nat) : Int))) then
                                  bif (decide ((0 : Nat) < (List.length v.2.2.1.2.2.1))) then
                                    let y7 : (List D_Job) := (List.set v.2.2.1.2.2.1 (0 : Nat) ((List.getD v.2.2.1.2.2.1 (0 : Nat) z_Job).1, ((List.getD v.2.2.1.2.2.1 (0 : Nat) z_Job).2.1.1, (IntKind.wrap .i64 ((List.getD v.2.2.1.2.2.1 (0 : Nat) z_Job).2.1.2.1 - (1 : Int))), (List.getD v.2.2.1.2.2.1 (0 : Nat) z_Job).2.1.2.2), ()))
                                    bif (decide ((0 : Int) < (((List.length y7) : Nat) : Int))) then
                                      bif (decide ((0 : Nat) < (List.length y7))) then
                                        bif (decide ((List.getD y7 (0 : Nat) z_Job).2.1.2.1 = (0 : Int))) then
                                          bif (decide ((0 : Int) < (((List.length y7) : Nat) : Int))) then
                                            bif (decide ((0 : Nat) < (List.length y7))) then
                                              bif (decide (((((List.length y6) - (1 : Nat)) + (1 : Nat)) * 32) ≤ (1099511627776 : Nat))) then
                                                bif ((decide ((1 : Int) ≤ (((List.length y7) : Nat) : Int))) && (decide ((((List.length y7) : Nat) : Int) ≤ (((List.length y7) : Nat) : Int)))) then
                                                  bif (decide ((0 : Int) < (((List.length v.2.2.1.2.1) : Nat) : Int))) then
                                                    bif (decide ((0 : Int) < (((List.length v.2.2.1.2.1) : Nat) : Int))) then
                                                      bif (decide ((0 : Nat) < (List.length v.2.2.1.2.1))) then
                                                        bif (decide ((0 : Int) < (((List.length v.2.2.1.2.1) : Nat) : Int))) then
                                                          bif (decide ((0 : Nat) < (List.length v.2.2.1.2.1))) then
                                                            let y8 : (List D_Job) := (List.set v.2.2.1.2.1 (0 : Nat) ((List.getD v.2.2.1.2.1 (0 : Nat) z_Job).1, ((IntKind.wrap .i64 ((List.getD v.2.2.1.2.1 (0 : Nat) z_Job).2.1.1 - (1 : Int))), (List.getD v.2.2.1.2.1 (0 : Nat) z_Job).2.1.2), ()))
                                                            bif (decide ((0 : Int) < (((List.length y8) : Nat) : Int))) then
                                                              bif (decide ((0 : Nat) < (List.length y8))) then
                                                                bif (decide ((List.getD y8 (0 : Nat) z_Job).2.1.1 = (0 : Int))) then
                                                                  bif (decide ((0 : Int) < (((List.length y8) : Nat) : Int))) then
                                                                    bif (decide ((0 : Nat) < (List.length y8))) then
                                                                      bif (decide (((((List.length y7) - (1 : Nat)) + (1 : Nat)) * 32) ≤ (1099511627776 : Nat))) then
                                                                        bif ((decide ((1 : Int) ≤ (((List.length y8) : Nat) : Int))) && (decide ((((List.length y8) : Nat) : Int) ≤ (((List.length y8) : Nat) : Int)))) then
                                                                          bif (decide ((0 : Int) ≤ (List.getD y6 (0 : Nat) z_Job).1)) then
                                                                            bif (decide ((((List.length v.2.2.2.1) + (1 : Nat)) * 8) ≤ (1099511627776 : Nat))) then
                                                                              rec ((), v.2.1, (v.2.2.1.1, (List.take ((List.length y8) - (1 : Nat)) (List.drop (1 : Nat) y8)), ((List.take ((List.length y7) - (1 : Nat)) (List.drop (1 : Nat) y7)) ++ ([(List.getD y8 (0 : Nat) z_Job)] : List D_Job)), ((List.take ((List.length y6) - (1 : Nat)) (List.drop (1 : Nat) y6)) ++ ([(List.getD y7 (0 : Nat) z_Job)] : List D_Job)), ()), (v.2.2.2.1 ++ ([v.2.2.2.2.1] : List Int)), (IntKind.wrap .i64 (v.2.2.2.2.1 + (1 : Int))), ())
                                                                            else none
                                                                          else
                                                                            rec ((), v.2.1, (v.2.2.1.1, (List.take ((List.length y8) - (1 : Nat)) (List.drop (1 : Nat) y8)), ((List.take ((List.length y7) - (1 : Nat)) (List.drop (1 : Nat) y7)) ++ ([(List.getD y8 (0 : Nat) z_Job)] : List D_Job)), ((List.take ((List.length y6) - (1 : Nat)) (List.drop (1 : Nat) y6)) ++ ([(List.getD y7 (0 : Nat) z_Job)] : List D_Job)), ()), v.2.2.2.1, (IntKind.wrap .i64 (v.2.2.2.2.1 + (1 : Int))), ())
                                                                        else none
                                                                      else none
                                                                    else none
                                                                  else none
                                                                else
                                                                  bif (decide ((0 : Int) ≤ (List.getD y6 (0 : Nat) z_Job).1)) then
                                                                    bif (decide ((((List.length v.2.2.2.1) + (1 : Nat)) * 8) ≤ (1099511627776 : Nat))) then
                                                                      rec ((), v.2.1, (v.2.2.1.1, y8, (List.take ((List.length y7) - (1 : Nat)) (List.drop (1 : Nat) y7)), ((List.take ((List.length y6) - (1 : Nat)) (List.drop (1 : Nat) y6)) ++ ([(List.getD y7 (0 : Nat) z_Job)] : List D_Job)), ()), (v.2.2.2.1 ++ ([v.2.2.2.2.1] : List Int)), (IntKind.wrap .i64 (v.2.2.2.2.1 + (1 : Int))), ())
                                                                    else none
                                                                  else
                                                                    rec ((), v.2.1, (v.2.2.1.1, y8, (List.take ((List.length y7) - (1 : Nat)) (List.drop (1 : Nat) y7)), ((List.take ((List.length y6) - (1 : Nat)) (List.drop (1 : Nat) y6)) ++ ([(List.getD y7 (0 : Nat) z_Job)] : List D_Job)), ()), v.2.2.2.1, (IntKind.wrap .i64 (v.2.2.2.2.1 + (1 : Int))), ())
                                                              else none
                                                            else none
                                                          else none
                                                        else none
                                                      else none
                                                    else none
                                                  else
                                                    bif (decide ((0 : Int) ≤ (List.getD y6 (0 : Nat) z_Job).1)) then
                                                      bif (decide ((((List.length v.2.2.2.1) + (1 : Nat)) * 8) ≤ (1099511627776 : Nat))) then
                                                        rec ((), v.2.1, (v.2.2.1.1, v.2.2.1.2.1, (List.take ((List.length y7) - (1 : Nat)) (List.drop (1 : Nat) y7)), ((List.take ((List.length y6) - (1 : Nat)) (List.drop (1 : Nat) y6)) ++ ([(List.getD y7 (0 : Nat) z_Job)] : List D_Job)), ()), (v.2.2.2.1 ++ ([v.2.2.2.2.1] : List Int)), (IntKind.wrap .i64 (v.2.2.2.2.1 + (1 : Int))), ())
                                                      else none
                                                    else
                                                      rec ((), v.2.1, (v.2.2.1.1, v.2.2.1.2.1, (List.take ((List.length y7) - (1 : Nat)) (List.drop (1 : Nat) y7)), ((List.take ((List.length y6) - (1 : Nat)) (List.drop (1 : Nat) y6)) ++ ([(List.getD y7 (0 : Nat) z_Job)] : List D_Job)), ()), v.2.2.2.1, (IntKind.wrap .i64 (v.2.2.2.2.1 + (1 : Int))), ())
                                                else none
                                              else none
                                            else none
                                          else none
                                        else
                                          bif (decide ((0 : Int) < (((List.length v.2.2.1.2.1) : Nat) : Int))) then
                                            bif (decide ((0 : Int) < (((List.length v.2.2.1.2.1) : Nat) : Int))) then
                                              bif (decide ((0 : Nat) < (List.length v.2.2.1.2.1))) then
                                                bif (decide ((0 : Int) < (((List.length v.2.2.1.2.1) : Nat) : Int))) then
                                                  bif (decide ((0 : Nat) < (List.length v.2.2.1.2.1))) then
                                                    let y9 : (List D_Job) := (List.set v.2.2.1.2.1 (0 : Nat) ((List.getD v.2.2.1.2.1 (0 : Nat) z_Job).1, ((IntKind.wrap .i64 ((List.getD v.2.2.1.2.1 (0 : Nat) z_Job).2.1.1 - (1 : Int))), (List.getD v.2.2.1.2.1 (0 : Nat) z_Job).2.1.2), ()))
                                                    bif (decide ((0 : Int) < (((List.length y9) : Nat) : Int))) then
                                                      bif (decide ((0 : Nat) < (List.length y9))) then
                                                        bif (decide ((List.getD y9 (0 : Nat) z_Job).2.1.1 = (0 : Int))) then
                                                          bif (decide ((0 : Int) < (((List.length y9) : Nat) : Int))) then
                                                            bif (decide ((0 : Nat) < (List.length y9))) then
                                                              bif (decide ((((List.length y7) + (1 : Nat)) * 32) ≤ (1099511627776 : Nat))) then
                                                                bif ((decide ((1 : Int) ≤ (((List.length y9) : Nat) : Int))) && (decide ((((List.length y9) : Nat) : Int) ≤ (((List.length y9) : Nat) : Int)))) then
                                                                  bif (decide ((0 : Int) ≤ (List.getD y6 (0 : Nat) z_Job).1)) then
                                                                    bif (decide ((((List.length v.2.2.2.1) + (1 : Nat)) * 8) ≤ (1099511627776 : Nat))) then
                                                                      rec ((), v.2.1, (v.2.2.1.1, (List.take ((List.length y9) - (1 : Nat)) (List.drop (1 : Nat) y9)), (y7 ++ ([(List.getD y9 (0 : Nat) z_Job)] : List D_Job)), (List.take ((List.length y6) - (1 : Nat)) (List.drop (1 : Nat) y6)), ()), (v.2.2.2.1 ++ ([v.2.2.2.2.1] : List Int)), (IntKind.wrap .i64 (v.2.2.2.2.1 + (1 : Int))), ())
                                                                    else none
                                                                  else
                                                                    rec ((), v.2.1, (v.2.2.1.1, (List.take ((List.length y9) - (1 : Nat)) (List.drop (1 : Nat) y9)), (y7 ++ ([(List.getD y9 (0 : Nat) z_Job)] : List D_Job)), (List.take ((List.length y6) - (1 : Nat)) (List.drop (1 : Nat) y6)), ()), v.2.2.2.1, (IntKind.wrap .i64 (v.2.2.2.2.1 + (1 : Int))), ())
                                                                else none
                                                              else none
                                                            else none
                                                          else none
                                                        else
                                                          bif (decide ((0 : Int) ≤ (List.getD y6 (0 : Nat) z_Job).1)) then
                                                            bif (decide ((((List.length v.2.2.2.1) + (1 : Nat)) * 8) ≤ (1099511627776 : Nat))) then
                                                              rec ((), v.2.1, (v.2.2.1.1, y9, y7, (List.take ((List.length y6) - (1 : Nat)) (List.drop (1 : Nat) y6)), ()), (v.2.2.2.1 ++ ([v.2.2.2.2.1] : List Int)), (IntKind.wrap .i64 (v.2.2.2.2.1 + (1 : Int))), ())
                                                            else none
                                                          else
                                                            rec ((), v.2.1, (v.2.2.1.1, y9, y7, (List.take ((List.length y6) - (1 : Nat)) (List.drop (1 : Nat) y6)), ()), v.2.2.2.1, (IntKind.wrap .i64 (v.2.2.2.2.1 + (1 : Int))), ())
                                                      else none
                                                    else none
                                                  else none
                                                else none
                                              else none
                                            else none
                                          else
                                            bif (decide ((0 : Int) ≤ (List.getD y6 (0 : Nat) z_Job).1)) then
                                              bif (decide ((((List.length v.2.2.2.1) + (1 : Nat)) * 8) ≤ (1099511627776 : Nat))) then
                                                rec ((), v.2.1, (v.2.2.1.1, v.2.2.1.2.1, y7, (List.take ((List.length y6) - (1 : Nat)) (List.drop (1 : Nat) y6)), ()), (v.2.2.2.1 ++ ([v.2.2.2.2.1] : List Int)), (IntKind.wrap .i64 (v.2.2.2.2.1 + (1 : Int))), ())
                                              else none
                                            else
                                              rec ((), v.2.1, (v.2.2.1.1, v.2.2.1.2.1, y7, (List.take ((List.length y6) - (1 : Nat)) (List.drop (1 : Nat) y6)), ()), v.2.2.2.1, (IntKind.wrap .i64 (v.2.2.2.2.1 + (1 : Int))), ())
                                      else none
                                    else none
                                  else none
                                else none
                              else none
                            else none
                          else
                            bif (decide ((0 : Int) < (((List.length v.2.2.1.2.1) : Nat) : Int))) then
                              bif (decide ((0 : Int) < (((List.length v.2.2.1.2.1) : Nat) : Int))) then
                                bif (decide ((0 : Nat) < (List.length v.2.2.1.2.1))) then
                                  bif (decide ((0 : Int) < (((List.length v.2.2.1.2.1) : Nat) : Int))) then
                                    bif (decide ((0 : Nat) < (List.length v.2.2.1.2.1))) then
                                      let y10 : (List D_Job) := (List.set v.2.2.1.2.1 (0 : Nat) ((List.getD v.2.2.1.2.1 (0 : Nat) z_Job).1, ((IntKind.wrap .i64 ((List.getD v.2.2.1.2.1 (0 : Nat) z_Job).2.1.1 - (1 : Int))), (List.getD v.2.2.1.2.1 (0 : Nat) z_Job).2.1.2), ()))
                                      bif (decide ((0 : Int) < (((List.length y10) : Nat) : Int))) then
                                        bif (decide ((0 : Nat) < (List.length y10))) then
                                          bif (decide ((List.getD y10 (0 : Nat) z_Job).2.1.1 = (0 : Int))) then
                                            bif (decide ((0 : Int) < (((List.length y10) : Nat) : Int))) then
                                              bif (decide ((0 : Nat) < (List.length y10))) then
                                                bif (decide ((((List.length v.2.2.1.2.2.1) + (1 : Nat)) * 32) ≤ (1099511627776 : Nat))) then
                                                  bif ((decide ((1 : Int) ≤ (((List.length y10) : Nat) : Int))) && (decide ((((List.length y10) : Nat) : Int) ≤ (((List.length y10) : Nat) : Int)))) then
                                                    bif (decide ((0 : Int) ≤ (List.getD y6 (0 : Nat) z_Job).1)) then
                                                      bif (decide ((((List.length v.2.2.2.1) + (1 : Nat)) * 8) ≤ (1099511627776 : Nat))) then
                                                        rec ((), v.2.1, (v.2.2.1.1, (List.take ((List.length y10) - (1 : Nat)) (List.drop (1 : Nat) y10)), (v.2.2.1.2.2.1 ++ ([(List.getD y10 (0 : Nat) z_Job)] : List D_Job)), (List.take ((List.length y6) - (1 : Nat)) (List.drop (1 : Nat) y6)), ()), (v.2.2.2.1 ++ ([v.2.2.2.2.1] : List Int)), (IntKind.wrap .i64 (v.2.2.2.2.1 + (1 : Int))), ())
                                                      else none
                                                    else
                                                      rec ((), v.2.1, (v.2.2.1.1, (List.take ((List.length y10) - (1 : Nat)) (List.drop (1 : Nat) y10)), (v.2.2.1.2.2.1 ++ ([(List.getD y10 (0 : Nat) z_Job)] : List D_Job)), (List.take ((List.length y6) - (1 : Nat)) (List.drop (1 : Nat) y6)), ()), v.2.2.2.1, (IntKind.wrap .i64 (v.2.2.2.2.1 + (1 : Int))), ())
                                                  else none
                                                else none
                                              else none
                                            else none
                                          else
                                            bif (decide ((0 : Int) ≤ (List.getD y6 (0 : Nat) z_Job).1)) then
                                              bif (decide ((((List.length v.2.2.2.1) + (1 : Nat)) * 8) ≤ (1099511627776 : Nat))) then
                                                rec ((), v.2.1, (v.2.2.1.1, y10, v.2.2.1.2.2.1, (List.take ((List.length y6) - (1 : Nat)) (List.drop (1 : Nat) y6)), ()), (v.2.2.2.1 ++ ([v.2.2.2.2.1] : List Int)), (IntKind.wrap .i64 (v.2.2.2.2.1 + (1 : Int))), ())
                                              else none
                                            else
                                              rec ((), v.2.1, (v.2.2.1.1, y10, v.2.2.1.2.2.1, (List.take ((List.length y6) - (1 : Nat)) (List.drop (1 : Nat) y6)), ()), v.2.2.2.1, (IntKind.wrap .i64 (v.2.2.2.2.1 + (1 : Int))), ())
                                        else none
                                      else none
                                    else none
                                  else none
                                else none
                              else none
                            else
                              bif (decide ((0 : Int) ≤ (List.getD y6 (0 : Nat) z_Job).1)) then
                                bif (decide ((((List.length v.2.2.2.1) + (1 : Nat)) * 8) ≤ (1099511627776 : Nat))) then
                                  rec ((), v.2.1, (v.2.2.1.1, v.2.2.1.2.1, v.2.2.1.2.2.1, (List.take ((List.length y6) - (1 : Nat)) (List.drop (1 : Nat) y6)), ()), (v.2.2.2.1 ++ ([v.2.2.2.2.1] : List Int)), (IntKind.wrap .i64 (v.2.2.2.2.1 + (1 : Int))), ())
                                else none
                              else
                                rec ((), v.2.1, (v.2.2.1.1, v.2.2.1.2.1, v.2.2.1.2.2.1, (List.take ((List.length y6) - (1 : Nat)) (List.drop (1 : Nat) y6)), ()), v.2.2.2.1, (IntKind.wrap .i64 (v.2.2.2.2.1 + (1 : Int))), ())
                        else none
                      else none
                    else none
                  else
                    bif (decide ((0 : Int) < (((List.length v.2.2.1.2.2.1) : Nat) : Int))) then
                      bif (decide ((0 : Int) < (((List.length v.2.2.1.2.2.1) : Nat) : Int))) then
                        bif (decide ((0 : Nat) < (List.length v.2.2.1.2.2.1))) then
                          bif (decide ((0 : Int) < (((List.length v.2.2.1.2.2.1) : Nat) : Int))) then
                            bif (decide ((0 : Nat) < (List.length v.2.2.1.2.2.1))) then
                              let y11 : (List D_Job) := (List.set v.2.2.1.2.2.1 (0 : Nat) ((List.getD v.2.2.1.2.2.1 (0 : Nat) z_Job).1, ((List.getD v.2.2.1.2.2.1 (0 : Nat) z_Job).2.1.1, (IntKind.wrap .i64 ((List.getD v.2.2.1.2.2.1 (0 : Nat) z_Job).2.1.2.1 - (1 : Int))), (List.getD v.2.2.1.2.2.1 (0 : Nat) z_Job).2.1.2.2), ()))
                              bif (decide ((0 : Int) < (((List.length y11) : Nat) : Int))) then
                                bif (decide ((0 : Nat) < (List.length y11))) then
                                  bif (decide ((List.getD y11 (0 : Nat) z_Job).2.1.2.1 = (0 : Int))) then
                                    bif (decide ((0 : Int) < (((List.length y11) : Nat) : Int))) then
                                      bif (decide ((0 : Nat) < (List.length y11))) then
                                        bif (decide ((((List.length y6) + (1 : Nat)) * 32) ≤ (1099511627776 : Nat))) then
                                          bif ((decide ((1 : Int) ≤ (((List.length y11) : Nat) : Int))) && (decide ((((List.length y11) : Nat) : Int) ≤ (((List.length y11) : Nat) : Int)))) then
                                            bif (decide ((0 : Int) < (((List.length v.2.2.1.2.1) : Nat) : Int))) then
                                              bif (decide ((0 : Int) < (((List.length v.2.2.1.2.1) : Nat) : Int))) then
                                                bif (decide ((0 : Nat) < (List.length v.2.2.1.2.1))) then
                                                  bif (decide ((0 : Int) < (((List.length v.2.2.1.2.1) : Nat) : Int))) then
                                                    bif (decide ((0 : Nat) < (List.length v.2.2.1.2.1))) then
                                                      let y12 : (List D_Job) := (List.set v.2.2.1.2.1 (0 : Nat) ((List.getD v.2.2.1.2.1 (0 : Nat) z_Job).1, ((IntKind.wrap .i64 ((List.getD v.2.2.1.2.1 (0 : Nat) z_Job).2.1.1 - (1 : Int))), (List.getD v.2.2.1.2.1 (0 : Nat) z_Job).2.1.2), ()))
                                                      bif (decide ((0 : Int) < (((List.length y12) : Nat) : Int))) then
                                                        bif (decide ((0 : Nat) < (List.length y12))) then
                                                          bif (decide ((List.getD y12 (0 : Nat) z_Job).2.1.1 = (0 : Int))) then
                                                            bif (decide ((0 : Int) < (((List.length y12) : Nat) : Int))) then
                                                              bif (decide ((0 : Nat) < (List.length y12))) then
                                                                bif (decide (((((List.length y11) - (1 : Nat)) + (1 : Nat)) * 32) ≤ (1099511627776 : Nat))) then
                                                                  bif ((decide ((1 : Int) ≤ (((List.length y12) : Nat) : Int))) && (decide ((((List.length y12) : Nat) : Int) ≤ (((List.length y12) : Nat) : Int)))) then
                                                                    rec ((), v.2.1, (v.2.2.1.1, (List.take ((List.length y12) - (1 : Nat)) (List.drop (1 : Nat) y12)), ((List.take ((List.length y11) - (1 : Nat)) (List.drop (1 : Nat) y11)) ++ ([(List.getD y12 (0 : Nat) z_Job)] : List D_Job)), (y6 ++ ([(List.getD y11 (0 : Nat) z_Job)] : List D_Job)), ()), v.2.2.2.1, (IntKind.wrap .i64 (v.2.2.2.2.1 + (1 : Int))), ())
                                                                  else none
                                                                else none
                                                              else none
                                                            else none
                                                          else
                                                            rec ((), v.2.1, (v.2.2.1.1, y12, (List.take ((List.length y11) - (1 : Nat)) (List.drop (1 : Nat) y11)), (y6 ++ ([(List.getD y11 (0 : Nat) z_Job)] : List D_Job)), ()), v.2.2.2.1, (IntKind.wrap .i64 (v.2.2.2.2.1 + (1 : Int))), ())
                                                        else none
                                                      else none
                                                    else none
                                                  else none
                                                else none
                                              else none
                                            else
                                              rec ((), v.2.1, (v.2.2.1.1, v.2.2.1.2.1, (List.take ((List.length y11) - (1 : Nat)) (List.drop (1 : Nat) y11)), (y6 ++ ([(List.getD y11 (0 : Nat) z_Job)] : List D_Job)), ()), v.2.2.2.1, (IntKind.wrap .i64 (v.2.2.2.2.1 + (1 : Int))), ())
                                          else none
                                        else none
                                      else none
                                    else none
                                  else
                                    bif (decide ((0 : Int) < (((List.length v.2.2.1.2.1) : Nat) : Int))) then
                                      bif (decide ((0 : Int) < (((List.length v.2.2.1.2.1) : Nat) : Int))) then
                                        bif (decide ((0 : Nat) < (List.length v.2.2.1.2.1))) then
                                          bif (decide ((0 : Int) < (((List.length v.2.2.1.2.1) : Nat) : Int))) then
                                            bif (decide ((0 : Nat) < (List.length v.2.2.1.2.1))) then
                                              let y13 : (List D_Job) := (List.set v.2.2.1.2.1 (0 : Nat) ((List.getD v.2.2.1.2.1 (0 : Nat) z_Job).1, ((IntKind.wrap .i64 ((List.getD v.2.2.1.2.1 (0 : Nat) z_Job).2.1.1 - (1 : Int))), (List.getD v.2.2.1.2.1 (0 : Nat) z_Job).2.1.2), ()))
                                              bif (decide ((0 : Int) < (((List.length y13) : Nat) : Int))) then
                                                bif (decide ((0 : Nat) < (List.length y13))) then
                                                  bif (decide ((List.getD y13 (0 : Nat) z_Job).2.1.1 = (0 : Int))) then
                                                    bif (decide ((0 : Int) < (((List.length y13) : Nat) : Int))) then
                                                      bif (decide ((0 : Nat) < (List.length y13))) then
                                                        bif (decide ((((List.length y11) + (1 : Nat)) * 32) ≤ (1099511627776 : Nat))) then
                                                          bif ((decide ((1 : Int) ≤ (((List.length y13) : Nat) : Int))) && (decide ((((List.length y13) : Nat) : Int) ≤ (((List.length y13) : Nat) : Int)))) then
                                                            rec ((), v.2.1, (v.2.2.1.1, (List.take ((List.length y13) - (1 : Nat)) (List.drop (1 : Nat) y13)), (y11 ++ ([(List.getD y13 (0 : Nat) z_Job)] : List D_Job)), y6, ()), v.2.2.2.1, (IntKind.wrap .i64 (v.2.2.2.2.1 + (1 : Int))), ())
                                                          else none
                                                        else none
                                                      else none
                                                    else none
                                                  else
                                                    rec ((), v.2.1, (v.2.2.1.1, y13, y11, y6, ()), v.2.2.2.1, (IntKind.wrap .i64 (v.2.2.2.2.1 + (1 : Int))), ())
                                                else none
                                              else none
                                            else none
                                          else none
                                        else none
                                      else none
                                    else
                                      rec ((), v.2.1, (v.2.2.1.1, v.2.2.1.2.1, y11, y6, ()), v.2.2.2.1, (IntKind.wrap .i64 (v.2.2.2.2.1 + (1 : Int))), ())
                                else none
                              else none
                            else none
                          else none
                        else none
                      else none
                    else
                      bif (decide ((0 : Int) < (((List.length v.2.2.1.2.1) : Nat) : Int))) then
                        bif (decide ((0 : Int) < (((List.length v.2.2.1.2.1) : Nat) : Int))) then
                          bif (decide ((0 : Nat) < (List.length v.2.2.1.2.1))) then
                            bif (decide ((0 : Int) < (((List.length v.2.2.1.2.1) : Nat) : Int))) then
                              bif (decide ((0 : Nat) < (List.length v.2.2.1.2.1))) then
                                let y14 : (List D_Job) := (List.set v.2.2.1.2.1 (0 : Nat) ((List.getD v.2.2.1.2.1 (0 : Nat) z_Job).1, ((IntKind.wrap .i64 ((List.getD v.2.2.1.2.1 (0 : Nat) z_Job).2.1.1 - (1 : Int))), (List.getD v.2.2.1.2.1 (0 : Nat) z_Job).2.1.2), ()))
                                bif (decide ((0 : Int) < (((List.length y14) : Nat) : Int))) then
                                  bif (decide ((0 : Nat) < (List.length y14))) then
                                    bif (decide ((List.getD y14 (0 : Nat) z_Job).2.1.1 = (0 : Int))) then
                                      bif (decide ((0 : Int) < (((List.length y14) : Nat) : Int))) then
                                        bif (decide ((0 : Nat) < (List.length y14))) then
                                          bif (decide ((((List.length v.2.2.1.2.2.1) + (1 : Nat)) * 32) ≤ (1099511627776 : Nat))) then
                                            bif ((decide ((1 : Int) ≤ (((List.length y14) : Nat) : Int))) && (decide ((((List.length y14) : Nat) : Int) ≤ (((List.length y14) : Nat) : Int)))) then
                                              rec ((), v.2.1, (v.2.2.1.1, (List.take ((List.length y14) - (1 : Nat)) (List.drop (1 : Nat) y14)), (v.2.2.1.2.2.1 ++ ([(List.getD y14 (0 : Nat) z_Job)] : List D_Job)), y6, ()), v.2.2.2.1, (IntKind.wrap .i64 (v.2.2.2.2.1 + (1 : Int))), ())
                                            else none
                                          else none
                                        else none
                                      else none
                                    else
                                      rec ((), v.2.1, (v.2.2.1.1, y14, v.2.2.1.2.2.1, y6, ()), v.2.2.2.1, (IntKind.wrap .i64 (v.2.2.2.2.1 + (1 : Int))), ())
                                  else none
                                else none
                              else none
                            else none
                          else none
                        else none
                      else
                        rec ((), v.2.1, (v.2.2.1.1, v.2.2.1.2.1, v.2.2.1.2.2.1, y6, ()), v.2.2.2.1, (IntKind.wrap .i64 (v.2.2.2.2.1 + (1 : Int))), ())
                else none
              else none
            else none
          else none
        else none
      else none
    else
      bif (decide ((0 : Int) < (((List.length v.2.2.1.2.2.1) : Nat) : Int))) then
        bif (decide ((0 : Int) < (((List.length v.2.2.1.2.2.1) : Nat) : Int))) then
          bif (decide ((0 : Nat) < (List.length v.2.2.1.2.2.1))) then
            bif (decide ((0 : Int) < (((List.length v.2.2.1.2.2.1) : Nat) : Int))) then
              bif (decide ((0 : Nat) < (List.length v.2.2.1.2.2.1))) then
                let y15 : (List D_Job) := (List.set v.2.2.1.2.2.1 (0 : Nat) ((List.getD v.2.2.1.2.2.1 (0 : Nat) z_Job).1, ((List.getD v.2.2.1.2.2.1 (0 : Nat) z_Job).2.1.1, (IntKind.wrap .i64 ((List.getD v.2.2.1.2.2.1 (0 : Nat) z_Job).2.1.2.1 - (1 : Int))), (List.getD v.2.2.1.2.2.1 (0 : Nat) z_Job).2.1.2.2), ()))
                bif (decide ((0 : Int) < (((List.length y15) : Nat) : Int))) then
                  bif (decide ((0 : Nat) < (List.length y15))) then
                    bif (decide ((List.getD y15 (0 : Nat) z_Job).2.1.2.1 = (0 : Int))) then
                      bif (decide ((0 : Int) < (((List.length y15) : Nat) : Int))) then
                        bif (decide ((0 : Nat) < (List.length y15))) then
                          bif (decide ((((List.length v.2.2.1.2.2.2.1) + (1 : Nat)) * 32) ≤ (1099511627776 : Nat))) then
                            bif ((decide ((1 : Int) ≤ (((List.length y15) : Nat) : Int))) && (decide ((((List.length y15) : Nat) : Int) ≤ (((List.length y15) : Nat) : Int)))) then
                              bif (decide ((0 : Int) < (((List.length v.2.2.1.2.1) : Nat) : Int))) then
                                bif (decide ((0 : Int) < (((List.length v.2.2.1.2.1) : Nat) : Int))) then
                                  bif (decide ((0 : Nat) < (List.length v.2.2.1.2.1))) then
                                    bif (decide ((0 : Int) < (((List.length v.2.2.1.2.1) : Nat) : Int))) then
                                      bif (decide ((0 : Nat) < (List.length v.2.2.1.2.1))) then
                                        let y16 : (List D_Job) := (List.set v.2.2.1.2.1 (0 : Nat) ((List.getD v.2.2.1.2.1 (0 : Nat) z_Job).1, ((IntKind.wrap .i64 ((List.getD v.2.2.1.2.1 (0 : Nat) z_Job).2.1.1 - (1 : Int))), (List.getD v.2.2.1.2.1 (0 : Nat) z_Job).2.1.2), ()))
                                        bif (decide ((0 : Int) < (((List.length y16) : Nat) : Int))) then
                                          bif (decide ((0 : Nat) < (List.length y16))) then
                                            bif (decide ((List.getD y16 (0 : Nat) z_Job).2.1.1 = (0 : Int))) then
                                              bif (decide ((0 : Int) < (((List.length y16) : Nat) : Int))) then
                                                bif (decide ((0 : Nat) < (List.length y16))) then
                                                  bif (decide (((((List.length y15) - (1 : Nat)) + (1 : Nat)) * 32) ≤ (1099511627776 : Nat))) then
                                                    bif ((decide ((1 : Int) ≤ (((List.length y16) : Nat) : Int))) && (decide ((((List.length y16) : Nat) : Int) ≤ (((List.length y16) : Nat) : Int)))) then
                                                      rec ((), v.2.1, (v.2.2.1.1, (List.take ((List.length y16) - (1 : Nat)) (List.drop (1 : Nat) y16)), ((List.take ((List.length y15) - (1 : Nat)) (List.drop (1 : Nat) y15)) ++ ([(List.getD y16 (0 : Nat) z_Job)] : List D_Job)), (v.2.2.1.2.2.2.1 ++ ([(List.getD y15 (0 : Nat) z_Job)] : List D_Job)), ()), v.2.2.2.1, (IntKind.wrap .i64 (v.2.2.2.2.1 + (1 : Int))), ())
                                                    else none
                                                  else none
                                                else none
                                              else none
                                            else
                                              rec ((), v.2.1, (v.2.2.1.1, y16, (List.take ((List.length y15) - (1 : Nat)) (List.drop (1 : Nat) y15)), (v.2.2.1.2.2.2.1 ++ ([(List.getD y15 (0 : Nat) z_Job)] : List D_Job)), ()), v.2.2.2.1, (IntKind.wrap .i64 (v.2.2.2.2.1 + (1 : Int))), ())
                                          else none
                                        else none
                                      else none
                                    else none
                                  else none
                                else none
                              else
                                rec ((), v.2.1, (v.2.2.1.1, v.2.2.1.2.1, (List.take ((List.length y15) - (1 : Nat)) (List.drop (1 : Nat) y15)), (v.2.2.1.2.2.2.1 ++ ([(List.getD y15 (0 : Nat) z_Job)] : List D_Job)), ()), v.2.2.2.1, (IntKind.wrap .i64 (v.2.2.2.2.1 + (1 : Int))), ())
                            else none
                          else none
                        else none
                      else none
                    else
                      bif (decide ((0 : Int) < (((List.length v.2.2.1.2.1) : Nat) : Int))) then
                        bif (decide ((0 : Int) < (((List.length v.2.2.1.2.1) : Nat) : Int))) then
                          bif (decide ((0 : Nat) < (List.length v.2.2.1.2.1))) then
                            bif (decide ((0 : Int) < (((List.length v.2.2.1.2.1) : Nat) : Int))) then
                              bif (decide ((0 : Nat) < (List.length v.2.2.1.2.1))) then
                                let y17 : (List D_Job) := (List.set v.2.2.1.2.1 (0 : Nat) ((List.getD v.2.2.1.2.1 (0 : Nat) z_Job).1, ((IntKind.wrap .i64 ((List.getD v.2.2.1.2.1 (0 : Nat) z_Job).2.1.1 - (1 : Int))), (List.getD v.2.2.1.2.1 (0 : Nat) z_Job).2.1.2), ()))
                                bif (decide ((0 : Int) < (((List.length y17) : Nat) : Int))) then
                                  bif (decide ((0 : Nat) < (List.length y17))) then
                                    bif (decide ((List.getD y17 (0 : Nat) z_Job).2.1.1 = (0 : Int))) then
                                      bif (decide ((0 : Int) < (((List.length y17) : Nat) : Int))) then
                                        bif (decide ((0 : Nat) < (List.length y17))) then
                                          bif (decide ((((List.length y15) + (1 : Nat)) * 32) ≤ (1099511627776 : Nat))) then
                                            bif ((decide ((1 : Int) ≤ (((List.length y17) : Nat) : Int))) && (decide ((((List.length y17) : Nat) : Int) ≤ (((List.length y17) : Nat) : Int)))) then
                                              rec ((), v.2.1, (v.2.2.1.1, (List.take ((List.length y17) - (1 : Nat)) (List.drop (1 : Nat) y17)), (y15 ++ ([(List.getD y17 (0 : Nat) z_Job)] : List D_Job)), v.2.2.1.2.2.2), v.2.2.2.1, (IntKind.wrap .i64 (v.2.2.2.2.1 + (1 : Int))), ())
                                            else none
                                          else none
                                        else none
                                      else none
                                    else
                                      rec ((), v.2.1, (v.2.2.1.1, y17, y15, v.2.2.1.2.2.2), v.2.2.2.1, (IntKind.wrap .i64 (v.2.2.2.2.1 + (1 : Int))), ())
                                  else none
                                else none
                              else none
                            else none
                          else none
                        else none
                      else
                        rec ((), v.2.1, (v.2.2.1.1, v.2.2.1.2.1, y15, v.2.2.1.2.2.2), v.2.2.2.1, (IntKind.wrap .i64 (v.2.2.2.2.1 + (1 : Int))), ())
                  else none
                else none
              else none
            else none
          else none
        else none
      else
        bif (decide ((0 : Int) < (((List.length v.2.2.1.2.1) : Nat) : Int))) then
          bif (decide ((0 : Int) < (((List.length v.2.2.1.2.1) : Nat) : Int))) then
            bif (decide ((0 : Nat) < (List.length v.2.2.1.2.1))) then
              bif (decide ((0 : Int) < (((List.length v.2.2.1.2.1) : Nat) : Int))) then
                bif (decide ((0 : Nat) < (List.length v.2.2.1.2.1))) then
                  let y18 : (List D_Job) := (List.set v.2.2.1.2.1 (0 : Nat) ((List.getD v.2.2.1.2.1 (0 : Nat) z_Job).1, ((IntKind.wrap .i64 ((List.getD v.2.2.1.2.1 (0 : Nat) z_Job).2.1.1 - (1 : Int))), (List.getD v.2.2.1.2.1 (0 : Nat) z_Job).2.1.2), ()))
                  bif (decide ((0 : Int) < (((List.length y18) : Nat) : Int))) then
                    bif (decide ((0 : Nat) < (List.length y18))) then
                      bif (decide ((List.getD y18 (0 : Nat) z_Job).2.1.1 = (0 : Int))) then
                        bif (decide ((0 : Int) < (((List.length y18) : Nat) : Int))) then
                          bif (decide ((0 : Nat) < (List.length y18))) then
                            bif (decide ((((List.length v.2.2.1.2.2.1) + (1 : Nat)) * 32) ≤ (1099511627776 : Nat))) then
                              bif ((decide ((1 : Int) ≤ (((List.length y18) : Nat) : Int))) && (decide ((((List.length y18) : Nat) : Int) ≤ (((List.length y18) : Nat) : Int)))) then
                                rec ((), v.2.1, (v.2.2.1.1, (List.take ((List.length y18) - (1 : Nat)) (List.drop (1 : Nat) y18)), (v.2.2.1.2.2.1 ++ ([(List.getD y18 (0 : Nat) z_Job)] : List D_Job)), v.2.2.1.2.2.2), v.2.2.2.1, (IntKind.wrap .i64 (v.2.2.2.2.1 + (1 : Int))), ())
                              else none
                            else none
                          else none
                        else none
                      else
                        rec ((), v.2.1, (v.2.2.1.1, y18, v.2.2.1.2.2), v.2.2.2.1, (IntKind.wrap .i64 (v.2.2.2.2.1 + (1 : Int))), ())
                    else none
                  else none
                else none
              else none
            else none
          else none
        else
          rec ((), v.2.1, v.2.2.1, v.2.2.2.1, (IntKind.wrap .i64 (v.2.2.2.2.1 + (1 : Int))), ())
  else
    some ((), v.2.2.2.1, ())
def impl_LineTimes (k : Nat) (x0 : (List D_Job)) : Option (((List Int) × Unit) × Unit) :=
  (impl_LineNew (16 : Int)).bind fun t1 =>
    (iter (impl_LineTimes_s3 k) k ((), x0, t1.1.1, x0, (((List.length x0) : Nat) : Int), (0 : Int), ())).bind fun o2 =>
      Sum.elim (fun a3 =>
        some (a3.2, ()))
      (fun b4 =>
        (iter (impl_LineTimes_s11) k ((), b4.2.1, b4.2.2.1, ([] : List Int), (1 : Int), ())).bind fun o5 =>
          some (o5.2, ())) o2
def laws_eqIntS_s4 (rec : (Unit × ((List Int) × ((List Int) × (Int × Unit)))) → Option ((Unit × (Bool × Unit)) ⊕ (Unit × Unit))) (v : (Unit × ((List Int) × ((List Int) × (Int × Unit))))) : Option ((Unit × (Bool × Unit)) ⊕ (Unit × Unit)) :=
  bif (decide (v.2.2.2.1 < (((List.length v.2.1) : Nat) : Int))) then
    bif ((decide ((0 : Int) ≤ v.2.2.2.1)) && (decide (v.2.2.2.1 < (((List.length v.2.1) : Nat) : Int)))) then
      bif (decide ((Int.toNat v.2.2.2.1) < (List.length v.2.1))) then
        bif ((decide ((0 : Int) ≤ v.2.2.2.1)) && (decide (v.2.2.2.1 < (((List.length v.2.2.1) : Nat) : Int)))) then
          bif (decide ((Int.toNat v.2.2.2.1) < (List.length v.2.2.1))) then
            bif (!(decide ((List.getD v.2.1 (Int.toNat v.2.2.2.1) (0 : Int)) = (List.getD v.2.2.1 (Int.toNat v.2.2.2.1) (0 : Int))))) then
              some (Sum.inl ((), false, ()))
            else
              rec ((), v.2.1, v.2.2.1, (IntKind.wrap .i64 (v.2.2.2.1 + (1 : Int))), ())
          else none
        else none
      else none
    else none
  else
    some (Sum.inr ((), ()))
def laws_eqIntS (k : Nat) (x0 : (List Int)) (x1 : (List Int)) : Option ((Bool × Unit) × Unit) :=
  bif (!(decide ((((List.length x0) : Nat) : Int) = (((List.length x1) : Nat) : Int)))) then
    some ((false, ()), ())
  else
    (iter (laws_eqIntS_s4) k ((), x0, x1, (0 : Int), ())).bind fun o1 =>
      Sum.elim (fun a2 =>
        some (a2.2, ()))
      (fun b3 =>
        some ((true, ()), ())) o1
def laws_markIntS_s2 (rec : (((List Int) × Unit) × (Unit × D_Done)) → Option ((((List Int) × Unit) × (Int × Unit)))) (v : (((List Int) × Unit) × (Unit × D_Done))) : Option ((((List Int) × Unit) × (Int × Unit))) :=
  bif (decide (v.2.2.2.1 < (((List.length v.1.1) : Nat) : Int))) then
    bif ((decide ((0 : Int) ≤ v.2.2.2.1)) && (decide (v.2.2.2.1 < (((List.length v.1.1) : Nat) : Int)))) then
      bif (decide ((Int.toNat v.2.2.2.1) < (List.length v.1.1))) then
        let y1 : (List Int) := (List.set v.1.1 (Int.toNat v.2.2.2.1) v.2.2.1)
        rec ((y1, ()), (), (IntKind.wrap .i64 (v.2.2.1 + (1 : Int))), (IntKind.wrap .i64 (v.2.2.2.1 + (1 : Int))), ())
      else none
    else none
  else
    some (v.1, v.2.2.1, ())
def laws_markIntS (k : Nat) (x0 : (List Int)) (x1 : Int) : Option ((Int × Unit) × ((List Int) × Unit)) :=
  (iter (laws_markIntS_s2) k ((x0, ()), (), x1, (0 : Int), ())).bind fun o1 =>
    some (o1.2, o1.1)
def laws_heldIntS_s2 (rec : (Unit × ((List Int) × D_Done)) → Option ((Unit × (Int × Unit)) ⊕ (Unit × (Int × Unit)))) (v : (Unit × ((List Int) × D_Done))) : Option ((Unit × (Int × Unit)) ⊕ (Unit × (Int × Unit))) :=
  bif (decide (v.2.2.2.1 < (((List.length v.2.1) : Nat) : Int))) then
    bif ((decide ((0 : Int) ≤ v.2.2.2.1)) && (decide (v.2.2.2.1 < (((List.length v.2.1) : Nat) : Int)))) then
      bif (decide ((Int.toNat v.2.2.2.1) < (List.length v.2.1))) then
        bif (!(decide ((List.getD v.2.1 (Int.toNat v.2.2.2.1) (0 : Int)) = v.2.2.1))) then
          some (Sum.inl ((), (-1 : Int), ()))
        else
          rec ((), v.2.1, (IntKind.wrap .i64 (v.2.2.1 + (1 : Int))), (IntKind.wrap .i64 (v.2.2.2.1 + (1 : Int))), ())
      else none
    else none
  else
    some (Sum.inr ((), v.2.2.1, ()))
def laws_heldIntS (k : Nat) (x0 : (List Int)) (x1 : Int) : Option ((Int × Unit) × Unit) :=
  (iter (laws_heldIntS_s2) k ((), x0, x1, (0 : Int), ())).bind fun o1 =>
    Sum.elim (fun a2 =>
      some (a2.2, ()))
    (fun b3 =>
      some (b3.2, ())) o1
def laws_FnExactLineTimes (k : Nat) (x0 : (List D_Job)) : Option ((Bool × Unit) × Unit) :=
  (laws_szJobS x0 (1048576 : Int)).bind fun t1 =>
    bif (decide (t1.1.1 < (0 : Int))) then
      some ((true, ()), ())
    else
      (laws_toJobS k x0).bind fun t2 =>
        (spec_LineTimes k t2.1.1).bind fun t3 =>
          (laws_toJobS k x0).bind fun t4 =>
            (impl_LineTimes k t4.1.1).bind fun t5 =>
              (laws_eqIntS k t5.1.1 t3.1.1).bind fun t6 =>
                bif (!t6.1.1) then
                  some ((false, ()), ())
                else
                  (laws_toJobS k x0).bind fun t7 =>
                    (laws_eqJobS k t4.1.1 t7.1.1).bind fun t8 =>
                      bif (!t8.1.1) then
                        some ((false, ()), ())
                      else
                        (laws_markJobS k t4.1.1 (1 : Int)).bind fun t9 =>
                          bif (!(decide (t9.1.1 < (0 : Int)))) then
                            (laws_eqIntS k t5.1.1 t3.1.1).bind fun t10 =>
                              bif (!t10.1.1) then
                                some ((false, ()), ())
                              else
                                (laws_markIntS k t5.1.1 (1 : Int)).bind fun t11 =>
                                  (laws_heldIntS k t11.2.1 (1 : Int)).bind fun t12 =>
                                    bif (decide (t12.1.1 < (0 : Int))) then
                                      some ((false, ()), ())
                                    else
                                      bif (!(decide (t12.1.1 = t11.1.1))) then
                                        some ((false, ()), ())
                                      else
                                        (laws_toJobS k x0).bind fun t13 =>
                                          (impl_LineTimes k t13.1.1).bind fun t14 =>
                                            (laws_eqIntS k t14.1.1 t3.1.1).bind fun t15 =>
                                              bif (!t15.1.1) then
                                                some ((false, ()), ())
                                              else
                                                (laws_heldIntS k t11.2.1 (1 : Int)).bind fun t16 =>
                                                  bif (decide (t16.1.1 < (0 : Int))) then
                                                    some ((false, ()), ())
                                                  else
                                                    bif (!(decide (t16.1.1 = t11.1.1))) then
                                                      some ((false, ()), ())
                                                    else
                                                      some ((true, ()), ())
                          else
                            some ((false, ()), ())
def laws_big (x0 : (List Int)) : Option ((Bool × Unit) × Unit) :=
  some (((decide ((1048576 : Int) < (((List.length x0) : Nat) : Int))), ()), ())
def spec_l01Cur_pick (x0 : D_l01Cur) (x1 : Int) : Option ((Int × Unit) × (D_l01Cur × Unit)) :=
  bif (decide (x1 < (2 : Int))) then
    some (((0 : Int), ()), x0, ())
  else
    bif (decide (x0.2.1 < (((List.length x0.1) : Nat) : Int))) then
      bif ((decide ((0 : Int) ≤ x0.2.1)) && (decide (x0.2.1 < (((List.length x0.1) : Nat) : Int)))) then
        bif (decide ((Int.toNat x0.2.1) < (List.length x0.1))) then
          bif (!(decide (x1 = (0 : Int)))) then
            some (((Int.tmod (IntKind.wrap .i64 (List.getD x0.1 (Int.toNat x0.2.1) (0 : Int))) x1), ()), (x0.1, (IntKind.wrap .i64 (x0.2.1 + (1 : Int))), x0.2.2), ())
          else none
        else none
      else none
    else
      bif (decide ((0 : Int) < (((List.length x0.1) : Nat) : Int))) then
        bif (!(decide ((((List.length x0.1) : Nat) : Int) = (0 : Int)))) then
          bif ((decide ((0 : Int) ≤ (Int.tmod x0.2.1 (((List.length x0.1) : Nat) : Int)))) && (decide ((Int.tmod x0.2.1 (((List.length x0.1) : Nat) : Int)) < (((List.length x0.1) : Nat) : Int)))) then
            bif (decide ((Int.toNat (Int.tmod x0.2.1 (((List.length x0.1) : Nat) : Int))) < (List.length x0.1))) then
              bif (!(decide (x1 = (0 : Int)))) then
                some (((Int.tmod (IntKind.wrap .i64 ((IntKind.wrap .i64 (Int.tdiv (Int.tmod (IntKind.wrap .i64 ((IntKind.wrap .i64 (x0.2.2.1 * (1103 : Int))) + (12345 : Int))) (65521 : Int)) (7 : Int))) + (IntKind.wrap .i64 (List.getD x0.1 (Int.toNat (Int.tmod x0.2.1 (((List.length x0.1) : Nat) : Int))) (0 : Int))))) x1), ()), (x0.1, (IntKind.wrap .i64 (x0.2.1 + (1 : Int))), (Int.tmod (IntKind.wrap .i64 ((IntKind.wrap .i64 (x0.2.2.1 * (1103 : Int))) + (12345 : Int))) (65521 : Int)), ()), ())
              else none
            else none
          else none
        else none
      else
        bif (!(decide (x1 = (0 : Int)))) then
          some (((Int.tmod (0 : Int) x1), ()), (x0.1, (IntKind.wrap .i64 (x0.2.1 + (1 : Int))), (Int.tmod (IntKind.wrap .i64 ((IntKind.wrap .i64 (x0.2.2.1 * (1103 : Int))) + (12345 : Int))) (65521 : Int)), ()), ())
        else none
def spec_l01Cur_wide (x0 : D_l01Cur) (x1 : Int) : Option ((Int × Unit) × (D_l01Cur × Unit)) :=
  (spec_l01Cur_pick x0 (256 : Int)).bind fun t1 =>
    (spec_l01Cur_pick t1.2.1 (256 : Int)).bind fun t2 =>
      (spec_l01Cur_pick t2.2.1 (256 : Int)).bind fun t3 =>
        bif (!(decide (x1 = (0 : Int)))) then
          some (((Int.tmod (IntKind.wrap .i64 ((IntKind.wrap .i64 ((IntKind.wrap .i64 ((65536 : Int) * t1.1.1)) + (IntKind.wrap .i64 ((256 : Int) * t2.1.1)))) + t3.1.1)) x1), ()), t3.2)
        else none
def spec_l01Cur_cost (x0 : D_l01Cur) (x1 : Int) : Option ((D_Vec × Unit) × (D_l01Cur × Unit)) :=
  (spec_l01Cur_pick x0 (4 : Int)).bind fun t1 =>
    bif ((decide ((0 : Int) ≤ t1.1.1)) && (decide (t1.1.1 < (4 : Int)))) then
      bif (decide ((Int.toNat t1.1.1) < (4 : Nat))) then
        (spec_l01Cur_wide t1.2.1 (List.getD ([(9 : Int), (100 : Int), x1, x1] : List Int) (Int.toNat t1.1.1) (0 : Int))).bind fun t2 =>
          (spec_l01Cur_wide t2.2.1 (List.getD ([(9 : Int), (100 : Int), x1, x1] : List Int) (Int.toNat t1.1.1) (0 : Int))).bind fun t3 =>
            (spec_l01Cur_wide t3.2.1 (List.getD ([(9 : Int), (100 : Int), x1, x1] : List Int) (Int.toNat t1.1.1) (0 : Int))).bind fun t4 =>
              some ((((IntKind.wrap .i64 ((1 : Int) + t2.1.1)), (IntKind.wrap .i64 ((1 : Int) + t3.1.1)), (IntKind.wrap .i64 ((1 : Int) + t4.1.1)), ()), ()), t4.2)
      else none
    else none
def spec_l01Cur_jobs_s3 (rec : ((D_l01Cur × Unit) × (Unit × ((List D_Job) × (Int × Unit)))) → Option (((D_l01Cur × Unit) × ((List D_Job) × Unit)))) (v : ((D_l01Cur × Unit) × (Unit × ((List D_Job) × (Int × Unit))))) : Option (((D_l01Cur × Unit) × ((List D_Job) × Unit))) :=
  bif (decide ((0 : Int) < v.2.2.2.1)) then
    (spec_l01Cur_pick (v.1.1.1, v.1.1.2.1, v.1.1.2.2.1, ()) (3 : Int)).bind fun t2 =>
      bif ((decide ((0 : Int) ≤ t2.1.1)) && (decide (t2.1.1 < (3 : Int)))) then
        bif (decide ((Int.toNat t2.1.1) < (3 : Nat))) then
          (spec_l01Cur_cost t2.2.1 (List.getD ([(4 : Int), (12 : Int), (1000 : Int)] : List Int) (Int.toNat t2.1.1) (0 : Int))).bind fun t3 =>
            bif (decide ((((List.length v.2.2.1) + (1 : Nat)) * 32) ≤ (1099511627776 : Nat))) then
              rec (t3.2, (), (v.2.2.1 ++ ([(v.2.2.2.1, t3.1)] : List D_Job)), (IntKind.wrap .i64 (v.2.2.2.1 - (1 : Int))), ())
            else none
        else none
      else none
  else
    some (((v.1.1.1, v.1.1.2.1, v.1.1.2.2.1, ()), ()), v.2.2.1, ())
def spec_l01Cur_jobs (k : Nat) (x0 : D_l01Cur) : Option (((List D_Job) × Unit) × (D_l01Cur × Unit)) :=
  (spec_l01Cur_pick x0 (18 : Int)).bind fun t1 =>
    (iter (spec_l01Cur_jobs_s3) k (t1.2, (), ([] : List D_Job), t1.1)).bind fun o2 =>
      some (o2.2, (o2.1.1.1, o2.1.1.2.1, o2.1.1.2.2.1, ()), ())
def spec_l01Cur_once (x0 : D_l01Cur) (x1 : Int) : Option ((Bool × Unit) × (D_l01Cur × Unit)) :=
  (spec_l01Cur_pick x0 x1).bind fun t1 =>
    some (((decide (t1.1.1 = (IntKind.wrap .i64 (x1 - (1 : Int))))), ()), t1.2)
def spec_l01Cur_raw (x0 : D_l01Cur) : Option ((Int × Unit) × (D_l01Cur × Unit)) :=
  (spec_l01Cur_pick x0 (8 : Int)).bind fun t1 =>
    bif (decide (t1.1.1 = (0 : Int))) then
      (spec_l01Cur_pick t1.2.1 (256 : Int)).bind fun t2 =>
        some (((IntKind.wrap .i64 (t2.1.1 - (128 : Int))), ()), t2.2)
    else
      bif (decide (t1.1.1 = (1 : Int))) then
        (spec_l01Cur_pick t1.2.1 (8 : Int)).bind fun t3 =>
          bif ((decide ((0 : Int) ≤ t3.1.1)) && (decide (t3.1.1 < (8 : Int)))) then
            bif (decide ((Int.toNat t3.1.1) < (8 : Nat))) then
              some (((List.getD ([(9223372036854775807 : Int), (-9223372036854775808 : Int), (4611686018427387904 : Int), (65535 : Int), (65536 : Int), (-1000 : Int), (4294967295 : Int), (4294967296 : Int)] : List Int) (Int.toNat t3.1.1) (0 : Int)), ()), t3.2)
            else none
          else none
      else
        (spec_l01Cur_pick t1.2.1 (14 : Int)).bind fun t4 =>
          some (((IntKind.wrap .i64 (t4.1.1 - (3 : Int))), ()), t4.2)
def spec_l01Cur_vec (x0 : D_l01Cur) : Option ((D_Vec × Unit) × (D_l01Cur × Unit)) :=
  (spec_l01Cur_once x0 (5 : Int)).bind fun t1 =>
    bif t1.1.1 then
      (spec_l01Cur_raw t1.2.1).bind fun t2 =>
        (spec_l01Cur_raw t2.2.1).bind fun t3 =>
          (spec_l01Cur_raw t3.2.1).bind fun t4 =>
            some (((t2.1.1, t3.1.1, t4.1), ()), t4.2)
    else
      (spec_l01Cur_pick t1.2.1 (5 : Int)).bind fun t5 =>
        bif ((decide ((0 : Int) ≤ t5.1.1)) && (decide (t5.1.1 < (5 : Int)))) then
          bif (decide ((Int.toNat t5.1.1) < (5 : Nat))) then
            (spec_l01Cur_pick t5.2.1 (256 : Int)).bind fun t6 =>
              (spec_l01Cur_pick t6.2.1 (256 : Int)).bind fun t7 =>
                (spec_l01Cur_pick t7.2.1 (256 : Int)).bind fun t8 =>
                  some ((((IntKind.wrap .i64 (t6.1.1 * (List.getD ([(1 : Int), (100 : Int), (2520 : Int), (2520000 : Int), (1000000000 : Int)] : List Int) (Int.toNat t5.1.1) (0 : Int)))), (IntKind.wrap .i64 (t7.1.1 * (List.getD ([(1 : Int), (100 : Int), (2520 : Int), (2520000 : Int), (1000000000 : Int)] : List Int) (Int.toNat t5.1.1) (0 : Int)))), (IntKind.wrap .i64 (t8.1.1 * (List.getD ([(1 : Int), (100 : Int), (2520 : Int), (2520000 : Int), (1000000000 : Int)] : List Int) (Int.toNat t5.1.1) (0 : Int)))), ()), ()), t8.2)
          else none
        else none
def spec_DrawLineTimes (k : Nat) (x0 : (List Int)) : Option (((List D_Job) × Unit) × Unit) :=
  (spec_l01Cur_jobs k (x0, (0 : Int), (IntKind.wrap .i64 ((71 : Int) + (Int.tmod (((List.length x0) : Nat) : Int) (1000 : Int)))), ())).bind fun t1 =>
    (spec_l01Cur_once t1.2.1 (9 : Int)).bind fun t2 =>
      bif t2.1.1 then
        (spec_l01Cur_pick t2.2.1 (5 : Int)).bind fun t3 =>
          (spec_l01Cur_vec t3.2.1).bind fun t4 =>
            bif (decide ((((List.length t1.1.1) + (1 : Nat)) * 32) ≤ (1099511627776 : Nat))) then
              some (((t1.1.1 ++ ([(t3.1.1, t4.1)] : List D_Job)), ()), ())
            else none
      else
        some (t1.1, ())
def impl_LineRun_s5 (rec : (Unit × (Int × (D_Line × (D_Line × ((List D_Done) × (Int × Unit)))))) → Option ((Unit × (D_Line × (D_Line × ((List D_Done) × Unit)))))) (v : (Unit × (Int × (D_Line × (D_Line × ((List D_Done) × (Int × Unit))))))) : Option ((Unit × (D_Line × (D_Line × ((List D_Done) × Unit))))) :=
  bif (decide (v.2.2.2.2.2.1 ≤ v.2.1)) then
    bif (decide ((0 : Int) < (((List.length v.2.2.2.1.2.2.2.1) : Nat) : Int))) then
      bif (decide ((0 : Int) < (((List.length v.2.2.2.1.2.2.2.1) : Nat) : Int))) then
        bif (decide ((0 : Nat) < (List.length v.2.2.2.1.2.2.2.1))) then
          bif (decide ((0 : Int) < (((List.length v.2.2.2.1.2.2.2.1) : Nat) : Int))) then
            bif (decide ((0 : Nat) < (List.length v.2.2.2.1.2.2.2.1))) then
              let y4 : (List D_Job) := (List.set v.2.2.2.1.2.2.2.1 (0 : Nat) ((List.getD v.2.2.2.1.2.2.2.1 (0 : Nat) z_Job).1, ((List.getD v.2.2.2.1.2.2.2.1 (0 : Nat) z_Job).2.1.1, (List.getD v.2.2.2.1.2.2.2.1 (0 : Nat) z_Job).2.1.2.1, (IntKind.wrap .i64 ((List.getD v.2.2.2.1.2.2.2.1 (0 : Nat) z_Job).2.1.2.2.1 - (1 : Int))), ()), ()))
              bif (decide ((0 : Int) < (((List.length y4) : Nat) : Int))) then
                bif (decide ((0 : Nat) < (List.length y4))) then
                  bif (decide ((List.getD y4 (0 : Nat) z_Job).2.1.2.2.1 = (0 : Int))) then
                    bif (decide ((0 : Int) < (((List.length y4) : Nat) : Int))) then
                      bif (decide ((0 : Nat) < (List.length y4))) then
                        bif ((decide ((1 : Int) ≤ (((List.length y4) : Nat) : Int))) && (decide ((((List.length y4) : Nat) : Int) ≤ (((List.length y4) : Nat) : Int)))) then
                          bif (decide ((0 : Int) < (((List.length v.2.2.2.1.2.2.1) : Nat) : Int))) then
                            bif (decide ((0 : Int) < (((List.length v.2.2.2.1.2.2.1) : Nat) : Int))) then
                              bif (decide ((0 : Nat) < (List.length v.2.2.2.1.2.2.1))) then
                                bif (decide ((0 : Int) < (((List.length v.2.2.2.1.2.2.1) : Nat) : Int))) then
                                  bif (decide ((0 : Nat) < (List.length v.2.2.2.1.2.2.1))) then
                                    let y5 : (List D_Job) := (List.set v.2.2.2.1.2.2.1 (0 : Nat) ((List.getD v.2.2.2.1.2.2.1 (0 : Nat) z_Job).1, ((List.getD v.2.2.2.1.2.2.1 (0 : Nat) z_Job).2.1.1, (IntKind.wrap .i64 ((List.getD v.2.2.2.1.2.2.1 (0 : Nat) z_Job).2.1.2.1 - (1 : Int))), (List.getD v.2.2.2.1.2.2.1 (0 : Nat) z_Job).2.1.2.2), ()))
                                    bif (decide ((0 : Int) < (((List.length y5) : Nat) : Int))) then
                                      bif (decide ((0 : Nat) < (List.length y5))) then
                                        bif (decide ((List.getD y5 (0 : Nat) z_Job).2.1.2.1 = (0 : Int))) then
                                          bif (decide ((0 : Int) < (((List.length y5) : Nat) : Int))) then
                                            bif (decide ((0 : Nat) < (List.length y5))) then
                                              bif (decide (((((List.length y4) - (1 : Nat)) + (1 : Nat)) * 32) ≤ (1099511627776 : Nat))) then
                                                bif ((decide ((1 : Int) ≤ (((List.length y5) : Nat) : Int))) && (decide ((((List.length y5) : Nat) : Int) ≤ (((List.length y5) : Nat) : Int)))) then
                                                  bif (decide ((0 : Int) < (((List.length v.2.2.2.1.2.1) : Nat) : Int))) then
                                                    bif (decide ((0 : Int) < (((List.length v.2.2.2.1.2.1) : Nat) : Int))) then
                                                      bif (decide ((0 : Nat) < (List.length v.2.2.2.1.2.1))) then
                                                        bif (decide ((0 : Int) < (((List.length v.2.2.2.1.2.1) : Nat) : Int))) then
                                                          bif (decide ((0 : Nat) < (List.length v.2.2.2.1.2.1))) then
                                                            let y6 : (List D_Job) := (List.set v.2.2.2.1.2.1 (0 : Nat) ((List.getD v.2.2.2.1.2.1 (0 : Nat) z_Job).1, ((IntKind.wrap .i64 ((List.getD v.2.2.2.1.2.1 (0 : Nat) z_Job).2.1.1 - (1 : Int))), (List.getD v.2.2.2.1.2.1 (0 : Nat) z_Job).2.1.2), ()))
                                                            bif (decide ((0 : Int) < (((List.length y6) : Nat) : Int))) then
                                                              bif (decide ((0 : Nat) < (List.length y6))) then
                                                                bif (decide ((List.getD y6 (0 : Nat) z_Job).2.1.1 = (0 : Int))) then
                                                                  bif (decide ((0 : Int) < (((List.length y6) : Nat) : Int))) then
                                                                    bif (decide ((0 : Nat) < (List.length y6))) then
                                                                      bif (decide (((((List.length y5) - (1 : Nat)) + (1 : Nat)) * 32) ≤ (1099511627776 : Nat))) then
                                                                        bif ((decide ((1 : Int) ≤ (((List.length y6) : Nat) : Int))) && (decide ((((List.length y6) : Nat) : Int) ≤ (((List.length y6) : Nat) : Int)))) then
                                                                          bif (decide ((0 : Int) ≤ (List.getD y4 (0 : Nat) z_Job).1)) then
                                                                            bif (decide ((((List.length v.2.2.2.2.1) + (1 : Nat)) * 16) ≤ (1099511627776 : Nat))) then
                                                                              rec ((), v.2.1, v.2.2.1, (v.2.2.2.1.1, (List.take ((List.length y6) - (1 : Nat)) (List.drop (1 : Nat) y6)), ((List.take ((List.length y5) - (1 : Nat)) (List.drop (1 : Nat) y5)) ++ ([(List.getD y6 (0 : Nat) z_Job)] : List D_Job)), ((List.take ((List.length y4) - (1 : Nat)) (List.drop (1 : Nat) y4)) ++ ([(List.getD y5 (0 : Nat) z_Job)] : List D_Job)), ()), (v.2.2.2.2.1 ++ ([((List.getD y4 (0 : Nat) z_Job).1, v.2.2.2.2.2)] : List D_Done)), (IntKind.wrap .i64 (v.2.2.2.2.2.1 + (1 : Int))), ())
                                                                            else none
                                                                          else
                                                                            rec ((), v.2.1, v.2.2.1, (v.2.2.2.1.1, (List.take ((List.length y6) - (1 : Nat)) (List.drop (1 : Nat) y6)), ((List.take ((List.length y5) - (1 : Nat)) (List.drop (1 : Nat) y5)) ++ ([(List.getD y6 (0 : Nat) z_Job)] : List D_Job)), ((List.take ((List.length y4) - (1 : Nat)) (List.drop (1 : Nat) y4)) ++ ([(List.getD y5 (0 : Nat) z_Job)] : List D_Job)), ()), v.2.2.2.2.1, (IntKind.wrap .i64 (v.2.2.2.2.2.1 + (1 : Int))), ())
                                                                        else none
                                                                      else none
                                                                    else none
                                                                  else none
                                                                else
                                                                  bif (decide ((0 : Int) ≤ (List.getD y4 (0 : Nat) z_Job).1)) then
                                                                    bif (decide ((((List.length v.2.2.2.2.1) + (1 : Nat)) * 16) ≤ (1099511627776 : Nat))) then
                                                                      rec ((), v.2.1, v.2.2.1, (v.2.2.2.1.1, y6, (List.take ((List.length y5) - (1 : Nat)) (List.drop (1 : Nat) y5)), ((List.take ((List.length y4) - (1 : Nat)) (List.drop (1 : Nat) y4)) ++ ([(List.getD y5 (0 : Nat) z_Job)] : List D_Job)), ()), (v.2.2.2.2.1 ++ ([((List.getD y4 (0 : Nat) z_Job).1, v.2.2.2.2.2)] : List D_Done)), (IntKind.wrap .i64 (v.2.2.2.2.2.1 + (1 : Int))), ())
                                                                    else none
                                                                  else
                                                                    rec ((), v.2.1, v.2.2.1, (v.2.2.2.1.1, y6, (List.take ((List.length y5) - (1 : Nat)) (List.drop (1 : Nat) y5)), ((List.take ((List.length y4) - (1 : Nat)) (List.drop (1 : Nat) y4)) ++ ([(List.getD y5 (0 : Nat) z_Job)] : List D_Job)), ()), v.2.2.2.2.1, (IntKind.wrap .i64 (v.2.2.2.2.2.1 + (1 : Int))), ())
                                                              else none
                                                            else none
                                                          else none
                                                        else none
                                                      else none
                                                    else none
                                                  else
                                                    bif (decide ((0 : Int) ≤ (List.getD y4 (0 : Nat) z_Job).1)) then
                                                      bif (decide ((((List.length v.2.2.2.2.1) + (1 : Nat)) * 16) ≤ (1099511627776 : Nat))) then
                                                        rec ((), v.2.1, v.2.2.1, (v.2.2.2.1.1, v.2.2.2.1.2.1, (List.take ((List.length y5) - (1 : Nat)) (List.drop (1 : Nat) y5)), ((List.take ((List.length y4) - (1 : Nat)) (List.drop (1 : Nat) y4)) ++ ([(List.getD y5 (0 : Nat) z_Job)] : List D_Job)), ()), (v.2.2.2.2.1 ++ ([((List.getD y4 (0 : Nat) z_Job).1, v.2.2.2.2.2)] : List D_Done)), (IntKind.wrap .i64 (v.2.2.2.2.2.1 + (1 : Int))), ())
                                                      else none
                                                    else
                                                      rec ((), v.2.1, v.2.2.1, (v.2.2.2.1.1, v.2.2.2.1.2.1, (List.take ((List.length y5) - (1 : Nat)) (List.drop (1 : Nat) y5)), ((List.take ((List.length y4) - (1 : Nat)) (List.drop (1 : Nat) y4)) ++ ([(List.getD y5 (0 : Nat) z_Job)] : List D_Job)), ()), v.2.2.2.2.1, (IntKind.wrap .i64 (v.2.2.2.2.2.1 + (1 : Int))), ())
                                                else none
                                              else none
                                            else none
                                          else none
                                        else
                                          bif (decide ((0 : Int) < (((List.length v.2.2.2.1.2.1) : Nat) : Int))) then
                                            bif (decide ((0 : Int) < (((List.length v.2.2.2.1.2.1) : Nat) : Int))) then
                                              bif (decide ((0 : Nat) < (List.length v.2.2.2.1.2.1))) then
                                                bif (decide ((0 : Int) < (((List.length v.2.2.2.1.2.1) : Nat) : Int))) then
                                                  bif (decide ((0 : Nat) < (List.length v.2.2.2.1.2.1))) then
                                                    let y7 : (List D_Job) := (List.set v.2.2.2.1.2.1 (0 : Nat) ((List.getD v.2.2.2.1.2.1 (0 : Nat) z_Job).1, ((IntKind.wrap .i64 ((List.getD v.2.2.2.1.2.1 (0 : Nat) z_Job).2.1.1 - (1 : Int))), (List.getD v.2.2.2.1.2.1 (0 : Nat) z_Job).2.1.2), ()))
                                                    bif (decide ((0 : Int) < (((List.length y7) : Nat) : Int))) then
                                                      bif (decide ((0 : Nat) < (List.length y7))) then
                                                        bif (decide ((List.getD y7 (0 : Nat) z_Job).2.1.1 = (0 : Int))) then
                                                          bif (decide ((0 : Int) < (((List.length y7) : Nat) : Int))) then
                                                            bif (decide ((0 : Nat) < (List.length y7))) then
                                                              bif (decide ((((List.length y5) + (1 : Nat)) * 32) ≤ (1099511627776 : Nat))) then
                                                                bif ((decide ((1 : Int) ≤ (((List.length y7) : Nat) : Int))) && (decide ((((List.length y7) : Nat) : Int) ≤ (((List.length y7) : Nat) : Int)))) then
                                                                  bif (decide ((0 : Int) ≤ (List.getD y4 (0 : Nat) z_Job).1)) then
                                                                    bif (decide ((((List.length v.2.2.2.2.1) + (1 : Nat)) * 16) ≤ (1099511627776 : Nat))) then
                                                                      rec ((), v.2.1, v.2.2.1, (v.2.2.2.1.1, (List.take ((List.length y7) - (1 : Nat)) (List.drop (1 : Nat) y7)), (y5 ++ ([(List.getD y7 (0 : Nat) z_Job)] : List D_Job)), (List.take ((List.length y4) - (1 : Nat)) (List.drop (1 : Nat) y4)), ()), (v.2.2.2.2.1 ++ ([((List.getD y4 (0 : Nat) z_Job).1, v.2.2.2.2.2)] : List D_Done)), (IntKind.wrap .i64 (v.2.2.2.2.2.1 + (1 : Int))), ())
                                                                    else none
                                                                  else
                                                                    rec ((), v.2.1, v.2.2.1, (v.2.2.2.1.1, (List.take ((List.length y7) - (1 : Nat)) (List.drop (1 : Nat) y7)), (y5 ++ ([(List.getD y7 (0 : Nat) z_Job)] : List D_Job)), (List.take ((List.length y4) - (1 : Nat)) (List.drop (1 : Nat) y4)), ()), v.2.2.2.2.1, (IntKind.wrap .i64 (v.2.2.2.2.2.1 + (1 : Int))), ())
                                                                else none
                                                              else none
                                                            else none
                                                          else none
                                                        else
                                                          bif (decide ((0 : Int) ≤ (List.getD y4 (0 : Nat) z_Job).1)) then
                                                            bif (decide ((((List.length v.2.2.2.2.1) + (1 : Nat)) * 16) ≤ (1099511627776 : Nat))) then
                                                              rec ((), v.2.1, v.2.2.1, (v.2.2.2.1.1, y7, y5, (List.take ((List.length y4) - (1 : Nat)) (List.drop (1 : Nat) y4)), ()), (v.2.2.2.2.1 ++ ([((List.getD y4 (0 : Nat) z_Job).1, v.2.2.2.2.2)] : List D_Done)), (IntKind.wrap .i64 (v.2.2.2.2.2.1 + (1 : Int))), ())
                                                            else none
                                                          else
                                                            rec ((), v.2.1, v.2.2.1, (v.2.2.2.1.1, y7, y5, (List.take ((List.length y4) - (1 : Nat)) (List.drop (1 : Nat) y4)), ()), v.2.2.2.2.1, (IntKind.wrap .i64 (v.2.2.2.2.2.1 + (1 : Int))), ())
                                                      else none
                                                    else none
                                                  else none
                                                else none
                                              else none
                                            else none
                                          else
                                            bif (decide ((0 : Int) ≤ (List.getD y4 (0 : Nat) z_Job).1)) then
                                              bif (decide ((((List.length v.2.2.2.2.1) + (1 : Nat)) * 16) ≤ (1099511627776 : Nat))) then
                                                rec ((), v.2.1, v.2.2.1, (v.2.2.2.1.1, v.2.2.2.1.2.1, y5, (List.take ((List.length y4) - (1 : Nat)) (List.drop (1 : Nat) y4)), ()), (v.2.2.2.2.1 ++ ([((List.getD y4 (0 : Nat) z_Job).1, v.2.2.2.2.2)] : List D_Done)), (IntKind.wrap .i64 (v.2.2.2.2.2.1 + (1 : Int))), ())
                                              else none
                                            else
                                              rec ((), v.2.1, v.2.2.1, (v.2.2.2.1.1, v.2.2.2.1.2.1, y5, (List.take ((List.length y4) - (1 : Nat)) (List.drop (1 : Nat) y4)), ()), v.2.2.2.2.1, (IntKind.wrap .i64 (v.2.2.2.2.2.1 + (1 : Int))), ())
                                      else none
                                    else none
                                  else none
                                else none
                              else none
                            else none
                          else
                            bif (decide ((0 : Int) < (((List.length v.2.2.2.1.2.1) : Nat) : Int))) then
                              bif (decide ((0 : Int) < (((List.length v.2.2.2.1.2.1) : Nat) : Int))) then
                                bif (decide ((0 : Nat) < (List.length v.2.2.2.1.2.1))) then
                                  bif (decide ((0 : Int) < (((List.length v.2.2.2.1.2.1) : Nat) : Int))) then
                                    bif (decide ((0 : Nat) < (List.length v.2.2.2.1.2.1))) then
                                      let y8 : (List D_Job) := (List.set v.2.2.2.1.2.1 (0 : Nat) ((List.getD v.2.2.2.1.2.1 (0 : Nat) z_Job).1, ((IntKind.wrap .i64 ((List.getD v.2.2.2.1.2.1 (0 : Nat) z_Job).2.1.1 - (1 : Int))), (List.getD v.2.2.2.1.2.1 (0 : Nat) z_Job).2.1.2), ()))
                                      bif (decide ((0 : Int) < (((List.length y8) : Nat) : Int))) then
                                        bif (decide ((0 : Nat) < (List.length y8))) then
                                          bif (decide ((List.getD y8 (0 : Nat) z_Job).2.1.1 = (0 : Int))) then
                                            bif (decide ((0 : Int) < (((List.length y8) : Nat) : Int))) then
                                              bif (decide ((0 : Nat) < (List.length y8))) then
                                                bif (decide ((((List.length v.2.2.2.1.2.2.1) + (1 : Nat)) * 32) ≤ (1099511627776 : Nat))) then
                                                  bif ((decide ((1 : Int) ≤ (((List.length y8) : Nat) : Int))) && (decide ((((List.length y8) : Nat) : Int) ≤ (((List.length y8) : Nat) : Int)))) then
                                                    bif (decide ((0 : Int) ≤ (List.getD y4 (0 : Nat) z_Job).1)) then
                                                      bif (decide ((((List.length v.2.2.2.2.1) + (1 : Nat)) * 16) ≤ (1099511627776 : Nat))) then
                                                        rec ((), v.2.1, v.2.2.1, (v.2.2.2.1.1, (List.take ((List.length y8) - (1 : Nat)) (List.drop (1 : Nat) y8)), (v.2.2.2.1.2.2.1 ++ ([(List.getD y8 (0 : Nat) z_Job)] : List D_Job)), (List.take ((List.length y4) - (1 : Nat)) (List.drop (1 : Nat) y4)), ()), (v.2.2.2.2.1 ++ ([((List.getD y4 (0 : Nat) z_Job).1, v.2.2.2.2.2)] : List D_Done)), (IntKind.wrap .i64 (v.2.2.2.2.2.1 + (1 : Int))), ())
                                                      else none
                                                    else
                                                      rec ((), v.2.1, v.2.2.1, (v.2.2.2.1.1, (List.take ((List.length y8) - (1 : Nat)) (List.drop (1 : Nat) y8)), (v.2.2.2.1.2.2.1 ++ ([(List.getD y8 (0 : Nat) z_Job)] : List D_Job)), (List.take ((List.length y4) - (1 : Nat)) (List.drop (1 : Nat) y4)), ()), v.2.2.2.2.1, (IntKind.wrap .i64 (v.2.2.2.2.2.1 + (1 : Int))), ())
                                                  else none
                                                else none
                                              else none
                                            else none
                                          else
                                            bif (decide ((0 : Int) ≤ (List.getD y4 (0 : Nat) z_Job).1)) then
                                              bif (decide ((((List.length v.2.2.2.2.1) + (1 : Nat)) * 16) ≤ (1099511627776 : Nat))) then
                                                rec ((), v.2.1, v.2.2.1, (v.2.2.2.1.1, y8, v.2.2.2.1.2.2.1, (List.take ((List.length y4) - (1 : Nat)) (List.drop (1 : Nat) y4)), ()), (v.2.2.2.2.1 ++ ([((List.getD y4 (0 : Nat) z_Job).1, v.2.2.2.2.2)] : List D_Done)), (IntKind.wrap .i64 (v.2.2.2.2.2.1 + (1 : Int))), ())
                                              else none
                                            else
                                              rec ((), v.2.1, v.2.2.1, (v.2.2.2.1.1, y8, v.2.2.2.1.2.2.1, (List.take ((List.length y4) - (1 : Nat)) (List.drop (1 : Nat) y4)), ()), v.2.2.2.2.1, (IntKind.wrap .i64 (v.2.2.2.2.2.1 + (1 : Int))), ())
                                        else none
                                      else none
                                    else none
                                  else none
                                else none
                              else none
                            else
                              bif (decide ((0 : Int) ≤ (List.getD y4 (0 : Nat) z_Job).1)) then
                                bif (decide ((((List.length v.2.2.2.2.1) + (1 : Nat)) * 16) ≤ (1099511627776 : Nat))) then
                                  rec ((), v.2.1, v.2.2.1, (v.2.2.2.1.1, v.2.2.2.1.2.1, v.2.2.2.1.2.2.1, (List.take ((List.length y4) - (1 : Nat)) (List.drop (1 : Nat) y4)), ()), (v.2.2.2.2.1 ++ ([((List.getD y4 (0 : Nat) z_Job).1, v.2.2.2.2.2)] : List D_Done)), (IntKind.wrap .i64 (v.2.2.2.2.2.1 + (1 : Int))), ())
                                else none
                              else
                                rec ((), v.2.1, v.2.2.1, (v.2.2.2.1.1, v.2.2.2.1.2.1, v.2.2.2.1.2.2.1, (List.take ((List.length y4) - (1 : Nat)) (List.drop (1 : Nat) y4)), ()), v.2.2.2.2.1, (IntKind.wrap .i64 (v.2.2.2.2.2.1 + (1 : Int))), ())
                        else none
                      else none
                    else none
                  else
                    bif (decide ((0 : Int) < (((List.length v.2.2.2.1.2.2.1) : Nat) : Int))) then
                      bif (decide ((0 : Int) < (((List.length v.2.2.2.1.2.2.1) : Nat) : Int))) then
                        bif (decide ((0 : Nat) < (List.length v.2.2.2.1.2.2.1))) then
                          bif (decide ((0 : Int) < (((List.length v.2.2.2.1.2.2.1) : Nat) : Int))) then
                            bif (decide ((0 : Nat) < (List.length v.2.2.2.1.2.2.1))) then
                              let y9 : (List D_Job) := (List.set v.2.2.2.1.2.2.1 (0 : Nat) ((List.getD v.2.2.2.1.2.2.1 (0 : Nat) z_Job).1, ((List.getD v.2.2.2.1.2.2.1 (0 : Nat) z_Job).2.1.1, (IntKind.wrap .i64 ((List.getD v.2.2.2.1.2.2.1 (0 : Nat) z_Job).2.1.2.1 - (1 : Int))), (List.getD v.2.2.2.1.2.2.1 (0 : Nat) z_Job).2.1.2.2), ()))
                              bif (decide ((0 : Int) < (((List.length y9) : Nat) : Int))) then
                                bif (decide ((0 : Nat) < (List.length y9))) then
                                  bif (decide ((List.getD y9 (0 : Nat) z_Job).2.1.2.1 = (0 : Int))) then
                                    bif (decide ((0 : Int) < (((List.length y9) : Nat) : Int))) then
                                      bif (decide ((0 : Nat) < (List.length y9))) then
                                        bif (decide ((((List.length y4) + (1 : Nat)) * 32) ≤ (1099511627776 : Nat))) then
                                          bif ((decide ((1 : Int) ≤ (((List.length y9) : Nat) : Int))) && (decide ((((List.length y9) : Nat) : Int) ≤ (((List.length y9) : Nat) : Int)))) then
                                            bif (decide ((0 : Int) < (((List.length v.2.2.2.1.2.1) : Nat) : Int))) then
                                              bif (decide ((0 : Int) < (((List.length v.2.2.2.1.2.1) : Nat) : Int))) then
                                                bif (decide ((0 : Nat) < (List.length v.2.2.2.1.2.1))) then
                                                  bif (decide ((0 : Int) < (((List.length v.2.2.2.1.2.1) : Nat) : Int))) then
                                                    bif (decide ((0 : Nat) < (List.length v.2.2.2.1.2.1))) then
                                                      let y10 : (List D_Job) := (List.set v.2.2.2.1.2.1 (0 : Nat) ((List.getD v.2.2.2.1.2.1 (0 : Nat) z_Job).1, ((IntKind.wrap .i64 ((List.getD v.2.2.2.1.2.1 (0 : Nat) z_Job).2.1.1 - (1 : Int))), (List.getD v.2.2.2.1.2.1 (0 : Nat) z_Job).2.1.2), ()))
                                                      bif (decide ((0 : Int) < (((List.length y10) : Nat) : Int))) then
                                                        bif (decide ((0 : Nat) < (List.length y10))) then
                                                          bif (decide ((List.getD y10 (0 : Nat) z_Job).2.1.1 = (0 : Int))) then
                                                            bif (decide ((0 : Int) < (((List.length y10) : Nat) : Int))) then
                                                              bif (decide ((0 : Nat) < (List.length y10))) then
                                                                bif (decide (((((List.length y9) - (1 : Nat)) + (1 : Nat)) * 32) ≤ (1099511627776 : Nat))) then
                                                                  bif ((decide ((1 : Int) ≤ (((List.length y10) : Nat) : Int))) && (decide ((((List.length y10) : Nat) : Int) ≤ (((List.length y10) : Nat) : Int)))) then
                                                                    rec ((), v.2.1, v.2.2.1, (v.2.2.2.1.1, (List.take ((List.length y10) - (1 : Nat)) (List.drop (1 : Nat) y10)), ((List.take ((List.length y9) - (1 : Nat)) (List.drop (1 : Nat) y9)) ++ ([(List.getD y10 (0 : Nat) z_Job)] : List D_Job)), (y4 ++ ([(List.getD y9 (0 : Nat) z_Job)] : List D_Job)), ()), v.2.2.2.2.1, (IntKind.wrap .i64 (v.2.2.2.2.2.1 + (1 : Int))), ())
                                                                  else none
                                                                else none
                                                              else none
                                                            else none
                                                          else
                                                            rec ((), v.2.1, v.2.2.1, (v.2.2.2.1.1, y10, (List.take ((List.length y9) - (1 : Nat)) (List.drop (1 : Nat) y9)), (y4 ++ ([(List.getD y9 (0 : Nat) z_Job)] : List D_Job)), ()), v.2.2.2.2.1, (IntKind.wrap .i64 (v.2.2.2.2.2.1 + (1 : Int))), ())
                                                        else none
                                                      else none
                                                    else none
                                                  else none
                                                else none
                                              else none
                                            else
                                              rec ((), v.2.1, v.2.2.1, (v.2.2.2.1.1, v.2.2.2.1.2.1, (List.take ((List.length y9) - (1 : Nat)) (List.drop (1 : Nat) y9)), (y4 ++ ([(List.getD y9 (0 : Nat) z_Job)] : List D_Job)), ()), v.2.2.2.2.1, (IntKind.wrap .i64 (v.2.2.2.2.2.1 + (1 : Int))), ())
                                          else none
                                        else none
                                      else none
                                    else none
                                  else
                                    bif (decide ((0 : Int) < (((List.length v.2.2.2.1.2.1) : Nat) : Int))) then
                                      bif (decide ((0 : Int) < (((List.length v.2.2.2.1.2.1) : Nat) : Int))) then
                                        bif (decide ((0 : Nat) < (List.length v.2.2.2.1.2.1))) then
                                          bif (decide ((0 : Int) < (((List.length v.2.2.2.1.2.1) : Nat) : Int))) then
                                            bif (decide ((0 : Nat) < (List.length v.2.2.2.1.2.1))) then
                                              let y11 : (List D_Job) := (List.set v.2.2.2.1.2.1 (0 : Nat) ((List.getD v.2.2.2.1.2.1 (0 : Nat) z_Job).1, ((IntKind.wrap .i64 ((List.getD v.2.2.2.1.2.1 (0 : Nat) z_Job).2.1.1 - (1 : Int))), (List.getD v.2.2.2.1.2.1 (0 : Nat) z_Job).2.1.2), ()))
                                              bif (decide ((0 : Int) < (((List.length y11) : Nat) : Int))) then
                                                bif (decide ((0 : Nat) < (List.length y11))) then
                                                  bif (decide ((List.getD y11 (0 : Nat) z_Job).2.1.1 = (0 : Int))) then
                                                    bif (decide ((0 : Int) < (((List.length y11) : Nat) : Int))) then
                                                      bif (decide ((0 : Nat) < (List.length y11))) then
                                                        bif (decide ((((List.length y9) + (1 : Nat)) * 32) ≤ (1099511627776 : Nat))) then
                                                          bif ((decide ((1 : Int) ≤ (((List.length y11) : Nat) : Int))) && (decide ((((List.length y11) : Nat) : Int) ≤ (((List.length y11) : Nat) : Int)))) then
                                                            rec ((), v.2.1, v.2.2.1, (v.2.2.2.1.1, (List.take ((List.length y11) - (1 : Nat)) (List.drop (1 : Nat) y11)), (y9 ++ ([(List.getD y11 (0 : Nat) z_Job)] : List D_Job)), y4, ()), v.2.2.2.2.1, (IntKind.wrap .i64 (v.2.2.2.2.2.1 + (1 : Int))), ())
                                                          else none
                                                        else none
                                                      else none
                                                    else none
                                                  else
                                                    rec ((), v.2.1, v.2.2.1, (v.2.2.2.1.1, y11, y9, y4, ()), v.2.2.2.2.1, (IntKind.wrap .i64 (v.2.2.2.2.2.1 + (1 : Int))), ())
                                                else none
                                              else none
                                            else none
                                          else none
                                        else none
                                      else none
                                    else
                                      rec ((), v.2.1, v.2.2.1, (v.2.2.2.1.1, v.2.2.2.1.2.1, y9, y4, ()), v.2.2.2.2.1, (IntKind.wrap .i64 (v.2.2.2.2.2.1 + (1 : Int))), ())
                                else none
                              else none
                            else none
                          else none
                        else none
                      else none
                    else
                      bif (decide ((0 : Int) < (((List.length v.2.2.2.1.2.1) : Nat) : Int))) then
                        bif (decide ((0 : Int) < (((List.length v.2.2.2.1.2.1) : Nat) : Int))) then
                          bif (decide ((0 : Nat) < (List.length v.2.2.2.1.2.1))) then
                            bif (decide ((0 : Int) < (((List.length v.2.2.2.1.2.1) : Nat) : Int))) then
                              bif (decide ((0 : Nat) < (List.length v.2.2.2.1.2.1))) then
                                let y12 : (List D_Job) := (List.set v.2.2.2.1.2.1 (0 : Nat) ((List.getD v.2.2.2.1.2.1 (0 : Nat) z_Job).1, ((IntKind.wrap .i64 ((List.getD v.2.2.2.1.2.1 (0 : Nat) z_Job).2.1.1 - (1 : Int))), (List.getD v.2.2.2.1.2.1 (0 : Nat) z_Job).2.1.2), ()))
                                bif (decide ((0 : Int) < (((List.length y12) : Nat) : Int))) then
                                  bif (decide ((0 : Nat) < (List.length y12))) then
                                    bif (decide ((List.getD y12 (0 : Nat) z_Job).2.1.1 = (0 : Int))) then
                                      bif (decide ((0 : Int) < (((List.length y12) : Nat) : Int))) then
                                        bif (decide ((0 : Nat) < (List.length y12))) then
                                          bif (decide ((((List.length v.2.2.2.1.2.2.1) + (1 : Nat)) * 32) ≤ (1099511627776 : Nat))) then
                                            bif ((decide ((1 : Int) ≤ (((List.length y12) : Nat) : Int))) && (decide ((((List.length y12) : Nat) : Int) ≤ (((List.length y12) : Nat) : Int)))) then
                                              rec ((), v.2.1, v.2.2.1, (v.2.2.2.1.1, (List.take ((List.length y12) - (1 : Nat)) (List.drop (1 : Nat) y12)), (v.2.2.2.1.2.2.1 ++ ([(List.getD y12 (0 : Nat) z_Job)] : List D_Job)), y4, ()), v.2.2.2.2.1, (IntKind.wrap .i64 (v.2.2.2.2.2.1 + (1 : Int))), ())
                                            else none
                                          else none
                                        else none
                                      else none
                                    else
                                      rec ((), v.2.1, v.2.2.1, (v.2.2.2.1.1, y12, v.2.2.2.1.2.2.1, y4, ()), v.2.2.2.2.1, (IntKind.wrap .i64 (v.2.2.2.2.2.1 + (1 : Int))), ())
                                  else none
                                else none
                              else none
                            else none
                          else none
                        else none
                      else
                        rec ((), v.2.1, v.2.2.1, (v.2.2.2.1.1, v.2.2.2.1.2.1, v.2.2.2.1.2.2.1, y4, ()), v.2.2.2.2.1, (IntKind.wrap .i64 (v.2.2.2.2.2.1 + (1 : Int))), ())
                else none
              else none
            else none
          else none
        else none
      else none
    else
      bif (decide ((0 : Int) < (((List.length v.2.2.2.1.2.2.1) : Nat) : Int))) then
        bif (decide ((0 : Int) < (((List.length v.2.2.2.1.2.2.1) : Nat) : Int))) then
          bif (decide ((0 : Nat) < (List.length v.2.2.2.1.2.2.1))) then
            bif (decide ((0 : Int) < (((List.length v.2.2.2.1.2.2.1) : Nat) : Int))) then
              bif (decide ((0 : Nat) < (List.length v.2.2.2.1.2.2.1))) then
                let y13 : (List D_Job) := (List.set v.2.2.2.1.2.2.1 (0 : Nat) ((List.getD v.2.2.2.1.2.2.1 (0 : Nat) z_Job).1, ((List.getD v.2.2.2.1.2.2.1 (0 : Nat) z_Job).2.1.1, (IntKind.wrap .i64 ((List.getD v.2.2.2.1.2.2.1 (0 : Nat) z_Job).2.1.2.1 - (1 : Int))), (List.getD v.2.2.2.1.2.2.1 (0 : Nat) z_Job).2.1.2.2), ()))
                bif (decide ((0 : Int) < (((List.length y13) : Nat) : Int))) then
                  bif (decide ((0 : Nat) < (List.length y13))) then
                    bif (decide ((List.getD y13 (0 : Nat) z_Job).2.1.2.1 = (0 : Int))) then
                      bif (decide ((0 : Int) < (((List.length y13) : Nat) : Int))) then
                        bif (decide ((0 : Nat) < (List.length y13))) then
                          bif (decide ((((List.length v.2.2.2.1.2.2.2.1) + (1 : Nat)) * 32) ≤ (1099511627776 : Nat))) then
                            bif ((decide ((1 : Int) ≤ (((List.length y13) : Nat) : Int))) && (decide ((((List.length y13) : Nat) : Int) ≤ (((List.length y13) : Nat) : Int)))) then
                              bif (decide ((0 : Int) < (((List.length v.2.2.2.1.2.1) : Nat) : Int))) then
                                bif (decide ((0 : Int) < (((List.length v.2.2.2.1.2.1) : Nat) : Int))) then
                                  bif (decide ((0 : Nat) < (List.length v.2.2.2.1.2.1))) then
                                    bif (decide ((0 : Int) < (((List.length v.2.2.2.1.2.1) : Nat) : Int))) then
                                      bif (decide ((0 : Nat) < (List.length v.2.2.2.1.2.1))) then
                                        let y14 : (List D_Job) := (List.set v.2.2.2.1.2.1 (0 : Nat) ((List.getD v.2.2.2.1.2.1 (0 : Nat) z_Job).1, ((IntKind.wrap .i64 ((List.getD v.2.2.2.1.2.1 (0 : Nat) z_Job).2.1.1 - (1 : Int))), (List.getD v.2.2.2.1.2.1 (0 : Nat) z_Job).2.1.2), ()))
                                        bif (decide ((0 : Int) < (((List.length y14) : Nat) : Int))) then
                                          bif (decide ((0 : Nat) < (List.length y14))) then
                                            bif (decide ((List.getD y14 (0 : Nat) z_Job).2.1.1 = (0 : Int))) then
                                              bif (decide ((0 : Int) < (((List.length y14) : Nat) : Int))) then
                                                bif (decide ((0 : Nat) < (List.length y14))) then
                                                  bif (decide (((((List.length y13) - (1 : Nat)) + (1 : Nat)) * 32) ≤ (1099511627776 : Nat))) then
                                                    bif ((decide ((1 : Int) ≤ (((List.length y14) : Nat) : Int))) && (decide ((((List.length y14) : Nat) : Int) ≤ (((List.length y14) : Nat) : Int)))) then
                                                      rec ((), v.2.1, v.2.2.1, (v.2.2.2.1.1, (List.take ((List.length y14) - (1 : Nat)) (List.drop (1 : Nat) y14)), ((List.take ((List.length y13) - (1 : Nat)) (List.drop (1 : Nat) y13)) ++ ([(List.getD y14 (0 : Nat) z_Job)] : List D_Job)), (v.2.2.2.1.2.2.2.1 ++ ([(List.getD y13 (0 : Nat) z_Job)] : List D_Job)), ()), v.2.2.2.2.1, (IntKind.wrap .i64 (v.2.2.2.2.2.1 + (1 : Int))), ())
                                                    else none
                                                  else none
                                                else none
                                              else none
                                            else
                                              rec ((), v.2.1, v.2.2.1, (v.2.2.2.1.1, y14, (List.take ((List.length y13) - (1 : Nat)) (List.drop (1 : Nat) y13)), (v.2.2.2.1.2.2.2.1 ++ ([(List.getD y13 (0 : Nat) z_Job)] : List D_Job)), ()), v.2.2.2.2.1, (IntKind.wrap .i64 (v.2.2.2.2.2.1 + (1 : Int))), ())
                                          else none
                                        else none
                                      else none
                                    else none
                                  else none
                                else none
                              else
                                rec ((), v.2.1, v.2.2.1, (v.2.2.2.1.1, v.2.2.2.1.2.1, (List.take ((List.length y13) - (1 : Nat)) (List.drop (1 : Nat) y13)), (v.2.2.2.1.2.2.2.1 ++ ([(List.getD y13 (0 : Nat) z_Job)] : List D_Job)), ()), v.2.2.2.2.1, (IntKind.wrap .i64 (v.2.2.2.2.2.1 + (1 : Int))), ())
                            else none
                          else none
                        else none
                      else none
                    else
                      bif (decide ((0 : Int) < (((List.length v.2.2.2.1.2.1) : Nat) : Int))) then
                        bif (decide ((0 : Int) < (((List.length v.2.2.2.1.2.1) : Nat) : Int))) then
                          bif (decide ((0 : Nat) < (List.length v.2.2.2.1.2.1))) then
                            bif (decide ((0 : Int) < (((List.length v.2.2.2.1.2.1) : Nat) : Int))) then
                              bif (decide ((0 : Nat) < (List.length v.2.2.2.1.2.1))) then
                                let y15 : (List D_Job) := (List.set v.2.2.2.1.2.1 (0 : Nat) ((List.getD v.2.2.2.1.2.1 (0 : Nat) z_Job).1, ((IntKind.wrap .i64 ((List.getD v.2.2.2.1.2.1 (0 : Nat) z_Job).2.1.1 - (1 : Int))), (List.getD v.2.2.2.1.2.1 (0 : Nat) z_Job).2.1.2), ()))
                                bif (decide ((0 : Int) < (((List.length y15) : Nat) : Int))) then
                                  bif (decide ((0 : Nat) < (List.length y15))) then
                                    bif (decide ((List.getD y15 (0 : Nat) z_Job).2.1.1 = (0 : Int))) then
                                      bif (decide ((0 : Int) < (((List.length y15) : Nat) : Int))) then
                                        bif (decide ((0 : Nat) < (List.length y15))) then
                                          bif (decide ((((List.length y13) + (1 : Nat)) * 32) ≤ (1099511627776 : Nat))) then
                                            bif ((decide ((1 : Int) ≤ (((List.length y15) : Nat) : Int))) && (decide ((((List.length y15) : Nat) : Int) ≤ (((List.length y15) : Nat) : Int)))) then
                                              rec ((), v.2.1, v.2.2.1, (v.2.2.2.1.1, (List.take ((List.length y15) - (1 : Nat)) (List.drop (1 : Nat) y15)), (y13 ++ ([(List.getD y15 (0 : Nat) z_Job)] : List D_Job)), v.2.2.2.1.2.2.2), v.2.2.2.2.1, (IntKind.wrap .i64 (v.2.2.2.2.2.1 + (1 : Int))), ())
                                            else none
                                          else none
                                        else none
                                      else none
                                    else
                                      rec ((), v.2.1, v.2.2.1, (v.2.2.2.1.1, y15, y13, v.2.2.2.1.2.2.2), v.2.2.2.2.1, (IntKind.wrap .i64 (v.2.2.2.2.2.1 + (1 : Int))), ())
                                  else none
                                else none
                              else none
                            else none
                          else none
                        else none
                      else
                        rec ((), v.2.1, v.2.2.1, (v.2.2.2.1.1, v.2.2.2.1.2.1, y13, v.2.2.2.1.2.2.2), v.2.2.2.2.1, (IntKind.wrap .i64 (v.2.2.2.2.2.1 + (1 : Int))), ())
                  else none
                else none
              else none
            else none
          else none
        else none
      else
        bif (decide ((0 : Int) < (((List.length v.2.2.2.1.2.1) : Nat) : Int))) then
          bif (decide ((0 : Int) < (((List.length v.2.2.2.1.2.1) : Nat) : Int))) then
            bif (decide ((0 : Nat) < (List.length v.2.2.2.1.2.1))) then
              bif (decide ((0 : Int) < (((List.length v.2.2.2.1.2.1) : Nat) : Int))) then
                bif (decide ((0 : Nat) < (List.length v.2.2.2.1.2.1))) then
                  let y16 : (List D_Job) := (List.set v.2.2.2.1.2.1 (0 : Nat) ((List.getD v.2.2.2.1.2.1 (0 : Nat) z_Job).1, ((IntKind.wrap .i64 ((List.getD v.2.2.2.1.2.1 (0 : Nat) z_Job).2.1.1 - (1 : Int))), (List.getD v.2.2.2.1.2.1 (0 : Nat) z_Job).2.1.2), ()))
                  bif (decide ((0 : Int) < (((List.length y16) : Nat) : Int))) then
                    bif (decide ((0 : Nat) < (List.length y16))) then
                      bif (decide ((List.getD y16 (0 : Nat) z_Job).2.1.1 = (0 : Int))) then
                        bif (decide ((0 : Int) < (((List.length y16) : Nat) : Int))) then
                          bif (decide ((0 : Nat) < (List.length y16))) then
                            bif (decide ((((List.length v.2.2.2.1.2.2.1) + (1 : Nat)) * 32) ≤ (1099511627776 : Nat))) then
                              bif ((decide ((1 : Int) ≤ (((List.length y16) : Nat) : Int))) && (decide ((((List.length y16) : Nat) : Int) ≤ (((List.length y16) : Nat) : Int)))) then
                                rec ((), v.2.1, v.2.2.1, (v.2.2.2.1.1, (List.take ((List.length y16) - (1 : Nat)) (List.drop (1 : Nat) y16)), (v.2.2.2.1.2.2.1 ++ ([(List.getD y16 (0 : Nat) z_Job)] : List D_Job)), v.2.2.2.1.2.2.2), v.2.2.2.2.1, (IntKind.wrap .i64 (v.2.2.2.2.2.1 + (1 : Int))), ())
                              else none
                            else none
                          else none
                        else none
                      else
                        rec ((), v.2.1, v.2.2.1, (v.2.2.2.1.1, y16, v.2.2.2.1.2.2), v.2.2.2.2.1, (IntKind.wrap .i64 (v.2.2.2.2.2.1 + (1 : Int))), ())
                    else none
                  else none
                else none
              else none
            else none
          else none
        else
          rec ((), v.2.1, v.2.2.1, v.2.2.2.1, v.2.2.2.2.1, (IntKind.wrap .i64 (v.2.2.2.2.2.1 + (1 : Int))), ())
  else
    some ((), v.2.2.1, v.2.2.2.1, v.2.2.2.2.1, ())
def impl_LineRun (k : Nat) (x0 : D_Line) (x1 : Int) : Option ((D_Line × ((List D_Done) × Unit)) × Unit) :=
  (impl_LineOk k x0).bind fun t1 =>
    bif (!(!t1.1.1)) then
      (impl_within x1 (0 : Int) (20000 : Int)).bind fun t2 =>
        bif (!t2.1.1) then
          some ((((0 : Int), ([] : List D_Job), ([] : List D_Job), ([] : List D_Job), ()), ([] : List D_Done), ()), ())
        else
          (impl_copyLine x0).bind fun t3 =>
            (iter (impl_LineRun_s5) k ((), x1, ((0 : Int), ([] : List D_Job), ([] : List D_Job), ([] : List D_Job), ()), t3.1.1, ([] : List D_Done), (1 : Int), ())).bind fun o4 =>
              (impl_copyLine o4.2.2.1).bind fun t5 =>
                some ((t5.1.1, o4.2.2.2), ())
    else
      some ((((0 : Int), ([] : List D_Job), ([] : List D_Job), ([] : List D_Job), ()), ([] : List D_Done), ()), ())
def laws_FnTimesPlayed_s10 (k : Nat) (rec : (Unit × ((List D_Job) × ((List Int) × ((List Int) × (D_Line × (Int × Unit)))))) → Option ((Unit × (Bool × Unit)) ⊕ (Unit × ((List D_Job) × ((List Int) × (D_Line × Unit)))))) (v : (Unit × ((List D_Job) × ((List Int) × ((List Int) × (D_Line × (Int × Unit))))))) : Option ((Unit × (Bool × Unit)) ⊕ (Unit × ((List D_Job) × ((List Int) × (D_Line × Unit))))) :=
  bif (decide (v.2.2.2.2.2.1 < (((List.length v.2.2.1) : Nat) : Int))) then
    bif ((decide ((0 : Int) ≤ v.2.2.2.2.2.1)) && (decide (v.2.2.2.2.2.1 < (((List.length v.2.1) : Nat) : Int)))) then
      bif (decide ((Int.toNat v.2.2.2.2.2.1) < (List.length v.2.1))) then
        (impl_LinePut k v.2.2.2.2.1 (List.getD v.2.1 (Int.toNat v.2.2.2.2.2.1) z_Job)).bind fun t6 =>
          bif (!(decide (t6.1.2.1 = (0 : Int)))) then
            some (Sum.inl ((), false, ()))
          else
            rec ((), v.2.1, v.2.2.1, v.2.2.2.1, t6.1.1, (IntKind.wrap .i64 (v.2.2.2.2.2.1 + (1 : Int))), ())
      else none
    else none
  else
    some (Sum.inr ((), v.2.1, v.2.2.2.1, v.2.2.2.2.1, ()))
def laws_FnTimesPlayed_s20 (rec : (Unit × ((List D_Job) × ((List Int) × (D_Line × ((List D_Done) × (Int × Unit)))))) → Option ((Unit × (Bool × Unit)) ⊕ (Unit × (D_Line × Unit)))) (v : (Unit × ((List D_Job) × ((List Int) × (D_Line × ((List D_Done) × (Int × Unit))))))) : Option ((Unit × (Bool × Unit)) ⊕ (Unit × (D_Line × Unit))) :=
  bif (decide (v.2.2.2.2.2.1 < (((List.length v.2.2.1) : Nat) : Int))) then
    bif ((decide ((0 : Int) ≤ v.2.2.2.2.2.1)) && (decide (v.2.2.2.2.2.1 < (((List.length v.2.2.1) : Nat) : Int)))) then
      bif (decide ((Int.toNat v.2.2.2.2.2.1) < (List.length v.2.2.1))) then
        bif (decide ((List.getD v.2.2.1 (Int.toNat v.2.2.2.2.2.1) (0 : Int)) ≤ (20000 : Int))) then
          bif (!(decide ((((List.length v.2.2.2.2.1) : Nat) : Int) ≤ v.2.2.2.2.2.1))) then
            bif ((decide ((0 : Int) ≤ v.2.2.2.2.2.1)) && (decide (v.2.2.2.2.2.1 < (((List.length v.2.2.2.2.1) : Nat) : Int)))) then
              bif (decide ((Int.toNat v.2.2.2.2.2.1) < (List.length v.2.2.2.2.1))) then
                bif ((decide ((0 : Int) ≤ v.2.2.2.2.2.1)) && (decide (v.2.2.2.2.2.1 < (((List.length v.2.1) : Nat) : Int)))) then
                  bif (decide ((Int.toNat v.2.2.2.2.2.1) < (List.length v.2.1))) then
                    bif (!(!(decide ((List.getD v.2.2.2.2.1 (Int.toNat v.2.2.2.2.2.1) z_Done).1 = (List.getD v.2.1 (Int.toNat v.2.2.2.2.2.1) z_Job).1)))) then
                      bif ((decide ((0 : Int) ≤ v.2.2.2.2.2.1)) && (decide (v.2.2.2.2.2.1 < (((List.length v.2.2.2.2.1) : Nat) : Int)))) then
                        bif (decide ((Int.toNat v.2.2.2.2.2.1) < (List.length v.2.2.2.2.1))) then
                          bif ((decide ((0 : Int) ≤ v.2.2.2.2.2.1)) && (decide (v.2.2.2.2.2.1 < (((List.length v.2.2.1) : Nat) : Int)))) then
                            bif (decide ((Int.toNat v.2.2.2.2.2.1) < (List.length v.2.2.1))) then
                              bif (!(decide ((List.getD v.2.2.2.2.1 (Int.toNat v.2.2.2.2.2.1) z_Done).2.1 = (List.getD v.2.2.1 (Int.toNat v.2.2.2.2.2.1) (0 : Int))))) then
                                some (Sum.inl ((), false, ()))
                              else
                                rec ((), v.2.1, v.2.2.1, v.2.2.2.1, v.2.2.2.2.1, (IntKind.wrap .i64 (v.2.2.2.2.2.1 + (1 : Int))), ())
                            else none
                          else none
                        else none
                      else none
                    else
                      some (Sum.inl ((), false, ()))
                  else none
                else none
              else none
            else none
          else
            some (Sum.inl ((), false, ()))
        else
          rec ((), v.2.1, v.2.2.1, v.2.2.2.1, v.2.2.2.2.1, (IntKind.wrap .i64 (v.2.2.2.2.2.1 + (1 : Int))), ())
      else none
    else none
  else
    some (Sum.inr ((), v.2.2.2.1, ()))
def laws_FnTimesPlayed (k : Nat) (x0 : (List Int)) : Option ((Bool × Unit) × Unit) :=
  (laws_big x0).bind fun t1 =>
    bif t1.1.1 then
      some ((true, ()), ())
    else
      (spec_DrawLineTimes k x0).bind fun t2 =>
        (spec_LineTimes k t2.1.1).bind fun t3 =>
          bif (decide ((((0 : Nat) + (List.length t2.1.1)) * 32) ≤ (1099511627776 : Nat))) then
            (impl_LineTimes k t2.1.1).bind fun t4 =>
              bif (!(decide ((((List.length t4.1.1) : Nat) : Int) = (((List.length t3.1.1) : Nat) : Int)))) then
                some ((false, ()), ())
              else
                (impl_LineNew (16 : Int)).bind fun t5 =>
                  (iter (laws_FnTimesPlayed_s10 k) k ((), t2.1.1, t3.1.1, t4.1.1, t5.1.1, (0 : Int), ())).bind fun o6 =>
                    Sum.elim (fun a7 =>
                      some (a7.2, ()))
                    (fun b8 =>
                      (impl_LineRun k b8.2.2.2.1 (20000 : Int)).bind fun t9 =>
                        bif (decide ((((List.length b8.2.2.1) : Nat) : Int) < (((List.length t9.1.2.1) : Nat) : Int))) then
                          some ((false, ()), ())
                        else
                          (iter (laws_FnTimesPlayed_s20) k ((), b8.2.1, b8.2.2.1, b8.2.2.2.1, t9.1.2.1, (0 : Int), ())).bind fun o10 =>
                            Sum.elim (fun a11 =>
                              some (a11.2, ()))
                            (fun b12 =>
                              some (((decide (b12.2.1.1 = (16 : Int))), ()), ())) o10) o6
          else none
def spec_LineRun_s6 (rec : (Unit × (Int × (D_Line × (D_Line × ((List D_Done) × (Int × Unit)))))) → Option ((Unit × (D_Line × (D_Line × ((List D_Done) × Unit)))))) (v : (Unit × (Int × (D_Line × (D_Line × ((List D_Done) × (Int × Unit))))))) : Option ((Unit × (D_Line × (D_Line × ((List D_Done) × Unit))))) :=
  bif (decide (v.2.2.2.2.2.1 ≤ v.2.1)) then
    (spec_l21All v.2.2.2.1).bind fun t3 =>
      bif (decide ((0 : Int) < (((List.length t3.1.1) : Nat) : Int))) then
        (spec_l21Tick v.2.2.2.1).bind fun t4 =>
          bif (decide ((0 : Int) ≤ t4.1.2.1)) then
            bif (decide ((((List.length v.2.2.2.2.1) + (1 : Nat)) * 16) ≤ (1099511627776 : Nat))) then
              rec ((), v.2.1, v.2.2.1, t4.1.1, (v.2.2.2.2.1 ++ ([(t4.1.2.1, v.2.2.2.2.2)] : List D_Done)), (IntKind.wrap .i64 (v.2.2.2.2.2.1 + (1 : Int))), ())
            else none
          else
            rec ((), v.2.1, v.2.2.1, t4.1.1, v.2.2.2.2.1, (IntKind.wrap .i64 (v.2.2.2.2.2.1 + (1 : Int))), ())
      else
        some ((), v.2.2.1, v.2.2.2.1, v.2.2.2.2.1, ())
  else
    some ((), v.2.2.1, v.2.2.2.1, v.2.2.2.2.1, ())
def spec_LineRun (k : Nat) (x0 : D_Line) (x1 : Int) : Option ((D_Line × ((List D_Done) × Unit)) × Unit) :=
  (spec_LineOk k x0).bind fun t1 =>
    bif (!(!t1.1.1)) then
      bif (!(decide (x1 < (0 : Int)))) then
        bif (decide ((20000 : Int) < x1)) then
          some ((((0 : Int), ([] : List D_Job), ([] : List D_Job), ([] : List D_Job), ()), ([] : List D_Done), ()), ())
        else
          (spec_l21Copy x0).bind fun t2 =>
            (iter (spec_LineRun_s6) k ((), x1, ((0 : Int), ([] : List D_Job), ([] : List D_Job), ([] : List D_Job), ()), t2.1.1, ([] : List D_Done), (1 : Int), ())).bind fun o3 =>
              some (o3.2.2, ())
      else
        some ((((0 : Int), ([] : List D_Job), ([] : List D_Job), ([] : List D_Job), ()), ([] : List D_Done), ()), ())
    else
      some ((((0 : Int), ([] : List D_Job), ([] : List D_Job), ([] : List D_Job), ()), ([] : List D_Done), ()), ())
def spec_l01Cur_size (x0 : D_l01Cur) (x1 : Int) : Option ((Int × Unit) × (D_l01Cur × Unit)) :=
  (spec_l01Cur_pick x0 (IntKind.wrap .i64 ((imin x1 (IntKind.wrap .i64 ((1 : Int) + (IntKind.wrap .i64 (Int.tdiv (((List.length x0.1) : Nat) : Int) (8 : Int)))))) + (1 : Int)))).bind fun t1 =>
    some (t1.1, t1.2)
def spec_l01Cur_line_s3 (k : Nat) (rec : ((D_l01Cur × Unit) × (Unit × (D_Line × (D_Line × (Int × Unit))))) → Option (((D_l01Cur × Unit) × (D_Line × (D_Line × Unit))))) (v : ((D_l01Cur × Unit) × (Unit × (D_Line × (D_Line × (Int × Unit)))))) : Option (((D_l01Cur × Unit) × (D_Line × (D_Line × Unit)))) :=
  bif (decide ((0 : Int) < v.2.2.2.2.1)) then
    (spec_l01Cur_once (v.1.1.1, v.1.1.2.1, v.1.1.2.2.1, ()) (2 : Int)).bind fun t4 =>
      bif t4.1.1 then
        (spec_l01Cur_pick t4.2.1 (3 : Int)).bind fun t5 =>
          bif ((decide ((0 : Int) ≤ t5.1.1)) && (decide (t5.1.1 < (3 : Int)))) then
            (spec_l01Cur_cost t5.2.1 (List.getD ([(4 : Int), (12 : Int), (60 : Int)] : List Int) (Int.toNat t5.1.1) (0 : Int))).bind fun t6 =>
              (spec_LinePut k v.2.2.2.1 (v.2.2.2.2.1, t6.1)).bind fun t7 =>
                bif (decide (t7.1.2.1 = (0 : Int))) then
                  rec (t6.2, (), v.2.2.1, t7.1.1, (IntKind.wrap .i64 (v.2.2.2.2.1 - (1 : Int))), ())
                else
                  rec (t6.2, (), v.2.2.1, v.2.2.2.1, (IntKind.wrap .i64 (v.2.2.2.2.1 - (1 : Int))), ())
          else none
      else
        (spec_l01Cur_pick t4.2.1 (12 : Int)).bind fun t8 =>
          (spec_LineRun k v.2.2.2.1 t8.1.1).bind fun t9 =>
            rec (t8.2, (), v.2.2.1, t9.1.1, (IntKind.wrap .i64 (v.2.2.2.2.1 - (1 : Int))), ())
  else
    some (((v.1.1.1, v.1.1.2.1, v.1.1.2.2.1, ()), ()), v.2.2.1, v.2.2.2.1, ())
def spec_l01Cur_line (k : Nat) (x0 : D_l01Cur) : Option ((D_Line × Unit) × (D_l01Cur × Unit)) :=
  (spec_l01Cur_pick x0 (16 : Int)).bind fun t1 =>
    (spec_LineNew k (IntKind.wrap .i64 ((1 : Int) + t1.1.1))).bind fun t2 =>
      (spec_l01Cur_size t1.2.1 (30 : Int)).bind fun t3 =>
        (iter (spec_l01Cur_line_s3 k) k (t3.2, (), ((0 : Int), ([] : List D_Job), ([] : List D_Job), ([] : List D_Job), ()), t2.1.1, t3.1)).bind fun o4 =>
          some (o4.2.2, (o4.1.1.1, o4.1.1.2.1, o4.1.1.2.2.1, ()), ())
def spec_l01Cur_badLine (k : Nat) (x0 : D_l01Cur) : Option ((D_Line × Unit) × (D_l01Cur × Unit)) :=
  (spec_l01Cur_line k x0).bind fun t1 =>
    (spec_l01Cur_pick t1.2.1 (14 : Int)).bind fun t2 =>
      bif (decide (t2.1.1 = (0 : Int))) then
        (spec_l01Cur_raw t2.2.1).bind fun t3 =>
          (spec_l01Cur_pick t3.2.1 (3 : Int)).bind fun t4 =>
            bif ((decide ((0 : Int) ≤ t4.1.1)) && (decide (t4.1.1 < (3 : Int)))) then
              bif (decide ((Int.toNat t4.1.1) < (3 : Nat))) then
                some ((((List.getD ([t3.1.1, (16 : Int), (17 : Int)] : List Int) (Int.toNat t4.1.1) (0 : Int)), t1.1.1.2), ()), t4.2)
              else none
            else none
      else
        bif (decide (t2.1.1 = (1 : Int))) then
          (spec_l01Cur_raw t2.2.1).bind fun t5 =>
            (spec_l01Cur_vec t5.2.1).bind fun t6 =>
              bif (decide ((((List.length t1.1.1.2.1) + (1 : Nat)) * 32) ≤ (1099511627776 : Nat))) then
                some (((t1.1.1.1, (t1.1.1.2.1 ++ ([(t5.1.1, t6.1)] : List D_Job)), t1.1.1.2.2), ()), t6.2)
              else none
        else
          bif (decide (t2.1.1 = (2 : Int))) then
            (spec_l01Cur_pick t2.2.1 (2 : Int)).bind fun t7 =>
              (spec_l01Cur_pick t7.2.1 (1001 : Int)).bind fun t8 =>
                bif (decide ((((List.length t1.1.1.2.2.1) + (1 : Nat)) * 32) ≤ (1099511627776 : Nat))) then
                  some (((t1.1.1.1, t1.1.1.2.1, (t1.1.1.2.2.1 ++ ([((90 : Int), (t7.1.1, (IntKind.wrap .i64 ((1 : Int) + t8.1.1)), (1 : Int), ()), ())] : List D_Job)), t1.1.1.2.2.2), ()), t8.2)
                else none
          else
            bif (decide (t2.1.1 = (3 : Int))) then
              (spec_l01Cur_pick t2.2.1 (2 : Int)).bind fun t9 =>
                (spec_l01Cur_pick t9.2.1 (1002 : Int)).bind fun t10 =>
                  bif (decide ((((List.length t1.1.1.2.2.2.1) + (1 : Nat)) * 32) ≤ (1099511627776 : Nat))) then
                    some (((t1.1.1.1, t1.1.1.2.1, t1.1.1.2.2.1, (t1.1.1.2.2.2.1 ++ ([((91 : Int), ((0 : Int), t9.1.1, t10.1), ())] : List D_Job)), ()), ()), t10.2)
                  else none
            else
              some (t1.1, t2.2)
def spec_DrawLineTick (k : Nat) (x0 : (List Int)) : Option ((D_Line × Unit) × Unit) :=
  (spec_l01Cur_badLine k (x0, (0 : Int), (IntKind.wrap .i64 ((71 : Int) + (Int.tmod (((List.length x0) : Nat) : Int) (1000 : Int)))), ())).bind fun t1 =>
    some (t1.1, ())
def impl_LineHeld (k : Nat) (x0 : D_Line) : Option ((Int × Unit) × Unit) :=
  (impl_LineOk k x0).bind fun t1 =>
    bif (!t1.1.1) then
      some (((-1 : Int), ()), ())
    else
      (impl_Line_jobs k x0).bind fun t2 =>
        some (((((List.length t2.1.1) : Nat) : Int), ()), ())
def laws_pick_s5 (rec : (Unit × ((List Int) × (Int × D_Vec))) → Option ((Unit × D_Vec))) (v : (Unit × ((List Int) × (Int × D_Vec)))) : Option ((Unit × D_Vec)) :=
  bif (decide (v.2.2.2.2.2.1 < (3 : Int))) then
    bif (!(decide ((((List.length v.2.1) : Nat) : Int) = (0 : Int)))) then
      bif ((decide ((0 : Int) ≤ (Int.tmod (IntKind.wrap .i64 (v.2.2.1 + v.2.2.2.2.2.1)) (((List.length v.2.1) : Nat) : Int)))) && (decide ((Int.tmod (IntKind.wrap .i64 (v.2.2.1 + v.2.2.2.2.2.1)) (((List.length v.2.1) : Nat) : Int)) < (((List.length v.2.1) : Nat) : Int)))) then
        bif (decide ((Int.toNat (Int.tmod (IntKind.wrap .i64 (v.2.2.1 + v.2.2.2.2.2.1)) (((List.length v.2.1) : Nat) : Int))) < (List.length v.2.1))) then
          rec ((), v.2.1, v.2.2.1, v.2.2.2.1, (IntKind.wrap .i64 ((IntKind.wrap .i64 ((31 : Int) * v.2.2.2.2.1)) + (IntKind.wrap .i64 (List.getD v.2.1 (Int.toNat (Int.tmod (IntKind.wrap .i64 (v.2.2.1 + v.2.2.2.2.2.1)) (((List.length v.2.1) : Nat) : Int))) (0 : Int))))), (IntKind.wrap .i64 (v.2.2.2.2.2.1 + (1 : Int))), ())
        else none
      else none
    else none
  else
    some ((), v.2.2.1, v.2.2.2.1, v.2.2.2.2.1, ())
def laws_pick (k : Nat) (x0 : (List Int)) (x1 : Int) (x2 : Int) : Option ((Int × Unit) × Unit) :=
  bif (!(decide ((((List.length x0) : Nat) : Int) = (0 : Int)))) then
    bif (decide (x2 < (2 : Int))) then
      some (((0 : Int), ()), ())
    else
      (iter (laws_pick_s5) k ((), x0, x1, x2, (0 : Int), (0 : Int), ())).bind fun o1 =>
        bif (!(decide (o1.2.2.1 = (0 : Int)))) then
          some (((Int.tmod (IntKind.wrap .i64 (o1.2.2.2.1 + o1.2.1)) o1.2.2.1), ()), ())
        else none
  else
    some (((0 : Int), ()), ())
def laws_FnLineSplit_s14 (rec : (Unit × (D_Line × (Int × ((List D_Done) × (D_Line × ((List D_Done) × (D_Line × ((List D_Done) × (Int × Unit))))))))) → Option ((Unit × (Bool × Unit)) ⊕ (Unit × (D_Line × (D_Line × (D_Line × Unit)))))) (v : (Unit × (D_Line × (Int × ((List D_Done) × (D_Line × ((List D_Done) × (D_Line × ((List D_Done) × (Int × Unit)))))))))) : Option ((Unit × (Bool × Unit)) ⊕ (Unit × (D_Line × (D_Line × (D_Line × Unit))))) :=
  bif (decide (v.2.2.2.2.2.2.2.2.1 < (((List.length v.2.2.2.2.2.2.2.1) : Nat) : Int))) then
    bif (decide (v.2.2.2.2.2.2.2.2.1 < (((List.length v.2.2.2.1) : Nat) : Int))) then
      bif ((decide ((0 : Int) ≤ v.2.2.2.2.2.2.2.2.1)) && (decide (v.2.2.2.2.2.2.2.2.1 < (((List.length v.2.2.2.1) : Nat) : Int)))) then
        bif (decide ((Int.toNat v.2.2.2.2.2.2.2.2.1) < (List.length v.2.2.2.1))) then
          bif ((decide ((0 : Int) ≤ v.2.2.2.2.2.2.2.2.1)) && (decide (v.2.2.2.2.2.2.2.2.1 < (((List.length v.2.2.2.2.2.2.2.1) : Nat) : Int)))) then
            bif (decide ((Int.toNat v.2.2.2.2.2.2.2.2.1) < (List.length v.2.2.2.2.2.2.2.1))) then
              bif (!(!((decide ((List.getD v.2.2.2.1 (Int.toNat v.2.2.2.2.2.2.2.2.1) z_Done).1 = (List.getD v.2.2.2.2.2.2.2.1 (Int.toNat v.2.2.2.2.2.2.2.2.1) z_Done).1)) && ((decide ((List.getD v.2.2.2.1 (Int.toNat v.2.2.2.2.2.2.2.2.1) z_Done).2.1 = (List.getD v.2.2.2.2.2.2.2.1 (Int.toNat v.2.2.2.2.2.2.2.2.1) z_Done).2.1)) && true)))) then
                bif (decide ((((List.length v.2.2.2.1) : Nat) : Int) ≤ v.2.2.2.2.2.2.2.2.1)) then
                  bif ((decide ((0 : Int) ≤ (IntKind.wrap .i64 (v.2.2.2.2.2.2.2.2.1 - (((List.length v.2.2.2.1) : Nat) : Int))))) && (decide ((IntKind.wrap .i64 (v.2.2.2.2.2.2.2.2.1 - (((List.length v.2.2.2.1) : Nat) : Int))) < (((List.length v.2.2.2.2.2.1) : Nat) : Int)))) then
                    bif (decide ((Int.toNat (IntKind.wrap .i64 (v.2.2.2.2.2.2.2.2.1 - (((List.length v.2.2.2.1) : Nat) : Int)))) < (List.length v.2.2.2.2.2.1))) then
                      bif ((decide ((0 : Int) ≤ v.2.2.2.2.2.2.2.2.1)) && (decide (v.2.2.2.2.2.2.2.2.1 < (((List.length v.2.2.2.2.2.2.2.1) : Nat) : Int)))) then
                        bif (decide ((Int.toNat v.2.2.2.2.2.2.2.2.1) < (List.length v.2.2.2.2.2.2.2.1))) then
                          bif (!(!(decide ((List.getD v.2.2.2.2.2.1 (Int.toNat (IntKind.wrap .i64 (v.2.2.2.2.2.2.2.2.1 - (((List.length v.2.2.2.1) : Nat) : Int)))) z_Done).1 = (List.getD v.2.2.2.2.2.2.2.1 (Int.toNat v.2.2.2.2.2.2.2.2.1) z_Done).1)))) then
                            bif ((decide ((0 : Int) ≤ (IntKind.wrap .i64 (v.2.2.2.2.2.2.2.2.1 - (((List.length v.2.2.2.1) : Nat) : Int))))) && (decide ((IntKind.wrap .i64 (v.2.2.2.2.2.2.2.2.1 - (((List.length v.2.2.2.1) : Nat) : Int))) < (((List.length v.2.2.2.2.2.1) : Nat) : Int)))) then
                              bif (decide ((Int.toNat (IntKind.wrap .i64 (v.2.2.2.2.2.2.2.2.1 - (((List.length v.2.2.2.1) : Nat) : Int)))) < (List.length v.2.2.2.2.2.1))) then
                                bif ((decide ((0 : Int) ≤ v.2.2.2.2.2.2.2.2.1)) && (decide (v.2.2.2.2.2.2.2.2.1 < (((List.length v.2.2.2.2.2.2.2.1) : Nat) : Int)))) then
                                  bif (decide ((Int.toNat v.2.2.2.2.2.2.2.2.1) < (List.length v.2.2.2.2.2.2.2.1))) then
                                    bif (!(decide ((IntKind.wrap .i64 ((List.getD v.2.2.2.2.2.1 (Int.toNat (IntKind.wrap .i64 (v.2.2.2.2.2.2.2.2.1 - (((List.length v.2.2.2.1) : Nat) : Int)))) z_Done).2.1 + v.2.2.1)) = (List.getD v.2.2.2.2.2.2.2.1 (Int.toNat v.2.2.2.2.2.2.2.2.1) z_Done).2.1))) then
                                      some (Sum.inl ((), false, ()))
                                    else
                                      rec ((), v.2.1, v.2.2.1, v.2.2.2.1, v.2.2.2.2.1, v.2.2.2.2.2.1, v.2.2.2.2.2.2.1, v.2.2.2.2.2.2.2.1, (IntKind.wrap .i64 (v.2.2.2.2.2.2.2.2.1 + (1 : Int))), ())
                                  else none
                                else none
                              else none
                            else none
                          else
                            some (Sum.inl ((), false, ()))
                        else none
                      else none
                    else none
                  else none
                else
                  rec ((), v.2.1, v.2.2.1, v.2.2.2.1, v.2.2.2.2.1, v.2.2.2.2.2.1, v.2.2.2.2.2.2.1, v.2.2.2.2.2.2.2.1, (IntKind.wrap .i64 (v.2.2.2.2.2.2.2.2.1 + (1 : Int))), ())
              else
                some (Sum.inl ((), false, ()))
            else none
          else none
        else none
      else none
    else
      bif (decide ((((List.length v.2.2.2.1) : Nat) : Int) ≤ v.2.2.2.2.2.2.2.2.1)) then
        bif ((decide ((0 : Int) ≤ (IntKind.wrap .i64 (v.2.2.2.2.2.2.2.2.1 - (((List.length v.2.2.2.1) : Nat) : Int))))) && (decide ((IntKind.wrap .i64 (v.2.2.2.2.2.2.2.2.1 - (((List.length v.2.2.2.1) : Nat) : Int))) < (((List.length v.2.2.2.2.2.1) : Nat) : Int)))) then
          bif (decide ((Int.toNat (IntKind.wrap .i64 (v.2.2.2.2.2.2.2.2.1 - (((List.length v.2.2.2.1) : Nat) : Int)))) < (List.length v.2.2.2.2.2.1))) then
            bif ((decide ((0 : Int) ≤ v.2.2.2.2.2.2.2.2.1)) && (decide (v.2.2.2.2.2.2.2.2.1 < (((List.length v.2.2.2.2.2.2.2.1) : Nat) : Int)))) then
              bif (decide ((Int.toNat v.2.2.2.2.2.2.2.2.1) < (List.length v.2.2.2.2.2.2.2.1))) then
                bif (!(!(decide ((List.getD v.2.2.2.2.2.1 (Int.toNat (IntKind.wrap .i64 (v.2.2.2.2.2.2.2.2.1 - (((List.length v.2.2.2.1) : Nat) : Int)))) z_Done).1 = (List.getD v.2.2.2.2.2.2.2.1 (Int.toNat v.2.2.2.2.2.2.2.2.1) z_Done).1)))) then
                  bif ((decide ((0 : Int) ≤ (IntKind.wrap .i64 (v.2.2.2.2.2.2.2.2.1 - (((List.length v.2.2.2.1) : Nat) : Int))))) && (decide ((IntKind.wrap .i64 (v.2.2.2.2.2.2.2.2.1 - (((List.length v.2.2.2.1) : Nat) : Int))) < (((List.length v.2.2.2.2.2.1) : Nat) : Int)))) then
                    bif (decide ((Int.toNat (IntKind.wrap .i64 (v.2.2.2.2.2.2.2.2.1 - (((List.length v.2.2.2.1) : Nat) : Int)))) < (List.length v.2.2.2.2.2.1))) then
                      bif ((decide ((0 : Int) ≤ v.2.2.2.2.2.2.2.2.1)) && (decide (v.2.2.2.2.2.2.2.2.1 < (((List.length v.2.2.2.2.2.2.2.1) : Nat) : Int)))) then
                        bif (decide ((Int.toNat v.2.2.2.2.2.2.2.2.1) < (List.length v.2.2.2.2.2.2.2.1))) then
                          bif (!(decide ((IntKind.wrap .i64 ((List.getD v.2.2.2.2.2.1 (Int.toNat (IntKind.wrap .i64 (v.2.2.2.2.2.2.2.2.1 - (((List.length v.2.2.2.1) : Nat) : Int)))) z_Done).2.1 + v.2.2.1)) = (List.getD v.2.2.2.2.2.2.2.1 (Int.toNat v.2.2.2.2.2.2.2.2.1) z_Done).2.1))) then
                            some (Sum.inl ((), false, ()))
                          else
                            rec ((), v.2.1, v.2.2.1, v.2.2.2.1, v.2.2.2.2.1, v.2.2.2.2.2.1, v.2.2.2.2.2.2.1, v.2.2.2.2.2.2.2.1, (IntKind.wrap .i64 (v.2.2.2.2.2.2.2.2.1 + (1 : Int))), ())
                        else none
                      else none
                    else none
                  else none
                else
                  some (Sum.inl ((), false, ()))
              else none
            else none
          else none
        else none
      else
        rec ((), v.2.1, v.2.2.1, v.2.2.2.1, v.2.2.2.2.1, v.2.2.2.2.2.1, v.2.2.2.2.2.2.1, v.2.2.2.2.2.2.2.1, (IntKind.wrap .i64 (v.2.2.2.2.2.2.2.2.1 + (1 : Int))), ())
  else
    some (Sum.inr ((), v.2.1, v.2.2.2.2.1, v.2.2.2.2.2.2.1, ()))
def laws_FnLineSplit (k : Nat) (x0 : (List Int)) : Option ((Bool × Unit) × Unit) :=
  (laws_big x0).bind fun t1 =>
    bif t1.1.1 then
      some ((true, ()), ())
    else
      (spec_DrawLineTick k x0).bind fun t2 =>
        (spec_LineOk k t2.1.1).bind fun t3 =>
          bif (!t3.1.1) then
            (impl_LineHeld k t2.1.1).bind fun t4 =>
              some (((decide (t4.1.1 = (-1 : Int))), ()), ())
          else
            (laws_pick k x0 (1 : Int) (300 : Int)).bind fun t5 =>
              (laws_pick k x0 (2 : Int) (300 : Int)).bind fun t6 =>
                (impl_LineRun k t2.1.1 t5.1.1).bind fun t7 =>
                  (impl_LineRun k t7.1.1 t6.1.1).bind fun t8 =>
                    (impl_LineRun k t2.1.1 (IntKind.wrap .i64 (t5.1.1 + t6.1.1))).bind fun t9 =>
                      bif (!(!(decide ((IntKind.wrap .i64 ((((List.length t7.1.2.1) : Nat) : Int) + (((List.length t8.1.2.1) : Nat) : Int))) = (((List.length t9.1.2.1) : Nat) : Int))))) then
                        (impl_LineEnd k t8.1.1).bind fun t10 =>
                          (impl_LineEnd k t9.1.1).bind fun t11 =>
                            bif (!(!(decide (t10.1.1 = t11.1.1)))) then
                              (impl_LineHeld k t2.1.1).bind fun t12 =>
                                (impl_LineHeld k t8.1.1).bind fun t13 =>
                                  bif (!(decide (t12.1.1 = (IntKind.wrap .i64 (t13.1.1 + (((List.length t9.1.2.1) : Nat) : Int)))))) then
                                    some ((false, ()), ())
                                  else
                                    (iter (laws_FnLineSplit_s14) k ((), t2.1.1, t5.1.1, t7.1.2.1, t8.1.1, t8.1.2.1, t9.1.1, t9.1.2.1, (0 : Int), ())).bind fun o14 =>
                                      Sum.elim (fun a15 =>
                                        some (a15.2, ()))
                                      (fun b16 =>
                                        bif (decide (b16.2.2.1.1 = b16.2.1.1)) then
                                          bif (decide ((((List.length b16.2.2.1.2.1) : Nat) : Int) = (((List.length b16.2.2.2.1.2.1) : Nat) : Int))) then
                                            some (((decide ((((List.length b16.2.2.1.2.2.1) : Nat) : Int) = (((List.length b16.2.2.2.1.2.2.1) : Nat) : Int))), ()), ())
                                          else
                                            some ((false, ()), ())
                                        else
                                          some ((false, ()), ())) o14
                            else
                              some ((false, ()), ())
                      else
                        some ((false, ()), ())
def spec_DrawLineEnd (k : Nat) (x0 : (List Int)) : Option ((D_Line × Unit) × Unit) :=
  (spec_l01Cur_badLine k (x0, (0 : Int), (IntKind.wrap .i64 ((71 : Int) + (Int.tmod (((List.length x0) : Nat) : Int) (1000 : Int)))), ())).bind fun t1 =>
    some (t1.1, ())
def laws_FnLineEnds_s10 (rec : (Unit × (D_Line × (Int × ((List D_Job) × D_Done)))) → Option ((Unit × (D_Line × (Int × ((List D_Job) × (Int × Unit))))))) (v : (Unit × (D_Line × (Int × ((List D_Job) × D_Done))))) : Option ((Unit × (D_Line × (Int × ((List D_Job) × (Int × Unit)))))) :=
  bif (decide (v.2.2.2.2.2.1 < (((List.length v.2.2.2.1) : Nat) : Int))) then
    bif ((decide ((0 : Int) ≤ v.2.2.2.2.2.1)) && (decide (v.2.2.2.2.2.1 < (((List.length v.2.2.2.1) : Nat) : Int)))) then
      bif (decide ((Int.toNat v.2.2.2.2.2.1) < (List.length v.2.2.2.1))) then
        bif ((decide ((0 : Int) ≤ v.2.2.2.2.2.1)) && (decide (v.2.2.2.2.2.1 < (((List.length v.2.2.2.1) : Nat) : Int)))) then
          bif (decide ((Int.toNat v.2.2.2.2.2.1) < (List.length v.2.2.2.1))) then
            bif ((decide ((0 : Int) ≤ v.2.2.2.2.2.1)) && (decide (v.2.2.2.2.2.1 < (((List.length v.2.2.2.1) : Nat) : Int)))) then
              bif (decide ((Int.toNat v.2.2.2.2.2.1) < (List.length v.2.2.2.1))) then
                rec ((), v.2.1, v.2.2.1, v.2.2.2.1, (IntKind.wrap .i64 ((IntKind.wrap .i64 ((IntKind.wrap .i64 (v.2.2.2.2.1 + (List.getD v.2.2.2.1 (Int.toNat v.2.2.2.2.2.1) z_Job).2.1.1)) + (List.getD v.2.2.2.1 (Int.toNat v.2.2.2.2.2.1) z_Job).2.1.2.1)) + (List.getD v.2.2.2.1 (Int.toNat v.2.2.2.2.2.1) z_Job).2.1.2.2.1)), (IntKind.wrap .i64 (v.2.2.2.2.2.1 + (1 : Int))), ())
              else none
            else none
          else none
        else none
      else none
    else none
  else
    some ((), v.2.1, v.2.2.1, v.2.2.2.1, v.2.2.2.2.1, ())
def laws_FnLineEnds_s17 (rec : (Unit × (D_Line × (Int × ((List D_Job) × ((List D_Done) × (Int × Unit)))))) → Option ((Unit × (Bool × Unit)) ⊕ (Unit × (D_Line × (Int × ((List D_Job) × Unit)))))) (v : (Unit × (D_Line × (Int × ((List D_Job) × ((List D_Done) × (Int × Unit))))))) : Option ((Unit × (Bool × Unit)) ⊕ (Unit × (D_Line × (Int × ((List D_Job) × Unit))))) :=
  bif (decide (v.2.2.2.2.2.1 < (((List.length v.2.2.2.1) : Nat) : Int))) then
    bif ((decide ((0 : Int) ≤ v.2.2.2.2.2.1)) && (decide (v.2.2.2.2.2.1 < (((List.length v.2.2.2.2.1) : Nat) : Int)))) then
      bif (decide ((Int.toNat v.2.2.2.2.2.1) < (List.length v.2.2.2.2.1))) then
        bif ((decide ((0 : Int) ≤ v.2.2.2.2.2.1)) && (decide (v.2.2.2.2.2.1 < (((List.length v.2.2.2.1) : Nat) : Int)))) then
          bif (decide ((Int.toNat v.2.2.2.2.2.1) < (List.length v.2.2.2.1))) then
            bif (!(decide ((List.getD v.2.2.2.2.1 (Int.toNat v.2.2.2.2.2.1) z_Done).1 = (List.getD v.2.2.2.1 (Int.toNat v.2.2.2.2.2.1) z_Job).1))) then
              some (Sum.inl ((), false, ()))
            else
              rec ((), v.2.1, v.2.2.1, v.2.2.2.1, v.2.2.2.2.1, (IntKind.wrap .i64 (v.2.2.2.2.2.1 + (1 : Int))), ())
          else none
        else none
      else none
    else none
  else
    some (Sum.inr ((), v.2.1, v.2.2.1, v.2.2.2.1, ()))
def laws_FnLineEnds (k : Nat) (x0 : (List Int)) : Option ((Bool × Unit) × Unit) :=
  (laws_big x0).bind fun t1 =>
    bif t1.1.1 then
      some ((true, ()), ())
    else
      (spec_DrawLineEnd k x0).bind fun t2 =>
        (spec_DrawLineEnd k x0).bind fun t3 =>
          (impl_LineEnd k t3.1.1).bind fun t4 =>
            (spec_LineEnd k t2.1.1).bind fun t5 =>
              bif (!(!(decide (t4.1.1 = t5.1.1)))) then
                bif (!(decide (t4.1.1 < (0 : Int)))) then
                  bif (decide ((20000 : Int) < t4.1.1)) then
                    (spec_LineEnd k t2.1.1).bind fun t6 =>
                      some (((decide (t4.1.1 = t6.1.1)), ()), ())
                  else
                    bif (decide ((((0 : Nat) + (List.length t2.1.1.2.2.2.1)) * 32) ≤ (1099511627776 : Nat))) then
                      bif (decide ((((List.length t2.1.1.2.2.2.1) + (List.length t2.1.1.2.2.1)) * 32) ≤ (1099511627776 : Nat))) then
                        bif (decide ((((List.length (t2.1.1.2.2.2.1 ++ t2.1.1.2.2.1)) + (List.length t2.1.1.2.1)) * 32) ≤ (1099511627776 : Nat))) then
                          (iter (laws_FnLineEnds_s10) k ((), t2.1.1, t4.1.1, ((t2.1.1.2.2.2.1 ++ t2.1.1.2.2.1) ++ t2.1.1.2.1), (0 : Int), (0 : Int), ())).bind fun o7 =>
                            (impl_LineRun k o7.2.1 o7.2.2.1).bind fun t8 =>
                              bif (!(decide (o7.2.2.2.2.1 < o7.2.2.1))) then
                                (impl_LineHeld k t8.1.1).bind fun t9 =>
                                  bif (!(!(decide (t9.1.1 = (0 : Int))))) then
                                    bif (!(!(decide ((((List.length t8.1.2.1) : Nat) : Int) = (((List.length o7.2.2.2.1) : Nat) : Int))))) then
                                      bif (!(decide (t8.1.1.1 = o7.2.1.1))) then
                                        some ((false, ()), ())
                                      else
                                        (iter (laws_FnLineEnds_s17) k ((), o7.2.1, o7.2.2.1, o7.2.2.2.1, t8.1.2.1, (0 : Int), ())).bind fun o10 =>
                                          Sum.elim (fun a11 =>
                                            some (a11.2, ()))
                                          (fun b12 =>
                                            bif (decide (b12.2.2.1 = (0 : Int))) then
                                              some (((decide ((((List.length b12.2.2.2.1) : Nat) : Int) = (0 : Int))), ()), ())
                                            else
                                              (impl_LineRun k b12.2.1 (IntKind.wrap .i64 (b12.2.2.1 - (1 : Int)))).bind fun t13 =>
                                                (impl_LineHeld k t13.1.1).bind fun t14 =>
                                                  some (((decide (t14.1.1 = (1 : Int))), ()), ())) o10
                                    else
                                      some ((false, ()), ())
                                  else
                                    some ((false, ()), ())
                              else
                                some ((false, ()), ())
                        else none
                      else none
                    else none
                else
                  (spec_LineEnd k t2.1.1).bind fun t15 =>
                    some (((decide (t4.1.1 = t15.1.1)), ()), ())
              else
                (spec_LineEnd k t2.1.1).bind fun t16 =>
                  some (((decide (t4.1.1 = t16.1.1)), ()), ())
end Go.Tw
