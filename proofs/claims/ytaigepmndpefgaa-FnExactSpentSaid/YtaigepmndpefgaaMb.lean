/- The mirrors of the functions as plain definitions, by which proofs go on. -/
import Derived.Test.YtaigepmndpefgaaT23
set_option linter.all false
namespace Go.Tw
open Go Go.RowKit
abbrev T_Vec : Ty := (.pr (.int .i64) (.pr (.int .i64) (.pr (.int .i64) .un)))
abbrev D_Vec := (Int × (Int × (Int × Unit)))
def z_Vec : D_Vec := ((0 : Int), ((0 : Int), ((0 : Int), ())))
abbrev T_Event : Ty := (.pr (.int .i64) (.pr (.int .i64) (.pr (.sl (.int .u8)) (.pr T_Vec .un))))
abbrev D_Event := (Int × (Int × ((List Int) × (D_Vec × Unit))))
def z_Event : D_Event := ((0 : Int), ((0 : Int), ([], (z_Vec, ()))))
abbrev T_Out : Ty := (.pr (.int .i64) (.pr (.int .i64) (.pr (.int .i64) (.pr (.sl (.int .u8)) (.pr (.sl (.int .i64)) .un)))))
abbrev D_Out := (Int × (Int × (Int × ((List Int) × ((List Int) × Unit)))))
def z_Out : D_Out := ((0 : Int), ((0 : Int), ((0 : Int), ([], ([], ())))))
abbrev T_Deal : Ty := (.pr (.int .i64) (.pr (.int .i64) (.pr T_Vec (.pr (.sl (.int .i64)) .un))))
abbrev D_Deal := (Int × (Int × (D_Vec × ((List Int) × Unit))))
def z_Deal : D_Deal := ((0 : Int), ((0 : Int), (z_Vec, ([], ()))))
abbrev T_TreeDeal : Ty := (.pr T_Deal (.pr T_Deal .un))
abbrev D_TreeDeal := (D_Deal × (D_Deal × Unit))
def z_TreeDeal : D_TreeDeal := (z_Deal, (z_Deal, ()))
abbrev T_Dealt : Ty := (.pr (.int .i64) (.pr T_Vec (.pr T_TreeDeal .un)))
abbrev D_Dealt := (Int × (D_Vec × (D_TreeDeal × Unit)))
def z_Dealt : D_Dealt := ((0 : Int), (z_Vec, (z_TreeDeal, ())))
def laws_szByteS (x0 : (List Int)) (x1 : Int) : Option ((Int × Unit) × Unit) :=
  bif (decide ((IntKind.wrap .i64 (x1 - (((List.length x0) : Nat) : Int))) < (0 : Int))) then
    some (((-1 : Int), ()), ())
  else
    some (((IntKind.wrap .i64 (x1 - (((List.length x0) : Nat) : Int))), ()), ())
def laws_szEvent (x0 : D_Event) (x1 : Int) : Option ((Int × Unit) × Unit) :=
  (laws_szByteS x0.2.2.1 x1).bind fun t1 =>
    bif (decide (t1.1.1 < (0 : Int))) then
      some (((-1 : Int), ()), ())
    else
      some (t1.1, ())
def laws_szEventS_s5 (rec : (Unit × ((List D_Event) × (Int × (Int × Unit)))) → Option ((Unit × (Int × Unit)) ⊕ (Unit × (Int × Unit)))) (v : (Unit × ((List D_Event) × (Int × (Int × Unit))))) : Option ((Unit × (Int × Unit)) ⊕ (Unit × (Int × Unit))) :=
  bif (decide (v.2.2.2.1 < (((List.length v.2.1) : Nat) : Int))) then
    bif ((decide ((0 : Int) ≤ v.2.2.2.1)) && (decide (v.2.2.2.1 < (((List.length v.2.1) : Nat) : Int)))) then
      bif (decide ((Int.toNat v.2.2.2.1) < (List.length v.2.1))) then
        (laws_szEvent (List.getD v.2.1 (Int.toNat v.2.2.2.1) z_Event) v.2.2.1).bind fun t1 =>
          bif (decide (t1.1.1 < (0 : Int))) then
            some (Sum.inl ((), (-1 : Int), ()))
          else
            rec ((), v.2.1, t1.1.1, (IntKind.wrap .i64 (v.2.2.2.1 + (1 : Int))), ())
      else none
    else none
  else
    some (Sum.inr ((), v.2.2.1, ()))
def laws_szEventS (k : Nat) (x0 : (List D_Event)) (x1 : Int) : Option ((Int × Unit) × Unit) :=
  bif (decide ((IntKind.wrap .i64 (x1 - (((List.length x0) : Nat) : Int))) < (0 : Int))) then
    some (((-1 : Int), ()), ())
  else
    (iter (laws_szEventS_s5) k ((), x0, (IntKind.wrap .i64 (x1 - (((List.length x0) : Nat) : Int))), (0 : Int), ())).bind fun o1 =>
      Sum.elim (fun a2 =>
        some (a2.2, ()))
      (fun b3 =>
        some (b3.2, ())) o1
def laws_szIntS (x0 : (List Int)) (x1 : Int) : Option ((Int × Unit) × Unit) :=
  bif (decide ((IntKind.wrap .i64 (x1 - (((List.length x0) : Nat) : Int))) < (0 : Int))) then
    some (((-1 : Int), ()), ())
  else
    some (((IntKind.wrap .i64 (x1 - (((List.length x0) : Nat) : Int))), ()), ())
def laws_szOut (x0 : D_Out) (x1 : Int) : Option ((Int × Unit) × Unit) :=
  (laws_szByteS x0.2.2.2.1 x1).bind fun t1 =>
    bif (decide (t1.1.1 < (0 : Int))) then
      some (((-1 : Int), ()), ())
    else
      (laws_szIntS x0.2.2.2.2.1 t1.1.1).bind fun t2 =>
        bif (decide (t2.1.1 < (0 : Int))) then
          some (((-1 : Int), ()), ())
        else
          some (t2.1, ())
def laws_szOutS_s5 (rec : (Unit × ((List D_Out) × (Int × (Int × Unit)))) → Option ((Unit × (Int × Unit)) ⊕ (Unit × (Int × Unit)))) (v : (Unit × ((List D_Out) × (Int × (Int × Unit))))) : Option ((Unit × (Int × Unit)) ⊕ (Unit × (Int × Unit))) :=
  bif (decide (v.2.2.2.1 < (((List.length v.2.1) : Nat) : Int))) then
    bif ((decide ((0 : Int) ≤ v.2.2.2.1)) && (decide (v.2.2.2.1 < (((List.length v.2.1) : Nat) : Int)))) then
      bif (decide ((Int.toNat v.2.2.2.1) < (List.length v.2.1))) then
        (laws_szOut (List.getD v.2.1 (Int.toNat v.2.2.2.1) z_Out) v.2.2.1).bind fun t1 =>
          bif (decide (t1.1.1 < (0 : Int))) then
            some (Sum.inl ((), (-1 : Int), ()))
          else
            rec ((), v.2.1, t1.1.1, (IntKind.wrap .i64 (v.2.2.2.1 + (1 : Int))), ())
      else none
    else none
  else
    some (Sum.inr ((), v.2.2.1, ()))
def laws_szOutS (k : Nat) (x0 : (List D_Out)) (x1 : Int) : Option ((Int × Unit) × Unit) :=
  bif (decide ((IntKind.wrap .i64 (x1 - (((List.length x0) : Nat) : Int))) < (0 : Int))) then
    some (((-1 : Int), ()), ())
  else
    (iter (laws_szOutS_s5) k ((), x0, (IntKind.wrap .i64 (x1 - (((List.length x0) : Nat) : Int))), (0 : Int), ())).bind fun o1 =>
      Sum.elim (fun a2 =>
        some (a2.2, ()))
      (fun b3 =>
        some (b3.2, ())) o1
def laws_szDeal (x0 : D_Deal) (x1 : Int) : Option ((Int × Unit) × Unit) :=
  (laws_szIntS x0.2.2.2.1 x1).bind fun t1 =>
    bif (decide (t1.1.1 < (0 : Int))) then
      some (((-1 : Int), ()), ())
    else
      some (t1.1, ())
def laws_szTreeDeal (x0 : D_TreeDeal) (x1 : Int) : Option ((Int × Unit) × Unit) :=
  (laws_szDeal x0.1 x1).bind fun t1 =>
    bif (decide (t1.1.1 < (0 : Int))) then
      some (((-1 : Int), ()), ())
    else
      (laws_szDeal x0.2.1 t1.1.1).bind fun t2 =>
        bif (decide (t2.1.1 < (0 : Int))) then
          some (((-1 : Int), ()), ())
        else
          some (t2.1, ())
def laws_szDealt (x0 : D_Dealt) (x1 : Int) : Option ((Int × Unit) × Unit) :=
  (laws_szTreeDeal x0.2.2.1 x1).bind fun t1 =>
    bif (decide (t1.1.1 < (0 : Int))) then
      some (((-1 : Int), ()), ())
    else
      some (t1.1, ())
def laws_szDealtS_s5 (rec : (Unit × ((List D_Dealt) × (Int × (Int × Unit)))) → Option ((Unit × (Int × Unit)) ⊕ (Unit × (Int × Unit)))) (v : (Unit × ((List D_Dealt) × (Int × (Int × Unit))))) : Option ((Unit × (Int × Unit)) ⊕ (Unit × (Int × Unit))) :=
  bif (decide (v.2.2.2.1 < (((List.length v.2.1) : Nat) : Int))) then
    bif ((decide ((0 : Int) ≤ v.2.2.2.1)) && (decide (v.2.2.2.1 < (((List.length v.2.1) : Nat) : Int)))) then
      bif (decide ((Int.toNat v.2.2.2.1) < (List.length v.2.1))) then
        (laws_szDealt (List.getD v.2.1 (Int.toNat v.2.2.2.1) z_Dealt) v.2.2.1).bind fun t1 =>
          bif (decide (t1.1.1 < (0 : Int))) then
            some (Sum.inl ((), (-1 : Int), ()))
          else
            rec ((), v.2.1, t1.1.1, (IntKind.wrap .i64 (v.2.2.2.1 + (1 : Int))), ())
      else none
    else none
  else
    some (Sum.inr ((), v.2.2.1, ()))
def laws_szDealtS (k : Nat) (x0 : (List D_Dealt)) (x1 : Int) : Option ((Int × Unit) × Unit) :=
  bif (decide ((IntKind.wrap .i64 (x1 - (((List.length x0) : Nat) : Int))) < (0 : Int))) then
    some (((-1 : Int), ()), ())
  else
    (iter (laws_szDealtS_s5) k ((), x0, (IntKind.wrap .i64 (x1 - (((List.length x0) : Nat) : Int))), (0 : Int), ())).bind fun o1 =>
      Sum.elim (fun a2 =>
        some (a2.2, ()))
      (fun b3 =>
        some (b3.2, ())) o1
def laws_toByteS_s3 (rec : (Unit × ((List Int) × ((List Int) × (Int × Unit)))) → Option ((Unit × ((List Int) × Unit)))) (v : (Unit × ((List Int) × ((List Int) × (Int × Unit))))) : Option ((Unit × ((List Int) × Unit))) :=
  bif (decide (v.2.2.2.1 < (((List.length v.2.1) : Nat) : Int))) then
    bif ((decide ((0 : Int) ≤ v.2.2.2.1)) && (decide (v.2.2.2.1 < (((List.length v.2.1) : Nat) : Int)))) then
      bif (decide ((Int.toNat v.2.2.2.1) < (List.length v.2.1))) then
        bif ((decide ((0 : Int) ≤ v.2.2.2.1)) && (decide (v.2.2.2.1 < (((List.length v.2.2.1) : Nat) : Int)))) then
          bif (decide ((Int.toNat v.2.2.2.1) < (List.length v.2.2.1))) then
            let y1 : (List Int) := (List.set v.2.2.1 (Int.toNat v.2.2.2.1) (List.getD v.2.1 (Int.toNat v.2.2.2.1) (0 : Int)))
            rec ((), v.2.1, y1, (IntKind.wrap .i64 (v.2.2.2.1 + (1 : Int))), ())
          else none
        else none
      else none
    else none
  else
    some ((), v.2.2.1, ())
def laws_toByteS (k : Nat) (x0 : (List Int)) : Option (((List Int) × Unit) × Unit) :=
  bif (((decide ((0 : Int) ≤ (((List.length x0) : Nat) : Int))) && (decide ((((List.length x0) : Nat) : Int) ≤ (((List.length x0) : Nat) : Int)))) && (decide (((1 : Int) * (((List.length x0) : Nat) : Int)) ≤ (1099511627776 : Int)))) then
    (iter (laws_toByteS_s3) k ((), x0, (List.replicate (List.length x0) (0 : Int)), (0 : Int), ())).bind fun o1 =>
      some (o1.2, ())
  else none
def laws_toVec (x0 : D_Vec) : Option ((D_Vec × Unit) × Unit) :=
  some ((x0, ()), ())
def laws_toEvent (k : Nat) (x0 : D_Event) : Option ((D_Event × Unit) × Unit) :=
  (laws_toByteS k x0.2.2.1).bind fun t1 =>
    (laws_toVec x0.2.2.2.1).bind fun t2 =>
      some (((x0.1, x0.2.1, t1.1.1, t2.1), ()), ())
def laws_toEventS_s3 (k : Nat) (rec : (Unit × ((List D_Event) × ((List D_Event) × (Int × Unit)))) → Option ((Unit × ((List D_Event) × Unit)))) (v : (Unit × ((List D_Event) × ((List D_Event) × (Int × Unit))))) : Option ((Unit × ((List D_Event) × Unit))) :=
  bif (decide (v.2.2.2.1 < (((List.length v.2.1) : Nat) : Int))) then
    bif ((decide ((0 : Int) ≤ v.2.2.2.1)) && (decide (v.2.2.2.1 < (((List.length v.2.1) : Nat) : Int)))) then
      bif (decide ((Int.toNat v.2.2.2.1) < (List.length v.2.1))) then
        (laws_toEvent k (List.getD v.2.1 (Int.toNat v.2.2.2.1) z_Event)).bind fun t1 =>
          bif ((decide ((0 : Int) ≤ v.2.2.2.1)) && (decide (v.2.2.2.1 < (((List.length v.2.2.1) : Nat) : Int)))) then
            bif (decide ((Int.toNat v.2.2.2.1) < (List.length v.2.2.1))) then
              let y2 : (List D_Event) := (List.set v.2.2.1 (Int.toNat v.2.2.2.1) t1.1.1)
              rec ((), v.2.1, y2, (IntKind.wrap .i64 (v.2.2.2.1 + (1 : Int))), ())
            else none
          else none
      else none
    else none
  else
    some ((), v.2.2.1, ())
def laws_toEventS (k : Nat) (x0 : (List D_Event)) : Option (((List D_Event) × Unit) × Unit) :=
  bif (((decide ((0 : Int) ≤ (((List.length x0) : Nat) : Int))) && (decide ((((List.length x0) : Nat) : Int) ≤ (((List.length x0) : Nat) : Int)))) && (decide (((64 : Int) * (((List.length x0) : Nat) : Int)) ≤ (1099511627776 : Int)))) then
    (iter (laws_toEventS_s3 k) k ((), x0, (List.replicate (List.length x0) ((0 : Int), (0 : Int), ([] : List Int), ((0 : Int), (0 : Int), (0 : Int), ()), ())), (0 : Int), ())).bind fun o1 =>
      some (o1.2, ())
  else none
def laws_toIntS_s3 (rec : (Unit × ((List Int) × ((List Int) × (Int × Unit)))) → Option ((Unit × ((List Int) × Unit)))) (v : (Unit × ((List Int) × ((List Int) × (Int × Unit))))) : Option ((Unit × ((List Int) × Unit))) :=
  bif (decide (v.2.2.2.1 < (((List.length v.2.1) : Nat) : Int))) then
    bif ((decide ((0 : Int) ≤ v.2.2.2.1)) && (decide (v.2.2.2.1 < (((List.length v.2.1) : Nat) : Int)))) then
      bif (decide ((Int.toNat v.2.2.2.1) < (List.length v.2.1))) then
        bif ((decide ((0 : Int) ≤ v.2.2.2.1)) && (decide (v.2.2.2.1 < (((List.length v.2.2.1) : Nat) : Int)))) then
          bif (decide ((Int.toNat v.2.2.2.1) < (List.length v.2.2.1))) then
            let y1 : (List Int) := (List.set v.2.2.1 (Int.toNat v.2.2.2.1) (List.getD v.2.1 (Int.toNat v.2.2.2.1) (0 : Int)))
            rec ((), v.2.1, y1, (IntKind.wrap .i64 (v.2.2.2.1 + (1 : Int))), ())
          else none
        else none
      else none
    else none
  else
    some ((), v.2.2.1, ())
def laws_toIntS (k : Nat) (x0 : (List Int)) : Option (((List Int) × Unit) × Unit) :=
  bif (((decide ((0 : Int) ≤ (((List.length x0) : Nat) : Int))) && (decide ((((List.length x0) : Nat) : Int) ≤ (((List.length x0) : Nat) : Int)))) && (decide (((8 : Int) * (((List.length x0) : Nat) : Int)) ≤ (1099511627776 : Int)))) then
    (iter (laws_toIntS_s3) k ((), x0, (List.replicate (List.length x0) (0 : Int)), (0 : Int), ())).bind fun o1 =>
      some (o1.2, ())
  else none
def laws_toOut (k : Nat) (x0 : D_Out) : Option ((D_Out × Unit) × Unit) :=
  (laws_toByteS k x0.2.2.2.1).bind fun t1 =>
    (laws_toIntS k x0.2.2.2.2.1).bind fun t2 =>
      some (((x0.1, x0.2.1, x0.2.2.1, t1.1.1, t2.1), ()), ())
def laws_toOutS_s3 (k : Nat) (rec : (Unit × ((List D_Out) × ((List D_Out) × (Int × Unit)))) → Option ((Unit × ((List D_Out) × Unit)))) (v : (Unit × ((List D_Out) × ((List D_Out) × (Int × Unit))))) : Option ((Unit × ((List D_Out) × Unit))) :=
  bif (decide (v.2.2.2.1 < (((List.length v.2.1) : Nat) : Int))) then
    bif ((decide ((0 : Int) ≤ v.2.2.2.1)) && (decide (v.2.2.2.1 < (((List.length v.2.1) : Nat) : Int)))) then
      bif (decide ((Int.toNat v.2.2.2.1) < (List.length v.2.1))) then
        (laws_toOut k (List.getD v.2.1 (Int.toNat v.2.2.2.1) z_Out)).bind fun t1 =>
          bif ((decide ((0 : Int) ≤ v.2.2.2.1)) && (decide (v.2.2.2.1 < (((List.length v.2.2.1) : Nat) : Int)))) then
            bif (decide ((Int.toNat v.2.2.2.1) < (List.length v.2.2.1))) then
              let y2 : (List D_Out) := (List.set v.2.2.1 (Int.toNat v.2.2.2.1) t1.1.1)
              rec ((), v.2.1, y2, (IntKind.wrap .i64 (v.2.2.2.1 + (1 : Int))), ())
            else none
          else none
      else none
    else none
  else
    some ((), v.2.2.1, ())
def laws_toOutS (k : Nat) (x0 : (List D_Out)) : Option (((List D_Out) × Unit) × Unit) :=
  bif (((decide ((0 : Int) ≤ (((List.length x0) : Nat) : Int))) && (decide ((((List.length x0) : Nat) : Int) ≤ (((List.length x0) : Nat) : Int)))) && (decide (((72 : Int) * (((List.length x0) : Nat) : Int)) ≤ (1099511627776 : Int)))) then
    (iter (laws_toOutS_s3 k) k ((), x0, (List.replicate (List.length x0) ((0 : Int), (0 : Int), (0 : Int), ([] : List Int), ([] : List Int), ())), (0 : Int), ())).bind fun o1 =>
      some (o1.2, ())
  else none
def laws_toDeal (k : Nat) (x0 : D_Deal) : Option ((D_Deal × Unit) × Unit) :=
  (laws_toVec x0.2.2.1).bind fun t1 =>
    (laws_toIntS k x0.2.2.2.1).bind fun t2 =>
      some (((x0.1, x0.2.1, t1.1.1, t2.1), ()), ())
def laws_toTreeDeal (k : Nat) (x0 : D_TreeDeal) : Option ((D_TreeDeal × Unit) × Unit) :=
  (laws_toDeal k x0.1).bind fun t1 =>
    (laws_toDeal k x0.2.1).bind fun t2 =>
      some (((t1.1.1, t2.1), ()), ())
def laws_toDealt (k : Nat) (x0 : D_Dealt) : Option ((D_Dealt × Unit) × Unit) :=
  (laws_toVec x0.2.1).bind fun t1 =>
    (laws_toTreeDeal k x0.2.2.1).bind fun t2 =>
      some (((x0.1, t1.1.1, t2.1), ()), ())
def laws_toDealtS_s3 (k : Nat) (rec : (Unit × ((List D_Dealt) × ((List D_Dealt) × (Int × Unit)))) → Option ((Unit × ((List D_Dealt) × Unit)))) (v : (Unit × ((List D_Dealt) × ((List D_Dealt) × (Int × Unit))))) : Option ((Unit × ((List D_Dealt) × Unit))) :=
  bif (decide (v.2.2.2.1 < (((List.length v.2.1) : Nat) : Int))) then
    bif ((decide ((0 : Int) ≤ v.2.2.2.1)) && (decide (v.2.2.2.1 < (((List.length v.2.1) : Nat) : Int)))) then
      bif (decide ((Int.toNat v.2.2.2.1) < (List.length v.2.1))) then
        (laws_toDealt k (List.getD v.2.1 (Int.toNat v.2.2.2.1) z_Dealt)).bind fun t1 =>
          bif ((decide ((0 : Int) ≤ v.2.2.2.1)) && (decide (v.2.2.2.1 < (((List.length v.2.2.1) : Nat) : Int)))) then
            bif (decide ((Int.toNat v.2.2.2.1) < (List.length v.2.2.1))) then
              let y2 : (List D_Dealt) := (List.set v.2.2.1 (Int.toNat v.2.2.2.1) t1.1.1)
              rec ((), v.2.1, y2, (IntKind.wrap .i64 (v.2.2.2.1 + (1 : Int))), ())
            else none
          else none
      else none
    else none
  else
    some ((), v.2.2.1, ())
def laws_toDealtS (k : Nat) (x0 : (List D_Dealt)) : Option (((List D_Dealt) × Unit) × Unit) :=
  bif (((decide ((0 : Int) ≤ (((List.length x0) : Nat) : Int))) && (decide ((((List.length x0) : Nat) : Int) ≤ (((List.length x0) : Nat) : Int)))) && (decide (((160 : Int) * (((List.length x0) : Nat) : Int)) ≤ (1099511627776 : Int)))) then
    (iter (laws_toDealtS_s3 k) k ((), x0, (List.replicate (List.length x0) ((0 : Int), ((0 : Int), (0 : Int), (0 : Int), ()), (((0 : Int), (0 : Int), ((0 : Int), (0 : Int), (0 : Int), ()), ([] : List Int), ()), ((0 : Int), (0 : Int), ((0 : Int), (0 : Int), (0 : Int), ()), ([] : List Int), ()), ()), ())), (0 : Int), ())).bind fun o1 =>
      some (o1.2, ())
  else none
def spec_EventsOk_s5 (rec : (Unit × ((List D_Event) × (Int × (Int × Unit)))) → Option ((Unit × (Bool × Unit)) ⊕ (Unit × Unit))) (v : (Unit × ((List D_Event) × (Int × (Int × Unit))))) : Option ((Unit × (Bool × Unit)) ⊕ (Unit × Unit)) :=
  bif (decide (v.2.2.2.1 < (((List.length v.2.1) : Nat) : Int))) then
    bif ((decide ((0 : Int) ≤ v.2.2.2.1)) && (decide (v.2.2.2.1 < (((List.length v.2.1) : Nat) : Int)))) then
      bif (decide ((Int.toNat v.2.2.2.1) < (List.length v.2.1))) then
        bif (!(decide ((List.getD v.2.1 (Int.toNat v.2.2.2.1) z_Event).1 < (1 : Int)))) then
          bif (!(decide ((4 : Int) < (List.getD v.2.1 (Int.toNat v.2.2.2.1) z_Event).1))) then
            bif (decide ((2000 : Int) < (((List.length (List.getD v.2.1 (Int.toNat v.2.2.2.1) z_Event).2.2.1) : Nat) : Int))) then
              some (Sum.inl ((), false, ()))
            else
              bif (!(decide ((List.getD v.2.1 (Int.toNat v.2.2.2.1) z_Event).1 = (2 : Int)))) then
                bif (!(!(decide ((List.getD v.2.1 (Int.toNat v.2.2.2.1) z_Event).2.1 = (0 : Int))))) then
                  bif (decide ((List.getD v.2.1 (Int.toNat v.2.2.2.1) z_Event).1 = (2 : Int))) then
                    bif (!(decide ((List.getD v.2.1 (Int.toNat v.2.2.2.1) z_Event).2.1 < (1 : Int)))) then
                      bif (decide (v.2.2.1 < (List.getD v.2.1 (Int.toNat v.2.2.2.1) z_Event).2.1)) then
                        some (Sum.inl ((), false, ()))
                      else
                        bif (!(decide ((List.getD v.2.1 (Int.toNat v.2.2.2.1) z_Event).1 = (1 : Int)))) then
                          bif (!(!((decide ((List.getD v.2.1 (Int.toNat v.2.2.2.1) z_Event).2.2.2.1.1 = (0 : Int))) && ((decide ((List.getD v.2.1 (Int.toNat v.2.2.2.1) z_Event).2.2.2.1.2.1 = (0 : Int))) && ((decide ((List.getD v.2.1 (Int.toNat v.2.2.2.1) z_Event).2.2.2.1.2.2.1 = (0 : Int))) && true))))) then
                            bif (!(decide ((List.getD v.2.1 (Int.toNat v.2.2.2.1) z_Event).1 = (2 : Int)))) then
                              bif (decide ((List.getD v.2.1 (Int.toNat v.2.2.2.1) z_Event).1 = (4 : Int))) then
                                bif (decide ((0 : Int) < (((List.length (List.getD v.2.1 (Int.toNat v.2.2.2.1) z_Event).2.2.1) : Nat) : Int))) then
                                  some (Sum.inl ((), false, ()))
                                else
                                  rec ((), v.2.1, (IntKind.wrap .i64 (v.2.2.1 - (List.getD v.2.1 (Int.toNat v.2.2.2.1) z_Event).2.1)), (IntKind.wrap .i64 (v.2.2.2.1 + (1 : Int))), ())
                              else
                                rec ((), v.2.1, (IntKind.wrap .i64 (v.2.2.1 - (List.getD v.2.1 (Int.toNat v.2.2.2.1) z_Event).2.1)), (IntKind.wrap .i64 (v.2.2.2.1 + (1 : Int))), ())
                            else
                              bif (decide ((0 : Int) < (((List.length (List.getD v.2.1 (Int.toNat v.2.2.2.1) z_Event).2.2.1) : Nat) : Int))) then
                                some (Sum.inl ((), false, ()))
                              else
                                rec ((), v.2.1, (IntKind.wrap .i64 (v.2.2.1 - (List.getD v.2.1 (Int.toNat v.2.2.2.1) z_Event).2.1)), (IntKind.wrap .i64 (v.2.2.2.1 + (1 : Int))), ())
                          else
                            some (Sum.inl ((), false, ()))
                        else
                          bif (!(decide ((List.getD v.2.1 (Int.toNat v.2.2.2.1) z_Event).1 = (2 : Int)))) then
                            bif (decide ((List.getD v.2.1 (Int.toNat v.2.2.2.1) z_Event).1 = (4 : Int))) then
                              bif (decide ((0 : Int) < (((List.length (List.getD v.2.1 (Int.toNat v.2.2.2.1) z_Event).2.2.1) : Nat) : Int))) then
                                some (Sum.inl ((), false, ()))
                              else
                                rec ((), v.2.1, (IntKind.wrap .i64 (v.2.2.1 - (List.getD v.2.1 (Int.toNat v.2.2.2.1) z_Event).2.1)), (IntKind.wrap .i64 (v.2.2.2.1 + (1 : Int))), ())
                            else
                              rec ((), v.2.1, (IntKind.wrap .i64 (v.2.2.1 - (List.getD v.2.1 (Int.toNat v.2.2.2.1) z_Event).2.1)), (IntKind.wrap .i64 (v.2.2.2.1 + (1 : Int))), ())
                          else
                            bif (decide ((0 : Int) < (((List.length (List.getD v.2.1 (Int.toNat v.2.2.2.1) z_Event).2.2.1) : Nat) : Int))) then
                              some (Sum.inl ((), false, ()))
                            else
                              rec ((), v.2.1, (IntKind.wrap .i64 (v.2.2.1 - (List.getD v.2.1 (Int.toNat v.2.2.2.1) z_Event).2.1)), (IntKind.wrap .i64 (v.2.2.2.1 + (1 : Int))), ())
                    else
                      some (Sum.inl ((), false, ()))
                  else
                    bif (!(decide ((List.getD v.2.1 (Int.toNat v.2.2.2.1) z_Event).1 = (1 : Int)))) then
                      bif (!(!((decide ((List.getD v.2.1 (Int.toNat v.2.2.2.1) z_Event).2.2.2.1.1 = (0 : Int))) && ((decide ((List.getD v.2.1 (Int.toNat v.2.2.2.1) z_Event).2.2.2.1.2.1 = (0 : Int))) && ((decide ((List.getD v.2.1 (Int.toNat v.2.2.2.1) z_Event).2.2.2.1.2.2.1 = (0 : Int))) && true))))) then
                        bif (!(decide ((List.getD v.2.1 (Int.toNat v.2.2.2.1) z_Event).1 = (2 : Int)))) then
                          bif (decide ((List.getD v.2.1 (Int.toNat v.2.2.2.1) z_Event).1 = (4 : Int))) then
                            bif (decide ((0 : Int) < (((List.length (List.getD v.2.1 (Int.toNat v.2.2.2.1) z_Event).2.2.1) : Nat) : Int))) then
                              some (Sum.inl ((), false, ()))
                            else
                              rec ((), v.2.1, (IntKind.wrap .i64 (v.2.2.1 - (List.getD v.2.1 (Int.toNat v.2.2.2.1) z_Event).2.1)), (IntKind.wrap .i64 (v.2.2.2.1 + (1 : Int))), ())
                          else
                            rec ((), v.2.1, (IntKind.wrap .i64 (v.2.2.1 - (List.getD v.2.1 (Int.toNat v.2.2.2.1) z_Event).2.1)), (IntKind.wrap .i64 (v.2.2.2.1 + (1 : Int))), ())
                        else
                          bif (decide ((0 : Int) < (((List.length (List.getD v.2.1 (Int.toNat v.2.2.2.1) z_Event).2.2.1) : Nat) : Int))) then
                            some (Sum.inl ((), false, ()))
                          else
                            rec ((), v.2.1, (IntKind.wrap .i64 (v.2.2.1 - (List.getD v.2.1 (Int.toNat v.2.2.2.1) z_Event).2.1)), (IntKind.wrap .i64 (v.2.2.2.1 + (1 : Int))), ())
                      else
                        some (Sum.inl ((), false, ()))
                    else
                      bif (!(decide ((List.getD v.2.1 (Int.toNat v.2.2.2.1) z_Event).1 = (2 : Int)))) then
                        bif (decide ((List.getD v.2.1 (Int.toNat v.2.2.2.1) z_Event).1 = (4 : Int))) then
                          bif (decide ((0 : Int) < (((List.length (List.getD v.2.1 (Int.toNat v.2.2.2.1) z_Event).2.2.1) : Nat) : Int))) then
                            some (Sum.inl ((), false, ()))
                          else
                            rec ((), v.2.1, (IntKind.wrap .i64 (v.2.2.1 - (List.getD v.2.1 (Int.toNat v.2.2.2.1) z_Event).2.1)), (IntKind.wrap .i64 (v.2.2.2.1 + (1 : Int))), ())
                        else
                          rec ((), v.2.1, (IntKind.wrap .i64 (v.2.2.1 - (List.getD v.2.1 (Int.toNat v.2.2.2.1) z_Event).2.1)), (IntKind.wrap .i64 (v.2.2.2.1 + (1 : Int))), ())
                      else
                        bif (decide ((0 : Int) < (((List.length (List.getD v.2.1 (Int.toNat v.2.2.2.1) z_Event).2.2.1) : Nat) : Int))) then
                          some (Sum.inl ((), false, ()))
                        else
                          rec ((), v.2.1, (IntKind.wrap .i64 (v.2.2.1 - (List.getD v.2.1 (Int.toNat v.2.2.2.1) z_Event).2.1)), (IntKind.wrap .i64 (v.2.2.2.1 + (1 : Int))), ())
                else
                  some (Sum.inl ((), false, ()))
              else
                bif (decide ((List.getD v.2.1 (Int.toNat v.2.2.2.1) z_Event).1 = (2 : Int))) then
                  bif (!(decide ((List.getD v.2.1 (Int.toNat v.2.2.2.1) z_Event).2.1 < (1 : Int)))) then
                    bif (decide (v.2.2.1 < (List.getD v.2.1 (Int.toNat v.2.2.2.1) z_Event).2.1)) then
                      some (Sum.inl ((), false, ()))
                    else
                      bif (!(decide ((List.getD v.2.1 (Int.toNat v.2.2.2.1) z_Event).1 = (1 : Int)))) then
                        bif (!(!((decide ((List.getD v.2.1 (Int.toNat v.2.2.2.1) z_Event).2.2.2.1.1 = (0 : Int))) && ((decide ((List.getD v.2.1 (Int.toNat v.2.2.2.1) z_Event).2.2.2.1.2.1 = (0 : Int))) && ((decide ((List.getD v.2.1 (Int.toNat v.2.2.2.1) z_Event).2.2.2.1.2.2.1 = (0 : Int))) && true))))) then
                          bif (!(decide ((List.getD v.2.1 (Int.toNat v.2.2.2.1) z_Event).1 = (2 : Int)))) then
                            bif (decide ((List.getD v.2.1 (Int.toNat v.2.2.2.1) z_Event).1 = (4 : Int))) then
                              bif (decide ((0 : Int) < (((List.length (List.getD v.2.1 (Int.toNat v.2.2.2.1) z_Event).2.2.1) : Nat) : Int))) then
                                some (Sum.inl ((), false, ()))
                              else
                                rec ((), v.2.1, (IntKind.wrap .i64 (v.2.2.1 - (List.getD v.2.1 (Int.toNat v.2.2.2.1) z_Event).2.1)), (IntKind.wrap .i64 (v.2.2.2.1 + (1 : Int))), ())
                            else
                              rec ((), v.2.1, (IntKind.wrap .i64 (v.2.2.1 - (List.getD v.2.1 (Int.toNat v.2.2.2.1) z_Event).2.1)), (IntKind.wrap .i64 (v.2.2.2.1 + (1 : Int))), ())
                          else
                            bif (decide ((0 : Int) < (((List.length (List.getD v.2.1 (Int.toNat v.2.2.2.1) z_Event).2.2.1) : Nat) : Int))) then
                              some (Sum.inl ((), false, ()))
                            else
                              rec ((), v.2.1, (IntKind.wrap .i64 (v.2.2.1 - (List.getD v.2.1 (Int.toNat v.2.2.2.1) z_Event).2.1)), (IntKind.wrap .i64 (v.2.2.2.1 + (1 : Int))), ())
                        else
                          some (Sum.inl ((), false, ()))
                      else
                        bif (!(decide ((List.getD v.2.1 (Int.toNat v.2.2.2.1) z_Event).1 = (2 : Int)))) then
                          bif (decide ((List.getD v.2.1 (Int.toNat v.2.2.2.1) z_Event).1 = (4 : Int))) then
                            bif (decide ((0 : Int) < (((List.length (List.getD v.2.1 (Int.toNat v.2.2.2.1) z_Event).2.2.1) : Nat) : Int))) then
                              some (Sum.inl ((), false, ()))
                            else
                              rec ((), v.2.1, (IntKind.wrap .i64 (v.2.2.1 - (List.getD v.2.1 (Int.toNat v.2.2.2.1) z_Event).2.1)), (IntKind.wrap .i64 (v.2.2.2.1 + (1 : Int))), ())
                          else
                            rec ((), v.2.1, (IntKind.wrap .i64 (v.2.2.1 - (List.getD v.2.1 (Int.toNat v.2.2.2.1) z_Event).2.1)), (IntKind.wrap .i64 (v.2.2.2.1 + (1 : Int))), ())
                        else
                          bif (decide ((0 : Int) < (((List.length (List.getD v.2.1 (Int.toNat v.2.2.2.1) z_Event).2.2.1) : Nat) : Int))) then
                            some (Sum.inl ((), false, ()))
                          else
                            rec ((), v.2.1, (IntKind.wrap .i64 (v.2.2.1 - (List.getD v.2.1 (Int.toNat v.2.2.2.1) z_Event).2.1)), (IntKind.wrap .i64 (v.2.2.2.1 + (1 : Int))), ())
                  else
                    some (Sum.inl ((), false, ()))
                else
                  bif (!(decide ((List.getD v.2.1 (Int.toNat v.2.2.2.1) z_Event).1 = (1 : Int)))) then
                    bif (!(!((decide ((List.getD v.2.1 (Int.toNat v.2.2.2.1) z_Event).2.2.2.1.1 = (0 : Int))) && ((decide ((List.getD v.2.1 (Int.toNat v.2.2.2.1) z_Event).2.2.2.1.2.1 = (0 : Int))) && ((decide ((List.getD v.2.1 (Int.toNat v.2.2.2.1) z_Event).2.2.2.1.2.2.1 = (0 : Int))) && true))))) then
                      bif (!(decide ((List.getD v.2.1 (Int.toNat v.2.2.2.1) z_Event).1 = (2 : Int)))) then
                        bif (decide ((List.getD v.2.1 (Int.toNat v.2.2.2.1) z_Event).1 = (4 : Int))) then
                          bif (decide ((0 : Int) < (((List.length (List.getD v.2.1 (Int.toNat v.2.2.2.1) z_Event).2.2.1) : Nat) : Int))) then
                            some (Sum.inl ((), false, ()))
                          else
                            rec ((), v.2.1, (IntKind.wrap .i64 (v.2.2.1 - (List.getD v.2.1 (Int.toNat v.2.2.2.1) z_Event).2.1)), (IntKind.wrap .i64 (v.2.2.2.1 + (1 : Int))), ())
                        else
                          rec ((), v.2.1, (IntKind.wrap .i64 (v.2.2.1 - (List.getD v.2.1 (Int.toNat v.2.2.2.1) z_Event).2.1)), (IntKind.wrap .i64 (v.2.2.2.1 + (1 : Int))), ())
                      else
                        bif (decide ((0 : Int) < (((List.length (List.getD v.2.1 (Int.toNat v.2.2.2.1) z_Event).2.2.1) : Nat) : Int))) then
                          some (Sum.inl ((), false, ()))
                        else
                          rec ((), v.2.1, (IntKind.wrap .i64 (v.2.2.1 - (List.getD v.2.1 (Int.toNat v.2.2.2.1) z_Event).2.1)), (IntKind.wrap .i64 (v.2.2.2.1 + (1 : Int))), ())
                    else
                      some (Sum.inl ((), false, ()))
                  else
                    bif (!(decide ((List.getD v.2.1 (Int.toNat v.2.2.2.1) z_Event).1 = (2 : Int)))) then
                      bif (decide ((List.getD v.2.1 (Int.toNat v.2.2.2.1) z_Event).1 = (4 : Int))) then
                        bif (decide ((0 : Int) < (((List.length (List.getD v.2.1 (Int.toNat v.2.2.2.1) z_Event).2.2.1) : Nat) : Int))) then
                          some (Sum.inl ((), false, ()))
                        else
                          rec ((), v.2.1, (IntKind.wrap .i64 (v.2.2.1 - (List.getD v.2.1 (Int.toNat v.2.2.2.1) z_Event).2.1)), (IntKind.wrap .i64 (v.2.2.2.1 + (1 : Int))), ())
                      else
                        rec ((), v.2.1, (IntKind.wrap .i64 (v.2.2.1 - (List.getD v.2.1 (Int.toNat v.2.2.2.1) z_Event).2.1)), (IntKind.wrap .i64 (v.2.2.2.1 + (1 : Int))), ())
                    else
                      bif (decide ((0 : Int) < (((List.length (List.getD v.2.1 (Int.toNat v.2.2.2.1) z_Event).2.2.1) : Nat) : Int))) then
                        some (Sum.inl ((), false, ()))
                      else
                        rec ((), v.2.1, (IntKind.wrap .i64 (v.2.2.1 - (List.getD v.2.1 (Int.toNat v.2.2.2.1) z_Event).2.1)), (IntKind.wrap .i64 (v.2.2.2.1 + (1 : Int))), ())
          else
            some (Sum.inl ((), false, ()))
        else
          some (Sum.inl ((), false, ()))
      else none
    else none
  else
    some (Sum.inr ((), ()))
def spec_EventsOk (k : Nat) (x0 : (List D_Event)) : Option ((Bool × Unit) × Unit) :=
  bif (decide ((200 : Int) < (((List.length x0) : Nat) : Int))) then
    some ((false, ()), ())
  else
    (iter (spec_EventsOk_s5) k ((), x0, (4000 : Int), (0 : Int), ())).bind fun o1 =>
      Sum.elim (fun a2 =>
        some (a2.2, ()))
      (fun b3 =>
        some ((true, ()), ())) o1
def spec_l24Few (x0 : (List D_Out)) : Option ((Bool × Unit) × Unit) :=
  some (((decide ((((List.length x0) : Nat) : Int) ≤ (2000 : Int))), ()), ())
def spec_l24Frame_s3 (rec : (Unit × ((List D_Event) × D_Vec)) → Option ((Unit × (Int × Unit)) ⊕ (Unit × Unit))) (v : (Unit × ((List D_Event) × D_Vec))) : Option ((Unit × (Int × Unit)) ⊕ (Unit × Unit)) :=
  bif (decide (v.2.2.2.2.1 < (((List.length v.2.1) : Nat) : Int))) then
    bif ((decide ((0 : Int) ≤ v.2.2.2.2.1)) && (decide (v.2.2.2.2.1 < (((List.length v.2.1) : Nat) : Int)))) then
      bif (decide ((Int.toNat v.2.2.2.2.1) < (List.length v.2.1))) then
        bif (decide ((List.getD v.2.1 (Int.toNat v.2.2.2.2.1) z_Event).1 = (1 : Int))) then
          bif (decide ((IntKind.wrap .i64 (v.2.2.2.1 + (1 : Int))) = v.2.2.1)) then
            some (Sum.inl ((), v.2.2.2.2))
          else
            rec ((), v.2.1, v.2.2.1, (IntKind.wrap .i64 (v.2.2.2.1 + (1 : Int))), (IntKind.wrap .i64 (v.2.2.2.2.1 + (1 : Int))), ())
        else
          rec ((), v.2.1, v.2.2.1, v.2.2.2.1, (IntKind.wrap .i64 (v.2.2.2.2.1 + (1 : Int))), ())
      else none
    else none
  else
    some (Sum.inr ((), ()))
def spec_l24Frame (k : Nat) (x0 : (List D_Event)) (x1 : Int) : Option ((Int × Unit) × Unit) :=
  (iter (spec_l24Frame_s3) k ((), x0, x1, (-1 : Int), (0 : Int), ())).bind fun o1 =>
    Sum.elim (fun a2 =>
      some (a2.2, ()))
    (fun b3 =>
      some (((-1 : Int), ()), ())) o1
def spec_Clip (x0 : Int) (x1 : Int) (x2 : Int) : Option ((Int × Unit) × Unit) :=
  bif (decide (x0 < x1)) then
    some ((x1, ()), ())
  else
    bif (decide (x2 < x0)) then
      some ((x2, ()), ())
    else
      some ((x0, ()), ())
def spec_Spent_s14 (rec : (Unit × ((List D_Event) × ((List D_Out) × ((List D_Dealt) × (Int × (Int × (D_Vec × (D_Vec × (D_Vec × (D_Vec × (Int × (D_Dealt × (Bool × (Int × Unit)))))))))))))) → Option ((Unit × ((List D_Event) × ((List D_Out) × ((List D_Dealt) × (Int × (Int × (D_Vec × (D_Vec × (D_Vec × (D_Vec × (Int × (D_Dealt × (Bool × Unit))))))))))))))) (v : (Unit × ((List D_Event) × ((List D_Out) × ((List D_Dealt) × (Int × (Int × (D_Vec × (D_Vec × (D_Vec × (D_Vec × (Int × (D_Dealt × (Bool × (Int × Unit))))))))))))))) : Option ((Unit × ((List D_Event) × ((List D_Out) × ((List D_Dealt) × (Int × (Int × (D_Vec × (D_Vec × (D_Vec × (D_Vec × (Int × (D_Dealt × (Bool × Unit)))))))))))))) :=
  bif (decide (v.2.2.2.2.2.2.2.2.2.2.2.2.2.1 < (((List.length v.2.2.1) : Nat) : Int))) then
    bif ((decide ((0 : Int) ≤ v.2.2.2.2.2.2.2.2.2.2.2.2.2.1)) && (decide (v.2.2.2.2.2.2.2.2.2.2.2.2.2.1 < (((List.length v.2.2.1) : Nat) : Int)))) then
      bif (decide ((Int.toNat v.2.2.2.2.2.2.2.2.2.2.2.2.2.1) < (List.length v.2.2.1))) then
        bif (!v.2.2.2.2.2.2.2.2.2.2.2.2.1) then
          bif (decide ((List.getD v.2.2.1 (Int.toNat v.2.2.2.2.2.2.2.2.2.2.2.2.2.1) z_Out).2.1 = v.2.2.2.2.2.2.2.2.2.2.2.1.1)) then
            bif (!(decide ((List.getD v.2.2.1 (Int.toNat v.2.2.2.2.2.2.2.2.2.2.2.2.2.1) z_Out).1 = (1 : Int)))) then
              bif (decide ((List.getD v.2.2.1 (Int.toNat v.2.2.2.2.2.2.2.2.2.2.2.2.2.1) z_Out).1 = (2 : Int))) then
                bif (!(decide ((List.getD v.2.2.1 (Int.toNat v.2.2.2.2.2.2.2.2.2.2.2.2.2.1) z_Out).2.2.1 = (8 : Int)))) then
                  rec ((), v.2.1, v.2.2.1, v.2.2.2.1, v.2.2.2.2.1, v.2.2.2.2.2.1, v.2.2.2.2.2.2.1, v.2.2.2.2.2.2.2.1, v.2.2.2.2.2.2.2.2.1, v.2.2.2.2.2.2.2.2.2.1, v.2.2.2.2.2.2.2.2.2.2.1, v.2.2.2.2.2.2.2.2.2.2.2.1, (decide ((List.getD v.2.2.1 (Int.toNat v.2.2.2.2.2.2.2.2.2.2.2.2.2.1) z_Out).2.2.1 = (9 : Int))), (IntKind.wrap .i64 (v.2.2.2.2.2.2.2.2.2.2.2.2.2.1 + (1 : Int))), ())
                else
                  rec ((), v.2.1, v.2.2.1, v.2.2.2.1, v.2.2.2.2.1, v.2.2.2.2.2.1, v.2.2.2.2.2.2.1, v.2.2.2.2.2.2.2.1, v.2.2.2.2.2.2.2.2.1, v.2.2.2.2.2.2.2.2.2.1, v.2.2.2.2.2.2.2.2.2.2.1, v.2.2.2.2.2.2.2.2.2.2.2.1, true, (IntKind.wrap .i64 (v.2.2.2.2.2.2.2.2.2.2.2.2.2.1 + (1 : Int))), ())
              else
                rec ((), v.2.1, v.2.2.1, v.2.2.2.1, v.2.2.2.2.1, v.2.2.2.2.2.1, v.2.2.2.2.2.2.1, v.2.2.2.2.2.2.2.1, v.2.2.2.2.2.2.2.2.1, v.2.2.2.2.2.2.2.2.2.1, v.2.2.2.2.2.2.2.2.2.2.1, v.2.2.2.2.2.2.2.2.2.2.2.1, false, (IntKind.wrap .i64 (v.2.2.2.2.2.2.2.2.2.2.2.2.2.1 + (1 : Int))), ())
            else
              rec ((), v.2.1, v.2.2.1, v.2.2.2.1, v.2.2.2.2.1, v.2.2.2.2.2.1, v.2.2.2.2.2.2.1, v.2.2.2.2.2.2.2.1, v.2.2.2.2.2.2.2.2.1, v.2.2.2.2.2.2.2.2.2.1, v.2.2.2.2.2.2.2.2.2.2.1, v.2.2.2.2.2.2.2.2.2.2.2.1, true, (IntKind.wrap .i64 (v.2.2.2.2.2.2.2.2.2.2.2.2.2.1 + (1 : Int))), ())
          else
            rec ((), v.2.1, v.2.2.1, v.2.2.2.1, v.2.2.2.2.1, v.2.2.2.2.2.1, v.2.2.2.2.2.2.1, v.2.2.2.2.2.2.2.1, v.2.2.2.2.2.2.2.2.1, v.2.2.2.2.2.2.2.2.2.1, v.2.2.2.2.2.2.2.2.2.2.1, v.2.2.2.2.2.2.2.2.2.2.2.1, false, (IntKind.wrap .i64 (v.2.2.2.2.2.2.2.2.2.2.2.2.2.1 + (1 : Int))), ())
        else
          rec ((), v.2.1, v.2.2.1, v.2.2.2.1, v.2.2.2.2.1, v.2.2.2.2.2.1, v.2.2.2.2.2.2.1, v.2.2.2.2.2.2.2.1, v.2.2.2.2.2.2.2.2.1, v.2.2.2.2.2.2.2.2.2.1, v.2.2.2.2.2.2.2.2.2.2.1, v.2.2.2.2.2.2.2.2.2.2.2.1, true, (IntKind.wrap .i64 (v.2.2.2.2.2.2.2.2.2.2.2.2.2.1 + (1 : Int))), ())
      else none
    else none
  else
    some ((), v.2.1, v.2.2.1, v.2.2.2.1, v.2.2.2.2.1, v.2.2.2.2.2.1, v.2.2.2.2.2.2.1, v.2.2.2.2.2.2.2.1, v.2.2.2.2.2.2.2.2.1, v.2.2.2.2.2.2.2.2.2.1, v.2.2.2.2.2.2.2.2.2.2.1, v.2.2.2.2.2.2.2.2.2.2.2.1, v.2.2.2.2.2.2.2.2.2.2.2.2.1, ())
def spec_Spent_s6 (k : Nat) (rec : (Unit × ((List D_Event) × ((List D_Out) × ((List D_Dealt) × (Int × (Int × (D_Vec × (D_Vec × (D_Vec × (D_Vec × (Int × Unit))))))))))) → Option ((Unit × (D_Vec × (D_Vec × (D_Vec × (D_Vec × Unit))))))) (v : (Unit × ((List D_Event) × ((List D_Out) × ((List D_Dealt) × (Int × (Int × (D_Vec × (D_Vec × (D_Vec × (D_Vec × (Int × Unit)))))))))))) : Option ((Unit × (D_Vec × (D_Vec × (D_Vec × (D_Vec × Unit)))))) :=
  bif (decide (v.2.2.2.2.2.2.2.2.2.2.1 < (((List.length v.2.2.2.1) : Nat) : Int))) then
    bif ((decide ((0 : Int) ≤ v.2.2.2.2.2.2.2.2.2.2.1)) && (decide (v.2.2.2.2.2.2.2.2.2.2.1 < (((List.length v.2.2.2.1) : Nat) : Int)))) then
      bif (decide ((Int.toNat v.2.2.2.2.2.2.2.2.2.2.1) < (List.length v.2.2.2.1))) then
        bif (!(!(decide ((List.getD v.2.2.2.1 (Int.toNat v.2.2.2.2.2.2.2.2.2.2.1) z_Dealt).2.2.1.1.1 = v.2.2.2.2.1)))) then
          bif (!(decide ((List.getD v.2.2.2.1 (Int.toNat v.2.2.2.2.2.2.2.2.2.2.1) z_Dealt).2.2.1.2.1.1 = v.2.2.2.2.2.1))) then
            rec ((), v.2.1, v.2.2.1, v.2.2.2.1, v.2.2.2.2.1, v.2.2.2.2.2.1, v.2.2.2.2.2.2.1, v.2.2.2.2.2.2.2.1, v.2.2.2.2.2.2.2.2.1, v.2.2.2.2.2.2.2.2.2.1, (IntKind.wrap .i64 (v.2.2.2.2.2.2.2.2.2.2.1 + (1 : Int))), ())
          else
            (iter (spec_Spent_s14) k ((), v.2.1, v.2.2.1, v.2.2.2.1, v.2.2.2.2.1, v.2.2.2.2.2.1, v.2.2.2.2.2.2.1, v.2.2.2.2.2.2.2.1, ((IntKind.wrap .i64 (v.2.2.2.2.2.2.2.2.1.1 + (List.getD v.2.2.2.1 (Int.toNat v.2.2.2.2.2.2.2.2.2.2.1) z_Dealt).2.2.1.2.1.2.2.1.1)), (IntKind.wrap .i64 (v.2.2.2.2.2.2.2.2.1.2.1 + (List.getD v.2.2.2.1 (Int.toNat v.2.2.2.2.2.2.2.2.2.2.1) z_Dealt).2.2.1.2.1.2.2.1.2.1)), (IntKind.wrap .i64 (v.2.2.2.2.2.2.2.2.1.2.2.1 + (List.getD v.2.2.2.1 (Int.toNat v.2.2.2.2.2.2.2.2.2.2.1) z_Dealt).2.2.1.2.1.2.2.1.2.2.1)), ()), v.2.2.2.2.2.2.2.2.2.1, v.2.2.2.2.2.2.2.2.2.2.1, (List.getD v.2.2.2.1 (Int.toNat v.2.2.2.2.2.2.2.2.2.2.1) z_Dealt), false, (0 : Int), ())).bind fun o3 =>
              (spec_l24Frame k o3.2.1 o3.2.2.2.2.2.2.2.2.2.2.2.1.1).bind fun t4 =>
                bif o3.2.2.2.2.2.2.2.2.2.2.2.2.1 then
                  bif (decide ((0 : Int) ≤ t4.1.1)) then
                    bif ((decide ((0 : Int) ≤ t4.1.1)) && (decide (t4.1.1 < (((List.length o3.2.1) : Nat) : Int)))) then
                      bif (decide ((Int.toNat t4.1.1) < (List.length o3.2.1))) then
                        (spec_Clip (List.getD o3.2.1 (Int.toNat t4.1.1) z_Event).2.2.2.1.1 (1 : Int) (1000 : Int)).bind fun t5 =>
                          (spec_Clip (List.getD o3.2.1 (Int.toNat t4.1.1) z_Event).2.2.2.1.2.1 (1 : Int) (1000 : Int)).bind fun t6 =>
                            (spec_Clip (List.getD o3.2.1 (Int.toNat t4.1.1) z_Event).2.2.2.1.2.2.1 (1 : Int) (1000 : Int)).bind fun t7 =>
                              rec ((), o3.2.1, o3.2.2.1, o3.2.2.2.1, o3.2.2.2.2.1, o3.2.2.2.2.2.1, o3.2.2.2.2.2.2.1, o3.2.2.2.2.2.2.2.1, o3.2.2.2.2.2.2.2.2.1, ((IntKind.wrap .i64 (o3.2.2.2.2.2.2.2.2.2.1.1 + t5.1.1)), (IntKind.wrap .i64 (o3.2.2.2.2.2.2.2.2.2.1.2.1 + t6.1.1)), (IntKind.wrap .i64 (o3.2.2.2.2.2.2.2.2.2.1.2.2.1 + t7.1.1)), ()), (IntKind.wrap .i64 (o3.2.2.2.2.2.2.2.2.2.2.1 + (1 : Int))), ())
                      else none
                    else none
                  else
                    rec ((), o3.2.1, o3.2.2.1, o3.2.2.2.1, o3.2.2.2.2.1, o3.2.2.2.2.2.1, o3.2.2.2.2.2.2.1, o3.2.2.2.2.2.2.2.1, o3.2.2.2.2.2.2.2.2.1, o3.2.2.2.2.2.2.2.2.2.1, (IntKind.wrap .i64 (o3.2.2.2.2.2.2.2.2.2.2.1 + (1 : Int))), ())
                else
                  rec ((), o3.2.1, o3.2.2.1, o3.2.2.2.1, o3.2.2.2.2.1, o3.2.2.2.2.2.1, o3.2.2.2.2.2.2.1, o3.2.2.2.2.2.2.2.1, o3.2.2.2.2.2.2.2.2.1, o3.2.2.2.2.2.2.2.2.2.1, (IntKind.wrap .i64 (o3.2.2.2.2.2.2.2.2.2.2.1 + (1 : Int))), ())
        else
          rec ((), v.2.1, v.2.2.1, v.2.2.2.1, v.2.2.2.2.1, v.2.2.2.2.2.1, v.2.2.2.2.2.2.1, v.2.2.2.2.2.2.2.1, v.2.2.2.2.2.2.2.2.1, v.2.2.2.2.2.2.2.2.2.1, (IntKind.wrap .i64 (v.2.2.2.2.2.2.2.2.2.2.1 + (1 : Int))), ())
      else none
    else none
  else
    some ((), v.2.2.2.2.2.2.1, v.2.2.2.2.2.2.2.1, v.2.2.2.2.2.2.2.2.1, v.2.2.2.2.2.2.2.2.2.1, ())
def spec_Spent (k : Nat) (x0 : (List D_Event)) (x1 : (List D_Out)) (x2 : (List D_Dealt)) (x3 : Int) (x4 : Int) : Option ((D_Vec × (D_Vec × Unit)) × Unit) :=
  (spec_EventsOk k x0).bind fun t1 =>
    bif (!(!t1.1.1)) then
      (spec_l24Few x1).bind fun t2 =>
        bif (!(!t2.1.1)) then
          bif (decide ((2000 : Int) < (((List.length x2) : Nat) : Int))) then
            some ((((0 : Int), (0 : Int), (0 : Int), ()), ((0 : Int), (0 : Int), (0 : Int), ()), ()), ())
          else
            (iter (spec_Spent_s6 k) k ((), x0, x1, x2, x3, x4, ((0 : Int), (0 : Int), (0 : Int), ()), ((0 : Int), (0 : Int), (0 : Int), ()), ((0 : Int), (0 : Int), (0 : Int), ()), ((0 : Int), (0 : Int), (0 : Int), ()), (0 : Int), ())).bind fun o3 =>
              some (o3.2.2.2, ())
        else
          some ((((0 : Int), (0 : Int), (0 : Int), ()), ((0 : Int), (0 : Int), (0 : Int), ()), ()), ())
    else
      some ((((0 : Int), (0 : Int), (0 : Int), ()), ((0 : Int), (0 : Int), (0 : Int), ()), ()), ())
def impl_within (x0 : Int) (x1 : Int) (x2 : Int) : Option ((Bool × Unit) × Unit) :=
  bif (decide (x1 ≤ x0)) then
    some (((decide (x0 ≤ x2)), ()), ())
  else
    some ((false, ()), ())
def impl_eventOk (x0 : D_Event) : Option ((Bool × Unit) × Unit) :=
  bif (decide (x0.1 = (1 : Int))) then
    bif (decide (x0.2.1 = (0 : Int))) then
      some (((decide ((((List.length x0.2.2.1) : Nat) : Int) ≤ (2000 : Int))), ()), ())
    else
      some ((false, ()), ())
  else
    bif (decide (x0.1 = (3 : Int))) then
      bif (decide (x0.2.1 = (0 : Int))) then
        bif (decide ((((List.length x0.2.2.1) : Nat) : Int) ≤ (2000 : Int))) then
          some ((((decide (x0.2.2.2.1.1 = (0 : Int))) && ((decide (x0.2.2.2.1.2.1 = (0 : Int))) && ((decide (x0.2.2.2.1.2.2.1 = (0 : Int))) && true))), ()), ())
        else
          some ((false, ()), ())
      else
        some ((false, ()), ())
    else
      bif (decide (x0.1 = (2 : Int))) then
        (impl_within x0.2.1 (1 : Int) (4000 : Int)).bind fun t1 =>
          bif t1.1.1 then
            bif (decide ((((List.length x0.2.2.1) : Nat) : Int) = (0 : Int))) then
              some ((((decide (x0.2.2.2.1.1 = (0 : Int))) && ((decide (x0.2.2.2.1.2.1 = (0 : Int))) && ((decide (x0.2.2.2.1.2.2.1 = (0 : Int))) && true))), ()), ())
            else
              some ((false, ()), ())
          else
            some ((false, ()), ())
      else
        bif (decide (x0.1 = (4 : Int))) then
          bif (decide (x0.2.1 = (0 : Int))) then
            bif (decide ((((List.length x0.2.2.1) : Nat) : Int) = (0 : Int))) then
              some ((((decide (x0.2.2.2.1.1 = (0 : Int))) && ((decide (x0.2.2.2.1.2.1 = (0 : Int))) && ((decide (x0.2.2.2.1.2.2.1 = (0 : Int))) && true))), ()), ())
            else
              some ((false, ()), ())
          else
            some ((false, ()), ())
        else
          some ((false, ()), ())
def impl_EventsOk_s3 (rec : (Unit × ((List D_Event) × (Int × ((List D_Event) × (Int × (Int × Unit)))))) → Option ((Unit × (Bool × Unit)) ⊕ (Unit × ((List D_Event) × (Int × Unit))))) (v : (Unit × ((List D_Event) × (Int × ((List D_Event) × (Int × (Int × Unit))))))) : Option ((Unit × (Bool × Unit)) ⊕ (Unit × ((List D_Event) × (Int × Unit)))) :=
  bif (decide (v.2.2.2.2.2.1 < v.2.2.2.2.1)) then
    bif ((decide ((0 : Int) ≤ v.2.2.2.2.2.1)) && (decide (v.2.2.2.2.2.1 < (((List.length v.2.2.2.1) : Nat) : Int)))) then
      bif (decide ((Int.toNat v.2.2.2.2.2.1) < (List.length v.2.2.2.1))) then
        (impl_eventOk (List.getD v.2.2.2.1 (Int.toNat v.2.2.2.2.2.1) z_Event)).bind fun t1 =>
          bif (!t1.1.1) then
            some (Sum.inl ((), false, ()))
          else
            rec ((), v.2.1, (IntKind.wrap .i64 (v.2.2.1 + (List.getD v.2.2.2.1 (Int.toNat v.2.2.2.2.2.1) z_Event).2.1)), v.2.2.2.1, v.2.2.2.2.1, (IntKind.wrap .i64 (v.2.2.2.2.2.1 + (1 : Int))), ())
      else none
    else none
  else
    some (Sum.inr ((), v.2.1, v.2.2.1, ()))
def impl_EventsOk (k : Nat) (x0 : (List D_Event)) : Option ((Bool × Unit) × Unit) :=
  (iter (impl_EventsOk_s3) k ((), x0, (0 : Int), x0, (((List.length x0) : Nat) : Int), (0 : Int), ())).bind fun o1 =>
    Sum.elim (fun a2 =>
      some (a2.2, ()))
    (fun b3 =>
      bif (decide ((((List.length b3.2.1) : Nat) : Int) ≤ (200 : Int))) then
        some (((decide (b3.2.2.1 ≤ (4000 : Int))), ()), ())
      else
        some ((false, ()), ())) o1
def impl_Vec_plus_1 (x0 : Int) (x1 : Int) : Option ((Int × Unit) × Unit) :=
  some (((IntKind.wrap .i64 (x0 + x1)), ()), ())
def impl_both (x0 : D_Vec) (x1 : D_Vec) (x2 : Unit) : Option ((D_Vec × Unit) × Unit) :=
  (impl_Vec_plus_1 x0.1 x1.1).bind fun t1 =>
    (impl_Vec_plus_1 x0.2.1 x1.2.1).bind fun t2 =>
      (impl_Vec_plus_1 x0.2.2.1 x1.2.2.1).bind fun t3 =>
        some (((t1.1.1, t2.1.1, t3.1), ()), ())
def impl_Vec_plus (x0 : D_Vec) (x1 : D_Vec) : Option ((D_Vec × Unit) × Unit) :=
  (impl_both x0 x1 ()).bind fun t1 =>
    some (t1.1, ())
def impl_frameAt_s2 (rec : (Unit × (Int × ((List D_Event) × (Int × (Int × Unit))))) → Option ((Unit × (Int × Unit)) ⊕ (Unit × Unit))) (v : (Unit × (Int × ((List D_Event) × (Int × (Int × Unit)))))) : Option ((Unit × (Int × Unit)) ⊕ (Unit × Unit)) :=
  bif (decide (v.2.2.2.2.1 < v.2.2.2.1)) then
    bif ((decide ((0 : Int) ≤ v.2.2.2.2.1)) && (decide (v.2.2.2.2.1 < (((List.length v.2.2.1) : Nat) : Int)))) then
      bif (decide ((Int.toNat v.2.2.2.2.1) < (List.length v.2.2.1))) then
        bif (!(decide ((List.getD v.2.2.1 (Int.toNat v.2.2.2.2.1) z_Event).1 = (1 : Int)))) then
          rec ((), v.2.1, v.2.2.1, v.2.2.2.1, (IntKind.wrap .i64 (v.2.2.2.2.1 + (1 : Int))), ())
        else
          bif (decide (v.2.1 = (0 : Int))) then
            some (Sum.inl ((), v.2.2.2.2))
          else
            rec ((), (IntKind.wrap .i64 (v.2.1 - (1 : Int))), v.2.2.1, v.2.2.2.1, (IntKind.wrap .i64 (v.2.2.2.2.1 + (1 : Int))), ())
      else none
    else none
  else
    some (Sum.inr ((), ()))
def impl_frameAt (k : Nat) (x0 : (List D_Event)) (x1 : Int) : Option ((Int × Unit) × Unit) :=
  (iter (impl_frameAt_s2) k ((), x1, x0, (((List.length x0) : Nat) : Int), (0 : Int), ())).bind fun o1 =>
    Sum.elim (fun a2 =>
      some (a2.2, ()))
    (fun b3 =>
      some (((-1 : Int), ()), ())) o1
def impl_isServed (x0 : D_Out) : Option ((Bool × Unit) × Unit) :=
  bif (!(decide (x0.1 = (1 : Int)))) then
    bif (decide (x0.1 = (2 : Int))) then
      bif (!(decide (x0.2.2.1 = (8 : Int)))) then
        some (((decide (x0.2.2.1 = (9 : Int))), ()), ())
      else
        some ((true, ()), ())
    else
      some ((false, ()), ())
  else
    some ((true, ()), ())
def impl_Clip (x0 : Int) (x1 : Int) (x2 : Int) : Option ((Int × Unit) × Unit) :=
  bif (decide (x0 < x1)) then
    some ((x1, ()), ())
  else
    bif (decide (x2 < x0)) then
      some ((x2, ()), ())
    else
      some ((x0, ()), ())
def impl_Spent_2 (x0 : Int) : Option ((Int × Unit) × Unit) :=
  (impl_Clip x0 (1 : Int) (1000 : Int)).bind fun t1 =>
    some (t1.1, ())
def impl_Spent_1 (x0 : D_Out) (x1 : D_Dealt) : Option ((Bool × Unit) × Unit) :=
  bif (decide (x0.2.1 = x1.1)) then
    (impl_isServed x0).bind fun t1 =>
      some (t1.1, ())
  else
    some ((false, ()), ())
def slices_IndexFunc_impl_Out_impl_Out_s2 (rec : (Unit × ((List D_Out) × ((D_Dealt × Unit) × (Int × (Int × Unit))))) → Option ((Unit × (Int × Unit)) ⊕ (Unit × Unit))) (v : (Unit × ((List D_Out) × ((D_Dealt × Unit) × (Int × (Int × Unit)))))) : Option ((Unit × (Int × Unit)) ⊕ (Unit × Unit)) :=
  bif (decide (v.2.2.2.2.1 < v.2.2.2.1)) then
    bif ((decide ((0 : Int) ≤ v.2.2.2.2.1)) && (decide (v.2.2.2.2.1 < (((List.length v.2.1) : Nat) : Int)))) then
      bif (decide ((Int.toNat v.2.2.2.2.1) < (List.length v.2.1))) then
        (impl_Spent_1 (List.getD v.2.1 (Int.toNat v.2.2.2.2.1) z_Out) v.2.2.1.1).bind fun t1 =>
          bif t1.1.1 then
            some (Sum.inl ((), v.2.2.2.2))
          else
            rec ((), v.2.1, (v.2.2.1.1, ()), v.2.2.2.1, (IntKind.wrap .i64 (v.2.2.2.2.1 + (1 : Int))), ())
      else none
    else none
  else
    some (Sum.inr ((), ()))
def slices_IndexFunc_impl_Out_impl_Out (k : Nat) (x0 : (List D_Out)) (x1 : (D_Dealt × Unit)) : Option ((Int × Unit) × Unit) :=
  (iter (slices_IndexFunc_impl_Out_impl_Out_s2) k ((), x0, (x1.1, ()), (((List.length x0) : Nat) : Int), (0 : Int), ())).bind fun o1 =>
    Sum.elim (fun a2 =>
      some (a2.2, ()))
    (fun b3 =>
      some (((-1 : Int), ()), ())) o1
def slices_ContainsFunc_impl_Out_impl_Out (k : Nat) (x0 : (List D_Out)) (x1 : (D_Dealt × Unit)) : Option ((Bool × Unit) × Unit) :=
  (slices_IndexFunc_impl_Out_impl_Out k x0 (x1.1, ())).bind fun t1 =>
    some (((decide ((0 : Int) ≤ t1.1.1)), ()), ())
def impl_Vec_each (x0 : D_Vec) (x1 : Unit) : Option ((D_Vec × Unit) × Unit) :=
  (impl_Spent_2 x0.1).bind fun t1 =>
    (impl_Spent_2 x0.2.1).bind fun t2 =>
      (impl_Spent_2 x0.2.2.1).bind fun t3 =>
        some (((t1.1.1, t2.1.1, t3.1), ()), ())
def impl_Spent_s5 (k : Nat) (rec : (Unit × ((List D_Event) × ((List D_Out) × (Int × (Int × (D_Vec × (D_Vec × (D_Vec × (D_Vec × ((List D_Dealt) × (Int × (Int × Unit)))))))))))) → Option ((Unit × (D_Vec × (D_Vec × (D_Vec × (D_Vec × Unit))))))) (v : (Unit × ((List D_Event) × ((List D_Out) × (Int × (Int × (D_Vec × (D_Vec × (D_Vec × (D_Vec × ((List D_Dealt) × (Int × (Int × Unit))))))))))))) : Option ((Unit × (D_Vec × (D_Vec × (D_Vec × (D_Vec × Unit)))))) :=
  bif (decide (v.2.2.2.2.2.2.2.2.2.2.2.1 < v.2.2.2.2.2.2.2.2.2.2.1)) then
    bif ((decide ((0 : Int) ≤ v.2.2.2.2.2.2.2.2.2.2.2.1)) && (decide (v.2.2.2.2.2.2.2.2.2.2.2.1 < (((List.length v.2.2.2.2.2.2.2.2.2.1) : Nat) : Int)))) then
      bif (decide ((Int.toNat v.2.2.2.2.2.2.2.2.2.2.2.1) < (List.length v.2.2.2.2.2.2.2.2.2.1))) then
        bif (!(!(decide ((List.getD v.2.2.2.2.2.2.2.2.2.1 (Int.toNat v.2.2.2.2.2.2.2.2.2.2.2.1) z_Dealt).2.2.1.1.1 = v.2.2.2.1)))) then
          bif (!(decide ((List.getD v.2.2.2.2.2.2.2.2.2.1 (Int.toNat v.2.2.2.2.2.2.2.2.2.2.2.1) z_Dealt).2.2.1.2.1.1 = v.2.2.2.2.1))) then
            rec ((), v.2.1, v.2.2.1, v.2.2.2.1, v.2.2.2.2.1, v.2.2.2.2.2.1, v.2.2.2.2.2.2.1, v.2.2.2.2.2.2.2.1, v.2.2.2.2.2.2.2.2.1, v.2.2.2.2.2.2.2.2.2.1, v.2.2.2.2.2.2.2.2.2.2.1, (IntKind.wrap .i64 (v.2.2.2.2.2.2.2.2.2.2.2.1 + (1 : Int))), ())
          else
            (impl_Vec_plus v.2.2.2.2.2.2.2.1 (List.getD v.2.2.2.2.2.2.2.2.2.1 (Int.toNat v.2.2.2.2.2.2.2.2.2.2.2.1) z_Dealt).2.2.1.2.1.2.2.1).bind fun t2 =>
              (impl_frameAt k v.2.1 (List.getD v.2.2.2.2.2.2.2.2.2.1 (Int.toNat v.2.2.2.2.2.2.2.2.2.2.2.1) z_Dealt).1).bind fun t3 =>
                bif (decide ((0 : Int) ≤ t3.1.1)) then
                  (slices_ContainsFunc_impl_Out_impl_Out k v.2.2.1 ((List.getD v.2.2.2.2.2.2.2.2.2.1 (Int.toNat v.2.2.2.2.2.2.2.2.2.2.2.1) z_Dealt), ())).bind fun t4 =>
                    bif t4.1.1 then
                      bif ((decide ((0 : Int) ≤ t3.1.1)) && (decide (t3.1.1 < (((List.length v.2.1) : Nat) : Int)))) then
                        bif (decide ((Int.toNat t3.1.1) < (List.length v.2.1))) then
                          (impl_Vec_each (List.getD v.2.1 (Int.toNat t3.1.1) z_Event).2.2.2.1 ()).bind fun t5 =>
                            (impl_Vec_plus v.2.2.2.2.2.2.2.2.1 t5.1.1).bind fun t6 =>
                              rec ((), v.2.1, v.2.2.1, v.2.2.2.1, v.2.2.2.2.1, v.2.2.2.2.2.1, v.2.2.2.2.2.2.1, t2.1.1, t6.1.1, v.2.2.2.2.2.2.2.2.2.1, v.2.2.2.2.2.2.2.2.2.2.1, (IntKind.wrap .i64 (v.2.2.2.2.2.2.2.2.2.2.2.1 + (1 : Int))), ())
                        else none
                      else none
                    else
                      rec ((), v.2.1, v.2.2.1, v.2.2.2.1, v.2.2.2.2.1, v.2.2.2.2.2.1, v.2.2.2.2.2.2.1, t2.1.1, v.2.2.2.2.2.2.2.2.1, v.2.2.2.2.2.2.2.2.2.1, v.2.2.2.2.2.2.2.2.2.2.1, (IntKind.wrap .i64 (v.2.2.2.2.2.2.2.2.2.2.2.1 + (1 : Int))), ())
                else
                  rec ((), v.2.1, v.2.2.1, v.2.2.2.1, v.2.2.2.2.1, v.2.2.2.2.2.1, v.2.2.2.2.2.2.1, t2.1.1, v.2.2.2.2.2.2.2.2.1, v.2.2.2.2.2.2.2.2.2.1, v.2.2.2.2.2.2.2.2.2.2.1, (IntKind.wrap .i64 (v.2.2.2.2.2.2.2.2.2.2.2.1 + (1 : Int))), ())
        else
          rec ((), v.2.1, v.2.2.1, v.2.2.2.1, v.2.2.2.2.1, v.2.2.2.2.2.1, v.2.2.2.2.2.2.1, v.2.2.2.2.2.2.2.1, v.2.2.2.2.2.2.2.2.1, v.2.2.2.2.2.2.2.2.2.1, v.2.2.2.2.2.2.2.2.2.2.1, (IntKind.wrap .i64 (v.2.2.2.2.2.2.2.2.2.2.2.1 + (1 : Int))), ())
      else none
    else none
  else
    some ((), v.2.2.2.2.2.1, v.2.2.2.2.2.2.1, v.2.2.2.2.2.2.2.1, v.2.2.2.2.2.2.2.2.1, ())
def impl_Spent (k : Nat) (x0 : (List D_Event)) (x1 : (List D_Out)) (x2 : (List D_Dealt)) (x3 : Int) (x4 : Int) : Option ((D_Vec × (D_Vec × Unit)) × Unit) :=
  (impl_EventsOk k x0).bind fun t1 =>
    bif (!(!t1.1.1)) then
      bif (!(decide ((2000 : Int) < (((List.length x1) : Nat) : Int)))) then
        bif (decide ((2000 : Int) < (((List.length x2) : Nat) : Int))) then
          some ((((0 : Int), (0 : Int), (0 : Int), ()), ((0 : Int), (0 : Int), (0 : Int), ()), ()), ())
        else
          (iter (impl_Spent_s5 k) k ((), x0, x1, x3, x4, ((0 : Int), (0 : Int), (0 : Int), ()), ((0 : Int), (0 : Int), (0 : Int), ()), ((0 : Int), (0 : Int), (0 : Int), ()), ((0 : Int), (0 : Int), (0 : Int), ()), x2, (((List.length x2) : Nat) : Int), (0 : Int), ())).bind fun o2 =>
            some (o2.2.2.2, ())
      else
        some ((((0 : Int), (0 : Int), (0 : Int), ()), ((0 : Int), (0 : Int), (0 : Int), ()), ()), ())
    else
      some ((((0 : Int), (0 : Int), (0 : Int), ()), ((0 : Int), (0 : Int), (0 : Int), ()), ()), ())
def laws_eqVec (x0 : D_Vec) (x1 : D_Vec) : Option ((Bool × Unit) × Unit) :=
  bif (!(decide (x0.1 = x1.1))) then
    some ((false, ()), ())
  else
    bif (!(decide (x0.2.1 = x1.2.1))) then
      some ((false, ()), ())
    else
      bif (!(decide (x0.2.2.1 = x1.2.2.1))) then
        some ((false, ()), ())
      else
        some ((true, ()), ())
def laws_eqByteS_s4 (rec : (Unit × ((List Int) × ((List Int) × (Int × Unit)))) → Option ((Unit × (Bool × Unit)) ⊕ (Unit × Unit))) (v : (Unit × ((List Int) × ((List Int) × (Int × Unit))))) : Option ((Unit × (Bool × Unit)) ⊕ (Unit × Unit)) :=
  bif (decide (v.2.2.2.1 < (((List.length v.2.1) : Nat) : Int))) then
    bif ((decide ((0 : Int) ≤ v.2.2.2.1)) && (decide (v.2.2.2.1 < (((List.length v.2.1) : Nat) : Int)))) then
      bif (decide ((Int.toNat v.2.2.2.1) < (List.length v.2.1))) then
        bif ((decide ((0 : Int) ≤ v.2.2.2.1)) && (decide (v.2.2.2.1 < (((List.length v.2.2.1) : Nat) : Int)))) then
          bif (decide ((Int.toNat v.2.2.2.1) < (List.length v.2.2.1))) then
            bif (!(decide ((List.getD v.2.1 (Int.toNat v.2.2.2.1) (0 : Int)) = (List.getD v.2.2.1 (Int.toNat v.2.2.2.1) (0 : Int))))) then
              some (Sum.inl ((), false, ()))
            else
              rec ((), v.2.1, v.2.2.1, (IntKind.wrap .i64 (v.2.2.2.1 + (1 : Int))), ())
          else none
        else none
      else none
    else none
  else
    some (Sum.inr ((), ()))
def laws_eqByteS (k : Nat) (x0 : (List Int)) (x1 : (List Int)) : Option ((Bool × Unit) × Unit) :=
  bif (!(decide ((((List.length x0) : Nat) : Int) = (((List.length x1) : Nat) : Int)))) then
    some ((false, ()), ())
  else
    (iter (laws_eqByteS_s4) k ((), x0, x1, (0 : Int), ())).bind fun o1 =>
      Sum.elim (fun a2 =>
        some (a2.2, ()))
      (fun b3 =>
        some ((true, ()), ())) o1
def laws_eqEvent (k : Nat) (x0 : D_Event) (x1 : D_Event) : Option ((Bool × Unit) × Unit) :=
  bif (!(decide (x0.1 = x1.1))) then
    some ((false, ()), ())
  else
    bif (!(decide (x0.2.1 = x1.2.1))) then
      some ((false, ()), ())
    else
      (laws_eqByteS k x0.2.2.1 x1.2.2.1).bind fun t1 =>
        bif (!t1.1.1) then
          some ((false, ()), ())
        else
          (laws_eqVec x0.2.2.2.1 x1.2.2.2.1).bind fun t2 =>
            bif (!t2.1.1) then
              some ((false, ()), ())
            else
              some ((true, ()), ())
def laws_eqEventS_s4 (k : Nat) (rec : (Unit × ((List D_Event) × ((List D_Event) × (Int × Unit)))) → Option ((Unit × (Bool × Unit)) ⊕ (Unit × Unit))) (v : (Unit × ((List D_Event) × ((List D_Event) × (Int × Unit))))) : Option ((Unit × (Bool × Unit)) ⊕ (Unit × Unit)) :=
  bif (decide (v.2.2.2.1 < (((List.length v.2.1) : Nat) : Int))) then
    bif ((decide ((0 : Int) ≤ v.2.2.2.1)) && (decide (v.2.2.2.1 < (((List.length v.2.1) : Nat) : Int)))) then
      bif (decide ((Int.toNat v.2.2.2.1) < (List.length v.2.1))) then
        bif ((decide ((0 : Int) ≤ v.2.2.2.1)) && (decide (v.2.2.2.1 < (((List.length v.2.2.1) : Nat) : Int)))) then
          bif (decide ((Int.toNat v.2.2.2.1) < (List.length v.2.2.1))) then
            (laws_eqEvent k (List.getD v.2.1 (Int.toNat v.2.2.2.1) z_Event) (List.getD v.2.2.1 (Int.toNat v.2.2.2.1) z_Event)).bind fun t1 =>
              bif (!t1.1.1) then
                some (Sum.inl ((), false, ()))
              else
                rec ((), v.2.1, v.2.2.1, (IntKind.wrap .i64 (v.2.2.2.1 + (1 : Int))), ())
          else none
        else none
      else none
    else none
  else
    some (Sum.inr ((), ()))
def laws_eqEventS (k : Nat) (x0 : (List D_Event)) (x1 : (List D_Event)) : Option ((Bool × Unit) × Unit) :=
  bif (!(decide ((((List.length x0) : Nat) : Int) = (((List.length x1) : Nat) : Int)))) then
    some ((false, ()), ())
  else
    (iter (laws_eqEventS_s4 k) k ((), x0, x1, (0 : Int), ())).bind fun o1 =>
      Sum.elim (fun a2 =>
        some (a2.2, ()))
      (fun b3 =>
        some ((true, ()), ())) o1
def laws_eqIntS_s4 (rec : (Unit × ((List Int) × ((List Int) × (Int × Unit)))) → Option ((Unit × (Bool × Unit)) ⊕ (Unit × Unit))) (v : (Unit × ((List Int) × ((List Int) × (Int × Unit))))) : Option ((Unit × (Bool × Unit)) ⊕ (Unit × Unit)) :=
  bif (decide (v.2.2.2.1 < (((List.length v.2.1) : Nat) : Int))) then
    bif ((decide ((0 : Int) ≤ v.2.2.2.1)) && (decide (v.2.2.2.1 < (((List.length v.2.1) : Nat) : Int)))) then
      bif (decide ((Int.toNat v.2.2.2.1) < (List.length v.2.1))) then
        bif ((decide ((0 : Int) ≤ v.2.2.2.1)) && (decide (v.2.2.2.1 < (((List.length v.2.2.1) : Nat) : Int)))) then
          bif (decide ((Int.toNat v.2.2.2.1) < (List.length v.2.2.1))) then
            bif (!(decide ((List.getD v.2.1 (Int.toNat v.2.2.2.1) (0 : Int)) = (List.getD v.2.2.1 (Int.toNat v.2.2.2.1) (0 : Int))))) then
              some (Sum.inl ((), false, ()))
            else
              rec ((), v.2.1, v.2.2.1, (IntKind.wrap .i64 (v.2.2.2.1 + (1 : Int))), ())
          else none
        else none
      else none
    else none
  else
    some (Sum.inr ((), ()))
def laws_eqIntS (k : Nat) (x0 : (List Int)) (x1 : (List Int)) : Option ((Bool × Unit) × Unit) :=
  bif (!(decide ((((List.length x0) : Nat) : Int) = (((List.length x1) : Nat) : Int)))) then
    some ((false, ()), ())
  else
    (iter (laws_eqIntS_s4) k ((), x0, x1, (0 : Int), ())).bind fun o1 =>
      Sum.elim (fun a2 =>
        some (a2.2, ()))
      (fun b3 =>
        some ((true, ()), ())) o1
def laws_eqOut (k : Nat) (x0 : D_Out) (x1 : D_Out) : Option ((Bool × Unit) × Unit) :=
  bif (!(decide (x0.1 = x1.1))) then
    some ((false, ()), ())
  else
    bif (!(decide (x0.2.1 = x1.2.1))) then
      some ((false, ()), ())
    else
      bif (!(decide (x0.2.2.1 = x1.2.2.1))) then
        some ((false, ()), ())
      else
        (laws_eqByteS k x0.2.2.2.1 x1.2.2.2.1).bind fun t1 =>
          bif (!t1.1.1) then
            some ((false, ()), ())
          else
            (laws_eqIntS k x0.2.2.2.2.1 x1.2.2.2.2.1).bind fun t2 =>
              bif (!t2.1.1) then
                some ((false, ()), ())
              else
                some ((true, ()), ())
def laws_eqOutS_s4 (k : Nat) (rec : (Unit × ((List D_Out) × ((List D_Out) × (Int × Unit)))) → Option ((Unit × (Bool × Unit)) ⊕ (Unit × Unit))) (v : (Unit × ((List D_Out) × ((List D_Out) × (Int × Unit))))) : Option ((Unit × (Bool × Unit)) ⊕ (Unit × Unit)) :=
  bif (decide (v.2.2.2.1 < (((List.length v.2.1) : Nat) : Int))) then
    bif ((decide ((0 : Int) ≤ v.2.2.2.1)) && (decide (v.2.2.2.1 < (((List.length v.2.1) : Nat) : Int)))) then
      bif (decide ((Int.toNat v.2.2.2.1) < (List.length v.2.1))) then
        bif ((decide ((0 : Int) ≤ v.2.2.2.1)) && (decide (v.2.2.2.1 < (((List.length v.2.2.1) : Nat) : Int)))) then
          bif (decide ((Int.toNat v.2.2.2.1) < (List.length v.2.2.1))) then
            (laws_eqOut k (List.getD v.2.1 (Int.toNat v.2.2.2.1) z_Out) (List.getD v.2.2.1 (Int.toNat v.2.2.2.1) z_Out)).bind fun t1 =>
              bif (!t1.1.1) then
                some (Sum.inl ((), false, ()))
              else
                rec ((), v.2.1, v.2.2.1, (IntKind.wrap .i64 (v.2.2.2.1 + (1 : Int))), ())
          else none
        else none
      else none
    else none
  else
    some (Sum.inr ((), ()))
def laws_eqOutS (k : Nat) (x0 : (List D_Out)) (x1 : (List D_Out)) : Option ((Bool × Unit) × Unit) :=
  bif (!(decide ((((List.length x0) : Nat) : Int) = (((List.length x1) : Nat) : Int)))) then
    some ((false, ()), ())
  else
    (iter (laws_eqOutS_s4 k) k ((), x0, x1, (0 : Int), ())).bind fun o1 =>
      Sum.elim (fun a2 =>
        some (a2.2, ()))
      (fun b3 =>
        some ((true, ()), ())) o1
def laws_eqDeal (k : Nat) (x0 : D_Deal) (x1 : D_Deal) : Option ((Bool × Unit) × Unit) :=
  bif (!(decide (x0.1 = x1.1))) then
    some ((false, ()), ())
  else
    bif (!(decide (x0.2.1 = x1.2.1))) then
      some ((false, ()), ())
    else
      (laws_eqVec x0.2.2.1 x1.2.2.1).bind fun t1 =>
        bif (!t1.1.1) then
          some ((false, ()), ())
        else
          (laws_eqIntS k x0.2.2.2.1 x1.2.2.2.1).bind fun t2 =>
            bif (!t2.1.1) then
              some ((false, ()), ())
            else
              some ((true, ()), ())
def laws_eqTreeDeal (k : Nat) (x0 : D_TreeDeal) (x1 : D_TreeDeal) : Option ((Bool × Unit) × Unit) :=
  (laws_eqDeal k x0.1 x1.1).bind fun t1 =>
    bif (!t1.1.1) then
      some ((false, ()), ())
    else
      (laws_eqDeal k x0.2.1 x1.2.1).bind fun t2 =>
        bif (!t2.1.1) then
          some ((false, ()), ())
        else
          some ((true, ()), ())
def laws_eqDealt (k : Nat) (x0 : D_Dealt) (x1 : D_Dealt) : Option ((Bool × Unit) × Unit) :=
  bif (!(decide (x0.1 = x1.1))) then
    some ((false, ()), ())
  else
    (laws_eqVec x0.2.1 x1.2.1).bind fun t1 =>
      bif (!t1.1.1) then
        some ((false, ()), ())
      else
        (laws_eqTreeDeal k x0.2.2.1 x1.2.2.1).bind fun t2 =>
          bif (!t2.1.1) then
            some ((false, ()), ())
          else
            some ((true, ()), ())
def laws_eqDealtS_s4 (k : Nat) (rec : (Unit × ((List D_Dealt) × ((List D_Dealt) × (Int × Unit)))) → Option ((Unit × (Bool × Unit)) ⊕ (Unit × Unit))) (v : (Unit × ((List D_Dealt) × ((List D_Dealt) × (Int × Unit))))) : Option ((Unit × (Bool × Unit)) ⊕ (Unit × Unit)) :=
  bif (decide (v.2.2.2.1 < (((List.length v.2.1) : Nat) : Int))) then
    bif ((decide ((0 : Int) ≤ v.2.2.2.1)) && (decide (v.2.2.2.1 < (((List.length v.2.1) : Nat) : Int)))) then
      bif (decide ((Int.toNat v.2.2.2.1) < (List.length v.2.1))) then
        bif ((decide ((0 : Int) ≤ v.2.2.2.1)) && (decide (v.2.2.2.1 < (((List.length v.2.2.1) : Nat) : Int)))) then
          bif (decide ((Int.toNat v.2.2.2.1) < (List.length v.2.2.1))) then
            (laws_eqDealt k (List.getD v.2.1 (Int.toNat v.2.2.2.1) z_Dealt) (List.getD v.2.2.1 (Int.toNat v.2.2.2.1) z_Dealt)).bind fun t1 =>
              bif (!t1.1.1) then
                some (Sum.inl ((), false, ()))
              else
                rec ((), v.2.1, v.2.2.1, (IntKind.wrap .i64 (v.2.2.2.1 + (1 : Int))), ())
          else none
        else none
      else none
    else none
  else
    some (Sum.inr ((), ()))
def laws_eqDealtS (k : Nat) (x0 : (List D_Dealt)) (x1 : (List D_Dealt)) : Option ((Bool × Unit) × Unit) :=
  bif (!(decide ((((List.length x0) : Nat) : Int) = (((List.length x1) : Nat) : Int)))) then
    some ((false, ()), ())
  else
    (iter (laws_eqDealtS_s4 k) k ((), x0, x1, (0 : Int), ())).bind fun o1 =>
      Sum.elim (fun a2 =>
        some (a2.2, ()))
      (fun b3 =>
        some ((true, ()), ())) o1
def laws_FnExactSpent (k : Nat) (x0 : (List D_Event)) (x1 : (List D_Out)) (x2 : (List D_Dealt)) (x3 : Int) (x4 : Int) : Option ((Bool × Unit) × Unit) :=
  (laws_szEventS k x0 (1048576 : Int)).bind fun t1 =>
    bif (decide (t1.1.1 < (0 : Int))) then
      some ((true, ()), ())
    else
      (laws_szOutS k x1 t1.1.1).bind fun t2 =>
        bif (decide (t2.1.1 < (0 : Int))) then
          some ((true, ()), ())
        else
          (laws_szDealtS k x2 t2.1.1).bind fun t3 =>
            bif (decide (t3.1.1 < (0 : Int))) then
              some ((true, ()), ())
            else
              (laws_toEventS k x0).bind fun t4 =>
                (laws_toOutS k x1).bind fun t5 =>
                  (laws_toDealtS k x2).bind fun t6 =>
                    (spec_Spent k t4.1.1 t5.1.1 t6.1.1 x3 x4).bind fun t7 =>
                      (laws_toEventS k x0).bind fun t8 =>
                        (laws_toOutS k x1).bind fun t9 =>
                          (laws_toDealtS k x2).bind fun t10 =>
                            (impl_Spent k t8.1.1 t9.1.1 t10.1.1 x3 x4).bind fun t11 =>
                              (laws_eqVec t11.1.1 t7.1.1).bind fun t12 =>
                                bif (!(!t12.1.1)) then
                                  (laws_eqVec t11.1.2.1 t7.1.2.1).bind fun t13 =>
                                    bif (!t13.1.1) then
                                      some ((false, ()), ())
                                    else
                                      (laws_toEventS k x0).bind fun t14 =>
                                        (laws_eqEventS k t8.1.1 t14.1.1).bind fun t15 =>
                                          bif (!t15.1.1) then
                                            some ((false, ()), ())
                                          else
                                            (laws_toOutS k x1).bind fun t16 =>
                                              (laws_eqOutS k t9.1.1 t16.1.1).bind fun t17 =>
                                                bif (!t17.1.1) then
                                                  some ((false, ()), ())
                                                else
                                                  (laws_toDealtS k x2).bind fun t18 =>
                                                    (laws_eqDealtS k t10.1.1 t18.1.1).bind fun t19 =>
                                                      bif (!t19.1.1) then
                                                        some ((false, ()), ())
                                                      else
                                                        some ((true, ()), ())
                                else
                                  some ((false, ()), ())
end Go.Tw
