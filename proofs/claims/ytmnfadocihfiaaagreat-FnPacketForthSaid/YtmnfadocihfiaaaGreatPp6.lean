/- Facts on mirrors. -/
import Derived.Test.YtmnfadocihfiaaaGreatPp5
set_option linter.all false
set_option maxRecDepth 100000
set_option maxHeartbeats 2000000
namespace Go.Tw
open Go Go.RowKit
def exK (n : Int) : Bool := decide (n = 0) || (decide (n = 43) || decide (n = 60))
theorem exKI (n : Int) : impl_isExtKind n = some ((exK n, ()), ()) := by
  unfold impl_isExtKind exK
  cases decide (n = 0) <;> cases decide (n = 43) <;> rfl
theorem exKS (n : Int) : spec_l06Inner n = some ((exK n, ()), ()) := by
  unfold spec_l06Inner exK
  cases decide (n = 0) <;> cases decide (n = 43) <;> rfl
def xT (l : List Int) : Nat := 8 * ((l.getD 1 0).toNat + 1)
def stopB (kind : Int) (l : List Int) (out : List D_Ext) : Bool :=
  decide (out.length = 3) || ((decide (kind = 0) && decide (0 < out.length)) || (decide (l.length < 2) || (decide (7 < l.getD 1 0) || decide (l.length < xT l))))
def nxt (kind : Int) (l : List Int) (out : List D_Ext) : List D_Ext := out ++ [(kind, (l.drop 2).take (xT l - 2), ())]
def extsP : Nat → Int → List Int → List D_Ext → Option (List D_Ext × Int × List Int)
  | 0, _, _, _ => none
  | n + 1, kind, l, out => bif exK kind then (bif stopB kind l out then none else extsP n (l.getD 0 0) (l.drop (xT l)) (nxt kind l out)) else some (out, kind, l)
theorem exI_step (rec) (kind : Int) (l : List Int) (out : List D_Ext) (hb : bytesP l) (hl : l.length ≤ 2000) (ho : out.length ≤ 3) :
    impl_extsRead_s2 rec ((), kind, l, out, ()) = bif exK kind then (bif stopB kind l out then some (Sum.inl ((), [], 0, [], false, ())) else rec ((), l.getD 0 0, l.drop (xT l), nxt kind l out, ())) else some (Sum.inr ((), kind, l, out, ())) := by
  unfold impl_extsRead_s2
  simp only [exKI, Option.bind_some]
  cases exK kind
  · rfl
  simp only [cond_true, bn]
  unfold stopB
  by_cases h3 : out.length = 3
  · rw [decide_eq_true (show ((out.length : Nat) : Int) = 3 by omega), decide_eq_true h3]; rfl
  rw [decide_eq_false (show ¬ ((out.length : Nat) : Int) = 3 by omega), decide_eq_false h3]
  simp only [cond_false, Bool.false_or]
  have rest : ∀ X : Option ((Unit × (List D_Ext × (Int × (List Int × (Bool × Unit))))) ⊕ (Unit × (Int × (List Int × (List D_Ext × Unit))))), X = (bif (decide (((l.length : Nat) : Int) < (2:Int))) then
 some (Sum.inl ((), ([] : List D_Ext), (0:Int), ([] : List Int), false, ()))
 else
 bif (decide ((1:Int) < ((l.length : Nat) : Int))) then
 bif (decide ((1:Nat) < (List.length l))) then
 bif (decide ((7:Int) < (List.getD l (1:Nat) (0:Int)))) then
 some (Sum.inl ((), ([] : List D_Ext), (0:Int), ([] : List Int), false, ()))
 else
 bif (decide ((1:Int) < ((l.length : Nat) : Int))) then
 bif (decide ((1:Nat) < (List.length l))) then
 bif (decide (((l.length : Nat) : Int) < (IntKind.wrap .i64 ((8:Int) * (IntKind.wrap .i64 ((IntKind.wrap .i64 (List.getD l (1:Nat) (0:Int))) + (1:Int))))))) then
 some (Sum.inl ((), ([] : List D_Ext), (0:Int), ([] : List Int), false, ()))
 else
 bif ((decide ((2:Int) ≤ (IntKind.wrap .i64 ((8:Int) * (IntKind.wrap .i64 ((IntKind.wrap .i64 (List.getD l (1:Nat) (0:Int))) + (1:Int))))))) && (decide ((IntKind.wrap .i64 ((8:Int) * (IntKind.wrap .i64 ((IntKind.wrap .i64 (List.getD l (1:Nat) (0:Int))) + (1:Int))))) ≤ ((l.length : Nat) : Int)))) then
 (slices_Clone_byte_byte (List.take ((Int.toNat (IntKind.wrap .i64 ((8:Int) * (IntKind.wrap .i64 ((IntKind.wrap .i64 (List.getD l (1:Nat) (0:Int))) + (1:Int)))))) - (2:Nat)) (List.drop (2:Nat) l))).bind fun t8 =>
 bif (decide ((((List.length out) + (1:Nat)) * 32) ≤ (1099511627776:Nat))) then
 bif (decide ((0:Int) < ((l.length : Nat) : Int))) then
 bif (decide ((0:Nat) < (List.length l))) then
 bif (((decide ((0:Int) ≤ (IntKind.wrap .i64 ((8:Int) * (IntKind.wrap .i64 ((IntKind.wrap .i64 (List.getD l (1:Nat) (0:Int))) + (1:Int))))))) && (decide ((IntKind.wrap .i64 ((8:Int) * (IntKind.wrap .i64 ((IntKind.wrap .i64 (List.getD l (1:Nat) (0:Int))) + (1:Int))))) ≤ ((l.length : Nat) : Int)))) && (decide (((l.length : Nat) : Int) ≤ ((l.length : Nat) : Int)))) then
 rec ((), (IntKind.wrap .i64 (List.getD l (0:Nat) (0:Int))), (List.take ((List.length l) - (Int.toNat (IntKind.wrap .i64 ((8:Int) * (IntKind.wrap .i64 ((IntKind.wrap .i64 (List.getD l (1:Nat) (0:Int))) + (1:Int))))))) (List.drop (Int.toNat (IntKind.wrap .i64 ((8:Int) * (IntKind.wrap .i64 ((IntKind.wrap .i64 (List.getD l (1:Nat) (0:Int))) + (1:Int)))))) l)), (out ++ ([(kind, t8.1)] : List D_Ext)), ())
 else none
 else none
 else none
 else none
 else none
 else none
 else none
 else none
 else none) → X = bif (decide (l.length < 2) || (decide (7 < l.getD 1 0) || decide (l.length < xT l))) then some (Sum.inl ((), [], 0, [], false, ())) else rec ((), l.getD 0 0, l.drop (xT l), nxt kind l out, ()) := by
    rintro X rfl
    by_cases h2 : l.length < 2
    · rw [decide_eq_true (show ((l.length : Nat) : Int) < 2 by omega), decide_eq_true h2]; rfl
    rw [decide_eq_false (show ¬ ((l.length : Nat) : Int) < 2 by omega), decide_eq_false h2]
    have c1 : decide ((1 : Int) < ((l.length : Nat) : Int)) = true := decide_eq_true (by omega)
    have c1' : decide ((1 : Nat) < l.length) = true := decide_eq_true (by omega)
    simp only [c1, c1', cond_true, cond_false, Bool.false_or]
    by_cases h7 : 7 < l.getD 1 0
    · rw [decide_eq_true h7]; rfl
    rw [decide_eq_false h7]
    have r1 := hb _ (getD_mem l 0 1 (by omega))
    have r0 := hb _ (getD_mem l 0 0 (by omega))
    have eT : IntKind.wrap .i64 (8 * IntKind.wrap .i64 (IntKind.wrap .i64 (l.getD 1 0) + 1)) = ((xT l : Nat) : Int) := by
      rw [w64 (n := l.getD 1 0) (by omega), w64 (n := l.getD 1 0 + 1) (by omega), w64 (by omega)]
      unfold xT; omega
    have e0 : IntKind.wrap .i64 (l.getD 0 0) = l.getD 0 0 := w64 (by omega)
    simp only [eT, e0, cond_false, Bool.false_or]
    by_cases hT : l.length < xT l
    · rw [decide_eq_true (show ((l.length : Nat) : Int) < ((xT l : Nat) : Int) by omega), decide_eq_true hT]; rfl
    rw [decide_eq_false (show ¬ ((l.length : Nat) : Int) < ((xT l : Nat) : Int) by omega), decide_eq_false hT]
    have x8 : 8 ≤ xT l := by unfold xT; omega
    have d1 : decide ((2 : Int) ≤ ((xT l : Nat) : Int)) = true := decide_eq_true (by omega)
    have d2 : decide (((xT l : Nat) : Int) ≤ ((l.length : Nat) : Int)) = true := decide_eq_true (by omega)
    have d3 : decide ((0 : Int) < ((l.length : Nat) : Int)) = true := decide_eq_true (by omega)
    have d3' : decide ((0 : Nat) < l.length) = true := decide_eq_true (by omega)
    have d4 : decide ((0 : Int) ≤ ((xT l : Nat) : Int)) = true := decide_eq_true (by omega)
    have d5 : decide (((l.length : Nat) : Int) ≤ ((l.length : Nat) : Int)) = true := decide_eq_true (Int.le_refl _)
    have d6 : decide ((out.length + 1) * 32 ≤ 1099511627776) = true := decide_eq_true (by omega)
    have hc := cloneI ((l.drop 2).take (xT l - 2)) (by rw [List.length_take, List.length_drop]; omega)
    simp only [d1, d2, d3, d3', d4, d5, d6, Bool.and_self, cond_true, cond_false, Int.toNat_natCast, hc, Option.bind_some, take_all]
    rfl
  by_cases hz : kind = 0
  · rw [decide_eq_true hz]
    simp only [cond_true, Bool.true_and]
    by_cases h0 : 0 < out.length
    · rw [decide_eq_true (show (0 : Int) < ((out.length : Nat) : Int) by omega), decide_eq_true h0]; rfl
    rw [decide_eq_false (show ¬ (0 : Int) < ((out.length : Nat) : Int) by omega), decide_eq_false h0]
    exact rest _ rfl
  · rw [decide_eq_false hz]
    exact rest _ rfl
theorem exts_run : ∀ (m k : Nat) (kind : Int) (l : List Int) (out : List D_Ext), out.length + m = 3 → m < k → bytesP l → l.length ≤ 2000 →
    iter impl_extsRead_s2 k ((), kind, l, out, ()) = some (match extsP (m + 1) kind l out with | some (o, kd, r) => Sum.inr ((), kd, r, o, ()) | none => Sum.inl ((), [], 0, [], false, ()))
  | m, 0, kind, l, out, h1, h2, hb, hl => by omega
  | m, k + 1, kind, l, out, h1, h2, hb, hl => by
    rw [iter_succ, exI_step _ kind l out hb hl (by omega)]
    unfold extsP
    cases exK kind
    · rfl
    simp only [cond_true]
    cases hs : stopB kind l out
    · simp only [cond_false]
      cases m with
      | zero =>
        unfold stopB at hs
        rw [decide_eq_true (show out.length = 3 by omega)] at hs
        simp at hs
      | succ m =>
        exact exts_run m k _ _ _ (by unfold nxt; simp; omega) (by omega) (fun b h => hb b (List.mem_of_mem_drop h)) (by rw [List.length_drop]; omega)
    · rfl
theorem extsI (k : Nat) (hk : MM < k) (kind : Int) (l : List Int) (hb : bytesP l) (hl : l.length ≤ 2000) :
    impl_extsRead k kind l = some ((match extsP 4 kind l [] with | some (o, kd, r) => (o, kd, r, true, ()) | none => ([], 0, [], false, ())), ()) := by
  have hM : MM = 1048576 := rfl
  unfold impl_extsRead
  rw [exts_run 3 k kind l [] rfl (by omega) hb hl, Option.bind_some]
  cases extsP (3 + 1) kind l [] with
  | none => rfl
  | some p => rfl
end Go.Tw
