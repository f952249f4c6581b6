/- Plain facts on the mirrors of the functions are proved here. -/
import Derived.RangeFuncBox
import Derived.RangeFuncNested
import Derived.RangeFuncLeaves
import Derived.Shelf.Abstract
import Derived.WalkKit
import Derived.OwnWalkIn
import Derived.TacticsInMore
import Derived.LoopNIn
import Derived.LoopIn
import Derived.Test.YtmnfadocihfiaaaGreatProg
set_option linter.all false
namespace Go.Proofs
open Go Go.RowKit
attribute [local go_sem] Oper.semAt_some
theorem wpListIn_load {F : Fence} {n : Nat} {P : Program} {ops : Array Oper} {Q : Exit → Act → World → Prop} {rest : List Oper} {a : Act} {w : World} {d : Option Tmp} {t ty : TypeId} {x : Operand} {pos : String} {af : Array Edge} {A : Addr} {v : Value}
    (hx : a.eval x = .pointer (some A)) (hl : (loadVar t A).run P w = .ok v w) (h : wpListIn F n P ops Q rest (a.put d v) w) : wpListIn F n P ops Q (⟨d, .load t x, ty, pos, af, none⟩ :: rest) a w := by
  refine wpListIn_plain rfl fun K hK => ?_
  have hr : (Oper.semAt F.round a.eval ⟨d, .load t x, ty, pos, af, none⟩).run P w = .ok (.value v) w := by
    rw [Oper.semAt_eq _ _ _ (fun c => by simp)]
    simp [execOp, Instr.loadAt, hx, Instr.sureAddr, hl]
  refine ⟨fun f hf => by simp [Oper.about] at hf, ?_⟩
  rw [hr]
  exact hK _ _ h
set_option maxRecDepth 100000 in
set_option maxHeartbeats 2000000 in
theorem Tryz.back_in (F : Fence) (n : Nat) (h72 : F.fn 72) (hro : F.round = none) (a : Option Addr) (len cap : Nat) (w : World) :
    CallsIn F n Tryz.prog 72 #[.slice a len cap] w fun e w' => e = .returned (.func (.func 170) #[] #[.pointer (some ⟨w.heap.size, 0, none⟩)]) ∧ w' = w.alloc (.cells #[.slice a len cap] 114) := by
  refine callsIn_of_wp Tryz.func72 rfl h72 ?_ hro
  simp only [Tryz.ntmps72, List.size_toArray, List.length_cons, List.length_nil, Nat.reduceAdd, Nat.reduceSub, Array.replicate_succ, Array.replicate_zero, List.push_toArray, List.append_toArray, List.nil_append, List.cons_append]
  gi_wp2
  go_ret
  exact ⟨rfl, rfl⟩
def Tryz.bEnc {α : Type} (ix : α → Nat) (us : α → List Value) (p : α) : Array Value := #[.int .i64 (ix p : Int), .agg (us p).toArray]
def Tryz.upto {α : Type} (f : Nat → α) (k : Nat) : List α := (List.range k).map f
theorem Tryz.upto_succ {α : Type} (f : Nat → α) (k : Nat) : Tryz.upto f (k + 1) = Tryz.upto f k ++ [f k] := by simp [Tryz.upto, List.range_succ]
theorem Tryz.upto_length {α : Type} (f : Nat → α) (k : Nat) : (Tryz.upto f k).length = k := by simp [Tryz.upto]
set_option maxRecDepth 100000 in
set_option maxHeartbeats 2000000 in
theorem Tryz.back1_in (F : Fence) (n : Nat) (h : F.fn 170) (hro : F.round = none) (hn : 1 ≤ n) (l Bs n₀ b off len cap : Nat) {α : Type} (ix : α → Nat) (us : α → List Value) (E : Nat → α) (hix : ∀ j, j < len → ix (E j) = j) (hlen : len ≤ 1099511627776) (hb : b < n₀) (J Jx : List α → World → Prop)
    (hY : ∀ pre x W, J pre W → pre.length < len → YieldAt F (n - 1) Tryz.prog l (Tryz.bEnc ix us x) W fun e W' =>
      (e = .returned (.bool true) ∧ J (pre ++ [x]) W' ∧ Below n₀ W W') ∨ (e = .returned (.bool false) ∧ Jx (pre ++ [x]) W'))
    (W : World) (hBn : Bs < n₀) (hBs : W.cell? ⟨Bs, 0, none⟩ = some (.slice (some ⟨b, off, none⟩) len cap)) (hc : ∀ j, j < len → ∀ W', Below n₀ W W' → (loadVar 110 ⟨b, off + j * 30, none⟩).run Tryz.prog W' = .ok (.agg (us (E j)).toArray) W') (h0 : J [] W) :
    CallsIn F n Tryz.prog 170 #[.func (.yield l) #[] #[], .pointer (some ⟨Bs, 0, none⟩)] W fun e W' => (∃ v, e = .returned v) ∧
      ((∃ ys, ys = Tryz.upto (fun j => E (len - 1 - j)) len ∧ J ys W') ∨ (∃ pre, (∃ k, k ≤ len ∧ pre = Tryz.upto (fun j => E (len - 1 - j)) k) ∧ Jx pre W')) := by
  refine callsIn_of_wp Tryz.func170 rfl h ?_ hro
  simp only [Tryz.ntmps170, List.size_toArray, List.length_cons, List.length_nil, Nat.reduceAdd, Nat.reduceSub, Array.replicate_succ, Array.replicate_zero, List.push_toArray, List.append_toArray, List.nil_append, List.cons_append]
  have hw1 : wrap64 ((len : Int) - 1) = (len : Int) - 1 := by unfold wrap64; omega
  gi_wp2
  gi_loopw [3] (fun i wr => ∃ k : Nat, k ≤ len ∧ i = .int .i64 ((len : Int) - 1 - (k : Int)) ∧ J (Tryz.upto (fun j => E (len - 1 - j)) k) wr ∧ Below n₀ W wr)
    (fun i _ => ((intOf i) + 1).toNat)
  case atStart => exact ⟨0, Nat.zero_le _, by simp, h0, Below.refl _ _⟩
  case round =>
    obtain ⟨k, hk, rfl, hJs, hnx⟩ := hrel
    by_cases hlt : k < len
    · obtain ⟨fn, tmps, assign, body, hy, hR⟩ := hY _ (E (len - 1 - k)) wr hJs (by rw [Tryz.upto_length]; exact hlt)
      have hi : ((len - 1 - k : Nat) : Int) = (len : Int) - 1 - (k : Int) := by omega
      simp only [Tryz.bEnc, hix (len - 1 - k) (by omega), hi] at hy
      have hBs' : wr.cell? ⟨Bs, 0, none⟩ = some (.slice (some ⟨b, off, none⟩) len cap) := (hnx.cell (p := ⟨Bs, 0, none⟩) hBn).trans hBs
      have hcx := hc (len - 1 - k) (by omega) wr hnx
      gi_wp2_with (refine wpListIn_load (A := ⟨b, off + (len - 1 - k) * 30, none⟩) (v := .agg (us (E (len - 1 - k))).toArray) rfl hcx ?_)
      refine hR.mono ?_
      rintro e W3 (⟨rfl, hJ3, hk3⟩ | ⟨rfl, hJx3⟩)
      · gi_wp2
        go_roundw
        case rel => exact ⟨k + 1, by omega, by simp; omega, by rw [Tryz.upto_succ]; exact hJ3, hnx.trans hk3⟩
        case measure => simp [intOf]; omega
      · gi_wp2
        refine bodyPost_ret (results_none rfl _ _ _) rfl ?_
        exact ⟨⟨_, rfl⟩, .inr ⟨_, ⟨k + 1, by omega, (Tryz.upto_succ _ _).symm⟩, hJx3⟩⟩
    · obtain rfl : k = len := by omega
      gi_wp2
      go_end0
      exact ⟨⟨_, rfl⟩, .inl ⟨_, rfl, hJs⟩⟩
set_option maxRecDepth 100000 in
set_option maxHeartbeats 1000000 in
theorem Tryz.back1_nil_in (F : Fence) (n : Nat) (h : F.fn 170) (hro : F.round = none) (l Bs : Nat) {α : Type} (J : List α → World → Prop) (W : World) (hBs : W.cell? ⟨Bs, 0, none⟩ = some (.slice none 0 0)) (h0 : J [] W) :
    CallsIn F n Tryz.prog 170 #[.func (.yield l) #[] #[], .pointer (some ⟨Bs, 0, none⟩)] W fun e W' => (∃ v, e = .returned v) ∧ J [] W' := by
  refine callsIn_of_wp Tryz.func170 rfl h ?_ hro
  simp only [Tryz.ntmps170, List.size_toArray, List.length_cons, List.length_nil, Nat.reduceAdd, Nat.reduceSub, Array.replicate_succ, Array.replicate_zero, List.push_toArray, List.append_toArray, List.nil_append, List.cons_append]
  gi_wp2
  gi_loopw [3] (fun i wr => i = .int .i64 (-1) ∧ J [] wr) (fun _ _ => 0)
  case atStart => exact ⟨rfl, h0⟩
  case round =>
    obtain ⟨rfl, hJs⟩ := hrel
    gi_wp2
    go_end0
    exact ⟨⟨_, rfl⟩, hJs⟩
def Tryz.Els {α : Type} (us : α → List Value) (E : Nat → α) (n₀ : Nat) (W : World) (sv : Value) (len : Nat) : Prop :=
  (sv = .slice none 0 0 ∧ len = 0) ∨ ∃ b off cap, sv = .slice (some ⟨b, off, none⟩) len cap ∧ b < n₀ ∧ ∀ j, j < len → ∀ W', Below n₀ W W' → (loadVar 110 ⟨b, off + j * 30, none⟩).run Tryz.prog W' = .ok (.agg (us (E j)).toArray) W'
theorem Tryz.back_stops (F : Fence) (n : Nat) (h : F.fn 170) (hro : F.round = none) (hn : 1 ≤ n) (Bs n₀ len : Nat) (sv : Value) {α : Type} (ix : α → Nat) (us : α → List Value) (E : Nat → α) (hix : ∀ j, j < len → ix (E j) = j) (hlen : len ≤ 1099511627776) (w : World) (hBs : Bs < n₀) (hn₀ : n₀ ≤ w.heap.size)
    (hc : w.cell? ⟨Bs, 0, none⟩ = some sv) (hI : Tryz.Els us E n₀ w sv len) :
    SeqStopsK F n Tryz.prog 170 #[.pointer (some ⟨Bs, 0, none⟩)] (Tryz.bEnc ix us) (Below n₀) (fun ys => ys = Tryz.upto (fun j => E (len - 1 - j)) len) (fun pre => ∃ k, k ≤ len ∧ pre = Tryz.upto (fun j => E (len - 1 - j)) k) len w := fun l J Jx W hW _ _ hY h0 => by
  have hW' : Below n₀ w W := hW.mono hn₀
  have hc' := (hW'.cell (p := ⟨Bs, 0, none⟩) hBs).trans hc
  rcases hI with ⟨rfl, rfl⟩ | ⟨b, off, cap, rfl, hb, hcs⟩
  · exact (Tryz.back1_nil_in F n h hro l Bs J W hc' h0).mono fun e W' ⟨he, hj⟩ => ⟨he, .inl ⟨_, rfl, hj⟩⟩
  · exact Tryz.back1_in F n h hro hn l Bs n₀ b off len cap ix us E hix hlen hb J Jx hY W hBs hc' (fun j hj W' hb' => hcs j hj W' (hW'.trans hb')) h0
end Go.Proofs
