/- Plain facts on the mirrors of the functions are proved here. -/
import Derived.Test.YtmnfadocihfiaaaGreatPq9
import Derived.Test.YtmnfadocihfiaaaGreatPf7
import Derived.Test.YtmnfadocihfiaaaGreatPk0
set_option linter.all false
set_option maxRecDepth 100000
set_option maxHeartbeats 4000000
namespace Go.Tw
open Go Go.RowKit
abbrev mB (n : Nat) (m : Int) : List Int := markF (fun m => IntKind.wrap .u8 m) 1 n m
theorem markByte_eq (k : Nat) (hk : MM < k) (L : List Int) (hL : L.length ≤ 1048576) (m : Int) (h0 : 0 ≤ m) (hm : m + ((L.length : Nat) : Int) ≤ 1099511627776) :
    laws_markByteS k L m = some ((m + ((L.length : Nat) : Int), ()), (mB L.length m, ())) := by
  unfold laws_markByteS
  have run := mark_run (step := laws_markByteS_s2) (E := fun m => IntKind.wrap .u8 m) (c := 1) (0 : Int) (fun L m i rec hi hl g0 g1 => by
      have e1 : IntKind.wrap .i64 (m + 1) = m + ((1 : Nat) : Int) := (w64 (n := m + 1) (by omega)).trans (by omega)
      have ei : IntKind.wrap .i64 ((i : Int) + 1) = ((i + 1 : Nat) : Int) := w64 (by omega)
      have c1 : decide ((i : Int) < ((L.length : Nat) : Int)) = true := decide_eq_true (by omega)
      have c2 : decide ((0 : Int) ≤ (i : Int)) = true := decide_eq_true (by omega)
      have c3 : decide (i < L.length) = true := decide_eq_true (by omega)
      unfold laws_markByteS_s2
      simp only [e1, ei, Int.toNat_natCast, c1, c2, c3, Bool.and_self, cond_true]) (fun L m rec => by
      unfold laws_markByteS_s2
      exact bif_f (decide_eq_false (by dsimp only; omega))) hk hL h0 (by rw [Nat.one_mul]; exact hm)
  rw [run, Nat.one_mul]; rfl
theorem heldByte_eq (k : Nat) (hk : MM < k) (n : Nat) (hn : n ≤ 1048576) (m : Int) (h0 : 0 ≤ m) (hm : m + ((n : Nat) : Int) ≤ 1099511627776) :
    laws_heldByteS k (mB n m) m = some ((m + ((n : Nat) : Int), ()), ()) := by
  unfold laws_heldByteS
  have run := held_run (step := laws_heldByteS_s2) (E := fun m => IntKind.wrap .u8 m) (c := 1) (0 : Int) (fun L m i rec hi hl g0 g1 he => by
      have e1 : IntKind.wrap .i64 (m + 1) = m + ((1 : Nat) : Int) := (w64 (n := m + 1) (by omega)).trans (by omega)
      have ei : IntKind.wrap .i64 ((i : Int) + 1) = ((i + 1 : Nat) : Int) := w64 (by omega)
      have c1 : decide ((i : Int) < ((L.length : Nat) : Int)) = true := decide_eq_true (by omega)
      have c2 : decide ((0 : Int) ≤ (i : Int)) = true := decide_eq_true (by omega)
      have c3 : decide (i < L.length) = true := decide_eq_true (by omega)
      unfold laws_heldByteS_s2
      simp only [e1, ei, Int.toNat_natCast, he, c1, c2, c3, Bool.and_self, cond_true, decide_true, Bool.not_true, cond_false]) (fun L m rec => by
      unfold laws_heldByteS_s2
      exact bif_f (decide_eq_false (by dsimp only; omega))) hk hn h0 (by rw [Nat.one_mul]; exact hm)
  rw [run, Nat.one_mul]; rfl
def mkX : List D_Ext → Int → List D_Ext
  | [], _ => []
  | e :: l, m => (m, mB e.2.1.length (m + 1), ()) :: mkX l (m + 1 + ((e.2.1.length : Nat) : Int))
def xc : List D_Ext → Nat
  | [] => 0
  | e :: l => 1 + e.2.1.length + xc l
theorem mkX_len : ∀ (l : List D_Ext) (m : Int), (mkX l m).length = l.length
  | [], _ => rfl
  | e :: l, m => by unfold mkX; rw [List.length_cons, List.length_cons, mkX_len l]
theorem xc_le : ∀ (l : List D_Ext) (n : Nat), l.length ≤ n → (∀ e ∈ l, e.2.1.length ≤ 1600) → xc l ≤ 1601 * n
  | [], n, _, _ => Nat.zero_le _
  | e :: l, 0, h, _ => by simp at h
  | e :: l, n + 1, h, hw => by
    have := xc_le l n (by simpa using h) (fun x hx => hw x (List.mem_cons_of_mem _ hx))
    have := hw e List.mem_cons_self
    unfold xc; omega
theorem getD_mid {α : Type} : ∀ (P : List α) (x z : α) (r : List α) (n : Nat), n = P.length → (P ++ x :: r).getD n z = x
  | [], x, z, r, n, h => by subst h; rfl
  | p :: P, x, z, r, n, h => by
    subst h
    simp only [List.cons_append, List.length_cons, List.getD_cons_succ]
    exact getD_mid P x z r P.length rfl
theorem markX_run (K : Nat) (hK : MM < K) : ∀ (l P : List D_Ext) (m : Int) (k : Nat), P.length + l.length ≤ 1000 → (∀ e ∈ l, e.2.1.length ≤ 1600) → l.length < k → 0 ≤ m → m + ((xc l : Nat) : Int) ≤ 1000000000 →
    iter (laws_markExtS_s2 K) k ((P ++ l, ()), (), m, ((P.length : Nat) : Int), ()) = some ((P ++ mkX l m, ()), m + ((xc l : Nat) : Int), ())
  | l, P, m, 0, _, _, h, _, _ => by omega
  | [], P, m, k + 1, h1, hw, h, h0, hm => by
    rw [iter_succ]
    have st : ∀ rec, laws_markExtS_s2 K rec ((P ++ [], ()), (), m, ((P.length : Nat) : Int), ()) = some ((P ++ [], ()), m, ()) := fun rec => by
      unfold laws_markExtS_s2; exact bif_f (decide_eq_false (by simp))
    rw [st]
    simp [mkX, xc]
  | e :: l, P, m, k + 1, h1, hw, h, h0, hm => by
    rw [iter_succ]
    have he := hw e List.mem_cons_self
    have hxc : xc (e :: l) = 1 + e.2.1.length + xc l := rfl
    have hl : (P ++ e :: l).length = P.length + l.length + 1 := by simp; omega
    have h1' : P.length + l.length + 1 ≤ 1000 := by have := h1; simp only [List.length_cons] at this; omega
    have st : ∀ rec, laws_markExtS_s2 K rec ((P ++ e :: l, ()), (), m, ((P.length : Nat) : Int), ()) = rec ((P ++ (m, mB e.2.1.length (m + 1), ()) :: l, ()), (), m + 1 + ((e.2.1.length : Nat) : Int), ((P.length + 1 : Nat) : Int), ()) := fun rec => by
      have e1 : IntKind.wrap .i64 (m + 1) = m + 1 := w64 (n := m + 1) (by omega)
      have ei : IntKind.wrap .i64 (((P.length : Nat) : Int) + 1) = ((P.length + 1 : Nat) : Int) := w64 (by omega)
      have c1 : decide (((P.length : Nat) : Int) < (((P ++ e :: l).length : Nat) : Int)) = true := decide_eq_true (by omega)
      have c2 : decide ((0 : Int) ≤ ((P.length : Nat) : Int)) = true := decide_eq_true (by omega)
      have c3 : decide (P.length < (P ++ e :: l).length) = true := decide_eq_true (by omega)
      have d1 : ∀ x : D_Ext, decide (((P.length : Nat) : Int) < (((P ++ x :: l).length : Nat) : Int)) = true := fun x => decide_eq_true (by simp; omega)
      have d3 : ∀ x : D_Ext, decide (P.length < (P ++ x :: l).length) = true := fun x => decide_eq_true (by simp)
      have g := fun (x : D_Ext) => getD_mid P x z_Ext l P.length rfl
      have s := fun (x y : D_Ext) => set_midK P x y l P.length rfl
      have mb := markByte_eq K hK e.2.1 (by omega) (m + 1) (by omega) (by omega)
      unfold laws_markExtS_s2
      simp only [e1, ei, Int.toNat_natCast, c1, c2, c3, g, s, d1, d3, mb, Bool.and_self, cond_true, Option.bind_some]
    rw [st]
    have ih := markX_run K hK l (P ++ [(m, mB e.2.1.length (m + 1), ())]) (m + 1 + ((e.2.1.length : Nat) : Int)) k (by simp; omega) (fun x hx => hw x (List.mem_cons_of_mem _ hx)) (by simp at h; omega) (by omega) (by omega)
    simp only [List.append_assoc, List.singleton_append, List.length_append, List.length_cons, List.length_nil] at ih
    rw [ih, hxc, show mkX (e :: l) m = (m, mB e.2.1.length (m + 1), ()) :: mkX l (m + 1 + ((e.2.1.length : Nat) : Int)) from rfl]
    have ew : m + 1 + ((e.2.1.length : Nat) : Int) + ((xc l : Nat) : Int) = m + ((1 + e.2.1.length + xc l : Nat) : Int) := by omega
    rw [ew]
theorem markX_eq (k : Nat) (hk : MM < k) (L : List D_Ext) (hL : L.length ≤ 3) (hw : ∀ e ∈ L, e.2.1.length ≤ 1600) (m : Int) (h0 : 0 ≤ m) (hm : m ≤ 10000000) :
    laws_markExtS k L m = some ((m + ((xc L : Nat) : Int), ()), (mkX L m, ())) := by
  have hM : MM = 1048576 := rfl
  have := xc_le L 3 hL hw
  unfold laws_markExtS
  have run := markX_run k hk L [] m k (by simp; omega) hw (by omega) h0 (by omega)
  simp only [List.nil_append, List.length_nil] at run
  rw [show iter (laws_markExtS_s2 k) k ((L, ()), (), m, (0 : Int), ()) = _ from run]
  rfl
theorem heldX_run (K : Nat) (hK : MM < K) : ∀ (l P : List D_Ext) (m : Int) (k : Nat), P.length + l.length ≤ 1000 → (∀ e ∈ l, e.2.1.length ≤ 1600) → l.length < k → 0 ≤ m → m + ((xc l : Nat) : Int) ≤ 1000000000 →
    iter (laws_heldExtS_s2 K) k ((), P ++ mkX l m, m, ((P.length : Nat) : Int), ()) = some (Sum.inr ((), m + ((xc l : Nat) : Int), ()))
  | l, P, m, 0, _, _, h, _, _ => by omega
  | [], P, m, k + 1, h1, hw, h, h0, hm => by
    rw [iter_succ]
    have st : ∀ rec, laws_heldExtS_s2 K rec ((), P ++ mkX [] m, m, ((P.length : Nat) : Int), ()) = some (Sum.inr ((), m, ())) := fun rec => by
      unfold laws_heldExtS_s2; exact bif_f (decide_eq_false (by simp [mkX]))
    rw [st]
    simp [xc]
  | e :: l, P, m, k + 1, h1, hw, h, h0, hm => by
    rw [iter_succ]
    have he := hw e List.mem_cons_self
    have hxc : xc (e :: l) = 1 + e.2.1.length + xc l := rfl
    have h1' : P.length + l.length + 1 ≤ 1000 := by have := h1; simp only [List.length_cons] at this; omega
    rw [show mkX (e :: l) m = (m, mB e.2.1.length (m + 1), ()) :: mkX l (m + 1 + ((e.2.1.length : Nat) : Int)) from rfl]
    have st : ∀ (R : List D_Ext) rec, R.length = l.length → laws_heldExtS_s2 K rec ((), P ++ (m, mB e.2.1.length (m + 1), ()) :: R, m, ((P.length : Nat) : Int), ()) = rec ((), P ++ (m, mB e.2.1.length (m + 1), ()) :: R, m + 1 + ((e.2.1.length : Nat) : Int), ((P.length + 1 : Nat) : Int), ()) := fun R rec hR => by
      have e1 : IntKind.wrap .i64 (m + 1) = m + 1 := w64 (n := m + 1) (by omega)
      have ei : IntKind.wrap .i64 (((P.length : Nat) : Int) + 1) = ((P.length + 1 : Nat) : Int) := w64 (by omega)
      have c2 : decide ((0 : Int) ≤ ((P.length : Nat) : Int)) = true := decide_eq_true (by omega)
      have d1 : ∀ x : D_Ext, decide (((P.length : Nat) : Int) < (((P ++ x :: R).length : Nat) : Int)) = true := fun x => decide_eq_true (by simp; omega)
      have d3 : ∀ x : D_Ext, decide (P.length < (P ++ x :: R).length) = true := fun x => decide_eq_true (by simp)
      have g := fun (x : D_Ext) => getD_mid P x z_Ext R P.length rfl
      have mb := heldByte_eq K hK e.2.1.length (by omega) (m + 1) (by omega) (by omega)
      have n1 : decide (m + 1 + ((e.2.1.length : Nat) : Int) < 0) = false := decide_eq_false (by omega)
      unfold laws_heldExtS_s2
      simp only [e1, ei, Int.toNat_natCast, c2, g, d1, d3, mb, n1, decide_true, Bool.not_true, Bool.and_self, cond_true, cond_false, Option.bind_some]
    rw [st _ _ (mkX_len _ _)]
    have ih := heldX_run K hK l (P ++ [(m, mB e.2.1.length (m + 1), ())]) (m + 1 + ((e.2.1.length : Nat) : Int)) k (by simp; omega) (fun x hx => hw x (List.mem_cons_of_mem _ hx)) (by simp at h; omega) (by omega) (by omega)
    simp only [List.append_assoc, List.singleton_append, List.length_append, List.length_cons, List.length_nil] at ih
    rw [ih, hxc]
    have ew : m + 1 + ((e.2.1.length : Nat) : Int) + ((xc l : Nat) : Int) = m + ((1 + e.2.1.length + xc l : Nat) : Int) := by omega
    rw [ew]
theorem heldX_eq (k : Nat) (hk : MM < k) (L : List D_Ext) (hL : L.length ≤ 3) (hw : ∀ e ∈ L, e.2.1.length ≤ 1600) (m : Int) (h0 : 0 ≤ m) (hm : m ≤ 10000000) :
    laws_heldExtS k (mkX L m) m = some ((m + ((xc L : Nat) : Int), ()), ()) := by
  have hM : MM = 1048576 := rfl
  have := xc_le L 3 hL hw
  unfold laws_heldExtS
  have run := heldX_run k hk L [] m k (by simp; omega) hw (by omega) h0 (by omega)
  simp only [List.nil_append, List.length_nil] at run
  rw [show iter (laws_heldExtS_s2 k) k ((), mkX L m, m, (0 : Int), ()) = _ from run]
  rfl
end Go.Tw
