/- Facts on mirrors. -/
import Derived.Test.YtmnfadocihfiaaaGreatPs4
set_option linter.all false
set_option maxRecDepth 100000
set_option maxHeartbeats 4000000
namespace Go.Tw
open Go Go.RowKit
theorem sbI_run (s : D_Six) : ∀ (l P : List D_Ext) (out : List Int) (k : Nat), s.2.2.2.2.2.2.1 = P ++ l → P.length + l.length ≤ 3 → l.length < k → (∀ x ∈ l, x.2.1.length ≤ 62) → out.length + 64 * l.length ≤ 1000 →
    iter impl_SixBytes_s7 k ((), (), s, out, P ++ l, (((P ++ l).length : Nat) : Int), ((P.length : Nat) : Int), ()) = some ((), s, out ++ exBy l s.2.2.2.1, ())
  | l, P, out, 0, _, _, h, _, _ => by omega
  | [], P, out, k + 1, hE, h1, h, hx, ho => by
    rw [iter_succ]
    have st : ∀ rec, impl_SixBytes_s7 rec ((), (), s, out, P ++ [], (((P ++ ([] : List D_Ext)).length : Nat) : Int), ((P.length : Nat) : Int), ()) = some ((), s, out, ()) := fun rec => by
      unfold impl_SixBytes_s7; exact bif_f (decide_eq_false (by simp))
    rw [st]
    simp [exBy]
  | e :: l, P, out, k + 1, hE, h1, h, hx, ho => by
    have h1' : P.length + l.length + 1 ≤ 3 := by have := h1; simp only [List.length_cons] at this; omega
    have hl : (P ++ e :: l).length = P.length + l.length + 1 := by simp; omega
    have he := hx e List.mem_cons_self
    have ho' : out.length + 64 * l.length + 64 ≤ 1000 := by simp only [List.length_cons] at ho; omega
    have st : ∀ rec, impl_SixBytes_s7 rec ((), (), s, out, P ++ e :: l, (((P ++ e :: l).length : Nat) : Int), ((P.length : Nat) : Int), ()) = rec ((), (), s, (out ++ [nxK l s.2.2.2.1 % 256, ((2 + ((e.2.1.length : Nat) : Int)) / 8 - 1) % 256]) ++ e.2.1, P ++ e :: l, (((P ++ e :: l).length : Nat) : Int), ((P.length + 1 : Nat) : Int), ()) := fun rec => by
      have ei : IntKind.wrap .i64 (((P.length : Nat) : Int) + 1) = ((P.length + 1 : Nat) : Int) := w64 (by omega)
      have e1 : IntKind.wrap .i64 (2 + ((e.2.1.length : Nat) : Int)) = 2 + ((e.2.1.length : Nat) : Int) := w64 (by omega)
      have e2 : Int.tdiv (2 + ((e.2.1.length : Nat) : Int)) 8 = (2 + ((e.2.1.length : Nat) : Int)) / 8 := Int.tdiv_eq_ediv_of_nonneg (by omega)
      have e3 : IntKind.wrap .i64 (IntKind.wrap .i64 ((2 + ((e.2.1.length : Nat) : Int)) / 8) - 1) = (2 + ((e.2.1.length : Nat) : Int)) / 8 - 1 := by
        rw [w64 (n := (2 + ((e.2.1.length : Nat) : Int)) / 8) (by omega), w64 (by omega)]
      have c1 : decide (((P.length : Nat) : Int) < (((P ++ e :: l).length : Nat) : Int)) = true := decide_eq_true (by omega)
      have c2 : decide ((0 : Int) ≤ ((P.length : Nat) : Int)) = true := decide_eq_true (by omega)
      have c3 : decide (P.length < (P ++ e :: l).length) = true := decide_eq_true (by omega)
      have g := getM P e z_Ext l P.length rfl
      have n := (nx1 s (P ++ [e]) l (by rw [hE]; simp) (by simp; omega)).1
      simp only [List.length_append, List.length_cons, List.length_nil] at n
      rw [show P.length + (0 + 1) = P.length + 1 by omega] at n
      unfold impl_SixBytes_s7
      simp only [ei, Int.toNat_natCast, c1, c2, c3, g, n, e1, e2, e3, wu8, Bool.and_self, cond_true, Option.bind_some]
      rw [bif_t (decide_eq_true (by omega)), bif_t (decide_eq_true (by simp only [List.length_append, List.length_cons, List.length_nil]; omega))]
    rw [iter_succ, st]
    have ih := sbI_run s l (P ++ [e]) ((out ++ [nxK l s.2.2.2.1 % 256, ((2 + ((e.2.1.length : Nat) : Int)) / 8 - 1) % 256]) ++ e.2.1) k (by rw [hE]; simp) (by simp; omega) (by simp at h; omega) (fun x hm => hx x (List.mem_cons_of_mem _ hm)) (by simp only [List.length_append, List.length_cons, List.length_nil]; omega)
    have ea : (P ++ [e]) ++ l = P ++ e :: l := by simp
    rw [ea, show (P ++ [e]).length = P.length + 1 by simp] at ih
    rw [ih]
    show some ((), s, ((out ++ [nxK l s.2.2.2.1 % 256, ((2 + ((e.2.1.length : Nat) : Int)) / 8 - 1) % 256]) ++ e.2.1) ++ exBy l s.2.2.2.1, ()) = some ((), s, out ++ ([nxK l s.2.2.2.1 % 256, ((2 + ((e.2.1.length : Nat) : Int)) / 8 - 1) % 256] ++ (e.2.1 ++ exBy l s.2.2.2.1)), ())
    simp only [List.append_assoc]
theorem sbS_run (s : D_Six) : ∀ (l P : List D_Ext) (out : List Int) (k : Nat), s.2.2.2.2.2.2.1 = P ++ l → P.length + l.length ≤ 3 → l.length < k → (∀ x ∈ l, x.2.1.length ≤ 62) → out.length + 64 * l.length ≤ 1000 →
    iter spec_SixBytes_s9 k ((), s, out, ((P.length : Nat) : Int), ()) = some ((), s, out ++ exBy l s.2.2.2.1, ())
  | l, P, out, 0, _, _, h, _, _ => by omega
  | [], P, out, k + 1, hE, h1, h, hx, ho => by
    rw [iter_succ]
    have st : ∀ rec, spec_SixBytes_s9 rec ((), s, out, ((P.length : Nat) : Int), ()) = some ((), s, out, ()) := fun rec => by
      unfold spec_SixBytes_s9; dsimp only; rw [hE]; exact bif_f (decide_eq_false (by simp))
    rw [st]
    simp [exBy]
  | e :: l, P, out, k + 1, hE, h1, h, hx, ho => by
    have h1' : P.length + l.length + 1 ≤ 3 := by have := h1; simp only [List.length_cons] at this; omega
    have hl : (P ++ e :: l).length = P.length + l.length + 1 := by simp; omega
    have he := hx e List.mem_cons_self
    have ho' : out.length + 64 * l.length + 64 ≤ 1000 := by simp only [List.length_cons] at ho; omega
    have st : ∀ rec, spec_SixBytes_s9 rec ((), s, out, ((P.length : Nat) : Int), ()) = rec ((), s, (out ++ [nxK l s.2.2.2.1 % 256, ((2 + ((e.2.1.length : Nat) : Int)) / 8 - 1) % 256]) ++ e.2.1, ((P.length + 1 : Nat) : Int), ()) := fun rec => by
      have ei : IntKind.wrap .i64 (((P.length : Nat) : Int) + 1) = ((P.length + 1 : Nat) : Int) := w64 (by omega)
      have e1 : IntKind.wrap .i64 (2 + ((e.2.1.length : Nat) : Int)) = 2 + ((e.2.1.length : Nat) : Int) := w64 (by omega)
      have e2 : Int.tdiv (2 + ((e.2.1.length : Nat) : Int)) 8 = (2 + ((e.2.1.length : Nat) : Int)) / 8 := Int.tdiv_eq_ediv_of_nonneg (by omega)
      have e3 : IntKind.wrap .i64 (IntKind.wrap .i64 ((2 + ((e.2.1.length : Nat) : Int)) / 8) - 1) = (2 + ((e.2.1.length : Nat) : Int)) / 8 - 1 := by
        rw [w64 (n := (2 + ((e.2.1.length : Nat) : Int)) / 8) (by omega), w64 (by omega)]
      have c1 : decide (((P.length : Nat) : Int) < (((P ++ e :: l).length : Nat) : Int)) = true := decide_eq_true (by omega)
      have c2 : decide ((0 : Int) ≤ ((P.length : Nat) : Int)) = true := decide_eq_true (by omega)
      have c3 : decide (P.length < (P ++ e :: l).length) = true := decide_eq_true (by omega)
      have g := getM P e z_Ext l P.length rfl
      have n := (nx1 s (P ++ [e]) l (by rw [hE]; simp) (by simp; omega)).2
      simp only [List.length_append, List.length_cons, List.length_nil] at n
      rw [show P.length + (0 + 1) = P.length + 1 by omega] at n
      unfold spec_SixBytes_s9
      dsimp only
      simp only [hE, ei, Int.toNat_natCast, c1, c2, c3, g, n, e1, e2, e3, wu8, Bool.and_self, cond_true, Option.bind_some]
      rw [bif_t (decide_eq_true (by omega)), bif_t (decide_eq_true (by simp only [List.length_append, List.length_cons, List.length_nil]; omega))]
    rw [iter_succ, st]
    have ih := sbS_run s l (P ++ [e]) ((out ++ [nxK l s.2.2.2.1 % 256, ((2 + ((e.2.1.length : Nat) : Int)) / 8 - 1) % 256]) ++ e.2.1) k (by rw [hE]; simp) (by simp; omega) (by simp at h; omega) (fun x hm => hx x (List.mem_cons_of_mem _ hm)) (by simp only [List.length_append, List.length_cons, List.length_nil]; omega)
    rw [show (P ++ [e]).length = P.length + 1 by simp] at ih
    rw [ih]
    show some ((), s, ((out ++ [nxK l s.2.2.2.1 % 256, ((2 + ((e.2.1.length : Nat) : Int)) / 8 - 1) % 256]) ++ e.2.1) ++ exBy l s.2.2.2.1, ()) = some ((), s, out ++ ([nxK l s.2.2.2.1 % 256, ((2 + ((e.2.1.length : Nat) : Int)) / 8 - 1) % 256] ++ (e.2.1 ++ exBy l s.2.2.2.1)), ())
    simp only [List.append_assoc]
theorem xsS_run (s : D_Six) : ∀ (l P : List D_Ext) (acc : Int) (k : Nat), s.2.2.2.2.2.2.1 = P ++ l → P.length + l.length ≤ 3 → l.length < k → (∀ x ∈ l, x.2.1.length ≤ 62) → 0 ≤ acc → acc + 64 * ((l.length : Nat) : Int) ≤ 1000 →
    iter spec_ExtsSize_s5 k ((), s, acc, ((P.length : Nat) : Int), ()) = some ((), acc + xSz l, ())
  | l, P, acc, 0, _, _, h, _, _, _ => by omega
  | [], P, acc, k + 1, hE, h1, h, hx, h0, ha => by
    rw [iter_succ]
    have st : ∀ rec, spec_ExtsSize_s5 rec ((), s, acc, ((P.length : Nat) : Int), ()) = some ((), acc, ()) := fun rec => by
      unfold spec_ExtsSize_s5; dsimp only; rw [hE]; exact bif_f (decide_eq_false (by simp))
    rw [st]
    simp [xSz]
  | e :: l, P, acc, k + 1, hE, h1, h, hx, h0, ha => by
    have h1' : P.length + l.length + 1 ≤ 3 := by have := h1; simp only [List.length_cons] at this; omega
    have hl : (P ++ e :: l).length = P.length + l.length + 1 := by simp; omega
    have he := hx e List.mem_cons_self
    have ha' : acc + 64 * ((l.length : Nat) : Int) + 64 ≤ 1000 := by simp only [List.length_cons] at ha; omega
    have st : ∀ rec, spec_ExtsSize_s5 rec ((), s, acc, ((P.length : Nat) : Int), ()) = rec ((), s, acc + (2 + ((e.2.1.length : Nat) : Int)), ((P.length + 1 : Nat) : Int), ()) := fun rec => by
      have ei : IntKind.wrap .i64 (((P.length : Nat) : Int) + 1) = ((P.length + 1 : Nat) : Int) := w64 (by omega)
      have e1 : IntKind.wrap .i64 (IntKind.wrap .i64 (acc + 2) + ((e.2.1.length : Nat) : Int)) = acc + (2 + ((e.2.1.length : Nat) : Int)) := by
        rw [w64 (n := acc + 2) (by omega), w64 (by omega)]; omega
      have c1 : decide (((P.length : Nat) : Int) < (((P ++ e :: l).length : Nat) : Int)) = true := decide_eq_true (by omega)
      have c2 : decide ((0 : Int) ≤ ((P.length : Nat) : Int)) = true := decide_eq_true (by omega)
      have c3 : decide (P.length < (P ++ e :: l).length) = true := decide_eq_true (by omega)
      have g := getM P e z_Ext l P.length rfl
      unfold spec_ExtsSize_s5
      dsimp only
      simp only [hE, ei, Int.toNat_natCast, c1, c2, c3, g, e1, Bool.and_self, cond_true]
    rw [iter_succ, st]
    have ih := xsS_run s l (P ++ [e]) (acc + (2 + ((e.2.1.length : Nat) : Int))) k (by rw [hE]; simp) (by simp; omega) (by simp at h; omega) (fun x hm => hx x (List.mem_cons_of_mem _ hm)) (by omega) (by omega)
    rw [show (P ++ [e]).length = P.length + 1 by simp] at ih
    rw [ih]
    show some ((), acc + (2 + ((e.2.1.length : Nat) : Int)) + xSz l, ()) = some ((), acc + ((2 + ((e.2.1.length : Nat) : Int)) + xSz l), ())
    rw [Int.add_assoc]
def hd6 (s : D_Six) : List Int := putB (1610612736 + s.1 * 1048576 + s.2.1) 4 ++ (putB (xSz (sE s) + (((sB s).length : Nat) : Int)) 2 ++ ([nxK (sE s) s.2.2.2.1 % 256, s.2.2.1 % 256] ++ (addrBy s.2.2.2.2.1 ++ addrBy s.2.2.2.2.2.1)))
def sixBy (s : D_Six) : List Int := bif sixB s then (hd6 s ++ exBy (sE s) s.2.2.2.1) ++ sB s else []
theorem six_rng {s : D_Six} (h : sixB s = true) : (0 ≤ s.1 ∧ s.1 ≤ 255) ∧ (0 ≤ s.2.1 ∧ s.2.1 ≤ 1048575) ∧ (sE s).length ≤ 3 ∧ (∀ x ∈ sE s, x.2.1.length ≤ 62) ∧ (sB s).length ≤ 1500 := by
  unfold sixB at h
  simp only [Bool.and_eq_true, inB_iff, decide_eq_true_eq] at h
  obtain ⟨h1, h2, _, _, _, _, _, h3, h4⟩ := h
  obtain ⟨b1, b2⟩ := areX_b h3
  have b3 := xSz_b _ 3 b1 b2
  exact ⟨h1, h2, b1, b2, by omega⟩
theorem hd6_len (s : D_Six) : (hd6 s).length ≤ 40 := by
  have a1 := addrBy_le s.2.2.2.2.1
  have a2 := addrBy_le s.2.2.2.2.2.1
  unfold hd6
  simp only [List.length_append, List.length_cons, List.length_nil, putB_len]; omega
theorem ors {c l : Int} (hc : 0 ≤ c ∧ c ≤ 255) (hl : 0 ≤ l ∧ l ≤ 1048575) :
    IntKind.wrap .i64 ((BitVec.ofInt (IntKind.bits .i64) (IntKind.wrap .i64 ((BitVec.ofInt (IntKind.bits .i64) 1610612736 ||| BitVec.ofInt (IntKind.bits .i64) (IntKind.wrap .i64 (c * 2 ^ min (Int.toNat 20) (IntKind.bits .i64)))).toNat : Int)) ||| BitVec.ofInt (IntKind.bits .i64) l).toNat : Int) = 1610612736 + c * 1048576 + l := by
  have e : (2 : Int) ^ min (Int.toNat 20) (IntKind.bits .i64) = 1048576 := rfl
  rw [e, w64 (n := c * 1048576) (by omega)]
  have o1 := or_add (a := 6) (b := c * 1048576) 28 (by omega) (by omega) (by show 0 ≤ c * 1048576 ∧ c * 1048576 < 268435456; omega)
  rw [show (6 : Int) * ((2 ^ 28 : Nat) : Int) = 1610612736 from rfl] at o1
  rw [o1]
  have t1 : (((1610612736 + c * 1048576).toNat : Nat) : Int) = 1610612736 + c * 1048576 := by omega
  rw [t1, w64 (n := 1610612736 + c * 1048576) (by omega)]
  have o2 := or_add (a := 1536 + c) (b := l) 20 (by omega) (by omega) (by show 0 ≤ l ∧ l < 1048576; omega)
  rw [show (1536 + c) * ((2 ^ 20 : Nat) : Int) = 1610612736 + c * 1048576 by show (1536 + c) * 1048576 = _; omega] at o2
  rw [o2]
  have t2 : (((1610612736 + c * 1048576 + l).toNat : Nat) : Int) = 1610612736 + c * 1048576 + l := by omega
  rw [t2, w64 (by omega)]
section
variable (k : Nat) (hk : MM < k) (s : D_Six) (h1 : (sE s).length ≤ 1048576) (hx : ∀ x ∈ sE s, x.2.1.length ≤ 1100000) (h2 : (sB s).length ≤ 1100000)
include hk h1 hx h2
theorem sixByI : impl_SixBytes k s = some ((sixBy s, ()), ()) := by
  have hM : MM = 1048576 := rfl
  unfold impl_SixBytes sixBy
  rw [sixOI k hk s h1 hx h2, Option.bind_some, bn]
  cases h : sixB s
  · rfl
  obtain ⟨r1, r2, b1, b2, b4⟩ := six_rng h
  have b1 : s.2.2.2.2.2.2.1.length ≤ 3 := b1
  have b2 : ∀ x ∈ s.2.2.2.2.2.2.1, x.2.1.length ≤ 62 := b2
  have b3 := xSz_b s.2.2.2.2.2.2.1 3 b1 b2
  have b4' : s.2.2.2.2.2.2.2.1.length ≤ 1500 := b4
  have hl := hd6_len s
  have a1 := addrBy_le s.2.2.2.2.1
  have a2 := addrBy_le s.2.2.2.2.2.1
  have w1 : IntKind.wrap .i64 (xSz s.2.2.2.2.2.2.1 + ((s.2.2.2.2.2.2.2.1.length : Nat) : Int)) = xSz s.2.2.2.2.2.2.1 + ((s.2.2.2.2.2.2.2.1.length : Nat) : Int) := w64 (by omega)
  have n := (nx1 s [] s.2.2.2.2.2.2.1 rfl (by simpa using b1)).1
  simp only [List.length_nil] at n
  have n' : impl_SixBytes_1 0 s = _ := n
  have c := catB k hk [putB (1610612736 + s.1 * 1048576 + s.2.1) 4, putB (xSz (sE s) + (((sB s).length : Nat) : Int)) 2, [nxK (sE s) s.2.2.2.1 % 256, s.2.2.1 % 256], addrBy s.2.2.2.2.1, addrBy s.2.2.2.2.2.1] (by simp) (by simp only [List.flatten_cons, List.flatten_nil, List.length_append, List.length_cons, List.length_nil, putB_len]; omega)
  have ce : [putB (1610612736 + s.1 * 1048576 + s.2.1) 4, putB (xSz (sE s) + (((sB s).length : Nat) : Int)) 2, [nxK (sE s) s.2.2.2.1 % 256, s.2.2.1 % 256], addrBy s.2.2.2.2.1, addrBy s.2.2.2.2.2.1].flatten = hd6 s := by
    unfold hd6; simp only [List.flatten_cons, List.flatten_nil, List.append_nil]
  rw [ce] at c
  have run := sbI_run s s.2.2.2.2.2.2.1 [] (hd6 s) k rfl (by simpa using b1) (by omega) b2 (by omega)
  simp only [List.nil_append, List.length_nil] at run
  have run' : iter impl_SixBytes_s7 k ((), (), s, hd6 s, s.2.2.2.2.2.2.1, ((s.2.2.2.2.2.2.1.length : Nat) : Int), 0, ()) = _ := run
  have xl := exBy_len s.2.2.2.2.2.2.1 s.2.2.2.1
  simp only [cond_true, esI k hk _ b1 b2, Option.bind_some, w1, ors r1 r2, put32I k hk, put16I k hk, n', wu8, addrByI k hk, c, run', List.length_append]
  exact bif_t (decide_eq_true (by omega))
theorem sixByS : spec_SixBytes k s = some ((sixBy s, ()), ()) := by
  have hM : MM = 1048576 := rfl
  unfold spec_SixBytes sixBy
  rw [sixOS k hk s hx h2, Option.bind_some, bn]
  cases h : sixB s
  · rfl
  obtain ⟨r1, r2, b1, b2, b4⟩ := six_rng h
  have b1 : s.2.2.2.2.2.2.1.length ≤ 3 := b1
  have b2 : ∀ x ∈ s.2.2.2.2.2.2.1, x.2.1.length ≤ 62 := b2
  have b3 := xSz_b s.2.2.2.2.2.2.1 3 b1 b2
  have b4' : s.2.2.2.2.2.2.2.1.length ≤ 1500 := b4
  have hl := hd6_len s
  have a1 := addrBy_le s.2.2.2.2.1
  have a2 := addrBy_le s.2.2.2.2.2.1
  have w1 : IntKind.wrap .i64 (xSz s.2.2.2.2.2.2.1 + ((s.2.2.2.2.2.2.2.1.length : Nat) : Int)) = xSz s.2.2.2.2.2.2.1 + ((s.2.2.2.2.2.2.2.1.length : Nat) : Int) := w64 (by omega)
  have w2 : IntKind.wrap .i64 (IntKind.wrap .i64 (1610612736 + IntKind.wrap .i64 (s.1 * 1048576)) + s.2.1) = 1610612736 + s.1 * 1048576 + s.2.1 := by
    rw [w64 (n := s.1 * 1048576) (by omega), w64 (n := 1610612736 + s.1 * 1048576) (by omega), w64 (by omega)]
  have n := (nx1 s [] s.2.2.2.2.2.2.1 rfl (by simpa using b1)).2
  simp only [List.length_nil] at n
  have n' : spec_l06Next s 0 = _ := n
  have xs : spec_ExtsSize k s = some ((xSz s.2.2.2.2.2.2.1, ()), ()) := by
    unfold spec_ExtsSize
    rw [sixOS k hk s hx h2, Option.bind_some, h]
    have run := xsS_run s s.2.2.2.2.2.2.1 [] 0 k rfl (by simpa using b1) (by omega) b2 (Int.le_refl 0) (by omega)
    simp only [List.length_nil, Int.zero_add] at run
    have run' : iter spec_ExtsSize_s5 k ((), s, 0, 0, ()) = _ := run
    simp only [Bool.not_true, cond_false, run', Option.bind_some]
  have run := sbS_run s s.2.2.2.2.2.2.1 [] (hd6 s) k rfl (by simpa using b1) (by omega) b2 (by omega)
  simp only [List.length_nil] at run
  have run' : iter spec_SixBytes_s9 k ((), s, hd6 s, 0, ()) = _ := run
  have xl := exBy_len s.2.2.2.2.2.2.1 s.2.2.2.1
  have he : (((putB (1610612736 + s.1 * 1048576 + s.2.1) 4 ++ putB (xSz s.2.2.2.2.2.2.1 + ((s.2.2.2.2.2.2.2.1.length : Nat) : Int)) 2) ++ [nxK s.2.2.2.2.2.2.1 s.2.2.2.1 % 256, s.2.2.1 % 256]) ++ addrBy s.2.2.2.2.1) ++ addrBy s.2.2.2.2.2.1 = hd6 s := by
    unfold hd6; simp only [List.append_assoc]
  simp only [cond_true, w2, put32S, put16S, xs, w1, n', wu8, addrByS, Option.bind_some, he, run', List.length_append, List.length_cons, List.length_nil, putB_len]
  rw [bif_t (decide_eq_true (by omega)), bif_t (decide_eq_true (by omega)), bif_t (decide_eq_true (by omega)), bif_t (decide_eq_true (by omega))]
  exact bif_t (decide_eq_true (by omega))
end
end Go.Tw
