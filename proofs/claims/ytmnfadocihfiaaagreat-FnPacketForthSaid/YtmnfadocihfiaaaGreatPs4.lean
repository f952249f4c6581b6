/- Facts on mirrors. -/
import Derived.Test.YtmnfadocihfiaaaGreatPs3
import Derived.Test.YtmnfadocihfiaaaGreatPq8
set_option linter.all false
set_option maxRecDepth 100000
set_option maxHeartbeats 4000000
namespace Go.Tw
open Go Go.RowKit
theorem getM {α : Type} : ∀ (P : List α) (x z : α) (r : List α) (n : Nat), n = P.length → (P ++ x :: r).getD n z = x
  | [], x, z, r, n, h => by subst h; rfl
  | p :: P, x, z, r, n, h => by
    subst h
    simp only [List.cons_append, List.length_cons, List.getD_cons_succ]
    exact getM P x z r P.length rfl
def xOk (i : Nat) (x : D_Ext) : Bool := exK x.1 && (!(decide (0 < i) && decide (x.1 = 0)) && (decide (Int.tmod ((x.2.1.length : Nat) : Int) 8 = 6) && decide (((x.2.1.length : Nat) : Int) ≤ 62)))
def xAll : Nat → List D_Ext → Bool
  | _, [] => true
  | i, x :: l => xOk i x && xAll (i + 1) l
def xSz : List D_Ext → Int
  | [] => 0
  | x :: l => (2 + ((x.2.1.length : Nat) : Int)) + xSz l
theorem xAll_b : ∀ (l : List D_Ext) (i : Nat), xAll i l = true → ∀ x ∈ l, x.2.1.length ≤ 62
  | [], _, _, x, h => (List.not_mem_nil h).elim
  | y :: l, i, h, x, hx => by
    unfold xAll xOk at h
    simp only [Bool.and_eq_true, decide_eq_true_eq] at h
    rcases List.mem_cons.1 hx with rfl | hx
    · omega
    · exact xAll_b l (i + 1) h.2 x hx
theorem xSz_b : ∀ (l : List D_Ext) (n : Nat), l.length ≤ n → (∀ x ∈ l, x.2.1.length ≤ 62) → 0 ≤ xSz l ∧ xSz l ≤ 64 * (n : Int)
  | [], n, _, _ => ⟨Int.le_refl 0, by show (0 : Int) ≤ _; omega⟩
  | y :: l, 0, h, _ => by simp at h
  | y :: l, n + 1, h, hx => by
    obtain ⟨a, b⟩ := xSz_b l n (by simpa using h) (fun x hm => hx x (List.mem_cons_of_mem _ hm))
    have := hx y List.mem_cons_self
    unfold xSz; omega
section
theorem aeI_run : ∀ (l P : List D_Ext) (k : Nat), P.length + l.length ≤ 1100000 → l.length < k → (∀ x ∈ P ++ l, x.2.1.length ≤ 1100000) →
    iter impl_areExts_s2 k ((), P ++ l, P ++ l, (((P ++ l).length : Nat) : Int), ((P.length : Nat) : Int), ()) = some (bif xAll P.length l then Sum.inr ((), P ++ l, ()) else Sum.inl ((), false, ()))
  | l, P, 0, _, h, _ => by omega
  | [], P, k + 1, h1, h, hx => by
    rw [iter_succ]
    have st : ∀ rec, impl_areExts_s2 rec ((), P ++ [], P ++ [], (((P ++ ([] : List D_Ext)).length : Nat) : Int), ((P.length : Nat) : Int), ()) = some (Sum.inr ((), P ++ [], ())) := fun rec => by
      unfold impl_areExts_s2; exact bif_f (decide_eq_false (by simp))
    rw [st]; rfl
  | e :: l, P, k + 1, h1, h, hx => by
    have h1' : P.length + l.length + 1 ≤ 1100000 := by have := h1; simp only [List.length_cons] at this; omega
    have hl : (P ++ e :: l).length = P.length + l.length + 1 := by simp; omega
    have he := hx e (by simp)
    have st : ∀ rec, impl_areExts_s2 rec ((), P ++ e :: l, P ++ e :: l, (((P ++ e :: l).length : Nat) : Int), ((P.length : Nat) : Int), ()) = bif xOk P.length e then rec ((), P ++ e :: l, P ++ e :: l, (((P ++ e :: l).length : Nat) : Int), ((P.length + 1 : Nat) : Int), ()) else some (Sum.inl ((), false, ())) := fun rec => by
      have ei : IntKind.wrap .i64 (((P.length : Nat) : Int) + 1) = ((P.length + 1 : Nat) : Int) := w64 (by omega)
      have c1 : decide (((P.length : Nat) : Int) < (((P ++ e :: l).length : Nat) : Int)) = true := decide_eq_true (by omega)
      have c2 : decide ((0 : Int) ≤ ((P.length : Nat) : Int)) = true := decide_eq_true (by omega)
      have c3 : decide (P.length < (P ++ e :: l).length) = true := decide_eq_true (by omega)
      have g := getM P e z_Ext l P.length rfl
      have lt : decide ((62 : Int) < ((e.2.1.length : Nat) : Int)) = !decide (((e.2.1.length : Nat) : Int) ≤ 62) := gt_not _ _
      have cp : decide ((0 : Int) < ((P.length : Nat) : Int)) = decide (0 < P.length) := decide_eq_decide.2 (by omega)
      unfold impl_areExts_s2 xOk
      simp only [exKI, ei, Int.toNat_natCast, c1, c2, c3, g, lt, cp, Bool.and_self, cond_true, Option.bind_some, bnn, bn]
      cases exK e.1
      · rfl
      cases decide (0 < P.length)
      · cases decide (Int.tmod ((e.2.1.length : Nat) : Int) 8 = 6) <;> cases decide (((e.2.1.length : Nat) : Int) ≤ 62) <;> rfl
      · cases decide (e.1 = 0) <;> cases decide (Int.tmod ((e.2.1.length : Nat) : Int) 8 = 6) <;> cases decide (((e.2.1.length : Nat) : Int) ≤ 62) <;> rfl
    rw [iter_succ, st]
    unfold xAll
    cases xOk P.length e
    · rfl
    · have ih := aeI_run l (P ++ [e]) k (by simp; omega) (by simp at h; omega) (by simpa using hx)
      simp only [List.append_assoc, List.singleton_append, List.length_append, List.length_cons, List.length_nil] at ih hl ⊢
      simp only [cond_true, Bool.true_and]
      exact ih
def areX (l : List D_Ext) : Bool := xAll 0 l && decide (((l.length : Nat) : Int) ≤ 3)
theorem aeI (k : Nat) (hk : MM < k) (l : List D_Ext) (h1 : l.length ≤ 1048576) (hx : ∀ x ∈ l, x.2.1.length ≤ 1100000) : impl_areExts k l = some ((areX l, ()), ()) := by
  have hM : MM = 1048576 := rfl
  unfold impl_areExts areX
  have run := aeI_run l [] k (by simp; omega) (by omega) (by simpa using hx)
  simp only [List.nil_append, List.length_nil] at run
  rw [show iter impl_areExts_s2 k ((), l, l, ((l.length : Nat) : Int), (0 : Int), ()) = _ from run]
  cases xAll 0 l <;> rfl
theorem esI_run : ∀ (l P : List D_Ext) (acc : Int) (k : Nat), P.length + l.length ≤ 1000 → l.length < k → (∀ x ∈ l, x.2.1.length ≤ 62) → 0 ≤ acc → acc + 64 * ((l.length : Nat) : Int) ≤ 1100000 →
    iter impl_extsSize_s3 k ((), acc, P ++ l, (((P ++ l).length : Nat) : Int), ((P.length : Nat) : Int), ()) = some ((), acc + xSz l, ())
  | l, P, acc, 0, _, h, _, _, _ => by omega
  | [], P, acc, k + 1, h1, h, hx, h0, ha => by
    rw [iter_succ]
    have st : ∀ rec, impl_extsSize_s3 rec ((), acc, P ++ [], (((P ++ ([] : List D_Ext)).length : Nat) : Int), ((P.length : Nat) : Int), ()) = some ((), acc, ()) := fun rec => by
      unfold impl_extsSize_s3; exact bif_f (decide_eq_false (by simp))
    rw [st]
    simp [xSz]
  | e :: l, P, acc, k + 1, h1, h, hx, h0, ha => by
    have h1' : P.length + l.length + 1 ≤ 1000 := by have := h1; simp only [List.length_cons] at this; omega
    have hl : (P ++ e :: l).length = P.length + l.length + 1 := by simp; omega
    have he := hx e List.mem_cons_self
    have ha' : acc + 64 * ((l.length : Nat) : Int) + 64 ≤ 1100000 := by simp only [List.length_cons] at ha; omega
    have st : ∀ rec, impl_extsSize_s3 rec ((), acc, P ++ e :: l, (((P ++ e :: l).length : Nat) : Int), ((P.length : Nat) : Int), ()) = rec ((), acc + (2 + ((e.2.1.length : Nat) : Int)), P ++ e :: l, (((P ++ e :: l).length : Nat) : Int), ((P.length + 1 : Nat) : Int), ()) := fun rec => by
      have ei : IntKind.wrap .i64 (((P.length : Nat) : Int) + 1) = ((P.length + 1 : Nat) : Int) := w64 (by omega)
      have e1 : IntKind.wrap .i64 (2 + ((e.2.1.length : Nat) : Int)) = 2 + ((e.2.1.length : Nat) : Int) := w64 (by omega)
      have e2 : IntKind.wrap .i64 (acc + (2 + ((e.2.1.length : Nat) : Int))) = acc + (2 + ((e.2.1.length : Nat) : Int)) := w64 (by omega)
      have c1 : decide (((P.length : Nat) : Int) < (((P ++ e :: l).length : Nat) : Int)) = true := decide_eq_true (by omega)
      have c2 : decide ((0 : Int) ≤ ((P.length : Nat) : Int)) = true := decide_eq_true (by omega)
      have c3 : decide (P.length < (P ++ e :: l).length) = true := decide_eq_true (by omega)
      have g := getM P e z_Ext l P.length rfl
      unfold impl_extsSize_s3
      simp only [ei, Int.toNat_natCast, c1, c2, c3, g, e1, e2, Bool.and_self, cond_true]
    rw [iter_succ, st]
    have ih := esI_run l (P ++ [e]) (acc + (2 + ((e.2.1.length : Nat) : Int))) k (by simp; omega) (by simp at h; omega) (fun x hm => hx x (List.mem_cons_of_mem _ hm)) (by omega) (by omega)
    simp only [List.append_assoc, List.singleton_append, List.length_append, List.length_cons, List.length_nil] at ih ⊢
    rw [show P.length + (0 + 1) = P.length + 1 by omega] at ih
    rw [ih]
    show some ((), acc + (2 + ((e.2.1.length : Nat) : Int)) + xSz l, ()) = some ((), acc + ((2 + ((e.2.1.length : Nat) : Int)) + xSz l), ())
    rw [Int.add_assoc]
theorem esI (k : Nat) (hk : MM < k) (l : List D_Ext) (h1 : l.length ≤ 3) (hx : ∀ x ∈ l, x.2.1.length ≤ 62) : impl_extsSize k l = some ((xSz l, ()), ()) := by
  have hM : MM = 1048576 := rfl
  unfold impl_extsSize
  have run := esI_run l [] 0 k (by simp; omega) (by omega) hx (Int.le_refl 0) (by omega)
  simp only [List.nil_append, List.length_nil] at run
  rw [show iter impl_extsSize_s3 k ((), 0, l, ((l.length : Nat) : Int), (0 : Int), ()) = _ from run]
  simp
def sixB (s : D_Six) : Bool := inB s.1 0 255 && (inB s.2.1 0 1048575 && (inB s.2.2.1 0 255 && (inB s.2.2.2.1 0 255 && (!exK s.2.2.2.1 && (ofB s.2.2.2.2.1 6 && (ofB s.2.2.2.2.2.1 6 && (areX (sE s) && decide (40 + xSz (sE s) + (((sB s).length : Nat) : Int) ≤ 1500))))))))
theorem areX_b {l : List D_Ext} (h : areX l = true) : l.length ≤ 3 ∧ ∀ x ∈ l, x.2.1.length ≤ 62 := by
  unfold areX at h
  simp only [Bool.and_eq_true, decide_eq_true_eq] at h
  exact ⟨by omega, xAll_b l 0 h.1⟩
theorem sixOI (k : Nat) (hk : MM < k) (s : D_Six) (h1 : (sE s).length ≤ 1048576) (hx : ∀ x ∈ sE s, x.2.1.length ≤ 1100000) (h2 : (sB s).length ≤ 1100000) : impl_SixOk k s = some ((sixB s, ()), ()) := by
  have h2' : s.2.2.2.2.2.2.2.1.length ≤ 1100000 := h2
  unfold impl_SixOk sixB
  simp only [byteI, inI, exKI, ofI, aeI k hk _ h1 hx, Option.bind_some, bnn, bn]
  cases ha : areX s.2.2.2.2.2.2.1
  · simp only [cond_false, andS, nandS, Bool.false_and, Bool.and_false]
  · obtain ⟨b1, b2⟩ := areX_b ha
    have b3 := xSz_b _ 3 b1 b2
    have w1 : IntKind.wrap .i64 (40 + xSz s.2.2.2.2.2.2.1) = 40 + xSz s.2.2.2.2.2.2.1 := w64 (by omega)
    have w2 : IntKind.wrap .i64 (40 + xSz s.2.2.2.2.2.2.1 + ((s.2.2.2.2.2.2.2.1.length : Nat) : Int)) = 40 + xSz s.2.2.2.2.2.2.1 + ((s.2.2.2.2.2.2.2.1.length : Nat) : Int) := w64 (by omega)
    simp only [cond_true, esI k hk _ b1 b2, w1, w2, Option.bind_some, andS, nandS, Bool.true_and]
theorem soS_run (s : D_Six) : ∀ (l P : List D_Ext) (room : Int) (k : Nat), s.2.2.2.2.2.2.1 = P ++ l → P.length + l.length ≤ 3 → l.length < k → (∀ x ∈ l, x.2.1.length ≤ 1100000) → room ≤ 1460 → -1000 ≤ room - 64 * ((l.length : Nat) : Int) →
    iter spec_SixOk_s7 k ((), s, room, ((P.length : Nat) : Int), ()) = some (bif xAll P.length l then Sum.inr ((), s, room - xSz l, ()) else Sum.inl ((), false, ()))
  | l, P, room, 0, _, _, h, _, _, _ => by omega
  | [], P, room, k + 1, hE, h1, h, hx, hr, hr2 => by
    rw [iter_succ]
    have st : ∀ rec, spec_SixOk_s7 rec ((), s, room, ((P.length : Nat) : Int), ()) = some (Sum.inr ((), s, room, ())) := fun rec => by
      unfold spec_SixOk_s7; dsimp only; rw [hE]; exact bif_f (decide_eq_false (by simp))
    rw [st]
    simp [xAll, xSz]
  | e :: l, P, room, k + 1, hE, h1, h, hx, hr, hr2 => by
    have h1' : P.length + l.length + 1 ≤ 3 := by have := h1; simp only [List.length_cons] at this; omega
    have hl : (P ++ e :: l).length = P.length + l.length + 1 := by simp; omega
    have he := hx e List.mem_cons_self
    have hr' : -1000 ≤ room - 64 * ((l.length : Nat) : Int) - 64 := by simp only [List.length_cons] at hr2; omega
    have st : ∀ rec, spec_SixOk_s7 rec ((), s, room, ((P.length : Nat) : Int), ()) = bif xOk P.length e then rec ((), s, room - (2 + ((e.2.1.length : Nat) : Int)), ((P.length + 1 : Nat) : Int), ()) else some (Sum.inl ((), false, ())) := fun rec => by
      have ei : IntKind.wrap .i64 (((P.length : Nat) : Int) + 1) = ((P.length + 1 : Nat) : Int) := w64 (by omega)
      have e1 : IntKind.wrap .i64 (IntKind.wrap .i64 (room - ((e.2.1.length : Nat) : Int)) - 2) = room - (2 + ((e.2.1.length : Nat) : Int)) := by
        rw [w64 (n := room - ((e.2.1.length : Nat) : Int)) (by omega), w64 (by omega)]; omega
      have c1 : decide (((P.length : Nat) : Int) < (((P ++ e :: l).length : Nat) : Int)) = true := decide_eq_true (by omega)
      have c2 : decide ((0 : Int) ≤ ((P.length : Nat) : Int)) = true := decide_eq_true (by omega)
      have c3 : decide (P.length < (P ++ e :: l).length) = true := decide_eq_true (by omega)
      have g := getM P e z_Ext l P.length rfl
      have lt : decide ((62 : Int) < ((e.2.1.length : Nat) : Int)) = !decide (((e.2.1.length : Nat) : Int) ≤ 62) := gt_not _ _
      have cp : decide ((0 : Int) < ((P.length : Nat) : Int)) = decide (0 < P.length) := decide_eq_decide.2 (by omega)
      unfold spec_SixOk_s7 xOk
      dsimp only
      simp only [hE, exKS, ei, Int.toNat_natCast, c1, c2, c3, g, lt, cp, e1, Bool.and_self, cond_true, Option.bind_some, bnn, bn]
      cases exK e.1
      · rfl
      cases decide (0 < P.length)
      · cases decide (e.1 = 0) <;> cases decide (Int.tmod ((e.2.1.length : Nat) : Int) 8 = 6) <;> cases decide (((e.2.1.length : Nat) : Int) ≤ 62) <;> rfl
      · cases decide (e.1 = 0) <;> cases decide (Int.tmod ((e.2.1.length : Nat) : Int) 8 = 6) <;> cases decide (((e.2.1.length : Nat) : Int) ≤ 62) <;> rfl
    rw [iter_succ, st]
    unfold xAll
    cases ho : xOk P.length e
    · rfl
    · have hb : e.2.1.length ≤ 62 := by
        unfold xOk at ho
        simp only [Bool.and_eq_true, decide_eq_true_eq] at ho
        omega
      have ih := soS_run s l (P ++ [e]) (room - (2 + ((e.2.1.length : Nat) : Int))) k (by rw [hE]; simp) (by simp; omega) (by simp at h; omega) (fun x hm => hx x (List.mem_cons_of_mem _ hm)) (by omega) (by omega)
      simp only [List.length_append, List.length_cons, List.length_nil] at ih
      simp only [cond_true, Bool.true_and]
      refine ih.trans ?_
      have er : room - (2 + ((e.2.1.length : Nat) : Int)) - xSz l = room - xSz (e :: l) := by
        rw [show xSz (e :: l) = (2 + ((e.2.1.length : Nat) : Int)) + xSz l from rfl]; omega
      rw [er]
theorem sixOS (k : Nat) (hk : MM < k) (s : D_Six) (hx : ∀ x ∈ sE s, x.2.1.length ≤ 1100000) (h2 : (sB s).length ≤ 1100000) : spec_SixOk k s = some ((sixB s, ()), ()) := by
  have hM : MM = 1048576 := rfl
  have h2' : s.2.2.2.2.2.2.2.1.length ≤ 1100000 := h2
  have inn : ∀ n : Int, spec_l06Inner n = some ((exK n, ()), ()) := exKS
  unfold spec_SixOk sixB ofB
  simp only [inS, inn, addrS, Option.bind_some, bnn, bn]
  have core : (bif decide ((3 : Int) < ((s.2.2.2.2.2.2.1.length : Nat) : Int)) then some (((false, ()), ()) : (Bool × Unit) × Unit) else (iter spec_SixOk_s7 k ((), s, (1460 : Int), (0 : Int), ())).bind fun o8 => Sum.elim (fun a9 => some ((a9.2 : Bool × Unit), ())) (fun b10 => some (((decide (((b10.2.1.2.2.2.2.2.2.2.1.length : Nat) : Int) ≤ b10.2.2.1), ()), ()) : (Bool × Unit) × Unit)) o8) = some ((areX (sE s) && decide (40 + xSz (sE s) + (((sB s).length : Nat) : Int) ≤ 1500), ()), ()) := by
    unfold areX
    rw [gt_not, bn]
    by_cases h3 : ((s.2.2.2.2.2.2.1.length : Nat) : Int) ≤ 3
    · rw [decide_eq_true h3]
      have run := soS_run s s.2.2.2.2.2.2.1 [] 1460 k rfl (by simp; omega) (by omega) hx (Int.le_refl _) (by omega)
      simp only [List.length_nil] at run
      rw [show iter spec_SixOk_s7 k ((), s, (1460 : Int), (0 : Int), ()) = _ from run]
      cases ha : xAll 0 s.2.2.2.2.2.2.1
      · rfl
      · have e : decide (((s.2.2.2.2.2.2.2.1.length : Nat) : Int) ≤ 1460 - xSz s.2.2.2.2.2.2.1) = decide (40 + xSz s.2.2.2.2.2.2.1 + ((s.2.2.2.2.2.2.2.1.length : Nat) : Int) ≤ 1500) := decide_eq_decide.2 (by omega)
        simp only [cond_true, Option.bind_some, Sum.elim_inr, Bool.and_true, Bool.true_and, e]
    · rw [decide_eq_false h3, Bool.and_false]; rfl
  rw [core]
  simp only [andS, nandS]
  refine pk1 ?_
  ac_rfl
def nxK : List D_Ext → Int → Int
  | [], p => p
  | x :: _, _ => x.1
def exBy : List D_Ext → Int → List Int
  | [], _ => []
  | x :: l, p => [nxK l p % 256, ((2 + ((x.2.1.length : Nat) : Int)) / 8 - 1) % 256] ++ (x.2.1 ++ exBy l p)
theorem exBy_len : ∀ (l : List D_Ext) (p : Int), (((exBy l p).length : Nat) : Int) = xSz l
  | [], _ => rfl
  | x :: l, p => by
    have := exBy_len l p
    unfold exBy xSz
    simp only [List.length_append, List.length_cons, List.length_nil]
    omega
theorem nx1 (s : D_Six) (P l : List D_Ext) (hE : s.2.2.2.2.2.2.1 = P ++ l) (h : P.length + l.length ≤ 3) : impl_SixBytes_1 ((P.length : Nat) : Int) s = some ((nxK l s.2.2.2.1 % 256, ()), ()) ∧ spec_l06Next s ((P.length : Nat) : Int) = some ((nxK l s.2.2.2.1 % 256, ()), ()) := by
  have c2 : decide ((0 : Int) ≤ ((P.length : Nat) : Int)) = true := decide_eq_true (by omega)
  cases l with
  | nil =>
    have c1 : decide (((P.length : Nat) : Int) < (((P ++ ([] : List D_Ext)).length : Nat) : Int)) = false := decide_eq_false (by simp)
    constructor
    · unfold impl_SixBytes_1; simp only [hE, c1, cond_false, wu8]; rfl
    · unfold spec_l06Next; simp only [hE, c1, cond_false, wu8]; rfl
  | cons e l =>
    have c1 : decide (((P.length : Nat) : Int) < (((P ++ e :: l).length : Nat) : Int)) = true := decide_eq_true (by simp; omega)
    have c3 : decide (P.length < (P ++ e :: l).length) = true := decide_eq_true (by simp)
    have g := getM P e z_Ext l P.length rfl
    constructor
    · unfold impl_SixBytes_1; simp only [hE, c1, c2, c3, g, Int.toNat_natCast, Bool.and_self, cond_true, wu8]; rfl
    · unfold spec_l06Next; simp only [hE, c1, c2, c3, g, Int.toNat_natCast, Bool.and_self, cond_true, wu8]; rfl
end
end Go.Tw
