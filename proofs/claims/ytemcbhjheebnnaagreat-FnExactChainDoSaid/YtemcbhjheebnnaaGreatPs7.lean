/- Facts on mirrors. -/
import Derived.Test.YtemcbhjheebnnaaGreatPs3
import Derived.Test.YtemcbhjheebnnaaGreatPq9
import Derived.Test.YtemcbhjheebnnaaGreatPq5
set_option linter.all false
set_option maxRecDepth 100000
namespace Go.Tw
open Go Go.RowKit
open Go.IntKind renaming wrap → Wr
section
set_option maxHeartbeats 4000000
theorem getM {α : Type} : ∀ (P : List α) (x z : α) (r : List α) (n : Nat), n = P.length → (P ++ x :: r).getD n z = x
  | [], x, z, r, n, h => by subst h; rfl
  | p :: P, x, z, r, n, h => by
    subst h
    simp only [List.cons_append, List.length_cons, List.getD_cons_succ]
    exact getM P x z r P.length rfl
def AO (i : Nat) (x : aB) : Bool := vh x.1 && (!(decide (0 < i) && decide (x.1 = 0)) && (decide (Int.tmod (x.2.1.length : Int) 8 = 6) && decide ((x.2.1.length : Int) ≤ 62)))
def xAll : Nat → List aB → Bool
  | _, [] => true
  | i, x :: l => AO i x && xAll (i + 1) l
def xSz : List aB → Int
  | [] => 0
  | x :: l => (2 + (x.2.1.length : Int)) + xSz l
theorem Eh : ∀ (l : List aB) (i : Nat), xAll i l = true → ∀ x ∈ l, x.2.1.length ≤ 62
  | [], _, _, x, h => (List.not_mem_nil h).elim
  | y :: l, i, h, x, hx => by
    unfold xAll AO at h
    simp only [aA, bF] at h
    rcases List.mem_cons.1 hx with rfl | hx
    · omega
    · exact Eh l (i + 1) h.2 x hx
theorem rO : ∀ (l : List aB) (n : Nat), l.length ≤ n → (∀ x ∈ l, x.2.1.length ≤ 62) → 0 ≤ xSz l ∧ xSz l ≤ 64 * (n : Int)
  | [], n, _, _ => ⟨Int.le_refl 0, by show (0 : Int) ≤ _; omega⟩
  | y :: l, 0, h, _ => by simp at h
  | y :: l, n + 1, h, hx => by
    obtain ⟨a, b⟩ := rO l n (by simpa using h) (fun x hm => hx x (List.mem_cons_of_mem _ hm))
    have := hx y List.mem_cons_self
    unfold xSz; omega
section
theorem zs : ∀ (l P : List aB) (k : Nat), P.length + l.length ≤ 1100000 → l.length < k → (∀ x ∈ P ++ l, x.2.1.length ≤ 1100000) →
    iter dc k ((), P ++ l, P ++ l, (((P ++ l).length : Nat) : Int), (P.length : Int), ()) = some (bif xAll P.length l then Sum.inr ((), P ++ l, ()) else Sum.inl ((), false, ()))
  | l, P, 0, _, h, _ => by omega
  | [], P, k + 1, h1, h, hx => by
    rw [bd]
    have st : ∀ rec, dc rec ((), P ++ [], P ++ [], (((P ++ ([] : List aB)).length : Nat) : Int), (P.length : Int), ()) = some (Sum.inr ((), P ++ [], ())) := fun rec => by
      unfold dc; exact aK (ao (by simp))
    rw [st]; rfl
  | e :: l, P, k + 1, h1, h, hx => by
    have h1' : P.length + l.length + 1 ≤ 1100000 := by have := h1; simp only [List.length_cons] at this; omega
    have hl : (P ++ e :: l).length = P.length + l.length + 1 := by simp; omega
    have he := hx e (by simp)
    have st : ∀ rec, dc rec ((), P ++ e :: l, P ++ e :: l, (((P ++ e :: l).length : Nat) : Int), (P.length : Int), ()) = bif AO P.length e then rec ((), P ++ e :: l, P ++ e :: l, (((P ++ e :: l).length : Nat) : Int), ((P.length + 1 : Nat) : Int), ()) else some (Sum.inl ((), false, ())) := fun rec => by
      have ei : Wr .i64 ((P.length : Int) + 1) = ((P.length + 1 : Nat) : Int) := bL (by omega)
      have c1 : decide ((P.length : Int) < (((P ++ e :: l).length : Nat) : Int)) = true := ae (by omega)
      have c2 : decide ((0 : Int) ≤ (P.length : Int)) = true := ae (by omega)
      have c3 : decide (P.length < (P ++ e :: l).length) = true := ae (by omega)
      have g := getM P e cF l P.length rfl
      have lt : decide ((62 : Int) < (e.2.1.length : Int)) = !decide ((e.2.1.length : Int) ≤ 62) := jD _ _
      have cp : decide ((0 : Int) < (P.length : Int)) = decide (0 < P.length) := decide_eq_decide.2 (by omega)
      unfold dc AO
      simp only [M6, ei, Int.toNat_natCast, c1, c2, c3, g, lt, cp, Bool.and_self, ag, ai, pJ, bn]
      cases vh e.1
      · rfl
      cases decide (0 < P.length)
      · cases decide (Int.tmod (e.2.1.length : Int) 8 = 6) <;> cases decide ((e.2.1.length : Int) ≤ 62) <;> rfl
      · cases decide (e.1 = 0) <;> cases decide (Int.tmod (e.2.1.length : Int) 8 = 6) <;> cases decide ((e.2.1.length : Int) ≤ 62) <;> rfl
    rw [bd, st]
    unfold xAll
    cases AO P.length e
    · rfl
    · have ih := zs l (P ++ [e]) k (by simp; omega) (by simp at h; omega) (by simpa using hx)
      simp only [List.append_assoc, List.singleton_append, aT, List.length_cons, List.length_nil] at ih hl ⊢
      simp only [ag, Bool.true_and]
      exact ih
def sP (l : List aB) : Bool := xAll 0 l && decide ((l.length : Int) ≤ 3)
theorem RE (k : Nat) (hk : MM < k) (l : List aB) (h1 : l.length ≤ 1048576) (hx : ∀ x ∈ l, x.2.1.length ≤ 1100000) : kx k l = some ((sP l, ()), ()) := by
  have hM : MM = 1048576 := rfl
  unfold kx sP
  have run := zs l [] k (by simp; omega) (by omega) (by simpa using hx)
  simp only [List.nil_append, List.length_nil] at run
  rw [show iter dc k ((), l, l, (l.length : Int), (0 : Int), ()) = _ from run]
  cases xAll 0 l <;> rfl
theorem zt : ∀ (l P : List aB) (acc : Int) (k : Nat), P.length + l.length ≤ 1000 → l.length < k → (∀ x ∈ l, x.2.1.length ≤ 62) → 0 ≤ acc → acc + 64 * (l.length : Int) ≤ 1100000 →
    iter cT k ((), acc, P ++ l, (((P ++ l).length : Nat) : Int), (P.length : Int), ()) = some ((), acc + xSz l, ())
  | l, P, acc, 0, _, h, _, _, _ => by omega
  | [], P, acc, k + 1, h1, h, hx, h0, ha => by
    rw [bd]
    have st : ∀ rec, cT rec ((), acc, P ++ [], (((P ++ ([] : List aB)).length : Nat) : Int), (P.length : Int), ()) = some ((), acc, ()) := fun rec => by
      unfold cT; exact aK (ao (by simp))
    rw [st]
    simp [xSz]
  | e :: l, P, acc, k + 1, h1, h, hx, h0, ha => by
    have h1' : P.length + l.length + 1 ≤ 1000 := by have := h1; simp only [List.length_cons] at this; omega
    have hl : (P ++ e :: l).length = P.length + l.length + 1 := by simp; omega
    have he := hx e List.mem_cons_self
    have ha' : acc + 64 * (l.length : Int) + 64 ≤ 1100000 := by simp only [List.length_cons] at ha; omega
    have st : ∀ rec, cT rec ((), acc, P ++ e :: l, (((P ++ e :: l).length : Nat) : Int), (P.length : Int), ()) = rec ((), acc + (2 + (e.2.1.length : Int)), P ++ e :: l, (((P ++ e :: l).length : Nat) : Int), ((P.length + 1 : Nat) : Int), ()) := fun rec => by
      have ei : Wr .i64 ((P.length : Int) + 1) = ((P.length + 1 : Nat) : Int) := bL (by omega)
      have e1 : Wr .i64 (2 + (e.2.1.length : Int)) = 2 + (e.2.1.length : Int) := bL (by omega)
      have e2 : Wr .i64 (acc + (2 + (e.2.1.length : Int))) = acc + (2 + (e.2.1.length : Int)) := bL (by omega)
      have c1 : decide ((P.length : Int) < (((P ++ e :: l).length : Nat) : Int)) = true := ae (by omega)
      have c2 : decide ((0 : Int) ≤ (P.length : Int)) = true := ae (by omega)
      have c3 : decide (P.length < (P ++ e :: l).length) = true := ae (by omega)
      have g := getM P e cF l P.length rfl
      unfold cT
      simp only [ei, Int.toNat_natCast, c1, c2, c3, g, e1, e2, Bool.and_self, ag]
    rw [bd, st]
    have ih := zt l (P ++ [e]) (acc + (2 + (e.2.1.length : Int))) k (by simp; omega) (by simp at h; omega) (fun x hm => hx x (List.mem_cons_of_mem _ hm)) (by omega) (by omega)
    simp only [List.append_assoc, List.singleton_append, aT, List.length_cons, List.length_nil] at ih ⊢
    rw [show P.length + (0 + 1) = P.length + 1 by omega] at ih
    rw [ih]
    show some ((), acc + (2 + (e.2.1.length : Int)) + xSz l, ()) = some ((), acc + ((2 + (e.2.1.length : Int)) + xSz l), ())
    rw [Int.add_assoc]
theorem Qz (k : Nat) (hk : MM < k) (l : List aB) (h1 : l.length ≤ 3) (hx : ∀ x ∈ l, x.2.1.length ≤ 62) : iF k l = some ((xSz l, ()), ()) := by
  have hM : MM = 1048576 := rfl
  unfold iF
  have run := zt l [] 0 k (by simp; omega) (by omega) hx (Int.le_refl 0) (by omega)
  simp only [List.nil_append, List.length_nil] at run
  rw [show iter cT k ((), 0, l, (l.length : Int), (0 : Int), ()) = _ from run]
  simp
def lL (s : bc) : Bool := gq s.1 0 255 && (gq s.2.1 0 1048575 && (gq s.2.2.1 0 255 && (gq s.2.2.2.1 0 255 && (!vh s.2.2.2.1 && (vg s.2.2.2.2.1 6 && (vg s.2.2.2.2.2.1 6 && (sP (sE s) && decide (40 + xSz (sE s) + (((sB s).length : Nat) : Int) ≤ 1500))))))))
theorem ye {l : List aB} (h : sP l = true) : l.length ≤ 3 ∧ ∀ x ∈ l, x.2.1.length ≤ 62 := by
  unfold sP at h
  simp only [aA, bF] at h
  exact ⟨by omega, Eh l 0 h.1⟩
theorem IA (k : Nat) (hk : MM < k) (s : bc) (h1 : (sE s).length ≤ 1048576) (hx : ∀ x ∈ sE s, x.2.1.length ≤ 1100000) (h2 : (sB s).length ≤ 1100000) : kK k s = some ((lL s, ()), ()) := by
  have h2' : s.2.2.2.2.2.2.2.1.length ≤ 1100000 := h2
  unfold kK lL
  simp only [kf, uD, M6, Qu, RE k hk _ h1 hx, ai, pJ, bn]
  cases ha : sP s.2.2.2.2.2.2.1
  · simp only [al, ka, ll, Bool.false_and, Bool.and_false]
  · obtain ⟨b1, b2⟩ := ye ha
    have b3 := rO _ 3 b1 b2
    have w1 : Wr .i64 (40 + xSz s.2.2.2.2.2.2.1) = 40 + xSz s.2.2.2.2.2.2.1 := bL (by omega)
    have w2 : Wr .i64 (40 + xSz s.2.2.2.2.2.2.1 + (s.2.2.2.2.2.2.2.1.length : Int)) = 40 + xSz s.2.2.2.2.2.2.1 + (s.2.2.2.2.2.2.2.1.length : Int) := bL (by omega)
    simp only [ag, Qz k hk _ b1 b2, w1, w2, ai, ka, ll, Bool.true_and]
theorem zu (s : bc) : ∀ (l P : List aB) (room : Int) (k : Nat), s.2.2.2.2.2.2.1 = P ++ l → P.length + l.length ≤ 3 → l.length < k → (∀ x ∈ l, x.2.1.length ≤ 1100000) → room ≤ 1460 → -1000 ≤ room - 64 * (l.length : Int) →
    iter dr k ((), s, room, (P.length : Int), ()) = some (bif xAll P.length l then Sum.inr ((), s, room - xSz l, ()) else Sum.inl ((), false, ()))
  | l, P, room, 0, _, _, h, _, _, _ => by omega
  | [], P, room, k + 1, hE, h1, h, hx, hr, hr2 => by
    rw [bd]
    have st : ∀ rec, dr rec ((), s, room, (P.length : Int), ()) = some (Sum.inr ((), s, room, ())) := fun rec => by
      unfold dr; dsimp only; rw [hE]; exact aK (ao (by simp))
    rw [st]
    simp [xAll, xSz]
  | e :: l, P, room, k + 1, hE, h1, h, hx, hr, hr2 => by
    have h1' : P.length + l.length + 1 ≤ 3 := by have := h1; simp only [List.length_cons] at this; omega
    have hl : (P ++ e :: l).length = P.length + l.length + 1 := by simp; omega
    have he := hx e List.mem_cons_self
    have hr' : -1000 ≤ room - 64 * (l.length : Int) - 64 := by simp only [List.length_cons] at hr2; omega
    have st : ∀ rec, dr rec ((), s, room, (P.length : Int), ()) = bif AO P.length e then rec ((), s, room - (2 + (e.2.1.length : Int)), ((P.length + 1 : Nat) : Int), ()) else some (Sum.inl ((), false, ())) := fun rec => by
      have ei : Wr .i64 ((P.length : Int) + 1) = ((P.length + 1 : Nat) : Int) := bL (by omega)
      have e1 : Wr .i64 (Wr .i64 (room - (e.2.1.length : Int)) - 2) = room - (2 + (e.2.1.length : Int)) := by
        rw [bL (n := room - (e.2.1.length : Int)) (by omega), bL (by omega)]; omega
      have c1 : decide ((P.length : Int) < (((P ++ e :: l).length : Nat) : Int)) = true := ae (by omega)
      have c2 : decide ((0 : Int) ≤ (P.length : Int)) = true := ae (by omega)
      have c3 : decide (P.length < (P ++ e :: l).length) = true := ae (by omega)
      have g := getM P e cF l P.length rfl
      have lt : decide ((62 : Int) < (e.2.1.length : Int)) = !decide ((e.2.1.length : Int) ≤ 62) := jD _ _
      have cp : decide ((0 : Int) < (P.length : Int)) = decide (0 < P.length) := decide_eq_decide.2 (by omega)
      unfold dr AO
      dsimp only
      simp only [hE, Jw, ei, Int.toNat_natCast, c1, c2, c3, g, lt, cp, e1, Bool.and_self, ag, ai, pJ, bn]
      cases vh e.1
      · rfl
      cases decide (0 < P.length)
      · cases decide (e.1 = 0) <;> cases decide (Int.tmod (e.2.1.length : Int) 8 = 6) <;> cases decide ((e.2.1.length : Int) ≤ 62) <;> rfl
      · cases decide (e.1 = 0) <;> cases decide (Int.tmod (e.2.1.length : Int) 8 = 6) <;> cases decide ((e.2.1.length : Int) ≤ 62) <;> rfl
    rw [bd, st]
    unfold xAll
    cases ho : AO P.length e
    · rfl
    · have hb : e.2.1.length ≤ 62 := by
        unfold AO at ho
        simp only [aA, bF] at ho
        omega
      have ih := zu s l (P ++ [e]) (room - (2 + (e.2.1.length : Int))) k (by rw [hE]; simp) (by simp; omega) (by simp at h; omega) (fun x hm => hx x (List.mem_cons_of_mem _ hm)) (by omega) (by omega)
      simp only [aT, List.length_cons, List.length_nil] at ih
      simp only [ag, Bool.true_and]
      refine ih.trans ?_
      have er : room - (2 + (e.2.1.length : Int)) - xSz l = room - xSz (e :: l) := by
        rw [show xSz (e :: l) = (2 + (e.2.1.length : Int)) + xSz l from rfl]; omega
      rw [er]
theorem zc (k : Nat) (hk : MM < k) (s : bc) (hx : ∀ x ∈ sE s, x.2.1.length ≤ 1100000) (h2 : (sB s).length ≤ 1100000) : iS k s = some ((lL s, ()), ()) := by
  have hM : MM = 1048576 := rfl
  have h2' : s.2.2.2.2.2.2.2.1.length ≤ 1100000 := h2
  have mJ : ∀ n : Int, fJ n = some ((vh n, ()), ()) := Jw
  unfold iS lL vg
  simp only [oc, mJ, rb, ai, pJ, bn]
  have core : (bif decide ((3 : Int) < (s.2.2.2.2.2.2.1.length : Int)) then some (((false, ()), ()) : (Bool × Unit) × Unit) else (iter dr k ((), s, (1460 : Int), (0 : Int), ())).bind fun o8 => Sum.elim (fun a9 => some ((a9.2 : Bool × Unit), ())) (fun b10 => some (((decide ((b10.2.1.2.2.2.2.2.2.2.1.length : Int) ≤ b10.2.2.1), ()), ()) : (Bool × Unit) × Unit)) o8) = some ((sP (sE s) && decide (40 + xSz (sE s) + (((sB s).length : Nat) : Int) ≤ 1500), ()), ()) := by
    unfold sP
    rw [jD, bn]
    by_cases h3 : (s.2.2.2.2.2.2.1.length : Int) ≤ 3
    · rw [ae h3]
      have run := zu s s.2.2.2.2.2.2.1 [] 1460 k rfl (by simp; omega) (by omega) hx (Int.le_refl _) (by omega)
      simp only [List.length_nil] at run
      rw [show iter dr k ((), s, (1460 : Int), (0 : Int), ()) = _ from run]
      cases ha : xAll 0 s.2.2.2.2.2.2.1
      · rfl
      · have e : decide ((s.2.2.2.2.2.2.2.1.length : Int) ≤ 1460 - xSz s.2.2.2.2.2.2.1) = decide (40 + xSz s.2.2.2.2.2.2.1 + (s.2.2.2.2.2.2.2.1.length : Int) ≤ 1500) := decide_eq_decide.2 (by omega)
        simp only [ag, ai, Sum.elim_inr, Bool.and_true, Bool.true_and, e]
    · rw [ao h3, Bool.and_false]; rfl
  rw [core]
  simp only [ka, ll]
  refine AN ?_
  ac_rfl
def nxK : List aB → Int → Int
  | [], p => p
  | x :: _, _ => x.1
def fp : List aB → Int → List Int
  | [], _ => []
  | x :: l, p => [nxK l p % 256, ((2 + (x.2.1.length : Int)) / 8 - 1) % 256] ++ (x.2.1 ++ fp l p)
theorem nf : ∀ (l : List aB) (p : Int), (((fp l p).length : Nat) : Int) = xSz l
  | [], _ => rfl
  | x :: l, p => by
    have := nf l p
    unfold fp xSz
    simp only [aT, List.length_cons, List.length_nil]
    omega
theorem NL (s : bc) (P l : List aB) (hE : s.2.2.2.2.2.2.1 = P ++ l) (h : P.length + l.length ≤ 3) : eC (P.length : Int) s = some ((nxK l s.2.2.2.1 % 256, ()), ()) ∧ gw s (P.length : Int) = some ((nxK l s.2.2.2.1 % 256, ()), ()) := by
  have c2 : decide ((0 : Int) ≤ (P.length : Int)) = true := ae (by omega)
  cases l with
  | nil =>
    have c1 : decide ((P.length : Int) < (((P ++ ([] : List aB)).length : Nat) : Int)) = false := ao (by simp)
    constructor
    · unfold eC; simp only [hE, c1, al, lF]; rfl
    · unfold gw; simp only [hE, c1, al, lF]; rfl
  | cons e l =>
    have c1 : decide ((P.length : Int) < (((P ++ e :: l).length : Nat) : Int)) = true := ae (by simp; omega)
    have c3 : decide (P.length < (P ++ e :: l).length) = true := ae (by simp)
    have g := getM P e cF l P.length rfl
    constructor
    · unfold eC; simp only [hE, c1, c2, c3, g, Int.toNat_natCast, Bool.and_self, ag, lF]; rfl
    · unfold gw; simp only [hE, c1, c2, c3, g, Int.toNat_natCast, Bool.and_self, ag, lF]; rfl
end
end
section
set_option maxHeartbeats 4000000
theorem zw (s : bc) : ∀ (l P : List aB) (out : List Int) (k : Nat), s.2.2.2.2.2.2.1 = P ++ l → P.length + l.length ≤ 3 → l.length < k → (∀ x ∈ l, x.2.1.length ≤ 62) → out.length + 64 * l.length ≤ 1000 →
    iter cU k ((), (), s, out, P ++ l, (((P ++ l).length : Nat) : Int), (P.length : Int), ()) = some ((), s, out ++ fp l s.2.2.2.1, ())
  | l, P, out, 0, _, _, h, _, _ => by omega
  | [], P, out, k + 1, hE, h1, h, hx, ho => by
    rw [bd]
    have st : ∀ rec, cU rec ((), (), s, out, P ++ [], (((P ++ ([] : List aB)).length : Nat) : Int), (P.length : Int), ()) = some ((), s, out, ()) := fun rec => by
      unfold cU; exact aK (ao (by simp))
    rw [st]
    simp [fp]
  | e :: l, P, out, k + 1, hE, h1, h, hx, ho => by
    have h1' : P.length + l.length + 1 ≤ 3 := by have := h1; simp only [List.length_cons] at this; omega
    have hl : (P ++ e :: l).length = P.length + l.length + 1 := by simp; omega
    have he := hx e List.mem_cons_self
    have ho' : out.length + 64 * l.length + 64 ≤ 1000 := by simp only [List.length_cons] at ho; omega
    have st : ∀ rec, cU rec ((), (), s, out, P ++ e :: l, (((P ++ e :: l).length : Nat) : Int), (P.length : Int), ()) = rec ((), (), s, (out ++ [nxK l s.2.2.2.1 % 256, ((2 + (e.2.1.length : Int)) / 8 - 1) % 256]) ++ e.2.1, P ++ e :: l, (((P ++ e :: l).length : Nat) : Int), ((P.length + 1 : Nat) : Int), ()) := fun rec => by
      have ei : Wr .i64 ((P.length : Int) + 1) = ((P.length + 1 : Nat) : Int) := bL (by omega)
      have e1 : Wr .i64 (2 + (e.2.1.length : Int)) = 2 + (e.2.1.length : Int) := bL (by omega)
      have e2 : Int.tdiv (2 + (e.2.1.length : Int)) 8 = (2 + (e.2.1.length : Int)) / 8 := Int.tdiv_eq_ediv_of_nonneg (by omega)
      have e3 : Wr .i64 (Wr .i64 ((2 + (e.2.1.length : Int)) / 8) - 1) = (2 + (e.2.1.length : Int)) / 8 - 1 := by
        rw [bL (n := (2 + (e.2.1.length : Int)) / 8) (by omega), bL (by omega)]
      have c1 : decide ((P.length : Int) < (((P ++ e :: l).length : Nat) : Int)) = true := ae (by omega)
      have c2 : decide ((0 : Int) ≤ (P.length : Int)) = true := ae (by omega)
      have c3 : decide (P.length < (P ++ e :: l).length) = true := ae (by omega)
      have g := getM P e cF l P.length rfl
      have n := (NL s (P ++ [e]) l (by rw [hE]; simp) (by simp; omega)).1
      simp only [aT, List.length_cons, List.length_nil] at n
      rw [show P.length + (0 + 1) = P.length + 1 by omega] at n
      unfold cU
      simp only [ei, Int.toNat_natCast, c1, c2, c3, g, n, e1, e2, e3, lF, Bool.and_self, ag, ai]
      rw [aw (ae (by omega)), aw (ae (by simp only [aT, List.length_cons, List.length_nil]; omega))]
    rw [bd, st]
    have ih := zw s l (P ++ [e]) ((out ++ [nxK l s.2.2.2.1 % 256, ((2 + (e.2.1.length : Int)) / 8 - 1) % 256]) ++ e.2.1) k (by rw [hE]; simp) (by simp; omega) (by simp at h; omega) (fun x hm => hx x (List.mem_cons_of_mem _ hm)) (by simp only [aT, List.length_cons, List.length_nil]; omega)
    have ea : (P ++ [e]) ++ l = P ++ e :: l := by simp
    rw [ea, show (P ++ [e]).length = P.length + 1 by simp] at ih
    rw [ih]
    show some ((), s, ((out ++ [nxK l s.2.2.2.1 % 256, ((2 + (e.2.1.length : Int)) / 8 - 1) % 256]) ++ e.2.1) ++ fp l s.2.2.2.1, ()) = some ((), s, out ++ ([nxK l s.2.2.2.1 % 256, ((2 + (e.2.1.length : Int)) / 8 - 1) % 256] ++ (e.2.1 ++ fp l s.2.2.2.1)), ())
    simp only [List.append_assoc]
theorem zx (s : bc) : ∀ (l P : List aB) (out : List Int) (k : Nat), s.2.2.2.2.2.2.1 = P ++ l → P.length + l.length ≤ 3 → l.length < k → (∀ x ∈ l, x.2.1.length ≤ 62) → out.length + 64 * l.length ≤ 1000 →
    iter cQ k ((), s, out, (P.length : Int), ()) = some ((), s, out ++ fp l s.2.2.2.1, ())
  | l, P, out, 0, _, _, h, _, _ => by omega
  | [], P, out, k + 1, hE, h1, h, hx, ho => by
    rw [bd]
    have st : ∀ rec, cQ rec ((), s, out, (P.length : Int), ()) = some ((), s, out, ()) := fun rec => by
      unfold cQ; dsimp only; rw [hE]; exact aK (ao (by simp))
    rw [st]
    simp [fp]
  | e :: l, P, out, k + 1, hE, h1, h, hx, ho => by
    have h1' : P.length + l.length + 1 ≤ 3 := by have := h1; simp only [List.length_cons] at this; omega
    have hl : (P ++ e :: l).length = P.length + l.length + 1 := by simp; omega
    have he := hx e List.mem_cons_self
    have ho' : out.length + 64 * l.length + 64 ≤ 1000 := by simp only [List.length_cons] at ho; omega
    have st : ∀ rec, cQ rec ((), s, out, (P.length : Int), ()) = rec ((), s, (out ++ [nxK l s.2.2.2.1 % 256, ((2 + (e.2.1.length : Int)) / 8 - 1) % 256]) ++ e.2.1, ((P.length + 1 : Nat) : Int), ()) := fun rec => by
      have ei : Wr .i64 ((P.length : Int) + 1) = ((P.length + 1 : Nat) : Int) := bL (by omega)
      have e1 : Wr .i64 (2 + (e.2.1.length : Int)) = 2 + (e.2.1.length : Int) := bL (by omega)
      have e2 : Int.tdiv (2 + (e.2.1.length : Int)) 8 = (2 + (e.2.1.length : Int)) / 8 := Int.tdiv_eq_ediv_of_nonneg (by omega)
      have e3 : Wr .i64 (Wr .i64 ((2 + (e.2.1.length : Int)) / 8) - 1) = (2 + (e.2.1.length : Int)) / 8 - 1 := by
        rw [bL (n := (2 + (e.2.1.length : Int)) / 8) (by omega), bL (by omega)]
      have c1 : decide ((P.length : Int) < (((P ++ e :: l).length : Nat) : Int)) = true := ae (by omega)
      have c2 : decide ((0 : Int) ≤ (P.length : Int)) = true := ae (by omega)
      have c3 : decide (P.length < (P ++ e :: l).length) = true := ae (by omega)
      have g := getM P e cF l P.length rfl
      have n := (NL s (P ++ [e]) l (by rw [hE]; simp) (by simp; omega)).2
      simp only [aT, List.length_cons, List.length_nil] at n
      rw [show P.length + (0 + 1) = P.length + 1 by omega] at n
      unfold cQ
      dsimp only
      simp only [hE, ei, Int.toNat_natCast, c1, c2, c3, g, n, e1, e2, e3, lF, Bool.and_self, ag, ai]
      rw [aw (ae (by omega)), aw (ae (by simp only [aT, List.length_cons, List.length_nil]; omega))]
    rw [bd, st]
    have ih := zx s l (P ++ [e]) ((out ++ [nxK l s.2.2.2.1 % 256, ((2 + (e.2.1.length : Int)) / 8 - 1) % 256]) ++ e.2.1) k (by rw [hE]; simp) (by simp; omega) (by simp at h; omega) (fun x hm => hx x (List.mem_cons_of_mem _ hm)) (by simp only [aT, List.length_cons, List.length_nil]; omega)
    rw [show (P ++ [e]).length = P.length + 1 by simp] at ih
    rw [ih]
    show some ((), s, ((out ++ [nxK l s.2.2.2.1 % 256, ((2 + (e.2.1.length : Int)) / 8 - 1) % 256]) ++ e.2.1) ++ fp l s.2.2.2.1, ()) = some ((), s, out ++ ([nxK l s.2.2.2.1 % 256, ((2 + (e.2.1.length : Int)) / 8 - 1) % 256] ++ (e.2.1 ++ fp l s.2.2.2.1)), ())
    simp only [List.append_assoc]
theorem zy (s : bc) : ∀ (l P : List aB) (acc : Int) (k : Nat), s.2.2.2.2.2.2.1 = P ++ l → P.length + l.length ≤ 3 → l.length < k → (∀ x ∈ l, x.2.1.length ≤ 62) → 0 ≤ acc → acc + 64 * (l.length : Int) ≤ 1000 →
    iter cP k ((), s, acc, (P.length : Int), ()) = some ((), acc + xSz l, ())
  | l, P, acc, 0, _, _, h, _, _, _ => by omega
  | [], P, acc, k + 1, hE, h1, h, hx, h0, ha => by
    rw [bd]
    have st : ∀ rec, cP rec ((), s, acc, (P.length : Int), ()) = some ((), acc, ()) := fun rec => by
      unfold cP; dsimp only; rw [hE]; exact aK (ao (by simp))
    rw [st]
    simp [xSz]
  | e :: l, P, acc, k + 1, hE, h1, h, hx, h0, ha => by
    have h1' : P.length + l.length + 1 ≤ 3 := by have := h1; simp only [List.length_cons] at this; omega
    have hl : (P ++ e :: l).length = P.length + l.length + 1 := by simp; omega
    have he := hx e List.mem_cons_self
    have ha' : acc + 64 * (l.length : Int) + 64 ≤ 1000 := by simp only [List.length_cons] at ha; omega
    have st : ∀ rec, cP rec ((), s, acc, (P.length : Int), ()) = rec ((), s, acc + (2 + (e.2.1.length : Int)), ((P.length + 1 : Nat) : Int), ()) := fun rec => by
      have ei : Wr .i64 ((P.length : Int) + 1) = ((P.length + 1 : Nat) : Int) := bL (by omega)
      have e1 : Wr .i64 (Wr .i64 (acc + 2) + (e.2.1.length : Int)) = acc + (2 + (e.2.1.length : Int)) := by
        rw [bL (n := acc + 2) (by omega), bL (by omega)]; omega
      have c1 : decide ((P.length : Int) < (((P ++ e :: l).length : Nat) : Int)) = true := ae (by omega)
      have c2 : decide ((0 : Int) ≤ (P.length : Int)) = true := ae (by omega)
      have c3 : decide (P.length < (P ++ e :: l).length) = true := ae (by omega)
      have g := getM P e cF l P.length rfl
      unfold cP
      dsimp only
      simp only [hE, ei, Int.toNat_natCast, c1, c2, c3, g, e1, Bool.and_self, ag]
    rw [bd, st]
    have ih := zy s l (P ++ [e]) (acc + (2 + (e.2.1.length : Int))) k (by rw [hE]; simp) (by simp; omega) (by simp at h; omega) (fun x hm => hx x (List.mem_cons_of_mem _ hm)) (by omega) (by omega)
    rw [show (P ++ [e]).length = P.length + 1 by simp] at ih
    rw [ih]
    show some ((), acc + (2 + (e.2.1.length : Int)) + xSz l, ()) = some ((), acc + ((2 + (e.2.1.length : Int)) + xSz l), ())
    rw [Int.add_assoc]
def vI (s : bc) : List Int := putB (1610612736 + s.1 * 1048576 + s.2.1) 4 ++ (putB (xSz (sE s) + (((sB s).length : Nat) : Int)) 2 ++ ([nxK (sE s) s.2.2.2.1 % 256, s.2.2.1 % 256] ++ (au s.2.2.2.2.1 ++ au s.2.2.2.2.2.1)))
def gN (s : bc) : List Int := bif lL s then (vI s ++ fp (sE s) s.2.2.2.1) ++ sB s else []
theorem qJ {s : bc} (h : lL s = true) : (0 ≤ s.1 ∧ s.1 ≤ 255) ∧ (0 ≤ s.2.1 ∧ s.2.1 ≤ 1048575) ∧ (sE s).length ≤ 3 ∧ (∀ x ∈ sE s, x.2.1.length ≤ 62) ∧ (sB s).length ≤ 1500 := by
  unfold lL at h
  simp only [aA, fV, bF] at h
  obtain ⟨h1, h2, _, _, _, _, _, h3, h4⟩ := h
  obtain ⟨b1, b2⟩ := ye h3
  have b3 := rO _ 3 b1 b2
  exact ⟨h1, h2, b1, b2, by omega⟩
theorem uJ (s : bc) : (vI s).length ≤ 40 := by
  have a1 := bV s.2.2.2.2.1
  have a2 := bV s.2.2.2.2.2.1
  unfold vI
  simp only [aT, List.length_cons, List.length_nil, aL]; omega
theorem RF {c l : Int} (hc : 0 ≤ c ∧ c ≤ 255) (hl : 0 ≤ l ∧ l ≤ 1048575) :
    Wr .i64 ((BitVec.ofInt (IntKind.bits .i64) (Wr .i64 ((BitVec.ofInt (IntKind.bits .i64) 1610612736 ||| BitVec.ofInt (IntKind.bits .i64) (Wr .i64 (c * 2 ^ min (Int.toNat 20) (IntKind.bits .i64)))).toNat : Int)) ||| BitVec.ofInt (IntKind.bits .i64) l).toNat : Int) = 1610612736 + c * 1048576 + l := by
  have e : (2 : Int) ^ min (Int.toNat 20) (IntKind.bits .i64) = 1048576 := rfl
  rw [e, bL (n := c * 1048576) (by omega)]
  have o1 := Eg (a := 6) (b := c * 1048576) 28 (by omega) (by omega) (by show 0 ≤ c * 1048576 ∧ c * 1048576 < 268435456; omega)
  rw [show (6 : Int) * ((2 ^ 28 : Nat) : Int) = 1610612736 from rfl] at o1
  rw [o1]
  have t1 : (((1610612736 + c * 1048576).toNat : Nat) : Int) = 1610612736 + c * 1048576 := by omega
  rw [t1, bL (n := 1610612736 + c * 1048576) (by omega)]
  have o2 := Eg (a := 1536 + c) (b := l) 20 (by omega) (by omega) (by show 0 ≤ l ∧ l < 1048576; omega)
  rw [show (1536 + c) * ((2 ^ 20 : Nat) : Int) = 1610612736 + c * 1048576 by show (1536 + c) * 1048576 = _; omega] at o2
  rw [o2]
  have t2 : (((1610612736 + c * 1048576 + l).toNat : Nat) : Int) = 1610612736 + c * 1048576 + l := by omega
  rw [t2, bL (by omega)]
section
variable (k : Nat) (hk : MM < k) (s : bc) (h1 : (sE s).length ≤ 1048576) (hx : ∀ x ∈ sE s, x.2.1.length ≤ 1100000) (h2 : (sB s).length ≤ 1100000)
include hk h1 hx h2
theorem JH : jM k s = some ((gN s, ()), ()) := by
  have hM : MM = 1048576 := rfl
  unfold jM gN
  rw [IA k hk s h1 hx h2, ai, bn]
  cases h : lL s
  · rfl
  obtain ⟨r1, r2, b1, b2, b4⟩ := qJ h
  have b1 : s.2.2.2.2.2.2.1.length ≤ 3 := b1
  have b2 : ∀ x ∈ s.2.2.2.2.2.2.1, x.2.1.length ≤ 62 := b2
  have b3 := rO s.2.2.2.2.2.2.1 3 b1 b2
  have b4' : s.2.2.2.2.2.2.2.1.length ≤ 1500 := b4
  have hl := uJ s
  have a1 := bV s.2.2.2.2.1
  have a2 := bV s.2.2.2.2.2.1
  have w1 : Wr .i64 (xSz s.2.2.2.2.2.2.1 + (s.2.2.2.2.2.2.2.1.length : Int)) = xSz s.2.2.2.2.2.2.1 + (s.2.2.2.2.2.2.2.1.length : Int) := bL (by omega)
  have n := (NL s [] s.2.2.2.2.2.2.1 rfl (by simpa using b1)).1
  simp only [List.length_nil] at n
  have n' : eC 0 s = _ := n
  have c := kD k hk [putB (1610612736 + s.1 * 1048576 + s.2.1) 4, putB (xSz (sE s) + (((sB s).length : Nat) : Int)) 2, [nxK (sE s) s.2.2.2.1 % 256, s.2.2.1 % 256], au s.2.2.2.2.1, au s.2.2.2.2.2.1] (by simp) (by simp only [List.flatten_cons, List.flatten_nil, aT, List.length_cons, List.length_nil, aL]; omega)
  have ce : [putB (1610612736 + s.1 * 1048576 + s.2.1) 4, putB (xSz (sE s) + (((sB s).length : Nat) : Int)) 2, [nxK (sE s) s.2.2.2.1 % 256, s.2.2.1 % 256], au s.2.2.2.2.1, au s.2.2.2.2.2.1].flatten = vI s := by
    unfold vI; simp only [List.flatten_cons, List.flatten_nil, List.append_nil]
  rw [ce] at c
  have run := zw s s.2.2.2.2.2.2.1 [] (vI s) k rfl (by simpa using b1) (by omega) b2 (by omega)
  simp only [List.nil_append, List.length_nil] at run
  have run' : iter cU k ((), (), s, vI s, s.2.2.2.2.2.2.1, (s.2.2.2.2.2.2.1.length : Int), 0, ()) = _ := run
  have xl := nf s.2.2.2.2.2.2.1 s.2.2.2.1
  simp only [ag, Qz k hk _ b1 b2, ai, w1, RF r1 r2, lz k hk, j9 k hk, n', lF, nM k hk, c, run', aT]
  exact aw (ae (by omega))
theorem Dw : iC k s = some ((gN s, ()), ()) := by
  have hM : MM = 1048576 := rfl
  unfold iC gN
  rw [zc k hk s hx h2, ai, bn]
  cases h : lL s
  · rfl
  obtain ⟨r1, r2, b1, b2, b4⟩ := qJ h
  have b1 : s.2.2.2.2.2.2.1.length ≤ 3 := b1
  have b2 : ∀ x ∈ s.2.2.2.2.2.2.1, x.2.1.length ≤ 62 := b2
  have b3 := rO s.2.2.2.2.2.2.1 3 b1 b2
  have b4' : s.2.2.2.2.2.2.2.1.length ≤ 1500 := b4
  have hl := uJ s
  have a1 := bV s.2.2.2.2.1
  have a2 := bV s.2.2.2.2.2.1
  have w1 : Wr .i64 (xSz s.2.2.2.2.2.2.1 + (s.2.2.2.2.2.2.2.1.length : Int)) = xSz s.2.2.2.2.2.2.1 + (s.2.2.2.2.2.2.2.1.length : Int) := bL (by omega)
  have w2 : Wr .i64 (Wr .i64 (1610612736 + Wr .i64 (s.1 * 1048576)) + s.2.1) = 1610612736 + s.1 * 1048576 + s.2.1 := by
    rw [bL (n := s.1 * 1048576) (by omega), bL (n := 1610612736 + s.1 * 1048576) (by omega), bL (by omega)]
  have n := (NL s [] s.2.2.2.2.2.2.1 rfl (by simpa using b1)).2
  simp only [List.length_nil] at n
  have n' : gw s 0 = _ := n
  have xs : jH k s = some ((xSz s.2.2.2.2.2.2.1, ()), ()) := by
    unfold jH
    rw [zc k hk s hx h2, ai, h]
    have run := zy s s.2.2.2.2.2.2.1 [] 0 k rfl (by simpa using b1) (by omega) b2 (Int.le_refl 0) (by omega)
    simp only [List.length_nil, Int.zero_add] at run
    have run' : iter cP k ((), s, 0, 0, ()) = _ := run
    simp only [bI, al, run', ai]
  have run := zx s s.2.2.2.2.2.2.1 [] (vI s) k rfl (by simpa using b1) (by omega) b2 (by omega)
  simp only [List.length_nil] at run
  have run' : iter cQ k ((), s, vI s, 0, ()) = _ := run
  have xl := nf s.2.2.2.2.2.2.1 s.2.2.2.1
  have he : (((putB (1610612736 + s.1 * 1048576 + s.2.1) 4 ++ putB (xSz s.2.2.2.2.2.2.1 + (s.2.2.2.2.2.2.2.1.length : Int)) 2) ++ [nxK s.2.2.2.2.2.2.1 s.2.2.2.1 % 256, s.2.2.1 % 256]) ++ au s.2.2.2.2.1) ++ au s.2.2.2.2.2.1 = vI s := by
    unfold vI; simp only [List.append_assoc]
  simp only [ag, w2, lA, jk, xs, w1, n', lF, kC, ai, he, run', aT, List.length_cons, List.length_nil, aL]
  rw [aw (ae (by omega)), aw (ae (by omega)), aw (ae (by omega)), aw (ae (by omega))]
  exact aw (ae (by omega))
end
end
section
set_option maxHeartbeats 8000000
def aZ (a : ar) : Bool := decide (a.1 = 0) && (decide (a.2.1 = 0) && (decide (a.2.2.1 = 0) && (decide (a.2.2.2.1 = 0) && (decide (a.2.2.2.2.1 = 0) && true))))
def xU (s : bc) : Bool := decide (s.1 = 0) && (decide (s.2.1 = 0) && (decide (s.2.2.1 = 0) && (decide (s.2.2.2.1 = 0) && (aZ s.2.2.2.2.1 && (aZ s.2.2.2.2.2.1 && (decide ((s.2.2.2.2.2.2.1.length : Int) = 0) && decide ((s.2.2.2.2.2.2.2.1.length : Int) = 0)))))))
def AB (f : aR) : Bool := decide (f.1 = 0) && (decide (f.2.1 = 0) && (decide (f.2.2.1 = 0) && (decide (f.2.2.2.1 = 0) && (decide (f.2.2.2.2.1 = 0) && (decide (f.2.2.2.2.2.1 = 0) && (decide (f.2.2.2.2.2.2.1 = 0) && (aZ f.2.2.2.2.2.2.2.1 && (aZ f.2.2.2.2.2.2.2.2.1 && (decide ((f.2.2.2.2.2.2.2.2.2.1.length : Int) = 0) && decide ((f.2.2.2.2.2.2.2.2.2.2.1.length : Int) = 0))))))))))
theorem MR (s : bc) : fI s = some ((xU s, ()), ()) := by
  unfold fI xU aZ; simp only [ka]
theorem MS (f : aR) : gS f = some ((AB f, ()), ()) := by
  unfold gS AB aZ; simp only [ka]
theorem Qj (k : Nat) (hk : MM < k) (s : bc) : jh k s = some ((xU s, ()), ()) := by
  have z := kU k hk [s.1, s.2.1, s.2.2.1, s.2.2.2.1, (s.2.2.2.2.2.2.1.length : Int), (s.2.2.2.2.2.2.2.1.length : Int)] (by simp)
  unfold jh
  simp only [z, ai, ka, List.all_cons, List.all_nil]
  refine AN ?_
  unfold xU aZ
  simp only [Bool.and_true]
  ac_rfl
theorem Qk (k : Nat) (hk : MM < k) (f : aR) : iN k f = some ((AB f, ()), ()) := by
  have z := kU k hk [f.1, f.2.1, f.2.2.1, f.2.2.2.1, f.2.2.2.2.1, f.2.2.2.2.2.1, f.2.2.2.2.2.2.1, (f.2.2.2.2.2.2.2.2.2.1.length : Int), (f.2.2.2.2.2.2.2.2.2.2.1.length : Int)] (by simp)
  unfold iN
  simp only [z, ai, ka, List.all_cons, List.all_nil]
  refine AN ?_
  unfold AB aZ
  simp only [Bool.and_true]
  ac_rfl
def ke (p v : Int) : Int := bif gq p 0 255 then ln p v else -1
theorem QA (p v : Int) (hv : v = 4 ∨ v = 6) : eZ p v = some ((ke p v, ()), ()) := by
  cases h : gq p 0 255
  · unfold eZ ke; simp only [kf, h, ai]; rfl
  · rw [Rn p v h hv]; unfold ke; rw [h]; rfl
theorem NI (p v : Int) (hv : v = 4 ∨ v = 6) : db p v = some ((ke p v, ()), ()) := by
  cases h : gq p 0 255
  · unfold db ke; simp only [oc, h, ai]; rfl
  · rw [D8 p v h hv]; unfold ke; rw [h]; rfl
abbrev wE (e : bH) (l : List Int) : bH := (e.1, e.2.1, e.2.2.1, e.2.2.2.1, l, ())
abbrev wF (f : aR) (l : List Int) : aR := (f.1, f.2.1, f.2.2.1, f.2.2.2.1, f.2.2.2.2.1, f.2.2.2.2.2.1, f.2.2.2.2.2.2.1, f.2.2.2.2.2.2.2.1, f.2.2.2.2.2.2.2.2.1, f.2.2.2.2.2.2.2.2.2.1, l, ())
abbrev wS (s : bc) (l : List Int) : bc := (s.1, s.2.1, s.2.2.1, s.2.2.2.1, s.2.2.2.2.1, s.2.2.2.2.2.1, s.2.2.2.2.2.2.1, l, ())
def emp (P : aj) : Bool := decide ((P.2.1.2.2.2.2.1.length : Int) = 0) && (decide ((P.2.2.1.2.2.2.2.2.2.2.2.2.2.1.length : Int) = 0) && decide ((P.2.2.2.1.2.2.2.2.2.2.2.1.length : Int) = 0))
def mL (P : aj) : List Int := jZ P.2.2.2.2.1 P.2.2.1.2.2.2.2.2.2.2.1 P.2.2.1.2.2.2.2.2.2.2.2.1
def oL (P : aj) : List Int := jZ P.2.2.2.2.1 P.2.2.2.1.2.2.2.2.1 P.2.2.2.1.2.2.2.2.2.1
def Fj (P : aj) : Bool := dX P.2.2.2.2.1 P.2.2.1.2.2.2.2.2.2.2.1 P.2.2.1.2.2.2.2.2.2.2.2.1 && (dN (wF P.2.2.1 (mL P)) && decide (P.2.2.2.2.1.1 = bif jB (wF P.2.2.1 (mL P)) then 0 else ke P.2.2.1.2.2.2.2.2.2.1 4))
def Fk (P : aj) : Bool := dX P.2.2.2.2.1 P.2.2.2.1.2.2.2.2.1 P.2.2.2.1.2.2.2.2.2.1 && (lL (wS P.2.2.2.1 (oL P)) && decide (P.2.2.2.2.1.1 = ke P.2.2.2.1.2.2.2.1 6))
def e4 (P : aj) : bH := wE P.2.1 (qH (wF P.2.2.1 (mL P)) ++ P.2.2.2.2.2.1)
def e6 (P : aj) : bH := wE P.2.1 (gN (wS P.2.2.2.1 (oL P)) ++ P.2.2.2.2.2.1)
def qp (P : aj) : Bool := emp P && (xU P.2.2.2.1 && (decide (P.2.1.2.2.2.1 = 2048) && (Fj P && mY (e4 P))))
def qq (P : aj) : Bool := emp P && (AB P.2.2.1 && (decide (P.2.1.2.2.2.1 = 34525) && (Fk P && mY (e6 P))))
def cg (P : aj) : Bool := bif decide (P.1 = 4) then qp P else bif decide (P.1 = 6) then qq P else false
def AE (P : aj) : bH := bif decide (P.1 = 4) then e4 P else e6 P
def oP (P : aj) : List Int := bif cg P then jR (AE P) else []
structure PB (P : aj) : Prop where
  fo : (fO P.2.2.1).length ≤ 1048576
  Kv : az (fO P.2.2.1)
  se : (sE P.2.2.2.1).length ≤ 1048576
  sx : ∀ x ∈ sE P.2.2.2.1, x.2.1.length ≤ 1048576
  uo : (uO P.2.2.2.2.1).length ≤ 1048576
  oN : az (uO P.2.2.2.2.1)
  ub : (uB P.2.2.2.2.1).length ≤ 1048576
  oO : az (uB P.2.2.2.2.1)
  pd : P.2.2.2.2.2.1.length ≤ 1048576
theorem xS (f : aR) : (qH f).length ≤ 1600 := by
  unfold qH
  cases h : dN f
  · exact Nat.zero_le _
  · obtain ⟨_, _, _, _, _, _, _, b1, b2⟩ := hJ h
    have a1 := bV f.2.2.2.2.2.2.2.1
    have a2 := bV f.2.2.2.2.2.2.2.2.1
    simp only [ag, aT]
    unfold oA; simp only [aT, List.length_cons, List.length_nil, aL]; omega
theorem re (s : bc) : (gN s).length ≤ 1800 := by
  unfold gN
  cases h : lL s
  · exact Nat.zero_le _
  · obtain ⟨_, _, b1, b2, b4⟩ := qJ h
    have b3 := rO _ 3 b1 b2
    have hl := uJ s
    have xl := nf (sE s) s.2.2.2.1
    simp only [ag, aT]; omega
section
variable (k : Nat) (hk : MM < k) (P : aj) (B : PB P)
include hk B
theorem Ql (h4 : P.1 = 4) : ∃ l, dZ k P = some ((l, Fj P, ()), ()) ∧ (Fj P = true → l = qH (wF P.2.2.1 (mL P))) ∧ l.length ≤ 1800 := by
  have d4 : decide (P.1 = 4) = true := ae h4
  have ends : cR P = some ((P.2.2.1.2.2.2.2.2.2.2.1, P.2.2.1.2.2.2.2.2.2.2.2.1, ()), ()) := by unfold cR; rw [d4]; rfl
  have s1 := (ov k hk P.2.2.2.2.1 P.2.2.1.2.2.2.2.2.2.2.1 P.2.2.1.2.2.2.2.2.2.2.2.1 (Nat.le_trans B.uo (by decide)) (Nat.le_trans B.ub (by decide)) B.oN B.oO).1
  have s2 := kS k hk P.2.2.2.2.1 P.2.2.1.2.2.2.2.2.2.2.1 P.2.2.1.2.2.2.2.2.2.2.2.1 (Nat.le_trans B.uo (by decide)) (Nat.le_trans B.ub (by decide)) B.oN B.oO
  have s3 := (pN k hk P.2.2.2.2.1 P.2.2.1.2.2.2.2.2.2.2.1 P.2.2.1.2.2.2.2.2.2.2.2.1 (Nat.le_trans B.uo (by decide)) (Nat.le_trans B.ub (by decide)) B.oN B.oO).1
  have s4 := (lj k hk P.2.2.2.2.1 P.2.2.1.2.2.2.2.2.2.2.1 P.2.2.1.2.2.2.2.2.2.2.2.1 (Nat.le_trans B.uo (by decide)) (Nat.le_trans B.ub (by decide)) B.oN B.oO).2
  have lb : (fB (wF P.2.2.1 (mL P))).length ≤ 1100000 := Nat.le_trans s4 (by decide)
  have lo : (fO (wF P.2.2.1 (mL P))).length ≤ 1100000 := Nat.le_trans B.fo (by decide)
  have p1 := Jv (wF P.2.2.1 (mL P)) lo lb
  have p2 := Qi k hk (wF P.2.2.1 (mL P)) lo lb B.Kv
  have p3 := zm (wF P.2.2.1 (mL P)) lo lb
  unfold mL at p1 p2 p3
  unfold Fj mL
  unfold dZ
  simp only [ends, s1, s2, s3, d4, ai, ag, bn, p1, p2, p3, QA _ 4 (.inl rfl)]
  cases dX P.2.2.2.2.1 P.2.2.1.2.2.2.2.2.2.2.1 P.2.2.1.2.2.2.2.2.2.2.2.1
  · exact ⟨[], rfl, (fun h => by cases h), Nat.zero_le _⟩
  refine ⟨qH (wF P.2.2.1 (jZ P.2.2.2.2.1 P.2.2.1.2.2.2.2.2.2.2.1 P.2.2.1.2.2.2.2.2.2.2.2.1)), ?_, fun _ => rfl, Nat.le_trans (xS _) (by decide)⟩
  simp only [ag, Bool.true_and]
  cases jB (wF P.2.2.1 (jZ P.2.2.2.2.1 P.2.2.1.2.2.2.2.2.2.2.1 P.2.2.1.2.2.2.2.2.2.2.2.1)) <;> cases dN (wF P.2.2.1 (jZ P.2.2.2.2.1 P.2.2.1.2.2.2.2.2.2.2.1 P.2.2.1.2.2.2.2.2.2.2.2.1)) <;> rfl
theorem Qm (h4 : P.1 = 6) : ∃ l, dZ k P = some ((l, Fk P, ()), ()) ∧ (Fk P = true → l = gN (wS P.2.2.2.1 (oL P))) ∧ l.length ≤ 1800 := by
  have d4 : decide (P.1 = 4) = false := ao (by omega)
  have ends : cR P = some ((P.2.2.2.1.2.2.2.2.1, P.2.2.2.1.2.2.2.2.2.1, ()), ()) := by unfold cR; rw [d4]; rfl
  have s1 := (ov k hk P.2.2.2.2.1 P.2.2.2.1.2.2.2.2.1 P.2.2.2.1.2.2.2.2.2.1 (Nat.le_trans B.uo (by decide)) (Nat.le_trans B.ub (by decide)) B.oN B.oO).1
  have s2 := kS k hk P.2.2.2.2.1 P.2.2.2.1.2.2.2.2.1 P.2.2.2.1.2.2.2.2.2.1 (Nat.le_trans B.uo (by decide)) (Nat.le_trans B.ub (by decide)) B.oN B.oO
  have s3 := (pN k hk P.2.2.2.2.1 P.2.2.2.1.2.2.2.2.1 P.2.2.2.1.2.2.2.2.2.1 (Nat.le_trans B.uo (by decide)) (Nat.le_trans B.ub (by decide)) B.oN B.oO).1
  have s4 := (lj k hk P.2.2.2.2.1 P.2.2.2.1.2.2.2.2.1 P.2.2.2.1.2.2.2.2.2.1 (Nat.le_trans B.uo (by decide)) (Nat.le_trans B.ub (by decide)) B.oN B.oO).2
  have lb : (sB (wS P.2.2.2.1 (oL P))).length ≤ 1100000 := Nat.le_trans s4 (by decide)
  have hx : ∀ x ∈ sE (wS P.2.2.2.1 (oL P)), x.2.1.length ≤ 1100000 := fun x hx => Nat.le_trans (B.sx x hx) (by decide)
  have p2 := JH k hk (wS P.2.2.2.1 (oL P)) B.se hx lb
  have p3 := IA k hk (wS P.2.2.2.1 (oL P)) B.se hx lb
  unfold oL at p2 p3
  unfold Fk oL
  unfold dZ
  simp only [ends, s1, s2, s3, d4, ai, al, bn, p2, p3, QA _ 6 (.inr rfl)]
  cases dX P.2.2.2.2.1 P.2.2.2.1.2.2.2.2.1 P.2.2.2.1.2.2.2.2.2.1
  · exact ⟨[], rfl, (fun h => by cases h), Nat.zero_le _⟩
  refine ⟨gN (wS P.2.2.2.1 (jZ P.2.2.2.2.1 P.2.2.2.1.2.2.2.2.1 P.2.2.2.1.2.2.2.2.2.1)), ?_, fun _ => rfl, re _⟩
  simp only [ag, Bool.true_and]
  cases lL (wS P.2.2.2.1 (jZ P.2.2.2.2.1 P.2.2.2.1.2.2.2.2.1 P.2.2.2.1.2.2.2.2.2.1)) <;> rfl
theorem RG : dy k [(P.2.1.2.2.2.2.1.length : Int), (P.2.2.1.2.2.2.2.2.2.2.2.2.2.1.length : Int), (P.2.2.2.1.2.2.2.2.2.2.2.1.length : Int)] = some ((emp P, ()), ()) := by
  have z := kU k hk [(P.2.1.2.2.2.2.1.length : Int), (P.2.2.1.2.2.2.2.2.2.2.2.2.2.1.length : Int), (P.2.2.2.1.2.2.2.2.2.2.2.1.length : Int)] (by simp)
  rw [z]
  simp only [List.all_cons, List.all_nil, Bool.and_true]
  rfl
theorem Ji : ∃ e, ef k P = some ((e, cg P, ()), ()) ∧ (cg P = true → e = AE P) ∧ (cg P = true → (eB e).length ≤ 1100000) := by
  have ze := RG k hk P B
  by_cases h4 : P.1 = 4
  · obtain ⟨l, i1, i2, i3⟩ := Ql k hk P B h4
    have d4 : decide (P.1 = 4) = true := ae h4
    have d6 : decide (P.1 = 6) = false := ao (by omega)
    have c := kD k hk [l, P.2.2.2.2.2.1] (by simp) (by have := B.pd; simp only [List.flatten_cons, List.flatten_nil, aT, List.length_nil]; omega)
    simp only [List.flatten_cons, List.flatten_nil, List.append_nil] at c
    have hl : (eB (wE P.2.1 (l ++ P.2.2.2.2.2.1))).length ≤ 1100000 := by
      have := B.pd
      show (l ++ P.2.2.2.2.2.1).length ≤ 1100000
      rw [aT]; omega
    have ok := No (wE P.2.1 (l ++ P.2.2.2.2.2.1)) hl
    have g : cg P = qp P := by unfold cg; rw [d4]; rfl
    have e : AE P = e4 P := by unfold AE; rw [d4]; rfl
    rw [g, e]
    unfold ef dk dW
    simp only [d4, d6, Qj k hk, ze, i1, c, ok, ai, ag, al, bn, pJ]
    cases hi : Fj P
    · unfold qp
      rw [hi]
      cases emp P <;> cases xU P.2.2.2.1 <;> cases decide (P.2.1.2.2.2.1 = 2048) <;> exact ⟨_, rfl, (fun h => by cases h), (fun h => by cases h)⟩
    · have el := i2 hi
      have ee : e4 P = wE P.2.1 (l ++ P.2.2.2.2.2.1) := by unfold e4; rw [← el]
      unfold qp
      rw [hi, ee]
      cases emp P <;> cases xU P.2.2.2.1 <;> cases decide (P.2.1.2.2.2.1 = 2048) <;> first | exact ⟨_, rfl, (fun h => by cases h), (fun h => by cases h)⟩ | exact ⟨_, rfl, (fun _ => rfl), (fun _ => hl)⟩
  have d4 : decide (P.1 = 4) = false := ao h4
  by_cases h6 : P.1 = 6
  · obtain ⟨l, i1, i2, i3⟩ := Qm k hk P B h6
    have d6 : decide (P.1 = 6) = true := ae h6
    have c := kD k hk [l, P.2.2.2.2.2.1] (by simp) (by have := B.pd; simp only [List.flatten_cons, List.flatten_nil, aT, List.length_nil]; omega)
    simp only [List.flatten_cons, List.flatten_nil, List.append_nil] at c
    have hl : (eB (wE P.2.1 (l ++ P.2.2.2.2.2.1))).length ≤ 1100000 := by
      have := B.pd
      show (l ++ P.2.2.2.2.2.1).length ≤ 1100000
      rw [aT]; omega
    have ok := No (wE P.2.1 (l ++ P.2.2.2.2.2.1)) hl
    have g : cg P = qq P := by unfold cg; rw [d4, d6]; rfl
    have e : AE P = e6 P := by unfold AE; rw [d4]; rfl
    rw [g, e]
    unfold ef dk dW
    simp only [d4, d6, Qk k hk, ze, i1, c, ok, ai, ag, al, bn, pJ]
    cases hi : Fk P
    · unfold qq
      rw [hi]
      cases emp P <;> cases AB P.2.2.1 <;> cases decide (P.2.1.2.2.2.1 = 34525) <;> exact ⟨_, rfl, (fun h => by cases h), (fun h => by cases h)⟩
    · have el := i2 hi
      have ee : e6 P = wE P.2.1 (l ++ P.2.2.2.2.2.1) := by unfold e6; rw [← el]
      unfold qq
      rw [hi, ee]
      cases emp P <;> cases AB P.2.2.1 <;> cases decide (P.2.1.2.2.2.1 = 34525) <;> first | exact ⟨_, rfl, (fun h => by cases h), (fun h => by cases h)⟩ | exact ⟨_, rfl, (fun _ => rfl), (fun _ => hl)⟩
  have d6 : decide (P.1 = 6) = false := ao h6
  have g : cg P = false := by unfold cg; rw [d4, d6]; rfl
  rw [g]
  unfold ef dk dW
  simp only [d4, d6, al]
  exact ⟨_, rfl, (fun h => by cases h), (fun h => by cases h)⟩
end
end
section
set_option maxHeartbeats 8000000
section
variable (k : Nat) (hk : MM < k) (P : aj) (B : PB P)
include hk B
theorem JI (h4 : P.1 = 4) : di k P = some ((oP P, ()), ()) := by
  have d4 : decide (P.1 = 4) = true := ae h4
  have sr : bJ P = some ((P.2.2.1.2.2.2.2.2.2.2.1, ()), ()) := by unfold bJ; rw [d4]; rfl
  have ds : bK P = some ((P.2.2.1.2.2.2.2.2.2.2.2.1, ()), ()) := by unfold bK; rw [d4]; rfl
  have s1 := (ov k hk P.2.2.2.2.1 P.2.2.1.2.2.2.2.2.2.2.1 P.2.2.1.2.2.2.2.2.2.2.2.1 (Nat.le_trans B.uo (by decide)) (Nat.le_trans B.ub (by decide)) B.oN B.oO).2
  have s2 := kS k hk P.2.2.2.2.1 P.2.2.1.2.2.2.2.2.2.2.1 P.2.2.1.2.2.2.2.2.2.2.2.1 (Nat.le_trans B.uo (by decide)) (Nat.le_trans B.ub (by decide)) B.oN B.oO
  have s3 := (pN k hk P.2.2.2.2.1 P.2.2.1.2.2.2.2.2.2.2.1 P.2.2.1.2.2.2.2.2.2.2.2.1 (Nat.le_trans B.uo (by decide)) (Nat.le_trans B.ub (by decide)) B.oN B.oO).2
  have s4 := (lj k hk P.2.2.2.2.1 P.2.2.1.2.2.2.2.2.2.2.1 P.2.2.1.2.2.2.2.2.2.2.2.1 (Nat.le_trans B.uo (by decide)) (Nat.le_trans B.ub (by decide)) B.oN B.oO).2
  have lb : (fB (wF P.2.2.1 (mL P))).length ≤ 1100000 := Nat.le_trans s4 (by decide)
  have lo : (fO (wF P.2.2.1 (mL P))).length ≤ 1100000 := Nat.le_trans B.fo (by decide)
  have p1 := xR (wF P.2.2.1 (mL P)) lo lb
  have p2 := MP k hk (wF P.2.2.1 (mL P)) lo lb B.Kv
  have p3 := vF (wF P.2.2.1 (mL P)) lo lb
  have fl := xS (wF P.2.2.1 (mL P))
  have pl := B.pd
  have q : decide (((qH (wF P.2.2.1 (mL P))).length + P.2.2.2.2.2.1.length) * 1 ≤ 1099511627776) = true := ae (by omega)
  have hl : (eB (e4 P)).length ≤ 1100000 := by
    show (qH (wF P.2.2.1 (mL P)) ++ P.2.2.2.2.2.1).length ≤ 1100000
    rw [aT]; omega
  have p4 := Dv (e4 P) hl
  have p5 := vX (e4 P) hl
  have g : cg P = qp P := by unfold cg; rw [d4]; rfl
  have e : AE P = e4 P := by unfold AE; rw [d4]; rfl
  have gb : oP P = bif qp P then jR (e4 P) else [] := by unfold oP; rw [g, e]
  rw [gb]
  unfold qp Fj emp
  unfold e4 at p4 p5 ⊢
  unfold mL at p1 p2 p3 p4 p5 q ⊢
  unfold di eK eJ
  simp only [d4, sr, ds, s1, s2, s3, ai, ag, bn, pJ, p1, p2, p3, p4, p5, q, NI _ 4 (.inl rfl), MR]
  cases decide ((P.2.1.2.2.2.2.1.length : Int) = 0)
  · rfl
  cases decide ((P.2.2.1.2.2.2.2.2.2.2.2.2.2.1.length : Int) = 0)
  · rfl
  cases decide ((P.2.2.2.1.2.2.2.2.2.2.2.1.length : Int) = 0)
  · rfl
  simp only [ag, Bool.true_and]
  cases dX P.2.2.2.2.1 P.2.2.1.2.2.2.2.2.2.2.1 P.2.2.1.2.2.2.2.2.2.2.2.1
  · cases xU P.2.2.2.1 <;> cases decide (P.2.1.2.2.2.1 = 2048) <;> rfl
  simp only [ag, Bool.true_and]
  generalize jZ P.2.2.2.2.1 P.2.2.1.2.2.2.2.2.2.2.1 P.2.2.1.2.2.2.2.2.2.2.2.1 = L
  generalize mY (wE P.2.1 (qH (wF P.2.2.1 L) ++ P.2.2.2.2.2.1)) = b5
  cases jB (wF P.2.2.1 L)
  · simp only [al]
    cases xU P.2.2.2.1
    · rfl
    cases decide (P.2.1.2.2.2.1 = 2048)
    · rfl
    cases dN (wF P.2.2.1 L)
    · rfl
    cases decide (P.2.2.2.2.1.1 = ke P.2.2.1.2.2.2.2.2.2.1 4)
    · rfl
    cases b5 <;> rfl
  · simp only [ag]
    cases xU P.2.2.2.1
    · rfl
    cases decide (P.2.1.2.2.2.1 = 2048)
    · rfl
    cases dN (wF P.2.2.1 L)
    · rfl
    cases decide (P.2.2.2.2.1.1 = 0)
    · rfl
    cases b5 <;> rfl
theorem JJ (h6 : P.1 = 6) : di k P = some ((oP P, ()), ()) := by
  have d4 : decide (P.1 = 4) = false := ao (by omega)
  have d6 : decide (P.1 = 6) = true := ae h6
  have sr : bJ P = some ((P.2.2.2.1.2.2.2.2.1, ()), ()) := by unfold bJ; rw [d4]; rfl
  have ds : bK P = some ((P.2.2.2.1.2.2.2.2.2.1, ()), ()) := by unfold bK; rw [d4]; rfl
  have s1 := (ov k hk P.2.2.2.2.1 P.2.2.2.1.2.2.2.2.1 P.2.2.2.1.2.2.2.2.2.1 (Nat.le_trans B.uo (by decide)) (Nat.le_trans B.ub (by decide)) B.oN B.oO).2
  have s2 := kS k hk P.2.2.2.2.1 P.2.2.2.1.2.2.2.2.1 P.2.2.2.1.2.2.2.2.2.1 (Nat.le_trans B.uo (by decide)) (Nat.le_trans B.ub (by decide)) B.oN B.oO
  have s3 := (pN k hk P.2.2.2.2.1 P.2.2.2.1.2.2.2.2.1 P.2.2.2.1.2.2.2.2.2.1 (Nat.le_trans B.uo (by decide)) (Nat.le_trans B.ub (by decide)) B.oN B.oO).2
  have s4 := (lj k hk P.2.2.2.2.1 P.2.2.2.1.2.2.2.2.1 P.2.2.2.1.2.2.2.2.2.1 (Nat.le_trans B.uo (by decide)) (Nat.le_trans B.ub (by decide)) B.oN B.oO).2
  have lb : (sB (wS P.2.2.2.1 (oL P))).length ≤ 1100000 := Nat.le_trans s4 (by decide)
  have hx : ∀ x ∈ sE (wS P.2.2.2.1 (oL P)), x.2.1.length ≤ 1100000 := fun x hx => Nat.le_trans (B.sx x hx) (by decide)
  have p2 := Dw k hk (wS P.2.2.2.1 (oL P)) B.se hx lb
  have p3 := zc k hk (wS P.2.2.2.1 (oL P)) hx lb
  have fl := re (wS P.2.2.2.1 (oL P))
  have pl := B.pd
  have q : decide (((gN (wS P.2.2.2.1 (oL P))).length + P.2.2.2.2.2.1.length) * 1 ≤ 1099511627776) = true := ae (by omega)
  have hl : (eB (e6 P)).length ≤ 1100000 := by
    show (gN (wS P.2.2.2.1 (oL P)) ++ P.2.2.2.2.2.1).length ≤ 1100000
    rw [aT]; omega
  have p4 := Dv (e6 P) hl
  have p5 := vX (e6 P) hl
  have g : cg P = qq P := by unfold cg; rw [d4, d6]; rfl
  have e : AE P = e6 P := by unfold AE; rw [d4]; rfl
  have gb : oP P = bif qq P then jR (e6 P) else [] := by unfold oP; rw [g, e]
  rw [gb]
  unfold qq Fk emp
  unfold e6 at p4 p5 ⊢
  unfold oL at p2 p3 p4 p5 q ⊢
  unfold di eK eJ
  simp only [d4, d6, sr, ds, s1, s2, s3, ai, ag, al, bn, pJ, p2, p3, p4, p5, q, NI _ 6 (.inr rfl), MS]
  cases decide ((P.2.1.2.2.2.2.1.length : Int) = 0)
  · rfl
  cases decide ((P.2.2.1.2.2.2.2.2.2.2.2.2.2.1.length : Int) = 0)
  · rfl
  cases decide ((P.2.2.2.1.2.2.2.2.2.2.2.1.length : Int) = 0)
  · rfl
  simp only [ag, Bool.true_and]
  cases dX P.2.2.2.2.1 P.2.2.2.1.2.2.2.2.1 P.2.2.2.1.2.2.2.2.2.1
  · cases AB P.2.2.1 <;> cases decide (P.2.1.2.2.2.1 = 34525) <;> rfl
  simp only [ag, Bool.true_and]
  generalize jZ P.2.2.2.2.1 P.2.2.2.1.2.2.2.2.1 P.2.2.2.1.2.2.2.2.2.1 = L
  generalize mY (wE P.2.1 (gN (wS P.2.2.2.1 L) ++ P.2.2.2.2.2.1)) = b5
  cases AB P.2.2.1
  · rfl
  cases decide (P.2.1.2.2.2.1 = 34525)
  · rfl
  cases lL (wS P.2.2.2.1 L)
  · rfl
  cases decide (P.2.2.2.2.1.1 = ke P.2.2.2.1.2.2.2.1 6)
  · rfl
  cases b5 <;> rfl
theorem MU : di k P = some ((oP P, ()), ()) := by
  by_cases h4 : P.1 = 4
  · exact JI k hk P B h4
  by_cases h6 : P.1 = 6
  · exact JJ k hk P B h6
  have d4 : decide (P.1 = 4) = false := ao h4
  have d6 : decide (P.1 = 6) = false := ao h6
  have g : cg P = false := by unfold cg; rw [d4, d6]; rfl
  have gb : oP P = [] := by unfold oP; rw [g]; rfl
  rw [gb]
  unfold di eK eJ
  simp only [d4, d6, bn, pJ, al]
end
end
end Go.Tw
