/- Facts on mirrors. -/
import Derived.Test.YtemcbhjheebnnaaGreatPp9
set_option linter.all false
set_option maxRecDepth 100000
namespace Go.Tw
open Go Go.RowKit
open Go.IntKind renaming wrap → Wr
section
set_option maxHeartbeats 4000000
theorem cut {α : Type} (d : List α) (i m j : Nat) (h : i + m = j) : (d.drop i).take m ++ d.drop j = d.drop i := by
  subst h
  rw [← List.drop_drop]
  exact List.take_append_drop m (d.drop i)
theorem pc {d : List Int} (hb : az d) (i m : Nat) (h : i + m ≤ d.length) : putB (df ((d.drop i).take m)) m = (d.drop i).take m := by
  have hl : ((d.drop i).take m).length = m := by rw [List.length_take, List.length_drop]; omega
  have := uA ((d.drop i).take m) (ey hb i m)
  rw [hl] at this
  exact this
theorem ou {l : List Int} (hb : az l) (hl : l.length = 4) : bO (addrOf l).1 = true ∧ (addrOf l).1.1 = 4 ∧ au (addrOf l).1 = l := by
  have e : addrOf l = ((4, 0, 0, 0, df l, ()), true) := by unfold addrOf; rw [hl]; rfl
  have r := nF l hb
  rw [hl] at r
  have r2 : df l < 4294967296 := r.2
  have ok : bO (addrOf l).1 = true := by
    rw [e]; unfold bO dM
    simp only [aI, ag, Bool.true_and, aA, bF]
    omega
  refine ⟨ok, by rw [e], ?_⟩
  unfold au
  rw [ok, e]
  have := uA l hb
  rw [hl] at this
  exact this
theorem mX {l : List Int} (hb : az l) (hl : l.length = 16) : bO (addrOf l).1 = true ∧ (addrOf l).1.1 = 6 ∧ au (addrOf l).1 = l := by
  have e : addrOf l = ((6, df (l.take 4), df ((l.drop 4).take 4), df ((l.drop 8).take 4), df ((l.drop 12).take 4), ()), true) := by unfold addrOf; rw [hl]; rfl
  have r0 := jP hb 0
  have r1 := jP hb 4
  have r2 := jP hb 8
  have r3 := jP hb 12
  rw [List.drop_zero] at r0
  have d64 : decide ((6 : Int) = 4) = false := rfl
  have ok : bO (addrOf l).1 = true := by
    rw [e]; unfold bO dM
    simp only [d64, aI, al, Bool.true_and, aA, bF]
    omega
  refine ⟨ok, by rw [e], ?_⟩
  unfold au
  rw [ok, e]
  simp only [d64, ag, al]
  have p0 := pc hb 0 4 (by omega)
  rw [List.drop_zero] at p0
  rw [p0, pc hb 4 4 (by omega), pc hb 8 4 (by omega), pc hb 12 4 (by omega)]
  have t : (l.drop 12).take 4 = l.drop 12 := List.take_of_length_le (by rw [List.length_drop]; omega)
  rw [t, List.append_assoc, List.append_assoc, cut l 8 4 12 rfl, cut l 4 4 8 rfl]
  exact List.take_append_drop 4 l
theorem dA {α : Type} {A X : List α} (m : Nat) {n j : Nat} (h : A.length = m) (hn : m + j = n) : (A ++ X).drop n = X.drop j := by
  subst h hn
  rw [← List.drop_drop, List.drop_left]
theorem tA {α : Type} {A X : List α} {n : Nat} (h : A.length = n) : (A ++ X).take n = A := by
  subst h; exact List.take_left
theorem d0 {α : Type} (X : List α) : X.drop 0 = X := List.drop_zero
theorem aX (n : Int) (m : Nat) : (putB n m).length = m := aL n m
theorem pL {n : Int} (h : 0 ≤ n ∧ n ≤ 65535) : df (putB n 2) = n := xP (m := 2) ⟨h.1, by have := h.2; show n < 65536; omega⟩
theorem sC {n : Int} (h : 0 ≤ n ∧ n ≤ 4294967295) : df (putB n 4) = n := xP (m := 4) ⟨h.1, by have := h.2; show n < 4294967296; omega⟩
theorem NH {n : Int} (h : 0 ≤ n ∧ n ≤ 281474976710655) : df (putB n 6) = n := xP (m := 6) ⟨h.1, by have := h.2; show n < 281474976710656; omega⟩
theorem lh {a : ar} (h : vg a 4 = true) : addrOf (au a) = (a, true) ∧ (au a).length = 4 := by
  unfold vg bO at h
  simp only [aA, bF] at h
  obtain ⟨h1, h2⟩ := h
  have ha : bO a = true := by unfold bO; rw [h2] at h1 ⊢; exact h1
  obtain ⟨k, a1, a2, a3, a4, ⟨⟩⟩ := a
  dsimp only at h1 h2
  subst h2
  simp only [aI, ag, aA, bF, dM] at h1
  obtain ⟨rfl, rfl, rfl, h4⟩ := h1
  have e : au (4, 0, 0, 0, a4, ()) = putB a4 4 := by unfold au; rw [ha]; rfl
  rw [e]
  refine ⟨?_, aX _ _⟩
  unfold addrOf
  rw [aX, aw (ae (by decide)), sC h4]
theorem qd {a : ar} (h : vg a 6 = true) : addrOf (au a) = (a, true) ∧ (au a).length = 16 := by
  unfold vg bO at h
  simp only [aA, bF] at h
  obtain ⟨h1, h2⟩ := h
  have ha : bO a = true := by unfold bO; rw [h2] at h1 ⊢; exact h1
  obtain ⟨k, a1, a2, a3, a4, ⟨⟩⟩ := a
  dsimp only at h1 h2
  subst h2
  have d64 : decide ((6 : Int) = 4) = false := rfl
  simp only [d64, al, aI, Bool.true_and, aA, bF, dM] at h1
  obtain ⟨h1, h2, h3, h4⟩ := h1
  have e : au (6, a1, a2, a3, a4, ()) = putB a1 4 ++ (putB a2 4 ++ (putB a3 4 ++ (putB a4 4 ++ []))) := by unfold au; rw [ha]; simp only [d64, ag, al, List.append_assoc, List.append_nil]
  rw [e]
  have l : (putB a1 4 ++ (putB a2 4 ++ (putB a3 4 ++ (putB a4 4 ++ [])))).length = 16 := by simp only [aT, aX, List.length_nil]
  refine ⟨?_, l⟩
  unfold addrOf
  rw [l, aK (ao (by decide)), aw (ae (by decide)), tA (aX _ _), dA (j := 0) 4 (aX _ _) rfl, d0, tA (aX _ _), dA (j := 4) 4 (aX _ _) rfl, dA (j := 0) 4 (aX _ _) rfl, d0, tA (aX _ _), dA (j := 8) 4 (aX _ _) rfl, dA (j := 4) 4 (aX _ _) rfl, dA (j := 0) 4 (aX _ _) rfl, d0, tA (aX _ _), sC h1, sC h2, sC h3, sC h4]
end
section
set_option maxHeartbeats 4000000
theorem uC : ∀ (n : Fin 256) (t : Fin 9), kc (n.val : Int) t.val = (n.val : Int) - (n.val : Int) % ((2 ^ (8 - t.val) : Nat) : Int) := by decide +kernel
theorem vx {b : Int} (hb : 0 ≤ b ∧ b ≤ 255) {t : Nat} (ht : t ≤ 8) : kc b t = b - b % ((2 ^ (8 - t) : Nat) : Int) := by
  have := uC ⟨b.toNat, by omega⟩ ⟨t, by omega⟩
  simpa [Int.toNat_of_nonneg hb.1] using this
theorem Jb {b d : Int} (hb : 0 ≤ b ∧ b ≤ 255) (hd : 0 ≤ d ∧ d ≤ 255) {t : Nat} (ht : t ≤ 8) (h : kc b t = b) : (0 ≤ b + (d - kc d t) ∧ b + (d - kc d t) ≤ 255) ∧ (0 ≤ d - kc d t ∧ d - kc d t ≤ 255) := by
  rw [vx hb ht] at h
  rw [vx hd ht]
  have e : t = 0 ∨ t = 1 ∨ t = 2 ∨ t = 3 ∨ t = 4 ∨ t = 5 ∨ t = 6 ∨ t = 7 ∨ t = 8 := by omega
  rcases e with rfl | rfl | rfl | rfl | rfl | rfl | rfl | rfl | rfl
  · have e : ((2 ^ (8 - 0) : Nat) : Int) = 256 := rfl
    rw [e] at h ⊢; omega
  · have e : ((2 ^ (8 - 1) : Nat) : Int) = 128 := rfl
    rw [e] at h ⊢; omega
  · have e : ((2 ^ (8 - 2) : Nat) : Int) = 64 := rfl
    rw [e] at h ⊢; omega
  · have e : ((2 ^ (8 - 3) : Nat) : Int) = 32 := rfl
    rw [e] at h ⊢; omega
  · have e : ((2 ^ (8 - 4) : Nat) : Int) = 16 := rfl
    rw [e] at h ⊢; omega
  · have e : ((2 ^ (8 - 5) : Nat) : Int) = 8 := rfl
    rw [e] at h ⊢; omega
  · have e : ((2 ^ (8 - 6) : Nat) : Int) = 4 := rfl
    rw [e] at h ⊢; omega
  · have e : ((2 ^ (8 - 7) : Nat) : Int) = 2 := rfl
    rw [e] at h ⊢; omega
  · have e : ((2 ^ (8 - 8) : Nat) : Int) = 1 := rfl
    rw [e] at h ⊢; omega
def vy (d c : List Int) : List Int := List.zipWith (fun x y => x - y) d c
def iG (b d c : List Int) : List Int := List.zipWith (fun x y => x + y) b (vy d c)
theorem yZ : ∀ {x y : List Int}, x.length = y.length → df (List.zipWith (fun x y => x + y) x y) = df x + df y
  | [], [], _ => rfl
  | [], _ :: _, h => by cases h
  | _ :: _, [], h => by cases h
  | a :: x, b :: y, h => by
    have h' : x.length = y.length := Nat.succ.inj h
    simp only [List.zipWith_cons_cons, kR, List.length_zipWith, h', Nat.min_self, yZ h', Int.add_mul]
    omega
theorem y9 : ∀ {x y : List Int}, x.length = y.length → df (vy x y) = df x - df y
  | [], [], _ => rfl
  | [], _ :: _, h => by cases h
  | _ :: _, [], h => by cases h
  | a :: x, b :: y, h => by
    have h' : x.length = y.length := Nat.succ.inj h
    have ih := y9 h'
    unfold vy at ih ⊢
    simp only [List.zipWith_cons_cons, kR, List.length_zipWith, h', Nat.min_self, ih, Int.sub_mul]
    omega
theorem vz {x y : List Int} (h : x.length = y.length) : (vy x y).length = y.length := by unfold vy; rw [List.length_zipWith, h, Nat.min_self]
theorem lJ {b d c : List Int} (h : d.length = c.length) (h2 : b.length = c.length) : (iG b d c).length = c.length := by unfold iG; rw [List.length_zipWith, vz h, h2, Nat.min_self]
theorem za {b d c : List Int} (h : d.length = c.length) (h2 : b.length = c.length) : df (iG b d c) = df b + (df d - df c) := by
  unfold iG
  rw [yZ (by rw [vz h, h2]), y9 h]
theorem Ay (b d c : List Int) (n : Nat) : (iG b d c).take n = iG (b.take n) (d.take n) (c.take n) := by unfold iG vy; rw [List.take_zipWith, List.take_zipWith]
theorem Az (b d c : List Int) (n : Nat) : (iG b d c).drop n = iG (b.drop n) (d.drop n) (c.drop n) := by unfold iG vy; rw [List.drop_zipWith, List.drop_zipWith]
theorem vA {b d c : List Int} (h : d.length = c.length) (h2 : b.length = c.length) {j : Nat} (hj : j < c.length) : (iG b d c).getD j 0 = b.getD j 0 + (d.getD j 0 - c.getD j 0) := by
  have l := lJ h h2
  rw [dT (iG b d c) 0 j (by omega), dT b 0 j (by omega), dT d 0 j (by omega), dT c 0 j hj]
  unfold iG vy
  rw [List.getElem_zipWith, List.getElem_zipWith]
theorem Jc {α : Type} : ∀ (P : List α) (x z : α) (r : List α) (n : Nat), n = P.length → (P ++ x :: r).getD n z = x
  | [], x, z, r, n, h => by subst h; rfl
  | y :: P, x, z, r, n, h => by
    subst h
    simp only [List.cons_append, List.length_cons, List.getD_cons_succ]
    exact Jc P x z r P.length rfl
theorem MK {α : Type} : ∀ (P : List α) (x y : α) (r : List α) (n : Nat), n = P.length → (P ++ x :: r).set n y = P ++ y :: r
  | [], x, y, r, n, h => by subst h; rfl
  | z :: P, x, y, r, n, h => by
    subst h
    simp only [List.cons_append, List.length_cons, List.set_cons_succ]
    rw [MK P x y r P.length rfl]
theorem vB (z : ar) {b d c : List Int} (h : d.length = c.length) (h2 : b.length = c.length) (hl : c.length ≤ 100)
    (H : ∀ j, j < c.length → (0 ≤ b.getD j 0 + (d.getD j 0 - c.getD j 0) ∧ b.getD j 0 + (d.getD j 0 - c.getD j 0) ≤ 255) ∧ (0 ≤ d.getD j 0 - c.getD j 0 ∧ d.getD j 0 - c.getD j 0 ≤ 255)) :
    ∀ (m i k : Nat), i + m = c.length → m < k → iter cC k ((), z, (iG b d c).take i ++ d.drop i, c, b, (i : Int), ()) = some ((), z, iG b d c, ())
  | m, i, 0, _, hk => by exact absurd hk (Nat.not_lt_zero _)
  | 0, i, k + 1, hi, hk => by
    have l := lJ h h2
    show cC _ _ = _
    unfold cC
    have e : (iG b d c).take i ++ d.drop i = iG b d c := by
      rw [List.take_of_length_le (by omega), List.drop_eq_nil_of_le (by omega), List.append_nil]
    simp only [e]
    rw [aK (ao (by omega))]
  | m + 1, i, k + 1, hi, hk => by
    have l := lJ h h2
    have ih := vB z h h2 hl H m (i + 1) k (by omega) (by omega)
    obtain ⟨H1, H2⟩ := H i (by omega)
    have g := vA h h2 (j := i) (by omega)
    have hd : d.drop i = d.getD i 0 :: d.drop (i + 1) := gM d 0 i (by omega)
    have tl : ((iG b d c).take i).length = i := by rw [List.length_take]; omega
    have L : ((iG b d c).take i ++ d.getD i 0 :: d.drop (i + 1)).length = c.length := by
      rw [aT, tl, List.length_cons, List.length_drop]; omega
    have tk : (iG b d c).take (i + 1) = (iG b d c).take i ++ [(iG b d c).getD i 0] := by
      rw [List.take_add_one, dT (iG b d c) 0 i (by omega), List.getElem?_eq_getElem (by omega)]; rfl
    rw [hd]
    show cC (iter cC k) _ = _
    generalize iter cC k = rec at ih ⊢
    unfold cC
    simp only [L, h2]
    have q1 : decide (((i : Nat) : Int) < (c.length : Int)) = true := ae (by omega)
    have q2 : decide ((0 : Int) ≤ ((i : Nat) : Int)) = true := ae (by omega)
    have q3 : decide (i < c.length) = true := ae (by omega)
    simp only [q1, q2, Int.toNat_natCast, q3, Bool.and_self, ag]
    rw [Jc _ _ 0 _ i tl.symm, MK _ _ _ _ i tl.symm, lF, lF, Int.emod_eq_of_lt H2.1 (by omega), Int.emod_eq_of_lt H1.1 (by omega), ← g, bL (by omega)]
    have e : (iG b d c).take i ++ (iG b d c).getD i 0 :: d.drop (i + 1) = (iG b d c).take (i + 1) ++ d.drop (i + 1) := by rw [tk, List.append_assoc]; rfl
    rw [e]
    exact ih
theorem Jd {a b : ar} (h : ML a b = true) : a = b := by
  unfold ML at h
  simp only [aA, bF, and_true] at h
  obtain ⟨a0, a1, a2, a3, a4, ⟨⟩⟩ := a
  obtain ⟨b0, b1, b2, b3, b4, ⟨⟩⟩ := b
  dsimp only at h
  obtain ⟨rfl, rfl, rfl, rfl, rfl⟩ := h
  rfl
theorem eL (n : Int) (l : List Int) : (eM n l).length = l.length := by unfold eM; simp
theorem vC (n : Int) (l : List Int) {j : Nat} (hj : j < l.length) : (eM n l).getD j 0 = kc (l.getD j 0) (gn (n - 8 * (j : Int))) := by
  rw [dT (eM n l) 0 j (by rw [eL]; exact hj)]
  unfold eM
  simp
def sF (p : bx) (a : ar) : ar := (a.1, p.1.2.1 + (a.2.1 - (lK a p.2.1).2.1), p.1.2.2.1 + (a.2.2.1 - (lK a p.2.1).2.2.1), p.1.2.2.2.1 + (a.2.2.2.1 - (lK a p.2.1).2.2.2.1), p.1.2.2.2.2.1 + (a.2.2.2.2.1 - (lK a p.2.1).2.2.2.2.1), ())
theorem jA {a : ar} (h : bO a = true) : (∃ D, a = (4, 0, 0, 0, D, ()) ∧ 0 ≤ D ∧ D ≤ 4294967295) ∨ (∃ A B C D, a = (6, A, B, C, D, ()) ∧ (0 ≤ A ∧ A ≤ 4294967295) ∧ (0 ≤ B ∧ B ≤ 4294967295) ∧ (0 ≤ C ∧ C ≤ 4294967295) ∧ (0 ≤ D ∧ D ≤ 4294967295)) := by
  obtain ⟨k, A, B, C, D, ⟨⟩⟩ := a
  unfold bO dM at h
  dsimp only at h
  by_cases h4 : k = 4
  · subst h4
    simp only [aI, ag, aA, bF] at h
    obtain ⟨rfl, rfl, rfl, h4⟩ := h
    exact .inl ⟨D, rfl, h4.1, h4.2⟩
  · rw [ao h4] at h
    simp only [al, aA, bF] at h
    obtain ⟨rfl, h1, h2, h3, h4⟩ := h
    exact .inr ⟨A, B, C, D, rfl, h1, h2, h3, h4⟩
theorem Gf {D : Int} (h : 0 ≤ D ∧ D ≤ 4294967295) : au (4, 0, 0, 0, D, ()) = putB D 4 := by
  have : bO (4, 0, 0, 0, D, ()) = true := by unfold bO dM; simp only [aI, ag, Bool.true_and, aA, bF]; exact h
  unfold au; rw [this]; rfl
theorem MN {A B C D : Int} (hA : 0 ≤ A ∧ A ≤ 4294967295) (hB : 0 ≤ B ∧ B ≤ 4294967295) (hC : 0 ≤ C ∧ C ≤ 4294967295) (hD : 0 ≤ D ∧ D ≤ 4294967295) : au (6, A, B, C, D, ()) = putB A 4 ++ (putB B 4 ++ (putB C 4 ++ (putB D 4 ++ []))) := by
  have d64 : decide ((6 : Int) = 4) = false := rfl
  have : bO (6, A, B, C, D, ()) = true := by unfold bO dM; simp only [d64, al, aI, Bool.true_and, aA, bF]; exact ⟨hA, hB, hC, hD⟩
  unfold au; rw [this]; simp only [d64, ag, al, List.append_assoc, List.append_nil]
end
section
set_option maxHeartbeats 4000000
theorem pM {a : ar} (h : bO a = true) {n : Int} (hn : 0 ≤ n ∧ n ≤ gp a) : lK a n = (addrOf (eM n (au a))).1 := by
  unfold lK; rw [h, ae hn.1, ae hn.2]; rfl
theorem MO {D n : Int} (h : 0 ≤ D ∧ D ≤ 4294967295) (hn : 0 ≤ n ∧ n ≤ 32) : lK (4, 0, 0, 0, D, ()) n = (4, 0, 0, 0, df (eM n (putB D 4)), ()) := by
  have hb : bO (4, 0, 0, 0, D, ()) = true := by unfold bO dM; simp only [aI, ag, Bool.true_and, aA, bF]; exact h
  rw [pM hb (by exact hn), Gf h]
  have l : (eM n (putB D 4)).length = 4 := by rw [eL, aX]
  unfold addrOf
  rw [l]; rfl
theorem PL {A B C D n : Int} (hA : 0 ≤ A ∧ A ≤ 4294967295) (hB : 0 ≤ B ∧ B ≤ 4294967295) (hC : 0 ≤ C ∧ C ≤ 4294967295) (hD : 0 ≤ D ∧ D ≤ 4294967295) (hn : 0 ≤ n ∧ n ≤ 128) :
    lK (6, A, B, C, D, ()) n = (6, df ((eM n (au (6, A, B, C, D, ()))).take 4), df (((eM n (au (6, A, B, C, D, ()))).drop 4).take 4), df (((eM n (au (6, A, B, C, D, ()))).drop 8).take 4), df (((eM n (au (6, A, B, C, D, ()))).drop 12).take 4), ()) := by
  have d64 : decide ((6 : Int) = 4) = false := rfl
  have hb : bO (6, A, B, C, D, ()) = true := by unfold bO dM; simp only [d64, al, aI, Bool.true_and, aA, bF]; exact ⟨hA, hB, hC, hD⟩
  rw [pM hb (by exact hn)]
  have l : (eM n (au (6, A, B, C, D, ()))).length = 16 := by rw [eL, MN hA hB hC hD]; simp only [aT, aX, List.length_nil]
  unfold addrOf
  rw [l]; rfl
theorem zb {p : bx} (h : gB p = true) (hn : iT p = false) : bO p.1 = true ∧ (0 ≤ p.2.1 ∧ p.2.1 ≤ gp p.1) ∧ lK p.1 p.2.1 = p.1 := by
  unfold gB at h
  rw [hn, Bool.false_or] at h
  simp only [aA, bF] at h
  exact ⟨h.1, h.2.1, Jd h.2.2⟩
theorem jQ (a : ar) : az (au a) := de a
theorem vD {l : List Int} (h : az l) {j : Nat} (hj : j < l.length) : 0 ≤ l.getD j 0 ∧ l.getD j 0 ≤ 255 := h _ (cb l 0 j hj)
theorem Ik {b d : List Int} {n : Int} (hb : az b) (hd : az d) (hl : b.length = d.length) (hc : eM n b = b) : ∀ j, j < (eM n d).length →
    (0 ≤ b.getD j 0 + (d.getD j 0 - (eM n d).getD j 0) ∧ b.getD j 0 + (d.getD j 0 - (eM n d).getD j 0) ≤ 255) ∧ (0 ≤ d.getD j 0 - (eM n d).getD j 0 ∧ d.getD j 0 - (eM n d).getD j 0 ≤ 255) := by
  intro j hj
  rw [eL] at hj
  have e := vC n b (j := j) (by omega)
  rw [hc] at e
  rw [vC n d hj]
  exact Jb (vD hb (by omega)) (vD hd hj) (vE _) e.symm
theorem PN {k n : Int} {a : ar} (h : bO a = true) (hk : a.1 = k) (hn : 0 ≤ n ∧ n ≤ gp a) : bO (lK a n) = true ∧ (lK a n).1 = k := by
  subst hk
  rcases jA h with ⟨D, rfl, hD⟩ | ⟨A, B, C, D, rfl, hA, hB, hC, hD⟩
  · have l : (eM n (au (4, 0, 0, 0, D, ()))).length = 4 := by rw [eL, Gf hD, aX]
    have := ou (gZ n _) l
    rw [pM h hn]
    exact ⟨this.1, this.2.1⟩
  · have l : (eM n (au (6, A, B, C, D, ()))).length = 16 := by rw [eL, MN hA hB hC hD]; simp only [aT, aX, List.length_nil]
    have := mX (gZ n _) l
    rw [pM h hn]
    exact ⟨this.1, this.2.1⟩
theorem Ds {a : ar} (h : bO a = true) {n : Int} (hn : 0 ≤ n ∧ n ≤ gp a) (he : lK a n = a) : eM n (au a) = au a := by
  have e := pM h hn
  rw [he] at e
  rcases jA h with ⟨D, rfl, hD⟩ | ⟨A, B, C, D, rfl, hA, hB, hC, hD⟩
  · have l : (eM n (au (4, 0, 0, 0, D, ()))).length = 4 := by rw [eL, Gf hD, aX]
    have := (ou (gZ n _) l).2.2
    rw [← e] at this
    exact this.symm
  · have l : (eM n (au (6, A, B, C, D, ()))).length = 16 := by rw [eL, MN hA hB hC hD]; simp only [aT, aX, List.length_nil]
    have := (mX (gZ n _) l).2.2
    rw [← e] at this
    exact this.symm
theorem Gg {p : bx} {a : ar} (hp : bO p.1 = true) (hn : 0 ≤ p.2.1 ∧ p.2.1 ≤ gp p.1) (he : lK p.1 p.2.1 = p.1) (ha : bO a = true) (hk : p.1.1 = a.1) :
    addrOf (iG (au p.1) (au a) (eM p.2.1 (au a))) = (sF p a, true) ∧ (au p.1).length = (au a).length ∧ au (lK a p.2.1) = eM p.2.1 (au a) ∧ (au a).length ≤ 16 := by
  obtain ⟨P, n, ⟨⟩⟩ := p
  dsimp only at hp hn he hk ⊢
  rcases jA hp with ⟨D, rfl, hD⟩ | ⟨A, B, C, D, rfl, hA, hB, hC, hD⟩
  · rcases jA ha with ⟨E, rfl, hE⟩ | ⟨A', B', C', D', rfl, hA', hB', hC', hD'⟩
    · have hn' : 0 ≤ n ∧ n ≤ 32 := hn
      have l1 : (putB E 4).length = (eM n (putB E 4)).length := by rw [eL]
      have l2 : (putB D 4).length = (eM n (putB E 4)).length := by rw [eL, aX, aX]
      have e : (iG (putB D 4) (putB E 4) (eM n (putB E 4))).length = 4 := by rw [lJ l1 l2, eL, aX]
      refine ⟨?_, by rw [Gf hD, Gf hE, aX, aX], ?_, by rw [Gf hE, aX]; decide⟩
      · rw [Gf hD, Gf hE]
        unfold addrOf
        rw [e, aw (ae (by decide)), za l1 l2, sC hD, sC hE]
        unfold sF
        rw [MO hE hn']
        rfl
      · rw [MO hE hn', Gf hE]
        have l4 : (eM n (putB E 4)).length = 4 := by rw [eL, aX]
        have := (ou (gZ n (putB E 4)) l4).2.2
        have e4 : addrOf (eM n (putB E 4)) = ((4, 0, 0, 0, df (eM n (putB E 4)), ()), true) := by unfold addrOf; rw [l4]; rfl
        rw [e4] at this
        exact this
    · exact absurd hk (by show ¬ (4 : Int) = 6; decide)
  · rcases jA ha with ⟨E, rfl, hE⟩ | ⟨A', B', C', D', rfl, hA', hB', hC', hD'⟩
    · exact absurd hk (by show ¬ (6 : Int) = 4; decide)
    · have hn' : 0 ≤ n ∧ n ≤ 128 := hn
      have eb := MN hA hB hC hD
      have ea := MN hA' hB' hC' hD'
      have la : (au (6, A', B', C', D', ())).length = 16 := by rw [ea]; simp only [aT, aX, List.length_nil]
      have lb : (au (6, A, B, C, D, ())).length = 16 := by rw [eb]; simp only [aT, aX, List.length_nil]
      have lc : (eM n (au (6, A', B', C', D', ()))).length = 16 := by rw [eL, la]
      refine ⟨?_, by rw [la, lb], ?_, by rw [la]; decide⟩
      · have c6 := PL hA' hB' hC' hD' hn'
        unfold sF
        rw [c6]
        generalize hc : eM n (au (6, A', B', C', D', ())) = c at lc
        have e : (iG (au (6, A, B, C, D, ())) (au (6, A', B', C', D', ())) c).length = 16 := by rw [lJ (by rw [la, lc]) (by rw [lb, lc]), lc]
        unfold addrOf
        rw [e, aK (ao (by decide)), aw (ae (by decide))]
        have sg : ∀ i, i + 4 ≤ 16 → df (((iG (au (6, A, B, C, D, ())) (au (6, A', B', C', D', ())) c).drop i).take 4) = df (((au (6, A, B, C, D, ())).drop i).take 4) + (df (((au (6, A', B', C', D', ())).drop i).take 4) - df ((c.drop i).take 4)) := by
          intro i hi
          rw [Az, Ay]
          have f : ∀ l : List Int, l.length = 16 → ((l.drop i).take 4).length = 4 := fun l h => by rw [List.length_take, List.length_drop]; omega
          exact za (by rw [f _ la, f _ lc]) (by rw [f _ lb, f _ lc])
        have s0 := sg 0 (by decide)
        have s4 := sg 4 (by decide)
        have s8 := sg 8 (by decide)
        have s12 := sg 12 (by decide)
        rw [d0, d0, d0, d0] at s0
        rw [s0, s4, s8, s12, eb, ea]
        rw [tA (aX _ _), dA (j := 0) 4 (aX _ _) rfl, d0, tA (aX _ _), dA (j := 4) 4 (aX _ _) rfl, dA (j := 0) 4 (aX _ _) rfl, d0, tA (aX _ _), dA (j := 8) 4 (aX _ _) rfl, dA (j := 4) 4 (aX _ _) rfl, dA (j := 0) 4 (aX _ _) rfl, d0, tA (aX _ _)]
        rw [tA (aX _ _), dA (j := 0) 4 (aX _ _) rfl, d0, tA (aX _ _), dA (j := 4) 4 (aX _ _) rfl, dA (j := 0) 4 (aX _ _) rfl, d0, tA (aX _ _), dA (j := 8) 4 (aX _ _) rfl, dA (j := 4) 4 (aX _ _) rfl, dA (j := 0) 4 (aX _ _) rfl, d0, tA (aX _ _)]
        rw [sC hA, sC hB, sC hC, sC hD, sC hA', sC hB', sC hC', sC hD']
      · rw [pM ha hn]
        exact (mX (gZ n _) lc).2.2
theorem Gi (k : Nat) (hk : MM < k) {p : bx} {a : ar} (hp : bO p.1 = true) (hn : 0 ≤ p.2.1 ∧ p.2.1 ≤ gp p.1) (ha : bO a = true) (hkd : p.1.1 = a.1) : kL k p a = some ((sF p a, ()), ()) := by
  have hn' : 0 ≤ p.2.1 ∧ p.2.1 ≤ gp a := by unfold gp at hn ⊢; rw [hkd] at hn; exact hn
  obtain ⟨hc, hc1⟩ := PN ha rfl hn'
  have UP : ∀ {x : ar}, bO x = true → (0 ≤ x.2.1 ∧ x.2.1 ≤ 4294967295) ∧ (0 ≤ x.2.2.1 ∧ x.2.2.1 ≤ 4294967295) ∧ (0 ≤ x.2.2.2.1 ∧ x.2.2.2.1 ≤ 4294967295) ∧ (0 ≤ x.2.2.2.2.1 ∧ x.2.2.2.2.1 ≤ 4294967295) := by
    intro x h
    rcases jA h with ⟨D, rfl, hD⟩ | ⟨A, B, C, D, rfl, hA, hB, hC, hD⟩
    · exact ⟨⟨Int.le_refl _, show (0 : Int) ≤ 4294967295 by decide⟩, ⟨Int.le_refl _, show (0 : Int) ≤ 4294967295 by decide⟩, ⟨Int.le_refl _, show (0 : Int) ≤ 4294967295 by decide⟩, hD⟩
    · exact ⟨hA, hB, hC, hD⟩
  obtain ⟨a1, a2, a3, a4⟩ := UP ha
  obtain ⟨b1, b2, b3, b4⟩ := UP hp
  obtain ⟨c1, c2, c3, c4⟩ := UP hc
  unfold kL sF
  rw [Je k hk]
  simp only [ai]
  have w : ∀ {x y z : Int}, 0 ≤ x ∧ x ≤ 4294967295 → 0 ≤ y ∧ y ≤ 4294967295 → 0 ≤ z ∧ z ≤ 4294967295 → Wr .i64 (Wr .i64 (x - y) + z) = z + (x - y) := by
    intro x y z hx hy hz
    rw [bL (n := x - y) (by omega), bL (by omega)]; omega
  rw [w a1 c1 b1, w a2 c2 b2, w a3 c3 b3, w a4 c4 b4]
end
section
set_option maxHeartbeats 4000000
def ja (p : bx) (a : ar) : Bool := iT p || (decide (a.1 = p.1.1) && ML (lK a p.2.1) p.1)
theorem AA (k : Nat) (hk : MM < k) (p : bx) (a : ar) : dd k p a = some ((ja p a, ()), ()) := by
  unfold dd ja
  rw [anyI, ai]
  dsimp only
  cases iT p
  · simp only [bT, ag, Bool.false_or]
    cases decide (a.1 = p.1.1)
    · rfl
    · rw [Je k hk]; rfl
  · rfl
theorem xQ (k : Nat) (hk : MM < k) {p : bx} {a : ar} (hp : gB p = true) (ha : bO a = true) : dV k p a = some ((ja p a, ()), ()) := by
  unfold dV ja
  rw [Dt k hk, ai, hp]
  simp only [bI, bT, ag, al]
  rw [rb, ai, ha]
  simp only [bI, al]
  rw [anyS, ai]
  dsimp only
  have e : decide (p.1.1 = a.1) = decide (a.1 = p.1.1) := decide_eq_decide.2 ⟨Eq.symm, Eq.symm⟩
  rw [e]
  cases iT p
  · simp only [bT, ag, Bool.false_or]
    cases decide (a.1 = p.1.1)
    · rfl
    · rw [Jf k hk]; rfl
  · rfl
theorem nG {a b : bx} (h : mD a b = true) : gB a = true ∧ gB b = true ∧ iT a = false ∧ iT b = false ∧ a.1.1 = b.1.1 ∧ a.2.1 = b.2.1 := by
  unfold mD at h
  simpa [aA] using h
theorem Du {p : bx} {a : ar} (hn : iT p = false) (h : ja p a = true) : a.1 = p.1.1 := by
  unfold ja at h
  rw [hn, Bool.false_or, aA, bF] at h
  exact h.1
theorem Gj (k : Nat) (hk : MM < k) {f t : bx} {a : ar} (ht : mD f t = true) (ha : bO a = true) (hh : ja f a = true) : jf k f t a = some ((sF t a, ()), ()) := by
  obtain ⟨h1, h2, h3, h4, h5, h6⟩ := nG ht
  obtain ⟨p1, p2, p3⟩ := zb h2 h4
  have hka := Du h3 hh
  have hkd : t.1.1 = a.1 := by rw [hka, h5]
  obtain ⟨m1, m2, m3, m4⟩ := Gg p1 p2 p3 ha hkd
  unfold jf
  rw [Il k hk, ai, ht]
  simp only [bI, bT, ag]
  rw [xQ k hk h1 ha, ai, hh]
  simp only [bI, al]
  rw [kC, ai, Jf k hk, ai, kC, ai, kC, ai]
  dsimp only
  rw [h6, m3]
  have l1 : (au a).length = (eM t.2.1 (au a)).length := by rw [eL]
  have run := vB (0, 0, 0, 0, 0, ()) l1 (m2.trans l1) (by rw [eL]; omega) (Ik (jQ _) (jQ _) m2 (Ds p1 p2 p3)) (eM t.2.1 (au a)).length 0 k (by omega) (by rw [eL]; have : MM < k := hk; unfold MM at this; omega)
  simp only [List.take_zero, List.nil_append, List.drop_zero] at run
  have run' : iter cC k ((), (0, 0, 0, 0, 0, ()), au a, eM t.2.1 (au a), au t.1, 0, ()) = some ((), (0, 0, 0, 0, 0, ()), iG (au t.1) (au a) (eM t.2.1 (au a)), ()) := run
  rw [run', ai]
  have bb : az (iG (au t.1) (au a) (eM t.2.1 (au a))) := by
    intro x hx
    obtain ⟨j, hj, rfl⟩ := List.mem_iff_getElem.1 hx
    have hj' : j < (eM t.2.1 (au a)).length := by rw [← lJ l1 (m2.trans l1)]; exact hj
    have g := vA l1 (m2.trans l1) hj'
    rw [dT _ 0 j hj] at g
    rw [g]
    exact (Ik (jQ _) (jQ _) m2 (Ds p1 p2 p3) j hj').1
  rw [nH k hk _ bb, ai, m1]
theorem SZ {f t : bx} {a : ar} (ht : mD f t = true) (ha : bO a = true) (hh : ja f a = true) : bO (sF t a) = true ∧ (sF t a).1 = a.1 := by
  obtain ⟨h1, h2, h3, h4, h5, h6⟩ := nG ht
  obtain ⟨p1, p2, p3⟩ := zb h2 h4
  have hka := Du h3 hh
  have hkd : t.1.1 = a.1 := by rw [hka, h5]
  obtain ⟨m1, m2, m3, m4⟩ := Gg p1 p2 p3 ha hkd
  have l1 : (au a).length = (eM t.2.1 (au a)).length := by rw [eL]
  have bb : az (iG (au t.1) (au a) (eM t.2.1 (au a))) := by
    intro x hx
    obtain ⟨j, hj, rfl⟩ := List.mem_iff_getElem.1 hx
    have hj' : j < (eM t.2.1 (au a)).length := by rw [← lJ l1 (m2.trans l1)]; exact hj
    have g := vA l1 (m2.trans l1) hj'
    rw [dT _ 0 j hj] at g
    rw [g]
    exact (Ik (jQ _) (jQ _) m2 (Ds p1 p2 p3) j hj').1
  have hl := lJ l1 (m2.trans l1)
  rw [eL] at hl
  refine ⟨?_, rfl⟩
  rcases jA ha with ⟨E, rfl, hE⟩ | ⟨A', B', C', D', rfl, hA', hB', hC', hD'⟩
  · rw [Gf hE, aX] at hl
    have := (ou bb (by rw [Gf hE]; exact hl)).1
    rw [m1] at this; exact this
  · have e16 : (au (6, A', B', C', D', ())).length = 16 := by rw [MN hA' hB' hC' hD']; simp only [aT, aX, List.length_nil]
    rw [e16] at hl
    have := (mX bb hl).1
    rw [m1] at this; exact this
end
end Go.Tw
