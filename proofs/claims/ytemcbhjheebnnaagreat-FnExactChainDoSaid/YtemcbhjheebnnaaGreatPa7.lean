/- Facts on mirrors. -/
import Derived.Test.YtemcbhjheebnnaaGreatPa3
import Derived.Test.YtemcbhjheebnnaaGreatPs7
import Derived.Test.YtemcbhjheebnnaaGreatPt3
set_option linter.all false
set_option maxRecDepth 100000
namespace Go.Tw
open Go Go.RowKit
section
set_option maxHeartbeats 8000000
section
variable (k : Nat) (hk : MM < k) (P : aj) (B : PB P)
include hk B
theorem Jg (h4 : P.1 = 4) : dP k P = some ((cg P, ()), ()) := by
  have d4 : decide (P.1 = 4) = true := ae h4
  have sr : bJ P = some ((P.2.2.1.2.2.2.2.2.2.2.1, ()), ()) := by unfold bJ; rw [d4]; rfl
  have ds : bK P = some ((P.2.2.1.2.2.2.2.2.2.2.2.1, ()), ()) := by unfold bK; rw [d4]; rfl
  have s1 := (ov k hk P.2.2.2.2.1 P.2.2.1.2.2.2.2.2.2.2.1 P.2.2.1.2.2.2.2.2.2.2.2.1 (Nat.le_trans B.uo (by decide)) (Nat.le_trans B.ub (by decide)) B.oN B.oO).2
  have s2 := kS k hk P.2.2.2.2.1 P.2.2.1.2.2.2.2.2.2.2.1 P.2.2.1.2.2.2.2.2.2.2.2.1 (Nat.le_trans B.uo (by decide)) (Nat.le_trans B.ub (by decide)) B.oN B.oO
  have s3 := (pN k hk P.2.2.2.2.1 P.2.2.1.2.2.2.2.2.2.2.1 P.2.2.1.2.2.2.2.2.2.2.2.1 (Nat.le_trans B.uo (by decide)) (Nat.le_trans B.ub (by decide)) B.oN B.oO).2
  have s4 := (lj k hk P.2.2.2.2.1 P.2.2.1.2.2.2.2.2.2.2.1 P.2.2.1.2.2.2.2.2.2.2.2.1 (Nat.le_trans B.uo (by decide)) (Nat.le_trans B.ub (by decide)) B.oN B.oO).2
  have lb : (fB (wF P.2.2.1 (mL P))).length ≤ 1100000 := Nat.le_trans s4 (by decide)
  have lo : (fO (wF P.2.2.1 (mL P))).length ≤ 1100000 := Nat.le_trans B.fo (by decide)
  have p1 := xR (wF P.2.2.1 (mL P)) lo lb
  have p2 := MP k hk (wF P.2.2.1 (mL P)) lo lb B.Kv
  have p3 := vF (wF P.2.2.1 (mL P)) lo lb
  have fl := xS (wF P.2.2.1 (mL P))
  have pl := B.pd
  have q : decide (((qH (wF P.2.2.1 (mL P))).length + P.2.2.2.2.2.1.length) * 1 ≤ 1099511627776) = true := ae (by omega)
  have hl : (eB (e4 P)).length ≤ 1100000 := by
    show (qH (wF P.2.2.1 (mL P)) ++ P.2.2.2.2.2.1).length ≤ 1100000
    rw [aT]; omega
  have p4 := Dv (e4 P) hl
  have g : cg P = qp P := by unfold cg; rw [d4]; rfl
  rw [g]
  unfold qp Fj emp
  unfold e4 at p4 ⊢
  unfold mL at p1 p2 p3 p4 q ⊢
  unfold dP gf gd
  simp only [d4, sr, ds, s1, s2, s3, ai, ag, bn, pJ, p1, p2, p3, p4, q, NI _ 4 (.inl rfl), MR]
  cases decide ((P.2.1.2.2.2.2.1.length : Int) = 0)
  · rfl
  cases decide ((P.2.2.1.2.2.2.2.2.2.2.2.2.2.1.length : Int) = 0)
  · rfl
  cases decide ((P.2.2.2.1.2.2.2.2.2.2.2.1.length : Int) = 0)
  · rfl
  simp only [ag, Bool.true_and]
  cases dX P.2.2.2.2.1 P.2.2.1.2.2.2.2.2.2.2.1 P.2.2.1.2.2.2.2.2.2.2.2.1
  · cases xU P.2.2.2.1 <;> cases decide (P.2.1.2.2.2.1 = 2048) <;> rfl
  simp only [ag, Bool.true_and]
  generalize jZ P.2.2.2.2.1 P.2.2.1.2.2.2.2.2.2.2.1 P.2.2.1.2.2.2.2.2.2.2.2.1 = L
  generalize mY (wE P.2.1 (qH (wF P.2.2.1 L) ++ P.2.2.2.2.2.1)) = b5
  cases jB (wF P.2.2.1 L)
  · simp only [al]
    cases xU P.2.2.2.1
    · rfl
    cases decide (P.2.1.2.2.2.1 = 2048)
    · rfl
    cases dN (wF P.2.2.1 L)
    · rfl
    cases decide (P.2.2.2.2.1.1 = ke P.2.2.1.2.2.2.2.2.2.1 4)
    · rfl
    cases b5 <;> rfl
  · simp only [ag]
    cases xU P.2.2.2.1
    · rfl
    cases decide (P.2.1.2.2.2.1 = 2048)
    · rfl
    cases dN (wF P.2.2.1 L)
    · rfl
    cases decide (P.2.2.2.2.1.1 = 0)
    · rfl
    cases b5 <;> rfl
theorem Jh (h6 : P.1 = 6) : dP k P = some ((cg P, ()), ()) := by
  have d4 : decide (P.1 = 4) = false := ao (by omega)
  have d6 : decide (P.1 = 6) = true := ae h6
  have sr : bJ P = some ((P.2.2.2.1.2.2.2.2.1, ()), ()) := by unfold bJ; rw [d4]; rfl
  have ds : bK P = some ((P.2.2.2.1.2.2.2.2.2.1, ()), ()) := by unfold bK; rw [d4]; rfl
  have s1 := (ov k hk P.2.2.2.2.1 P.2.2.2.1.2.2.2.2.1 P.2.2.2.1.2.2.2.2.2.1 (Nat.le_trans B.uo (by decide)) (Nat.le_trans B.ub (by decide)) B.oN B.oO).2
  have s2 := kS k hk P.2.2.2.2.1 P.2.2.2.1.2.2.2.2.1 P.2.2.2.1.2.2.2.2.2.1 (Nat.le_trans B.uo (by decide)) (Nat.le_trans B.ub (by decide)) B.oN B.oO
  have s3 := (pN k hk P.2.2.2.2.1 P.2.2.2.1.2.2.2.2.1 P.2.2.2.1.2.2.2.2.2.1 (Nat.le_trans B.uo (by decide)) (Nat.le_trans B.ub (by decide)) B.oN B.oO).2
  have s4 := (lj k hk P.2.2.2.2.1 P.2.2.2.1.2.2.2.2.1 P.2.2.2.1.2.2.2.2.2.1 (Nat.le_trans B.uo (by decide)) (Nat.le_trans B.ub (by decide)) B.oN B.oO).2
  have lb : (sB (wS P.2.2.2.1 (oL P))).length ≤ 1100000 := Nat.le_trans s4 (by decide)
  have hx : ∀ x ∈ sE (wS P.2.2.2.1 (oL P)), x.2.1.length ≤ 1100000 := fun x hx => Nat.le_trans (B.sx x hx) (by decide)
  have p2 := Dw k hk (wS P.2.2.2.1 (oL P)) B.se hx lb
  have p3 := zc k hk (wS P.2.2.2.1 (oL P)) hx lb
  have fl := re (wS P.2.2.2.1 (oL P))
  have pl := B.pd
  have q : decide (((gN (wS P.2.2.2.1 (oL P))).length + P.2.2.2.2.2.1.length) * 1 ≤ 1099511627776) = true := ae (by omega)
  have hl : (eB (e6 P)).length ≤ 1100000 := by
    show (gN (wS P.2.2.2.1 (oL P)) ++ P.2.2.2.2.2.1).length ≤ 1100000
    rw [aT]; omega
  have p4 := Dv (e6 P) hl
  have g : cg P = qq P := by unfold cg; rw [d4, d6]; rfl
  rw [g]
  unfold qq Fk emp
  unfold e6 at p4 ⊢
  unfold oL at p2 p3 p4 q ⊢
  unfold dP gf gd
  simp only [d4, d6, sr, ds, s1, s2, s3, ai, ag, al, bn, pJ, p2, p3, p4, q, NI _ 6 (.inr rfl), MS]
  cases decide ((P.2.1.2.2.2.2.1.length : Int) = 0)
  · rfl
  cases decide ((P.2.2.1.2.2.2.2.2.2.2.2.2.2.1.length : Int) = 0)
  · rfl
  cases decide ((P.2.2.2.1.2.2.2.2.2.2.2.1.length : Int) = 0)
  · rfl
  simp only [ag, Bool.true_and]
  cases dX P.2.2.2.2.1 P.2.2.2.1.2.2.2.2.1 P.2.2.2.1.2.2.2.2.2.1
  · cases AB P.2.2.1 <;> cases decide (P.2.1.2.2.2.1 = 34525) <;> rfl
  simp only [ag, Bool.true_and]
  generalize jZ P.2.2.2.2.1 P.2.2.2.1.2.2.2.2.1 P.2.2.2.1.2.2.2.2.2.1 = L
  generalize mY (wE P.2.1 (gN (wS P.2.2.2.1 L) ++ P.2.2.2.2.2.1)) = b5
  cases AB P.2.2.1
  · rfl
  cases decide (P.2.1.2.2.2.1 = 34525)
  · rfl
  cases lL (wS P.2.2.2.1 L)
  · rfl
  cases decide (P.2.2.2.2.1.1 = ke P.2.2.2.1.2.2.2.1 6)
  · rfl
  cases b5 <;> rfl
theorem Dx : dP k P = some ((cg P, ()), ()) := by
  by_cases h4 : P.1 = 4
  · exact Jg k hk P B h4
  by_cases h6 : P.1 = 6
  · exact Jh k hk P B h6
  have d4 : decide (P.1 = 4) = false := ao h4
  have d6 : decide (P.1 = 6) = false := ao h6
  have g : cg P = false := by unfold cg; rw [d4, d6]; rfl
  rw [g]
  unfold dP gf gd
  simp only [d4, d6, bn, pJ, al]
end
end
section
set_option maxHeartbeats 4000000
theorem MT {x : List Int} (h : x.length ≤ 1100000) : bw x = some ((x, ()), ()) := by
  unfold bw
  rw [aw (ae (by omega))]
theorem Dy (X Z : aj) : ∀ (l P : List aB) (k : Nat), P.length + l.length ≤ 1100000 → l.length < k → (∀ x ∈ l, x.2.1.length ≤ 1100000) →
    iter bU k ((), X, Z, P, P ++ l, (((P ++ l).length : Nat) : Int), (P.length : Int), ()) = some ((), X, Z, P ++ l, ())
  | l, P, 0, _, hk, _ => by exact absurd hk (Nat.not_lt_zero _)
  | [], P, k + 1, hl, hk, hx => by
    show bU _ _ = _
    unfold bU
    simp only [List.append_nil]
    rw [aK (ao (by omega))]
  | x :: l, P, k + 1, hl, hk, hx => by
    have hl' : P.length + (l.length + 1) ≤ 1100000 := hl
    have ih := Dy X Z l (P ++ [x]) k (by rw [aT, List.length_cons, List.length_nil]; omega) (by have : l.length + 1 < k + 1 := hk; omega) (fun y hy => hx y (List.mem_cons_of_mem _ hy))
    have e : (P ++ [x]) ++ l = P ++ x :: l := by rw [List.append_assoc]; rfl
    rw [e] at ih
    have L : (P ++ x :: l).length = P.length + (l.length + 1) := by rw [aT, List.length_cons]
    have L1 : (P ++ [x]).length = P.length + 1 := by rw [aT]; rfl
    show bU (iter bU k) _ = _
    generalize iter bU k = rec at ih ⊢
    unfold bU
    rw [L] at ih ⊢
    rw [L1] at ih
    dsimp only
    rw [aw (ae (by omega)), aw (by rw [ae (by omega), ae (by omega)]; rfl), Int.toNat_natCast, aw (ae (by omega)), Jc P x cF l P.length rfl, MT (hx x List.mem_cons_self), ai, aw (ae (by omega)), bL (by omega)]
    exact ih
theorem Im (k : Nat) (hk : MM < k) {P : aj} (B : PB P) (he : emp P = true) : iP k P = some ((P, ()), ()) := by
  have hp := B.pd
  have f1 := B.fo
  have u1 := B.uo
  have u2 := B.ub
  have s1 := B.se
  have sx := B.sx
  obtain ⟨v, ⟨ed, es, et, ek, eb, ⟨⟩⟩, ⟨f1', f2, f3, f4, f5, f6, f7, f8, f9, fo, fb, ⟨⟩⟩, ⟨s1', s2, s3, s4, s5, s6, se, sb, ⟨⟩⟩, ⟨q1, q2, q3, q4, q5, q6, q7, q8, q9, qa, qb, qc, uo, ub, ⟨⟩⟩, pd, ⟨⟩⟩ := P
  unfold emp at he
  simp only [aA, bF] at he
  obtain ⟨z1, z2, z3⟩ := he
  have z1 := rf z1
  have z2 := rf z2
  have z3 := rf z3
  subst z1 z2 z3
  have f1 : fo.length ≤ 1048576 := f1
  have u1 : uo.length ≤ 1048576 := u1
  have u2 : ub.length ≤ 1048576 := u2
  have s1 : se.length ≤ 1048576 := s1
  have sx : ∀ x ∈ se, x.2.1.length ≤ 1048576 := sx
  have hp : pd.length ≤ 1048576 := hp
  unfold iP
  dsimp only
  rw [MT (x := fo) (by omega), ai, MT (x := uo) (by omega), ai, MT (x := ub) (by omega), ai, MT (x := pd) (by omega), ai]
  have run := fun X Z => Dy X Z se [] k (by simpa using Nat.le_trans s1 (by decide)) (by have : MM < k := hk; unfold MM at this; omega) (fun x hx => Nat.le_trans (sx x hx) (by decide))
  have run' : ∀ X Z, iter bU k ((), X, Z, ([] : List aB), se, (se.length : Int), 0, ()) = some ((), X, Z, se, ()) := run
  dsimp only
  rw [run', ai]
theorem Io (k : Nat) (hk : MM < k) {P : aj} (B : PB P) : jN k P = some ((cg P, ()), ()) := by
  obtain ⟨e, h, _, _⟩ := Ji k hk P B
  unfold jN
  rw [h]; rfl
end
section
set_option maxHeartbeats 4000000
theorem zd {P : aj} (hg : cg P = true) (h4 : P.1 = 4) : emp P = true ∧ P.2.2.2.1 = kQ ∧ (bO P.2.2.1.2.2.2.2.2.2.2.1 = true ∧ P.2.2.1.2.2.2.2.2.2.2.1.1 = 4) ∧ (bO P.2.2.1.2.2.2.2.2.2.2.2.1 = true ∧ P.2.2.1.2.2.2.2.2.2.2.2.1.1 = 4) ∧
    (0 ≤ P.2.2.1.1 ∧ P.2.2.1.1 ≤ 63) ∧ (0 ≤ P.2.2.1.2.1 ∧ P.2.2.1.2.1 ≤ 3) ∧ (0 ≤ P.2.2.1.2.2.2.2.2.1 ∧ P.2.2.1.2.2.2.2.2.1 ≤ 255) := by
  unfold cg at hg
  rw [ae h4] at hg
  simp only [ag] at hg
  unfold qp at hg
  simp only [aA] at hg
  obtain ⟨g1, g2, _, g4, _⟩ := hg
  unfold Fj at g4
  simp only [aA] at g4
  obtain ⟨_, i2, _⟩ := g4
  obtain ⟨r1, r2, r3, r4, r5, r6, r7, r8, r9⟩ := hJ i2
  unfold dN vg at i2
  simp only [aA, bF] at i2
  exact ⟨g1, Dz g2, i2.2.2.2.2.2.2.2.1, i2.2.2.2.2.2.2.2.2.1, r1, r2, r6⟩
theorem zf {P : aj} (hg : cg P = true) (h6 : P.1 = 6) : emp P = true ∧ P.2.2.1 = ra ∧ (bO P.2.2.2.1.2.2.2.2.1 = true ∧ P.2.2.2.1.2.2.2.2.1.1 = 6) ∧ (bO P.2.2.2.1.2.2.2.2.2.1 = true ∧ P.2.2.2.1.2.2.2.2.2.1.1 = 6) ∧
    (0 ≤ P.2.2.2.1.1 ∧ P.2.2.2.1.1 ≤ 255) ∧ (0 ≤ P.2.2.2.1.2.2.1 ∧ P.2.2.2.1.2.2.1 ≤ 255) := by
  unfold cg at hg
  rw [ao (show ¬ P.1 = 4 by omega), ae h6] at hg
  simp only [ag, al] at hg
  unfold qq at hg
  simp only [aA] at hg
  obtain ⟨g1, g2, _, g4, _⟩ := hg
  unfold Fk at g4
  simp only [aA] at g4
  obtain ⟨_, i2, _⟩ := g4
  unfold lL vg at i2
  simp only [aA, fV, bF] at i2
  exact ⟨g1, DA g2, i2.2.2.2.2.2.1, i2.2.2.2.2.2.2.1, i2.1, i2.2.2.1⟩
theorem vG {P : aj} (hg : cg P = true) : P.1 = 4 ∨ P.1 = 6 := by
  unfold cg at hg
  by_cases h4 : P.1 = 4
  · exact .inl h4
  by_cases h6 : P.1 = 6
  · exact .inr h6
  rw [ao h4, ao h6] at hg
  cases hg
def Bv (m : aV) (K : qZ) : Bool := ja m.2.1 K.1 && (ja m.2.2.1 K.2.1 && ((decide (m.2.2.2.1 = -1) || decide (m.2.2.2.1 = K.2.2.1)) && gq K.2.2.2.2.1 m.2.2.2.2.1 m.2.2.2.2.2.1))
theorem Ip (k : Nat) (hk : MM < k) (m : aV) (K : qZ) : fk k m K = some ((Bv m K, ()), ()) := by
  unfold fk Bv
  rw [AA k hk, ai]
  dsimp only
  cases ja m.2.1 K.1
  · rfl
  simp only [ag, Bool.true_and]
  rw [AA k hk, ai]
  dsimp only
  cases ja m.2.2.1 K.2.1
  · rfl
  simp only [ag, Bool.true_and, uD, ai]
  cases decide (m.2.2.2.1 = -1) <;> cases decide (m.2.2.2.1 = K.2.2.1) <;> rfl
theorem Iq (k : Nat) (hk : MM < k) {m : aV} {K : qZ} (h1 : gB m.2.1 = true) (h2 : gB m.2.2.1 = true) (a1 : bO K.1 = true) (a2 : bO K.2.1 = true) : je k m K = some ((Bv m K, ()), ()) := by
  unfold je Bv gq
  rw [xQ k hk h1 a1, ai]
  dsimp only
  cases ja m.2.1 K.1
  · rfl
  simp only [ag, Bool.true_and]
  rw [xQ k hk h2 a2, ai]
  dsimp only
  cases ja m.2.2.1 K.2.1
  · rfl
  simp only [ag, Bool.true_and]
  cases decide (m.2.2.2.1 = -1) <;> cases decide (m.2.2.2.1 = K.2.2.1) <;> cases decide (m.2.2.2.2.1 ≤ K.2.2.2.2.1) <;> rfl
structure PC (P : aj) : Prop extends PB P where
  xb : ∀ x ∈ sE P.2.2.2.1, az x.2.1
  pb : az P.2.2.2.2.2.1
theorem rh : ∀ (l : List aB) (p : Int), (∀ x ∈ l, az x.2.1) → az (fp l p)
  | [], p, _ => iu
  | x :: l, p, h => aE (nI _ _) (aE (h x List.mem_cons_self) (rh l p (fun y hy => h y (List.mem_cons_of_mem _ hy))))
theorem AD {f : aR} (ho : az (fO f)) (hb : az (fB f)) : az (qH f) := by
  unfold qH
  cases h : dN f
  · exact iu
  · exact aE (xV h ho) hb
theorem vH {s : bc} (hx : ∀ x ∈ sE s, az x.2.1) (hb : az (sB s)) : az (gN s) := by
  unfold gN
  cases h : lL s
  · exact iu
  · refine aE (aE ?_ (rh _ _ hx)) hb
    unfold vI
    exact aE (aC _ _) (aE (aC _ _) (aE (nI _ _) (aE (de _) (de _))))
theorem oa {e : bH} (hb : az (eB e)) : az (jR e) := by
  unfold jR
  cases h : mY e
  · exact iu
  · simp only [ag]
    refine aE (aC _ _) (aE (aC _ _) (aE ?_ (aE (aC _ _) hb)))
    cases decide (0 ≤ e.2.2.1)
    · exact iu
    · exact aE (aC _ _) (aC _ _)
theorem Jj {P : aj} (B : PC P) : az (oP P) := by
  have hk : MM < (1048577 : Nat) := by decide
  unfold oP
  cases cg P
  · exact iu
  simp only [ag]
  unfold AE
  cases decide (P.1 = 4)
  · have s4 := (lj 1048577 hk P.2.2.2.2.1 P.2.2.2.1.2.2.2.2.1 P.2.2.2.1.2.2.2.2.2.1 (Nat.le_trans B.uo (by decide)) (Nat.le_trans B.ub (by decide)) B.oN B.oO).1
    exact oa (e := e6 P) (aE (vH (s := wS P.2.2.2.1 (oL P)) B.xb s4) B.pb)
  · have s4 := (lj 1048577 hk P.2.2.2.2.1 P.2.2.1.2.2.2.2.2.2.2.1 P.2.2.1.2.2.2.2.2.2.2.2.1 (Nat.le_trans B.uo (by decide)) (Nat.le_trans B.ub (by decide)) B.oN B.oO).1
    exact oa (e := e4 P) (aE (AD (f := wF P.2.2.1 (mL P)) B.Kv s4) B.pb)
theorem DB (k : Nat) (hk : MM < k) {P : aj} (B : PC P) (hg : cg P = true) : jJ k P = some ((P, ()), ()) := by
  unfold jJ
  rw [MU k hk P B.toPB, ai]
  dsimp only
  rw [PO k hk _ (Jj B), ai, DC B.toPB hg]
end
section
set_option maxHeartbeats 8000000
abbrev mN (m : aV) : Int := m.2.2.2.2.2.2.1
def md4 (m : aV) (P : aj) : aj × Int := match P with
  | (v, E, (f1, f2, f3, f4, f5, f6, f7, sr, dt, fr), S, U, pd) =>
    bif decide (m.1 = 1) then (bif Bv m (sr, dt, f7, U.2.1, U.2.2.1, ()) then (oK, 2) else (P, 0)) else
    bif decide (m.1 = 2) then (bif ja m.2.1 sr then ((v, E, (f1, f2, f3, f4, f5, f6, f7, sF m.2.2.1 sr, dt, fr), S, U, pd), 0) else (P, 0)) else
    bif decide (m.1 = 3) then (bif ja m.2.1 dt then ((v, E, (f1, f2, f3, f4, f5, f6, f7, sr, sF m.2.2.1 dt, fr), S, U, pd), 0) else (P, 0)) else
    bif decide (m.1 = 4) then (bif decide (f6 < 2) then (oK, 3) else ((v, E, (f1, f2, f3, f4, f5, f6 - 1, f7, sr, dt, fr), S, U, pd), 0)) else
    bif decide (m.1 = 5) then ((v, E, (mN m, f2, f3, f4, f5, f6, f7, sr, dt, fr), S, U, pd), 0) else
    bif decide (m.1 = 6) then (bif decide (f2 = 1) || decide (f2 = 2) then ((v, E, (f1, 3, f3, f4, f5, f6, f7, sr, dt, fr), S, U, pd), 0) else (P, 0)) else (P, 0)
def md6 (m : aV) (P : aj) : aj × Int := match P with
  | (v, E, F, (cl, lb, hp, pr, sr, dt, sx), U, pd) =>
    bif decide (m.1 = 1) then (bif Bv m (sr, dt, pr, U.2.1, U.2.2.1, ()) then (oK, 2) else (P, 0)) else
    bif decide (m.1 = 2) then (bif ja m.2.1 sr then ((v, E, F, (cl, lb, hp, pr, sF m.2.2.1 sr, dt, sx), U, pd), 0) else (P, 0)) else
    bif decide (m.1 = 3) then (bif ja m.2.1 dt then ((v, E, F, (cl, lb, hp, pr, sr, sF m.2.2.1 dt, sx), U, pd), 0) else (P, 0)) else
    bif decide (m.1 = 4) then (bif decide (hp < 2) then (oK, 3) else ((v, E, F, (cl, lb, hp - 1, pr, sr, dt, sx), U, pd), 0)) else
    bif decide (m.1 = 5) then ((v, E, F, (4 * mN m + cl % 4, lb, hp, pr, sr, dt, sx), U, pd), 0) else
    bif decide (m.1 = 6) then (bif decide (cl % 4 = 1) || decide (cl % 4 = 2) then ((v, E, F, (4 * (cl / 4) + 3, lb, hp, pr, sr, dt, sx), U, pd), 0) else (P, 0)) else (P, 0)
theorem MV {m : aV} (h : nX m = true) (h1 : m.1 = 1) : gB m.2.1 = true ∧ gB m.2.2.1 = true := by
  unfold nX at h
  rw [ae h1] at h
  simp only [ag, aA] at h
  exact ⟨h.1, h.2.1⟩
theorem qe {m : aV} (h : nX m = true) (h1 : m.1 = 2 ∨ m.1 = 3) : mD m.2.1 m.2.2.1 = true := by
  unfold nX at h
  have e : (decide (m.1 = 2) || decide (m.1 = 3)) = true := by rcases h1 with e | e <;> rw [e] <;> rfl
  rw [ao (show ¬ m.1 = 1 by omega), e] at h
  simp only [ag, al, aA] at h
  exact h.1
theorem MW {m : aV} (h : nX m = true) (h1 : m.1 = 5) : 0 ≤ mN m ∧ mN m ≤ 63 := by
  unfold nX at h
  rw [h1] at h
  have h' : ((iT m.2.1 && iT m.2.2.1) && (z3 m.2.2.2.1 m.2.2.2.2.1 m.2.2.2.2.2.1 && gq m.2.2.2.2.2.2.1 0 63)) = true := h
  simp only [aA, fV] at h'
  exact h'.2.2
theorem oQ {m : aV} (h : nX m = true) : m.1 = 1 ∨ m.1 = 2 ∨ m.1 = 3 ∨ m.1 = 4 ∨ m.1 = 5 ∨ m.1 = 6 ∨ m.1 = 7 := by
  rcases kinds m.1 with e | e | e | e | e | e | e | ⟨h1, h2, h3, h4, h5, h6, h7, _⟩
  · exact .inl e
  · exact .inr (.inl e)
  · exact .inr (.inr (.inl e))
  · exact .inr (.inr (.inr (.inl e)))
  · exact .inr (.inr (.inr (.inr (.inl e))))
  · exact .inr (.inr (.inr (.inr (.inr (.inl e)))))
  · exact .inr (.inr (.inr (.inr (.inr (.inr e)))))
  · unfold nX at h
    rw [ao h1, ao h2, ao h3, ao h4, ao h5, ao h6, ao h7] at h
    cases h
theorem qI {f t : bx} {a : ar} (ht : mD f t = true) (hh : ja f a = true) : bO t.1 = true ∧ (0 ≤ t.2.1 ∧ t.2.1 ≤ gp t.1) ∧ t.1.1 = a.1 := by
  obtain ⟨h1, h2, h3, h4, h5, h6⟩ := nG ht
  obtain ⟨p1, p2, _⟩ := zb h2 h4
  exact ⟨p1, p2, by rw [Du h3 hh, h5]⟩
section
variable (k : Nat) (hk : MM < k) {m : aV} (hm : nX m = true) {P : aj} (B : PC P) (hg : cg P = true)
include hk hm B hg
theorem PQ (h4 : P.1 = 4) : fM k m P = some (((md4 m P).1, (md4 m P).2, ()), ()) := by
  obtain ⟨g1, g2, g3, g4, g5, g6, g7⟩ := zd hg h4
  have hc := Im k hk B.toPB g1
  obtain ⟨v, E, ⟨f1, f2, f3, f4, f5, f6, f7, sr, dt, fr⟩, S, U, pd⟩ := P
  obtain ⟨mk, mf, mt, mp, ml, mh, mn, ⟨⟩⟩ := m
  dsimp only at h4 g2 g3 g4 g5 g6 g7
  subst h4
  have k1 := oQ hm
  dsimp only at k1
  unfold fM
  rw [hc, ai]
  rcases k1 with rfl | rfl | rfl | rfl | rfl | rfl | rfl
  · simp only [bA, bz, bE, bB, bC, bD, md4, Int.reduceEq, Int.reduceNeg, decide_false, aI, al, ag, iQ, cR, gL, ai, Ip k hk]
    cases Bv (1, mf, mt, mp, ml, mh, mn, ()) (sr, dt, f7, U.2.1, U.2.2.1, ()) <;> rfl
  · simp only [bA, bz, bE, bB, bC, bD, md4, Int.reduceEq, decide_false, aI, al, ag, ai, AA k hk]
    cases hh : ja mf sr
    · rfl
    · obtain ⟨q1, q2, q3⟩ := qI (qe hm (.inl rfl)) hh
      simp only [ag]
      rw [Gi k hk q1 q2 g3.1 q3]; rfl
  · simp only [bA, bz, bE, bB, bC, bD, md4, Int.reduceEq, decide_false, aI, al, ag, ai, AA k hk]
    cases hh : ja mf dt
    · rfl
    · obtain ⟨q1, q2, q3⟩ := qI (qe hm (.inr rfl)) hh
      simp only [ag]
      rw [Gi k hk q1 q2 g4.1 q3]; rfl
  · simp only [bA, bz, bE, bB, bC, bD, md4, Int.reduceEq, decide_false, aI, al, ag]
    rw [bL (n := f6 - 1) (by omega)]
    cases decide (f6 < 2) <;> rfl
  · simp only [bA, bz, bE, bB, bC, bD, md4, Int.reduceEq, decide_false, aI, al, ag]
  · simp only [bA, bz, bE, bB, bC, bD, md4, Int.reduceEq, decide_false, aI, al, ag]
    cases decide (f2 = 1) <;> cases decide (f2 = 2) <;> rfl
  · simp only [bA, bz, bE, bB, bC, bD, md4, Int.reduceEq, decide_false, aI, al, ag]
theorem PS (h6 : P.1 = 6) : fM k m P = some (((md6 m P).1, (md6 m P).2, ()), ()) := by
  obtain ⟨g1, g2, g3, g4, g5, g6⟩ := zf hg h6
  have hc := Im k hk B.toPB g1
  obtain ⟨v, E, F, ⟨cl, lb, hp, pr, sr, dt, sx⟩, U, pd⟩ := P
  obtain ⟨mk, mf, mt, mp, ml, mh, mn, ⟨⟩⟩ := m
  dsimp only at h6 g2 g3 g4 g5 g6
  subst h6
  have k1 := oQ hm
  dsimp only at k1
  have et : Int.tmod cl 4 = cl % 4 := Int.tmod_eq_emod_of_nonneg g5.1
  unfold fM
  rw [hc, ai]
  rcases k1 with rfl | rfl | rfl | rfl | rfl | rfl | rfl
  · simp only [bA, bz, bE, bB, bC, bD, md6, Int.reduceEq, Int.reduceNeg, decide_false, aI, al, ag, iQ, cR, gL, ai, Ip k hk]
    cases Bv (1, mf, mt, mp, ml, mh, mn, ()) (sr, dt, pr, U.2.1, U.2.2.1, ()) <;> rfl
  · simp only [bA, bz, bE, bB, bC, bD, md6, Int.reduceEq, decide_false, aI, al, ag, ai, AA k hk]
    cases hh : ja mf sr
    · rfl
    · obtain ⟨q1, q2, q3⟩ := qI (qe hm (.inl rfl)) hh
      simp only [ag]
      rw [Gi k hk q1 q2 g3.1 q3]; rfl
  · simp only [bA, bz, bE, bB, bC, bD, md6, Int.reduceEq, decide_false, aI, al, ag, ai, AA k hk]
    cases hh : ja mf dt
    · rfl
    · obtain ⟨q1, q2, q3⟩ := qI (qe hm (.inr rfl)) hh
      simp only [ag]
      rw [Gi k hk q1 q2 g4.1 q3]; rfl
  · simp only [bA, bz, bE, bB, bC, bD, md6, Int.reduceEq, decide_false, aI, al, ag]
    rw [bL (n := hp - 1) (by omega)]
    cases decide (hp < 2) <;> rfl
  · have r5 := MW hm rfl
    have r5' : 0 ≤ mn ∧ mn ≤ 63 := r5
    simp only [bA, bz, bE, bB, bC, bD, md6, Int.reduceEq, decide_false, aI, al, ag, et]
    rw [bL (n := 4 * mn) (by omega), bL (by omega)]
  · simp only [bA, bz, bE, bB, bC, bD, md6, Int.reduceEq, decide_false, aI, al, ag, et]
    rw [bL (n := 3 - cl % 4) (by omega), bL (by omega), show cl + (3 - cl % 4) = 4 * (cl / 4) + 3 by omega]
    cases decide (cl % 4 = 1) <;> cases decide (cl % 4 = 2) <;> rfl
  · simp only [bA, bz, bE, bB, bC, bD, md6, Int.reduceEq, decide_false, aI, al, ag]
theorem PT (h4 : P.1 = 4) : dQ k m P = some (((md4 m P).1, (md4 m P).2, ()), ()) := by
  obtain ⟨g1, g2, g3, g4, g5, g6, g7⟩ := zd hg h4
  have hf := DB k hk B hg
  have ho := Dx k hk P B.toPB
  rw [hg] at ho
  have hM := Gk k hk m
  rw [hm] at hM
  have hK : jq k P = some (((P.2.2.1.2.2.2.2.2.2.2.1, P.2.2.1.2.2.2.2.2.2.2.2.1, P.2.2.1.2.2.2.2.2.2.1, P.2.2.2.2.1.2.1, P.2.2.2.2.1.2.2.1, ()), ()), ()) := by
    unfold jq bJ bK
    rw [ho, ai, ae h4, ao (show ¬ P.1 = 6 by omega)]
    rfl
  obtain ⟨v, E, ⟨f1, f2, f3, f4, f5, f6, f7, sr, dt, fr⟩, S, U, pd⟩ := P
  obtain ⟨mk, mf, mt, mp, ml, mh, mn, ⟨⟩⟩ := m
  dsimp only at h4 g2 g3 g4 g5 g6 g7 hK
  subst h4 g2
  have k1 := oQ hm
  dsimp only at k1
  unfold dQ
  rw [hM, ai]
  simp only [bI, bT, ag]
  rw [ho, ai]
  simp only [bI, al]
  rw [hf, ai]
  have sS : bJ (4, E, (f1, f2, f3, f4, f5, f6, f7, sr, dt, fr), kQ, U, pd) = some ((sr, ()), ()) := rfl
  have sD : bK (4, E, (f1, f2, f3, f4, f5, f6, f7, sr, dt, fr), kQ, U, pd) = some ((dt, ()), ()) := rfl
  have sM : jV (4, E, (f1, f2, f3, f4, f5, f6, f7, sr, dt, fr), kQ, U, pd) = some ((f1, f2, ()), ()) := rfl
  rw [sS, ai, sD, ai, sM, ai]
  rcases k1 with rfl | rfl | rfl | rfl | rfl | rfl | rfl
  · obtain ⟨p1, p2⟩ := MV hm rfl
    simp only [md4, Int.reduceEq, decide_false, aI, al, ag]
    rw [hK, ai, Iq k hk p1 p2 g3.1 g4.1, ai]
    dsimp only
    cases Bv (1, mf, mt, mp, ml, mh, mn, ()) (sr, dt, f7, U.2.1, U.2.2.1, ()) <;> rfl
  · have tw := qe hm (.inl rfl)
    simp only [md4, Int.reduceEq, decide_false, aI, al, ag]
    rw [xQ k hk (nG tw).1 g3.1, ai]
    dsimp only
    cases hh : ja mf sr
    · rfl
    · simp only [ag]
      rw [Gj k hk tw g3.1 hh]; rfl
  · have tw := qe hm (.inr rfl)
    simp only [md4, Int.reduceEq, decide_false, aI, al, ag]
    rw [xQ k hk (nG tw).1 g4.1, ai]
    dsimp only
    cases hh : ja mf dt
    · rfl
    · simp only [ag]
      rw [Gj k hk tw g4.1 hh]; rfl
  · simp only [md4, Int.reduceEq, decide_false, aI, al, ag, Int.add_zero]
    rw [bL (n := f6) (by omega), bL (n := f6 - 1) (by omega)]
    cases decide (f6 < 2) <;> rfl
  · simp only [md4, Int.reduceEq, decide_false, aI, al, ag, dB, ai]
  · simp only [md4, Int.reduceEq, decide_false, aI, al, ag, dB, ai]
    cases decide (f2 = 1) <;> cases decide (f2 = 2) <;> rfl
  · simp only [md4, Int.reduceEq, decide_false, aI, al, ag]
theorem PU (h6 : P.1 = 6) : dQ k m P = some (((md6 m P).1, (md6 m P).2, ()), ()) := by
  obtain ⟨g1, g2, g3, g4, g5, g6⟩ := zf hg h6
  have hf := DB k hk B hg
  have ho := Dx k hk P B.toPB
  rw [hg] at ho
  have hM := Gk k hk m
  rw [hm] at hM
  have hK : jq k P = some (((P.2.2.2.1.2.2.2.2.1, P.2.2.2.1.2.2.2.2.2.1, P.2.2.2.1.2.2.2.1, P.2.2.2.2.1.2.1, P.2.2.2.2.1.2.2.1, ()), ()), ()) := by
    unfold jq bJ bK
    rw [ho, ai, ao (show ¬ P.1 = 4 by omega), ae h6]
    rfl
  obtain ⟨v, E, F, ⟨cl, lb, hp, pr, sr, dt, sx⟩, U, pd⟩ := P
  obtain ⟨mk, mf, mt, mp, ml, mh, mn, ⟨⟩⟩ := m
  dsimp only at h6 g2 g3 g4 g5 g6 hK
  subst h6 g2
  have k1 := oQ hm
  dsimp only at k1
  have et : Int.tmod cl 4 = cl % 4 := Int.tmod_eq_emod_of_nonneg g5.1
  have ed : Int.tdiv cl 4 = cl / 4 := Int.tdiv_eq_ediv_of_nonneg g5.1
  unfold dQ
  rw [hM, ai]
  simp only [bI, bT, ag]
  rw [ho, ai]
  simp only [bI, al]
  rw [hf, ai]
  have sS : bJ (6, E, ra, (cl, lb, hp, pr, sr, dt, sx), U, pd) = some ((sr, ()), ()) := rfl
  have sD : bK (6, E, ra, (cl, lb, hp, pr, sr, dt, sx), U, pd) = some ((dt, ()), ()) := rfl
  have sM : jV (6, E, ra, (cl, lb, hp, pr, sr, dt, sx), U, pd) = some ((cl / 4, cl % 4, ()), ()) := by
    unfold jV mc
    have i5 : gq cl 0 255 = true := fV.2 g5
    simp only [Int.reduceEq, decide_false, al, oc, i5, ai, bI, et, ed]
    rw [bL (by omega)]
  rw [sS, ai, sD, ai, sM, ai]
  rcases k1 with rfl | rfl | rfl | rfl | rfl | rfl | rfl
  · obtain ⟨p1, p2⟩ := MV hm rfl
    simp only [md6, Int.reduceEq, decide_false, aI, al, ag]
    rw [hK, ai, Iq k hk p1 p2 g3.1 g4.1, ai]
    dsimp only
    cases Bv (1, mf, mt, mp, ml, mh, mn, ()) (sr, dt, pr, U.2.1, U.2.2.1, ()) <;> rfl
  · have tw := qe hm (.inl rfl)
    simp only [md6, Int.reduceEq, decide_false, aI, al, ag]
    rw [xQ k hk (nG tw).1 g3.1, ai]
    dsimp only
    cases hh : ja mf sr
    · rfl
    · simp only [ag]
      rw [Gj k hk tw g3.1 hh]; rfl
  · have tw := qe hm (.inr rfl)
    simp only [md6, Int.reduceEq, decide_false, aI, al, ag]
    rw [xQ k hk (nG tw).1 g4.1, ai]
    dsimp only
    cases hh : ja mf dt
    · rfl
    · simp only [ag]
      rw [Gj k hk tw g4.1 hh]; rfl
  · simp only [md6, Int.reduceEq, decide_false, aI, al, ag, Int.zero_add]
    rw [bL (n := hp) (by omega), bL (n := hp - 1) (by omega)]
    cases decide (hp < 2) <;> rfl
  · have r5 := MW hm rfl
    have r5' : 0 ≤ mn ∧ mn ≤ 63 := r5
    simp only [md6, Int.reduceEq, decide_false, aI, al, ag, dB, ai]
    rw [bL (n := 4 * mn) (by omega), bL (by omega)]
  · simp only [md6, Int.reduceEq, decide_false, aI, al, ag, dB, ai]
    rw [bL (n := 4 * (cl / 4)) (by omega), bL (by omega)]
    cases decide (cl % 4 = 1) <;> cases decide (cl % 4 = 2) <;> rfl
  · simp only [md6, Int.reduceEq, decide_false, aI, al, ag]
end
def NJ (m : aV) (P : aj) : aj × Int := bif decide (P.1 = 4) then md4 m P else md6 m P
end
end Go.Tw
