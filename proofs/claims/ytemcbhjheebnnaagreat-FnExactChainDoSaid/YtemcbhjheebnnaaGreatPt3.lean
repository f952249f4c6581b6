/- Facts on mirrors. -/
import Derived.Test.YtemcbhjheebnnaaGreatPs7
import Derived.Test.YtemcbhjheebnnaaGreatPa3
import Derived.Test.YtemcbhjheebnnaaGreatPq9
set_option linter.all false
set_option maxRecDepth 100000
namespace Go.Tw
open Go Go.RowKit
section
set_option maxHeartbeats 4000000

end
section
set_option maxHeartbeats 4000000

end
section
set_option maxHeartbeats 4000000

end
section
set_option maxHeartbeats 4000000
theorem AP {f : aR} (h : dN f = true) : iw f.2.2.2.2.2.2.2.1 f.2.2.2.2.2.2.2.2.1 = true ∧ f.2.2.2.2.2.2.2.1.1 = 4 ∧ (fB f).length ≤ 1500 := by
  have r := hJ h
  unfold dN vg at h
  simp only [aA, fV, bF] at h
  obtain ⟨_, _, _, _, _, _, _, ⟨a1, a2⟩, ⟨a3, a4⟩, _⟩ := h
  refine ⟨?_, a2, r.2.2.2.2.2.2.2.2⟩
  unfold iw
  rw [a1, a3, a2, a4]; rfl
theorem Ei {s : bc} (h : lL s = true) : s.2.2.2.2.1.1 = 6 := by
  unfold lL vg at h
  simp only [aA, fV, bF] at h
  obtain ⟨_, _, _, _, _, ⟨_, a⟩, _⟩ := h
  exact a
end
section
set_option maxHeartbeats 4000000
theorem tn {e : bH} (h : mY e = true) : fE (jR e) = (e, 0) := by
  unfold jR
  rw [h]
  obtain ⟨r1, r2, r3⟩ := lO h
  obtain ⟨e1, e2, tg, kd, b, ⟨⟩⟩ := e
  unfold mY Nn at h
  simp only [aA, fV, bF, Bool.not_eq_true', decide_eq_false_iff_not] at h
  dsimp only at h r1 r2 r3 ⊢
  obtain ⟨_, _, q3, q4, q5, q6⟩ := h
  have q6' : (bif decide (0 ≤ tg) then (18 : Int) else 14) + (b.length : Int) ≤ 1600 := q6
  clear q6
  have q6 := q6'
  clear q6'
  clear r3
  simp only [ag]
  by_cases ht : 0 ≤ tg
  · rw [ae ht] at q6 ⊢
    simp only [ag, List.append_assoc] at q6 ⊢
    generalize hd : putB e1 6 ++ (putB e2 6 ++ (putB 33024 2 ++ (putB tg 2 ++ (putB kd 2 ++ b)))) = d
    have l : d.length = 18 + b.length := by rw [← hd]; simp only [aT, aX]; omega
    have x0 : (d.drop 0).take 6 = putB e1 6 := by rw [← hd, d0, tA (aX _ _)]
    have x6 : (d.drop 6).take 6 = putB e2 6 := by rw [← hd, dA (j := 0) 6 (aX _ _) rfl, d0, tA (aX _ _)]
    have x12 : (d.drop 12).take 2 = putB 33024 2 := by rw [← hd, dA (j := 6) 6 (aX _ _) rfl, dA (j := 0) 6 (aX _ _) rfl, d0, tA (aX _ _)]
    have x14 : (d.drop 14).take 2 = putB tg 2 := by rw [← hd, dA (j := 8) 6 (aX _ _) rfl, dA (j := 2) 6 (aX _ _) rfl, dA (j := 0) 2 (aX _ _) rfl, d0, tA (aX _ _)]
    have x16 : (d.drop 16).take 2 = putB kd 2 := by rw [← hd, dA (j := 10) 6 (aX _ _) rfl, dA (j := 4) 6 (aX _ _) rfl, dA (j := 2) 2 (aX _ _) rfl, dA (j := 0) 2 (aX _ _) rfl, d0, tA (aX _ _)]
    have x18 : d.drop 18 = b := by rw [← hd, dA (j := 12) 6 (aX _ _) rfl, dA (j := 6) 6 (aX _ _) rfl, dA (j := 4) 2 (aX _ _) rfl, dA (j := 2) 2 (aX _ _) rfl, dA (j := 0) 2 (aX _ _) rfl, d0]
    unfold fE
    rw [x0, x6, x12, x14, x16, x18, NH r1, NH r2, pL (n := 33024) ⟨by decide, by decide⟩, pL ⟨ht, q3.2⟩, pL ⟨by omega, by omega⟩]
    rw [aK (ao (by omega)), aK (ao (by omega)), aw (ae rfl), aK (ao (by omega)), ae (show 1536 ≤ kd by omega), ao q5]
    rfl
  · have et : tg = -1 := by omega
    subst et
    rw [ao ht] at q6 ⊢
    simp only [al, List.nil_append] at q6 ⊢
    generalize hd : putB e1 6 ++ (putB e2 6 ++ (putB kd 2 ++ b)) = d
    have l : d.length = 14 + b.length := by rw [← hd]; simp only [aT, aX]; omega
    have x0 : (d.drop 0).take 6 = putB e1 6 := by rw [← hd, d0, tA (aX _ _)]
    have x6 : (d.drop 6).take 6 = putB e2 6 := by rw [← hd, dA (j := 0) 6 (aX _ _) rfl, d0, tA (aX _ _)]
    have x12 : (d.drop 12).take 2 = putB kd 2 := by rw [← hd, dA (j := 6) 6 (aX _ _) rfl, dA (j := 0) 6 (aX _ _) rfl, d0, tA (aX _ _)]
    have x14 : d.drop 14 = b := by rw [← hd, dA (j := 8) 6 (aX _ _) rfl, dA (j := 2) 6 (aX _ _) rfl, dA (j := 0) 2 (aX _ _) rfl, d0]
    unfold fE
    rw [x0, x6, x12, x14, NH r1, NH r2, pL (n := kd) ⟨by omega, by omega⟩]
    rw [aK (ao (by omega)), aK (ao (by omega)), aK (ao q5), aw (ae (by omega))]
theorem Ej {l : List Int} (hb : az l) (hl : l.length ≤ 2000) : 0 ≤ vO l ∧ vO l ≤ 65535 := by
  unfold vO
  rw [aK (ao (by omega))]
  have := nb l 0 hb ⟨Int.le_refl _, by decide⟩
  omega
theorem yf {f : aR} {p : List Int} (h : dN f = true) (ho : az (fO f)) (hl : (qH f ++ p).length ≤ 1600) : lB (qH f ++ p) = (f, p, 0) := by
  have e : qH f = oA (lS f) f ++ fB f := by unfold qH; rw [h]; rfl
  obtain ⟨r1, r2, r3, r4, r5, r6, r7, r8, r9⟩ := hJ h
  have hm : Int.tmod (((fO f).length : Nat) : Int) 4 = 0 ∧ 20 + (((fO f).length : Nat) : Int) + (((fB f).length : Nat) : Int) ≤ 1500 ∧ vg f.2.2.2.2.2.2.2.1 4 = true ∧ vg f.2.2.2.2.2.2.2.2.1 4 = true := by
    unfold dN at h
    simp only [aA, fV, bF] at h
    exact ⟨h.2.2.2.2.2.2.2.2.2.2.1, h.2.2.2.2.2.2.2.2.2.2.2, h.2.2.2.2.2.2.2.1, h.2.2.2.2.2.2.2.2.1⟩
  obtain ⟨m1, m2, m3, m4⟩ := hm
  rw [Int.tmod_eq_emod_of_nonneg (by omega)] at m1
  have hs : 0 ≤ lS f ∧ lS f ≤ 65535 := by
    have b := pR h ho
    have l : (Iu f).length ≤ 2000 := by
      have a1 := (lh m3).2
      have a2 := (lh m4).2
      unfold Iu
      simp only [aT, aX, List.length_cons, List.length_nil, a1, a2]
      omega
    unfold lS
    rw [h]
    exact Ej b l
  have eS : lS f = lS f := rfl
  generalize hc : lS f = c at eS hs e
  rw [e] at hl ⊢
  obtain ⟨a3, a3l⟩ := lh m3
  obtain ⟨a4, a4l⟩ := lh m4
  obtain ⟨ds, ec, id, fl, fg, tt, pr, sr, dt, o, b, ⟨⟩⟩ := f
  have hh : oA c (ds, ec, id, fl, fg, tt, pr, sr, dt, o, b, ()) = [(69 + (o.length : Int) / 4) % 256, (4 * ds + ec) % 256] ++ (putB (20 + (o.length : Int) + (b.length : Int)) 2 ++ (putB id 2 ++ (putB (8192 * fl + fg) 2 ++ ([tt % 256, pr % 256] ++ (putB c 2 ++ (au sr ++ (au dt ++ o))))))) := by
    unfold oA; simp only [List.append_assoc]
  rw [hh] at hl ⊢
  have m1' : (o.length : Int) % 4 = 0 := m1
  have m2' : 20 + (o.length : Int) + (b.length : Int) ≤ 1500 := m2
  have r8' : o.length ≤ 40 := r8
  have r9' : b.length ≤ 1500 := r9
  clear m1 m2 r8 r9
  dsimp only at r1 r2 r3 r4 r5 r6 r7 m3 m4 a3 a4 a3l a4l hl ⊢
  simp only [List.append_assoc] at hl ⊢
  generalize hd : [(69 + (o.length : Int) / 4) % 256, (4 * ds + ec) % 256] ++ (putB (20 + (o.length : Int) + (b.length : Int)) 2 ++ (putB id 2 ++ (putB (8192 * fl + fg) 2 ++ ([tt % 256, pr % 256] ++ (putB c 2 ++ (au sr ++ (au dt ++ (o ++ (b ++ p))))))))) = d at hl ⊢
  have l : d.length = 20 + o.length + b.length + p.length := by rw [← hd]; simp only [aT, aX, a3l, a4l, List.length_cons, List.length_nil]; omega
  have y2 : d.drop 2 = putB (20 + (o.length : Int) + (b.length : Int)) 2 ++ (putB id 2 ++ (putB (8192 * fl + fg) 2 ++ ([tt % 256, pr % 256] ++ (putB c 2 ++ (au sr ++ (au dt ++ (o ++ (b ++ p)))))))) := by rw [← hd]; rfl
  have y4 : d.drop 4 = putB id 2 ++ (putB (8192 * fl + fg) 2 ++ ([tt % 256, pr % 256] ++ (putB c 2 ++ (au sr ++ (au dt ++ (o ++ (b ++ p))))))) := by rw [show (4 : Nat) = 2 + 2 from rfl, ← List.drop_drop, y2, dA (j := 0) 2 (aX _ _) rfl, d0]
  have y6 : d.drop 6 = putB (8192 * fl + fg) 2 ++ ([tt % 256, pr % 256] ++ (putB c 2 ++ (au sr ++ (au dt ++ (o ++ (b ++ p)))))) := by rw [show (6 : Nat) = 4 + 2 from rfl, ← List.drop_drop, y4, dA (j := 0) 2 (aX _ _) rfl, d0]
  have y8 : d.drop 8 = [tt % 256, pr % 256] ++ (putB c 2 ++ (au sr ++ (au dt ++ (o ++ (b ++ p))))) := by rw [show (8 : Nat) = 6 + 2 from rfl, ← List.drop_drop, y6, dA (j := 0) 2 (aX _ _) rfl, d0]
  have y10 : d.drop 10 = putB c 2 ++ (au sr ++ (au dt ++ (o ++ (b ++ p)))) := by rw [show (10 : Nat) = 8 + 2 from rfl, ← List.drop_drop, y8]; rfl
  have y12 : d.drop 12 = au sr ++ (au dt ++ (o ++ (b ++ p))) := by rw [show (12 : Nat) = 10 + 2 from rfl, ← List.drop_drop, y10, dA (j := 0) 2 (aX _ _) rfl, d0]
  have y16 : d.drop 16 = au dt ++ (o ++ (b ++ p)) := by rw [show (16 : Nat) = 12 + 4 from rfl, ← List.drop_drop, y12, dA (j := 0) 4 a3l rfl, d0]
  have y20 : d.drop 20 = o ++ (b ++ p) := by rw [show (20 : Nat) = 16 + 4 from rfl, ← List.drop_drop, y16, dA (j := 0) 4 a4l rfl, d0]
  have yh : d.drop (20 + o.length) = b ++ p := by rw [← List.drop_drop, y20, List.drop_left]
  have yt : d.drop (20 + o.length + b.length) = p := by rw [← List.drop_drop, yh, List.drop_left]
  have g0 : d.getD 0 0 = (69 + (o.length : Int) / 4) % 256 := by rw [← hd]; rfl
  have g1 : d.getD 1 0 = (4 * ds + ec) % 256 := by rw [← hd]; rfl
  have g8 : d.getD 8 0 = tt % 256 := by
    have := gM d 0 8 (by omega)
    rw [y8] at this
    exact (List.cons.inj this).1.symm
  have g9 : d.getD 9 0 = pr % 256 := by
    have := gM d 0 8 (by omega)
    rw [y8, gM d 0 9 (by omega)] at this
    exact (List.cons.inj (List.cons.inj this).2).1.symm
  have f1 : nN d = 20 + o.length := by unfold nN b0; rw [g0]; omega
  have f2 : iJ d = 20 + o.length + b.length := by unfold iJ; rw [y2, tA (aX _ _), pL ⟨by omega, by omega⟩]; omega
  have f3 : D0 d (20 + o.length) (20 + o.length + b.length) = (ds, ec, id, fl, fg, tt, pr, sr, dt, o, b, ()) := by
    unfold D0
    rw [y4, y6, y12, y16, y20, yh, tA (aX _ _), tA (aX _ _), tA a3l, tA a4l, Nat.add_sub_cancel_left, Nat.add_sub_cancel_left, tA rfl, tA rfl, g1, g8, g9, pL r3, pL ⟨by omega, by omega⟩, a3, a4]
    rw [show (4 * ds + ec) % 256 / 4 = ds by omega, show (4 * ds + ec) % 256 % 4 = ec by omega, show (8192 * fl + fg) / 8192 = fl by omega, show (8192 * fl + fg) % 8192 = fg by omega, show tt % 256 = tt by omega, show pr % 256 = pr by omega]
  unfold lB
  rw [f1, f2, f3, yt, y10, tA (aX _ _), pL hs, hc]
  rw [aK (ao (by omega)), aK (ao (by omega)), aw (ae (show b0 d / 16 = 4 by unfold b0; rw [g0]; omega)), ao (show ¬ 20 + o.length < 20 by omega), ao (show ¬ d.length < 20 + o.length by omega), ao (show ¬ 20 + o.length + b.length < 20 + o.length by omega), ao (show ¬ 1500 < 20 + o.length + b.length by omega), ao (show ¬ d.length < 20 + o.length + b.length by omega)]
  simp only [Bool.or_self, al, aI, ag]
end
section
set_option maxHeartbeats 4000000
theorem GJ {n : Int} (h : vh n = true) : 0 ≤ n ∧ n ≤ 255 := by
  unfold vh at h
  simp only [Bool.or_eq_true, bF] at h
  omega
theorem zz {X : List aB} {kd : Int} {i : Nat} (h : xAll i X = true) (hk : 0 ≤ kd ∧ kd ≤ 255) : 0 ≤ nxK X kd ∧ nxK X kd ≤ 255 := by
  cases X with
  | nil => exact hk
  | cons x X =>
    unfold xAll AO at h
    simp only [aA] at h
    exact GJ h.1.1
theorem rP : ∀ (X : List aB) (n : Nat) (out : List aB) (kd : Int) (r : List Int), xAll out.length X = true → out.length + X.length ≤ 3 → X.length < n → vh kd = false → 0 ≤ kd ∧ kd ≤ 255 →
    extsP n (nxK X kd) (fp X kd ++ r) out = some (out ++ X, kd, r)
  | [], 0, out, kd, r, _, _, hn, _, _ => by exact absurd hn (Nat.not_lt_zero _)
  | x :: X, 0, out, kd, r, _, _, hn, _, _ => by exact absurd hn (Nat.not_lt_zero _)
  | [], n + 1, out, kd, r, h, hl, hn, hk, hr => by
    unfold extsP
    rw [show nxK [] kd = kd from rfl, hk, show fp [] kd = [] from rfl]
    simp
  | x :: X, n + 1, out, kd, r, h, hl, hn, hk, hr => by
    have h' : AO out.length x = true ∧ xAll (out.length + 1) X = true := by
      have e : xAll out.length (x :: X) = (AO out.length x && xAll (out.length + 1) X) := rfl
      rw [e, aA] at h; exact h
    obtain ⟨h1, h2⟩ := h'
    have nr := zz h2 hr
    unfold AO at h1
    simp only [aA, bF, Bool.not_eq_true'] at h1
    obtain ⟨k1, k2, k3, k4⟩ := h1
    rw [Int.tmod_eq_emod_of_nonneg (by omega)] at k3
    have hl' : out.length + (X.length + 1) ≤ 3 := by simpa using hl
    have hn' : X.length < n := by simpa using hn
    have e : fp (x :: X) kd ++ r = (nxK X kd % 256) :: (((2 + (x.2.1.length : Int)) / 8 - 1) % 256) :: (x.2.1 ++ (fp X kd ++ r)) := by
      show ([nxK X kd % 256, ((2 + (x.2.1.length : Int)) / 8 - 1) % 256] ++ (x.2.1 ++ fp X kd)) ++ r = _
      simp only [List.cons_append, List.nil_append, List.append_assoc]
    unfold extsP
    rw [e, show nxK (x :: X) kd = x.1 from rfl, k1]
    have x1 : xT ((nxK X kd % 256) :: (((2 + (x.2.1.length : Int)) / 8 - 1) % 256) :: (x.2.1 ++ (fp X kd ++ r))) = 2 + x.2.1.length := by
      unfold xT
      simp only [List.getD_cons_succ, List.getD_cons_zero]
      omega
    have st : od x.1 ((nxK X kd % 256) :: (((2 + (x.2.1.length : Int)) / 8 - 1) % 256) :: (x.2.1 ++ (fp X kd ++ r))) out = false := by
      unfold od
      rw [x1]
      simp only [List.getD_cons_succ, List.getD_cons_zero, List.length_cons, aT]
      rw [ao (show ¬ out.length = 3 by omega), ao (show ¬ x.2.1.length + ((fp X kd).length + r.length) + 1 + 1 < 2 by omega), ao (show ¬ 7 < ((2 + (x.2.1.length : Int)) / 8 - 1) % 256 by omega), ao (show ¬ x.2.1.length + ((fp X kd).length + r.length) + 1 + 1 < 2 + x.2.1.length by omega)]
      revert k2
      cases decide (x.1 = 0) <;> cases decide (0 < out.length) <;> simp
    rw [st]
    simp only [ag, al, List.getD_cons_zero]
    have eN : Iw x.1 ((nxK X kd % 256) :: (((2 + (x.2.1.length : Int)) / 8 - 1) % 256) :: (x.2.1 ++ (fp X kd ++ r))) out = out ++ [x] := by
      unfold Iw
      rw [x1, Nat.add_sub_cancel_left]
      simp only [List.drop_succ_cons, List.drop_zero]
      rw [tA rfl]
    have eD : ((nxK X kd % 256) :: (((2 + (x.2.1.length : Int)) / 8 - 1) % 256) :: (x.2.1 ++ (fp X kd ++ r))).drop (2 + x.2.1.length) = fp X kd ++ r := by
      rw [← List.drop_drop]
      exact List.drop_left
    rw [x1, eN, eD, Int.emod_eq_of_lt nr.1 (by omega)]
    have := rP X n (out ++ [x]) kd r (by rw [aT]; exact h2) (by rw [aT, List.length_cons, List.length_nil]; omega) hn' hk hr
    rw [this, List.append_assoc]
    rfl
theorem AQ {s : bc} {p : List Int} (h : lL s = true) (hl : (gN s ++ p).length ≤ 1600) : sixRd (gN s ++ p) = (s, p, 0) := by
  have e : gN s = (vI s ++ fp (sE s) s.2.2.2.1) ++ sB s := by unfold gN; rw [h]; rfl
  rw [e] at hl ⊢
  obtain ⟨cl, lb, hp, pr, sr, dt, x, b, ⟨⟩⟩ := s
  unfold lL at h
  simp only [aA, fV, bF, Bool.not_eq_true'] at h
  obtain ⟨r1, r2, r3, r4, r5, r6, r7, r8, r9⟩ := h
  dsimp only at r1 r2 r3 r4 r5 r6 r7 r8 r9 hl ⊢
  have r9' : 40 + xSz x + (b.length : Int) ≤ 1500 := r9
  have r8' : sP x = true := r8
  obtain ⟨x1, x2⟩ := ye r8'
  have xb := rO x 3 x1 x2
  have xa : xAll 0 x = true := by unfold sP at r8'; rw [aA] at r8'; exact r8'.1
  have nr := zz (kd := pr) xa r4
  have xl := nf x pr
  obtain ⟨a3, a3l⟩ := qd r6
  obtain ⟨a4, a4l⟩ := qd r7
  have hh : (vI (cl, lb, hp, pr, sr, dt, x, b, ()) ++ fp x pr) ++ b ++ p = putB (1610612736 + cl * 1048576 + lb) 4 ++ (putB (xSz x + (b.length : Int)) 2 ++ ([nxK x pr % 256, hp % 256] ++ (au sr ++ (au dt ++ (fp x pr ++ (b ++ p)))))) := by
    unfold vI; simp only [List.append_assoc]
  have hl' : ((vI (cl, lb, hp, pr, sr, dt, x, b, ()) ++ fp x pr) ++ b ++ p).length ≤ 1600 := hl
  show sixRd ((vI (cl, lb, hp, pr, sr, dt, x, b, ()) ++ fp x pr) ++ b ++ p) = _
  rw [hh] at hl' ⊢
  generalize hd : putB (1610612736 + cl * 1048576 + lb) 4 ++ (putB (xSz x + (b.length : Int)) 2 ++ ([nxK x pr % 256, hp % 256] ++ (au sr ++ (au dt ++ (fp x pr ++ (b ++ p)))))) = d at hl' ⊢
  have l : d.length = 40 + (fp x pr).length + b.length + p.length := by rw [← hd]; simp only [aT, aX, a3l, a4l, List.length_cons, List.length_nil]; omega
  have y0 : (d.drop 0).take 4 = putB (1610612736 + cl * 1048576 + lb) 4 := by rw [← hd, d0, tA (aX _ _)]
  have y4 : d.drop 4 = putB (xSz x + (b.length : Int)) 2 ++ ([nxK x pr % 256, hp % 256] ++ (au sr ++ (au dt ++ (fp x pr ++ (b ++ p))))) := by rw [← hd, dA (j := 0) 4 (aX _ _) rfl, d0]
  have y6 : d.drop 6 = [nxK x pr % 256, hp % 256] ++ (au sr ++ (au dt ++ (fp x pr ++ (b ++ p)))) := by rw [show (6 : Nat) = 4 + 2 from rfl, ← List.drop_drop, y4, dA (j := 0) 2 (aX _ _) rfl, d0]
  have y8 : d.drop 8 = au sr ++ (au dt ++ (fp x pr ++ (b ++ p))) := by rw [show (8 : Nat) = 6 + 2 from rfl, ← List.drop_drop, y6]; rfl
  have y24 : d.drop 24 = au dt ++ (fp x pr ++ (b ++ p)) := by rw [show (24 : Nat) = 8 + 16 from rfl, ← List.drop_drop, y8, dA (j := 0) 16 a3l rfl, d0]
  have y40 : d.drop 40 = fp x pr ++ (b ++ p) := by rw [show (40 : Nat) = 24 + 16 from rfl, ← List.drop_drop, y24, dA (j := 0) 16 a4l rfl, d0]
  have w0 : sW d = 1610612736 + cl * 1048576 + lb := by show df ((d.drop 0).take 4) = _; rw [y0, sC ⟨by omega, by omega⟩]
  have g0 : d.getD 0 0 = (1610612736 + cl * 1048576 + lb) / 16777216 % 256 := by rw [← hd, DN]; rfl
  have g6 : d.getD 6 0 = nxK x pr % 256 := by
    have := gM d 0 6 (by omega)
    rw [y6] at this
    exact (List.cons.inj this).1.symm
  have g7 : d.getD 7 0 = hp % 256 := by
    have := gM d 0 6 (by omega)
    rw [y6, gM d 0 7 (by omega)] at this
    exact (List.cons.inj (List.cons.inj this).2).1.symm
  have en : gK d = 40 + (fp x pr).length + b.length := by unfold gK; rw [y4, tA (aX _ _), pL ⟨by omega, by omega⟩]; omega
  have yt : d.drop (40 + (fp x pr).length + b.length) = p := by rw [← List.drop_drop, ← List.drop_drop, y40, List.drop_left, List.drop_left]
  have ym : (d.drop 40).take ((fp x pr).length + b.length) = fp x pr ++ b := by rw [y40, ← List.append_assoc, tA (by rw [aT])]
  have ex := rP x 4 [] pr b xa (by simpa using x1) (by omega) r5 r4
  unfold sixRd
  rw [en, yt, show 40 + (fp x pr).length + b.length - 40 = (fp x pr).length + b.length by omega, ym, g6, Int.emod_eq_of_lt nr.1 (by omega), ex]
  rw [aK (ao (by omega)), aK (ao (by omega)), aw (ae (show b0 d / 16 = 6 by unfold b0; rw [g0]; omega)), ao (show ¬ 1500 < 40 + (fp x pr).length + b.length by omega), ao (show ¬ d.length < 40 + (fp x pr).length + b.length by omega)]
  simp only [Bool.or_self, al, List.nil_append]
  unfold Qv
  rw [w0, g7, y8, y24, tA a3l, tA a4l, a3, a4, Int.emod_eq_of_lt r3.1 (by omega), show (1610612736 + cl * 1048576 + lb) / 1048576 % 256 = cl by omega, show (1610612736 + cl * 1048576 + lb) % 1048576 = lb by omega]
theorem JK {v : Int} : AM v ≠ 0 := by
  unfold AM
  by_cases h : v = 0
  · rw [ae h]; exact show (65535 : Int) ≠ 0 by decide
  · rw [ao h]; exact h
theorem JL {u : aF} {p v : Int} (hu : 0 ≤ u.1) (h : u.1 = ke p v) : gq p 0 255 = true ∧ ln p v = u.1 := by
  unfold ke at h
  cases e : gq p 0 255
  · rw [e] at h; simp only [al] at h; omega
  · rw [e] at h; exact ⟨rfl, h.symm⟩
theorem qg {u : aF} {s t : ar} {p : Int} (hg : dX u s t = true) (hk : u.1 = ke p s.1) (ho : az (uO u)) (hb : az (uB u)) : oT (jZ u s t) p s t = (u, 0) := by
  have eB : jZ u s t = oe u (kg u s t) := by unfold jZ; rw [hg]; rfl
  have hg' := hg
  unfold dX at hg'
  rw [aA] at hg'
  obtain ⟨hs, hu⟩ := hg'
  obtain ⟨hn, h⟩ := lP hu
  have k00 : MM < (1048577 : Nat) := by decide
  have len1 : (uO u).length ≤ 1100000 ∧ (uB u).length ≤ 1100000 := by
    rcases h with ⟨sp, dp, sq, ak, bt, wn, ur, o, b, rfl, a1, a2, a3, a4, a5, a6, a7, a8, a9, a10⟩ | ⟨sp, dp, ns, b, rfl, a1, a2, a3, a4⟩ | ⟨ty, cd, rs, b, rfl, a1, a2, a3, a4⟩ | ⟨b, rfl, a1⟩
    · exact ⟨by show o.length ≤ 1100000; omega, by show b.length ≤ 1100000; omega⟩
    · exact ⟨Nat.zero_le _, by show b.length ≤ 1100000; omega⟩
    · exact ⟨Nat.zero_le _, by show b.length ≤ 1100000; omega⟩
    · exact ⟨Nat.zero_le _, by show b.length ≤ 1100000; omega⟩
  obtain ⟨_, _, hc, _, _, _, hlen⟩ := nQ 1048577 k00 u s t len1.1 len1.2 ho hb hg
  have hk0 : 0 ≤ u.1 := by
    rcases h with ⟨sp, dp, sq, ak, bt, wn, ur, o, b, rfl, _⟩ | ⟨sp, dp, ns, b, rfl, _⟩ | ⟨ty, cd, rs, b, rfl, _⟩ | ⟨b, rfl, _⟩
    · show (0 : Int) ≤ 1; decide
    · show (0 : Int) ≤ 2; decide
    · show (0 : Int) ≤ 3; decide
    · show (0 : Int) ≤ 0; decide
  obtain ⟨hp, hkp⟩ := JL hk0 hk
  have hl := hlen (kg u s t)
  rw [eB]
  unfold oT
  rw [aK (ao (by omega)), hs, hp, hkp]
  simp only [Bool.and_self, ag]
  rcases h with ⟨sp, dp, sq, ak, bt, wn, ur, o, b, rfl, a1, a2, a3, a4, a5, a6, a7, a8, a9, a10⟩ | ⟨sp, dp, ns, b, rfl, a1, a2, a3, a4⟩ | ⟨ty, cd, rs, b, rfl, a1, a2, a3, a4⟩ | ⟨b, rfl, a1⟩
  · rw [aw (ae rfl)]
    have eU : kg (wU sp dp sq ak bt wn ur o b) s t = qK (oS s t 6 (20 + (o.length : Int) + (b.length : Int))) (x5 sp dp sq ak bt wn ur o b) := rfl
    generalize hcc : kg (wU sp dp sq ak bt wn ur o b) s t = c at hc hl eU ⊢
    have eE : oe (wU sp dp sq ak bt wn ur o b) c = sN c sp dp sq ak bt wn ur o b := rfl
    rw [eE]
    generalize hd : sN c sp dp sq ak bt wn ur o b = d
    have hd' := hd
    unfold sN at hd
    have l : d.length = 20 + o.length + b.length := by rw [← hd]; simp only [aT, aX]; omega
    have y0 : (d.drop 0).take 2 = putB sp 2 := by rw [← hd, d0, tA (aX _ _)]
    have y2 : d.drop 2 = putB dp 2 ++ (putB sq 4 ++ (putB ak 4 ++ (putB (4096 * (5 + (o.length : Int) / 4) + bt) 2 ++ (putB wn 2 ++ (putB c 2 ++ (putB ur 2 ++ (o ++ b))))))) := by rw [← hd, dA (j := 0) 2 (aX _ _) rfl, d0]
    have y4 : d.drop 4 = putB sq 4 ++ (putB ak 4 ++ (putB (4096 * (5 + (o.length : Int) / 4) + bt) 2 ++ (putB wn 2 ++ (putB c 2 ++ (putB ur 2 ++ (o ++ b)))))) := by rw [show (4 : Nat) = 2 + 2 from rfl, ← List.drop_drop, y2, dA (j := 0) 2 (aX _ _) rfl, d0]
    have y8 : d.drop 8 = putB ak 4 ++ (putB (4096 * (5 + (o.length : Int) / 4) + bt) 2 ++ (putB wn 2 ++ (putB c 2 ++ (putB ur 2 ++ (o ++ b))))) := by rw [show (8 : Nat) = 4 + 4 from rfl, ← List.drop_drop, y4, dA (j := 0) 4 (aX _ _) rfl, d0]
    have y12 : d.drop 12 = putB (4096 * (5 + (o.length : Int) / 4) + bt) 2 ++ (putB wn 2 ++ (putB c 2 ++ (putB ur 2 ++ (o ++ b)))) := by rw [show (12 : Nat) = 8 + 4 from rfl, ← List.drop_drop, y8, dA (j := 0) 4 (aX _ _) rfl, d0]
    have y14 : d.drop 14 = putB wn 2 ++ (putB c 2 ++ (putB ur 2 ++ (o ++ b))) := by rw [show (14 : Nat) = 12 + 2 from rfl, ← List.drop_drop, y12, dA (j := 0) 2 (aX _ _) rfl, d0]
    have y16 : d.drop 16 = putB c 2 ++ (putB ur 2 ++ (o ++ b)) := by rw [show (16 : Nat) = 14 + 2 from rfl, ← List.drop_drop, y14, dA (j := 0) 2 (aX _ _) rfl, d0]
    have y18 : d.drop 18 = putB ur 2 ++ (o ++ b) := by rw [show (18 : Nat) = 16 + 2 from rfl, ← List.drop_drop, y16, dA (j := 0) 2 (aX _ _) rfl, d0]
    have y20 : d.drop 20 = o ++ b := by rw [show (20 : Nat) = 18 + 2 from rfl, ← List.drop_drop, y18, dA (j := 0) 2 (aX _ _) rfl, d0]
    have g12 : d.getD 12 0 = (4096 * (5 + (o.length : Int) / 4) + bt) / 256 % 256 := by
      have := gM d 0 12 (by omega)
      rw [y12, vM] at this
      exact (List.cons.inj this).1.symm
    have eh : hT d = 20 + o.length := by unfold hT; rw [g12]; omega
    have yh : d.drop (20 + o.length) = b := by rw [← List.drop_drop, y20, List.drop_left]
    have yo : (d.drop 20).take (20 + o.length - 20) = o := by rw [y20, Nat.add_sub_cancel_left, tA rfl]
    have eD : Kw d (20 + o.length) = wU sp dp sq ak bt wn ur o b := by
      unfold Kw w2 w4
      rw [yo, yh, y0, y2, y4, y8, y12, y14, y18, tA (aX _ _), tA (aX _ _), tA (aX _ _), tA (aX _ _), tA (aX _ _), tA (aX _ _), pL a1, pL a2, sC a3, sC a4, pL ⟨by omega, by omega⟩, pL a6, pL a7, show (4096 * (5 + (o.length : Int) / 4) + bt) % 4096 = bt by omega]
    have eS : Nb d s t (20 + o.length) = c := by
      unfold Nb w2 w4
      rw [yo, yh, y0, y2, y4, y8, y12, y14, y18, tA (aX _ _), tA (aX _ _), tA (aX _ _), tA (aX _ _), tA (aX _ _), tA (aX _ _), pL a1, pL a2, sC a3, sC a4, pL ⟨by omega, by omega⟩, pL a6, pL a7, show (4096 * (5 + (o.length : Int) / 4) + bt) % 4096 = bt by omega]
      exact eU.symm
    unfold P3
    rw [eh, eS, eD, show w2 d 16 = c by unfold w2; rw [y16, tA (aX _ _), pL hc]]
    rw [aK (ao (by omega)), aK (ao (by omega)), aK (ao (by omega)), aw (ae rfl)]
  · rw [aK (ao (show ¬ ((2 : Int) = 1) by decide)), aw (ae rfl)]
    have eU : kg (wV sp dp ns b) s t = bif ns then 0 else AM (qK (oS s t 17 (8 + (b.length : Int))) (wX sp dp b)) := rfl
    generalize hcc : kg (wV sp dp ns b) s t = c at hc hl eU ⊢
    have eE : oe (wV sp dp ns b) c = sO c sp dp b := rfl
    rw [eE]
    generalize hd : sO c sp dp b = d
    unfold sO at hd
    have l : d.length = 8 + b.length := by rw [← hd]; simp only [aT, aX]; omega
    have y0 : (d.drop 0).take 2 = putB sp 2 := by rw [← hd, d0, tA (aX _ _)]
    have y2 : d.drop 2 = putB dp 2 ++ (putB (8 + (b.length : Int)) 2 ++ (putB c 2 ++ b)) := by rw [← hd, dA (j := 0) 2 (aX _ _) rfl, d0]
    have y4 : d.drop 4 = putB (8 + (b.length : Int)) 2 ++ (putB c 2 ++ b) := by rw [show (4 : Nat) = 2 + 2 from rfl, ← List.drop_drop, y2, dA (j := 0) 2 (aX _ _) rfl, d0]
    have y6 : d.drop 6 = putB c 2 ++ b := by rw [show (6 : Nat) = 4 + 2 from rfl, ← List.drop_drop, y4, dA (j := 0) 2 (aX _ _) rfl, d0]
    have y8 : d.drop 8 = b := by rw [show (8 : Nat) = 6 + 2 from rfl, ← List.drop_drop, y6, dA (j := 0) 2 (aX _ _) rfl, d0]
    have e6 : w2 d 6 = c := by unfold w2; rw [y6, tA (aX _ _), pL hc]
    have en : Nd d s = ns := by
      unfold Nd
      rw [e6, eU]
      cases ns
      · simp only [al]
        rw [ao JK, Bool.and_false]
      · rw [ae (a3 rfl)]; rfl
    have eD : Kx d ns = wV sp dp ns b := by
      unfold Kx w2
      rw [y0, y2, y8, tA (aX _ _), pL a1, pL a2]
    have eS : Nc d s t ns = c := by
      unfold Nc w2
      rw [y0, y2, y8, tA (aX _ _), pL a1, pL a2]
      exact eU.symm
    unfold P4
    rw [en, eS, eD, e6, show w2 d 4 = (d.length : Int) by unfold w2; rw [y4, tA (aX _ _), pL ⟨by omega, by omega⟩]; omega]
    rw [aK (ao (by omega)), aw (ae rfl), aw (ae rfl)]
  · rw [aK (ao (show ¬ ((3 : Int) = 1) by decide)), aK (ao (show ¬ ((3 : Int) = 2) by decide)), aw (ae rfl)]
    have eU : kg (wW ty cd rs b) s t = Gx s t (8 + (b.length : Int)) (vV ty cd rs b) := rfl
    generalize hcc : kg (wW ty cd rs b) s t = c at hc hl eU ⊢
    have eE : oe (wW ty cd rs b) c = uI c ty cd rs b := rfl
    rw [eE]
    generalize hd : uI c ty cd rs b = d
    unfold uI at hd
    have l : d.length = 8 + b.length := by rw [← hd]; simp only [aT, aX, List.length_cons, List.length_nil]; omega
    have y2 : d.drop 2 = putB c 2 ++ (putB rs 4 ++ b) := by rw [← hd]; rfl
    have y4 : d.drop 4 = putB rs 4 ++ b := by rw [show (4 : Nat) = 2 + 2 from rfl, ← List.drop_drop, y2, dA (j := 0) 2 (aX _ _) rfl, d0]
    have y8 : d.drop 8 = b := by rw [show (8 : Nat) = 4 + 4 from rfl, ← List.drop_drop, y4, dA (j := 0) 4 (aX _ _) rfl, d0]
    have g0 : d.getD 0 0 = ty := by rw [← hd]; show ty % 256 = ty; omega
    have g1 : d.getD 1 0 = cd := by rw [← hd]; show cd % 256 = cd; omega
    have eD : Ky d = wW ty cd rs b := by
      unfold Ky w4
      rw [g0, g1, y4, y8, tA (aX _ _), sC a3]
    have eS : Nf d s t = c := by
      unfold Nf w4
      rw [g0, g1, y4, y8, tA (aX _ _), sC a3]
      exact eU.symm
    unfold JG
    rw [eS, eD, show w2 d 2 = c by unfold w2; rw [y2, tA (aX _ _), pL hc]]
    rw [aK (ao (by omega)), aw (ae rfl)]
  · rw [aK (ao (show ¬ ((0 : Int) = 1) by decide)), aK (ao (show ¬ ((0 : Int) = 2) by decide)), aK (ao (show ¬ ((0 : Int) = 3) by decide))]
    rfl
end
section
set_option maxHeartbeats 4000000
theorem zB {a : ar} (h : aZ a = true) : a = (0, 0, 0, 0, 0, ()) := by
  unfold aZ at h
  simp only [aA, bF, and_true] at h
  obtain ⟨a0, a1, a2, a3, a4, ⟨⟩⟩ := a
  dsimp only at h
  obtain ⟨rfl, rfl, rfl, rfl, rfl⟩ := h
  rfl
theorem rf {α : Type} {l : List α} (h : (l.length : Int) = 0) : l = [] := List.length_eq_zero_iff.1 (by omega)
theorem Dz {s : bc} (h : xU s = true) : s = kQ := by
  obtain ⟨s1, s2, s3, s4, s5, s6, s7, s8, ⟨⟩⟩ := s
  unfold xU at h
  simp only [aA, bF] at h
  obtain ⟨rfl, rfl, rfl, rfl, a1, a2, b1, b2⟩ := h
  rw [zB a1, zB a2, rf b1, rf b2]
theorem DA {f : aR} (h : AB f = true) : f = ra := by
  obtain ⟨s1, s2, s3, s4, s5, s6, s7, s8, s9, s10, s11, ⟨⟩⟩ := f
  unfold AB at h
  simp only [aA, bF] at h
  obtain ⟨rfl, rfl, rfl, rfl, rfl, rfl, rfl, a1, a2, b1, b2⟩ := h
  rw [zB a1, zB a2, rf b1, rf b2]
theorem JM {u : aF} {s d : ar} (h : dX u s d = true) : jZ u s d = oe u (kg u s d) := by unfold jZ; rw [h]; rfl
theorem RH {u : aF} {s t : ar} (h : dX u s t = true) (h0 : u.1 = 0) : u = D7 (jZ u s t) := by
  have e := JM h
  unfold dX at h
  rw [aA] at h
  obtain ⟨_, h'⟩ := lP h.2
  rcases h' with ⟨sp, dp, sq, ak, bt, wn, ur, o, b, rfl, _⟩ | ⟨sp, dp, ns, b, rfl, _⟩ | ⟨ty, cd, rs, b, rfl, _⟩ | ⟨b, rfl, _⟩
  · exact absurd h0 (by show ¬ (1 : Int) = 0; decide)
  · exact absurd h0 (by show ¬ (2 : Int) = 0; decide)
  · exact absurd h0 (by show ¬ (3 : Int) = 0; decide)
  · rw [e]; rfl
theorem DC {P : aj} (hB : PB P) (hg : cg P = true) : tj (oP P) = (P, 0) := by
  have eB : oP P = jR (AE P) := by unfold oP; rw [hg]; rfl
  rw [eB]
  unfold cg at hg
  have eE : AE P = bif decide (P.1 = 4) then e4 P else e6 P := rfl
  by_cases h4 : P.1 = 4
  · rw [ae h4] at hg eE
    simp only [ag] at hg eE
    rw [eE]
    unfold qp at hg
    simp only [aA, bF] at hg
    obtain ⟨g1, g2, g3, g4, g5⟩ := hg
    unfold Fj at g4
    simp only [aA, bF] at g4
    obtain ⟨i1, i2, i3⟩ := g4
    unfold emp at g1
    simp only [aA, bF] at g1
    obtain ⟨z1, z2, z3⟩ := g1
    have hx := Dz g2
    have hl : (qH (wF P.2.2.1 (mL P)) ++ P.2.2.2.2.2.1).length ≤ 1600 := (lO g5).2.2
    have hF := yf (p := P.2.2.2.2.2.1) i2 hB.Kv hl
    unfold tj
    rw [tn g5]
    dsimp only
    rw [aw (ae rfl)]
    rw [show (e4 P).2.2.2.1 = 2048 from g3, aw (ae rfl)]
    rw [show (e4 P).2.2.2.2.1 = qH (wF P.2.2.1 (mL P)) ++ P.2.2.2.2.2.1 from rfl, hF]
    unfold P9
    dsimp only
    rw [aw (ae rfl)]
    obtain ⟨v, ⟨ed, es, et, ek, eb, ⟨⟩⟩, ⟨f1, f2, f3, f4, f5, f6, f7, f8, f9, fo, fb, ⟨⟩⟩, s, u, pd, ⟨⟩⟩ := P
    dsimp only at h4 g2 g3 i1 i2 i3 z1 z2 z3 hx hl hF ⊢
    subst h4 hx
    have z1' := rf z1
    have z2' := rf z2
    subst z1' z2'
    cases hp : jB (f1, f2, f3, f4, f5, f6, f7, f8, f9, fo, mL (4, (ed, es, et, ek, [], ()), (f1, f2, f3, f4, f5, f6, f7, f8, f9, fo, [], ()), kQ, u, pd, ()), ())
    · have i3' : u.1 = ke f7 4 := by rw [i3]; show (bif jB _ then _ else _) = _; rw [hp]; rfl
      have s4 : f8.1 = 4 := by
        have := (AP i2).2.1
        exact this
      have hU := qg (p := f7) i1 (by rw [i3', s4]) hB.oN hB.oO
      have hU' : Nk ((f1, f2, f3, f4, f5, f6, f7, f8, f9, fo, mL (4, (ed, es, et, ek, [], ()), (f1, f2, f3, f4, f5, f6, f7, f8, f9, fo, [], ()), kQ, u, pd, ()), ()), pd, 0) = (u, 0) := hU
      simp only [hp, al]
      rw [hU']
      rfl
    · have i3' : u.1 = 0 := by rw [i3]; show (bif jB _ then _ else _) = _; rw [hp]; rfl
      have hu := RH i1 i3'
      simp only [hp, ag]
      have : mL (4, (ed, es, et, ek, [], ()), (f1, f2, f3, f4, f5, f6, f7, f8, f9, fo, [], ()), kQ, u, pd, ()) = jZ u f8 f9 := rfl
      rw [this]
      generalize jZ u f8 f9 = b at hu
      subst hu
      rfl
  · rw [ao h4] at hg eE
    simp only [al] at hg eE
    by_cases h6 : P.1 = 6
    case neg => rw [ao h6] at hg; cases hg
    rw [ae h6] at hg
    simp only [ag] at hg
    rw [eE]
    unfold qq at hg
    simp only [aA, bF] at hg
    obtain ⟨g1, g2, g3, g4, g5⟩ := hg
    unfold Fk at g4
    simp only [aA, bF] at g4
    obtain ⟨i1, i2, i3⟩ := g4
    unfold emp at g1
    simp only [aA, bF] at g1
    obtain ⟨z1, z2, z3⟩ := g1
    have hx := DA g2
    have hl : (gN (wS P.2.2.2.1 (oL P)) ++ P.2.2.2.2.2.1).length ≤ 1600 := (lO g5).2.2
    have hF := AQ (p := P.2.2.2.2.2.1) i2 hl
    unfold tj
    rw [tn g5]
    dsimp only
    rw [aw (ae rfl)]
    rw [show (e6 P).2.2.2.1 = 34525 from g3, aK (ao (by decide)), aw (ae rfl)]
    rw [show (e6 P).2.2.2.2.1 = gN (wS P.2.2.2.1 (oL P)) ++ P.2.2.2.2.2.1 from rfl, hF]
    unfold Qa
    dsimp only
    rw [aw (ae rfl)]
    obtain ⟨v, ⟨ed, es, et, ek, eb, ⟨⟩⟩, f, ⟨f1, f2, f3, f4, f5, f6, f7, f8, ⟨⟩⟩, u, pd, ⟨⟩⟩ := P
    dsimp only at h4 h6 g2 g3 i1 i2 i3 z1 z2 z3 hx hl hF ⊢
    subst h6 hx
    have z1' := rf z1
    have z3' := rf z3
    subst z1' z3'
    have s6 : f5.1 = 6 := Ei i2
    have hU := qg (p := f4) i1 (by rw [i3, s6]) hB.oN hB.oO
    have hU' : Nl ((f1, f2, f3, f4, f5, f6, f7, oL (6, (ed, es, et, ek, [], ()), ra, (f1, f2, f3, f4, f5, f6, f7, [], ()), u, pd, ()), ()), pd, 0) = (u, 0) := hU
    rw [hU']
    rfl
end
end Go.Tw
