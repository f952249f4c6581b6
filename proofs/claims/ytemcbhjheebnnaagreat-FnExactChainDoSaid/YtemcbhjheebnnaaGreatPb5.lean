/- Facts on mirrors. -/
import Derived.Test.YtemcbhjheebnnaaGreatPa9
set_option linter.all false
set_option maxRecDepth 100000
namespace Go.Tw
open Go Go.RowKit
open Go.IntKind renaming wrap → Wr
section
set_option maxHeartbeats 4000000
theorem S0 {a a' : ar} {n : Int} (h : vg a n = true) (ha : bO a' = true ∧ a'.1 = a.1) : vg a' n = true := by
  unfold vg at h ⊢
  rw [aA, bF] at h ⊢
  exact ⟨ha.1, by rw [ha.2]; exact h.2⟩
theorem TQ {u : aF} {s d s' d' : ar} (h : dX u s d = true) (hs : bO s' = true ∧ s'.1 = s.1) (hd : bO d' = true ∧ d'.1 = d.1) : dX u s' d' = true := by
  unfold dX iw at h ⊢
  simp only [aA, bF] at h ⊢
  rw [hs.2, hd.2]
  exact ⟨⟨hs.1, hd.1, h.1.2.2⟩, h.2⟩
theorem Tz (u : aF) (c c' : Int) : (oe u c).length = (oe u c').length := by
  obtain ⟨kd, sp, dp, sq, ak, bt, wn, ur, ty, cd, rs, ns, o, b, ⟨⟩⟩ := u
  unfold oe
  dsimp only
  cases decide (kd = 1)
  · cases decide (kd = 2)
    · cases decide (kd = 3)
      · rfl
      · simp only [ag, al, uI, aT, aL]
    · simp only [ag, al, sO, aT, aL]
  · simp only [ag, sN, aT, aL]
theorem S9 {u : aF} {s d s' d' : ar} (h : dX u s d = true) (h' : dX u s' d' = true) : (jZ u s' d').length = (jZ u s d).length := by
  unfold jZ
  rw [h, h']
  exact Tz u _ _
theorem SB {a : ar} (h : vg a 4 = true) : (au a).length = 4 := by
  unfold vg at h
  rw [aA, bF] at h
  unfold au
  rw [h.1, ae h.2]
  exact aL _ _
theorem SC {a : ar} (h : vg a 6 = true) : (au a).length = 16 := by
  unfold vg at h
  rw [aA, bF] at h
  unfold au
  rw [h.1, ao (show ¬ a.1 = 4 by rw [h.2]; decide)]
  simp only [ag, al, aT, aL]
theorem Tq {f : aR} (h : dN f = true) : vg f.2.2.2.2.2.2.2.1 4 = true ∧ vg f.2.2.2.2.2.2.2.2.1 4 = true := by
  unfold dN at h
  simp only [aA] at h
  obtain ⟨_, _, _, _, _, _, _, h1, h2, _⟩ := h
  exact ⟨h1, h2⟩
theorem TR {s : bc} (h : lL s = true) : vg s.2.2.2.2.1 6 = true ∧ vg s.2.2.2.2.2.1 6 = true := by
  unfold lL at h
  simp only [aA] at h
  obtain ⟨_, _, _, _, _, h1, h2, _⟩ := h
  exact ⟨h1, h2⟩
theorem TS {f1 f2 f3 f4 f5 f6 f7 f1' f2' f6' : Int} {sr dt sr' dt' : ar} {fo b b' : List Int} (h : dN (f1, f2, f3, f4, f5, f6, f7, sr, dt, fo, b, ()) = true)
    (a1 : 0 ≤ f1' ∧ f1' ≤ 63) (a2 : 0 ≤ f2' ∧ f2' ≤ 3) (a6 : 0 ≤ f6' ∧ f6' ≤ 255) (hs : bO sr' = true ∧ sr'.1 = sr.1) (hd : bO dt' = true ∧ dt'.1 = dt.1) (hl : b'.length = b.length) :
    dN (f1', f2', f3, f4, f5, f6', f7, sr', dt', fo, b', ()) = true := by
  unfold dN at h ⊢
  dsimp only at h ⊢
  rw [hl]
  simp only [aA] at h ⊢
  obtain ⟨_, _, h3, h4, h5, _, h7, h8, h9, h10⟩ := h
  exact ⟨fV.2 a1, fV.2 a2, h3, h4, h5, fV.2 a6, h7, S0 h8 hs, S0 h9 hd, h10⟩
theorem Uc {cl lb hp pr cl' hp' : Int} {sr dt sr' dt' : ar} {X : List aB} {b b' : List Int} (h : lL (cl, lb, hp, pr, sr, dt, X, b, ()) = true)
    (a1 : 0 ≤ cl' ∧ cl' ≤ 255) (a3 : 0 ≤ hp' ∧ hp' ≤ 255) (hs : bO sr' = true ∧ sr'.1 = sr.1) (hd : bO dt' = true ∧ dt'.1 = dt.1) (hl : b'.length = b.length) :
    lL (cl', lb, hp', pr, sr', dt', X, b', ()) = true := by
  unfold lL at h ⊢
  dsimp only at h ⊢
  rw [hl]
  simp only [aA] at h ⊢
  obtain ⟨_, h2, _, h4, h5, h6, h7, h8⟩ := h
  exact ⟨fV.2 a1, h2, fV.2 a3, h4, h5, S0 h6 hs, S0 h7 hd, h8⟩
theorem Tr {E : bH} {l l' : List Int} (h : mY (wE E l) = true) (hl : l'.length = l.length) : mY (wE E l') = true := by
  unfold mY Nn at h ⊢
  dsimp only at h ⊢
  rw [hl]
  exact h
theorem Ud {f1 f2 f3 f4 f5 f6 f7 f1' f2' f6' : Int} {sr dt sr' dt' : ar} {fo b b' : List Int} (h : dN (f1, f2, f3, f4, f5, f6, f7, sr, dt, fo, b, ()) = true) (h' : dN (f1', f2', f3, f4, f5, f6', f7, sr', dt', fo, b', ()) = true) (hl : b'.length = b.length) :
    (qH (f1', f2', f3, f4, f5, f6', f7, sr', dt', fo, b', ())).length = (qH (f1, f2, f3, f4, f5, f6, f7, sr, dt, fo, b, ())).length := by
  obtain ⟨o1, o2⟩ := Tq h
  obtain ⟨o3, o4⟩ := Tq h'
  have l1 := SB o1
  have l2 := SB o2
  have l3 := SB o3
  have l4 := SB o4
  unfold qH oA
  rw [h, h']
  dsimp only at l1 l2 l3 l4
  simp only [ag, aT, List.length_cons, List.length_nil, aL, l1, l2, l3, l4]
  show _ + b'.length = _ + b.length
  rw [hl]
theorem Ue {cl lb hp pr cl' hp' : Int} {sr dt sr' dt' : ar} {X : List aB} {b b' : List Int} (h : lL (cl, lb, hp, pr, sr, dt, X, b, ()) = true) (h' : lL (cl', lb, hp', pr, sr', dt', X, b', ()) = true) (hl : b'.length = b.length) :
    (gN (cl', lb, hp', pr, sr', dt', X, b', ())).length = (gN (cl, lb, hp, pr, sr, dt, X, b, ())).length := by
  obtain ⟨o1, o2⟩ := TR h
  obtain ⟨o3, o4⟩ := TR h'
  have l1 := SC o1
  have l2 := SC o2
  have l3 := SC o3
  have l4 := SC o4
  unfold gN vI
  rw [h, h']
  dsimp only at l1 l2 l3 l4
  simp only [ag, aT, List.length_cons, List.length_nil, aL, l1, l2, l3, l4]
  show _ + b'.length = _ + b.length
  rw [hl]
theorem Uf {v f1 f2 f3 f4 f5 f6 f7 f1' f2' f6' : Int} {E : bH} {sr dt sr' dt' : ar} {fo fb : List Int} {S : bc} {U : aF} {pd : List Int}
    (h : qp (v, E, (f1, f2, f3, f4, f5, f6, f7, sr, dt, fo, fb, ()), S, U, pd, ()) = true) (a1 : 0 ≤ f1' ∧ f1' ≤ 63) (a2 : 0 ≤ f2' ∧ f2' ≤ 3) (a6 : 0 ≤ f6' ∧ f6' ≤ 255)
    (hs : bO sr' = true ∧ sr'.1 = sr.1) (hd : bO dt' = true ∧ dt'.1 = dt.1) : qp (v, E, (f1', f2', f3, f4, f5, f6', f7, sr', dt', fo, fb, ()), S, U, pd, ()) = true := by
  unfold qp Fj at h ⊢
  simp only [aA] at h ⊢
  obtain ⟨e1, e2, e3, ⟨g1, g2, g3⟩, g4⟩ := h
  have u' := TQ g1 hs hd
  have bl : (jZ U sr' dt').length = (jZ U sr dt).length := S9 g1 u'
  have g2 : dN (f1, f2, f3, f4, f5, f6, f7, sr, dt, fo, jZ U sr dt, ()) = true := g2
  have f' : dN (f1', f2', f3, f4, f5, f6', f7, sr', dt', fo, jZ U sr' dt', ()) = true := TS g2 a1 a2 a6 hs hd bl
  have fl := Ud g2 f' bl
  refine ⟨e1, e2, e3, ⟨u', f', ?_⟩, ?_⟩
  · rw [bF] at g3 ⊢
    rw [g3]
    have p : jB (f1', f2', f3, f4, f5, f6', f7, sr', dt', fo, jZ U sr' dt', ()) = jB (f1, f2, f3, f4, f5, f6, f7, sr, dt, fo, jZ U sr dt, ()) := by
      unfold jB
      rw [f', g2]
    show (bif jB (f1, f2, f3, f4, f5, f6, f7, sr, dt, fo, jZ U sr dt, ()) then 0 else ke f7 4) = bif jB (f1', f2', f3, f4, f5, f6', f7, sr', dt', fo, jZ U sr' dt', ()) then 0 else ke f7 4
    rw [p]
  · refine Tr (l := qH (f1, f2, f3, f4, f5, f6, f7, sr, dt, fo, jZ U sr dt, ()) ++ pd) g4 ?_
    show (qH (f1', f2', f3, f4, f5, f6', f7, sr', dt', fo, jZ U sr' dt', ()) ++ pd).length = _
    rw [aT, aT, fl]
theorem Ug {v cl lb hp pr cl' hp' : Int} {E : bH} {F : aR} {sr dt sr' dt' : ar} {X : List aB} {sb : List Int} {U : aF} {pd : List Int}
    (h : qq (v, E, F, (cl, lb, hp, pr, sr, dt, X, sb, ()), U, pd, ()) = true) (a1 : 0 ≤ cl' ∧ cl' ≤ 255) (a3 : 0 ≤ hp' ∧ hp' ≤ 255)
    (hs : bO sr' = true ∧ sr'.1 = sr.1) (hd : bO dt' = true ∧ dt'.1 = dt.1) : qq (v, E, F, (cl', lb, hp', pr, sr', dt', X, sb, ()), U, pd, ()) = true := by
  unfold qq Fk at h ⊢
  simp only [aA] at h ⊢
  obtain ⟨e1, e2, e3, ⟨g1, g2, g3⟩, g4⟩ := h
  have u' := TQ g1 hs hd
  have bl : (jZ U sr' dt').length = (jZ U sr dt).length := S9 g1 u'
  have g2 : lL (cl, lb, hp, pr, sr, dt, X, jZ U sr dt, ()) = true := g2
  have f' : lL (cl', lb, hp', pr, sr', dt', X, jZ U sr' dt', ()) = true := Uc g2 a1 a3 hs hd bl
  have fl := Ue g2 f' bl
  refine ⟨e1, e2, e3, ⟨u', f', g3⟩, ?_⟩
  refine Tr (l := gN (cl, lb, hp, pr, sr, dt, X, jZ U sr dt, ()) ++ pd) g4 ?_
  show (gN (cl', lb, hp', pr, sr', dt', X, jZ U sr' dt', ()) ++ pd).length = _
  rw [aT, aT, fl]
theorem UQ {m : aV} {P : aj} (C : PC P) (h0 : (NJ m P).2 = 0) : PC (NJ m P).1 := by
  revert h0
  unfold NJ
  obtain ⟨v, E, ⟨f1, f2, f3, f4, f5, f6, f7, sr, dt, fr⟩, ⟨cl, lb, hp, pr, s5, s6, sx⟩, U, pd⟩ := P
  have H : ∀ v' f1' f2' f6' sr' dt' cl' hp' s5' s6', PC (v', E, (f1', f2', f3, f4, f5, f6', f7, sr', dt', fr), (cl', lb, hp', pr, s5', s6', sx), U, pd) := fun _ _ _ _ _ _ _ _ _ _ =>
    { fo := C.fo, Kv := C.Kv, se := C.se, sx := C.sx, uo := C.uo, oN := C.oN, ub := C.ub, oO := C.oO, pd := C.pd, xb := C.xb, pb := C.pb }
  cases decide (v = 4)
  · dsimp only [al]
    unfold md6
    dsimp only
    cases decide (m.1 = 1)
    · cases decide (m.1 = 2)
      · cases decide (m.1 = 3)
        · cases decide (m.1 = 4)
          · cases decide (m.1 = 5)
            · cases decide (m.1 = 6)
              · exact fun _ => H _ _ _ _ _ _ _ _ _ _
              · cases (decide (cl % 4 = 1) || decide (cl % 4 = 2)) <;> exact fun _ => H _ _ _ _ _ _ _ _ _ _
            · exact fun _ => H _ _ _ _ _ _ _ _ _ _
          · cases decide (hp < 2)
            · exact fun _ => H _ _ _ _ _ _ _ _ _ _
            · intro e; cases e
        · cases ja m.2.1 s6 <;> exact fun _ => H _ _ _ _ _ _ _ _ _ _
      · cases ja m.2.1 s5 <;> exact fun _ => H _ _ _ _ _ _ _ _ _ _
    · cases Bv m (s5, s6, pr, U.2.1, U.2.2.1, ())
      · exact fun _ => H _ _ _ _ _ _ _ _ _ _
      · intro e; cases e
  · dsimp only [ag]
    unfold md4
    dsimp only
    cases decide (m.1 = 1)
    · cases decide (m.1 = 2)
      · cases decide (m.1 = 3)
        · cases decide (m.1 = 4)
          · cases decide (m.1 = 5)
            · cases decide (m.1 = 6)
              · exact fun _ => H _ _ _ _ _ _ _ _ _ _
              · cases (decide (f2 = 1) || decide (f2 = 2)) <;> exact fun _ => H _ _ _ _ _ _ _ _ _ _
            · exact fun _ => H _ _ _ _ _ _ _ _ _ _
          · cases decide (f6 < 2)
            · exact fun _ => H _ _ _ _ _ _ _ _ _ _
            · intro e; cases e
        · cases ja m.2.1 dt <;> exact fun _ => H _ _ _ _ _ _ _ _ _ _
      · cases ja m.2.1 sr <;> exact fun _ => H _ _ _ _ _ _ _ _ _ _
    · cases Bv m (sr, dt, f7, U.2.1, U.2.2.1, ())
      · exact fun _ => H _ _ _ _ _ _ _ _ _ _
      · intro e; cases e
theorem S1 {m : aV} {P : aj} (hm : nX m = true) (hg : cg P = true) (h0 : (NJ m P).2 = 0) : cg (NJ m P).1 = true := by
  revert h0
  rcases vG hg with h4 | h6
  · obtain ⟨_, _, ⟨g3, _⟩, ⟨g4, _⟩, g5, g6, g7⟩ := zd hg h4
    have hg' := hg
    unfold cg at hg'
    rw [ae h4] at hg'
    simp only [ag] at hg'
    unfold NJ
    rw [ae h4]
    simp only [ag]
    obtain ⟨v, E, ⟨f1, f2, f3, f4, f5, f6, f7, sr, dt, fo, fb, ⟨⟩⟩, S, U, pd, ⟨⟩⟩ := P
    dsimp only at h4 g3 g4 g5 g6 g7
    subst h4
    have H : ∀ {f1' f2' f6' : Int} {sr' dt' : ar}, (0 ≤ f1' ∧ f1' ≤ 63) → (0 ≤ f2' ∧ f2' ≤ 3) → (0 ≤ f6' ∧ f6' ≤ 255) → (bO sr' = true ∧ sr'.1 = sr.1) → (bO dt' = true ∧ dt'.1 = dt.1) → cg (4, E, (f1', f2', f3, f4, f5, f6', f7, sr', dt', fo, fb, ()), S, U, pd, ()) = true := by
      intro f1' f2' f6' sr' dt' a1 a2 a6 hs hd
      unfold cg
      exact Uf hg' a1 a2 a6 hs hd
    have s0 : bO sr = true ∧ sr.1 = sr.1 := ⟨g3, rfl⟩
    have d0 : bO dt = true ∧ dt.1 = dt.1 := ⟨g4, rfl⟩
    unfold md4
    dsimp only
    by_cases k1 : m.1 = 1
    · rw [ae k1]
      cases Bv m (sr, dt, f7, U.2.1, U.2.2.1, ())
      · exact fun _ => hg
      · intro e; cases e
    rw [ao k1]
    by_cases k2 : m.1 = 2
    · rw [ae k2]
      cases hh : ja m.2.1 sr
      · exact fun _ => hg
      · exact fun _ => H g5 g6 g7 (SZ (qe hm (.inl k2)) g3 hh) d0
    rw [ao k2]
    by_cases k3 : m.1 = 3
    · rw [ae k3]
      cases hh : ja m.2.1 dt
      · exact fun _ => hg
      · exact fun _ => H g5 g6 g7 s0 (SZ (qe hm (.inr k3)) g4 hh)
    rw [ao k3]
    by_cases k4 : m.1 = 4
    · rw [ae k4]
      by_cases hf : f6 < 2
      · rw [ae hf]; intro e; cases e
      · rw [ao hf]; exact fun _ => H g5 g6 ⟨by omega, by omega⟩ s0 d0
    rw [ao k4]
    by_cases k5 : m.1 = 5
    · rw [ae k5]
      exact fun _ => H (MW hm k5) g6 g7 s0 d0
    rw [ao k5]
    cases decide (m.1 = 6)
    · exact fun _ => hg
    · cases (decide (f2 = 1) || decide (f2 = 2))
      · exact fun _ => hg
      · exact fun _ => H g5 ⟨by decide, by decide⟩ g7 s0 d0
  · obtain ⟨_, _, ⟨g3, _⟩, ⟨g4, _⟩, g5, g6⟩ := zf hg h6
    have n4 : ¬ P.1 = 4 := by omega
    have hg' := hg
    unfold cg at hg'
    rw [ao n4, ae h6] at hg'
    simp only [ag, al] at hg'
    unfold NJ
    rw [ao n4]
    simp only [al]
    obtain ⟨v, E, F, ⟨cl, lb, hp, pr, sr, dt, X, sb, ⟨⟩⟩, U, pd, ⟨⟩⟩ := P
    dsimp only at h6 g3 g4 g5 g6
    subst h6
    have H : ∀ {cl' hp' : Int} {sr' dt' : ar}, (0 ≤ cl' ∧ cl' ≤ 255) → (0 ≤ hp' ∧ hp' ≤ 255) → (bO sr' = true ∧ sr'.1 = sr.1) → (bO dt' = true ∧ dt'.1 = dt.1) → cg (6, E, F, (cl', lb, hp', pr, sr', dt', X, sb, ()), U, pd, ()) = true := by
      intro cl' hp' sr' dt' a1 a3 hs hd
      unfold cg
      exact Ug hg' a1 a3 hs hd
    have s0 : bO sr = true ∧ sr.1 = sr.1 := ⟨g3, rfl⟩
    have d0 : bO dt = true ∧ dt.1 = dt.1 := ⟨g4, rfl⟩
    unfold md6
    dsimp only
    by_cases k1 : m.1 = 1
    · rw [ae k1]
      cases Bv m (sr, dt, pr, U.2.1, U.2.2.1, ())
      · exact fun _ => hg
      · intro e; cases e
    rw [ao k1]
    by_cases k2 : m.1 = 2
    · rw [ae k2]
      cases hh : ja m.2.1 sr
      · exact fun _ => hg
      · exact fun _ => H g5 g6 (SZ (qe hm (.inl k2)) g3 hh) d0
    rw [ao k2]
    by_cases k3 : m.1 = 3
    · rw [ae k3]
      cases hh : ja m.2.1 dt
      · exact fun _ => hg
      · exact fun _ => H g5 g6 s0 (SZ (qe hm (.inr k3)) g4 hh)
    rw [ao k3]
    by_cases k4 : m.1 = 4
    · rw [ae k4]
      by_cases hf : hp < 2
      · rw [ae hf]; intro e; cases e
      · rw [ao hf]; exact fun _ => H g5 ⟨by omega, by omega⟩ s0 d0
    rw [ao k4]
    by_cases k5 : m.1 = 5
    · rw [ae k5]
      have r := MW hm k5
      exact fun _ => H ⟨by omega, by omega⟩ g6 s0 d0
    rw [ao k5]
    cases decide (m.1 = 6)
    · exact fun _ => hg
    · cases (decide (cl % 4 = 1) || decide (cl % 4 = 2))
      · exact fun _ => hg
      · exact fun _ => H ⟨by omega, by omega⟩ g6 s0 d0
end
section
set_option maxHeartbeats 4000000
def TA (P : aj) : Int := bif cg P then Nn (AE P) + ((eB (AE P)).length : Int) else -1
theorem Ta {e : bH} (h : mY e = true) : ((jR e).length : Int) = Nn e + ((eB e).length : Int) := by
  unfold jR Nn
  rw [h]
  cases decide (0 ≤ e.2.2.1)
  · simp only [ag, al, aT, List.length_nil, aL]; omega
  · simp only [ag, aT, aL]; omega
theorem SS {P : aj} (hg : cg P = true) : mY (AE P) = true := by
  unfold AE
  rcases vG hg with h4 | h6
  · unfold cg at hg
    rw [ae h4] at hg ⊢
    simp only [ag] at hg ⊢
    unfold qp at hg
    simp only [aA] at hg
    exact hg.2.2.2.2
  · unfold cg at hg
    rw [ao (show ¬ P.1 = 4 by omega), ae h6] at hg
    rw [ao (show ¬ P.1 = 4 by omega)]
    simp only [ag, al] at hg ⊢
    unfold qq at hg
    simp only [aA] at hg
    exact hg.2.2.2.2
theorem S2 {P : aj} (hg : cg P = true) : 0 ≤ TA P ∧ TA P ≤ 2000 := by
  have h := SS hg
  have hl := (lO h).2.2
  unfold TA Nn
  rw [hg]
  cases decide (0 ≤ (AE P).2.2.1) <;> simp only [ag, al] <;> omega
theorem WB (k : Nat) (hk : MM < k) {P : aj} (B : PB P) : Se k P = some ((TA P, ()), ()) := by
  obtain ⟨e, h1, h2, _⟩ := Ji k hk P B
  unfold Se TA
  rw [h1, ai]
  cases hg : cg P
  · rfl
  have he := h2 hg
  subst he
  have hl := (lO (SS hg)).2.2
  have hl' : (AE P).2.2.2.2.1.length ≤ 1600 := hl
  unfold mV Nn
  dsimp only
  simp only [bI, al, ag]
  cases decide (0 ≤ (AE P).2.2.1)
  · simp only [al, ai]
    rw [bL (n := 14 + (((AE P).2.2.2.2.1.length : Nat) : Int)) (by omega)]
  · simp only [ag, ai]
    rw [bL (n := 18 + (((AE P).2.2.2.2.1.length : Nat) : Int)) (by omega)]
theorem WC (k : Nat) (hk : MM < k) {P : aj} (B : PB P) : Sd k P = some ((TA P, ()), ()) := by
  unfold Sd TA
  rw [Dx k hk P B, ai]
  cases hg : cg P
  · rfl
  simp only [bI, al, ag]
  rw [MU k hk P B, ai]
  unfold oP
  rw [hg]
  simp only [ag]
  rw [Ta (SS hg)]
def S3 (l : List Int) : Bool := decide ((l.length : Int) = 4) && !l.any (fun n => !gq n 0 1000000000000)
theorem Wi (k : Nat) (hk : MM < k) (l : List Int) : Sk k l = some ((S3 l, ()), ()) := by
  have hM : MM = 1048576 := rfl
  unfold Sk S3
  by_cases h8 : (l.length : Int) = 4
  case neg => rw [aK (ao h8), ao h8]; rfl
  rw [aw (ae h8), ae h8]
  have run := ow (step := RS) (st := fun i => ((), l, (), (l.length : Int), (i : Int), ())) (n := l.length) (hit := fun i => bif !gq (l.getD i 0) 0 1000000000000 then some (Sum.inl ((), (i : Int), ())) else none) (fin := Sum.inr ((), ())) (fun i hi rec => by
      unfold RS Sn
      rw [aw (by simp; omega), aw (by simp; omega), aw (by simp; omega)]
      simp only [Int.toNat_natCast, uD, ai]
      rw [bL (by omega)]
      cases gq (l.getD i 0) 0 1000000000000 <;> rfl) (fun rec => by
      unfold RS
      rw [aK (by simp)]) l.length 0 k (by omega) (by omega)
  unfold R4 R7
  rw [show iter RS k ((), l, (), (((List.length l) : Nat) : Int), (0 : Int), ()) = _ from run]
  rcases SN (x := l) (z := 0) (p := fun m => !gq m 0 1000000000000) (f := fun i => (Sum.inl ((), (i : Int), ()) : (Unit × (Int × Unit)) ⊕ (Unit × Unit))) (fin := Sum.inr ((), ())) with ⟨h1, j, _, h2⟩ | ⟨h1, h2⟩
  · rw [h2, h1]; simp
  · rw [h2, h1]; simp
theorem Wj (k : Nat) (hk : MM < k) (l : List Int) : Sj k l = some ((S3 l, ()), ()) := by
  have hM : MM = 1048576 := rfl
  unfold Sj S3
  by_cases h8 : (l.length : Int) = 4
  case neg => rw [ao h8]; rfl
  rw [ae h8]
  have run := ow (step := RV) (st := fun i => ((), l, (i : Int), ())) (n := l.length) (hit := fun i => bif !gq (l.getD i 0) 0 1000000000000 then some (Sum.inl ((), false, ())) else none) (fin := Sum.inr ((), ())) (fun i hi rec => by
      unfold RV gq
      have e0 : decide ((0:Int) ≤ (i:Int)) = true := ae (by omega)
      have e1 : decide ((i:Int) < (l.length : Int)) = true := ae (by omega)
      have e2 : decide (i < l.length) = true := ae hi
      simp only [Int.toNat_natCast, e0, e1, e2, ag, Bool.and_self]
      rw [bL (by omega)]
      by_cases a : l.getD i 0 < 0
      · rw [ae a, ao (show ¬ 0 ≤ l.getD i 0 by omega)]; rfl
      · rw [ao a, ae (show 0 ≤ l.getD i 0 by omega)]
        by_cases b : 1000000000000 < l.getD i 0
        · rw [ae b, ao (show ¬ l.getD i 0 ≤ 1000000000000 by omega)]; rfl
        · rw [ao b, ae (show l.getD i 0 ≤ 1000000000000 by omega)]; rfl) (fun rec => by
      unfold RV
      rw [aK (by simp)]) l.length 0 k (by omega) (by omega)
  simp only [bI, al]
  rw [show iter RV k ((), l, (0 : Int), ()) = _ from run]
  rcases SN (x := l) (z := 0) (p := fun m => !gq m 0 1000000000000) (f := fun i => (Sum.inl ((), false, ()) : (Unit × (Bool × Unit)) ⊕ (Unit × Unit))) (fin := Sum.inr ((), ())) with ⟨h1, j, _, h2⟩ | ⟨h1, h2⟩
  · rw [h2, h1]; rfl
  · rw [h2, h1]; rfl
end
section
set_option maxHeartbeats 4000000
def SU (m : aV) (q : aj) (c : List Int) : List Int := bif decide (m.1 = 7) then c.set (mN m - 1).toNat (Nv 1000000000000 (c.getD (mN m - 1).toNat 0 + TA q)) else c
def chV : List aV → aj → List Int → aj × List Int × Int
  | [], q, c => (q, c, 0)
  | m :: l, q, c => bif decide ((NJ m q).2 = 0) then chV l (NJ m q).1 (SU m q c) else (oK, SU m q c, (NJ m q).2)
structure eR (c : List Int) : Prop where
  len : c.length = 4
  UP : ∀ x ∈ c, 0 ≤ x ∧ x ≤ 1000000000000
theorem Vi {m : aV} (h : nX m = true) (h1 : m.1 = 7) : 1 ≤ mN m ∧ mN m ≤ 4 := by
  unfold nX at h
  rw [h1] at h
  have h' : ((iT m.2.1 && iT m.2.2.1) && (z3 m.2.2.2.1 m.2.2.2.2.1 m.2.2.2.2.2.1 && gq m.2.2.2.2.2.2.1 1 4)) = true := h
  simp only [aA, fV] at h'
  exact h'.2.2
theorem To {m : aV} {q : aj} {c : List Int} (hm : nX m = true) (hg : cg q = true) (hc : eR c) : eR (SU m q c) := by
  unfold SU
  by_cases h7 : m.1 = 7
  case neg => rw [ao h7]; exact hc
  rw [ae h7]
  have hn := Vi hm h7
  have hs := S2 hg
  have hl := hc.len
  have hx := hc.UP _ (cb c 0 (mN m - 1).toNat (by omega))
  refine ⟨by simp only [ag, List.length_set]; exact hl, fun x hx' => ?_⟩
  rcases List.mem_or_eq_of_mem_set hx' with h | h
  · exact hc.UP x h
  · subst h; unfold Nv; split <;> omega
section
variable (k : Nat) (hk : MM < k) {m : aV} (hm : nX m = true) {P : aj} (B : PC P) (hg : cg P = true)
include hk hm B hg
theorem WD : fM k m P = some (((NJ m P).1, (NJ m P).2, ()), ()) := by
  unfold NJ
  rcases vG hg with h4 | h6
  · rw [ae h4]; exact PQ k hk hm B hg h4
  · rw [ao (show ¬ P.1 = 4 by omega)]; exact PS k hk hm B hg h6
theorem WE : dQ k m P = some (((NJ m P).1, (NJ m P).2, ()), ()) := by
  unfold NJ
  rcases vG hg with h4 | h6
  · rw [ae h4]; exact PT k hk hm B hg h4
  · rw [ao (show ¬ P.1 = 4 by omega)]; exact PU k hk hm B hg h6
end
theorem Ts (k : Nat) (hk : MM < k) (l : List aV) (hl : l.length ≤ 8) (hm : ∀ x ∈ l, nX x = true) : ∀ (n i kk : Nat) (q : aj) (c : List Int), PC q → cg q = true → eR c → i + n = l.length → n < kk →
    ∃ o, iter (RY k) kk ((), oK, q, c, l, (l.length : Int), (i : Int), ()) = some o ∧ Sum.elim (fun a7 => some (a7.2, ())) (fun b8 => some ((b8.2.2.1, b8.2.2.2.1, (0:Int), ()), ())) o = some (((chV (l.drop i) q c).1, (chV (l.drop i) q c).2.1, (chV (l.drop i) q c).2.2, ()), ())
  | n, i, 0, _, _, _, _, _, _, h => by omega
  | 0, i, kk + 1, q, c, _, _, _, h, _ => by
    refine ⟨_, by rw [bd]; unfold RY; exact aK (ao (by dsimp only; omega)), ?_⟩
    rw [List.drop_eq_nil_of_le (by omega)]; rfl
  | n + 1, i, kk + 1, q, c, C, hg, hc, h, hkk => by
    have hi : i < l.length := by omega
    rw [List.drop_eq_getElem_cons hi, ← dT l vJ i hi]
    have hM : nX (l.getD i vJ) = true := hm _ (cb l vJ i hi)
    have st : ∀ rec, RY k rec ((), oK, q, c, l, (l.length : Int), (i : Int), ()) = bif decide ((NJ (l.getD i vJ) q).2 = 0) then rec ((), oK, (NJ (l.getD i vJ) q).1, SU (l.getD i vJ) q c, l, (l.length : Int), ((i + 1 : Nat) : Int), ()) else some (Sum.inl ((), oK, SU (l.getD i vJ) q c, (NJ (l.getD i vJ) q).2, ())) := fun rec => by
      unfold RY
      dsimp only
      rw [aw (ae (by omega)), aw (by simp; omega), aw (ae (by omega))]
      simp only [Int.toNat_natCast]
      rw [bL (n := (i : Int) + 1) (by omega), show (i : Int) + 1 = ((i + 1 : Nat) : Int) by omega]
      obtain ⟨M, hMe⟩ : ∃ M, l.getD i vJ = M := ⟨_, rfl⟩
      simp only [hMe] at hM ⊢
      have e := WD k hk hM C hg
      unfold SU
      by_cases h7 : M.1 = 7
      · have hn := Vi hM h7
        have hn1 : 1 ≤ M.2.2.2.2.2.2.1 ∧ M.2.2.2.2.2.2.1 ≤ 4 := hn
        have hs := S2 hg
        have hlc := hc.len
        have hx := hc.UP _ (cb c 0 (M.2.2.2.2.2.2.1 - 1).toNat (by omega))
        have wN : Wr .i64 (M.2.2.2.2.2.2.1 - 1) = M.2.2.2.2.2.2.1 - 1 := bL (by omega)
        have wC : Wr .i64 (c.getD (M.2.2.2.2.2.2.1 - 1).toNat 0 + TA q) = c.getD (M.2.2.2.2.2.2.1 - 1).toNat 0 + TA q := bL (by omega)
        have e1 : decide (0 ≤ M.2.2.2.2.2.2.1 - 1) = true := ae (by omega)
        have e2 : decide (M.2.2.2.2.2.2.1 - 1 < (c.length : Int)) = true := ae (by omega)
        have e3 : decide ((M.2.2.2.2.2.2.1 - 1).toNat < c.length) = true := ae (by omega)
        rw [ae h7]
        simp only [wN, e1, e2, e3, WB k hk C.toPB, ai, wC, e, ag, Bool.and_self]
        cases decide ((NJ M q).2 = 0) <;> rfl
      · rw [ao h7]
        simp only [e, ai, al]
        cases decide ((NJ M q).2 = 0) <;> rfl
    rw [bd, st]
    generalize l.getD i vJ = M at hM
    unfold chV
    by_cases h0 : (NJ M q).2 = 0
    · rw [ae h0]
      exact Ts k hk l hl hm n (i + 1) kk _ _ (UQ C h0) (S1 hM hg h0) (To hM hg hc) (by omega) (by omega)
    · rw [ao h0]
      exact ⟨_, rfl, rfl⟩
theorem Tt (k : Nat) (hk : MM < k) (l : List aV) (hl : l.length ≤ 8) (hm : ∀ x ∈ l, nX x = true) : ∀ (n i kk : Nat) (q : aj) (c : List Int), PC q → cg q = true → eR c → i + n = l.length → n < kk →
    ∃ o, iter (RX k) kk ((), l, oK, c, q, (i : Int), ()) = some o ∧ Sum.elim (fun a6 => some (a6.2, ())) (fun b7 => some ((b7.2.2.2.1, b7.2.2.1, (0:Int), ()), ())) o = some (((chV (l.drop i) q c).1, (chV (l.drop i) q c).2.1, (chV (l.drop i) q c).2.2, ()), ())
  | n, i, 0, _, _, _, _, _, _, h => by omega
  | 0, i, kk + 1, q, c, _, _, _, h, _ => by
    refine ⟨_, by rw [bd]; unfold RX; exact aK (ao (by dsimp only; omega)), ?_⟩
    rw [List.drop_eq_nil_of_le (by omega)]; rfl
  | n + 1, i, kk + 1, q, c, C, hg, hc, h, hkk => by
    have hi : i < l.length := by omega
    rw [List.drop_eq_getElem_cons hi, ← dT l vJ i hi]
    have hM : nX (l.getD i vJ) = true := hm _ (cb l vJ i hi)
    have st : ∀ rec, RX k rec ((), l, oK, c, q, (i : Int), ()) = bif decide ((NJ (l.getD i vJ) q).2 = 0) then rec ((), l, oK, SU (l.getD i vJ) q c, (NJ (l.getD i vJ) q).1, ((i + 1 : Nat) : Int), ()) else some (Sum.inl ((), oK, SU (l.getD i vJ) q c, (NJ (l.getD i vJ) q).2, ())) := fun rec => by
      unfold RX
      dsimp only
      have j1 : decide ((i : Int) < (l.length : Int)) = true := ae (by omega)
      have j2 : decide ((0 : Int) ≤ (i : Int)) = true := ae (by omega)
      have j3 : decide (i < l.length) = true := ae hi
      simp only [Int.toNat_natCast, j1, j2, j3, ag, Bool.and_self]
      rw [bL (n := (i : Int) + 1) (by omega), show (i : Int) + 1 = ((i + 1 : Nat) : Int) by omega]
      obtain ⟨M, hMe⟩ : ∃ M, l.getD i vJ = M := ⟨_, rfl⟩
      simp only [hMe] at hM ⊢
      have e := WE k hk hM C hg
      unfold SU
      by_cases h7 : M.1 = 7
      · have hn := Vi hM h7
        have hn1 : 1 ≤ M.2.2.2.2.2.2.1 ∧ M.2.2.2.2.2.2.1 ≤ 4 := hn
        have hs := S2 hg
        have hlc := hc.len
        have hx := hc.UP _ (cb c 0 (M.2.2.2.2.2.2.1 - 1).toNat (by omega))
        have wN : Wr .i64 (M.2.2.2.2.2.2.1 - 1) = M.2.2.2.2.2.2.1 - 1 := bL (by omega)
        have wC : Wr .i64 (c.getD (M.2.2.2.2.2.2.1 - 1).toNat 0 + TA q) = c.getD (M.2.2.2.2.2.2.1 - 1).toNat 0 + TA q := bL (by omega)
        have e1 : decide (0 ≤ M.2.2.2.2.2.2.1 - 1) = true := ae (by omega)
        have e2 : decide (M.2.2.2.2.2.2.1 - 1 < (c.length : Int)) = true := ae (by omega)
        have e3 : decide ((M.2.2.2.2.2.2.1 - 1).toNat < c.length) = true := ae (by omega)
        rw [ae h7]
        simp only [wN, e1, e2, e3, WC k hk C.toPB, ai, wC, e, ag, Bool.and_self]
        cases decide ((NJ M q).2 = 0) <;> rfl
      · rw [ao h7]
        simp only [e, ai, al]
        cases decide ((NJ M q).2 = 0) <;> rfl
    rw [bd, st]
    generalize l.getD i vJ = M at hM
    unfold chV
    by_cases h0 : (NJ M q).2 = 0
    · rw [ae h0]
      exact Tt k hk l hl hm n (i + 1) kk _ _ (UQ C h0) (S1 hM hg h0) (To hM hg hc) (by omega) (by omega)
    · rw [ao h0]
      exact ⟨_, rfl, rfl⟩
def SM (l : List aV) (P : aj) (c : List Int) : aj × List Int × Int := bif Sz l && (cg P && S3 c) then chV l P c else (oK, [], 1)
theorem Vj (k : Nat) (hk : MM < k) (l : List aV) {P : aj} (B : PC P) (c : List Int) :
    Sl k l P c = some (((SM l P c).1, (SM l P c).2.1, (SM l P c).2.2, ()), ()) ∧ Sq k l P c = some (((SM l P c).1, (SM l P c).2.1, (SM l P c).2.2, ()), ()) := by
  have hM : MM = 1048576 := rfl
  unfold Sl Sq SM
  rw [Vk k hk, Vl k hk, ai, ai]
  cases hc : Sz l
  · exact ⟨rfl, rfl⟩
  simp only [bI, bT, ag, Bool.true_and]
  rw [Io k hk B.toPB, Dx k hk P B.toPB, ai, ai]
  cases hg : cg P
  · exact ⟨rfl, rfl⟩
  simp only [bI, bT, ag, Bool.true_and]
  rw [Wi k hk, Wj k hk, ai, ai]
  cases hm : S3 c
  · exact ⟨rfl, rfl⟩
  simp only [bI, al, ag]
  unfold Sz at hc
  rw [aA, bF, Bool.not_eq_true', List.any_eq_false] at hc
  obtain ⟨h8, ha⟩ := hc
  have hl : l.length ≤ 8 := by omega
  have hall : ∀ x ∈ l, nX x = true := fun x hx => by simpa using ha x hx
  unfold S3 at hm
  rw [aA, bF, Bool.not_eq_true', List.any_eq_false] at hm
  obtain ⟨m4, ma⟩ := hm
  have hmc : eR c := ⟨by omega, fun x hx => fV.1 (by simpa using ma x hx)⟩
  have he : emp P = true := by
    rcases vG hg with h4 | h6
    · exact (zd hg h4).1
    · exact (zf hg h6).1
  have hcl : decide (((0:Nat) + c.length) * 8 ≤ (1099511627776:Nat)) = true := ae (by have := hmc.len; omega)
  constructor
  · rw [Im k hk B.toPB he, ai]
    unfold So
    rw [hcl]
    simp only [ag, ai]
    obtain ⟨o, h1, h2⟩ := Ts k hk l hl hall l.length 0 k P c B hg hmc (by omega) (by omega)
    rw [show iter (RY k) k ((), oK, P, c, l, (List.length l : Int), (0:Int), ()) = some o from h1, ai]
    rw [List.drop_zero] at h2
    exact h2
  · rw [hcl]
    simp only [ag]
    rw [DB k hk B hg, ai]
    obtain ⟨o, h1, h2⟩ := Tt k hk l hl hall l.length 0 k P c B hg hmc (by omega) (by omega)
    rw [show iter (RX k) k ((), l, oK, c, P, (0:Int), ()) = some o from h1, ai]
    rw [List.drop_zero] at h2
    exact h2
end
section
set_option maxHeartbeats 4000000
theorem WG {m : Int} (h0 : 0 ≤ m) (h1 : m ≤ 4398046511104) : Wr .i64 (m + 1) = m + 1 := (bL (n := m + 1) ⟨by omega, by omega⟩).trans (by omega)
theorem WH {m : Int} (h0 : 0 ≤ m) (h1 : m ≤ 4398046511104) : Wr .i64 (m + 1 + 1) = m + 2 := (bL (n := m + 1 + 1) ⟨by omega, by omega⟩).trans (by omega)
theorem WI {m : Int} (h0 : 0 ≤ m) (h1 : m ≤ 4398046511104) : Wr .i64 (m + 2 + 1) = m + 3 := (bL (n := m + 2 + 1) ⟨by omega, by omega⟩).trans (by omega)
theorem WJ {m : Int} (h0 : 0 ≤ m) (h1 : m ≤ 4398046511104) : Wr .i64 (m + 3 + 1) = m + 4 := (bL (n := m + 3 + 1) ⟨by omega, by omega⟩).trans (by omega)
theorem WK {m : Int} (h0 : 0 ≤ m) (h1 : m ≤ 4398046511104) : Wr .i64 (m + 4 + 1) = m + 5 := (bL (n := m + 4 + 1) ⟨by omega, by omega⟩).trans (by omega)
theorem WL {m : Int} (h0 : 0 ≤ m) (h1 : m ≤ 4398046511104) : Wr .i64 (m + 5 + 1) = m + 6 := (bL (n := m + 5 + 1) ⟨by omega, by omega⟩).trans (by omega)
theorem WM {m : Int} (h0 : 0 ≤ m) (h1 : m ≤ 4398046511104) : Wr .i64 (m + 6 + 1) = m + 7 := (bL (n := m + 6 + 1) ⟨by omega, by omega⟩).trans (by omega)
theorem WN {m : Int} (h0 : 0 ≤ m) (h1 : m ≤ 4398046511104) : Wr .i64 (m + 7 + 1) = m + 8 := (bL (n := m + 7 + 1) ⟨by omega, by omega⟩).trans (by omega)
theorem WO {m : Int} (h0 : 0 ≤ m) (h1 : m ≤ 4398046511104) : Wr .i64 (m + 8 + 1) = m + 9 := (bL (n := m + 8 + 1) ⟨by omega, by omega⟩).trans (by omega)
theorem Wk {m : Int} (h0 : 0 ≤ m) (h1 : m ≤ 4398046511104) : Wr .i64 (m + 9 + 1) = m + 10 := (bL (n := m + 9 + 1) ⟨by omega, by omega⟩).trans (by omega)
theorem Wl {m : Int} (h0 : 0 ≤ m) (h1 : m ≤ 4398046511104) : Wr .i64 (m + 10 + 1) = m + 11 := (bL (n := m + 10 + 1) ⟨by omega, by omega⟩).trans (by omega)
theorem Wm {m : Int} (h0 : 0 ≤ m) (h1 : m ≤ 4398046511104) : Wr .i64 (m + 11 + 1) = m + 12 := (bL (n := m + 11 + 1) ⟨by omega, by omega⟩).trans (by omega)
theorem Wn {m : Int} (h0 : 0 ≤ m) (h1 : m ≤ 4398046511104) : Wr .i64 (m + 12 + 1) = m + 13 := (bL (n := m + 12 + 1) ⟨by omega, by omega⟩).trans (by omega)
theorem Wo {m : Int} (h0 : 0 ≤ m) (h1 : m ≤ 4398046511104) : Wr .i64 (m + 13 + 1) = m + 14 := (bL (n := m + 13 + 1) ⟨by omega, by omega⟩).trans (by omega)
theorem Wp {m : Int} (h0 : 0 ≤ m) (h1 : m ≤ 4398046511104) : Wr .i64 (m + 14 + 1) = m + 15 := (bL (n := m + 14 + 1) ⟨by omega, by omega⟩).trans (by omega)
theorem Wq {m : Int} (h0 : 0 ≤ m) (h1 : m ≤ 4398046511104) : Wr .i64 (m + 15 + 1) = m + 16 := (bL (n := m + 15 + 1) ⟨by omega, by omega⟩).trans (by omega)
theorem Ws {m : Int} (h0 : 0 ≤ m) (h1 : m ≤ 4398046511104) : Wr .i64 (m + 16 + 1) = m + 17 := (bL (n := m + 16 + 1) ⟨by omega, by omega⟩).trans (by omega)
def TT (m : Int) : aV := (m, ((m + 1, m + 2, m + 3, m + 4, m + 5, ()), m + 6, ()), ((m + 7, m + 8, m + 9, m + 10, m + 11, ()), m + 12, ()), m + 13, m + 14, m + 15, m + 16, ())
theorem SW (k : Nat) (hk : MM < k) (L : List aV) (hL : L.length ≤ 1048576) (m : Int) (h0 : 0 ≤ m) (hm : m + ((17 * L.length : Nat) : Int) ≤ 4398046511104) :
    R8 k L m = some ((m + ((17 * L.length : Nat) : Int), ()), (markF TT 17 L.length m, ())) := by
  unfold R8
  have run := DD (step := RW) (E := TT) (c := 17) vJ (fun L m i rec hi hl g0 g1 => by
      have e1 := WG g0 g1
      have e2 := WH g0 g1
      have e3 := WI g0 g1
      have e4 := WJ g0 g1
      have e5 := WK g0 g1
      have e6 := WL g0 g1
      have e7 := WM g0 g1
      have e8 := WN g0 g1
      have e9 := WO g0 g1
      have e10 := Wk g0 g1
      have e11 := Wl g0 g1
      have e12 := Wm g0 g1
      have e13 := Wn g0 g1
      have e14 := Wo g0 g1
      have e15 := Wp g0 g1
      have e16 := Wq g0 g1
      have e17 := Ws g0 g1
      have ei : Wr .i64 ((i : Int) + 1) = ((i + 1 : Nat) : Int) := bL (by omega)
      have c1 : decide ((i : Int) < (L.length : Int)) = true := ae (by omega)
      have c2 : decide ((0 : Int) ≤ (i : Int)) = true := ae (by omega)
      have c3 : decide (i < L.length) = true := ae (by omega)
      have hs : ∀ e, (L.set i e).getD i vJ = e := fun e => Tb L i e vJ hi
      unfold RW TT
      simp only [e1, e2, e3, e4, e5, e6, e7, e8, e9, e10, e11, e12, e13, e14, e15, e16, e17, ei, Int.toNat_natCast, List.length_set, c1, c2, c3, Bool.and_self, ag, hs, List.set_set]
      rfl) (fun L m rec => by
      unfold RW
      exact aK (ao (by dsimp only; omega))) hk hL h0 hm
  rw [run]; rfl
abbrev mI (n : Nat) (m : Int) : List Int := markF (fun m => m) 1 n m
theorem SV (k : Nat) (hk : MM < k) (L : List Int) (hL : L.length ≤ 1048576) (m : Int) (h0 : 0 ≤ m) (hm : m + (L.length : Int) ≤ 4398046511104) :
    Sb k L m = some ((m + (L.length : Int), ()), (mI L.length m, ())) := by
  unfold Sb
  have run := DD (step := R0) (E := fun m => m) (c := 1) (0 : Int) (fun L m i rec hi hl g0 g1 => by
      have e1 : Wr .i64 (m + 1) = m + ((1 : Nat) : Int) := (bL (n := m + 1) (by omega)).trans (by omega)
      have ei : Wr .i64 ((i : Int) + 1) = ((i + 1 : Nat) : Int) := bL (by omega)
      have c1 : decide ((i : Int) < (L.length : Int)) = true := ae (by omega)
      have c2 : decide ((0 : Int) ≤ (i : Int)) = true := ae (by omega)
      have c3 : decide (i < L.length) = true := ae (by omega)
      unfold R0
      simp only [e1, ei, Int.toNat_natCast, c1, c2, c3, Bool.and_self, ag]) (fun L m rec => by
      unfold R0
      exact aK (ao (by dsimp only; omega))) hk hL h0 (by rw [Nat.one_mul]; exact hm)
  rw [run, Nat.one_mul]; rfl
theorem Tp (k : Nat) (hk : MM < k) (n : Nat) (hn : n ≤ 1048576) (m : Int) (h0 : 0 ≤ m) (hm : m + ((n : Nat) : Int) ≤ 4398046511104) :
    Sc k (mI n m) m = some ((m + ((n : Nat) : Int), ()), ()) := by
  unfold Sc
  have run := DE (step := R3) (E := fun m => m) (c := 1) (0 : Int) (fun L m i rec hi hl g0 g1 he => by
      have e1 : Wr .i64 (m + 1) = m + ((1 : Nat) : Int) := (bL (n := m + 1) (by omega)).trans (by omega)
      have ei : Wr .i64 ((i : Int) + 1) = ((i + 1 : Nat) : Int) := bL (by omega)
      have c1 : decide ((i : Int) < (L.length : Int)) = true := ae (by omega)
      have c2 : decide ((0 : Int) ≤ (i : Int)) = true := ae (by omega)
      have c3 : decide (i < L.length) = true := ae (by omega)
      unfold R3
      simp only [e1, ei, Int.toNat_natCast, he, c1, c2, c3, Bool.and_self, ag, aI, bI, al]) (fun L m rec => by
      unfold R3
      exact aK (ao (by dsimp only; omega))) hk hn h0 (by rw [Nat.one_mul]; exact hm)
  rw [run, Nat.one_mul]; rfl
end
section
set_option maxHeartbeats 8000000
theorem TU : ∀ (l : List aV) (q : aj) (c : List Int), (∀ x ∈ l, nX x = true) → cg q = true → eR c → PW (chV l q c).1 ∧ (chV l q c).2.1.length ≤ 4
  | [], q, c, _, hg, hc => ⟨Gl hg, by show c.length ≤ 4; rw [hc.len]; exact Nat.le_refl _⟩
  | m :: l, q, c, hm, hg, hc => by
    have h := hm m List.mem_cons_self
    have hc' := To h hg hc
    unfold chV
    by_cases h0 : (NJ m q).2 = 0
    · rw [ae h0]
      exact TU l _ _ (fun x hx => hm x (List.mem_cons_of_mem _ hx)) (S1 h hg h0) hc'
    · rw [ao h0]
      exact ⟨tc, by show (SU m q c).length ≤ 4; rw [hc'.len]; exact Nat.le_refl _⟩
theorem Uh (l : List aV) (q : aj) (c : List Int) : PW (SM l q c).1 ∧ (SM l q c).2.1.length ≤ 4 := by
  unfold SM
  cases hc : Sz l
  · exact ⟨tc, Nat.zero_le _⟩
  cases hg : cg q
  · exact ⟨tc, Nat.zero_le _⟩
  cases hm : S3 c
  · exact ⟨tc, Nat.zero_le _⟩
  unfold Sz at hc
  rw [aA, bF, Bool.not_eq_true', List.any_eq_false] at hc
  unfold S3 at hm
  rw [aA, bF, Bool.not_eq_true', List.any_eq_false] at hm
  exact TU l q c (fun x hx => by simpa using hc.2 x hx) hg ⟨by have := hm.1; omega, fun x hx => fV.1 (by simpa using hm.2 x hx)⟩
theorem TW (k : Nat) (hk : MM < k) {P : aj} (b : Bd aU P) (s : Int) (hs0 : 0 ≤ s) (hs1 : s ≤ 100000000) : ∃ c1 c2 c3 c4 c5 c6 c7 c8 y1 y2 y3 y4 y5 y6 y7 y8, aP k P.2.1.2.2.2.2.1 s = some ((c1, ()), y1) ∧ aP k P.2.2.1.2.2.2.2.2.2.2.2.2.1 c1 = some ((c2, ()), y2) ∧ aP k P.2.2.1.2.2.2.2.2.2.2.2.2.2.1 c2 = some ((c3, ()), y3) ∧
    fP k P.2.2.2.1.2.2.2.2.2.2.1 c3 = some ((c4, ()), y4) ∧ aP k P.2.2.2.1.2.2.2.2.2.2.2.1 c4 = some ((c5, ()), y5) ∧ aP k P.2.2.2.2.1.2.2.2.2.2.2.2.2.2.2.2.2.1 c5 = some ((c6, ()), y6) ∧ aP k P.2.2.2.2.1.2.2.2.2.2.2.2.2.2.2.2.2.2.1 c6 = some ((c7, ()), y7) ∧ aP k P.2.2.2.2.2.1 c7 = some ((c8, ()), y8) ∧ 0 ≤ c8 ∧ c8 ≤ 2199023255552 := by
  obtain ⟨_, be, bf, bs, bu, bp, _⟩ := b
  have l1 := m9 be.2.2.2.2.1
  have l2 := m9 bf.2.2.2.2.2.2.2.2.2.1
  have l3 := m9 bf.2.2.2.2.2.2.2.2.2.2.1
  have l5 := m9 bs.2.2.2.2.2.2.2.1
  have l6 := m9 bu.2.2.2.2.2.2.2.2.2.2.2.2.1
  have l7 := m9 bu.2.2.2.2.2.2.2.2.2.2.2.2.2.1
  have l8 := m9 bp
  have x1 : (sE P.2.2.2.1).length ≤ 1048576 := mZ bs.2.2.2.2.2.2.1.1
  have x2 : ∀ e ∈ sE P.2.2.2.1, e.2.1.length ≤ 1048576 := fun e he => m9 (bs.2.2.2.2.2.2.1.2 e he).2.1
  have hx := xW 1048576 (sE P.2.2.2.1) 1048576 x1 x2
  have hx' : xc (sE P.2.2.2.1) ≤ 1099512676352 := hx
  have r1 := cN k hk _ l1 s (by omega) (by omega)
  have r2 := cN k hk _ l2 (s + (P.2.1.2.2.2.2.1.length : Int)) (by omega) (by omega)
  have r3 := cN k hk _ l3 (s + (P.2.1.2.2.2.2.1.length : Int) + (P.2.2.1.2.2.2.2.2.2.2.2.2.1.length : Int)) (by omega) (by omega)
  generalize e3 : s + (P.2.1.2.2.2.2.1.length : Int) + (P.2.2.1.2.2.2.2.2.2.2.2.2.1.length : Int) + (P.2.2.1.2.2.2.2.2.2.2.2.2.2.1.length : Int) = c3 at r3
  have r4 := sY k hk (sE P.2.2.2.1) x1 x2 c3 (by omega) (by omega)
  generalize e4 : c3 + ((xc (sE P.2.2.2.1) : Nat) : Int) = c4 at r4
  have r5 := cN k hk _ l5 c4 (by omega) (by omega)
  generalize e5 : c4 + (P.2.2.2.1.2.2.2.2.2.2.2.1.length : Int) = c5 at r5
  have r6 := cN k hk _ l6 c5 (by omega) (by omega)
  generalize e6 : c5 + (P.2.2.2.2.1.2.2.2.2.2.2.2.2.2.2.2.2.1.length : Int) = c6 at r6
  have r7 := cN k hk _ l7 c6 (by omega) (by omega)
  generalize e7 : c6 + (P.2.2.2.2.1.2.2.2.2.2.2.2.2.2.2.2.2.2.1.length : Int) = c7 at r7
  have r8 := cN k hk _ l8 c7 (by omega) (by omega)
  exact ⟨_, _, _, _, _, _, _, _, _, _, _, _, _, _, _, _, r1, r2, r3, r4, r5, r6, r7, r8, by omega, by omega⟩
theorem TX {l : List Int} (h : l.length ≤ 1048576) : Bd (.sl (.int .i64)) l := by
  have hM : MM = 1048576 := rfl
  exact ⟨show (l.length : Int) ≤ MM by omega, fun _ _ => trivial⟩
theorem SD (l : List aV) (P : aj) (c : List Int) (h0 : WF (.sl fw) l) (h1 : WF aU P) (h2 : WF (.sl (.int .i64)) c) : ∃ k y, R5 k l P c = some ((true, ()), y) := by
  have hk : MM < (1048577 : Nat) := by decide
  refine ⟨1048577, (), ?_⟩
  revert hk
  generalize (1048577 : Nat) = k
  intro hk
  have hM : MM = 1048576 := rfl
  unfold R5
  by_cases hcl : (1048576:Int) < (c.length : Int)
  · rw [aw (ae hcl)]
  rw [aK (ao hcl)]
  obtain ⟨n, z1, z2, z3, z4⟩ := SF l 1048576 h0 (by decide) (by decide)
  rw [z1, ai]
  dsimp only
  by_cases hn : n < 0
  · rw [aw (ae hn)]
  rw [aK (ao hn)]
  have bL := z4 (by omega)
  obtain ⟨n', z1', z2', z3', z4'⟩ := pO k hk P n h1 (by omega) (by omega)
  rw [z1', ai]
  dsimp only
  by_cases hn' : n' < 0
  · rw [aw (ae hn')]
  rw [aK (ao hn')]
  have bP := z4' (by omega)
  have bC : Bd (.sl (.int .i64)) c := TX (by omega)
  have C := MY h1 bP
  obtain ⟨mI', mS⟩ := Vj k hk l C c
  obtain ⟨W, hR⟩ := Uh l P c
  have q1 := pQ k hk P bP
  have q2 := SG k hk l bL
  have q3 := lN k hk P bP
  have q5 := SQ k hk c bC
  have q6 := SA k hk c bC
  have q7 := SH k hk l bL
  generalize (SM l P c).2.2 = code at *
  generalize (SM l P c).2.1 = R at *
  generalize (SM l P c).1 = Q at *
  have q4 := lN k hk Q (Jm W)
  have q8 := SA k hk R (TX (by omega))
  have hll : l.length ≤ 1048576 := mZ bL.1
  have m0 := SW k hk l hll 1 (by omega) (by omega)
  generalize hs : (1 : Int) + ((17 * l.length : Nat) : Int) = s at m0
  obtain ⟨b1, b2, b3, b4, b5, b6, b7, b8, y1, y2, y3, y4, y5, y6, y7, y8, m1, m2, m3, m4, m5, m6, m7, m8, hb8, hb9⟩ := TW k hk bP s (by omega) (by omega)
  have m9 := SV k hk c (by omega) b8 hb8 (by omega)
  have nb8 : decide (b8 + (c.length : Int) < 0) = false := ao (by omega)
  simp only [q1, q2, q5, mI', mS, q3, q4, q6, q7, q8, m0, m1, m2, m3, m4, m5, m6, m7, m8, m9, nb8, aI, ai, bI, bT, ag, al]
  have hxc := zh (sE Q.2.2.2.1) 3 W.a4.1 W.a4.2
  obtain ⟨a1, a2, a3, a4, a5, a6, a7, a8⟩ := W
  generalize g1 : (1 : Int) + (Q.2.1.2.2.2.2.1.length : Int) = c1
  generalize g2 : c1 + (((fO Q.2.2.1).length : Nat) : Int) = c2
  generalize g3 : c2 + (((fB Q.2.2.1).length : Nat) : Int) = c3
  generalize g4 : c3 + ((xc (sE Q.2.2.2.1) : Nat) : Int) = c4
  generalize g5 : c4 + (((sB Q.2.2.2.1).length : Nat) : Int) = c5
  generalize g6 : c5 + (Q.2.2.2.2.1.2.2.2.2.2.2.2.2.2.2.2.2.1.length : Int) = c6
  generalize g7 : c6 + (Q.2.2.2.2.1.2.2.2.2.2.2.2.2.2.2.2.2.2.1.length : Int) = c7
  generalize g8 : c7 + (Q.2.2.2.2.2.1.length : Int) = c8
  have r1 := cN k hk _ (Nat.le_trans a1 (by decide)) 1 (by omega) (by omega)
  have r2 := cN k hk _ (Nat.le_trans a2 (by decide)) c1 (by omega) (by omega)
  have r3 := cN k hk _ (Nat.le_trans a3 (by decide)) c2 (by omega) (by omega)
  have r4 := DF k hk _ a4.1 a4.2 c3 (by omega) (by omega)
  have r5 := cN k hk _ (Nat.le_trans a5 (by decide)) c4 (by omega) (by omega)
  have r6 := cN k hk _ (Nat.le_trans a6 (by decide)) c5 (by omega) (by omega)
  have r7 := cN k hk _ (Nat.le_trans a7 (by decide)) c6 (by omega) (by omega)
  have r8 := cN k hk _ (Nat.le_trans a8 (by decide)) c7 (by omega) (by omega)
  rw [g1] at r1
  rw [g2] at r2
  rw [g3] at r3
  rw [g4] at r4
  rw [g5] at r5
  rw [g6] at r6
  rw [g7] at r7
  rw [g8] at r8
  have r9 := SV k hk R (by omega) c8 (by omega) (by omega)
  have r10 := Tp k hk R.length (by omega) c8 (by omega) (by omega)
  have hh := fun v e1 e2 e3 e4 f1 f2 f3 f4 f5 f6 f7 s1 s2 s3 s4 u1 u2 u3 u4 u5 u6 u7 u8 u9 u10 u11 fa fb sa sb ub => Jn k hk v e1 e2 e3 e4 f1 f2 f3 f4 f5 f6 f7 s1 s2 s3 s4 u1 u2 u3 u4 u5 u6 u7 u8 u9 u10 u11 fa fb sa sb ub _ a4 _ _ _ _ _ _ _ a1 a2 a3 a5 a6 a7 a8 c1 c2 c3 c4 c5 c6 c7 c8 g1.symm g2.symm g3.symm g4.symm g5.symm g6.symm g7.symm g8.symm
  have n8 : decide (c8 < 0) = false := ao (by omega)
  have n9 : decide (c8 + (R.length : Int) < 0) = false := ao (by omega)
  simp only [r1, r2, r3, r4, r5, r6, r7, r8, r9, r10, hh, n8, n9, aI, ai, bI, bT, ag, al]
end
end Go.Tw
