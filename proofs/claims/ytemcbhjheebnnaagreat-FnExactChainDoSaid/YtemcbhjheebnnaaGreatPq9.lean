/- Facts on mirrors. -/
import Derived.Test.YtemcbhjheebnnaaGreatPq6
set_option linter.all false
set_option maxRecDepth 100000
namespace Go.Tw
open Go Go.RowKit
open Go.IntKind renaming wrap → Wr
section
set_option maxHeartbeats 8000000
theorem D9 (l : List Int) (h : l.length ≤ 2000) : decide ((0 + l.length) * 1 ≤ 1099511627776) = true := ae (by omega)
section
variable (k : Nat) (hk : MM < k) (d : List Int) (hb : az d) (s t : ar) (hs : iw s t = true)
theorem Ea (d : List Int) (h : Nat) : (((1:Int), w2 d 0, w2 d 2, w4 d 4, w4 d 8, w2 d 12 % 4096, w2 d 14, w2 d 18, (0:Int), (0:Int), (0:Int), false, (d.drop 20).take (h - 20), d.drop h, ()) : aF) = Kw d h := rfl
theorem Eb (d : List Int) (ns : Bool) : (((2:Int), w2 d 0, w2 d 2, (0:Int), (0:Int), (0:Int), (0:Int), (0:Int), (0:Int), (0:Int), (0:Int), ns, ([] : List Int), d.drop 8, ()) : aF) = Kx d ns := rfl
theorem Ec (d : List Int) : (((3:Int), (0:Int), (0:Int), (0:Int), (0:Int), (0:Int), (0:Int), (0:Int), d.getD 0 0, d.getD 1 0, w4 d 4, false, ([] : List Int), d.drop 8, ()) : aF) = Ky d := rfl
include hk hb hs
theorem Rr (p : Int) (hp : gq p 0 255 = true) (hl : d.length ≤ 1500) : dx k d p s t = some (((oT d p s t).1, (oT d p s t).2, ()), ()) := by
  have hv := jC hs
  have c1 : decide ((1500 : Int) < (d.length : Int)) = false := ao (by omega)
  have c1' : decide (1500 < d.length) = false := ao (by omega)
  have cl : decide ((d.length : Int) ≤ (d.length : Int)) = true := ae (Int.le_refl _)
  unfold dx eu oT
  rcases x7 p s.1 with e | e | e | e
  · have k1 : decide ((0 : Int) = 1) = false := rfl
    have k2 : decide ((0 : Int) = 2) = false := rfl
    have k3 : decide ((0 : Int) = 3) = false := rfl
    simp only [c1, c1', jm, hs, oc, hp, D8 p s.1 hp hv, e, k1, k2, k3, D9 d (by omega), aI, Bool.and_self, bI, bT, ag, al, ai]
  · have k0 : decide ((1 : Int) = 0) = false := rfl
    unfold P3
    by_cases h0 : d.length < 8
    · have n0 : decide ((d.length : Int) < 8) = true := ae (by omega)
      have n1 : decide (d.length < 20) = true := ae (by omega)
      simp only [c1, c1', jm, hs, oc, hp, D8 p s.1 hp hv, e, k0, n0, n1, aI, Bool.and_self, bI, bT, ag, al, ai]
    have m0 : decide ((d.length : Int) < 8) = false := ao (by omega)
    by_cases h1 : d.length < 20
    · have n0 : decide ((d.length : Int) < 20) = true := ae (by omega)
      have n1 : decide (d.length < 20) = true := ae (by omega)
      simp only [c1, c1', jm, hs, oc, hp, D8 p s.1 hp hv, e, k0, m0, n0, n1, aI, Bool.and_self, bI, bT, ag, al, ai]
    have n0 : decide ((d.length : Int) < 20) = false := ao (by omega)
    have n1 : decide (d.length < 20) = false := ao (by omega)
    have n2 : decide ((12 : Int) < (d.length : Int)) = true := ae (by omega)
    have n3 : decide (12 < d.length) = true := ae (by omega)
    have g := hb _ (cb d 0 12 (by omega))
    have e0 : Wr .i64 (d.getD 12 0) = d.getD 12 0 := bL (by omega)
    have e16 : Int.tdiv (d.getD 12 0) 16 = d.getD 12 0 / 16 := Int.tdiv_eq_ediv_of_nonneg g.1
    obtain ⟨g1, g2, g3⟩ := Ng d hb (by omega)
    by_cases h2 : hT d < 20
    · have n4 : decide (((hT d : Nat) : Int) < 20) = true := ae (by omega)
      have n5 : decide (hT d < 20) = true := ae (by omega)
      simp only [c1, c1', jm, hs, oc, hp, D8 p s.1 hp hv, e, k0, m0, n0, n1, n2, n3, e0, e16, g3, n4, n5, aI, Bool.and_self, bI, bT, ag, al, ai]
    have n4 : decide (((hT d : Nat) : Int) < 20) = false := ao (by omega)
    have n5 : decide (hT d < 20) = false := ao (by omega)
    by_cases h3 : d.length < hT d
    · have n6 : decide ((d.length : Int) < ((hT d : Nat) : Int)) = true := ae (by omega)
      have n7 : decide (d.length < hT d) = true := ae (by omega)
      simp only [c1, c1', jm, hs, oc, hp, D8 p s.1 hp hv, e, k0, m0, n0, n1, n2, n3, e0, e16, g3, n4, n5, n6, n7, aI, Bool.and_self, bI, bT, ag, al, ai]
    have n6 : decide ((d.length : Int) < ((hT d : Nat) : Int)) = false := ao (by omega)
    have n7 : decide (d.length < hT d) = false := ao (by omega)
    have n8 : decide ((20 : Int) ≤ ((hT d : Nat) : Int)) = true := ae (by omega)
    have n9 : decide ((0 : Int) ≤ ((hT d : Nat) : Int)) = true := ae (by omega)
    have n10 : decide (((hT d : Nat) : Int) ≤ (d.length : Int)) = true := ae (by omega)
    have t1 := D9 ((d.drop 20).take (hT d - 20)) (by rw [List.length_take, List.length_drop]; omega)
    have t2 := D9 (d.drop (hT d)) (by rw [List.length_drop]; omega)
    have m := (Ro k hk d hb hl s t hs (hT d) (by omega) (by omega) g1 (by omega)).2
    have a0 : aN d 0 = some ((w2 d 0, true, ()), ()) := iH hb (by omega) 0 (by omega)
    have a2 : aN d 2 = some ((w2 d 2, true, ()), ()) := iH hb (by omega) 2 (by omega)
    have a12 : aN d 12 = some ((w2 d 12, true, ()), ()) := iH hb (by omega) 12 (by omega)
    have a14 : aN d 14 = some ((w2 d 14, true, ()), ()) := iH hb (by omega) 14 (by omega)
    have a16 : aN d 16 = some ((w2 d 16, true, ()), ()) := iH hb (by omega) 16 (by omega)
    have a18 : aN d 18 = some ((w2 d 18, true, ()), ()) := iH hb (by omega) 18 (by omega)
    have a4 : cH k d 4 = some ((w4 d 4, true, ()), ()) := nc k hk d hb 4 (by omega) (by omega)
    have a8 : cH k d 8 = some ((w4 d 8, true, ()), ()) := nc k hk d hb 8 (by omega) (by omega)
    have b12 := iU hb 12
    have e4 : Int.tmod (w2 d 12) 4096 = w2 d 12 % 4096 := Int.tmod_eq_emod_of_nonneg b12.1
    simp only [c1, c1', jm, hs, oc, hp, D8 p s.1 hp hv, e, k0, m0, n0, n1, n2, n3, e0, e16, g3, n4, n5, n6, n7, n8, n9, n10, cl, Int.toNat_natCast, kT, t1, t2, a0, a2, a4, a8, a12, a14, a16, a18, e4, Ea, m, aI, Bool.and_self, bI, bT, ag, al, ai, ng]
    exact pr _ _ _ _ _
  · have k0 : decide ((2 : Int) = 0) = false := rfl
    have k1 : decide ((2 : Int) = 1) = false := rfl
    unfold P4
    by_cases h1 : d.length < 8
    · have n0 : decide ((d.length : Int) < 8) = true := ae (by omega)
      have n1 : decide (d.length < 8) = true := ae (by omega)
      simp only [c1, c1', jm, hs, oc, hp, D8 p s.1 hp hv, e, k0, k1, n0, n1, aI, Bool.and_self, bI, bT, ag, al, ai]
    have n0 : decide ((d.length : Int) < 8) = false := ao (by omega)
    have n1 : decide (d.length < 8) = false := ao (by omega)
    have n2 : decide ((8 : Int) ≤ (d.length : Int)) = true := ae (by omega)
    have m := fun ns h => (Rp k hk d hb hl s t hs ns (by omega) h).2
    have t2 := D9 (d.drop 8) (by rw [List.length_drop]; omega)
    have a0 : aN d 0 = some ((w2 d 0, true, ()), ()) := iH hb (by omega) 0 (by omega)
    have a2 : aN d 2 = some ((w2 d 2, true, ()), ()) := iH hb (by omega) 2 (by omega)
    have a4 : aN d 4 = some ((w2 d 4, true, ()), ()) := iH hb (by omega) 4 (by omega)
    have a6 : aN d 6 = some ((w2 d 6, true, ()), ()) := iH hb (by omega) 6 (by omega)
    simp only [c1, c1', jm, hs, oc, hp, D8 p s.1 hp hv, e, k0, k1, n0, n1, n2, cl, kT, t2, a0, a2, a4, a6, Eb, aI, Bool.and_self, bI, bT, ag, al, ai, ng]
    cases decide (w2 d 4 = (d.length : Int))
    · rfl
    simp only [ag]
    unfold Nd
    by_cases h4 : s.1 = 4
    · have v4 : decide (s.1 = 4) = true := ae h4
      rw [v4]
      cases decide (w2 d 6 = 0)
      · simp only [ag, al, Bool.and_false, m false (fun h => by cases h), ai]
        exact pr _ _ _ _ _
      · simp only [ag, al, Bool.and_self, m true (fun _ => h4), ai]
        exact pr _ _ _ _ _
    · have v4 : decide (s.1 = 4) = false := ao h4
      rw [v4]
      cases decide (w2 d 6 = 0) <;> simp only [ag, al, Bool.false_and, m false (fun h => by cases h), ai] <;> exact pr _ _ _ _ _
  · have k0 : decide ((3 : Int) = 0) = false := rfl
    have k1 : decide ((3 : Int) = 1) = false := rfl
    have k2 : decide ((3 : Int) = 2) = false := rfl
    unfold JG
    by_cases h1 : d.length < 8
    · have n0 : decide ((d.length : Int) < 8) = true := ae (by omega)
      have n1 : decide (d.length < 8) = true := ae (by omega)
      simp only [c1, c1', jm, hs, oc, hp, D8 p s.1 hp hv, e, k0, k1, k2, n0, n1, aI, Bool.and_self, bI, bT, ag, al, ai]
    have n0 : decide ((d.length : Int) < 8) = false := ao (by omega)
    have n1 : decide (d.length < 8) = false := ao (by omega)
    have n2 : decide ((8 : Int) ≤ (d.length : Int)) = true := ae (by omega)
    have q' : ∀ n : Int, n < 8 → decide (n < (d.length : Int)) = true := fun n hn => ae (by omega)
    have q'' : ∀ n : Nat, n < 8 → decide (n < d.length) = true := fun n hn => ae (by omega)
    have g0 := hb _ (cb d 0 0 (by omega))
    have g1 := hb _ (cb d 0 1 (by omega))
    have x0 : Wr .i64 (d.getD 0 0) = d.getD 0 0 := bL (by omega)
    have x1 : Wr .i64 (d.getD 1 0) = d.getD 1 0 := bL (by omega)
    have t2 := D9 (d.drop 8) (by rw [List.length_drop]; omega)
    have a2 : aN d 2 = some ((w2 d 2, true, ()), ()) := iH hb (by omega) 2 (by omega)
    have a4 : cH k d 4 = some ((w4 d 4, true, ()), ()) := nc k hk d hb 4 (by omega) (by omega)
    have m := (Rq k hk d hb hl s t hs (by omega)).2
    simp only [c1, c1', jm, hs, oc, hp, D8 p s.1 hp hv, e, k0, k1, k2, n0, n1, n2, cl, q' 0 (by omega), q' 1 (by omega), q'' 0 (by omega), q'' 1 (by omega), x0, x1, kT, t2, a2, a4, Ec, m, aI, Bool.and_self, bI, bT, ag, al, ai, ng]
    exact pr _ _ _ _ _
end
theorem Ed (k : Nat) (hk : MM < k) (d : List Int) (hb : az d) (p : Int) (s t : ar) : dx k d p s t = some (((oT d p s t).1, (oT d p s t).2, ()), ()) := by
  by_cases hl : d.length ≤ 1500
  case neg =>
    unfold dx eu oT
    rw [aw (ae (by omega)), aw (ae (by omega))]
  cases hs : iw s t
  · unfold dx eu oT
    rw [aK (ao (by omega)), aK (ao (by omega))]
    simp only [jm, hs, Bool.false_and, bT, bI, al, ai]
  cases hp : gq p 0 255
  · unfold dx eu oT
    rw [aK (ao (by omega)), aK (ao (by omega))]
    simp only [jm, hs, oc, hp, Bool.and_false, bT, bI, al, ag, ai]
  exact Rr k hk d hb s t hs p hp hl
end
section
set_option maxHeartbeats 4000000
theorem oz {d : List Int} (h : az d) (i : Nat) : az (d.drop i) := fun x hx => h x (List.mem_of_mem_drop hx)
theorem iu : az [] := fun x hx => by cases hx
theorem Ee {f : aR} (h : 0 ≤ lS f) : dN f = true := by
  unfold lS at h
  cases e : dN f
  · rw [e] at h; exact absurd (show (0 : Int) ≤ -1 from h) (by decide)
  · rfl
structure Iy (F : aR × List Int × Int) : Prop where
  o : (fO F.1).length ≤ 1600
  b : (fB F.1).length ≤ 1600
  bb : az (fB F.1)
  p : F.2.1.length ≤ 1600
  c : 0 ≤ F.2.2 ∧ F.2.2 ≤ 6
  k : F.2.2 = 0 → dN F.1 = true
theorem nP (c : Int) (h : 1 ≤ c ∧ c ≤ 6) : Iy (ra, [], c) :=
  ⟨Nat.zero_le _, Nat.zero_le _, iu, Nat.zero_le _, ⟨by have := h.1; show 0 ≤ c; omega, h.2⟩, fun e => by have : c = 0 := e; omega⟩
theorem Nh (d : List Int) (hb : az d) : Iy (lB d) := by
  unfold lB
  by_cases h1 : 1600 < d.length
  · rw [aw (ae h1)]; exact nP 1 (by omega)
  rw [aK (ao h1)]
  by_cases h2 : d.length < 20
  · rw [aw (ae h2)]; exact nP 2 (by omega)
  rw [aK (ao h2)]
  by_cases h3 : b0 d / 16 = 4
  case neg => rw [aK (ao h3)]; exact nP 3 (by omega)
  rw [aw (ae h3)]
  cases (decide (nN d < 20) || decide (d.length < nN d))
  case true => exact nP 4 (by omega)
  cases (decide (iJ d < nN d) || (decide (1500 < iJ d) || decide (d.length < iJ d)))
  case true => exact nP 5 (by omega)
  simp only [al]
  by_cases h6 : df ((d.drop 10).take 2) = lS (D0 d (nN d) (iJ d))
  case neg => rw [aK (ao h6)]; exact nP 6 (by omega)
  rw [aw (ae h6)]
  have l1 : ((d.drop 20).take (nN d - 20)).length ≤ 1600 := by rw [List.length_take, List.length_drop]; omega
  have l2 : ((d.drop (nN d)).take (iJ d - nN d)).length ≤ 1600 := by rw [List.length_take, List.length_drop]; omega
  have l3 : (d.drop (iJ d)).length ≤ 1600 := by rw [List.length_drop]; omega
  exact ⟨l1, l2, ey hb _ _, l3, ⟨Int.le_refl 0, show (0 : Int) ≤ 6 by decide⟩, fun _ => Ee (by rw [← h6]; exact (iU hb 10).1)⟩
def rz (l : List aB) : Prop := l.length ≤ 3 ∧ ∀ e ∈ l, e.2.1.length ≤ 1600
theorem Ef : ∀ (n : Nat) (kind : Int) (l : List Int) (out : List aB) {o : List aB} {kd : Int} {r : List Int}, l.length ≤ 1600 → rz out → extsP n kind l out = some (o, kd, r) → rz o
  | 0, kind, l, out, o, kd, r, hl, hw, h => by simp [extsP] at h
  | n + 1, kind, l, out, o, kd, r, hl, hw, h => by
    unfold extsP at h
    cases h1 : vh kind
    · rw [h1] at h
      simp only [al, af, aG] at h
      rw [← h.1]; exact hw
    · rw [h1] at h
      simp only [ag] at h
      cases h2 : od kind l out
      · rw [h2] at h
        simp only [al] at h
        refine Ef n _ _ _ (by rw [List.length_drop]; omega) ?_ h
        unfold od at h2
        simp only [Bool.or_eq_false_iff, decide_eq_false_iff_not] at h2
        refine ⟨by have := h2.1; have := hw.1; unfold Iw; simp; omega, fun e he => ?_⟩
        unfold Iw at he
        rcases List.mem_append.1 he with he | he
        · exact hw.2 e he
        · rw [List.mem_singleton.1 he]
          show ((l.drop 2).take (xT l - 2)).length ≤ 1600
          rw [List.length_take, List.length_drop]; omega
      · rw [h2] at h; simp at h
abbrev sE (s : bc) : List aB := s.2.2.2.2.2.2.1
abbrev sB (s : bc) : List Int := s.2.2.2.2.2.2.2.1
structure Ni (S : bc × List Int × Int) : Prop where
  e : rz (sE S.1)
  b : (sB S.1).length ≤ 1600
  bb : az (sB S.1)
  p : S.2.1.length ≤ 1600
  c : 0 ≤ S.2.2 ∧ S.2.2 ≤ 6
theorem zi : rz [] := ⟨Nat.zero_le _, fun e he => by cases he⟩
theorem rL (c : Int) (h : 1 ≤ c ∧ c ≤ 6) : Ni (kQ, [], c) :=
  ⟨zi, Nat.zero_le _, iu, Nat.zero_le _, ⟨by have := h.1; show 0 ≤ c; omega, h.2⟩⟩
theorem P5 (d : List Int) (hb : az d) : Ni (sixRd d) := by
  unfold sixRd
  by_cases h1 : 1600 < d.length
  · rw [aw (ae h1)]; exact rL 1 (by omega)
  rw [aK (ao h1)]
  by_cases h2 : d.length < 40
  · rw [aw (ae h2)]; exact rL 2 (by omega)
  rw [aK (ao h2)]
  by_cases h3 : b0 d / 16 = 6
  case neg => rw [aK (ao h3)]; exact rL 3 (by omega)
  rw [aw (ae h3)]
  cases (decide (1500 < gK d) || decide (d.length < gK d))
  case true => exact rL 4 (by omega)
  simp only [al]
  have hl : ((d.drop 40).take (gK d - 40)).length ≤ 1600 := by rw [List.length_take, List.length_drop]; omega
  cases he : extsP 4 (d.getD 6 0) ((d.drop 40).take (gK d - 40)) []
  · exact rL 5 (by omega)
  · rename_i v
    obtain ⟨o, kd, r⟩ := v
    obtain ⟨j, hj⟩ := uG 4 _ _ _ he
    have l3 : (d.drop (gK d)).length ≤ 1600 := by rw [List.length_drop]; omega
    refine ⟨Ef 4 _ _ _ hl zi he, ?_, ?_, l3, ⟨Int.le_refl 0, show (0 : Int) ≤ 6 by decide⟩⟩
    · show r.length ≤ 1600
      rw [hj, List.length_drop]; omega
    · show az r
      rw [hj]; exact oz (ey hb _ _) j
structure RN (U : aF × Int) : Prop where
  o : U.1.2.2.2.2.2.2.2.2.2.2.2.2.1.length ≤ 1600
  b : U.1.2.2.2.2.2.2.2.2.2.2.2.2.2.1.length ≤ 1600
  c : 0 ≤ U.2 ∧ U.2 ≤ 6
structure Nj (E : bH × Int) : Prop where
  bb : az E.1.2.2.2.2.1
  c : 0 ≤ E.2 ∧ E.2 ≤ 6
theorem rM (c : Int) (h : 0 ≤ c ∧ c ≤ 6) : Nj (vw, c) := ⟨iu, h⟩
theorem P6 (d : List Int) (hb : az d) : Nj (fE d) := by
  unfold fE
  have z0 : (0 : Int) ≤ 0 ∧ (0 : Int) ≤ 6 := by omega
  cases decide (1600 < d.length)
  · cases decide (d.length < 14)
    · cases decide (df ((d.drop 12).take 2) = 33024)
      · cases decide (1536 ≤ df ((d.drop 12).take 2))
        · exact rM 4 (by omega)
        · exact ⟨oz hb 14, z0⟩
      · cases decide (d.length < 18)
        · cases (decide (1536 ≤ df ((d.drop 16).take 2)) && !decide (df ((d.drop 16).take 2) = 33024))
          · exact rM 4 (by omega)
          · exact ⟨oz hb 18, z0⟩
        · exact rM 3 (by omega)
    · exact rM 2 (by omega)
  · exact rM 1 (by omega)
end
section
set_option maxHeartbeats 4000000
abbrev P7 (e : bH) : bH := (e.1, e.2.1, e.2.2.1, e.2.2.2.1, [], ())
abbrev Qx (f : aR) : aR := (f.1, f.2.1, f.2.2.1, f.2.2.2.1, f.2.2.2.2.1, f.2.2.2.2.2.1, f.2.2.2.2.2.2.1, f.2.2.2.2.2.2.2.1, f.2.2.2.2.2.2.2.2.1, f.2.2.2.2.2.2.2.2.2.1, [], ())
abbrev P8 (s : bc) : bc := (s.1, s.2.1, s.2.2.1, s.2.2.2.1, s.2.2.2.2.1, s.2.2.2.2.2.1, s.2.2.2.2.2.2.1, [], ())
def Nk (F : aR × List Int × Int) : aF × Int := oT (fB F.1) F.1.2.2.2.2.2.2.1 F.1.2.2.2.2.2.2.2.1 F.1.2.2.2.2.2.2.2.2.1
def Nl (S : bc × List Int × Int) : aF × Int := oT (sB S.1) S.1.2.2.2.1 S.1.2.2.2.2.1 S.1.2.2.2.2.2.1
def P9 (e : bH) (F : aR × List Int × Int) : aj × Int :=
  bif decide (F.2.2 = 0) then (bif jB F.1 then ((4, P7 e, Qx F.1, kQ, (0, 0, 0, 0, 0, 0, 0, 0, 0, 0, 0, false, [], F.1.2.2.2.2.2.2.2.2.2.2), F.2.1, ()), 0) else
    bif decide ((Nk F).2 = 0) then ((4, P7 e, Qx F.1, kQ, (Nk F).1, F.2.1, ()), 0) else (oK, Wr .i64 (40 + (Nk F).2)))
  else (oK, Wr .i64 (20 + F.2.2))
def Qa (e : bH) (S : bc × List Int × Int) : aj × Int :=
  bif decide (S.2.2 = 0) then (bif decide ((Nl S).2 = 0) then ((6, P7 e, ra, P8 S.1, (Nl S).1, S.2.1, ()), 0) else (oK, Wr .i64 (40 + (Nl S).2)))
  else (oK, Wr .i64 (30 + S.2.2))
def tj (d : List Int) : aj × Int :=
  bif decide ((fE d).2 = 0) then (bif decide ((fE d).1.2.2.2.1 = 2048) then P9 (fE d).1 (lB (fE d).1.2.2.2.2.1) else
    bif decide ((fE d).1.2.2.2.1 = 34525) then Qa (fE d).1 (sixRd (fE d).1.2.2.2.2.1) else (oK, 50))
  else (oK, Wr .i64 (10 + (fE d).2))
theorem Rs (b : Bool) {α : Type} (x y : α) : (bif (!b) then x else y) = bif b then y else x := by cases b <;> rfl
theorem Qb (e : bH) (f : aR) (s : bc) (u : aF) (p : List Int × Unit) : bJ (4, e, f, s, u, p) = some ((f.2.2.2.2.2.2.2.1, ()), ()) := rfl
theorem Qc (e : bH) (f : aR) (s : bc) (u : aF) (p : List Int × Unit) : bK (4, e, f, s, u, p) = some ((f.2.2.2.2.2.2.2.2.1, ()), ()) := rfl
theorem Qd (e : bH) (f : aR) (s : bc) (u : aF) (p : List Int × Unit) : bJ (6, e, f, s, u, p) = some ((s.2.2.2.2.1, ()), ()) := rfl
theorem Qe (e : bH) (f : aR) (s : bc) (u : aF) (p : List Int × Unit) : bK (6, e, f, s, u, p) = some ((s.2.2.2.2.2.1, ()), ()) := rfl
theorem PO (k : Nat) (hk : MM < k) (d : List Int) (hb : az d) : iM k d = some (((tj d).1, (tj d).2, ()), ()) := by
  have hE := P6 d hb
  unfold iM tj
  rw [Js k hk d hb]
  generalize fE d = E at *
  simp only [ai, Rs]
  by_cases h0 : E.2 = 0
  case neg => simp only [ao h0, al]
  simp only [ae h0, ag]
  by_cases h4 : E.1.2.2.2.1 = 2048
  · simp only [ae h4, ag, Gs k hk _ hE.bb, ai]
    have hF := Nh _ hE.bb
    unfold P9 Nk
    generalize lB E.1.2.2.2.2.1 = F at *
    by_cases h1 : F.2.2 = 0
    · have hp := xR F.1 (Nat.le_trans hF.o (by decide)) (Nat.le_trans hF.b (by decide))
      simp only [ae h1, ag, hp, ai, Qb, Qc, Ed k hk _ hF.bb]
      cases jB F.1
      · simp only [al]
        generalize oT (fB F.1) F.1.2.2.2.2.2.2.1 F.1.2.2.2.2.2.2.2.1 F.1.2.2.2.2.2.2.2.2.1 = U
        by_cases h2 : U.2 = 0
        · simp only [ae h2, ag]
        · simp only [ao h2, al]
      · rfl
    · simp only [ao h1, al]
  by_cases h6 : E.1.2.2.2.1 = 34525
  · simp only [ao h4, ae h6, ag, al, Jx k hk _ hE.bb, ai]
    have hF := P5 _ hE.bb
    unfold Qa Nl
    generalize sixRd E.1.2.2.2.2.1 = F at *
    by_cases h1 : F.2.2 = 0
    · simp only [ae h1, ag, ai, Qd, Qe, Ed k hk _ hF.bb]
      generalize oT (sB F.1) F.1.2.2.2.1 F.1.2.2.2.2.1 F.1.2.2.2.2.2.1 = U
      by_cases h2 : U.2 = 0
      · simp only [ae h2, ag]; try rfl
      · simp only [ao h2, al]
    · simp only [ao h1, al]
  · simp only [ao h4, ao h6, al]
end
end Go.Tw
