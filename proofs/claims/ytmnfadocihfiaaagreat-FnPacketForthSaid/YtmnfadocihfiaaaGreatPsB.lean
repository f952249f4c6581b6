/- Facts on mirrors. -/
import Derived.Test.YtmnfadocihfiaaaGreatPsA
import Derived.Test.YtmnfadocihfiaaaGreatPq9
set_option linter.all false
set_option maxRecDepth 100000
set_option maxHeartbeats 4000000
namespace Go.Tw
open Go Go.RowKit
theorem four_ob {d : List Int} (hb : bytesP d) : bytesP (fO (fourRd d).1) := by
  unfold fourRd
  cases decide (1600 < d.length)
  · cases decide (d.length < 20)
    · cases decide (b0 d / 16 = 4)
      · exact nil_bytes
      · cases (decide (fhl d < 20) || decide (d.length < fhl d))
        · cases (decide (ftot d < fhl d) || (decide (1500 < ftot d) || decide (d.length < ftot d)))
          · simp only [cond_true, cond_false]
            cases decide (beB ((d.drop 10).take 2) = hsum (fOf d (fhl d) (ftot d)))
            · exact nil_bytes
            · exact fOf_bytes hb _ _
          · exact nil_bytes
        · exact nil_bytes
    · exact nil_bytes
  · exact nil_bytes
theorem up_ob {d : List Int} (hb : bytesP d) (p : Int) (s t : D_Addr) : bytesP (uO (upRd d p s t).1) ∧ bytesP (uB (upRd d p s t).1) := by
  have zz : bytesP (uO zzU) ∧ bytesP (uB zzU) := ⟨nil_bytes, nil_bytes⟩
  unfold upRd
  cases decide (1500 < d.length)
  case true => exact zz
  cases (bothB s t && inB p 0 255)
  case false => exact zz
  simp only [cond_true, cond_false]
  cases decide (kindP p s.1 = 1)
  · cases decide (kindP p s.1 = 2)
    · cases decide (kindP p s.1 = 3)
      · exact ⟨nil_bytes, hb⟩
      · simp only [cond_true, cond_false]
        unfold rdIc
        cases decide (d.length < 8)
        · simp only [cond_false]
          cases decide (w2 d 2 = sId d s t)
          · exact zz
          · exact ⟨nil_bytes, drop_bytes hb 8⟩
        · exact zz
    · simp only [cond_true, cond_false]
      unfold rdU
      cases decide (d.length < 8)
      · simp only [cond_false]
        cases decide (w2 d 4 = ((d.length : Nat) : Int))
        · exact zz
        · simp only [cond_true]
          cases decide (w2 d 6 = sUd d s t (nsd d s))
          · exact zz
          · exact ⟨nil_bytes, drop_bytes hb 8⟩
      · exact zz
  · simp only [cond_true]
    unfold rdT
    cases decide (d.length < 20)
    · cases decide (hT d < 20)
      · cases decide (d.length < hT d)
        · simp only [cond_false]
          cases decide (w2 d 16 = sTd d s t (hT d))
          · exact zz
          · exact ⟨sub_bytes hb _ _, drop_bytes hb _⟩
        · exact zz
      · exact zz
    · exact zz
theorem zzP_pb : PB zzP := ⟨Nat.zero_le _, nil_bytes, Nat.zero_le _, (fun x hx => (List.not_mem_nil hx).elim), Nat.zero_le _, nil_bytes, Nat.zero_le _, nil_bytes, Nat.zero_le _⟩
theorem pkt_pb {d : List Int} (hb : bytesP d) : PB (pktRd d).1 := by
  have hE := ethA d hb
  have up : ∀ {n : Nat}, n ≤ 1600 → n ≤ 1048576 := fun h => Nat.le_trans h (by decide)
  unfold pktRd
  generalize etherRd d = E at *
  cases decide (E.2 = 0)
  case false => exact zzP_pb
  cases decide (E.1.2.2.2.1 = 2048)
  · cases decide (E.1.2.2.2.1 = 34525)
    case false => exact zzP_pb
    simp only [cond_true, cond_false]
    unfold pk6 up6
    have hA := sixA _ hE.bb
    generalize sixRd E.1.2.2.2.2.1 = S at *
    cases decide (S.2.2 = 0)
    case false => exact zzP_pb
    have hU := upA (sB S.1) S.1.2.2.2.1 S.1.2.2.2.2.1 S.1.2.2.2.2.2.1
    have hO := up_ob hA.bb S.1.2.2.2.1 S.1.2.2.2.2.1 S.1.2.2.2.2.2.1
    generalize upRd (sB S.1) S.1.2.2.2.1 S.1.2.2.2.2.1 S.1.2.2.2.2.2.1 = U at *
    cases decide (U.2 = 0)
    case false => exact zzP_pb
    exact ⟨Nat.zero_le _, nil_bytes, Nat.le_trans hA.e.1 (by decide), (fun x hx => up (hA.e.2 x hx)), up hU.o, hO.1, up hU.b, hO.2, up hA.p⟩
  · simp only [cond_true]
    unfold pk4 up4
    have hA := fourA _ hE.bb
    have hO4 := four_ob hE.bb
    generalize fourRd E.1.2.2.2.2.1 = F at *
    cases decide (F.2.2 = 0)
    case false => exact zzP_pb
    simp only [cond_true]
    cases pieceB F.1
    · simp only [cond_false]
      have hU := upA (fB F.1) F.1.2.2.2.2.2.2.1 F.1.2.2.2.2.2.2.2.1 F.1.2.2.2.2.2.2.2.2.1
      have hO := up_ob hA.bb F.1.2.2.2.2.2.2.1 F.1.2.2.2.2.2.2.2.1 F.1.2.2.2.2.2.2.2.2.1
      generalize upRd (fB F.1) F.1.2.2.2.2.2.2.1 F.1.2.2.2.2.2.2.2.1 F.1.2.2.2.2.2.2.2.2.1 = U at *
      cases decide (U.2 = 0)
      case false => exact zzP_pb
      exact ⟨up hA.o, hO4, Nat.zero_le _, (fun x hx => (List.not_mem_nil hx).elim), up hU.o, hO.1, up hU.b, hO.2, up hA.p⟩
    · exact ⟨up hA.o, hO4, Nat.zero_le _, (fun x hx => (List.not_mem_nil hx).elim), Nat.zero_le _, nil_bytes, up hA.b, hA.bb, up hA.p⟩
theorem wne {c : Int} (a : Int) (ha : 1 ≤ a ∧ a ≤ 100) (h : 0 ≤ c ∧ c ≤ 6) : IntKind.wrap .i64 (a + c) ≠ 0 := by
  rw [w64 (n := a + c) (by omega)]; omega
theorem four_ends {f : D_Four} (h : fourB f = true) : bothB f.2.2.2.2.2.2.2.1 f.2.2.2.2.2.2.2.2.1 = true ∧ f.2.2.2.2.2.2.2.1.1 = 4 ∧ (fB f).length ≤ 1500 := by
  have r := four_rng h
  unfold fourB ofB at h
  simp only [Bool.and_eq_true, inB_iff, decide_eq_true_eq] at h
  obtain ⟨_, _, _, _, _, _, _, ⟨a1, a2⟩, ⟨a3, a4⟩, _⟩ := h
  refine ⟨?_, a2, r.2.2.2.2.2.2.2.2⟩
  unfold bothB
  rw [a1, a3, a2, a4]; rfl
theorem six_ends {s : D_Six} (h : sixB s = true) : s.2.2.2.2.1.1 = 6 := by
  unfold sixB ofB at h
  simp only [Bool.and_eq_true, inB_iff, decide_eq_true_eq] at h
  obtain ⟨_, _, _, _, _, ⟨_, a⟩, _⟩ := h
  exact a
theorem pk_back {d : List Int} (hb : bytesP d) (h : (pktRd d).2 = 0) : pkGood (pktRd d).1 = true ∧ pkBy (pktRd d).1 = d := by
  have hE := ethA d hb
  have hB := eth_back hb
  unfold pktRd at h ⊢
  generalize etherRd d = E at *
  by_cases h0 : E.2 = 0
  case neg =>
    rw [bif_f (decide_eq_false h0)] at h
    exact absurd h (wne 10 (by omega) hE.c)
  rw [bif_t (decide_eq_true h0)] at h ⊢
  obtain ⟨ok, bk⟩ := hB h0
  have d44 : decide ((4 : Int) = 4) = true := rfl
  have d64 : decide ((6 : Int) = 4) = false := rfl
  have d66 : decide ((6 : Int) = 6) = true := rfl
  by_cases h4 : E.1.2.2.2.1 = 2048
  · rw [bif_t (decide_eq_true h4)] at h ⊢
    have hA := fourA _ hE.bb
    have hF := four_back hE.bb
    unfold pk4 at h ⊢
    generalize hg : fourRd E.1.2.2.2.2.1 = F at *
    by_cases h1 : F.2.2 = 0
    case neg =>
      rw [bif_f (decide_eq_false h1)] at h
      exact absurd h (wne 20 (by omega) hA.c)
    rw [bif_t (decide_eq_true h1)] at h ⊢
    obtain ⟨fk, fb⟩ := hF h1
    obtain ⟨bo, k4, l15⟩ := four_ends fk
    cases hp : pieceB F.1
    · rw [hp] at h
      simp only [cond_false] at h ⊢
      by_cases h2 : (up4 F).2 = 0
      case neg =>
        rw [bif_f (decide_eq_false h2)] at h
        exact absurd h (wne 40 (by omega) (upA _ _ _ _).c)
      rw [bif_t (decide_eq_true h2)]
      obtain ⟨u1, u2, u3⟩ := upper_back hA.bb F.1.2.2.2.2.2.2.1 F.1.2.2.2.2.2.2.2.1 F.1.2.2.2.2.2.2.2.2.1 h2
      have e : by4 (4, mkE E.1, mkF F.1, zzS, (up4 F).1, F.2.1, ()) = fB F.1 := u2
      have ee : e4 (4, mkE E.1, mkF F.1, zzS, (up4 F).1, F.2.1, ()) = E.1 := by
        unfold e4
        rw [e]
        show wE E.1 (fBy F.1 ++ F.2.1) = E.1
        rw [fb]
      have i4 : in4 (4, mkE E.1, mkF F.1, zzS, (up4 F).1, F.2.1, ()) = true := by
        unfold in4
        rw [e]
        show (upGood (up4 F).1 F.1.2.2.2.2.2.2.2.1 F.1.2.2.2.2.2.2.2.2.1 && (fourB F.1 && decide ((up4 F).1.1 = bif pieceB F.1 then 0 else kindG F.1.2.2.2.2.2.2.1 4))) = true
        rw [show upGood (up4 F).1 F.1.2.2.2.2.2.2.2.1 F.1.2.2.2.2.2.2.2.2.1 = true from u1, fk, hp, show (up4 F).1.1 = kindG F.1.2.2.2.2.2.2.1 F.1.2.2.2.2.2.2.2.1.1 from u3, k4]
        simp
      have g : pkGood (4, mkE E.1, mkF F.1, zzS, (up4 F).1, F.2.1, ()) = true := by
        unfold pkGood ok4
        rw [i4, ee, ok]
        show (true && (true && (decide (E.1.2.2.2.1 = 2048) && (true && true)))) = true
        rw [decide_eq_true h4]; rfl
      refine ⟨g, ?_⟩
      unfold pkBy pkE
      rw [g, d44, ee]
      exact bk
    · simp only [cond_true]
      have u2 : upB (upO (fB F.1)) 4 = true := upB_of (k := 1048577) (by decide) (Nat.zero_le _) (Nat.le_trans l15 (by decide)) (okO (b := fB F.1) 1048577 (by decide) l15 (.inl rfl)).1
      have u1 : upGood (upO (fB F.1)) F.1.2.2.2.2.2.2.2.1 F.1.2.2.2.2.2.2.2.2.1 = true := by unfold upGood; rw [bo, k4, u2]; rfl
      have e : by4 (4, mkE E.1, mkF F.1, zzS, upO (fB F.1), F.2.1, ()) = fB F.1 := by
        show upBy (upO (fB F.1)) F.1.2.2.2.2.2.2.2.1 F.1.2.2.2.2.2.2.2.2.1 = fB F.1
        unfold upBy; rw [u1]; rfl
      have ee : e4 (4, mkE E.1, mkF F.1, zzS, upO (fB F.1), F.2.1, ()) = E.1 := by
        unfold e4
        rw [e]
        show wE E.1 (fBy F.1 ++ F.2.1) = E.1
        rw [fb]
      have i4 : in4 (4, mkE E.1, mkF F.1, zzS, upO (fB F.1), F.2.1, ()) = true := by
        unfold in4
        rw [e]
        show (upGood (upO (fB F.1)) F.1.2.2.2.2.2.2.2.1 F.1.2.2.2.2.2.2.2.2.1 && (fourB F.1 && decide ((0 : Int) = bif pieceB F.1 then 0 else kindG F.1.2.2.2.2.2.2.1 4))) = true
        rw [u1, fk, hp]; rfl
      have g : pkGood (4, mkE E.1, mkF F.1, zzS, upO (fB F.1), F.2.1, ()) = true := by
        unfold pkGood ok4
        rw [i4, ee, ok]
        show (true && (true && (decide (E.1.2.2.2.1 = 2048) && (true && true)))) = true
        rw [decide_eq_true h4]; rfl
      refine ⟨g, ?_⟩
      show pkBy (4, mkE E.1, mkF F.1, zzS, upO (fB F.1), F.2.1, ()) = d
      unfold pkBy pkE
      rw [g, d44, ee]
      exact bk
  rw [bif_f (decide_eq_false h4)] at h ⊢
  by_cases h6 : E.1.2.2.2.1 = 34525
  case neg => rw [bif_f (decide_eq_false h6)] at h; cases h
  rw [bif_t (decide_eq_true h6)] at h ⊢
  have hA := sixA _ hE.bb
  have hS := six_back hE.bb
  unfold pk6 at h ⊢
  generalize hg : sixRd E.1.2.2.2.2.1 = S at *
  by_cases h1 : S.2.2 = 0
  case neg =>
    rw [bif_f (decide_eq_false h1)] at h
    exact absurd h (wne 30 (by omega) hA.c)
  rw [bif_t (decide_eq_true h1)] at h ⊢
  obtain ⟨sk, sb⟩ := hS h1
  have k6 := six_ends sk
  by_cases h2 : (up6 S).2 = 0
  case neg =>
    rw [bif_f (decide_eq_false h2)] at h
    exact absurd h (wne 40 (by omega) (upA _ _ _ _).c)
  rw [bif_t (decide_eq_true h2)]
  obtain ⟨u1, u2, u3⟩ := upper_back hA.bb S.1.2.2.2.1 S.1.2.2.2.2.1 S.1.2.2.2.2.2.1 h2
  have e : by6 (6, mkE E.1, zzF, mkSx S.1, (up6 S).1, S.2.1, ()) = sB S.1 := u2
  have ee : e6 (6, mkE E.1, zzF, mkSx S.1, (up6 S).1, S.2.1, ()) = E.1 := by
    unfold e6
    rw [e]
    show wE E.1 (sixBy S.1 ++ S.2.1) = E.1
    rw [sb]
  have i6 : in6 (6, mkE E.1, zzF, mkSx S.1, (up6 S).1, S.2.1, ()) = true := by
    unfold in6
    rw [e]
    show (upGood (up6 S).1 S.1.2.2.2.2.1 S.1.2.2.2.2.2.1 && (sixB S.1 && decide ((up6 S).1.1 = kindG S.1.2.2.2.1 6))) = true
    rw [show upGood (up6 S).1 S.1.2.2.2.2.1 S.1.2.2.2.2.2.1 = true from u1, sk, show (up6 S).1.1 = kindG S.1.2.2.2.1 S.1.2.2.2.2.1.1 from u3, k6]
    simp
  have g : pkGood (6, mkE E.1, zzF, mkSx S.1, (up6 S).1, S.2.1, ()) = true := by
    unfold pkGood ok6
    rw [i6, ee, ok]
    show (true && (true && (decide (E.1.2.2.2.1 = 34525) && (true && true)))) = true
    rw [decide_eq_true h6]; rfl
  refine ⟨g, ?_⟩
  unfold pkBy pkE
  rw [g, d64, ee]
  exact bk
end Go.Tw
