/- Plain facts on the mirrors of the functions are proved here. -/
import Derived.Test.YtmnfadocihfiaaaGreatPqA
set_option linter.all false
set_option maxRecDepth 100000
set_option maxHeartbeats 8000000
namespace Go.Tw
open Go Go.RowKit
structure PW (P : D_Packet) : Prop where
  a1 : P.2.1.2.2.2.2.1.length ≤ 1600
  a2 : (fO P.2.2.1).length ≤ 1600
  a3 : (fB P.2.2.1).length ≤ 1600
  a4 : extsW (sE P.2.2.2.1)
  a5 : (sB P.2.2.2.1).length ≤ 1600
  a6 : P.2.2.2.2.1.2.2.2.2.2.2.2.2.2.2.2.2.1.length ≤ 1600
  a7 : P.2.2.2.2.1.2.2.2.2.2.2.2.2.2.2.2.2.2.1.length ≤ 1600
  a8 : P.2.2.2.2.2.1.length ≤ 1600
theorem pw_zz : PW zzP := ⟨Nat.zero_le _, Nat.zero_le _, Nat.zero_le _, nil_w, Nat.zero_le _, Nat.zero_le _, Nat.zero_le _, Nat.zero_le _⟩
theorem pktW (d : List Int) (hb : bytesP d) : PW (pktRd d).1 := by
  have hE := ethA d hb
  unfold pktRd
  generalize etherRd d = E at *
  cases decide (E.2 = 0)
  · exact pw_zz
  simp only [cond_true]
  cases decide (E.1.2.2.2.1 = 2048)
  · cases decide (E.1.2.2.2.1 = 34525)
    · exact pw_zz
    · simp only [cond_true, cond_false]
      have hF := sixA _ hE.bb
      unfold pk6 up6
      generalize sixRd E.1.2.2.2.2.1 = S at *
      cases decide (S.2.2 = 0)
      · exact pw_zz
      simp only [cond_true]
      have hU := upA (sB S.1) S.1.2.2.2.1 S.1.2.2.2.2.1 S.1.2.2.2.2.2.1
      generalize upRd (sB S.1) S.1.2.2.2.1 S.1.2.2.2.2.1 S.1.2.2.2.2.2.1 = U at *
      cases decide (U.2 = 0)
      · exact pw_zz
      exact ⟨Nat.zero_le _, Nat.zero_le _, Nat.zero_le _, hF.e, Nat.zero_le _, hU.o, hU.b, hF.p⟩
  · simp only [cond_true]
    have hF := fourA _ hE.bb
    unfold pk4 up4
    generalize fourRd E.1.2.2.2.2.1 = F at *
    cases decide (F.2.2 = 0)
    · exact pw_zz
    simp only [cond_true]
    cases pieceB F.1
    · simp only [cond_false]
      have hU := upA (fB F.1) F.1.2.2.2.2.2.2.1 F.1.2.2.2.2.2.2.2.1 F.1.2.2.2.2.2.2.2.2.1
      generalize upRd (fB F.1) F.1.2.2.2.2.2.2.1 F.1.2.2.2.2.2.2.2.1 F.1.2.2.2.2.2.2.2.2.1 = U at *
      cases decide (U.2 = 0)
      · exact pw_zz
      exact ⟨Nat.zero_le _, hF.o, Nat.zero_le _, nil_w, Nat.zero_le _, hU.o, hU.b, hF.p⟩
    · exact ⟨Nat.zero_le _, hF.o, Nat.zero_le _, nil_w, Nat.zero_le _, Nat.zero_le _, hF.b, hF.p⟩
theorem bd_by {l : List Int} (h : l.length ≤ 1600) : Bd (.sl (.int .u8)) l := by
  have hM : MM = 1048576 := rfl
  exact ⟨show ((l.length : Nat) : Int) ≤ MM by omega, fun _ _ => trivial⟩
theorem bd_pkt {P : D_Packet} (h : PW P) : Bd T_Packet P := by
  have hM : MM = 1048576 := rfl
  have hx : Bd (.sl T_Ext) (sE P.2.2.2.1) := ⟨show (((sE P.2.2.2.1).length : Nat) : Int) ≤ MM by have := h.a4.1; omega, fun e he => ⟨trivial, bd_by (h.a4.2 e he), trivial⟩⟩
  exact ⟨trivial, ⟨trivial, trivial, trivial, trivial, bd_by h.a1, trivial⟩, ⟨trivial, trivial, trivial, trivial, trivial, trivial, trivial, ⟨trivial, trivial, trivial, trivial, trivial, trivial⟩, ⟨trivial, trivial, trivial, trivial, trivial, trivial⟩, bd_by h.a2, bd_by h.a3, trivial⟩, ⟨trivial, trivial, trivial, trivial, ⟨trivial, trivial, trivial, trivial, trivial, trivial⟩, ⟨trivial, trivial, trivial, trivial, trivial, trivial⟩, hx, bd_by h.a5, trivial⟩, ⟨trivial, trivial, trivial, trivial, trivial, trivial, trivial, trivial, trivial, trivial, trivial, trivial, bd_by h.a6, bd_by h.a7, trivial⟩, bd_by h.a8, trivial⟩
theorem heldPk (k : Nat) (hk : MM < k) (v e1 e2 e3 e4 f1 f2 f3 f4 f5 f6 f7 s1 s2 s3 s4 u1 u2 u3 u4 u5 u6 u7 u8 u9 u10 u11 : Int) (fa fb sa sb : D_Addr) (ub : Bool) (X : List D_Ext) (hX : extsW X) (n1 n2 n3 n5 n6 n7 n8 : Nat) (h1 : n1 ≤ 1600) (h2 : n2 ≤ 1600) (h3 : n3 ≤ 1600) (h5 : n5 ≤ 1600) (h6 : n6 ≤ 1600) (h7 : n7 ≤ 1600) (h8 : n8 ≤ 1600) (c1 c2 c3 c4 c5 c6 c7 c8 : Int)
    (g1 : c1 = 1 + (n1 : Int)) (g2 : c2 = c1 + (n2 : Int)) (g3 : c3 = c2 + (n3 : Int)) (g4 : c4 = c3 + ((xc X : Nat) : Int)) (g5 : c5 = c4 + (n5 : Int)) (g6 : c6 = c5 + (n6 : Int)) (g7 : c7 = c6 + (n7 : Int)) (g8 : c8 = c7 + (n8 : Int)) :
    laws_heldPacket k (v, (e1, e2, e3, e4, mB n1 1, ()), (f1, f2, f3, f4, f5, f6, f7, fa, fb, mB n2 c1, mB n3 c2, ()), (s1, s2, s3, s4, sa, sb, mkX X c3, mB n5 c4, ()), (u1, u2, u3, u4, u5, u6, u7, u8, u9, u10, u11, ub, mB n6 c5, mB n7 c6, ()), mB n8 c7, ()) 1 = some ((c8, ()), ()) := by
  have hx := xc_le X 3 hX.1 hX.2
  have r1 := heldByte_eq k hk n1 (by omega) 1 (by omega) (by omega)
  have r2 := heldByte_eq k hk n2 (by omega) c1 (by omega) (by omega)
  have r3 := heldByte_eq k hk n3 (by omega) c2 (by omega) (by omega)
  have r4 := heldX_eq k hk X hX.1 hX.2 c3 (by omega) (by omega)
  have r5 := heldByte_eq k hk n5 (by omega) c4 (by omega) (by omega)
  have r6 := heldByte_eq k hk n6 (by omega) c5 (by omega) (by omega)
  have r7 := heldByte_eq k hk n7 (by omega) c6 (by omega) (by omega)
  have r8 := heldByte_eq k hk n8 (by omega) c7 (by omega) (by omega)
  rw [← g1] at r1
  rw [← g2] at r2
  rw [← g3] at r3
  rw [← g4] at r4
  rw [← g5] at r5
  rw [← g6] at r6
  rw [← g7] at r7
  rw [← g8] at r8
  have d1 : decide (c1 < 0) = false := decide_eq_false (by omega)
  have d2 : decide (c2 < 0) = false := decide_eq_false (by omega)
  have d3 : decide (c3 < 0) = false := decide_eq_false (by omega)
  have d4 : decide (c4 < 0) = false := decide_eq_false (by omega)
  have d5 : decide (c5 < 0) = false := decide_eq_false (by omega)
  have d6 : decide (c6 < 0) = false := decide_eq_false (by omega)
  have d7 : decide (c7 < 0) = false := decide_eq_false (by omega)
  have d8 : decide (c8 < 0) = false := decide_eq_false (by omega)
  unfold laws_heldPacket laws_heldEther laws_heldFour laws_heldSix laws_heldUpper
  simp only [r1, r2, r3, r4, r5, r6, r7, r8, d1, d2, d3, d4, d5, d6, d7, d8, cond_false, Option.bind_some]
theorem wf_by {x : List Int} (h : WF (.sl (.int .u8)) x) : bytesP x := fun b hb => by
  have q := h.2 b hb
  simpa [WF, inR, IntKind.min, IntKind.max, IntKind.signed, IntKind.bits] using q
theorem law_FnExactPacketRead (x : List Int) (h0 : WF (.sl (.int .u8)) x) : ∃ k y, laws_FnExactPacketRead k x = some ((true, ()), y) := by
  have hk : MM < (1048577 : Nat) := by decide
  refine ⟨1048577, (), ?_⟩
  revert hk
  generalize (1048577 : Nat) = k
  intro hk
  have hM : MM = 1048576 := rfl
  unfold laws_FnExactPacketRead
  by_cases hx : x.length ≤ 1048576
  case neg => rw [bif_t (decide_eq_true (by omega))]
  rw [bif_f (decide_eq_false (by omega))]
  have hb := wf_by h0
  have bx : Bd (.sl (.int .u8)) x := ⟨show ((x.length : Nat) : Int) ≤ MM by omega, fun _ _ => trivial⟩
  have W := pktW x hb
  have q1 := laws_toByteS_ok k hk x bx
  have q2 := laws_eqByteS_ok k hk x bx
  have q3 := laws_eqPacket_ok k hk (pktRd x).1 (bd_pkt W)
  have q4 := markByte_eq k hk x hx 1 (by omega) (by omega)
  have n4 : decide (1 + ((x.length : Nat) : Int) < 0) = false := decide_eq_false (by omega)
  simp only [q1, pktS k hk x hb, pktI k hk x hb, q2, q3, q4, n4, decide_true, Option.bind_some, Bool.not_true, Bool.not_false, cond_true, cond_false]
  generalize (pktRd x).1 = P at *
  have hxc := xc_le (sE P.2.2.2.1) 3 W.a4.1 W.a4.2
  obtain ⟨a1, a2, a3, a4, a5, a6, a7, a8⟩ := W
  generalize g1 : (1 : Int) + ((P.2.1.2.2.2.2.1.length : Nat) : Int) = c1
  generalize g2 : c1 + (((fO P.2.2.1).length : Nat) : Int) = c2
  generalize g3 : c2 + (((fB P.2.2.1).length : Nat) : Int) = c3
  generalize g4 : c3 + ((xc (sE P.2.2.2.1) : Nat) : Int) = c4
  generalize g5 : c4 + (((sB P.2.2.2.1).length : Nat) : Int) = c5
  generalize g6 : c5 + ((P.2.2.2.2.1.2.2.2.2.2.2.2.2.2.2.2.2.1.length : Nat) : Int) = c6
  generalize g7 : c6 + ((P.2.2.2.2.1.2.2.2.2.2.2.2.2.2.2.2.2.2.1.length : Nat) : Int) = c7
  generalize g8 : c7 + ((P.2.2.2.2.2.1.length : Nat) : Int) = c8
  have r1 := markByte_eq k hk _ (Nat.le_trans a1 (by decide)) 1 (by omega) (by omega)
  have r2 := markByte_eq k hk _ (Nat.le_trans a2 (by decide)) c1 (by omega) (by omega)
  have r3 := markByte_eq k hk _ (Nat.le_trans a3 (by decide)) c2 (by omega) (by omega)
  have r4 := markX_eq k hk _ a4.1 a4.2 c3 (by omega) (by omega)
  have r5 := markByte_eq k hk _ (Nat.le_trans a5 (by decide)) c4 (by omega) (by omega)
  have r6 := markByte_eq k hk _ (Nat.le_trans a6 (by decide)) c5 (by omega) (by omega)
  have r7 := markByte_eq k hk _ (Nat.le_trans a7 (by decide)) c6 (by omega) (by omega)
  have r8 := markByte_eq k hk _ (Nat.le_trans a8 (by decide)) c7 (by omega) (by omega)
  rw [g1] at r1
  rw [g2] at r2
  rw [g3] at r3
  rw [g4] at r4
  rw [g5] at r5
  rw [g6] at r6
  rw [g7] at r7
  rw [g8] at r8
  have hh := fun v e1 e2 e3 e4 f1 f2 f3 f4 f5 f6 f7 s1 s2 s3 s4 u1 u2 u3 u4 u5 u6 u7 u8 u9 u10 u11 fa fb sa sb ub => heldPk k hk v e1 e2 e3 e4 f1 f2 f3 f4 f5 f6 f7 s1 s2 s3 s4 u1 u2 u3 u4 u5 u6 u7 u8 u9 u10 u11 fa fb sa sb ub _ a4 _ _ _ _ _ _ _ a1 a2 a3 a5 a6 a7 a8 c1 c2 c3 c4 c5 c6 c7 c8 g1.symm g2.symm g3.symm g4.symm g5.symm g6.symm g7.symm g8.symm
  have n8 : decide (c8 < 0) = false := decide_eq_false (by omega)
  simp only [r1, r2, r3, r4, r5, r6, r7, r8, hh, n8, decide_true, Option.bind_some, Bool.not_true, Bool.not_false, cond_true, cond_false]
end Go.Tw
