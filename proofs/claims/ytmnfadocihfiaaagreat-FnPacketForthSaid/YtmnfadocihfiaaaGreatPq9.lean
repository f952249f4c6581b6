/- Facts on mirrors. -/
import Derived.Test.YtmnfadocihfiaaaGreatPq8
set_option linter.all false
set_option maxRecDepth 100000
set_option maxHeartbeats 4000000
namespace Go.Tw
open Go Go.RowKit
abbrev mkE (e : D_Ether) : D_Ether := (e.1, e.2.1, e.2.2.1, e.2.2.2.1, [], ())
abbrev mkF (f : D_Four) : D_Four := (f.1, f.2.1, f.2.2.1, f.2.2.2.1, f.2.2.2.2.1, f.2.2.2.2.2.1, f.2.2.2.2.2.2.1, f.2.2.2.2.2.2.2.1, f.2.2.2.2.2.2.2.2.1, f.2.2.2.2.2.2.2.2.2.1, [], ())
abbrev mkSx (s : D_Six) : D_Six := (s.1, s.2.1, s.2.2.1, s.2.2.2.1, s.2.2.2.2.1, s.2.2.2.2.2.1, s.2.2.2.2.2.2.1, [], ())
def up4 (F : D_Four × List Int × Int) : D_Upper × Int := upRd (fB F.1) F.1.2.2.2.2.2.2.1 F.1.2.2.2.2.2.2.2.1 F.1.2.2.2.2.2.2.2.2.1
def up6 (S : D_Six × List Int × Int) : D_Upper × Int := upRd (sB S.1) S.1.2.2.2.1 S.1.2.2.2.2.1 S.1.2.2.2.2.2.1
def pk4 (e : D_Ether) (F : D_Four × List Int × Int) : D_Packet × Int :=
  bif decide (F.2.2 = 0) then (bif pieceB F.1 then ((4, mkE e, mkF F.1, zzS, (0, 0, 0, 0, 0, 0, 0, 0, 0, 0, 0, false, [], F.1.2.2.2.2.2.2.2.2.2.2), F.2.1, ()), 0) else
    bif decide ((up4 F).2 = 0) then ((4, mkE e, mkF F.1, zzS, (up4 F).1, F.2.1, ()), 0) else (zzP, IntKind.wrap .i64 (40 + (up4 F).2)))
  else (zzP, IntKind.wrap .i64 (20 + F.2.2))
def pk6 (e : D_Ether) (S : D_Six × List Int × Int) : D_Packet × Int :=
  bif decide (S.2.2 = 0) then (bif decide ((up6 S).2 = 0) then ((6, mkE e, zzF, mkSx S.1, (up6 S).1, S.2.1, ()), 0) else (zzP, IntKind.wrap .i64 (40 + (up6 S).2)))
  else (zzP, IntKind.wrap .i64 (30 + S.2.2))
def pktRd (d : List Int) : D_Packet × Int :=
  bif decide ((etherRd d).2 = 0) then (bif decide ((etherRd d).1.2.2.2.1 = 2048) then pk4 (etherRd d).1 (fourRd (etherRd d).1.2.2.2.2.1) else
    bif decide ((etherRd d).1.2.2.2.1 = 34525) then pk6 (etherRd d).1 (sixRd (etherRd d).1.2.2.2.2.1) else (zzP, 50))
  else (zzP, IntKind.wrap .i64 (10 + (etherRd d).2))
theorem ng2 (b : Bool) {α : Type} (x y : α) : (bif (!b) then x else y) = bif b then y else x := by cases b <;> rfl
abbrev mpV (x : Int) : Int := iI (mget (.int .i64) (.int .i64) (mset (.int .i64) (.int .i64) (mset (.int .i64) (.int .i64) ([] : List (Int × Int)) (2048:Int) (4:Int)) (34525:Int) (6:Int)) x)
abbrev mpH (x : Int) : Bool := mhas (.int .i64) (.int .i64) (mset (.int .i64) (.int .i64) (mset (.int .i64) (.int .i64) ([] : List (Int × Int)) (2048:Int) (4:Int)) (34525:Int) (6:Int)) x
theorem mv4 {x : Int} (h : x = 2048) : mpV x = 4 := by subst h; rfl
theorem mv6 {x : Int} (h : x = 34525) : mpV x = 6 := by subst h; rfl
theorem mh4 {x : Int} (h : x = 2048) : mpH x = true := by subst h; rfl
theorem mh6 {x : Int} (h : x = 34525) : mpH x = true := by subst h; rfl
theorem mhn {x : Int} (h : x ≠ 2048) (h2 : x ≠ 34525) : mpH x = false := by
  show (bif eqI x 2048 then true else bif eqI x 34525 then true else false) = false
  have a : eqI x 2048 = false := by unfold eqI; exact decide_eq_false h
  have b : eqI x 34525 = false := by unfold eqI; exact decide_eq_false h2
  rw [a, b]; rfl
theorem piece_mk {f : D_Four} (h : fourB f = true) : pieceB (mkF f) = pieceB f := by
  have h' : fourB (mkF f) = true := by
    unfold fourB at h ⊢
    simp only [Bool.and_eq_true, decide_eq_true_eq] at h ⊢
    obtain ⟨a1, a2, a3, a4, a5, a6, a7, a8, a9, a10, a11, a12⟩ := h
    refine ⟨a1, a2, a3, a4, a5, a6, a7, a8, a9, a10, a11, ?_⟩
    show 20 + ((f.2.2.2.2.2.2.2.2.2.1.length : Nat) : Int) + ((([] : List Int).length : Nat) : Int) ≤ 1500
    simp only [List.length_nil]
    omega
  unfold pieceB
  rw [h, h']
theorem ends4 (e : D_Ether) (f : D_Four) (s : D_Six) (u : D_Upper) (p : List Int × Unit) : impl_Packet_ends (4, e, f, s, u, p) = some ((f.2.2.2.2.2.2.2.1, f.2.2.2.2.2.2.2.2.1, ()), ()) := rfl
theorem ends6 (e : D_Ether) (f : D_Four) (s : D_Six) (u : D_Upper) (p : List Int × Unit) : impl_Packet_ends (6, e, f, s, u, p) = some ((s.2.2.2.2.1, s.2.2.2.2.2.1, ()), ()) := rfl
theorem proto4 (e : D_Ether) (f : D_Four) (s : D_Six) (u : D_Upper) (p : List Int × Unit) : impl_Packet_proto (4, e, f, s, u, p) = some ((f.2.2.2.2.2.2.1, ()), ()) := rfl
theorem proto6 (e : D_Ether) (f : D_Four) (s : D_Six) (u : D_Upper) (p : List Int × Unit) : impl_Packet_proto (6, e, f, s, u, p) = some ((s.2.2.2.1, ()), ()) := rfl
theorem src4 (e : D_Ether) (f : D_Four) (s : D_Six) (u : D_Upper) (p : List Int × Unit) : spec_l08Src (4, e, f, s, u, p) = some ((f.2.2.2.2.2.2.2.1, ()), ()) := rfl
theorem dst4 (e : D_Ether) (f : D_Four) (s : D_Six) (u : D_Upper) (p : List Int × Unit) : spec_l08Dst (4, e, f, s, u, p) = some ((f.2.2.2.2.2.2.2.2.1, ()), ()) := rfl
theorem src6 (e : D_Ether) (f : D_Four) (s : D_Six) (u : D_Upper) (p : List Int × Unit) : spec_l08Src (6, e, f, s, u, p) = some ((s.2.2.2.2.1, ()), ()) := rfl
theorem dst6 (e : D_Ether) (f : D_Four) (s : D_Six) (u : D_Upper) (p : List Int × Unit) : spec_l08Dst (6, e, f, s, u, p) = some ((s.2.2.2.2.2.1, ()), ()) := rfl
theorem pktI (k : Nat) (hk : MM < k) (d : List Int) (hb : bytesP d) : impl_PacketRead k d = some (((pktRd d).1, (pktRd d).2, ()), ()) := by
  have hE := ethA d hb
  unfold impl_PacketRead impl_PacketRead_j3 impl_PacketRead_j2 impl_PacketRead_j1 impl_PacketRead_j0 pktRd
  rw [etherI k hk d hb]
  generalize etherRd d = E at *
  simp only [Option.bind_some, ng2]
  by_cases h0 : E.2 = 0
  case neg => simp only [decide_eq_false h0, cond_false]
  simp only [decide_eq_true h0, cond_true]
  by_cases h4 : E.1.2.2.2.1 = 2048
  · simp only [mh4 h4, mv4 h4, decide_eq_true h4, decide_true, cond_true, fourRdI k hk _ hE.bb, Option.bind_some]
    have hF := fourA _ hE.bb
    unfold pk4 up4
    generalize fourRd E.1.2.2.2.2.1 = F at *
    by_cases h1 : F.2.2 = 0
    · have hp := (pieceI (mkF F.1) (by have := hF.o; exact Nat.le_trans this (by decide)) (Nat.zero_le _)).trans (by rw [piece_mk (hF.k h1)])
      simp only [decide_eq_true h1, cond_true, hp, Option.bind_some, ends4, proto4, upperI k hk _ hF.bb]
      cases pieceB F.1
      · simp only [cond_false]
        generalize upRd (fB F.1) F.1.2.2.2.2.2.2.1 F.1.2.2.2.2.2.2.2.1 F.1.2.2.2.2.2.2.2.2.1 = U
        by_cases h2 : U.2 = 0
        · simp only [decide_eq_true h2, cond_true]
        · simp only [decide_eq_false h2, cond_false]
      · rfl
    · have hw : IntKind.wrap .i64 (20 + F.2.2) = 20 + F.2.2 := w64 (by have := hF.c; omega)
      have hn : decide (20 + F.2.2 = 0) = false := decide_eq_false (by have := hF.c; omega)
      simp only [decide_eq_false h1, hw, hn, cond_false]
  by_cases h6 : E.1.2.2.2.1 = 34525
  · have k6 : decide ((6 : Int) = 4) = false := rfl
    simp only [mh6 h6, mv6 h6, decide_eq_false h4, decide_eq_true h6, k6, cond_true, cond_false, sixRdI k hk _ hE.bb, Option.bind_some]
    have hF := sixA _ hE.bb
    unfold pk6 up6
    generalize sixRd E.1.2.2.2.2.1 = F at *
    by_cases h1 : F.2.2 = 0
    · simp only [decide_eq_true h1, cond_true, Option.bind_some, ends6, proto6, upperI k hk _ hF.bb]
      generalize upRd (sB F.1) F.1.2.2.2.1 F.1.2.2.2.2.1 F.1.2.2.2.2.2.1 = U
      by_cases h2 : U.2 = 0
      · simp only [decide_eq_true h2, cond_true]; try rfl
      · simp only [decide_eq_false h2, cond_false]
    · have hw : IntKind.wrap .i64 (30 + F.2.2) = 30 + F.2.2 := w64 (by have := hF.c; omega)
      have hn : decide (30 + F.2.2 = 0) = false := decide_eq_false (by have := hF.c; omega)
      simp only [decide_eq_false h1, hw, hn, cond_false]
  · simp only [mhn h4 h6, decide_eq_false h4, decide_eq_false h6, cond_false]
theorem pktS (k : Nat) (hk : MM < k) (d : List Int) (hb : bytesP d) : spec_PacketRead k d = some (((pktRd d).1, (pktRd d).2, ()), ()) := by
  have hE := ethA d hb
  unfold spec_PacketRead pktRd
  rw [etherS k hk d hb]
  generalize etherRd d = E at *
  simp only [Option.bind_some, ng2]
  by_cases h0 : E.2 = 0
  case neg => simp only [decide_eq_false h0, cond_false]
  simp only [decide_eq_true h0, cond_true]
  by_cases h4 : E.1.2.2.2.1 = 2048
  · simp only [decide_eq_true h4, cond_true, fourRdS k hk _ hE.bb, Option.bind_some]
    have hF := fourA _ hE.bb
    unfold pk4 up4
    generalize fourRd E.1.2.2.2.2.1 = F at *
    by_cases h1 : F.2.2 = 0
    · have hp := pieceS F.1 (Nat.le_trans hF.o (by decide)) (Nat.le_trans hF.b (by decide))
      simp only [decide_eq_true h1, cond_true, hp, Option.bind_some, src4, dst4, upperS k hk _ hF.bb]
      cases pieceB F.1
      · simp only [cond_false]
        generalize upRd (fB F.1) F.1.2.2.2.2.2.2.1 F.1.2.2.2.2.2.2.2.1 F.1.2.2.2.2.2.2.2.2.1 = U
        by_cases h2 : U.2 = 0
        · simp only [decide_eq_true h2, cond_true]
        · simp only [decide_eq_false h2, cond_false]
      · rfl
    · simp only [decide_eq_false h1, cond_false]
  by_cases h6 : E.1.2.2.2.1 = 34525
  · simp only [decide_eq_false h4, decide_eq_true h6, cond_true, cond_false, sixRdS k hk _ hE.bb, Option.bind_some]
    have hF := sixA _ hE.bb
    unfold pk6 up6
    generalize sixRd E.1.2.2.2.2.1 = F at *
    by_cases h1 : F.2.2 = 0
    · simp only [decide_eq_true h1, cond_true, Option.bind_some, src6, dst6, upperS k hk _ hF.bb]
      generalize upRd (sB F.1) F.1.2.2.2.1 F.1.2.2.2.2.1 F.1.2.2.2.2.2.1 = U
      by_cases h2 : U.2 = 0
      · simp only [decide_eq_true h2, cond_true]; try rfl
      · simp only [decide_eq_false h2, cond_false]
    · simp only [decide_eq_false h1, cond_false]
  · simp only [decide_eq_false h4, decide_eq_false h6, cond_false]
end Go.Tw
