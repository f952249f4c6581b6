/- Facts on mirrors. -/
import Derived.Test.YtmnfadocihfiaaaGreatPp8
set_option linter.all false
set_option maxRecDepth 100000
set_option maxHeartbeats 4000000
namespace Go.Tw
open Go Go.RowKit
theorem exts_runS (d : List Int) (E : Nat) (hE : E ≤ d.length) (hd : d.length ≤ 2000) (hb : bytesP d) (c1 c2 c3 c4 : Int) (a1 a2 : D_Addr) (r : List Int × Unit) : ∀ (m k : Nat) (kind : Int) (at_ : Nat) (out : List D_Ext), out.length + m = 3 → m < k → at_ ≤ E →
    iter spec_SixRead_s17 k ((), d, zzS, (E : Int), S8 c1 c2 c3 c4 a1 a2 out r, kind, (at_ : Int), ()) = some (match extsP (m + 1) kind ((d.drop at_).take (E - at_)) out with
      | some (o, kd, rr) => Sum.inr ((), d, zzS, (E : Int), S8 c1 c2 c3 c4 a1 a2 o r, kd, ((E - rr.length : Nat) : Int), ()) | none => Sum.inl ((), zzS, [], 5, ()))
  | m, 0, kind, at_, out, h1, h2, h3 => by omega
  | m, k + 1, kind, at_, out, h1, h2, h3 => by
    have hll : ((d.drop at_).take (E - at_)).length = E - at_ := by rw [List.length_take, List.length_drop]; omega
    rw [iter_succ, exS_step _ d E at_ ⟨h3, hE⟩ hd hb kind c1 c2 c3 c4 a1 a2 out r (by omega)]
    unfold extsP
    cases exK kind
    · simp only [cond_false]
      rw [hll, show E - (E - at_) = at_ by omega]
    simp only [cond_true]
    cases hs : stopB kind ((d.drop at_).take (E - at_)) out
    · simp only [cond_false]
      have hs' := hs
      unfold stopB at hs'
      simp only [Bool.or_eq_false_iff, decide_eq_false_iff_not] at hs'
      obtain ⟨q1, _, q2, q3, q4⟩ := hs'
      cases m with
      | zero => omega
      | succ m =>
        rw [exts_runS d E hE hd hb c1 c2 c3 c4 a1 a2 r m k _ _ _ (by unfold nxt; simp; omega) (by omega) (by omega)]
        have e : (d.drop (at_ + xT ((d.drop at_).take (E - at_)))).take (E - (at_ + xT ((d.drop at_).take (E - at_)))) = ((d.drop at_).take (E - at_)).drop (xT ((d.drop at_).take (E - at_))) := by
          rw [List.drop_take, List.drop_drop]
          congr 1
          omega
        rw [e]
    · rfl
theorem ext_suf {d : List Int} {E : Nat} (hE : 40 ≤ E ∧ E ≤ d.length) {n : Nat} {kind : Int} {out o : List D_Ext} {kd : Int} {rr : List Int} (h : extsP n kind ((d.drop 40).take (E - 40)) out = some (o, kd, rr)) : rr.length ≤ E ∧ (d.drop (E - rr.length)).take rr.length = rr := by
  obtain ⟨j, hj⟩ := ext_len n kind _ out h
  rw [List.drop_take, List.drop_drop] at hj
  have hl : rr.length = min (E - 40 - j) (d.length - (40 + j)) := by rw [hj, List.length_take, List.length_drop]
  rcases Nat.lt_or_ge (E - 40) j with h1 | h1
  · have : rr = [] := by rw [hj, show E - 40 - j = 0 by omega]; rfl
    subst this; simp
  · have h2 : rr.length = E - 40 - j := by omega
    refine ⟨by omega, ?_⟩
    rw [h2, show E - (E - 40 - j) = 40 + j by omega, hj]
theorem sixRdS (k : Nat) (hk : MM < k) (d : List Int) (hb : bytesP d) : spec_SixRead k d = some (((sixRd d).1, (sixRd d).2.1, (sixRd d).2.2, ()), ()) := by
  have hM : MM = 1048576 := rfl
  unfold spec_SixRead sixRd
  by_cases h1 : 1600 < d.length
  · rw [bif_t (decide_eq_true (by omega)), bif_t (decide_eq_true h1)]
  rw [bif_f (decide_eq_false (by omega)), bif_f (decide_eq_false h1)]
  by_cases h2 : d.length < 40
  · rw [bif_t (decide_eq_true (by omega)), bif_t (decide_eq_true h2)]
  rw [bif_f (decide_eq_false (by omega)), bif_f (decide_eq_false h2)]
  have r0 : 0 ≤ d.getD 0 0 ∧ d.getD 0 0 ≤ 255 := hb _ (getD_mem d 0 0 (by omega))
  have r6 : 0 ≤ d.getD 6 0 ∧ d.getD 6 0 ≤ 255 := hb _ (getD_mem d 0 6 (by omega))
  have r7 : 0 ≤ d.getD 7 0 ∧ d.getD 7 0 ≤ 255 := hb _ (getD_mem d 0 7 (by omega))
  have c0 : decide ((0 : Int) < ((d.length : Nat) : Int)) = true := decide_eq_true (by omega)
  have c0' : decide ((0 : Nat) < d.length) = true := decide_eq_true (by omega)
  have c6b : decide ((6 : Int) < ((d.length : Nat) : Int)) = true := decide_eq_true (by omega)
  have c6' : decide ((6 : Nat) < d.length) = true := decide_eq_true (by omega)
  have c7 : decide ((7 : Int) < ((d.length : Nat) : Int)) = true := decide_eq_true (by omega)
  have c7' : decide ((7 : Nat) < d.length) = true := decide_eq_true (by omega)
  have c24 : decide ((24 : Int) ≤ ((d.length : Nat) : Int)) = true := decide_eq_true (by omega)
  have c40 : decide ((40 : Int) ≤ ((d.length : Nat) : Int)) = true := decide_eq_true (by omega)
  have cll : decide (((d.length : Nat) : Int) ≤ ((d.length : Nat) : Int)) = true := decide_eq_true (Int.le_refl _)
  have e16 : IntKind.wrap .u8 (Int.tdiv (d.getD 0 0) 16) = b0 d / 16 := by
    rw [Int.tdiv_eq_ediv_of_nonneg r0.1, wu8]; unfold b0; omega
  have r4 := be_two hb 4
  have eE : IntKind.wrap .i64 (40 + beB ((d.drop 4).take 2)) = ((sEnd d : Nat) : Int) := by rw [w64 (by omega)]; unfold sEnd; omega
  have f4 : spec_Be16 d (4:Int) = _ := be16S hb (by omega) 4 (by omega)
  simp only [c0, c0', cond_true, e16, f4, Option.bind_some, eE, bn]
  by_cases h3 : b0 d / 16 = 6
  case neg => rw [decide_eq_false h3]; rfl
  rw [decide_eq_true h3]
  simp only [cond_true]
  by_cases h4 : 1500 < sEnd d
  · rw [decide_eq_true (show (1500 : Int) < ((sEnd d : Nat) : Int) by omega), decide_eq_true h4]; rfl
  rw [decide_eq_false (show ¬ (1500 : Int) < ((sEnd d : Nat) : Int) by omega), decide_eq_false h4]
  by_cases h5 : d.length < sEnd d
  · rw [decide_eq_true (show ((d.length : Nat) : Int) < ((sEnd d : Nat) : Int) by omega), decide_eq_true h5]; rfl
  rw [decide_eq_false (show ¬ ((d.length : Nat) : Int) < ((sEnd d : Nat) : Int) by omega), decide_eq_false h5]
  have ge40 : 40 ≤ sEnd d := by unfold sEnd; omega
  have q2 : decide (((sEnd d : Nat) : Int) ≤ ((d.length : Nat) : Int)) = true := decide_eq_true (by omega)
  have q3 : decide ((0 : Int) ≤ ((sEnd d : Nat) : Int)) = true := decide_eq_true (by omega)
  have e6 : IntKind.wrap .i64 (d.getD 6 0) = d.getD 6 0 := w64 (by omega)
  have e7 : IntKind.wrap .i64 (d.getD 7 0) = d.getD 7 0 := w64 (by omega)
  have f0 : spec_Be32 k d (0:Int) = _ := be32S k hk d hb 0 (by omega) (by omega)
  have w : 0 ≤ sW d ∧ sW d ≤ 4294967295 := be_four hb 0
  have a1 : Int.tmod (IntKind.wrap .i64 (Int.tdiv (beB ((d.drop 0).take 4)) 1048576)) 256 = sW d / 1048576 % 256 := by
    show Int.tmod (IntKind.wrap .i64 (Int.tdiv (sW d) 1048576)) 256 = sW d / 1048576 % 256
    rw [Int.tdiv_eq_ediv_of_nonneg w.1, w64 (by omega), Int.tmod_eq_emod_of_nonneg (by omega)]
  have a2 : Int.tmod (beB ((d.drop 0).take 4)) 1048576 = sW d % 1048576 := Int.tmod_eq_emod_of_nonneg w.1
  have run := exts_runS d (sEnd d) (by omega) (by omega) hb (sW d / 1048576 % 256) (sW d % 1048576) (d.getD 7 0) 0 (addrOf ((d.drop 8).take 16)).1 (addrOf ((d.drop 24).take 16)).1 ([], ()) 3 k (d.getD 6 0) 40 [] rfl (by omega) ge40
  simp only [c6b, c6', c7, c7', c24, c40, e6, e7, f0, Option.bind_some, a1, a2, addrOfS k hk _ (sub_bytes hb 8 16), addrOfS k hk _ (sub_bytes hb 24 16), cond_true, cond_false, Bool.or_self]
  rw [show iter spec_SixRead_s17 k ((), d, zzS, ((sEnd d : Nat) : Int), (sW d / 1048576 % 256, sW d % 1048576, d.getD 7 0, (0:Int), (addrOf ((d.drop 8).take 16)).1, (addrOf ((d.drop 24).take 16)).1, ([] : List D_Ext), ([] : List Int), ()), d.getD 6 0, (40:Int), ()) = _ from run]
  cases hE : extsP (3 + 1) (d.getD 6 0) ((d.drop 40).take (sEnd d - 40)) [] with
  | none =>
    have hE' : extsP 4 (d.getD 6 0) ((d.drop 40).take (sEnd d - 40)) [] = none := hE
    rfl
  | some p =>
    obtain ⟨o, kd, r⟩ := p
    have hE' : extsP 4 (d.getD 6 0) ((d.drop 40).take (sEnd d - 40)) [] = some (o, kd, r) := hE
    obtain ⟨s1, s2⟩ := ext_suf ⟨ge40, by omega⟩ hE
    have g1 : decide ((0 : Int) ≤ ((sEnd d - r.length : Nat) : Int)) = true := decide_eq_true (by omega)
    have g2 : decide (((sEnd d - r.length : Nat) : Int) ≤ ((sEnd d : Nat) : Int)) = true := decide_eq_true (by omega)
    have e8 : List.take (sEnd d - (sEnd d - r.length)) (List.drop (sEnd d - r.length) d) = r := by rw [show sEnd d - (sEnd d - r.length) = r.length by omega]; exact s2
    have m1 : decide ((0 + r.length) * 1 ≤ 1099511627776) = true := decide_eq_true (by omega)
    have m2 : decide ((0 + (d.drop (sEnd d)).length) * 1 ≤ 1099511627776) = true := decide_eq_true (by rw [List.length_drop]; omega)
    simp only [Option.bind_some, Sum.elim_inr, g1, g2, q2, q3, cll, Int.toNat_natCast, e8, m1, m2, take_all, Bool.and_self, cond_true]
    rfl
end Go.Tw
