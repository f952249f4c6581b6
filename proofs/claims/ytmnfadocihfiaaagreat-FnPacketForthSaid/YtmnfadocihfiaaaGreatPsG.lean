/- Facts on mirrors. -/
import Derived.Test.YtmnfadocihfiaaaGreatPsF
set_option linter.all false
set_option maxRecDepth 100000
set_option maxHeartbeats 8000000
namespace Go.Tw
open Go Go.RowKit
theorem pktQ_pb {P : D_Packet} (q : pktQ P) : PB P := by
  obtain ⟨q1, q2, q3, q4⟩ := q
  have up : ∀ {n : Nat}, n ≤ 1000 → n ≤ 1048576 := fun h => Nat.le_trans h (by decide)
  exact ⟨up q1.2, q1.1, Nat.le_trans q2.1 (by decide), (fun x hx => up (q2.2 x hx).2), Nat.le_trans q3.1.2 (by decide), q3.1.1, Nat.le_trans q3.2.2 (by decide), q3.2.1, Nat.le_trans q4.2 (by decide)⟩
theorem exBy_bytes : ∀ (l : List D_Ext) (p : Int), (∀ x ∈ l, bytesP x.2.1) → bytesP (exBy l p)
  | [], p, _ => nil_bytes
  | x :: l, p, h => app_bytes (two_bytes _ _) (app_bytes (h x List.mem_cons_self) (exBy_bytes l p (fun y hy => h y (List.mem_cons_of_mem _ hy))))
theorem fBy_bytes {f : D_Four} (ho : bytesP (fO f)) (hb : bytesP (fB f)) : bytesP (fBy f) := by
  unfold fBy
  cases h : fourB f
  · exact nil_bytes
  · exact app_bytes (hdBc_bytes h ho) hb
theorem sixBy_bytes {s : D_Six} (hx : ∀ x ∈ sE s, bytesP x.2.1) (hb : bytesP (sB s)) : bytesP (sixBy s) := by
  unfold sixBy
  cases h : sixB s
  · exact nil_bytes
  · refine app_bytes (app_bytes ?_ (exBy_bytes _ _ hx)) hb
    unfold hd6
    exact app_bytes (putB_bytes _ _) (app_bytes (putB_bytes _ _) (app_bytes (two_bytes _ _) (app_bytes (addrBy_bytes _) (addrBy_bytes _))))
theorem etherBy_bytes {e : D_Ether} (hb : bytesP (eB e)) : bytesP (etherBy e) ∧ (etherBy e).length ≤ 1700 := by
  unfold etherBy
  cases h : ethB e
  · exact ⟨nil_bytes, Nat.zero_le _⟩
  · have r := (ethB_rng h).2.2
    have r' : e.2.2.2.2.1.length ≤ 1600 := r
    simp only [cond_true]
    constructor
    · refine app_bytes (putB_bytes _ _) (app_bytes (putB_bytes _ _) (app_bytes ?_ (app_bytes (putB_bytes _ _) hb)))
      cases decide (0 ≤ e.2.2.1)
      · exact nil_bytes
      · exact app_bytes (putB_bytes _ _) (putB_bytes _ _)
    · cases decide (0 ≤ e.2.2.1) <;> simp only [cond_true, cond_false, List.length_append, List.length_nil, putB_len] <;> omega
theorem pkBy_bytes {k : Nat} (hk : MM < k) {P : D_Packet} (q : pktQ P) : byN 1700 (pkBy P) := by
  have B := pktQ_pb q
  obtain ⟨q1, q2, q3, q4⟩ := q
  unfold pkBy
  cases pkGood P
  · exact byN_nil _
  simp only [cond_true]
  unfold pkE
  cases decide (P.1 = 4)
  · have s4 := (upBy_ok k hk P.2.2.2.2.1 P.2.2.2.1.2.2.2.2.1 P.2.2.2.1.2.2.2.2.2.1 (Nat.le_trans B.uo (by decide)) (Nat.le_trans B.ub (by decide)) B.uob B.ubb).1
    have : bytesP (eB (e6 P)) := app_bytes (sixBy_bytes (s := wS P.2.2.2.1 (by6 P)) (fun x hx => (q2.2 x hx).1) s4) q4.1
    exact etherBy_bytes this
  · have s4 := (upBy_ok k hk P.2.2.2.2.1 P.2.2.1.2.2.2.2.2.2.2.1 P.2.2.1.2.2.2.2.2.2.2.2.1 (Nat.le_trans B.uo (by decide)) (Nat.le_trans B.ub (by decide)) B.uob B.ubb).1
    have : bytesP (eB (e4 P)) := app_bytes (fBy_bytes (f := wF P.2.2.1 (by4 P)) q1.1 s4) q4.1
    exact etherBy_bytes this
section
variable {b : Int} {c : D_l01Cur} {k : Nat}
theorem frame_t (hk : MM < k) (h : CP b c) (hb : b + 30000 ≤ BB) : Tot (byN 1700) (b + 30000) (spec_l01Cur_frame k c) := by
  obtain ⟨P, c1, e1, h1, q⟩ := packet_t hk h (by omega)
  have B := pktQ_pb q
  have hd := pkBy_bytes hk q
  unfold spec_l01Cur_frame
  rw [e1]
  simp only [Option.bind_some]
  rw [pkByS k hk P B]
  simp only [Option.bind_some]
  generalize pkBy P = d at hd
  have hl := hd.2
  have w1 : IntKind.wrap .i64 (((d.length : Nat) : Int) + 1) = ((d.length : Nat) : Int) + 1 := w64 (by omega)
  have w12 : ∀ x : Int, 0 ≤ x → x < 4 → IntKind.wrap .i64 (12 + x) = 12 + x := fun x h0 h1 => w64 (by omega)
  have hset : ∀ (i : Nat) (x : Int), byN 1700 (d.set i (IntKind.wrap .u8 x)) := fun i x => ⟨by rw [wu8]; exact set_by hd.1 i x, by rw [List.length_set]; exact hl⟩
  refine tAny h1 (by omega) (by omega) (fun x c2 _ _ h2 => ?_)
  dsimp only
  refine tIf ?_ (tIf ?_ (tIf ?_ ?_))
  · rw [w1]
    refine tAny h2 (by omega) (by omega) (fun y c3 y0 y1 h3 => ?_)
    dsimp only
    refine tT (by simp only [Bool.and_eq_true, decide_eq_true_eq]; omega) ?_
    exact tEnd h3 (by omega) ⟨fun z hz => hd.1 z (List.mem_of_mem_take hz), by rw [List.length_take]; omega⟩
  · cases hz : decide ((0 : Int) < ((d.length : Nat) : Int))
    · exact tEnd h2 (by omega) hd
    · have hz' := of_decide_eq_true hz
      simp only [cond_true]
      refine tAny h2 (by omega) (by omega) (fun y c3 y0 y1 h3 => ?_)
      dsimp only
      refine tAny h3 (by omega) (by omega) (fun u c4 u0 u1 h4 => ?_)
      dsimp only
      refine tT (by simp only [Bool.and_eq_true, decide_eq_true_eq]; omega) ?_
      refine tT (by simp only [decide_eq_true_eq]; omega) ?_
      exact tEnd h4 (by omega) (hset _ _)
  · cases hz : decide ((20 : Int) < ((d.length : Nat) : Int))
    · exact tEnd h2 (by omega) hd
    · have hz' := of_decide_eq_true hz
      simp only [cond_true]
      refine tAny h2 (by omega) (by omega) (fun y c3 y0 y1 h3 => ?_)
      dsimp only
      refine tAny h3 (by omega) (by omega) (fun u c4 u0 u1 h4 => ?_)
      dsimp only
      rw [w12 y y0 y1]
      refine tT (by simp only [Bool.and_eq_true, decide_eq_true_eq]; omega) ?_
      refine tT (by simp only [decide_eq_true_eq]; omega) ?_
      refine tT (by simp only [Bool.and_eq_true, decide_eq_true_eq]; omega) ?_
      refine tT (by simp only [decide_eq_true_eq]; omega) ?_
      exact tEnd h4 (by omega) (hset _ _)
  · exact tEnd h2 (by omega) hd
end
theorem wf_by {x : List Int} (h : WF (.sl (.int .u8)) x) : bytesP x := fun b hb => by
  have q := h.2 b hb
  simpa [WF, inR, IntKind.min, IntKind.max, IntKind.signed, IntKind.bits] using q
theorem law_FnPacketForth (x : List Int) (h0 : WF (.sl (.int .u8)) x) : ∃ k y, laws_FnPacketForth k x = some ((true, ()), y) := by
  have hk : MM < (1048577 : Nat) := by decide
  refine ⟨1048577, (), ?_⟩
  revert hk
  generalize (1048577 : Nat) = k
  intro hk
  have hM : MM = 1048576 := rfl
  unfold laws_FnPacketForth laws_big
  simp only [Option.bind_some]
  by_cases hx : x.length ≤ 1048576
  case neg => rw [bif_t (decide_eq_true (by omega))]
  rw [bif_f (decide_eq_false (by omega))]
  have hb := wf_by h0
  have tm := tmod_rng (x := ((x.length : Nat) : Int)) (n := 1000) (by omega) (by omega)
  have w : IntKind.wrap .i64 (71 + Int.tmod ((x.length : Nat) : Int) 1000) = 71 + Int.tmod ((x.length : Nat) : Int) 1000 := w64 (by omega)
  have hc : CP 0 (x, 0, 71 + Int.tmod ((x.length : Nat) : Int) 1000, ()) := ⟨hb, hx, Int.le_refl _, Int.le_refl _, by dsimp only; omega, by dsimp only; omega⟩
  obtain ⟨d, c1, e1, h1, q⟩ := frame_t hk hc (by decide)
  have eD : spec_DrawPacketRead k x = some ((d, ()), ()) := by
    unfold spec_DrawPacketRead
    rw [w, e1]; rfl
  have hd : bytesP d := q.1
  have eb : laws_bytesOf d = some ((d, ()), ()) := by
    unfold laws_bytesOf
    exact bif_t (decide_eq_true (by have := q.2; omega))
  rw [eD]
  simp only [Option.bind_some]
  rw [pktS k hk d hd]
  simp only [Option.bind_some]
  rw [eb]
  simp only [Option.bind_some]
  rw [pktI k hk d hd]
  simp only [Option.bind_some, decide_true, Bool.not_true, Bool.not_not, cond_false]
  by_cases h2 : (pktRd d).2 = 0
  · rw [bif_t (decide_eq_true h2), pkByI k hk _ (pkt_pb hd)]
    simp only [Option.bind_some]
    rw [(pk_back hd h2).2]
    simp
  · rw [bif_f (decide_eq_false h2)]
end Go.Tw
