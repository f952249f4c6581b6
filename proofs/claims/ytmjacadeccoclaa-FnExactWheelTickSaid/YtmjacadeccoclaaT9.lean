/- A step of the typed logic of this claim is proved here: what an operation does to the data that slots and memory stand for. -/
import Derived.Test.YtmjacadeccoclaaT8
set_option linter.all false
namespace Go.Tw
open Go Go.RowKit

section
variable {c : Cx} {σ : St} {a : Act} {w : World} {A : Ans} {o : Oper} {s' : List (Nat × TV)}

theorem bnd_lo {imm ok : Nat → Prop} {μ : Nat → Mu} {h : Heap} {n : Nat} {s : List (Nat × TV)} (hl : SR w imm ok μ h n s a.tmps) {lo : Option Operand} {l : Int} (h0 : bLo (lo.map (ev s)) = some l) :
    (lo.map a.eval = none ∧ l = 0) ∨ ∃ k, lo.map a.eval = some (.int k l) := by
  cases lo with
  | none => simp only [Option.map_none, bLo, Option.some.injEq] at h0; exact .inl ⟨rfl, h0.symm⟩
  | some x =>
    simp only [Option.map_some] at h0 ⊢
    unfold bLo at h0
    split at h0
    · rename_i k m hq
      simp only [Option.some.injEq] at h0 hq; subst h0
      have := hl.evl x
      rw [hq] at this
      exact .inr ⟨k, by rw [this.p_eq]⟩
    · simp at h0
    · rename_i hq; simp at hq
theorem bnd_hi {imm ok : Nat → Prop} {μ : Nat → Mu} {h : Heap} {n : Nat} {s : List (Nat × TV)} (hl : SR w imm ok μ h n s a.tmps) {hi : Option Operand} {d : Nat} {u : Int} (h0 : bHi (hi.map (ev s)) d = some u) :
    (hi.map a.eval = none ∧ u = d) ∨ ∃ k, hi.map a.eval = some (.int k u) := by
  cases hi with
  | none => simp only [Option.map_none, bHi, Option.some.injEq] at h0; exact .inl ⟨rfl, h0.symm⟩
  | some x =>
    simp only [Option.map_some] at h0 ⊢
    unfold bHi at h0
    split at h0
    · rename_i k m hq
      simp only [Option.some.injEq] at h0 hq; subst h0
      have := hl.evl x
      rw [hq] at this
      exact .inr ⟨k, by rw [this.p_eq]⟩
    · simp at h0
    · rename_i hq; simp at hq

theorem SlR.slice_of {m : Mu} {s off len l u : Nat} {o cap : Nat} (hlu : l ≤ u) (hu : u ≤ len) (h1 : len ≤ cap) (h2 : m.bk = true) (h3 : Row w m.blk o) (h4 : 0 < cap → o = m.off + off * s ∧ Row w m.blk (o + cap * s)) :
    SlR w m s (off + l) (u - l) (.slice (if cap = l then some ⟨m.blk, o, none⟩ else some ⟨m.blk, o + l * s, none⟩) (u - l) (cap - l)) := by
  refine .inr ⟨if cap = l then o else o + l * s, cap - l, ?_, by omega, h2, ?_, fun hp => ?_⟩
  · split <;> rfl
  · split
    · exact h3
    · have h5 := h4 (by omega)
      refine h5.2.le ?_
      have : l * s ≤ cap * s := Nat.mul_le_mul_right _ (by omega)
      omega
  · have h5 := h4 (by omega)
    rw [if_neg (by omega)]
    refine ⟨by rw [h5.1, Nat.add_mul]; omega, h5.2.le ?_⟩
    have : l * s + (cap - l) * s = cap * s := by rw [← Nat.add_mul]; congr 1; omega
    omega

theorem ok_slice (hs : Sim c σ a w) {t : TypeId} {x : Operand} {lo hi mx : Option Operand} (ho : o.op = .slice t x lo hi mx) (hx : ex c.P o.op (ev σ.s) σ.h σ.n = some A) (hc : A.c = true) (hput : sput c.m o.dst A.v (ks A σ.s) = some s') : OpOk c o a w ⟨s', A.h, A.n⟩ := by
  rw [ho] at hx; simp only [ex, sliceS] at hx
  obtain ⟨_, _, _, μ, hH, hl, hg⟩ := id hs
  have hv := SR.evl hl x
  split at hx
  · -- a string
    rename_i s l hm hq hlo
    have hmx : mx = none := by simpa using hm
    simp only [Option.bind_eq_some_iff] at hx
    obtain ⟨u, hhi, hx⟩ := hx
    split at hx
    · rename_i hu
      simp only [Option.some.injEq] at hx; subst hx
      simp only [Bool.and_eq_true, decide_eq_true_eq] at hc
      obtain ⟨⟨h0, h1⟩, h2⟩ := hc
      rw [hq] at hv
      refine OpOk.quiet hs (v := .string (s.extract l.toNat u.toNat)) (fun w1 hb1 => ?_) hput (fun μ' hl' _ => by simp [VR])
      have hb := run_bounds (P := c.P) (w := w1) (isS := false) (len := s.size) (cap := s.size) (bnd_lo hl hlo) (bnd_hi (d := s.size) hl hhi) h0 h1 h2
      simp [execOp, ho, hmx, hv.p_eq, Instr.sliceAt, underlying, hu, Instr.slice, hb]
    · simp at hx
  · -- a borrowed tree
    rename_i t0 es l hm hq hlo
    have hmx : mx = none := by simpa using hm
    simp only [Option.bind_eq_some_iff] at hx
    obtain ⟨u, hhi, hx⟩ := hx
    split at hx
    · rename_i q ht
      obtain ⟨hb, hx⟩ := cond_some.1 hx
      simp only [Option.some.injEq] at hx; subst hx
      simp only [Bool.and_eq_true, decide_eq_true_eq] at hc
      obtain ⟨⟨h0, h1⟩, h2⟩ := hc
      have hsz : q.1 = sz t0 := Nat.eq_of_beq_eq_true hb
      have ht' : (tsl c.P t).map (·.1) = some (sz t0) := by rw [ht]; simp [hsz]
      rw [hq] at hv
      simp only [VR] at hv
      obtain ⟨v, e, hv⟩ := hv
      simp only [List.cons.injEq, and_true] at e; subst e
      rcases hv with ⟨e1, rfl, _⟩ | ⟨B, cap, L', e1, hcap, hte, hA⟩
      · have hl0 : l = 0 := by simp only [List.length_nil] at h2; omega
        have hu0 : u = 0 := by simp only [List.length_nil] at h2; omega
        subst hl0 hu0
        refine OpOk.quiet hs (v := .slice none 0 0) (fun w1 hb1 => ?_) hput (fun μ' hl' _ => ?_)
        · have := run_slice_slice (P := c.P) (w := w1) ht' (A := none) (len := 0) (cap := 0) (bnd_lo hl hlo) (bnd_hi (d := 0) hl (by simpa using hhi)) (by omega) (by omega) (by omega)
          simp [execOp, ho, hmx, e1, this]
        · simp only [VR, List.drop_nil, List.take_nil]
          exact ⟨_, rfl, .inl ⟨rfl, rfl, rfl⟩⟩
      · rcases hA with ⟨_, rfl, hb0, hA⟩ | ⟨hn, _⟩
        · refine OpOk.quiet hs (fun w1 hb1 => ?_) hput (fun μ' hl' _ => ?_) (v := .slice (if cap = l.toNat then some B else (some B).map (·.add (l.toNat * sz t0))) (u.toNat - l.toNat) (cap - l.toNat))
          · have := run_slice_slice (P := c.P) (w := w1) ht' (A := some B) (len := es.length) (cap := cap) (bnd_lo hl hlo) (bnd_hi (d := es.length) hl hhi) h0 h1 (by omega)
            simp [execOp, ho, hmx, e1, this]
          · have hlen : ((es.drop l.toNat).take (u.toNat - l.toNat)).length = u.toNat - l.toNat := by simp; omega
            simp only [VR]
            refine ⟨_, rfl, .inr ⟨if cap = l.toNat then B else B.add (l.toNat * sz t0), cap - l.toNat, [], ?_, by rw [hlen]; omega, ?_, .inl ⟨rfl, rfl, hb0, fun hne => ?_⟩⟩⟩
            · rw [hlen]; split <;> simp
            · by_cases hcl : cap = l.toNat
              · have : (es.drop l.toNat).take (u.toNat - l.toNat) = [] := by rw [List.drop_of_length_le (by omega)]; simp
                rw [this]; simp [RL]
              · rw [if_neg hcl]
                by_cases hes : es = []
                · subst hes; simp [RL]
                · obtain ⟨b, of, sp⟩ := B
                  obtain ⟨rfl, hB⟩ := hA hes
                  rw [add_mk]
                  obtain ⟨L1, L2, L3, hL, hsub⟩ := RL.sub l.toNat (u.toNat - l.toNat) (by omega) hte
                  obtain ⟨_, hL2⟩ := nil_app hL
                  obtain ⟨rfl, _⟩ := nil_app hL2.symm
                  exact hsub
            · have hes : es ≠ [] := by rintro rfl; simp at hne
              obtain ⟨hsp, hB⟩ := hA hes
              obtain ⟨b, of, sp⟩ := B
              simp only at hsp hB
              subst hsp
              split
              · exact ⟨rfl, hB⟩
              · rw [add_mk]; exact ⟨rfl, hB⟩
        · simp at hn
    · simp at hx
  · -- a region
    rename_i r l hm hq hlo
    have hmx : mx = none := by simpa using hm
    split at hx
    · rename_i fr t0 es hgr
      simp only [Option.bind_eq_some_iff] at hx
      obtain ⟨u, hhi, hx⟩ := hx
      split at hx
      · rename_i q ht
        obtain ⟨hb, hx⟩ := cond_some.1 hx
        simp only [Option.some.injEq] at hx; subst hx
        simp only [Bool.and_eq_true, decide_eq_true_eq] at hc
        obtain ⟨⟨h0, h1⟩, h2⟩ := hc
        have hsz : q.1 = sz t0 := Nat.eq_of_beq_eq_true hb
        have ht' : (tsl c.P t).map (·.1) = some (sz t0) := by rw [ht]; simp [hsz]
        rw [hq] at hv
        simp only [VR, hgr] at hv
        obtain ⟨hr, hv⟩ := hv
        rcases hv with ⟨e1, e2⟩ | ⟨of, cap, e1, g2, g3, g4, g5⟩
        · have hl0 : l = 0 := by omega
          have hu0 : u = 0 := by omega
          subst hl0 hu0
          refine OpOk.quiet hs (v := .slice none 0 0) (fun w1 hb1 => ?_) hput (fun μ' hl' _ => ?_)
          · have := run_slice_slice (P := c.P) (w := w1) ht' (A := none) (len := 0) (cap := 0) (bnd_lo hl hlo) (bnd_hi (d := 0) hl (by rw [← e2]; exact hhi)) (by omega) (by omega) (by omega)
            simp [execOp, ho, hmx, e1, this]
          · simp only [VR, hgr]
            exact ⟨hr, by simp, .inl ⟨rfl, by simp⟩⟩
        · refine OpOk.quiet hs (fun w1 hb1 => ?_) hput (fun μ' hl' _ => ?_) (v := .slice (if cap = l.toNat then some ⟨(μ r).blk, of, none⟩ else some ⟨(μ r).blk, of + l.toNat * sz t0, none⟩) (u.toNat - l.toNat) (cap - l.toNat))
          · have := run_slice_slice (P := c.P) (w := w1) ht' (A := some ⟨(μ r).blk, of, none⟩) (len := es.length) (cap := cap) (bnd_lo hl hlo) (bnd_hi (d := es.length) hl hhi) h0 h1 (by omega)
            simp [execOp, ho, hmx, e1, this, add_mk]
          · have hv' := SR.evl hl' x
            rw [hq] at hv'
            simp only [VR, hgr] at hv' ⊢
            obtain ⟨_, hv'⟩ := hv'
            rcases hv' with ⟨e1', _⟩ | ⟨of', cap', e1', g2', g3', g4', g5'⟩
            · rw [e1] at e1'; simp at e1'
            · rw [e1] at e1'
              simp only [Value.slice.injEq, Option.some.injEq, Addr.mk.injEq, and_true, true_and] at e1'
              obtain ⟨⟨q1, rfl⟩, rfl⟩ := e1'
              rw [q1]
              refine ⟨hr, by omega, ?_⟩
              have := SlR.slice_of (off := 0) (l := l.toNat) (u := u.toNat) (by omega) (by omega) g2' g3' g4' g5'
              simpa using this
      · simp at hx
    · simp at hx
  · rename_i r off len l hm hq hlo
    have hmx : mx = none := by simpa using hm
    split at hx
    · rename_i fr t0 es hgr
      simp only [Option.bind_eq_some_iff] at hx
      obtain ⟨u, hhi, hx⟩ := hx
      split at hx
      · rename_i q ht
        obtain ⟨hb, hx⟩ := cond_some.1 hx
        simp only [Option.some.injEq] at hx; subst hx
        simp only [Bool.and_eq_true, decide_eq_true_eq] at hc
        obtain ⟨⟨h0, h1⟩, h2⟩ := hc
        have hsz : q.1 = sz t0 := Nat.eq_of_beq_eq_true hb
        have ht' : (tsl c.P t).map (·.1) = some (sz t0) := by rw [ht]; simp [hsz]
        rw [hq] at hv
        simp only [VR, hgr] at hv
        obtain ⟨hr, hle, hv⟩ := hv
        rcases hv with ⟨e1, e2⟩ | ⟨of, cap, e1, g2, g3, g4, g5⟩
        · subst e2
          have hl0 : l = 0 := by omega
          have hu0 : u = 0 := by omega
          subst hl0 hu0
          refine OpOk.quiet hs (v := .slice none 0 0) (fun w1 hb1 => ?_) hput (fun μ' hl' _ => ?_)
          · have := run_slice_slice (P := c.P) (w := w1) ht' (A := none) (len := 0) (cap := 0) (bnd_lo hl hlo) (bnd_hi (d := 0) hl hhi) (by omega) (by omega) (by omega)
            simp [execOp, ho, hmx, e1, this]
          · simp only [VR, hgr]
            exact ⟨hr, by simpa using hle, .inl ⟨rfl, by simp⟩⟩
        · refine OpOk.quiet hs (fun w1 hb1 => ?_) hput (fun μ' hl' _ => ?_) (v := .slice (if cap = l.toNat then some ⟨(μ r).blk, of, none⟩ else some ⟨(μ r).blk, of + l.toNat * sz t0, none⟩) (u.toNat - l.toNat) (cap - l.toNat))
          · have := run_slice_slice (P := c.P) (w := w1) ht' (A := some ⟨(μ r).blk, of, none⟩) (len := len) (cap := cap) (bnd_lo hl hlo) (bnd_hi (d := len) hl hhi) h0 h1 (by omega)
            simp [execOp, ho, hmx, e1, this, add_mk]
          · have hv' := SR.evl hl' x
            rw [hq] at hv'
            simp only [VR, hgr] at hv' ⊢
            obtain ⟨_, _, hv'⟩ := hv'
            rcases hv' with ⟨e1', _⟩ | ⟨of', cap', e1', g2', g3', g4', g5'⟩
            · rw [e1] at e1'; simp at e1'
            · rw [e1] at e1'
              simp only [Value.slice.injEq, Option.some.injEq, Addr.mk.injEq, and_true, true_and] at e1'
              obtain ⟨⟨q1, rfl⟩, rfl⟩ := e1'
              rw [q1]
              exact ⟨hr, by omega, SlR.slice_of (l := l.toNat) (u := u.toNat) (by omega) (by omega) g2' g3' g4' g5'⟩
      · simp at hx
    · simp at hx
  · rename_i l hm hq hlo
    have hmx : mx = none := by simpa using hm
    simp only [Option.bind_eq_some_iff] at hx
    obtain ⟨u, hhi, hx⟩ := hx
    split at hx
    · rename_i q ht
      simp only [Option.some.injEq] at hx; subst hx
      simp only [Bool.and_eq_true, decide_eq_true_eq] at hc
      obtain ⟨rfl, rfl⟩ := hc
      rw [hq] at hv
      refine OpOk.quiet hs (fun w1 hb1 => ?_) hput (fun μ' hl' _ => by simp [VR]) (v := .slice none 0 0)
      have := run_slice_slice (P := c.P) (w := w1) (t := t) (sz := q.1) (by simp [ht]) (A := none) (len := 0) (cap := 0) (bnd_lo (lo := lo) hl hlo) (bnd_hi (hi := hi) (d := 0) hl hhi) (by omega) (by omega) (by simp only [Int.natCast_zero]; omega)
      simp [execOp, ho, hmx, hv.p_eq, this]
    · simp at hx
  · simp at hx

theorem OpOk.quiet1 (hs : Sim c σ a w) {x : TV} {v : Value} {μ : Nat → Mu} (hH : HR w c.imm c.ok μ σ.h σ.n []) (hl : SR w c.imm c.ok μ σ.h σ.n σ.s a.tmps) (hg : VRl w c.imm c.ok μ σ.h σ.n c.gs c.gv)
    (hr : ∀ w1, Below w.heap.size w w1 → (execOp a.eval o).run c.P w1 = .ok (.value v) w1) (hput : sput c.m o.dst x σ.s = some s') (hv : VR w c.imm c.ok μ σ.h σ.n x v) : OpOk c o a w ⟨s', σ.h, σ.n⟩ :=
  ⟨_, _, hr w (Below.refl _ _), fun _ => hr, .inl ⟨v, rfl, Sim.put hs.fr hs.defers hs.size hH hl hg hv hput⟩⟩

theorem CT.win {imm ok : Nat → Prop} {cs : List TV} {us : List Value} {L : List Nat} {off m : Nat} (H : CT w imm ok cs us L) (hm : off + m ≤ cs.length) :
    ∃ u1 u2 u3 L1 L2 L3, us = u1 ++ (u2 ++ u3) ∧ L = L1 ++ (L2 ++ L3) ∧ u1.length = off ∧ u2.length = m ∧ CT w imm ok (cs.take off) u1 L1 ∧ CT w imm ok ((cs.drop off).take m) u2 L2 ∧ CT w imm ok (cs.drop (off + m)) u3 L3 := by
  rw [← List.take_append_drop off cs] at H
  obtain ⟨u1, u2, La, Lb, rfl, rfl, c1, c2⟩ := CT.app.1 H
  rw [← List.take_append_drop m (cs.drop off)] at c2
  obtain ⟨u3, u4, Lc, Ld, rfl, rfl, c3, c4⟩ := CT.app.1 c2
  have q1 := c1.length
  have q3 := c3.length
  rw [List.length_take] at q1
  rw [List.length_take, List.length_drop] at q3
  exact ⟨u1, u3, u4, La, Lc, Ld, rfl, rfl, by omega, by omega, c1, c3, by rwa [List.drop_drop] at c4⟩
theorem enc_length : ∀ {t : Ty} (x : den t), (encT t x).length = sz t
  | .int _, _ => rfl
  | .bool, _ => rfl
  | .str, _ => rfl
  | .un, _ => rfl
  | .pr a b, x => by simp only [encT, List.length_append, enc_length, sz]
  | .sl _, _ => rfl
  | .ref _, _ => rfl
  | .cl _ _, _ => rfl
theorem pack_val {g : Bool} {us : List Value} {b o : Nat} {t : TypeId} {m : Nat} {P : Program} (ht : tv P t = some (g, m)) (hl : us.length = m) (ha : At w b o us) (hg : g = true ∨ m = 1) :
    (loadVar t ⟨b, o, none⟩).run P w = .ok (if g then .agg us.toArray else us.headD undef) w := run_loadVar ht hl ha hg

theorem ok_load (hs : Sim c σ a w) {t : TypeId} {x : Operand} (ho : o.op = .load t x) (hx : ex c.P o.op (ev σ.s) σ.h σ.n = some A) (hc : A.c = true) (hput : sput c.m o.dst A.v (ks A σ.s) = some s') : OpOk c o a w ⟨s', A.h, A.n⟩ := by
  rw [ho] at hx
  simp only [ex, Option.bind_eq_some_iff] at hx
  obtain ⟨⟨g, m⟩, ht, hx⟩ := hx
  obtain ⟨_, _, _, μ, hH, hl, hg⟩ := id hs
  have hv := SR.evl hl x
  unfold loadS at hx
  obtain ⟨hgm, hx⟩ := cond_some.1 hx
  have hgm' : g = true ∨ m = 1 := by
    simp only [Bool.or_eq_true] at hgm
    rcases hgm with h | h
    · exact .inl h
    · exact .inr (Nat.eq_of_beq_eq_true h)
  simp only at hx
  split at hx
  · rename_i t0 l i off hq
    obtain ⟨hb, hx⟩ := cond_some.1 hx
    simp only [Option.some.injEq] at hx; subst hx
    simp only [decide_eq_true_eq] at hc
    have hle : off + m ≤ sz t0 := Nat.le_of_ble_eq_true hb
    rw [hq] at hv
    simp only [VR] at hv
    obtain ⟨b, of, e1, him, hte⟩ := hv
    obtain ⟨L1, L2, L3, hL, _, ⟨us, g1, g2⟩, _⟩ := RL.at (dflt t0) hc hte
    obtain ⟨_, hL2⟩ := nil_app hL
    obtain ⟨rfl, _⟩ := nil_app hL2.symm
    obtain ⟨u1, u2, u3, La, Lb, Lc, rfl, hLL, k1, k2, _, k3, _⟩ := g1.toCT.win (off := off) (m := m) (by rw [enc_length]; exact hle)
    obtain ⟨_, hLL⟩ := nil_app hLL
    obtain ⟨rfl, _⟩ := nil_app hLL.symm
    obtain ⟨_, g2⟩ := At.app.1 g2
    obtain ⟨g2, _⟩ := At.app.1 g2
    rw [k1] at g2
    refine OpOk.quiet1 hs hH hl hg (fun w1 hb1 => ?_) hput (pack_vr k3.vrl)
    simp [execOp, ho, Instr.loadAt, e1, Instr.sureAddr, pack_val ht k2 (g2.same (hb1.block _ (hs.lt _ (him (by rintro rfl; simp at hc))))) hgm']
  · rename_i r i off hq
    rw [hq] at hv
    simp only [VR] at hv
    obtain ⟨hr, B, e1, hm⟩ := hv
    split at hx
    · rename_i fr t0 l hgr
      obtain ⟨hb, hx⟩ := cond_some.1 hx
      simp only [Option.some.injEq] at hx; subst hx
      simp only [decide_eq_true_eq] at hc
      have hle : off + m ≤ sz t0 := Nat.le_of_ble_eq_true hb
      simp only [hgr] at hm; subst hm
      obtain ⟨L, hR⟩ := hH.row hgr
      have hbk := hR.bk (by rintro rfl; simp at hc)
      obtain ⟨L', rfl, q1, q2, q3⟩ := hR.rowd hbk
      obtain ⟨L1, L2, L3, hL, _, ⟨us, g1, g2⟩, _⟩ := RL.at (dflt t0) hc q3
      obtain ⟨u1, u2, u3, La, Lb, Lc, rfl, hLL, k1, k2, _, k3, _⟩ := g1.toCT.win (off := off) (m := m) (by rw [enc_length]; exact hle)
      obtain ⟨_, g2⟩ := At.app.1 g2
      obtain ⟨g2, _⟩ := At.app.1 g2
      rw [k1] at g2
      refine OpOk.quiet1 hs hH hl hg (fun w1 hb1 => ?_) hput (pack_vr (inn_vr hr hc hgr hbk (fun t' l' hmem => enc_hasSl (List.mem_of_mem_drop (List.mem_of_mem_take hmem))) k3 g2))
      simp [execOp, ho, Instr.loadAt, e1, Instr.sureAddr, pack_val ht k2 (g2.same (hb1.block _ q2.lt)) hgm']
    · rename_i cs hgr
      obtain ⟨hb, hx⟩ := cond_some.1 hx
      simp only [Option.some.injEq] at hx; subst hx
      have hle : off + m ≤ cs.length := Nat.le_of_ble_eq_true hb
      simp only [hgr] at hm; subst hm
      obtain ⟨L, hR⟩ := hH.row hgr
      simp only [RR] at hR
      obtain ⟨rfl, q1, q2, us, q3, q4⟩ := hR
      have k3 := (q3.drop off).take m
      have k2 : ((us.drop off).take m).length = m := by rw [List.length_take, List.length_drop, ← q3.length]; omega
      have g2 := q4.sub off m
      refine OpOk.quiet1 hs hH hl hg (fun w1 hb1 => ?_) hput (pack_vr k3)
      simp [execOp, ho, Instr.loadAt, e1, Instr.sureAddr, pack_val ht k2 (g2.same (hb1.block _ q2.lt)) hgm']
    · simp at hx
  · simp at hx
end
end Go.Tw
