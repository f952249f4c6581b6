/- A step of the typed logic of this claim is proved here: what an operation does to the data that slots and memory stand for. -/
import Derived.Test.YtmjacadeccoclaaT14
import Derived.IntWalk
set_option linter.all false
namespace Go.Tw
open Go Go.RowKit

section
variable {c : Cx} {σ : St} {a : Act} {w w' : World} {A : Ans} {o : Oper} {s' : List (Nat × TV)}

/-- A region that takes the place of others. -/
theorem OpOk.swap (hs : Sim c σ a w) {x : TV} {v : Value} {reg : Reg} {m : Mu} {h2 : Heap} {μ : Nat → Mu} {D : List Nat}
    (hst : stillB o.op = false) (hr : (execOp a.eval o).run c.P w = .ok (.value v) w') (hfr : Fr c w') (hl : SR w' c.imm c.ok μ h2 σ.n σ.s a.tmps) (hg : VRl w' c.imm c.ok μ h2 σ.n c.gs c.gv)
    (hH : HR w' c.imm c.ok μ h2 σ.n D)
    (hR : RR w' c.imm c.ok (muP μ σ.n m) ((σ.n, reg) :: h2) (σ.n + 1) σ.n reg D)
    (hV : VR w' c.imm c.ok (muP μ σ.n m) ((σ.n, reg) :: h2) (σ.n + 1) x v) (hput : sput c.m o.dst x σ.s = some s') :
    OpOk c o a w ⟨s', (σ.n, reg) :: h2, σ.n + 1⟩ := by
  have kp : Kept (fun _ => True) c.imm c.imm c.ok c.ok w' w' μ (muP μ σ.n m) h2 ((σ.n, reg) :: h2) σ.n (σ.n + 1) := Kept.cons (Kept.id (fun _ h => h) (fun _ h => h) (Nat.le_refl _))
  have hH2 := HR.attach (id := σ.n) (reg := reg) (D := []) (L := D) (by simpa using hH) (Nat.le_refl _) (Nat.lt_succ_self _) (fun r hr => kp.mu r hr) hR
  exact ⟨_, _, hr, fun e => (by rw [hst] at e; simp at e), .inl ⟨v, rfl, Sim.put hfr hs.defers hs.size hH2 (SR.mono kp hl) (vrl_gs kp c hg) hV hput⟩⟩

theorem muP_self (μ : Nat → Mu) (n : Nat) (m : Mu) : muP μ n m n = m := by simp [muP]

/-- Elements in a new block. -/
theorem app_new (hs : Sim c σ a w) (hst : stillB o.op = false) {μ : Nat → Mu} {h2 : Heap} {t : Ty} {xs : List (den t)} {us : List Value} {L : List Nat} {fr : Bool} {cap : Nat} {e : TypeId} {cells : Array Value} {w1 : World} (hw1 : Below w.heap.size w w1) (hw1s : w1.heap.size = w.heap.size)
    (hH : HR w c.imm c.ok μ h2 σ.n L) (hl : SR w c.imm c.ok μ h2 σ.n σ.s a.tmps) (hg : VRl w c.imm c.ok μ h2 σ.n c.gs c.gv) (hE : EL w (immf fr c.imm) c.ok t xs us L)
    (hcell : ∀ (j : Nat) u, us[j]? = some u → cells[j]? = some u) (hsz : cells.size = cap * sz t) (hcap : xs.length ≤ cap)
    (hr : (execOp a.eval o).run c.P w = .ok (.value (.slice (some ⟨w.heap.size, 0, none⟩) xs.length cap)) (w1.alloc (.cells cells e))) (hput : sput c.m o.dst (.full σ.n) σ.s = some s') :
    OpOk c o a w ⟨s', (σ.n, .row fr t xs) :: h2, σ.n + 1⟩ := by
  have hlt := hs.lt
  have hbw : Below w.heap.size w (w1.alloc (.cells cells e)) := hw1.trans ((below_alloc w1 _).mono (by omega))
  have kp := hH.kept_quiet hbw hlt (Nat.le_refl _)
  have hrow := Row.new w1 cells e
  rw [hw1s, hsz] at hrow
  have hok : c.ok w.heap.size := hs.new _ (Nat.le_refl _)
  have hle : xs.length * sz t ≤ cap * sz t := Nat.mul_le_mul_right _ hcap
  refine OpOk.swap hs (hst := hst) (m := ⟨w.heap.size, 0, true⟩) (D := [w.heap.size] ++ L) hr (hs.fr.below hbw) (SR.mono kp hl) (vrl_gs kp c hg) (HR.fresh hbw hlt hH (by simp) (by simp) (fun b hb => (hE.blocks b hb).2)) ?_ ?_ hput
  · simp only [RR, muP_self]
    refine .inr ⟨trivial, L, rfl, hok, by simpa using hrow.le hle, ?_⟩
    refine EL.toRL (hE.mono (fun _ h => h) (fun _ h => h) (fun b hb => hbw.block b (hlt b hb.2)) (fun b hb => hbw.block b (hE.blocks b hb).2)) ?_
    have := At.new w1 cells e (us := us) (o := 0) (fun j u hj => by simpa using hcell j u hj)
    rwa [hw1s] at this
  · simp only [VR, hget, muP_self, ↓reduceIte]
    exact ⟨by omega, .inr ⟨0, cap, rfl, hcap, rfl, hrow.le (Nat.zero_le _), fun _ => ⟨by simp, by simpa using hrow⟩⟩⟩

theorem append_core (hs : Sim c σ a w) {cl : Call} (ho : o.op = .call cl) (hcl : cl.callee = .builtin .append) {s x : Operand} {tt t2 : TypeId} {rest : List TypeId} {d2 : TypeDesc}
    (hargs : cl.args.toList = [s, x]) (htypes : cl.argTypes.toList = tt :: t2 :: rest) (h2 : c.P.underlying t2 = some d2) (hd2 : d2 = .string ∨ ∃ e, d2 = .slice e)
    (hx : appendS c.P tt (ev σ.s s) (ev σ.s x) σ.h σ.n = some A) (hc : A.c = true) (hput : sput c.m o.dst A.v (ks A σ.s) = some s') : OpOk c o a w ⟨s', A.h, A.n⟩ := by
  have hlt := hs.lt
  obtain ⟨hfr, hd, hsz, μ, hH, hl, hgs⟩ := id hs
  have hio : ∀ b, c.imm b → ¬ c.ok b := c.immok
  have hrun : ∀ {v w'}, (Builtin.append_ (tt :: t2 :: rest).toArray o.type #[a.eval s, a.eval x]).run c.P w = .ok v w' → (execOp a.eval o).run c.P w = .ok (.value v) w' := by
    intro v w' h
    refine run_builtin_append ho hcl ?_
    have e1 : cl.argTypes = (tt :: t2 :: rest).toArray := by rw [← htypes]
    have e2 : cl.args.map a.eval = #[a.eval s, a.eval x] := by
      have : cl.args = [s, x].toArray := by rw [← hargs]
      rw [this]; simp
    rw [e1, e2]; exact h
  have hvs := SR.evl hl s
  have hvx := SR.evl hl x
  unfold appendS at hx
  split at hx
  · rename_i size bytes z et ht hel
    obtain ⟨hb, hx⟩ := cond_some.1 hx
    have hsz : sz et = size := Nat.eq_of_beq_eq_true hb
    obtain ⟨_, _, _, _, _, _, _, _, _, hzl, hs0, hb0, hzone⟩ := tsl_some ht
    simp only [Option.bind_eq_some_iff] at hx
    obtain ⟨⟨xs, fx, h1⟩, hxs, hx⟩ := hx
    obtain ⟨news, L, hsrc, hH1, hE, hsub⟩ := elems_ok hH hvx hxs
    rw [hsz] at hsrc
    have kp1 : Kept (fun _ => True) c.imm c.imm c.ok c.ok w w μ μ σ.h h1 σ.n σ.n := Kept.sub hsub
    have hl1 : SR w c.imm c.ok μ h1 σ.n σ.s a.tmps := SR.mono kp1 hl
    have hg1 : VRl w c.imm c.ok μ h1 σ.n c.gs c.gv := vrl_gs kp1 c hgs
    have hone := hE.one
    -- nothing was there
    have hnil : ∀ {h3 : Heap} {fr : Bool}, a.eval s = .slice none 0 0 → HR w c.imm c.ok μ h3 σ.n L → SR w c.imm c.ok μ h3 σ.n σ.s a.tmps → VRl w c.imm c.ok μ h3 σ.n c.gs c.gv → (fx = false → fr = false) → xs.length * bytes ≤ 1099511627776 → sput c.m o.dst (.full σ.n) σ.s = some s' →
        OpOk c o a w ⟨s', (σ.n, .row fr et xs) :: h3, σ.n + 1⟩ := by
      intro h3 fr evs hH3 hl3 hg3 hfr3 hbig hput
      by_cases hx0 : xs = []
      · subst hx0
        obtain ⟨rfl, rfl⟩ := hE
        have hr := run_append_nil (P := c.P) (w := w) (ty := o.type) (rest := rest) ht h2 hd2 (x := a.eval x) (news := []) (by simpa using hsrc)
        rw [← evs] at hr
        refine OpOk.swap hs (hst := by simp [ho, stillB, hcl]) (m := ⟨0, 0, false⟩) (D := []) (hrun hr) hfr hl3 hg3 hH3 ?_ ?_ hput
        · simp only [RR, muP_self]; exact .inl ⟨trivial, trivial, trivial⟩
        · simp only [VR, hget, muP_self, ↓reduceIte]
          exact ⟨by omega, .inl ⟨evs, rfl⟩⟩
      · have hn : 0 < xs.length := List.length_pos_iff.2 hx0
        obtain ⟨cap, e, hcap, hr⟩ := run_append_out (P := c.P) (ty := o.type) (rest := rest) ht h2 hd2 (base := none) (sLen := 0) (sCap := 0) (olds := []) hsrc ⟨by simp, .inl ⟨0, rfl, rfl⟩⟩ (by omega) (by simp; omega)
        rw [← evs] at hr
        simp only [Nat.zero_add] at hr hcap
        refine app_new hs (by simp [ho, stillB, hcl]) (fr := fr) (cap := cap) (w1 := w.drew) (by exact (Below.refl _ _).drew) rfl hH3 hl3 hg3 (hE.mono (fun b hb => immf_mono hfr3 hb) (fun _ h => h) (fun _ _ => rfl) (fun _ _ => rfl)) (us := news) ?_ ?_ hcap (hrun hr) hput
        · intro j u hj
          have hjl : j < news.length := by
            rcases Nat.lt_or_ge j news.length with h | h
            · exact h
            · rw [List.getElem?_eq_none h] at hj; simp at hj
          rw [Array.getElem?_append_left (by simpa using hjl)]; simpa using hj
        · simp only [Array.size_append, List.nil_append, List.size_toArray, size_zeroCells, hsrc.1, hzl, ← Nat.add_mul, hsz]; congr 1; omega
    -- a region's slice
    have hreg : ∀ {r off len : Nat} {fr : Bool} {l : List (den et)}, hget h1 r = some (.row fr et l) → off + len ≤ l.length → SlR w (μ r) (sz et) off len (a.eval s) → (len + xs.length) * bytes ≤ 1099511627776 → sput c.m o.dst (.full σ.n) σ.s = some s' →
        OpOk c o a w ⟨s', (σ.n, .row (fr && fx) et ((l.drop off).take len ++ xs)) :: hdel h1 r, σ.n + 1⟩ := by
      intro r off len fr l hg hle hsl hbig hput
      obtain ⟨L0, hR0, hH2⟩ := hH1.detach hg
      have kp2 : Kept (fun _ => True) c.imm c.imm c.ok c.ok w w μ μ h1 (hdel h1 r) σ.n σ.n := Kept.sub (fun _ _ => hsub_hdel)
      have hl2 := SR.mono kp2 hl1
      have hg2 := vrl_gs kp2 c hg1
      have hlen : ((l.drop off).take len).length = len := by simp; omega
      have hmm : ∀ b, immf fr c.imm b → immf (fr && fx) c.imm b := fun b hb => immf_mono (fun e => by simp [e]) hb
      have hmx : ∀ b, immf fx c.imm b → immf (fr && fx) c.imm b := fun b hb => immf_mono (fun e => by simp [e]) hb
      have hEx : EL w (immf (fr && fx) c.imm) c.ok et xs news L := hE.mono hmx (fun _ h => h) (fun _ _ => rfl) (fun _ _ => rfl)
      rcases id hsl with ⟨evs, rfl⟩ | ⟨of, cap0, evs, q1, q2, q3, q4⟩
      · have := hnil (fr := fr && fx) evs (hH2.dsub (List.sublist_append_right L0 L)) hl2 hg2 (fun e => by simp [e]) (by simpa using hbig) hput
        simpa using this
      · obtain ⟨L1, rfl, g1, g2, g3⟩ := hR0.rowd q2
        obtain ⟨La, L2, Lc, rfl, k2⟩ := RL.sub off len (by omega) g3
        obtain ⟨olds, e1, e2⟩ := RL.toEL k2
        have holl := e1.length
        rw [hlen] at holl
        have hEo : EL w (immf (fr && fx) c.imm) c.ok et ((l.drop off).take len) olds L2 := e1.mono hmm (fun _ h => h) (fun _ _ => rfl) (fun _ _ => rfl)
        have hEall := hEo.app hEx
        have hD : HR w c.imm c.ok μ (hdel h1 r) σ.n ((μ r).blk :: (L2 ++ L)) := by
          refine hH2.dsub ?_
          refine List.Sublist.cons_cons _ (List.Sublist.append ?_ (List.Sublist.refl _))
          exact (List.sublist_append_left L2 Lc).trans (List.sublist_append_right La _)
        have hzn : cap0 = 0 → olds = [] := fun hz => by
          have : len = 0 := by omega
          subst this
          exact List.eq_nil_of_length_eq_zero (by simpa using holl)
        by_cases hfit : len + xs.length ≤ cap0
        · -- room
          by_cases hcap : cap0 = 0
          · have hl0 : len = 0 := by omega
            have hx0 : xs = [] := List.eq_nil_of_length_eq_zero (by omega)
            subst hl0 hx0
            obtain ⟨rfl, rfl⟩ := hE
            have ho := hzn hcap
            subst ho
            have hr := run_append_in (P := c.P) (w := w) (ty := o.type) (rest := rest) ht h2 hd2 (b := (μ r).blk) (o := of) (sLen := 0) (sCap := cap0) (x := a.eval x) (news := []) hsrc (by simpa using hfit) (by simpa using q3) (by simp)
            rw [← evs] at hr
            simp only [setCells] at hr
            refine OpOk.swap hs (hst := by simp [ho, stillB, hcl]) (m := ⟨(μ r).blk, of, true⟩) (D := [(μ r).blk]) (hrun hr) hfr hl2 hg2 (hD.dsub (by simp)) ?_ ?_ hput
            · simp only [RR, muP_self]
              exact .inr ⟨trivial, [], rfl, g1, by simpa using q3, by simp [RL]⟩
            · simp only [VR, hget, muP_self, ↓reduceIte]
              exact ⟨by omega, .inr ⟨of, cap0, rfl, by simp, rfl, q3, fun hp => by omega⟩⟩
          · obtain ⟨m6, m7⟩ := q4 (by omega)
            have hlc : (len + xs.length) * sz et ≤ cap0 * sz et := Nat.mul_le_mul_right _ hfit
            have hrow := m7.le (m' := of + (len + xs.length) * sz et) (by omega)
            have hr := run_append_in (P := c.P) (w := w) (ty := o.type) (rest := rest) ht h2 hd2 (b := (μ r).blk) (o := of) (sLen := len) (sCap := cap0) hsrc hfit (by rw [← hsz]; exact hrow) hone
            rw [← evs] at hr
            rw [← hsz] at hr hsrc
            have hstep : Step c.imm w (setCells w (μ r).blk (of + len * sz et) news) := setCells_step _ _ (fun hb => hio _ hb g1)
            have hnd := hD.nodup
            obtain ⟨hH3, kp3⟩ := hD.dset hstep (fun k hk _ => setCells_heap _ _ _ _ _ (fun e => hk (by simp [e])))
            have hsame : ∀ k ∈ L2 ++ L, (setCells w (μ r).blk (of + len * sz et) news).heap[k]? = w.heap[k]? := fun k hk => by
              have hne : k ≠ (μ r).blk := by rintro rfl; exact (List.nodup_cons.1 hnd).1 hk
              exact setCells_heap _ _ _ _ _ hne
            refine OpOk.swap hs (hst := by simp [ho, stillB, hcl]) (m := ⟨(μ r).blk, of, true⟩) (D := (μ r).blk :: (L2 ++ L)) (hrun hr) (hfr.set news g1) (SR.mono kp3 hl2) (vrl_gs kp3 c hg2) hH3 ?_ ?_ hput
            · simp only [RR, muP_self]
              refine .inr ⟨trivial, L2 ++ L, rfl, g1, ?_, ?_⟩
              · rw [List.length_append, hlen]; exact setCells_row _ _ _ _ hrow
              · refine EL.toRL (hEall.mono (fun _ h => h) (fun _ h => h) (fun b hb => hstep.low b hb.2) hsame) (At.app.2 ⟨fun j u hj => ?_, ?_⟩)
                · have hjl : j < olds.length := by
                    rcases Nat.lt_or_ge j olds.length with h | h
                    · exact h
                    · rw [List.getElem?_eq_none h] at hj; simp at hj
                  rw [setCells_cell _ _ _ _ _ (by left; omega), m6]
                  exact e2 j u hj
                · rw [holl]
                  have := setCells_get news w (μ r).blk (of + len * sz et) (hrow.le (by rw [hsrc.1, Nat.add_mul]; omega))
                  exact this
            · simp only [VR, hget, muP_self, ↓reduceIte]
              exact ⟨by omega, .inr ⟨of, cap0, by simp [hlen], by simp [hlen]; omega, rfl, setCells_row _ _ _ _ q3, fun hp => ⟨by simp, setCells_row _ _ _ _ m7⟩⟩⟩
        · -- a new row
          have hsrcO : Src w size (.slice (some ⟨(μ r).blk, of, none⟩) len cap0) len olds := by
            refine ⟨by rw [← hsz]; exact holl, .inr (.inl ⟨_, _, rfl, fun j u hj => ?_⟩)⟩
            have hl0 : 0 < cap0 := by
              rcases Nat.eq_zero_or_pos cap0 with h0 | h0
              · have := hzn h0; subst this; simp at hj
              · exact h0
            rw [add_mk, (q4 hl0).1]
            exact e2 j u hj
          obtain ⟨cap, e, hcap, hr⟩ := run_append_out (P := c.P) (w := w) (ty := o.type) (rest := rest) ht h2 hd2 hsrc hsrcO hfit (by omega)
          rw [← evs] at hr
          have hD2 : HR w c.imm c.ok μ (hdel h1 r) σ.n (L2 ++ L) := hD.dsub (List.sublist_cons_self _ _)
          refine app_new hs (by simp [ho, stillB, hcl]) (fr := fr && fx) (cap := cap) (w1 := w.drew) (by exact (Below.refl _ _).drew) rfl hD2 hl2 hg2 hEall ?_ ?_ (by simp [hlen]; omega) (by rw [List.length_append, hlen]; exact hrun hr) hput
          · intro j u hj
            have hjl : j < (olds ++ news).length := by
              rcases Nat.lt_or_ge j (olds ++ news).length with h | h
              · exact h
              · rw [List.getElem?_eq_none h] at hj; simp at hj
            rw [Array.getElem?_append_left (by simpa using hjl)]; simpa using hj
          · simp only [Array.size_append, List.length_append, List.size_toArray, size_zeroCells, hsrc.1, holl, hzl, ← Nat.add_mul, hsz]; congr 1; omega
    split at hx
    · rename_i hsv
      simp only [Option.some.injEq] at hx; subst hx
      simp only [decide_eq_true_eq] at hc
      rw [hsv] at hvs
      exact hnil hvs.p_eq hH1 hl1 hg1 (fun h => h) hc hput
    · rename_i r hsv
      split at hx
      · rename_i fr t' l hg
        simp only [Option.bind_eq_some_iff, Option.some.injEq] at hx
        obtain ⟨l', hcst, rfl⟩ := hx
        obtain ⟨rfl, rfl⟩ := cast_some hcst
        simp only [decide_eq_true_eq] at hc
        rw [hsv] at hvs
        simp only [VR, hsub _ _ hg] at hvs
        have := hreg (off := 0) (len := l.length) hg (by omega) hvs.2 hc hput
        simpa using this
      · simp at hx
    · rename_i r off len hsv
      split at hx
      · rename_i fr t' l hg
        simp only [Option.bind_eq_some_iff, Option.some.injEq] at hx
        obtain ⟨l', hcst, rfl⟩ := hx
        obtain ⟨rfl, rfl⟩ := cast_some hcst
        simp only [decide_eq_true_eq] at hc
        rw [hsv] at hvs
        simp only [VR, hsub _ _ hg] at hvs
        exact hreg hg hvs.2.1 hvs.2.2 hc hput
      · simp at hx
    · simp at hx
  · simp at hx

theorem run_append_zero {P : Program} {tt t2 ty : TypeId} {k2 kk : IntKind} {size bytes : Nat} {z : List Value} (ht : tsl P tt = some (size, bytes, z)) (h2 : P.underlying t2 = some (.int k2)) {b : Int} (h0 : 0 < b) (hbig : (bytes : Int) * b ≤ 1099511627776) {rest : List TypeId} :
    ∃ cap e, b.toNat ≤ cap ∧ (Builtin.append_ (tt :: t2 :: rest).toArray ty #[.slice none 0 0, .int kk b]).run P w =
      .ok (.slice (some ⟨w.heap.size, 0, none⟩) b.toNat cap) (w.drew.alloc (.cells (Builtin.zeroCells z.toArray b.toNat ++ Builtin.zeroCells z.toArray (cap - b.toNat)) e)) := by
  obtain ⟨e, i, zv, hu, hi, hz, rfl, hsz, hby, hzl, hs0, hb0, _⟩ := tsl_some ht
  subst hsz; subst hby
  obtain ⟨n, rfl⟩ : ∃ n : Nat, b = (n : Int) := ⟨b.toNat, by omega⟩
  have hbn : i.bytes * n ≤ 1099511627776 := by
    rw [← Int.natCast_mul] at hbig; omega
  have hn0 : 0 < n := by omega
  have hle : n ≤ n * i.bytes := Nat.le_mul_of_pos_right _ (Nat.pos_of_ne_zero hb0)
  rw [Nat.mul_comm] at hbn
  have hw : IntKind.wrap .i64 (n : Int) = n := IntWalk.i64_in _ (by omega)
  have hl48 : ¬ (281474976710656 < (n : Int) * (i.bytes : Int)) := by
    rw [← Int.natCast_mul]; omega
  have hneg : ¬ ((n : Int) < 0) := by omega
  have h63 : ¬ (9223372036854775807 < (n : Int)) := by omega
  have h48 : ¬ (281474976710656 < Builtin.nextslicecap n 0 * i.bytes) := by
    have := growslice_fits (need := n) (old := 0) (bytes := i.bytes) (by omega) (by omega)
    omega
  have hns : n * i.size ≠ 0 := Nat.mul_ne_zero (by omega) hs0
  have hnz : n ≠ 0 := by omega
  have hfit : ¬ n ≤ 0 := by omega
  have ha : ∀ w', (asInt (.int kk (n : Int))).run P w' = .ok (n : Int) w' := fun w' => by simp [asInt, asIntOf]
  refine ⟨grownCap w n 0 e, e, grownCap_ge _ _ _ _, ?_⟩
  simp [Builtin.append_, underlying, hu, h2, sizeOf, typeInfo, zeroValue, hi, hz, ha, hw, hl48, hneg, h63, h48, hnz, hs0, Builtin.firstCells, Question.forced, newRow, grownCap]
  exact fun h => absurd h hns

theorem rep_el {w : World} {imm ok : Nat → Prop} {t : Ty} {d : den t} {us : List Value} (h : TRl w imm ok t d us []) : ∀ n, EL w imm ok t (List.replicate n d) (List.replicate n us).flatten []
  | 0 => ⟨rfl, rfl⟩
  | n + 1 => by
    rw [List.replicate_succ, List.replicate_succ, List.flatten_cons]
    exact ⟨us, _, [], [], rfl, rfl, h, rep_el h n⟩

theorem appendZ_core (hs : Sim c σ a w) {cl : Call} (ho : o.op = .call cl) (hcl : cl.callee = .builtin .append) {s x : Operand} {tt t2 : TypeId} {rest : List TypeId} {k2 : IntKind}
    (hargs : cl.args.toList = [s, x]) (htypes : cl.argTypes.toList = tt :: t2 :: rest) (h2 : c.P.underlying t2 = some (.int k2))
    (hx : appendZ c.P tt (ev σ.s s) (ev σ.s x) σ.h σ.n = some A) (hc : A.c = true) (hput : sput c.m o.dst A.v (ks A σ.s) = some s') : OpOk c o a w ⟨s', A.h, A.n⟩ := by
  obtain ⟨hfr, hd, hsz, μ, hH, hl, hgs⟩ := id hs
  have hrun : ∀ {v w'}, (Builtin.append_ (tt :: t2 :: rest).toArray o.type #[a.eval s, a.eval x]).run c.P w = .ok v w' → (execOp a.eval o).run c.P w = .ok (.value v) w' := by
    intro v w' h
    refine run_builtin_append ho hcl ?_
    have e1 : cl.argTypes = (tt :: t2 :: rest).toArray := by rw [← htypes]
    have e2 : cl.args.map a.eval = #[a.eval s, a.eval x] := by
      have : cl.args = [s, x].toArray := by rw [← hargs]
      rw [this]; simp
    rw [e1, e2]; exact h
  have hvs := SR.evl hl s
  have hvx := SR.evl hl x
  unfold appendZ at hx
  split at hx
  · rename_i size bytes z et kk b ht hel es ex
    simp only [Option.bind_eq_some_iff] at hx
    obtain ⟨d, hd1, hx⟩ := hx
    obtain ⟨hb, hx⟩ := cond_some.1 hx
    simp only [Option.some.injEq] at hx; subst hx
    have hszz : sz et = size := Nat.eq_of_beq_eq_true hb
    simp only [Bool.and_eq_true, decide_eq_true_eq] at hc
    rw [es] at hvs; rw [ex] at hvx
    have evs := hvs.p_eq
    have evx := hvx.p_eq
    obtain ⟨e, i, zv, hu, hi, hz, rfl, hsz2, hby, hzl, hs0, hb0, hone⟩ := tsl_some ht
    by_cases hb00 : b = 0
    · subst hb00
      have hr : (Builtin.append_ (tt :: t2 :: rest).toArray o.type #[.slice none 0 0, .int kk 0]).run c.P w = .ok (.slice none 0 0) w := by
        simp [Builtin.append_, underlying, hu, h2, sizeOf, typeInfo, hi, asInt, asIntOf, show IntKind.wrap .i64 0 = 0 from rfl]
      rw [← evs, ← evx] at hr
      refine OpOk.swap hs (hst := by simp [ho, stillB, hcl]) (m := ⟨0, 0, false⟩) (D := []) (hrun hr) hfr hl hgs hH ?_ ?_ hput
      · simp only [RR, muP_self]; exact .inl ⟨trivial, by simp, trivial⟩
      · simp only [VR, hget, muP_self, ↓reduceIte]
        exact ⟨by omega, .inl ⟨evs, by simp⟩⟩
    · obtain ⟨cap, e2, hcap, hr⟩ := run_append_zero (P := c.P) (w := w) (ty := o.type) (rest := rest) (kk := kk) ht h2 (b := b) (by omega) hc.2
      rw [← evs, ← evx] at hr
      have hct : TRl w (immf true c.imm) c.ok et d zv.cells.toList [] := CT.dec1 hd1 (CT.pmap _)
      have hzl2 : zv.cells.toList.length = sz et := hct.length
      have hE := rep_el hct b.toNat
      have hr' := hrun hr
      have hlr : (List.replicate b.toNat d).length = b.toNat := by simp
      rw [← hlr] at hr'
      refine app_new hs (by simp [ho, stillB, hcl]) (fr := true) (cap := cap) (w1 := w.drew) (by exact (Below.refl _ _).drew) rfl hH hl hgs hE (us := (List.replicate b.toNat zv.cells.toList).flatten) ?_ ?_ (by simpa using hcap) (by simpa using hr') hput
      · intro j u hj
        have hz0 : zv.cells.toList.length ≠ 0 := by rw [hzl2, hszz]; exact hs0
        have hjl : j < b.toNat * zv.cells.toList.length := by
          rcases Nat.lt_or_ge j (b.toNat * zv.cells.toList.length) with h | h
          · exact h
          · rw [List.getElem?_eq_none (by simpa using h)] at hj; simp at hj
        rw [rep_flat_get _ hz0 _ _ hjl] at hj
        have hjl2 : j < b.toNat * zv.cells.size := by simpa using hjl
        rw [Array.getElem?_append_left (by simpa [size_zeroCells] using hjl2)]
        have hm : j % zv.cells.size < zv.cells.size := Nat.mod_lt _ (Nat.pos_of_ne_zero (by simpa using hz0))
        have hj2 : zv.cells[j % zv.cells.size]? = some u := by simpa using hj
        simp only [Builtin.zeroCells]
        simp only [Array.getElem?_map, List.size_toArray, Array.length_toList, Array.getElem?_range, hjl2, ↓reduceIte, Option.map_some, List.getElem!_toArray, Option.some.injEq]
        rw [Array.getElem?_eq_getElem hm] at hj2
        simp only [Option.some.injEq] at hj2
        rw [← hj2]
        simp [hm]
      · have hzs : zv.cells.toList.toArray.size = sz et := by simpa using hzl2
        simp only [Array.size_append, size_zeroCells, hzs, ← Nat.add_mul]; congr 1; omega
  · simp at hx

theorem ok_append (hs : Sim c σ a w) {cl : Call} (ho : o.op = .call cl) (hcl : cl.callee = .builtin .append) (hx : ex c.P o.op (ev σ.s) σ.h σ.n = some A) (hc : A.c = true) (hput : sput c.m o.dst A.v (ks A σ.s) = some s') : OpOk c o a w ⟨s', A.h, A.n⟩ := by
  rw [ho] at hx
  simp only [ex, hcl] at hx
  split at hx
  · rename_i s x tt t2 rest hargs htypes
    split at hx
    · rename_i e h2
      exact append_core hs ho hcl hargs htypes h2 (.inr ⟨e, rfl⟩) hx hc hput
    · rename_i h2
      exact append_core hs ho hcl hargs htypes h2 (.inl rfl) hx hc hput
    · rename_i h2
      exact appendZ_core hs ho hcl hargs htypes h2 hx hc hput
    · simp at hx
  · simp at hx
end
end Go.Tw
