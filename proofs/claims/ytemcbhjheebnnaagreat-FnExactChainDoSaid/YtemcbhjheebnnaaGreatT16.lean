/- The logic: a step. -/
import Derived.Test.YtemcbhjheebnnaaGreatT14
import Derived.IntWalk
import Derived.MapFrom
set_option linter.all false
namespace Go.Tw
open Go Go.RowKit
open Go.IntKind renaming wrap → Wr
variable [k7]
section
variable {c : Cx} {σ : St} {a : Act} {w w' : World} {A : lp} {o : Oper} {s' : List (Nat × TV)}
theorem bR.swap (hs : dH c σ a w) {x : TV} {v : Value} {bh : dq} {m : Mu} {h2 : ay} {μ : Nat → Mu} {D : List Nat}
    (hst : stillB o.op = false) (hr : (execOp a.eval o).run c.P w = .ok (.value v) w') (hfr : Fr c w') (hl : SR w' c.ab c.ok μ h2 σ.n σ.s a.tmps) (hg : VRl w' c.ab c.ok μ h2 σ.n c.gs c.gv)
    (hH : HR w' c.ab c.ok μ h2 σ.n D)
    (hR : RR w' c.ab c.ok (kh μ σ.n m) ((σ.n, bh) :: h2) (σ.n + 1) σ.n bh D)
    (hV : VR w' c.ab c.ok (kh μ σ.n m) ((σ.n, bh) :: h2) (σ.n + 1) x v) (hput : sput c.m o.dst x σ.s = some s') :
    bR c o a w ⟨s', (σ.n, bh) :: h2, σ.n + 1⟩ := by
  have kp : Kept (fun _ => True) c.ab c.ab c.ok c.ok w' w' μ (kh μ σ.n m) h2 ((σ.n, bh) :: h2) σ.n (σ.n + 1) := Kept.cons (Kept.id (fun _ h => h) (fun _ h => h) (Nat.le_refl _))
  have hH2 := HR.attach (id := σ.n) (bh := bh) (D := []) (L := D) (by simpa using hH) (Nat.le_refl _) (Nat.lt_succ_self _) (fun r hr => kp.mu r hr) hR
  exact ⟨_, _, hr, fun e => (by rw [hst] at e; simp at e), .inl ⟨v, rfl, dH.put hfr hs.defers hs.size hH2 (SR.mono kp hl) (dm kp c hg) hV hput⟩⟩
theorem cf (μ : Nat → Mu) (n : Nat) (m : Mu) : kh μ n m n = m := by simp [kh]
theorem qM (hs : dH c σ a w) (hst : stillB o.op = false) {μ : Nat → Mu} {h2 : ay} {t : Ty} {xs : List (den t)} {us : List Value} {L : List Nat} {fr : Bool} {cap : Nat} {e : TypeId} {cells : Array Value} {w1 : World} (hw1 : Below w.heap.size w w1) (hw1s : w1.heap.size = w.heap.size)
    (hH : HR w c.ab c.ok μ h2 σ.n L) (hl : SR w c.ab c.ok μ h2 σ.n σ.s a.tmps) (hg : VRl w c.ab c.ok μ h2 σ.n c.gs c.gv) (hE : EL w (cI fr c.ab) c.ok t xs us L)
    (hcell : ∀ (j : Nat) u, us[j]? = some u → cells[j]? = some u) (hsz : cells.size = cap * sz t) (hcap : xs.length ≤ cap)
    (hr : (execOp a.eval o).run c.P w = .ok (.value (.slice (some ⟨w.heap.size, 0, none⟩) xs.length cap)) (w1.alloc (.cells cells e))) (hput : sput c.m o.dst (.full σ.n) σ.s = some s') :
    bR c o a w ⟨s', (σ.n, .row fr t xs) :: h2, σ.n + 1⟩ := by
  have hlt := hs.lt
  have hbw : Below w.heap.size w (w1.alloc (.cells cells e)) := hw1.trans ((j0 w1 _).mono (by omega))
  have kp := hH.fQ hbw hlt (Nat.le_refl _)
  have hrow := Row.new w1 cells e
  rw [hw1s, hsz] at hrow
  have hok : c.ok w.heap.size := hs.new _ (Nat.le_refl _)
  have hle : xs.length * sz t ≤ cap * sz t := Nat.mul_le_mul_right _ hcap
  refine bR.swap hs (hst := hst) (m := ⟨w.heap.size, 0, true⟩) (D := [w.heap.size] ++ L) hr (hs.fr.below hbw) (SR.mono kp hl) (dm kp c hg) (HR.fresh hbw hlt hH (by simp) (by simp) (fun b hb => (hE.blocks b hb).2)) ?_ ?_ hput
  · simp only [RR, cf]
    refine .inr ⟨trivial, L, rfl, hok, by simpa using hrow.le hle, ?_⟩
    refine EL.JP (hE.mono (fun _ h => h) (fun _ h => h) (fun b hb => hbw.block b (hlt b hb.2)) (fun b hb => hbw.block b (hE.blocks b hb).2)) ?_
    have := At.new w1 cells e (us := us) (o := 0) (fun j u hj => by simpa using hcell j u hj)
    rwa [hw1s] at this
  · simp only [VR, hget, cf, ↓reduceIte]
    exact ⟨by omega, .inr ⟨0, cap, rfl, hcap, rfl, hrow.le (Nat.zero_le _), fun _ => ⟨by simp, by simpa using hrow⟩⟩⟩
theorem qi (hs : dH c σ a w) {cl : Call} (ho : o.op = .call cl) (hcl : cl.callee = .builtin .append) {s x : Operand} {tt t2 : TypeId} {rest : List TypeId} {d2 : TypeDesc}
    (hargs : cl.args.toList = [s, x]) (htypes : cl.argTypes.toList = tt :: t2 :: rest) (h2 : c.P.underlying t2 = some d2) (hd2 : d2 = .string ∨ ∃ e, d2 = .slice e)
    (hx : appendS c.P tt (ev σ.s s) (ev σ.s x) σ.h σ.n = some A) (hc : A.c = true) (hput : sput c.m o.dst A.v (ks A σ.s) = some s') : bR c o a w ⟨s', A.h, A.n⟩ := by
  have hlt := hs.lt
  obtain ⟨hfr, hd, hsz, μ, hH, hl, hgs⟩ := id hs
  have hio : ∀ b, c.ab b → ¬ c.ok b := c.iZ
  have hrun : ∀ {v w'}, (Builtin.append_ (tt :: t2 :: rest).toArray o.type #[a.eval s, a.eval x]).run c.P w = .ok v w' → (execOp a.eval o).run c.P w = .ok (.value v) w' := by
    intro v w' h
    refine kW ho hcl ?_
    have e1 : cl.argTypes = (tt :: t2 :: rest).toArray := by rw [← htypes]
    have e2 : cl.args.map a.eval = #[a.eval s, a.eval x] := by
      have : cl.args = [s, x].toArray := by rw [← hargs]
      rw [this]; simp
    rw [e1, e2]; exact h
  have hvs := SR.iR hl s
  have hvx := SR.iR hl x
  unfold appendS at hx
  split at hx
  · rename_i size bytes z et ht hel
    obtain ⟨hb, hx⟩ := ah.1 hx
    have hsz : sz et = size := Nat.eq_of_beq_eq_true hb
    obtain ⟨_, _, _, _, _, _, _, _, _, hzl, hs0, hb0, hzone⟩ := iK ht
    simp only [ax] at hx
    obtain ⟨⟨xs, fx, h1⟩, hxs, hx⟩ := hx
    obtain ⟨news, L, hsrc, hH1, hE, hsub⟩ := v7 hH hvx hxs
    rw [hsz] at hsrc
    have kp1 : Kept (fun _ => True) c.ab c.ab c.ok c.ok w w μ μ σ.h h1 σ.n σ.n := Kept.sub hsub
    have hl1 : SR w c.ab c.ok μ h1 σ.n σ.s a.tmps := SR.mono kp1 hl
    have hg1 : VRl w c.ab c.ok μ h1 σ.n c.gs c.gv := dm kp1 c hgs
    have hone := hE.one
    have hnil : ∀ {h3 : ay} {fr : Bool}, a.eval s = .slice none 0 0 → HR w c.ab c.ok μ h3 σ.n L → SR w c.ab c.ok μ h3 σ.n σ.s a.tmps → VRl w c.ab c.ok μ h3 σ.n c.gs c.gv → (fx = false → fr = false) → xs.length * bytes ≤ 1099511627776 → sput c.m o.dst (.full σ.n) σ.s = some s' →
        bR c o a w ⟨s', (σ.n, .row fr et xs) :: h3, σ.n + 1⟩ := by
      intro h3 fr evs hH3 hl3 hg3 hfr3 hbig hput
      by_cases hx0 : xs = []
      · subst hx0
        obtain ⟨rfl, rfl⟩ := hE
        have hr := run_append_nil (P := c.P) (w := w) (ty := o.type) (rest := rest) ht h2 hd2 (x := a.eval x) (news := []) (by simpa using hsrc)
        rw [← evs] at hr
        refine bR.swap hs (hst := by simp [ho, stillB, hcl]) (m := ⟨0, 0, false⟩) (D := []) (hrun hr) hfr hl3 hg3 hH3 ?_ ?_ hput
        · simp only [RR, cf]; exact .inl ⟨trivial, trivial, trivial⟩
        · simp only [VR, hget, cf, ↓reduceIte]
          exact ⟨by omega, .inl ⟨evs, rfl⟩⟩
      · have hn : 0 < xs.length := List.length_pos_iff.2 hx0
        obtain ⟨cap, e, hcap, hr⟩ := nj (P := c.P) (ty := o.type) (rest := rest) ht h2 hd2 (base := none) (sLen := 0) (sCap := 0) (olds := []) hsrc ⟨by simp, .inl ⟨0, rfl, rfl⟩⟩ (by omega) (by simp; omega)
        rw [← evs] at hr
        simp only [Nat.zero_add] at hr hcap
        refine qM hs (by simp [ho, stillB, hcl]) (fr := fr) (cap := cap) (w1 := w.drew) (by exact (Below.refl _ _).drew) rfl hH3 hl3 hg3 (hE.mono (fun b hb => iv hfr3 hb) (fun _ h => h) (fun _ _ => rfl) (fun _ _ => rfl)) (us := news) ?_ ?_ hcap (hrun hr) hput
        · intro j u hj
          have hjl : j < news.length := by
            rcases Nat.lt_or_ge j news.length with h | h
            · exact h
            · rw [List.getElem?_eq_none h] at hj; simp at hj
          rw [Array.getElem?_append_left (by simpa using hjl)]; simpa using hj
        · simp only [Array.size_append, List.nil_append, List.size_toArray, size_zeroCells, hsrc.1, hzl, ← Nat.add_mul, hsz]; congr 1; omega
    have hreg : ∀ {r off len : Nat} {fr : Bool} {l : List (den et)}, hget h1 r = some (.row fr et l) → off + len ≤ l.length → mM w (μ r) (sz et) off len (a.eval s) → (len + xs.length) * bytes ≤ 1099511627776 → sput c.m o.dst (.full σ.n) σ.s = some s' →
        bR c o a w ⟨s', (σ.n, .row (fr && fx) et ((l.drop off).take len ++ xs)) :: iV h1 r, σ.n + 1⟩ := by
      intro r off len fr l hg hle hsl hbig hput
      obtain ⟨L0, hR0, hH2⟩ := hH1.kb hg
      have kp2 : Kept (fun _ => True) c.ab c.ab c.ok c.ok w w μ μ h1 (iV h1 r) σ.n σ.n := Kept.sub (fun _ _ => dz)
      have hl2 := SR.mono kp2 hl1
      have hg2 := dm kp2 c hg1
      have hlen : ((l.drop off).take len).length = len := by simp; omega
      have hmm : ∀ b, cI fr c.ab b → cI (fr && fx) c.ab b := fun b hb => iv (fun e => by simp [e]) hb
      have hmx : ∀ b, cI fx c.ab b → cI (fr && fx) c.ab b := fun b hb => iv (fun e => by simp [e]) hb
      have hEx : EL w (cI (fr && fx) c.ab) c.ok et xs news L := hE.mono hmx (fun _ h => h) (fun _ _ => rfl) (fun _ _ => rfl)
      rcases id hsl with ⟨evs, rfl⟩ | ⟨of, cap0, evs, q1, q2, q3, q4⟩
      · have := hnil (fr := fr && fx) evs (hH2.ni (List.sublist_append_right L0 L)) hl2 hg2 (fun e => by simp [e]) (by simpa using hbig) hput
        simpa using this
      · obtain ⟨L1, rfl, g1, g2, g3⟩ := hR0.oX q2
        obtain ⟨La, L2, Lc, rfl, k2⟩ := RL.sub off len (by omega) g3
        obtain ⟨olds, e1, e2⟩ := RL.GM k2
        have holl := e1.length
        rw [hlen] at holl
        have hEo : EL w (cI (fr && fx) c.ab) c.ok et ((l.drop off).take len) olds L2 := e1.mono hmm (fun _ h => h) (fun _ _ => rfl) (fun _ _ => rfl)
        have hEall := hEo.app hEx
        have hD : HR w c.ab c.ok μ (iV h1 r) σ.n ((μ r).cY :: (L2 ++ L)) := by
          refine hH2.ni ?_
          refine List.Sublist.cons_cons _ (List.Sublist.append ?_ (List.Sublist.refl _))
          exact (List.sublist_append_left L2 Lc).trans (List.sublist_append_right La _)
        have hzn : cap0 = 0 → olds = [] := fun hz => by
          have : len = 0 := by omega
          subst this
          exact List.eq_nil_of_length_eq_zero (by simpa using holl)
        by_cases hfit : len + xs.length ≤ cap0
        ·
          by_cases hcap : cap0 = 0
          · have hl0 : len = 0 := by omega
            have hx0 : xs = [] := List.eq_nil_of_length_eq_zero (by omega)
            subst hl0 hx0
            obtain ⟨rfl, rfl⟩ := hE
            have ho := hzn hcap
            subst ho
            have hr := og (P := c.P) (w := w) (ty := o.type) (rest := rest) ht h2 hd2 (b := (μ r).cY) (o := of) (sLen := 0) (sCap := cap0) (x := a.eval x) (news := []) hsrc (by simpa using hfit) (by simpa using q3) (by simp)
            rw [← evs] at hr
            simp only [setCells] at hr
            refine bR.swap hs (hst := by simp [ho, stillB, hcl]) (m := ⟨(μ r).cY, of, true⟩) (D := [(μ r).cY]) (hrun hr) hfr hl2 hg2 (hD.ni (by simp)) ?_ ?_ hput
            · simp only [RR, cf]
              exact .inr ⟨trivial, [], rfl, g1, by simpa using q3, by simp [RL]⟩
            · simp only [VR, hget, cf, ↓reduceIte]
              exact ⟨by omega, .inr ⟨of, cap0, rfl, by simp, rfl, q3, fun hp => by omega⟩⟩
          · obtain ⟨m6, m7⟩ := q4 (by omega)
            have hlc : (len + xs.length) * sz et ≤ cap0 * sz et := Nat.mul_le_mul_right _ hfit
            have hrow := m7.le (m' := of + (len + xs.length) * sz et) (by omega)
            have hr := og (P := c.P) (w := w) (ty := o.type) (rest := rest) ht h2 hd2 (b := (μ r).cY) (o := of) (sLen := len) (sCap := cap0) hsrc hfit (by rw [← hsz]; exact hrow) hone
            rw [← evs] at hr
            rw [← hsz] at hr hsrc
            have hstep : Step c.ab w (setCells w (μ r).cY (of + len * sz et) news) := lC _ _ (fun hb => hio _ hb g1)
            have hnd := hD.nodup
            obtain ⟨hH3, kp3⟩ := hD.Nr hstep (fun k hk _ => fR _ _ _ _ _ (fun e => hk (by simp [e])))
            have hsame : ∀ k ∈ L2 ++ L, (setCells w (μ r).cY (of + len * sz et) news).heap[k]? = w.heap[k]? := fun k hk => by
              have hne : k ≠ (μ r).cY := by rintro rfl; exact (List.nodup_cons.1 hnd).1 hk
              exact fR _ _ _ _ _ hne
            refine bR.swap hs (hst := by simp [ho, stillB, hcl]) (m := ⟨(μ r).cY, of, true⟩) (D := (μ r).cY :: (L2 ++ L)) (hrun hr) (hfr.set news g1) (SR.mono kp3 hl2) (dm kp3 c hg2) hH3 ?_ ?_ hput
            · simp only [RR, cf]
              refine .inr ⟨trivial, L2 ++ L, rfl, g1, ?_, ?_⟩
              · rw [aT, hlen]; exact fG _ _ _ _ hrow
              · refine EL.JP (hEall.mono (fun _ h => h) (fun _ h => h) (fun b hb => hstep.low b hb.2) hsame) (At.app.2 ⟨fun j u hj => ?_, ?_⟩)
                · have hjl : j < olds.length := by
                    rcases Nat.lt_or_ge j olds.length with h | h
                    · exact h
                    · rw [List.getElem?_eq_none h] at hj; simp at hj
                  rw [gF _ _ _ _ _ (by left; omega), m6]
                  exact e2 j u hj
                · rw [holl]
                  have := mj news w (μ r).cY (of + len * sz et) (hrow.le (by rw [hsrc.1, Nat.add_mul]; omega))
                  exact this
            · simp only [VR, hget, cf, ↓reduceIte]
              exact ⟨by omega, .inr ⟨of, cap0, by simp [hlen], by simp [hlen]; omega, rfl, fG _ _ _ _ q3, fun hp => ⟨by simp, fG _ _ _ _ m7⟩⟩⟩
        ·
          have hsrcO : Src w size (.slice (some ⟨(μ r).cY, of, none⟩) len cap0) len olds := by
            refine ⟨by rw [← hsz]; exact holl, .inr (.inl ⟨_, _, rfl, fun j u hj => ?_⟩)⟩
            have hl0 : 0 < cap0 := by
              rcases Nat.eq_zero_or_pos cap0 with h0 | h0
              · have := hzn h0; subst this; simp at hj
              · exact h0
            rw [ia, (q4 hl0).1]
            exact e2 j u hj
          obtain ⟨cap, e, hcap, hr⟩ := nj (P := c.P) (w := w) (ty := o.type) (rest := rest) ht h2 hd2 hsrc hsrcO hfit (by omega)
          rw [← evs] at hr
          have hD2 : HR w c.ab c.ok μ (iV h1 r) σ.n (L2 ++ L) := hD.ni (List.sublist_cons_self _ _)
          refine qM hs (by simp [ho, stillB, hcl]) (fr := fr && fx) (cap := cap) (w1 := w.drew) (by exact (Below.refl _ _).drew) rfl hD2 hl2 hg2 hEall ?_ ?_ (by simp [hlen]; omega) (by rw [aT, hlen]; exact hrun hr) hput
          · intro j u hj
            have hjl : j < (olds ++ news).length := by
              rcases Nat.lt_or_ge j (olds ++ news).length with h | h
              · exact h
              · rw [List.getElem?_eq_none h] at hj; simp at hj
            rw [Array.getElem?_append_left (by simpa using hjl)]; simpa using hj
          · simp only [Array.size_append, aT, List.size_toArray, size_zeroCells, hsrc.1, holl, hzl, ← Nat.add_mul, hsz]; congr 1; omega
    split at hx
    · rename_i hsv
      simp only [af] at hx; subst hx
      simp only [bF] at hc
      rw [hsv] at hvs
      exact hnil hvs.iy hH1 hl1 hg1 (fun h => h) hc hput
    · rename_i r hsv
      split at hx
      · rename_i fr t' l hg
        simp only [ax, af] at hx
        obtain ⟨l', hcst, rfl⟩ := hx
        obtain ⟨rfl, rfl⟩ := eY hcst
        simp only [bF] at hc
        rw [hsv] at hvs
        simp only [VR, hsub _ _ hg] at hvs
        have := hreg (off := 0) (len := l.length) hg (by omega) hvs.2 hc hput
        simpa using this
      · simp at hx
    · rename_i r off len hsv
      split at hx
      · rename_i fr t' l hg
        simp only [ax, af] at hx
        obtain ⟨l', hcst, rfl⟩ := hx
        obtain ⟨rfl, rfl⟩ := eY hcst
        simp only [bF] at hc
        rw [hsv] at hvs
        simp only [VR, hsub _ _ hg] at hvs
        exact hreg hg hvs.2.1 hvs.2.2 hc hput
      · simp at hx
    · simp at hx
  · simp at hx
theorem qA {P : Program} {tt t2 ty : TypeId} {k2 kk : IntKind} {size bytes : Nat} {z : List Value} (ht : tsl P tt = some (size, bytes, z)) (h2 : P.underlying t2 = some (.int k2)) {b : Int} (h0 : 0 < b) (hbig : (bytes : Int) * b ≤ 1099511627776) {rest : List TypeId} :
    ∃ cap e, b.toNat ≤ cap ∧ (Builtin.append_ (tt :: t2 :: rest).toArray ty #[.slice none 0 0, .int kk b]).run P w =
      .ok (.slice (some ⟨w.heap.size, 0, none⟩) b.toNat cap) (w.drew.alloc (.cells (Builtin.zeroCells z.toArray b.toNat ++ Builtin.zeroCells z.toArray (cap - b.toNat)) e)) := by
  obtain ⟨e, i, zv, hu, hi, hz, rfl, hsz, hby, hzl, hs0, hb0, _⟩ := iK ht
  subst hsz; subst hby
  obtain ⟨n, rfl⟩ : ∃ n : Nat, b = (n : Int) := ⟨b.toNat, by omega⟩
  have hbn : i.bytes * n ≤ 1099511627776 := by
    rw [← Int.natCast_mul] at hbig; omega
  have hn0 : 0 < n := by omega
  have hle : n ≤ n * i.bytes := Nat.le_mul_of_pos_right _ (Nat.pos_of_ne_zero hb0)
  rw [Nat.mul_comm] at hbn
  have hw : Wr .i64 (n : Int) = n := IntWalk.i64_in _ (by omega)
  have hl48 : ¬ (281474976710656 < (n : Int) * (i.bytes : Int)) := by
    rw [← Int.natCast_mul]; omega
  have hneg : ¬ ((n : Int) < 0) := by omega
  have h63 : ¬ (9223372036854775807 < (n : Int)) := by omega
  have h48 : ¬ (281474976710656 < Builtin.nextslicecap n 0 * i.bytes) := by
    have := growslice_fits (need := n) (old := 0) (bytes := i.bytes) (by omega) (by omega)
    omega
  have hns : n * i.size ≠ 0 := Nat.mul_ne_zero (by omega) hs0
  have hnz : n ≠ 0 := by omega
  have hfit : ¬ n ≤ 0 := by omega
  have ha : ∀ w', (asInt (.int kk (n : Int))).run P w' = .ok (n : Int) w' := fun w' => by simp [asInt, asIntOf]
  refine ⟨grownCap w n 0 e, e, grownCap_ge _ _ _ _, ?_⟩
  simp [Builtin.append_, underlying, hu, h2, sizeOf, typeInfo, zeroValue, hi, hz, ha, hw, hl48, hneg, h63, h48, hnz, hs0, Builtin.firstCells, Question.forced, newRow, grownCap]
  exact fun h => absurd h hns
theorem Et {w : World} {ab ok : Nat → Prop} {t : Ty} {d : den t} {us : List Value} (h : TRl w ab ok t d us []) : ∀ n, EL w ab ok t (List.replicate n d) (List.replicate n us).flatten []
  | 0 => ⟨rfl, rfl⟩
  | n + 1 => by
    rw [List.replicate_succ, List.replicate_succ, List.flatten_cons]
    exact ⟨us, _, [], [], rfl, rfl, h, Et h n⟩
theorem uP (hs : dH c σ a w) {cl : Call} (ho : o.op = .call cl) (hcl : cl.callee = .builtin .append) {s x : Operand} {tt t2 : TypeId} {rest : List TypeId} {k2 : IntKind}
    (hargs : cl.args.toList = [s, x]) (htypes : cl.argTypes.toList = tt :: t2 :: rest) (h2 : c.P.underlying t2 = some (.int k2))
    (hx : appendZ c.P tt (ev σ.s s) (ev σ.s x) σ.h σ.n = some A) (hc : A.c = true) (hput : sput c.m o.dst A.v (ks A σ.s) = some s') : bR c o a w ⟨s', A.h, A.n⟩ := by
  obtain ⟨hfr, hd, hsz, μ, hH, hl, hgs⟩ := id hs
  have hrun : ∀ {v w'}, (Builtin.append_ (tt :: t2 :: rest).toArray o.type #[a.eval s, a.eval x]).run c.P w = .ok v w' → (execOp a.eval o).run c.P w = .ok (.value v) w' := by
    intro v w' h
    refine kW ho hcl ?_
    have e1 : cl.argTypes = (tt :: t2 :: rest).toArray := by rw [← htypes]
    have e2 : cl.args.map a.eval = #[a.eval s, a.eval x] := by
      have : cl.args = [s, x].toArray := by rw [← hargs]
      rw [this]; simp
    rw [e1, e2]; exact h
  have hvs := SR.iR hl s
  have hvx := SR.iR hl x
  unfold appendZ at hx
  split at hx
  · rename_i size bytes z et kk b ht hel es ex
    simp only [ax] at hx
    obtain ⟨d, hd1, hx⟩ := hx
    obtain ⟨hb, hx⟩ := ah.1 hx
    simp only [af] at hx; subst hx
    have hszz : sz et = size := Nat.eq_of_beq_eq_true hb
    simp only [aA, bF] at hc
    rw [es] at hvs; rw [ex] at hvx
    have evs := hvs.iy
    have evx := hvx.iy
    obtain ⟨e, i, zv, hu, hi, hz, rfl, hsz2, hby, hzl, hs0, hb0, hone⟩ := iK ht
    by_cases hb00 : b = 0
    · subst hb00
      have hr : (Builtin.append_ (tt :: t2 :: rest).toArray o.type #[.slice none 0 0, .int kk 0]).run c.P w = .ok (.slice none 0 0) w := by
        simp [Builtin.append_, underlying, hu, h2, sizeOf, typeInfo, hi, asInt, asIntOf, show Wr .i64 0 = 0 from rfl]
      rw [← evs, ← evx] at hr
      refine bR.swap hs (hst := by simp [ho, stillB, hcl]) (m := ⟨0, 0, false⟩) (D := []) (hrun hr) hfr hl hgs hH ?_ ?_ hput
      · simp only [RR, cf]; exact .inl ⟨trivial, by simp, trivial⟩
      · simp only [VR, hget, cf, ↓reduceIte]
        exact ⟨by omega, .inl ⟨evs, by simp⟩⟩
    · obtain ⟨cap, e2, hcap, hr⟩ := qA (P := c.P) (w := w) (ty := o.type) (rest := rest) (kk := kk) ht h2 (b := b) (by omega) hc.2
      rw [← evs, ← evx] at hr
      have hct : TRl w (cI true c.ab) c.ok et d zv.cells.toList [] := CT.eF hd1 (CT.pmap _)
      have hzl2 : zv.cells.toList.length = sz et := hct.length
      have hE := Et hct b.toNat
      have hr' := hrun hr
      have hlr : (List.replicate b.toNat d).length = b.toNat := by simp
      rw [← hlr] at hr'
      refine qM hs (by simp [ho, stillB, hcl]) (fr := true) (cap := cap) (w1 := w.drew) (by exact (Below.refl _ _).drew) rfl hH hl hgs hE (us := (List.replicate b.toNat zv.cells.toList).flatten) ?_ ?_ (by simpa using hcap) (by simpa using hr') hput
      · intro j u hj
        have hz0 : zv.cells.toList.length ≠ 0 := by rw [hzl2, hszz]; exact hs0
        have hjl : j < b.toNat * zv.cells.toList.length := by
          rcases Nat.lt_or_ge j (b.toNat * zv.cells.toList.length) with h | h
          · exact h
          · rw [List.getElem?_eq_none (by simpa using h)] at hj; simp at hj
        rw [mm _ hz0 _ _ hjl] at hj
        have hjl2 : j < b.toNat * zv.cells.size := by simpa using hjl
        rw [Array.getElem?_append_left (by simpa [size_zeroCells] using hjl2)]
        have hm : j % zv.cells.size < zv.cells.size := Nat.mod_lt _ (Nat.pos_of_ne_zero (by simpa using hz0))
        have hj2 : zv.cells[j % zv.cells.size]? = some u := by simpa using hj
        simp only [Builtin.zeroCells]
        simp only [Array.getElem?_map, List.size_toArray, Array.length_toList, Array.getElem?_range, hjl2, ↓reduceIte, Option.map_some, List.getElem!_toArray, af]
        rw [Array.getElem?_eq_getElem hm] at hj2
        simp only [af] at hj2
        rw [← hj2]
        simp [hm]
      · have hzs : zv.cells.toList.toArray.size = sz et := by simpa using hzl2
        simp only [Array.size_append, size_zeroCells, hzs, ← Nat.add_mul]; congr 1; omega
  · simp at hx
theorem AU (hs : dH c σ a w) {cl : Call} (ho : o.op = .call cl) (hcl : cl.callee = .builtin .append) (hx : ex c.P o.op (ev σ.s) σ.h σ.n = some A) (hc : A.c = true) (hput : sput c.m o.dst A.v (ks A σ.s) = some s') : bR c o a w ⟨s', A.h, A.n⟩ := by
  rw [ho] at hx
  simp only [ex, hcl] at hx
  split at hx
  · rename_i s x tt t2 rest hargs htypes
    split at hx
    · rename_i e h2
      exact qi hs ho hcl hargs htypes h2 (.inr ⟨e, rfl⟩) hx hc hput
    · rename_i h2
      exact qi hs ho hcl hargs htypes h2 (.inl rfl) hx hc hput
    · rename_i h2
      exact uP hs ho hcl hargs htypes h2 hx hc hput
    · simp at hx
  · simp at hx
end
end Go.Tw
namespace Go.Tw
open Go Go.RowKit Go.MapKept
open Go.IntKind renaming wrap → Wr
variable [k7]
def scB : Ty → Bool
  | .int _ | .bool | .str => true
  | _ => false
def dK : Ty → TypeDesc
  | .int k => .int k
  | .bool => .bool
  | _ => .string
theorem v8 {P : Program} {t : TypeId} {k : Ty} (h : scT P t = some k) : scB k = true ∧ P.underlying t = some (dK k) := by
  unfold scT at h
  split at h
  · rename_i h1; simp only [af] at h; subst h; exact ⟨rfl, h1⟩
  · rename_i k' h1; simp only [af] at h; subst h; exact ⟨rfl, h1⟩
  · rename_i h1; simp only [af] at h; subst h; exact ⟨rfl, h1⟩
  · simp at h
theorem AV {s : ByteArray} (h : s.data.toList = []) : s = ByteArray.empty := by
  obtain ⟨⟨l⟩⟩ := s
  simp only at h
  subst h; rfl
theorem yi {v : Ty} {z : Value} (h : zeroK v z = true) : z = valK v (eX v) := by
  unfold zeroK at h
  split at h
  · simp only [aA, bF] at h
    obtain ⟨rfl, rfl⟩ := h; rfl
  · rename_i b; cases b with
    | true => simp at h
    | false => rfl
  · simp only [bF] at h
    rw [AV h]; rfl
  · simp at h
theorem rR {P : Program} {t : TypeId} {q : MQ} (h : mpT P t = some q) : ∃ kt et, P.underlying t = some (.map kt et) ∧ scB q.k = true ∧ P.underlying kt = some (dK q.k) ∧ (P.info? et).bind (·.zero) = some (valK q.v (eX q.v)) := by
  unfold mpT at h
  split at h
  · rename_i kt et h1
    simp only [ax] at h
    obtain ⟨k, h2, v, h3, z, h4, h5⟩ := h
    obtain ⟨h6, h5⟩ := ah.1 h5
    simp only [af] at h5; subst h5
    obtain ⟨s1, s2⟩ := v8 h2
    refine ⟨kt, et, h1, s1, s2, ?_⟩
    rw [show (P.info? et).bind (·.zero) = some z from ax.2 h4, yi h6]
  · simp at h
theorem rS {P : Program} {t : TypeId} {q : MQ} (h : yj P t = some q) : ∃ kt et, P.underlying t = some (.map kt et) ∧ scB q.k = true ∧ P.underlying kt = some (dK q.k) := by
  unfold yj at h
  cases hp : mpP P t with
  | false =>
    rw [hp] at h
    obtain ⟨kt, et, h1, h2, h3, _⟩ := rR h
    exact ⟨kt, et, h1, h2, h3⟩
  | true =>
    rw [hp] at h
    simp only [ag, af] at h; subst h
    unfold mpP at hp
    split at hp
    · rename_i kt et h1
      split at hp
      · rename_i h2 h3
        exact ⟨kt, et, h1, rfl, h2⟩
      · simp at hp
    · simp at hp
theorem Ns {P : Program} {t : TypeId} {q : MQ} (h : mpT P t = some q) : yj P t = some q := by
  have hp : mpP P t = false := by
    cases hp : mpP P t with
    | false => rfl
    | true =>
      unfold mpP at hp
      unfold mpT at h
      split at hp
      · rename_i kt et h1
        rw [h1] at h
        simp only [ax] at h
        obtain ⟨k, h2, v, h3, _⟩ := h
        split at hp
        · rename_i h4 h5
          unfold scT at h3
          rw [h5] at h3
          simp at h3
        · simp at hp
      · simp at hp
  unfold yj
  rw [hp]; exact h
theorem yk {k : Ty} (h : scB k = true) (a : den k) : IsKey (dK k) (valK k a) := by
  cases k <;> simp [scB] at h <;> simp [dK, valK, IsKey]
theorem rT (a b : ByteArray) : AW a b = (a == b) := by
  rw [Bool.eq_iff_iff, bytes_beq]
  unfold AW
  rw [bF]
  constructor
  · intro h
    obtain ⟨⟨x⟩⟩ := a; obtain ⟨⟨y⟩⟩ := b
    simp only at h
    subst h; rfl
  · rintro rfl; rfl
theorem GO (a b : Int) : KA a b = (a == b) := by rw [Bool.eq_iff_iff]; simp [KA]
theorem Eu (i : IntKind) (a b : Int) : Instr.sameNow (.int i) (.int i a) (.int i b) = some (KA a b) := by
  rw [GO]; simp [Instr.sameNow]
theorem GP (a b : Bool) : Instr.sameNow .bool (.bool a) (.bool b) = some (GQ a b) := rfl
theorem Ev (a b : ByteArray) : Instr.sameNow .string (.string a) (.string b) = some (AW a b) := by
  rw [rT]; rfl
theorem Ew : ∀ {k : Ty} (_ : scB k = true) (a b : den k), Instr.sameNow (dK k) (valK k a) (valK k b) = some (pK k a b)
  | .int i, _, a, b => Eu i a b
  | .bool, _, a, b => GP a b
  | .str, _, a, b => Ev a b
  | .un, h, _, _ => by simp [scB] at h
  | .pr _ _, h, _, _ => by simp [scB] at h
  | .sl _, h, _, _ => by simp [scB] at h
  | .ref _, h, _, _ => by simp [scB] at h
  | .cl _ _, h, _, _ => by simp [scB] at h
theorem GR (i : IntKind) {a b : Int} (h : KA a b = true) : Value.int i a = Value.int i b := by rw [of_decide_eq_true h]
theorem JR {a b : Bool} (h : GQ a b = true) : Value.bool a = Value.bool b := by rw [eq_of_beq h]
theorem GS {a b : ByteArray} (h : AW a b = true) : Value.string a = Value.string b := by rw [rT] at h; rw [(bytes_beq a b).1 h]
theorem GU : ∀ {k : Ty} (_ : scB k = true) {a b : den k} (_ : pK k a b = true), valK k a = valK k b
  | .int i, _, a, b, he => GR i he
  | .bool, _, a, b, he => JR he
  | .str, _, a, b, he => GS he
  | .un, h, _, _, _ => by simp [scB] at h
  | .pr _ _, h, _, _, _ => by simp [scB] at h
  | .sl _, h, _, _, _ => by simp [scB] at h
  | .ref _, h, _, _, _ => by simp [scB] at h
  | .cl _ _, h, _, _, _ => by simp [scB] at h
def fnd (f : (t : Ty) → den t → Value) (q : MQ) : List (den q.k × den q.v) → den q.k → Nat → Option (Nat × Value)
  | [], _, _ => none
  | p :: l, a, i => bif pK q.k a p.1 then some (i, f q.v p.2) else fnd f q l a (i + 1)
abbrev kv (f : (t : Ty) → den t → Value) (q : MQ) (p : den q.k × den q.v) : Value × Value := (valK q.k p.1, f q.v p.2)
theorem nS {f : (t : Ty) → den t → Value} {q : MQ} (hq : scB q.k = true) {a : den q.k} : ∀ {L : List MapEntry} {l : List (den q.k × den q.v)} (i : Nat), L.map (fun e => (e.key, e.val)) = l.map (kv f q) → Instr.findNow (dK q.k) (valK q.k a) L i = some (fnd f q l a i)
  | [], [], i, _ => rfl
  | [], _ :: _, i, h => by simp at h
  | _ :: _, [], i, h => by simp at h
  | e :: L, p :: l, i, h => by
    simp only [List.map_cons, List.cons.injEq, aG] at h
    obtain ⟨⟨h1, h2⟩, h3⟩ := h
    simp only [Instr.findNow, h1, Ew hq, fnd, h2]
    cases pK q.k a p.1 with
    | true => rfl
    | false => exact nS hq (i + 1) h3
theorem pa {f : (t : Ty) → den t → Value} {q : MQ} : ∀ {l : List (den q.k × den q.v)} {a : den q.k} {i : Nat} (b : den q.v), fnd f q l a i = none → mget q.k q.v l a = eX q.v ∧ jb q.k q.v l a = false ∧ mset q.k q.v l a b = l ++ [(a, b)]
  | [], a, i, b, _ => ⟨rfl, rfl, rfl⟩
  | p :: l, a, i, b, h => by
    simp only [fnd] at h
    cases hq : pK q.k a p.1 with
    | true => simp [hq] at h
    | false =>
      simp only [hq, al] at h
      obtain ⟨h1, h2, h3⟩ := pa b h
      simp [mget, jb, mset, hq, h1, h2, h3]
theorem pe {f : (t : Ty) → den t → Value} {q : MQ} : ∀ {l : List (den q.k × den q.v)} {a : den q.k} {i j : Nat} {v : Value} (b : den q.v), fnd f q l a i = some (j, v) → v = f q.v (mget q.k q.v l a) ∧ jb q.k q.v l a = true ∧ ∃ j', j = i + j' ∧ j' < l.length ∧ (∃ a' z, l[j']? = some (a', z) ∧ pK q.k a a' = true) ∧ mset q.k q.v l a b = l.set j' (a, b)
  | [], a, i, j, v, b, h => by simp [fnd] at h
  | p :: l, a, i, j, v, b, h => by
    simp only [fnd] at h
    cases hq : pK q.k a p.1 with
    | true =>
      simp only [hq, ag, af, aG] at h
      obtain ⟨rfl, rfl⟩ := h
      exact ⟨by simp [mget, hq], by simp [jb, hq], 0, rfl, by simp, ⟨p.1, p.2, by simp, hq⟩, by simp [mset, hq]⟩
    | false =>
      simp only [hq, al] at h
      obtain ⟨h1, h2, j', h3, h4, ⟨a', z, h5, h6⟩, h7⟩ := pe b h
      exact ⟨by simp [mget, hq, h1], by simp [jb, hq, h2], j' + 1, by omega, by simp; omega, ⟨a', z, by simpa using h5, h6⟩, by simp [mset, hq, h7]⟩
theorem qB {P : Program} {w : World} {t : TypeId} {q : MQ} {b : Nat} {l : List (den q.k × den q.v)} {a : den q.k} {ok : Bool} (h : mpT P t = some q) (hm : Qn w b q l) :
    (Instr.lookup t (.map (some b)) (valK q.k a) ok).run P w = .ok (if ok then .tuple #[valK q.v (mget q.k q.v l a), .bool (jb q.k q.v l a)] else valK q.v (mget q.k q.v l a)) w := by
  obtain ⟨kt, et, h1, hs, h2, h4⟩ := rR h
  obtain ⟨es, cl, hb, hes⟩ := hm
  obtain ⟨i, hi, hzv⟩ := ax.1 h4
  have hk := yk hs a
  have hf := nS hs (a := a) 0 hes
  cases hfd : fnd valK q l a 0 with
  | none =>
    rw [hfd] at hf
    obtain ⟨e1, e2, _⟩ := pa (eX q.v) hfd
    simp [Instr.lookup, run_underlying h1, MapKept.run_getObj_map hb, run_checkKey h2 hk, run_findKey h2 hf, Result.andThen, zeroValue, typeInfo, hi, hzv, e1, e2]
  | some p =>
    obtain ⟨j, v⟩ := p
    rw [hfd] at hf
    obtain ⟨e1, e2, _⟩ := pe (eX q.v) hfd
    simp [Instr.lookup, run_underlying h1, MapKept.run_getObj_map hb, run_checkKey h2 hk, run_findKey h2 hf, Result.andThen, e1, e2]
theorem pT {f : (t : Ty) → den t → Value} {P : Program} {w : World} {t : TypeId} {q : MQ} {b : Nat} {l : List (den q.k × den q.v)} {a : den q.k} {x : den q.v} (h : yj P t = some q) (hm : v9 f w b q l) :
    ∃ o, (Instr.mapUpdate t (.map (some b)) (valK q.k a) (f q.v x)).run P w = .ok () { w with heap := w.heap.setIfInBounds b o } ∧ v9 f { w with heap := w.heap.setIfInBounds b o } b q (mset q.k q.v l a x) := by
  obtain ⟨kt, et, h1, hs, h2⟩ := rS h
  obtain ⟨es, cl, hb, hes⟩ := hm
  have hk := yk hs a
  have hf := nS hs (a := a) 0 hes
  cases hfd : fnd f q l a 0 with
  | none =>
    rw [hfd] at hf
    obtain ⟨_, _, e1⟩ := pa x hfd
    refine ⟨.map (es.push { key := valK q.k a, val := f q.v x, born := cl }) (cl + 1), ?_, _, _, (heap_set hb).1, ?_⟩
    · simp [Instr.mapUpdate, run_underlying h1, MapKept.run_getObj_map hb, run_checkKey h2 hk, run_findKey h2 hf, MapKept.run_setObj_map _ hb, Result.andThen]
    · rw [e1, Array.toList_push, List.map_append, hes]; simp
  | some p =>
    obtain ⟨j, v⟩ := p
    rw [hfd] at hf
    obtain ⟨_, _, j', hj', hlt, ⟨a', q0, h5, h6⟩, e1⟩ := pe x hfd
    have hj0 : j = j' := by omega
    subst hj0
    have hka : valK q.k a' = valK q.k a := (GU hs h6).symm
    have hel : (es.toList.map (fun e => (e.key, e.val)))[j]? = some (valK q.k a, f q.v q0) := by rw [hes]; simp [h5, hka]
    rw [List.getElem?_map, Option.map_eq_some_iff] at hel
    obtain ⟨e, he, hee⟩ := hel
    have he2 : es[j]? = some e := by simpa using he
    simp only [aG] at hee
    refine ⟨.map (es.modify j fun e => { e with key := valK q.k a, val := f q.v x }) cl, ?_, _, _, (heap_set hb).1, ?_⟩
    · simp [Instr.mapUpdate, run_underlying h1, MapKept.run_getObj_map hb, run_checkKey h2 hk, run_findKey h2 hf, he2, hee.1, run_keyThatStays hk, MapKept.run_setObj_map _ hb, Result.andThen]
    · rw [e1]
      apply List.ext_getElem?
      intro i
      have hi := congrArg (fun z => z[i]?) hes
      simp only [List.getElem?_map, Array.getElem?_toList, List.getElem?_set] at hi ⊢
      rw [Array.getElem?_modify]
      by_cases hij : j = i
      · subst hij; simp [he2, hlt]
      · simp only [hij, ↓reduceIte]; exact hi
theorem pU {f : (t : Ty) → den t → Value} {P : Program} {w : World} {t : TypeId} {q : MQ} {b : Nat} {l : List (den q.k × den q.v)} {a : den q.k} (h : yj P t = some q) (hm : v9 f w b q l) (hh : jb q.k q.v l a = true) :
    (Instr.lookup t (.map (some b)) (valK q.k a) false).run P w = .ok (f q.v (mget q.k q.v l a)) w := by
  obtain ⟨kt, et, h1, hs, h2⟩ := rS h
  obtain ⟨es, cl, hb, hes⟩ := hm
  have hk := yk hs a
  have hf := nS (f := f) hs (a := a) 0 hes
  cases hfd : fnd f q l a 0 with
  | none =>
    obtain ⟨_, e2, _⟩ := pa (mget q.k q.v l a) hfd
    rw [hh] at e2; cases e2
  | some p =>
    obtain ⟨j, v⟩ := p
    rw [hfd] at hf
    obtain ⟨e1, e2, _⟩ := pe (eX q.v) hfd
    simp [Instr.lookup, run_underlying h1, MapKept.run_getObj_map hb, run_checkKey h2 hk, run_findKey h2 hf, Result.andThen, e1]
theorem Nt (a b : Int) : KA a b = true ↔ a = b := ⟨fun h => of_decide_eq_true h, fun h => ae h⟩
theorem JS (a b : Bool) : GQ a b = true ↔ a = b := ⟨fun h => eq_of_beq h, fun h => by subst h; exact beq_self_eq_true a⟩
theorem JT (a b : ByteArray) : AW a b = true ↔ a = b := by rw [rT]; exact bytes_beq a b
theorem pf : ∀ {k : Ty} (_ : scB k = true) {a b : den k}, pK k a b = true ↔ a = b
  | .int i, _, a, b => Nt a b
  | .bool, _, a, b => JS a b
  | .str, _, a, b => JT a b
  | .un, h, _, _ => by simp [scB] at h
  | .pr _ _, h, _, _ => by simp [scB] at h
  | .sl _, h, _, _ => by simp [scB] at h
  | .ref _, h, _, _ => by simp [scB] at h
  | .cl _ _, h, _, _ => by simp [scB] at h
theorem yl {k : Ty} (hk : scB k = true) {a b : den k} (h : a ≠ b) : pK k a b = false := by
  cases e : pK k a b with
  | false => rfl
  | true => exact absurd ((pf hk).1 e) h
theorem wa {k : Ty} (hk : scB k = true) {a : den k} : pK k a a = true := (pf hk).2 rfl
abbrev Ex (q : MQ) (l : List (den q.k × den q.v)) : Prop := l.Pairwise (fun p r => p.1 ≠ r.1)
theorem Ex.perm {q : MQ} {l l' : List (den q.k × den q.v)} (h : l.Perm l') (hd : Ex q l) : Ex q l' := (h.pairwise_iff (fun h => Ne.symm h)).1 hd
theorem tu {q : MQ} (hk : scB q.k = true) {a : den q.k} : ∀ {l l' : List (den q.k × den q.v)}, l.Perm l' → Ex q l → mget q.k q.v l a = mget q.k q.v l' a := by
  intro l l' h
  induction h with
  | nil => intro _; rfl
  | cons x _ ih =>
    intro hd
    simp only [mget, ih (List.pairwise_cons.1 hd).2]
  | swap x y l =>
    intro hd
    have hne : y.1 ≠ x.1 := (List.pairwise_cons.1 hd).1 x (by simp)
    simp only [mget]
    cases e1 : pK q.k a x.1 with
    | false => rfl
    | true =>
      have := (pf hk).1 e1
      subst this
      rw [yl hk (Ne.symm hne)]; rfl
  | trans h1 _ ih1 ih2 =>
    intro hd
    exact (ih1 hd).trans (ih2 (hd.perm h1))
theorem tx {q : MQ} (hk : scB q.k = true) {a : den q.k} : ∀ {l l' : List (den q.k × den q.v)}, l.Perm l' → jb q.k q.v l a = jb q.k q.v l' a := by
  intro l l' h
  induction h with
  | nil => rfl
  | cons x _ ih => simp only [jb, ih]
  | swap x y l =>
    simp only [jb]
    cases pK q.k a x.1 <;> cases pK q.k a y.1 <;> rfl
  | trans _ _ ih1 ih2 => exact ih1.trans ih2
theorem tB {q : MQ} (hk : scB q.k = true) {a : den q.k} {b : den q.v} {c : den q.k} : ∀ {l : List (den q.k × den q.v)}, (∀ p ∈ l, c ≠ p.1) → c ≠ a → ∀ p ∈ mset q.k q.v l a b, c ≠ p.1
  | [], _, hc, p, hp => by simp only [mset, List.mem_singleton] at hp; subst hp; exact hc
  | x :: l, h, hc, p, hp => by
    simp only [mset] at hp
    cases e : pK q.k a x.1 with
    | true =>
      rw [e] at hp
      rcases List.mem_cons.1 hp with rfl | hp
      · exact hc
      · exact h p (by simp [hp])
    | false =>
      rw [e] at hp
      rcases List.mem_cons.1 hp with rfl | hp
      · exact h _ (by simp)
      · exact tB hk (fun p hp => h p (by simp [hp])) hc p hp
theorem Ex.mset {q : MQ} (hk : scB q.k = true) {a : den q.k} {b : den q.v} : ∀ {l : List (den q.k × den q.v)}, Ex q l → Ex q (mset q.k q.v l a b)
  | [], _ => by simp [Ex, Tw.mset]
  | x :: l, h => by
    obtain ⟨h1, h2⟩ := List.pairwise_cons.1 h
    simp only [Tw.mset]
    cases e : pK q.k a x.1 with
    | true =>
      have := (pf hk).1 e
      subst this
      exact List.pairwise_cons.2 ⟨h1, h2⟩
    | false =>
      refine List.pairwise_cons.2 ⟨tB hk h1 ?_, Ex.mset hk h2⟩
      rintro rfl; rw [wa hk] at e; cases e
theorem AX {q : MQ} (hk : scB q.k = true) {a : den q.k} {b : den q.v} : ∀ {l l' : List (den q.k × den q.v)}, l.Perm l' → Ex q l → (mset q.k q.v l a b).Perm (mset q.k q.v l' a b) := by
  intro l l' h
  induction h with
  | nil => intro _; exact List.Perm.refl _
  | cons x h ih =>
    intro hd
    simp only [mset]
    cases pK q.k a x.1 with
    | true => exact List.Perm.cons _ h
    | false => exact List.Perm.cons _ (ih (List.pairwise_cons.1 hd).2)
  | swap x y l =>
    intro hd
    have hne : y.1 ≠ x.1 := (List.pairwise_cons.1 hd).1 x (by simp)
    simp only [mset]
    cases e1 : pK q.k a x.1 with
    | true =>
      have := (pf hk).1 e1
      subst this
      rw [yl hk (Ne.symm hne)]
      simp only [al, ag]
      exact List.Perm.swap _ _ _
    | false =>
      cases e2 : pK q.k a y.1 with
      | true => simp only [al, ag]; exact List.Perm.swap _ _ _
      | false => simp only [al]; exact List.Perm.swap _ _ _
  | trans h1 _ ih1 ih2 =>
    intro hd
    exact (ih1 hd).trans (ih2 (hd.perm h1))
theorem GV (a b : Int) (h : a ≠ b) : JU a b = !JU b a := by
  unfold JU
  by_cases h1 : a < b
  · rw [ae h1, ao (show ¬ b < a by omega)]; rfl
  · rw [ao h1, ae (show b < a by omega)]; rfl
theorem JV (a b c : Int) (h1 : JU a b = true) (h2 : JU b c = true) : JU a c = true := by
  have h1 := of_decide_eq_true h1
  have h2 := of_decide_eq_true h2
  exact ae (by omega)
theorem Ey (a b : Bool) (h : a ≠ b) : AY a b = !AY b a := by cases a <;> cases b <;> first | rfl | exact absurd rfl h
theorem GW (a b c : Bool) (h1 : AY a b = true) (h2 : AY b c = true) : AY a c = true := by cases a <;> cases b <;> cases c <;> first | rfl | exact absurd h1 (by decide) | exact absurd h2 (by decide)
theorem zG : ∀ {k : Ty} (_ : AZ k = true) {a b : den k}, a ≠ b → wb k a b = !wb k b a
  | .int _, _, a, b, h => GV a b h
  | .bool, _, a, b, h => Ey a b h
  | .str, h, _, _, _ => by cases h
  | .un, h, _, _, _ => by cases h
  | .pr _ _, h, _, _, _ => by cases h
  | .sl _, h, _, _, _ => by cases h
  | .ref _, h, _, _, _ => by cases h
  | .cl _ _, h, _, _, _ => by cases h
theorem Ez : ∀ {k : Ty} (_ : AZ k = true) {a b c : den k}, wb k a b = true → wb k b c = true → wb k a c = true
  | .int _, _, a, b, c, h, h' => JV a b c h h'
  | .bool, _, a, b, c, h, h' => GW a b c h h'
  | .str, h, _, _, _, _, _ => by cases h
  | .un, h, _, _, _, _, _ => by cases h
  | .pr _ _, h, _, _, _, _, _ => by cases h
  | .sl _, h, _, _, _, _, _ => by cases h
  | .ref _, h, _, _, _, _, _ => by cases h
  | .cl _ _, h, _, _, _, _, _ => by cases h
theorem zH {k : Ty} (h : AZ k = true) : scB k = true := by cases k <;> first | rfl | cases h
theorem pV {q : MQ} {a c : den q.k} {b : den q.v} : ∀ {l : List (den q.k × den q.v)}, jb q.k q.v (sins q.k q.v l a b) c = (pK q.k c a || jb q.k q.v l c)
  | [] => by simp only [sins, jb]; cases pK q.k c a <;> rfl
  | p :: l => by
    simp only [sins]
    cases wb q.k a p.1 with
    | true => simp only [ag, jb]; cases pK q.k c a <;> rfl
    | false =>
      simp only [al, jb, pV (l := l)]
      cases pK q.k c a <;> cases pK q.k c p.1 <;> rfl
theorem tC {q : MQ} {a : den q.k} {b : den q.v} : ∀ {l : List (den q.k × den q.v)}, (sins q.k q.v l a b).Perm ((a, b) :: l)
  | [] => List.Perm.refl _
  | p :: l => by
    simp only [sins]
    cases wb q.k a p.1 with
    | true => exact List.Perm.refl _
    | false => exact (List.Perm.cons p (tC (l := l))).trans (List.Perm.swap _ _ _)
theorem tD {q : MQ} (ho : AZ q.k = true) {a a' : den q.k} {b b' : den q.v} (h : a ≠ a') : ∀ {l : List (den q.k × den q.v)}, sins q.k q.v (sins q.k q.v l a b) a' b' = sins q.k q.v (sins q.k q.v l a' b') a b
  | [] => by
    have ht := zG ho h
    simp only [sins]
    rw [ht]
    cases wb q.k a' a <;> rfl
  | p :: l => by
    have ht := zG ho h
    simp only [sins]
    cases e1 : wb q.k a p.1 with
    | true =>
      cases e2 : wb q.k a' p.1 with
      | true =>
        simp only [ag, sins, e1, e2]
        rw [ht]
        cases wb q.k a' a <;> rfl
      | false =>
        have e3 : wb q.k a' a = false := by
          cases e : wb q.k a' a with
          | false => rfl
          | true => rw [Ez ho e e1] at e2; cases e2
        simp only [ag, al, sins, e1, e2, e3]
    | false =>
      cases e2 : wb q.k a' p.1 with
      | true =>
        have e3 : wb q.k a a' = false := by
          cases e : wb q.k a a' with
          | false => rfl
          | true => rw [Ez ho e e2] at e1; cases e1
        simp only [ag, al, sins, e1, e2, e3]
      | false =>
        simp only [al, sins, e1, e2]
        rw [tD ho h]
theorem wc {q : MQ} (hk : scB q.k = true) {a : den q.k} {b : den q.v} : ∀ {l : List (den q.k × den q.v)}, jb q.k q.v l a = false → mset q.k q.v l a b = l ++ [(a, b)]
  | [], _ => rfl
  | p :: l, h => by
    simp only [jb] at h
    cases e : pK q.k a p.1 with
    | true => rw [e] at h; simp at h
    | false =>
      rw [e] at h
      simp only [mset, e, al, List.cons_append]
      rw [wc hk h]
theorem A1 {q : MQ} (hk : scB q.k = true) {a : den q.k} {b : den q.v} {l : List (den q.k × den q.v)} (h : jb q.k q.v l a = false) : (mset q.k q.v l a b).Perm (sins q.k q.v l a b) := by
  rw [wc hk h]
  exact List.perm_append_comm.trans tC.symm
theorem gh.perm {f : (t : Ty) → den t → Value} {w : World} {b : Nat} {q : MQ} {l l' : List (den q.k × den q.v)} (h : l.Perm l') (H : gh f w b q l) : gh f w b q l' := by
  obtain ⟨m, h1, h2, h3⟩ := H
  exact ⟨m, h1.trans h, h2, h3⟩
theorem uQ {P : Program} {t : TypeId} {q : MQ} (h : yj P t = some q) : scB q.k = true := by
  obtain ⟨_, _, _, h, _⟩ := rS h
  exact h
theorem qC {f : (t : Ty) → den t → Value} {P : Program} {w : World} {t : TypeId} {q : MQ} {b : Nat} {l : List (den q.k × den q.v)} {a : den q.k} (h : yj P t = some q) (hm : gh f w b q l) (hh : jb q.k q.v l a = true) :
    (Instr.lookup t (.map (some b)) (valK q.k a) false).run P w = .ok (f q.v (mget q.k q.v l a)) w := by
  obtain ⟨l', hp, hd, hm⟩ := hm
  rw [← tu (uQ h) hp hd]
  exact pU h hm (by rw [tx (uQ h) hp]; exact hh)
theorem mG {f : (t : Ty) → den t → Value} {P : Program} {w : World} {t : TypeId} {q : MQ} {b : Nat} {l : List (den q.k × den q.v)} {a : den q.k} {x : den q.v} (h : yj P t = some q) (hm : gh f w b q l) :
    ∃ o, (Instr.mapUpdate t (.map (some b)) (valK q.k a) (f q.v x)).run P w = .ok () { w with heap := w.heap.setIfInBounds b o } ∧ gh f { w with heap := w.heap.setIfInBounds b o } b q (mset q.k q.v l a x) := by
  obtain ⟨l', hp, hd, hm⟩ := hm
  obtain ⟨o, h1, h2⟩ := pT (a := a) (x := x) h hm
  exact ⟨o, h1, _, AX (uQ h) hp hd, Ex.mset (uQ h) hd, h2⟩
theorem EA {P : Program} {t : TypeId} {q : MQ} (h : mpT P t = some q) : scB q.k = true := by
  obtain ⟨_, _, _, h, _⟩ := rR h
  exact h
theorem nk {P : Program} {w : World} {t : TypeId} {q : MQ} {b : Nat} {l : List (den q.k × den q.v)} {a : den q.k} {ok : Bool} (h : mpT P t = some q) (hm : tE w b q l) :
    (Instr.lookup t (.map (some b)) (valK q.k a) ok).run P w = .ok (if ok then .tuple #[valK q.v (mget q.k q.v l a), .bool (jb q.k q.v l a)] else valK q.v (mget q.k q.v l a)) w := by
  obtain ⟨l', hp, hd, hm⟩ := hm
  rw [← tu (EA h) hp hd, ← tx (EA h) hp]
  exact qB h hm
theorem nm {P : Program} {w : World} {t : TypeId} {q : MQ} {b : Nat} {l : List (den q.k × den q.v)} {a : den q.k} {x : den q.v} (h : mpT P t = some q) (hm : tE w b q l) :
    ∃ o, (Instr.mapUpdate t (.map (some b)) (valK q.k a) (valK q.v x)).run P w = .ok () { w with heap := w.heap.setIfInBounds b o } ∧ tE { w with heap := w.heap.setIfInBounds b o } b q (mset q.k q.v l a x) :=
  mG (Ns h) hm
theorem j6 {w : World} {ab ok : Nat → Prop} {μ : Nat → Mu} {h : ay} {n : Nat} : ∀ {t : Ty} {y : TV} {a : den t} {v : Value}, keyV t y = some a → VR w ab ok μ h n y v → v = valK t a := by
  intro t y a v hk hv
  unfold keyV at hk
  split at hk
  · split at hk
    · rename_i e; subst e
      cases hk
      simp only [VR] at hv; exact hv
    · cases hk
  · cases hk
    simp only [VR] at hv; exact hv
  · cases hk
    simp only [VR] at hv; exact hv
  · cases hk
section
variable {c : Cx} {σ : St} {a : Act} {w w' : World} {A : lp} {o : Oper} {s' : List (Nat × TV)}
theorem yn (hs : dH c σ a w) {t : TypeId} {r : Option Operand} (ho : o.op = .makeMap t r) (hx : ex c.P o.op (ev σ.s) σ.h σ.n = some A) (hc : A.c = true) (hput : sput c.m o.dst A.v (ks A σ.s) = some s') : bR c o a w ⟨s', A.h, A.n⟩ := by
  rw [ho] at hx
  simp only [ex, ax] at hx
  obtain ⟨k, hk, hx⟩ := hx
  obtain ⟨hr, hx⟩ := ah.1 hx
  simp only [af] at hx; subst hx
  cases r with
  | some r => simp at hr
  | none =>
  refine bR.new hs (hst := by simp [ho, stillB]) (v := .map (some w.heap.size)) (w' := w.alloc (.map #[] 0)) (m := ⟨w.heap.size, 0, true⟩) (L := [w.heap.size]) ?_ (j0 _ _) (by simp) (by simp) hput ?_
  · have : (Instr.makeMap t none).run c.P w = .ok (.map (some w.heap.size)) (w.alloc (.map #[] 0)) := by simp [Instr.makeMap]
    simp [execOp, ho, this]
  · intro μ hl hH kp
    have hok : c.ok w.heap.size := hs.new _ (Nat.le_refl _)
    refine ⟨?_, ?_⟩
    · simp only [RR, kh, ↓reduceIte]
      exact ⟨trivial, hok, [], .refl _, .nil, #[], 0, (heap_alloc w _).1, rfl⟩
    · simp only [VR]
      refine ⟨by omega, _, rfl, ?_⟩
      simp [hget, kh]
theorem A2 (hs : dH c σ a w) {t : TypeId} {x y : Operand} {q : Bool} (ho : o.op = .lookup t x y q) (hx : ex c.P o.op (ev σ.s) σ.h σ.n = some A) (hc : A.c = true) (hput : sput c.m o.dst A.v (ks A σ.s) = some s') : bR c o a w ⟨s', A.h, A.n⟩ := by
  rw [ho] at hx
  simp only [ex] at hx
  obtain ⟨hfr, hd, hsz, μ, hH, hl, hgs⟩ := id hs
  have hv := SR.iR hl x
  have hy := SR.iR hl y
  unfold lookupS at hx
  split at hx
  · rename_i k r hk e1
    split at hx
    · rename_i k2 l hg
      split at hx
      · rename_i hkk
        subst hkk
        obtain ⟨i, hi, hx⟩ := Option.map_eq_some_iff.1 hx
        subst hx
        rw [e1] at hv
        simp only [VR, hg] at hv
        obtain ⟨_, b, e3, rfl⟩ := hv
        obtain ⟨L, hR⟩ := hH.row hg
        simp only [RR] at hR
        obtain ⟨_, _, hm⟩ := hR
        have hyv := j6 hi hy
        refine bR.quiet hs (v := if q then .tuple #[valK k2.v (mget k2.k k2.v l i), .bool (jb k2.k k2.v l i)] else valK k2.v (mget k2.k k2.v l i)) (fun w1 hb1 => ?_) hput (fun _ _ _ => ?_)
        · have hm1 : tE w1 (μ r).cY _ l := hm.same (hb1.block _ hm.lt)
          simp [execOp, ho, e3, hyv, nk hk hm1]
        · cases q with
          | true => simp only [ag, ↓reduceIte, VR]; exact ⟨[_, _], rfl, _, _, rfl, rfl, _, _, rfl, rfl, rfl⟩
          | false => simp [VR]
      · simp at hx
    · simp at hx
  · simp at hx
theorem uR (hs : dH c σ a w) {t : TypeId} {x y z : Operand} (ho : o.op = .mapUpdate t x y z) (hx : ex c.P o.op (ev σ.s) σ.h σ.n = some A) (hc : A.c = true) (hput : sput c.m o.dst A.v (ks A σ.s) = some s') : bR c o a w ⟨s', A.h, A.n⟩ := by
  rw [ho] at hx
  simp only [ex] at hx
  have hlt := hs.lt
  obtain ⟨hfr, hd, hsz, μ, hH, hl, hgs⟩ := id hs
  have hio : ∀ b, c.ab b → ¬ c.ok b := c.iZ
  have hv := SR.iR hl x
  have hy := SR.iR hl y
  have hz := SR.iR hl z
  unfold nT at hx
  split at hx
  · rename_i k r hk e1
    split at hx
    · rename_i k2 l hg
      split at hx
      · rename_i hkk
        subst hkk
        obtain ⟨i, hi, hx⟩ := ax.1 hx
        obtain ⟨b, hbz, hx⟩ := Option.map_eq_some_iff.1 hx
        subst hx
        rw [e1] at hv
        simp only [VR, hg] at hv
        obtain ⟨_, bb, e4, rfl⟩ := hv
        obtain ⟨L0, hR⟩ := hH.row hg
        simp only [RR] at hR
        obtain ⟨_, hok, hm⟩ := hR
        have hyv := j6 hi hy
        have hzv := j6 hbz hz
        obtain ⟨ob, hrun, hm'⟩ := nm (a := i) (x := b) hk hm
        have hoth : ∀ b', b' ≠ (μ r).cY → ({ w with heap := w.heap.setIfInBounds (μ r).cY ob } : World).heap[b']? = w.heap[b']? := fun b' hne => by
          show (w.heap.setIfInBounds (μ r).cY ob)[b']? = _
          simp [Ne.symm hne]
        obtain ⟨_, _, _, es, cl, hbm, _⟩ := hm
        have hstep : Step c.ab w { w with heap := w.heap.setIfInBounds (μ r).cY ob } := ⟨fun b' hb => hoth b' (fun e => hio _ hb (by rw [e]; exact hok)), fun b' m hr => hr.same (hoth b' (fun e => by
          obtain ⟨cs, tt, ff, hc1, _⟩ := hr
          rw [e, hbm] at hc1
          simp at hc1))⟩
        obtain ⟨hH', kp⟩ := HR.write (D1 := []) (D := []) (x' := .mp k2 (mset k2.k k2.v l i b)) (K := fun _ => True) hH hg (by simp [Fit]) hstep hoth
          (fun L hR => by simp only [RR] at hR; rw [hR.1]; simp) (fun fr t l _ e => by cases e) (fun _ _ _ _ => aD _) (by
            intro L kp hR hn _ _
            simp only [RR] at hR ⊢
            obtain ⟨rfl, p1, p2⟩ := hR
            exact ⟨_, ⟨rfl, p1, hm'⟩, hn, by simp⟩)
        refine ⟨.skip, { w with heap := w.heap.setIfInBounds (μ r).cY ob }, ?_, fun e => (by simp [ho, stillB] at e), .inr ⟨rfl, dH.skip ⟨hfr.os, hfr.tape, hfr.output, ?_, ?_, ?_⟩ hd hsz hH' (SR.mono kp hl) (dm kp c hgs) hput⟩⟩
        · simp [execOp, ho, e4, hyv, hzv, hrun]
        · have := hfr.size; simpa using this
        · intro b' hb' hn
          exact (hoth b' (fun e => hn (by rw [e]; exact hok))).trans (hfr.block b' hb' hn)
        · exact fun b' m hr => hstep.row b' m (hfr.row b' m hr)
      · simp at hx
    · simp at hx
  · simp at hx
theorem A3 (hs : dH c σ a w) {t : TypeId} {x y z : Operand} (ho : o.op = .insert t x y z) (hx : ex c.P o.op (ev σ.s) σ.h σ.n = some A) (hc : A.c = true) (hput : sput c.m o.dst A.v (ks A σ.s) = some s') : bR c o a w ⟨s', A.h, A.n⟩ := by
  rw [ho] at hx
  simp only [ex] at hx
  have hlt := hs.lt
  obtain ⟨hfr, hd, hsz, μ, hH, hl, hgs⟩ := id hs
  have hio : ∀ b, c.ab b → ¬ c.ok b := c.iZ
  have hv := SR.iR hl x
  have hy := SR.iR hl y
  have hz := SR.iR hl z
  unfold nT at hx
  split at hx
  · rename_i k r hk e1
    split at hx
    · rename_i k2 l hg
      split at hx
      · rename_i hkk
        subst hkk
        obtain ⟨i, hi, hx⟩ := ax.1 hx
        obtain ⟨b, hbz, hx⟩ := Option.map_eq_some_iff.1 hx
        subst hx
        rw [e1] at hv
        simp only [VR, hg] at hv
        obtain ⟨_, bb, e4, rfl⟩ := hv
        obtain ⟨L0, hR⟩ := hH.row hg
        simp only [RR] at hR
        obtain ⟨_, hok, hm⟩ := hR
        have hyv := j6 hi hy
        have hzv := j6 hbz hz
        obtain ⟨ob, hrun, hm'⟩ := nm (a := i) (x := b) hk hm
        have hoth : ∀ b', b' ≠ (μ r).cY → ({ w with heap := w.heap.setIfInBounds (μ r).cY ob } : World).heap[b']? = w.heap[b']? := fun b' hne => by
          show (w.heap.setIfInBounds (μ r).cY ob)[b']? = _
          simp [Ne.symm hne]
        obtain ⟨_, _, _, es, cl, hbm, _⟩ := hm
        have hstep : Step c.ab w { w with heap := w.heap.setIfInBounds (μ r).cY ob } := ⟨fun b' hb => hoth b' (fun e => hio _ hb (by rw [e]; exact hok)), fun b' m hr => hr.same (hoth b' (fun e => by
          obtain ⟨cs, tt, ff, hc1, _⟩ := hr
          rw [e, hbm] at hc1
          simp at hc1))⟩
        obtain ⟨hH', kp⟩ := HR.write (D1 := []) (D := []) (x' := .mp k2 (mset k2.k k2.v l i b)) (K := fun _ => True) hH hg (by simp [Fit]) hstep hoth
          (fun L hR => by simp only [RR] at hR; rw [hR.1]; simp) (fun fr t l _ e => by cases e) (fun _ _ _ _ => aD _) (by
            intro L kp hR hn _ _
            simp only [RR] at hR ⊢
            obtain ⟨rfl, p1, p2⟩ := hR
            exact ⟨_, ⟨rfl, p1, hm'⟩, hn, by simp⟩)
        refine ⟨.skip, { w with heap := w.heap.setIfInBounds (μ r).cY ob }, ?_, fun e => (by simp [ho, stillB] at e), .inr ⟨rfl, dH.skip ⟨hfr.os, hfr.tape, hfr.output, ?_, ?_, ?_⟩ hd hsz hH' (SR.mono kp hl) (dm kp c hgs) hput⟩⟩
        · simp [execOp, ho, e4, hyv, hzv, hrun]
        · have := hfr.size; simpa using this
        · intro b' hb' hn
          exact (hoth b' (fun e => hn (by rw [e]; exact hok))).trans (hfr.block b' hb' hn)
        · exact fun b' m hr => hstep.row b' m (hfr.row b' m hr)
      · simp at hx
    · simp at hx
  · simp at hx
end
end Go.Tw
namespace Go.Tw
open Go Go.RowKit
open Go.IntKind renaming wrap → Wr
variable [k7]
section
variable {w w' : World} {ab imm' ok ok' : Nat → Prop} {μ : Nat → Mu} {h : ay} {n : Nat} {t : Ty}
theorem EL.split : ∀ {l m : List (den t)} {us : List Value} {L : List Nat}, EL w ab ok t (l ++ m) us L → ∃ u1 u2 L1 L2, us = u1 ++ u2 ∧ L = L1 ++ L2 ∧ EL w ab ok t l u1 L1 ∧ EL w ab ok t m u2 L2
  | [], m, us, L, H => ⟨[], us, [], L, rfl, rfl, ⟨rfl, rfl⟩, H⟩
  | x :: l, m, us, L, H => by
    obtain ⟨u1, u2, L1, L2, rfl, rfl, h1, h2⟩ := H
    obtain ⟨u3, u4, L3, L4, rfl, rfl, h3, h4⟩ := EL.split h2
    exact ⟨u1 ++ u3, u4, L1 ++ L3, L4, by simp, by simp, ⟨u1, u3, L1, L3, rfl, rfl, h1, h3⟩, h4⟩
theorem EL.rep {x : den t} {us : List Value} (h : TRl w ab ok t x us []) : ∀ k : Nat, EL w ab ok t (List.replicate k x) (List.replicate k us).flatten []
  | 0 => ⟨rfl, rfl⟩
  | k + 1 => ⟨us, _, [], [], by simp [List.replicate_succ], rfl, h, EL.rep h k⟩
theorem EL.put {l : List (den t)} {us vs : List Value} {L M : List Nat} {i : Nat} {y : den t} (hi : i < l.length) (H : EL w ab ok t l us L) (K : TRl w ab ok t y vs M) :
    ∃ u1 u2 u3 L1 L2 L3, us = u1 ++ (u2 ++ u3) ∧ L = L1 ++ (L2 ++ L3) ∧ u1.length = i * sz t ∧ u2.length = sz t ∧ EL w ab ok t (l.set i y) (u1 ++ (vs ++ u3)) (L1 ++ (M ++ L3)) := by
  have hl := EB l (eX t) i hi
  rw [hl] at H
  obtain ⟨u1, u4, L1, L4, rfl, rfl, h1, h2⟩ := EL.split H
  obtain ⟨u2, u3, L2, L3, rfl, rfl, h3, h4⟩ := EL.split h2
  obtain ⟨v1, v2, M1, M2, rfl, rfl, h5, rfl, rfl⟩ := h3
  refine ⟨u1, _, u3, L1, _, L3, rfl, rfl, ?_, by simpa using h5.length, ?_⟩
  · rw [h1.length]; congr 1; simp; omega
  · rw [Nu l y i hi]
    exact h1.app (EL.app (l := [y]) ⟨vs, [], M, [], by simp, by simp, K, rfl, rfl⟩ h4)
end
section
variable {c : Cx} {σ : St} {a : Act} {w w' : World} {A : lp} {o : Oper} {s' : List (Nat × TV)}
theorem yp {D1 D2 D3 D4 : List Nat} (h : (D4 ++ (D1 ++ (D2 ++ D3))).Nodup) : (D1 ++ (D4 ++ D3)).Nodup := by
  simp only [List.nodup_append, List.mem_append] at h ⊢
  grind
theorem we {ab ok : Nat → Prop} {μ : Nat → Mu} {n : Nat} {et : Ty} {s : List (Nat × TV)} : ∀ (parts : List (Nat × Operand)) (h : ay) (f : Bool) (es es' : List (den et)) (us : List Value) (D : List Nat) (h' : ay) (f' : Bool),
    SR w ab ok μ h n s a.tmps → HR w ab ok μ h n D → EL w (cI f ab) ok et es us D → fillE et (ev s) h f es parts = some (h', f', es') →
    ∃ us' D', Instr.fill (fun i => some (i * sz et, sz et)) us.toArray (parts.map fun q => (q.1, a.eval q.2)) = some us'.toArray ∧
      HR w ab ok μ h' n D' ∧ EL w (cI f' ab) ok et es' us' D' ∧ es'.length = es.length ∧ ∀ r x, hget h' r = some x → hget h r = some x
  | [], h, f, es, es', us, D, h', f', hl, H, hc, hob => by
    simp only [fillE, af, aG] at hob
    obtain ⟨rfl, rfl, rfl⟩ := hob
    exact ⟨us, D, by simp [Instr.fill], H, hc, rfl, fun _ _ h => h⟩
  | (i, x) :: rest, h, f, es, es', us, D, h', f', hl, H, hc, hob => by
    simp only [fillE, ax] at hob
    obtain ⟨⟨fs, f2, h1⟩, habs, y, hy, hob⟩ := hob
    obtain ⟨hb, hob⟩ := ah.1 hob
    simp only [aA] at hb
    obtain ⟨hb1, hb2⟩ := hb
    have hi : i < es.length := by simpa [Nat.blt_eq] using hb1
    obtain ⟨vs, hv, hvr, hvone⟩ := nh hb2 (hl.iR x)
    obtain ⟨L, k1, k2, k3⟩ := uN H hvr habs
    have hmf : ∀ b, cI f ab b → cI (f && f2) ab b := fun b hb => iv (fun e => by simp [e]) hb
    have hm2 : ∀ b, cI f2 ab b → cI (f && f2) ab b := fun b hb => iv (fun e => by simp [e]) hb
    have hty := (CT.eF hy k1)
    have hlv := hty.length
    obtain ⟨u1, u2, u3, L1, L2, L3, rfl, rfl, l1, l2, hput⟩ := EL.put hi (hc.mono hmf (fun _ h => h) (fun _ _ => rfl) (fun _ _ => rfl)) (hty.mono hm2 (fun _ h => h) (fun _ _ => rfl) (fun _ _ => rfl))
    have H2 : HR w ab ok μ h1 n (L1 ++ (L ++ L3)) := by
      obtain ⟨own, q1, q2, q3⟩ := k2
      exact ⟨own, q1, yp (D2 := L2) q2, fun b hb => q3 b (by simp only [List.mem_append] at hb ⊢; rcases hb with h | h | h <;> simp [h])⟩
    have hl2 : SR w ab ok μ h1 n s a.tmps := SR.mono (Kept.sub k3) hl
    obtain ⟨us', D', g1, g2, g3, g4, g5⟩ := we rest _ _ _ _ _ _ _ _ hl2 H2 hput hob
    refine ⟨us', D', ?_, g2, g3, by simpa using g4, fun r x hx => k3 r x (g5 r x hx)⟩
    simp only [List.map_cons, Instr.fill]
    have hsz : (a.eval x).cells.size = sz et := by rw [hv]; simp; omega
    have hul : (u1 ++ (u2 ++ u3)).length = i * sz et + sz et + u3.length := by simp; omega
    rw [if_neg (by rw [hsz, List.size_toArray, hul]; simp)]
    rw [← g1]
    congr 1
    rw [vZ (u1 ++ (u2 ++ u3)) vs (i * sz et) _ hv (by rw [hul]; omega)]
    congr 1
    rw [← l1, List.take_left]
    have : u1.length + vs.length = (u1 ++ u2).length := by simp; omega
    rw [this, ← List.append_assoc u1 u2, List.drop_left, List.append_assoc]
theorem sQ (hs : dH c σ a w) {t : TypeId} {len : Nat} {parts : Array (Nat × Operand)} (ho : o.op = .buildSlice t len parts) (hx : ex c.P o.op (ev σ.s) σ.h σ.n = some A) (hc : A.c = true) (hput : sput c.m o.dst A.v (ks A σ.s) = some s') : bR c o a w ⟨s', A.h, A.n⟩ := by
  have hlt := hs.lt
  obtain ⟨hfr, hd, hsz, μ, hH, hl, hgs⟩ := id hs
  rw [ho] at hx
  simp only [ex] at hx
  split at hx
  · rename_i size bytes z et ht hel
    obtain ⟨hb, hx⟩ := ah.1 hx
    simp only [aA] at hb
    have hsz : sz et = size := Nat.eq_of_beq_eq_true hb.1
    have h24' : len * size ≤ 16777216 := Nat.le_of_ble_eq_true hb.2
    simp only [ax, Option.map_eq_some_iff] at hx
    obtain ⟨d, hdz, ⟨h1, f1, es⟩, hfill, rfl⟩ := hx
    obtain ⟨e, i, zv, hu, hi, hz, rfl, rfl, rfl, hzl, hs0, hb0, hzone⟩ := iK ht
    have hzt : TRl w (cI true c.ab) c.ok et d zv.cells.toList [] := CT.eF hdz (CT.pmap _)
    obtain ⟨us', D', g1, g2, g3, g4, g5⟩ := we (a := a) parts.toList σ.h true _ _ _ [] _ _ hl hH (EL.rep hzt len) hfill
    rw [hsz] at g1
    have hcells : ((Array.range (len * i.size)).map ((if len * i.size = 0 then (#[] : Array Value) else zv.cells)[· % (if len * i.size = 0 then (#[] : Array Value) else zv.cells).size]!)) = (List.replicate len zv.cells.toList).flatten.toArray := by
      have hln : (List.replicate len zv.cells.toList).flatten.length = len * i.size := by
        rw [List.length_flatten, List.map_replicate, List.sum_replicate_nat, hzl]
      apply Array.ext'
      apply List.ext_getElem?
      intro j
      by_cases hj : j < len * i.size
      · have hne : len * i.size ≠ 0 := by omega
        have hzsz : zv.cells.size = i.size := by simpa using hzl
        have := mm zv.cells.toList (by omega) len j (by rw [hzl]; exact hj)
        simp only [List.toList_toArray, this, hzl]
        have hm : j % i.size < zv.cells.size := by rw [hzsz]; exact Nat.mod_lt _ (by omega)
        simp only [hne, ↓reduceIte, Array.getElem?_toList, hzsz]
        rw [Array.getElem?_map, Array.getElem?_range, if_pos hj, Option.map_some, getElem!_pos zv.cells _ hm, Array.getElem?_eq_getElem hm]
      · rw [List.getElem?_eq_none (by simp; omega), List.getElem?_eq_none (by simp only [List.toList_toArray, hln]; omega)]
    have hlen : es.length = len := by simpa using g4
    have hus : us'.length = len * i.size := by rw [g3.length, hlen, hsz]
    have hrun : (execOp a.eval o).run c.P w = .ok (.value (.slice (some ⟨w.heap.size, 0, none⟩) es.length len)) (w.alloc (.cells us'.toArray e)) := by
      rw [hlen]
      have e1 : (parts.map fun (q : Nat × Operand) => (q.1, a.eval q.2)).toList = parts.toList.map fun q => (q.1, a.eval q.2) := by simp
      simp only [execOp, ho, Instr.buildSlice]
      rw [show (Array.map (fun x => match x with | (i, x) => (i, a.eval x)) parts) = parts.map fun (q : Nat × Operand) => (q.1, a.eval q.2) from rfl, e1]
      simp only [Sem.run_bind, run_underlying hu, Result.andThen_ok]
      have hs : (sizeOf e).run c.P w = .ok i.size w := by simp [sizeOf, typeInfo, hi]
      have hzv : (zeroValue e).run c.P w = .ok zv w := by simp [zeroValue, typeInfo, hi, hz]
      have h24 : ¬ (len * i.size > 2 ^ 24) := by omega
      by_cases h0 : len * i.size = 0
      · have hc0 : (Array.range (len * i.size)).map ((#[] : Array Value)[· % (#[] : Array Value).size]!) = (List.replicate len zv.cells.toList).flatten.toArray := by
          rw [← hcells]; simp only [h0, ↓reduceIte]
        rw [h0] at hc0
        simp only [hs, Result.andThen_ok, show ¬ ((0 : Nat) > 2 ^ 24) from by omega, ↓reduceIte, h0, Sem.run_bind, Sem.run_pure, hc0, g1, newRow, Sem.run_bind, run_newObj, Result.andThen_ok, Sem.run_pure, World.alloc_eq]
      · have hc0 : (Array.range (len * i.size)).map (zv.cells[· % zv.cells.size]!) = (List.replicate len zv.cells.toList).flatten.toArray := by
          rw [← hcells]; simp only [h0, ↓reduceIte]
        simp only [hs, Result.andThen_ok, h24, ↓reduceIte, h0, Sem.run_bind, Sem.run_pure, hzv, hc0, g1, newRow, run_newObj, World.alloc_eq]
    refine qM hs (by simp [ho, stillB]) (fr := f1) (cap := len) (w1 := w) (Below.refl _ _) rfl g2 (SR.mono (Kept.sub g5) hl) (dm (Kept.sub g5) c hgs) g3 (fun j u hj => by simpa using hj) (by simp [hus, hsz]) (Nat.le_of_eq hlen) hrun hput
  · simp at hx
theorem EC (hs : dH c σ a w) {t : TypeId} {x : Operand} {f : Nat} (ho : o.op = .field t x f) (hx : ex c.P o.op (ev σ.s) σ.h σ.n = some A) (hc : A.c = true) (hput : sput c.m o.dst A.v (ks A σ.s) = some s') : bR c o a w ⟨s', A.h, A.n⟩ := by
  rw [ho] at hx; simp only [ex, Option.map_eq_some_iff] at hx
  obtain ⟨v, hv, rfl⟩ := hx
  unfold ED at hv
  split at hv
  · rename_i fs hu
    simp only [ax] at hv
    obtain ⟨d, hd, ⟨g, m⟩, hav, hv⟩ := hv
    split at hv
    · rename_i cs hq
      obtain ⟨hb, hv⟩ := ah.1 hv
      simp only [af] at hv; subst hv
      simp only [aA, Bool.or_eq_true] at hb
      obtain ⟨hgm, hle⟩ := hb
      have hgm' : g = true ∨ m = 1 := hgm.imp id Nat.eq_of_beq_eq_true
      have hle := Nat.le_of_ble_eq_true hle
      obtain ⟨_, _, _, μ, hH, hl, hg⟩ := id hs
      have hvx := SR.iR hl x
      rw [hq] at hvx
      simp only [VR] at hvx
      obtain ⟨us, he, hus⟩ := hvx
      have hlen : d.offset + m ≤ us.length := by rw [← hus.length]; exact hle
      refine bR.quiet hs (v := fh g ((us.drop d.offset).take m)) (fun w1 hb1 => ?_) hput (fun μ' hl' _ => ?_)
      · have hp := rQ (P := c.P) (w := w1) hav hlen hgm'
        simp [execOp, ho, Instr.field, underlying, hu, hd, he, asAgg, hp]
      · have hv' := SR.iR hl' x
        rw [hq, he] at hv'
        simp only [VR] at hv'
        obtain ⟨us', he', hus'⟩ := hv'
        simp only [Value.agg.injEq] at he'
        have e2 : us' = us := by simpa using he'.symm
        subst e2
        exact kE ((hus'.drop _).take _)
    · simp at hv
  · simp at hv
theorem EE {P : Program} {g : Int → Int → Int} {f : Value → Value → Sem Value} (hf : ∀ (k k' : IntKind) (a b : Int) (w : World), (f (.int k a) (.int k' b)).run P w = .ok (.int k (g a b)) w) {ab ok : Nat → Prop} {μ : Nat → Mu} {h : ay} {n : Nat} {w0 : World} :
    ∀ (xs : List TV) (us : List Value) (k : IntKind) (a : Int) (v : TV), mmS g (.p (.int k a)) xs = some v → VRl w0 ab ok μ h n xs us → ∃ u, v = .p u ∧ ∀ w : World, (us.foldlM f (.int k a)).run P w = .ok u w
  | [], us, k, a, v, H, hx => by
    simp only [mmS, af] at H
    simp only [VRl] at hx
    subst hx
    exact ⟨_, H.symm, fun w => by simp⟩
  | x :: xs, us, k, a, v, H, hx => by
    simp only [VRl] at hx
    obtain ⟨u, us', rfl, h1, h2⟩ := hx
    unfold mmS at H
    split at H
    · rename_i e; cases e
    · rename_i e1 e2
      cases e1
      simp only [List.cons.injEq] at e2
      obtain ⟨rfl, rfl⟩ := e2
      rw [h1.iy]
      obtain ⟨u2, g1, g2⟩ := EE hf xs us' _ _ v H h2
      exact ⟨u2, g1, fun w => by simp [List.foldlM_cons, hf, g2]⟩
    · simp at H
theorem IE (hs : dH c σ a w) {cl : Call} {x : Operand} {xs : List Operand} {g : Int → Int → Int} {f : Value → Value → Sem Value} (hf : ∀ (k k' : IntKind) (a b : Int) (w : World), (f (.int k a) (.int k' b)).run c.P w = .ok (.int k (g a b)) w) (hargs : cl.args.toList = x :: xs)
    (hrun : ∀ (v : Value) (w1 : World), (((xs.map a.eval).foldlM f (a.eval x)) : Sem Value).run c.P w1 = .ok v w1 → (execOp a.eval o).run c.P w1 = .ok (.value v) w1) {v : TV} (hi : isInt (ev σ.s x) = true) (hv : mmS g (ev σ.s x) (xs.map (ev σ.s)) = some v) (hput : sput c.m o.dst v σ.s = some s') : bR c o a w ⟨s', σ.h, σ.n⟩ := by
  obtain ⟨_, _, _, μ, hH, hl, hg⟩ := id hs
  have hx := SR.iR hl x
  unfold isInt at hi
  split at hi
  · rename_i k m hq
    rw [hq] at hx hv
    obtain ⟨u, rfl, hu⟩ := EE hf _ _ _ _ _ hv (SR.map hl xs)
    exact bR.quiet hs (v := u) (fun w1 _ => hrun u w1 (by rw [hx.iy]; exact hu w1)) hput (fun _ _ _ => by simp [VR])
  · simp at hi
theorem EF (hs : dH c σ a w) (o : Oper) (hx : ex c.P o.op (ev σ.s) σ.h σ.n = some A) (hc : A.c = true) (hput : sput c.m o.dst A.v (ks A σ.s) = some s') : bR c o a w ⟨s', A.h, A.n⟩ := by
  cases ho : o.op with
  | move x =>
    rw [ho] at hx; simp only [ex, af] at hx; subst hx
    exact zI hs (.inl ho) hput
  | assign x =>
    rw [ho] at hx; simp only [ex, af] at hx; subst hx
    exact zI hs (.inr ho) hput
  | pick k x y =>
    rw [ho] at hx; simp only [ex] at hx
    obtain ⟨_, _, _, μ, hH, hl, hg⟩ := id hs
    have hk := SR.iR hl k
    split at hx
    · rename_i hq
      simp only [af] at hx; subst hx
      rw [hq] at hk
      exact bR.quiet hs (v := a.eval x) (fun w1 hb1 => by simp [execOp, ho, hk.iy, asBool]) hput fun μ hl _ => hl.iR x
    · rename_i hq
      simp only [af] at hx; subst hx
      rw [hq] at hk
      exact bR.quiet hs (v := a.eval y) (fun w1 hb1 => by simp [execOp, ho, hk.iy, asBool]) hput fun μ hl _ => hl.iR y
    · simp at hx
  | alloc t => exact El hs ho hx hc hput
  | box t x => exact JN hs ho hx hc hput
  | build t parts => exact Em hs ho hx hc hput
  | buildSlice t len parts => exact sQ hs ho hx hc hput
  | load t x => exact GX hs ho hx hc hput
  | store t x y => exact Es hs ho hx hc hput
  | nilCheck x => exact wg hs ho hx hc hput
  | binOp op t x y t' => exact Eo hs ho hx hc hput
  | unOp op t x => exact GY hs ho hx hc hput
  | convert s d x => exact yq hs ho hx hc hput (fun h => GN hs ho h hput)
  | makeInterface t x => exact pW hs ho hx hc hput
  | makeFunc fn first cap => exact wh hs ho hx hc hput
  | makeSlice t l k => exact uL hs ho hx hc hput
  | slice t x lo hi mx => exact ok_slice hs ho hx hc hput
  | fieldAddr s x f => exact uS hs ho hx hc hput
  | indexAddr t x i => exact uT hs ho hx hc hput
  | index t x i => exact EG hs ho hx hc hput
  | extract x i => exact yr hs ho hx hc hput
  | call cl =>
    have hx' := hx
    rw [ho] at hx'; simp only [ex] at hx'
    split at hx'
    · rename_i hcl; exact JW hs ho hcl hx hc hput
    · rename_i hcl; exact AU hs ho hcl hx hc hput
    · rename_i hcl
      split at hx'
      · rename_i x xs hargs
        obtain ⟨hi, hx'⟩ := ah.1 hx'
        simp only [Option.map_eq_some_iff] at hx'
        obtain ⟨v, hv, rfl⟩ := hx'
        refine IE (f := Builtin.max2) hs (fun k k' a b w => by simp only [Builtin.max2, Sem.run_pure, imax]) hargs (fun v w1 h => ?_) hi hv hput
        simp [execOp, ho, resolve, hcl, invoke, builtin, Builtin.max_, hargs, h]
      · simp at hx'
    · rename_i hcl
      split at hx'
      · rename_i x xs hargs
        obtain ⟨hi, hx'⟩ := ah.1 hx'
        simp only [Option.map_eq_some_iff] at hx'
        obtain ⟨v, hv, rfl⟩ := hx'
        refine IE (f := Builtin.min2) hs (fun k k' a b w => by simp only [Builtin.min2, Sem.run_pure, Nv]) hargs (fun v w1 h => ?_) hi hv hput
        simp [execOp, ho, resolve, hcl, invoke, builtin, Builtin.min_, hargs, h]
      · simp at hx'
    · rename_i hcl
      split at hx'
      · rename_i x e hargs hd
        split at hx'
        · rename_i hq
          simp only [af] at hx'; subst hx'
          obtain ⟨_, _, _, μ, hH, hl, hg⟩ := id hs
          have hv := SR.iR hl x
          rw [hq] at hv
          cases ht : cl.argTypes[0]? with
          | none => simp [ht] at hd
          | some t =>
            simp only [ht, ai] at hd
            have hargs' : (cl.args.map a.eval)[0]? = some (a.eval x) := by
              have : cl.args = [x].toArray := by rw [← hargs]
              rw [this]; simp
            exact bR.quiet hs (v := .int .i64 0) (fun w1 _ => by simp [execOp, ho, resolve, hcl, invoke, builtin, Builtin.cap_, ht, hargs', underlying, hd, hv.iy, goInt]) hput (fun _ _ _ => by simp [VR])
        · simp at hx'
      · simp at hx'
    · simp at hx'
  | field t x f => exact EC hs ho hx hc hput
  | makeMap t r => exact yn hs ho hx hc hput
  | lookup t x y q => exact A2 hs ho hx hc hput
  | mapUpdate t x y z => exact uR hs ho hx hc hput
  | insert t x y z => exact A3 hs ho hx hc hput
  | _ => rw [ho] at hx; simp [ex] at hx
end
end Go.Tw
