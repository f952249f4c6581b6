/- The logic: a step. -/
import Derived.Test.YtemcbhjheebnnaaGreatT9
import Derived.Laws.StructEq
import Derived.Laws.BytesString
set_option linter.all false
namespace Go.Tw
open Go Go.RowKit
variable [k7]
section
variable {c : Cx} {σ : St} {a : Act} {w w' : World} {A : lp} {o : Oper} {s' : List (Nat × TV)}
def kh (μ : Nat → Mu) (id : Nat) (m : Mu) : Nat → Mu := fun r => if r = id then m else μ r
theorem Kept.cons {ab ok : Nat → Prop} {μ : Nat → Mu} {h : ay} {n : Nat} {bh : dq} {m : Mu} (kp : Kept (fun _ => True) ab ab ok ok w w' μ μ h h n n) : Kept (fun _ => True) ab ab ok ok w w' μ (kh μ n m) h ((n, bh) :: h) n (n + 1) :=
  ⟨kp.step, fun _ h => h, fun _ h => h, fun r hr => by simp [kh, show r ≠ n by omega], by omega, fun r hr => by simp only [hget, show r ≠ n by omega, ↓reduceIte]; exact Fit.refl _, kp.mJ⟩
theorem dm {K : Nat → Prop} {ab imm' ok ok' : Nat → Prop} {μ μ' : Nat → Mu} {h h' : ay} {n n' : Nat} (kp : Kept K ab imm' ok ok' w w' μ μ' h h' n n') (c : Cx) (H : VRl w ab ok μ h n c.gs c.gv) : VRl w' imm' ok' μ' h' n' c.gs c.gv :=
  VRl.mono kp _ _ (innOkl.imp (fun _ h => h.elim) _ c.Bw) H
theorem SR.mono {ab imm' ok ok' : Nat → Prop} {μ μ' : Nat → Mu} {h h' : ay} {n n' : Nat} {s : List (Nat × TV)} {us : Array Value} (kp : Kept (fun _ => True) ab imm' ok ok' w w' μ μ' h h' n n') (H : SR w ab ok μ h n s us) : SR w' imm' ok' μ' h' n' s us :=
  fun t => VR.mono kp _ _ (fe _) (H t)
theorem bR.new (hs : dH c σ a w) {x : TV} {v : Value} {bh : dq} {m : Mu} {L : List Nat}
    (hst : stillB o.op = false) (hr : (execOp a.eval o).run c.P w = .ok (.value v) w') (hb : Below w.heap.size w w') (hn : L.Nodup) (hL : ∀ b ∈ L, w.heap.size ≤ b) (hput : sput c.m o.dst x σ.s = some s')
    (hR : ∀ μ, SR w c.ab c.ok μ σ.h σ.n σ.s a.tmps → HR w c.ab c.ok μ σ.h σ.n [] → Kept (fun _ => True) c.ab c.ab c.ok c.ok w w' μ (kh μ σ.n m) σ.h ((σ.n, bh) :: σ.h) σ.n (σ.n + 1) →
      RR w' c.ab c.ok (kh μ σ.n m) ((σ.n, bh) :: σ.h) (σ.n + 1) σ.n bh L ∧ VR w' c.ab c.ok (kh μ σ.n m) ((σ.n, bh) :: σ.h) (σ.n + 1) x v) :
    bR c o a w ⟨s', (σ.n, bh) :: σ.h, σ.n + 1⟩ := by
  have hlt := hs.lt
  have hnew := hs.new
  obtain ⟨h1, h2, h3, μ, hH, hl, hg⟩ := hs
  have kp0 := hH.fQ hb hlt (Nat.le_refl _)
  have kp : Kept (fun _ => True) c.ab c.ab c.ok c.ok w w' μ (kh μ σ.n m) σ.h ((σ.n, bh) :: σ.h) σ.n (σ.n + 1) := Kept.cons kp0
  obtain ⟨hRR, hV⟩ := hR μ hl hH kp
  have hH1 : HR w' c.ab c.ok μ σ.h σ.n (L ++ []) := hH.fresh hb hlt hn hL (by simp)
  have hH2 := HR.attach (id := σ.n) (bh := bh) hH1 (Nat.le_refl _) (Nat.lt_succ_self _) (fun r hr => kp.mu r hr) hRR
  exact ⟨_, _, hr, fun e => (by rw [hst] at e; simp at e), .inl ⟨v, rfl, dH.put (h1.below hb) h2 h3 hH2 (SR.mono kp hl) (dm kp c hg) hV hput⟩⟩
theorem zC {ab ok : Nat → Prop} {μ : Nat → Mu} {h : ay} {n : Nat} {x : TV} {v : Value} (hx : okc x = true) (H : VR w ab ok μ h n x v) : v.oneCell' = true := by
  cases x with
  | p u => simp only [VR] at H; subst H; simpa [okc] using hx
  | tr t l => simp only [VR] at H; exact TRl.qL H v (by simp)
  | full r =>
    simp only [VR] at H
    obtain ⟨_, H⟩ := H
    split at H
    · obtain ⟨B, cap, rfl⟩ := H.len; rfl
    · obtain ⟨_, _, _, rfl⟩ := H; rfl
  | sub r off len =>
    simp only [VR] at H
    obtain ⟨_, H⟩ := H
    split at H
    · obtain ⟨B, cap, rfl⟩ := H.2.len; rfl
    · obtain ⟨_, _, _, rfl⟩ := H; rfl
  | mJ r i off => simp only [VR] at H; exact H.2.1
  | ptr r i off => simp only [VR] at H; obtain ⟨_, A, rfl, _⟩ := H; rfl
  | fm t l i off => simp only [VR] at H; obtain ⟨b, o, rfl, _⟩ := H; rfl
  | agg cs => simp [okc] at hx
  | mF cs => simp [okc] at hx
  | oV t y => simp only [VR] at H; obtain ⟨u, rfl, _⟩ := H; rfl
  | fn f fi ca => simp only [VR] at H; obtain ⟨us, vs, rfl, _⟩ := H; rfl
  | mp r => simp [okc] at hx
  | undef => simp [okc] at hx
theorem zD {ab ok : Nat → Prop} {μ : Nat → Mu} {h : ay} {n : Nat} : ∀ {cs : List TV} {us : List Value}, cs.all okc = true → VRl w ab ok μ h n cs us → ∀ u ∈ us, u.oneCell' = true
  | [], us, _, H, u, hu => by simp only [VRl] at H; subst H; simp at hu
  | c :: cs, us, ha, H, u, hu => by
    simp only [VRl] at H
    obtain ⟨u0, us', rfl, h1, h2⟩ := H
    simp only [List.all_cons, aA] at ha
    rcases List.mem_cons.1 hu with rfl | hu
    · exact zC ha.1 h1
    · exact zD ha.2 h2 u hu
theorem nh {ab ok : Nat → Prop} {μ : Nat → Mu} {h : ay} {n : Nat} {x : TV} {v : Value} (hok : (clist x).all okc = true) (H : VR w ab ok μ h n x v) : ∃ us, v.cells = us.toArray ∧ VRl w ab ok μ h n (clist x) us ∧ ∀ u ∈ us, u.oneCell' = true := by
  unfold clist at hok ⊢
  split at hok
  · simp only [VR] at H
    obtain ⟨us, rfl, hv⟩ := H
    exact ⟨us, rfl, hv, zD hok hv⟩
  · have h1 := zC (by simpa using hok) H
    refine ⟨[v], ?_, ?_, by simpa using h1⟩
    · cases v <;> first | rfl | simp [Value.oneCell'] at h1
    · simp only [VRl]; exact ⟨v, [], rfl, H, rfl⟩
theorem j0 (w : World) (o : Obj) : Below w.heap.size w (w.alloc o) := (Below.refl _ _).alloc (Nat.le_refl _) _
theorem Row.new (w : World) (c : Array Value) (t : TypeId) : Row (w.alloc (.cells c t)) w.heap.size c.size :=
  ⟨c, t, (0, 0), by show (w.heap.push _)[w.heap.size]? = _; simp, Nat.le_refl _, fun j _ => by simp⟩
theorem At.new (w : World) (c : Array Value) (t : TypeId) {us : List Value} {o : Nat} (h : ∀ (j : Nat) u, us[j]? = some u → c[o + j]? = some u) : At (w.alloc (.cells c t)) w.heap.size o us :=
  fun j u hj => by rw [World.cell?_alloc_new]; exact h j u hj
theorem El (hs : dH c σ a w) {t : TypeId} (ho : o.op = .alloc t) (hx : ex c.P o.op (ev σ.s) σ.h σ.n = some A) (hc : A.c = true) (hput : sput c.m o.dst A.v (ks A σ.s) = some s') : bR c o a w ⟨s', A.h, A.n⟩ := by
  rw [ho] at hx
  simp only [ex, ax] at hx
  obtain ⟨z, hz, hx⟩ := hx
  obtain ⟨hzo, hx⟩ := ah.1 hx
  simp only [af] at hx; subst hx
  obtain ⟨i, zv, hi, hzv, rfl⟩ := zE hz
  refine bR.new hs (hst := by simp [ho, stillB]) (v := .pointer (some ⟨w.heap.size, 0, none⟩)) (w' := w.alloc (.cells zv.cells t)) (m := ⟨w.heap.size, 0, true⟩) (L := [w.heap.size]) ?_ (j0 _ _) (by simp) (by simp) hput ?_
  · simp [execOp, ho, Instr.alloc, zeroValue, typeInfo, hi, hzv, newVar, newRow]
  · intro μ hl hH kp
    have hok : c.ok w.heap.size := hs.new _ (Nat.le_refl _)
    have hrow := Row.new w zv.cells t
    refine ⟨?_, ?_⟩
    · simp only [RR, kh, ↓reduceIte]
      refine ⟨trivial, hok, by simpa using hrow, zv.cells.toList, VRl.pmap _, At.new _ _ _ (fun j u hj => by simpa using hj)⟩
    · simp only [VR]
      refine ⟨by omega, _, rfl, ?_⟩
      simp [hget, kh]
theorem JN (hs : dH c σ a w) {t : TypeId} {x : Operand} (ho : o.op = .box t x) (hx : ex c.P o.op (ev σ.s) σ.h σ.n = some A) (hc : A.c = true) (hput : sput c.m o.dst A.v (ks A σ.s) = some s') : bR c o a w ⟨s', A.h, A.n⟩ := by
  rw [ho] at hx
  simp only [ex] at hx
  obtain ⟨hzo, hx⟩ := ah.1 hx
  simp only [af] at hx; subst hx
  refine bR.new hs (hst := by simp [ho, stillB]) (v := .pointer (some ⟨w.heap.size, 0, none⟩)) (w' := w.alloc (.cells (a.eval x).cells t)) (m := ⟨w.heap.size, 0, true⟩) (L := [w.heap.size]) ?_ (j0 _ _) (by simp) (by simp) hput ?_
  · simp [execOp, ho, Instr.box, newVar, newRow]
  · intro μ hl hH kp
    obtain ⟨us, hcells, hus, _⟩ := nh hzo (hl.iR x)
    have hok : c.ok w.heap.size := hs.new _ (Nat.le_refl _)
    have hrow := Row.new w (a.eval x).cells t
    refine ⟨?_, ?_⟩
    · simp only [RR, kh, ↓reduceIte]
      refine ⟨trivial, hok, ?_, us, VRl.mono kp _ _ (aD _) hus, At.new _ _ _ (fun j u hj => by rw [hcells]; simpa using hj)⟩
      rw [hcells] at hrow ⊢
      simpa [hus.length] using hrow
    · simp only [VR]
      refine ⟨by omega, _, rfl, ?_⟩
      simp [hget, kh]
theorem vY {ab ok : Nat → Prop} {μ : Nat → Mu} {h : ay} {n : Nat} {s : List (Nat × TV)} (hl : SR w ab ok μ h n s a.tmps) {pl : List (Nat × Nat)} {f : Nat → Option (Nat × Nat)} (hf : ∀ i q, pl[i]? = some q → f i = some q) :
    ∀ (parts : List (Nat × Operand)) (z cs : List TV) (us : List Value), VRl w ab ok μ h n z us → fillS pl (ev s) z parts = some cs →
    ∃ us', Instr.fill f us.toArray (parts.map fun q => (q.1, a.eval q.2)) = some us'.toArray ∧ VRl w ab ok μ h n cs us'
  | [], z, cs, us, hz, hob => ⟨us, by simp [Instr.fill], by simp only [fillS, af] at hob; subst hob; exact hz⟩
  | (i, x) :: rest, z, cs, us, hz, hob => by
    simp only [fillS] at hob
    cases hp : pl[i]? with
    | none => simp [hp] at hob
    | some q =>
      obtain ⟨off, size⟩ := q
      simp only [hp] at hob
      obtain ⟨hb, hob⟩ := ah.1 hob
      simp only [aA] at hb
      obtain ⟨⟨h1, h2⟩, h3⟩ := hb
      have h1 : (clist (ev s x)).length = size := Nat.eq_of_beq_eq_true h1
      have h2 : off + size ≤ z.length := Nat.le_of_ble_eq_true h2
      obtain ⟨vs, hv, hvr, _⟩ := nh h3 (hl.iR x)
      have l1 := hvr.length
      have l2 := hz.length
      have hz' : VRl w ab ok μ h n (vj z off (clist (ev s x))) (us.take off ++ vs ++ us.drop (off + vs.length)) := by
        unfold vj
        rw [← l1]
        exact VRl.append (VRl.append (hz.take off) hvr) (hz.drop _)
      obtain ⟨us', g1, g2⟩ := vY hl hf rest _ _ _ hz' hob
      refine ⟨us', ?_, g2⟩
      simp only [List.map_cons, Instr.fill, hf i _ hp]
      have hsz : (a.eval x).cells.size = size := by rw [hv]; simp; omega
      rw [if_neg (by rw [hsz]; simp; omega)]
      rw [← g1]
      congr 1
      exact vZ us vs off _ hv (by omega)
theorem Em (hs : dH c σ a w) {t : TypeId} {parts : Array (Nat × Operand)} (ho : o.op = .build t parts) (hx : ex c.P o.op (ev σ.s) σ.h σ.n = some A) (hc : A.c = true) (hput : sput c.m o.dst A.v (ks A σ.s) = some s') : bR c o a w ⟨s', A.h, A.n⟩ := by
  rw [ho] at hx
  simp only [ex, ax, Option.map_eq_some_iff] at hx
  obtain ⟨z, hz, pl, hpl, cs, hfs, rfl⟩ := hx
  obtain ⟨_, _, _, μ, hH, hl, hg⟩ := id hs
  obtain ⟨i, zv, hi, hzv, rfl⟩ := zE hz
  obtain ⟨f, hf, hbuilt⟩ : ∃ f, (∀ i q, pl[i]? = some q → f i = some q) ∧ ∀ ps cells, Instr.fill f zv.cells ps = some cells → c.P.built t ps = some cells := by
    cases hu : c.P.underlying t with
    | none => simp [JO, hu] at hpl
    | some d =>
      cases d with
      | struct fs =>
        have hm := yg hpl hu
        exact ⟨fun i => pl.toArray[i]?, fun i q h => by simpa using h, fun ps cells h => by unfold Program.built; simp only [hi, hu, hzv, hm]; exact h⟩
      | array n e =>
        obtain ⟨k, hk, rfl⟩ := AS hpl hu
        refine ⟨fun i => some (i * k.size, k.size), fun i q h => ?_, fun ps cells h => by unfold Program.built; simp only [hi, hu, hzv, hk]; exact h⟩
        rw [List.getElem?_map] at h
        cases hr : (List.range n)[i]? with
        | none => simp [hr] at h
        | some j =>
          have hin : i < n := by
            rcases Nat.lt_or_ge i n with h' | h'
            · exact h'
            · rw [List.getElem?_eq_none (by simpa using h')] at hr; simp at hr
          have : j = i := by
            have := List.getElem?_range (n := n) (i := i) hin
            rw [hr] at this; simpa using this
          subst this; simpa [hr] using h
      | _ => simp [JO, hu] at hpl
  obtain ⟨us', g1, g2⟩ := vY (SR.iR hl |> fun _ => hl) hf parts.toList (zv.cells.toList.map .p) _ zv.cells.toList (VRl.pmap _) hfs
  have e1 : (parts.map fun (q : Nat × Operand) => (q.1, a.eval q.2)).toList = parts.toList.map fun q => (q.1, a.eval q.2) := by simp
  have hb := fun w : World => run_build (P := c.P) w t (parts.map fun (q : Nat × Operand) => (q.1, a.eval q.2)) us'.toArray (hbuilt _ _ (by rw [e1]; simpa using g1))
  refine bR.uK hs hH hl hg (v := .agg us'.toArray) (fun w1 hb1 => ?_) hput (by simp only [VR]; exact ⟨us', rfl, g2⟩)
  simp only [execOp, ho, Sem.run_bind]
  rw [show (Array.map (fun x => match x with | (i, x) => (i, a.eval x)) parts) = parts.map fun (q : Nat × Operand) => (q.1, a.eval q.2) from rfl, hb w1]
  simp
theorem uL (hs : dH c σ a w) {t : TypeId} {l k : Operand} (ho : o.op = .makeSlice t l k) (hx : ex c.P o.op (ev σ.s) σ.h σ.n = some A) (hc : A.c = true) (hput : sput c.m o.dst A.v (ks A σ.s) = some s') : bR c o a w ⟨s', A.h, A.n⟩ := by
  rw [ho] at hx
  simp only [ex] at hx
  obtain ⟨_, _, _, μ, hH, hl, hg⟩ := id hs
  have hv1 := SR.iR hl l
  have hv2 := SR.iR hl k
  unfold makeS at hx
  split at hx
  · rename_i size bytes z et k1 x k2 y ht hel h1 h2
    simp only [ax] at hx
    obtain ⟨d, hd, hx⟩ := hx
    obtain ⟨hb, hx⟩ := ah.1 hx
    simp only [af] at hx; subst hx
    have hsz : sz et = size := Nat.eq_of_beq_eq_true hb
    simp only [aA, bF] at hc
    obtain ⟨⟨h0, hlc⟩, hbig⟩ := hc
    rw [h1] at hv1; rw [h2] at hv2
    obtain ⟨e, i, zv, hu, hi, hz, rfl, rfl, rfl, hzl, hs0, hb0, hzone⟩ := iK ht
    have hy63 : y ≤ 2 ^ 40 := by
      have : (1 : Int) * y ≤ i.bytes * y := Int.mul_le_mul_of_nonneg_right (by omega) (by omega)
      omega
    have hr := run_make (P := c.P) w t e i zv hu hi hz k1 k2 x y h0 hlc (by omega) (by omega)
    have hle : x.toNat * i.size ≤ y.toNat * i.size := Nat.mul_le_mul_right _ (by omega)
    refine bR.new hs (hst := by simp [ho, stillB]) (v := .slice (some ⟨w.heap.size, 0, none⟩) x.toNat y.toNat) (m := ⟨w.heap.size, 0, true⟩) (L := [w.heap.size]) (w' := w.alloc (.cells (madeCells zv.cells (y.toNat * i.size)) e)) ?_ (j0 _ _) (by simp) (by simp) hput ?_
    · simp [execOp, ho, hv1.iy, hv2.iy, hr]
    · intro μ' hl' hH' kp
      have hok : c.ok w.heap.size := hs.new _ (Nat.le_refl _)
      have hrow := Row.new w (madeCells zv.cells (y.toNat * i.size)) e
      rw [size_madeCells] at hrow
      have hct : ∀ w', TRl w' (fun b => true = false ∧ c.ab b) c.ok et d zv.cells.toList [] := fun w' => CT.eF hd (CT.pmap _)
      have hsz' : zv.cells.size = i.size := by simpa using hzl
      refine ⟨?_, ?_⟩
      · simp only [RR, kh, ↓reduceIte]
        refine .inr ⟨trivial, [], rfl, hok, ?_, ?_⟩
        · simp only [List.length_replicate, Nat.zero_add, hsz]; exact hrow.le hle
        ·
          have : ∀ (q o : Nat), o + q * i.size ≤ y.toNat * i.size → o % i.size = 0 → RL (oW (w.alloc (.cells (madeCells zv.cells (y.toNat * i.size)) e)) (cI true c.ab) c.ok et) (sz et) (List.replicate q d) w.heap.size o [] := by
            intro q
            induction q with
            | zero => intro o _ _; simp [RL]
            | succ q ih =>
              intro o ho hm
              simp only [List.replicate_succ, RL]
              have hsucc : o + i.size + q * i.size = o + (q + 1) * i.size := by rw [Nat.succ_mul]; omega
              refine ⟨[], [], rfl, ⟨zv.cells.toList, hct _, At.new _ _ _ (fun j u hj => ?_)⟩, by have := ih (o + i.size) (by omega) (by rw [Nat.add_mod_right]; exact hm); simp only [hsz] at this ⊢; exact this⟩
              have hjl : j < zv.cells.size := by
                rcases Nat.lt_or_ge j zv.cells.size with h | h
                · exact h
                · rw [List.getElem?_eq_none (by simpa using h)] at hj; simp at hj
              have hlt : o + j < y.toNat * i.size := by
                have : o + i.size ≤ o + (q + 1) * i.size := by rw [Nat.succ_mul]; omega
                omega
              have hmod : (o + j) % i.size = j := by
                rw [Nat.add_mod, hm, Nat.zero_add, Nat.mod_mod, Nat.mod_eq_of_lt (by omega)]
              have e2 : (madeCells zv.cells (y.toNat * i.size))[o + j]? = some (zv.cells[(o + j) % zv.cells.size]!) := by
                unfold madeCells
                simp [show o + j < y.toNat * i.size by omega]
              rw [e2, hsz', hmod]
              simp only [List.getElem?_eq_getElem (show j < zv.cells.toList.length by simpa using hjl), af] at hj
              rw [← hj]; simp [hjl]
          exact this x.toNat 0 (by omega) (by simp)
      · simp only [VR, hget, kh, ↓reduceIte]
        refine ⟨by omega, .inr ⟨0, y.toNat, by simp, by simp; omega, rfl, hrow.le (Nat.zero_le _), fun _ => ⟨by simp, by simpa [hsz] using hrow⟩⟩⟩
  · simp at hx
end
end Go.Tw
namespace Go.Tw
open Go Go.RowKit
variable [k7]
section
variable {c : Cx} {σ : St} {a : Act} {w w' : World} {A : lp} {o : Oper} {s' : List (Nat × TV)}
def fh (g : Bool) (us : List Value) : Value := if g then .agg us.toArray else us.headD undef
theorem rQ {P : Program} {t : TypeId} {g : Bool} {m off : Nat} {us : List Value} (ht : tv P t = some (g, m)) (hle : off + m ≤ us.length) (hg : g = true ∨ m = 1) :
    (part t us.toArray off).run P w = .ok (fh g ((us.drop off).take m)) w := by
  cases g with
  | true =>
    have e : us.toArray.extract off (off + m) = ((us.drop off).take m).toArray := by
      apply Array.ext'
      simp [List.take_drop]
    simp [part, nR ht, run_sizeOf ht, fh, e]
  | false =>
    obtain rfl := hg.resolve_left (by simp)
    have : off < us.length := by omega
    have e : us.toArray[off]? = some us[off] := by simp [this]
    simp only [part, Sem.run_bind, nR ht, Result.andThen_ok, Bool.false_eq_true, ↓reduceIte, e, Sem.run_pure, fh]
    congr 1
    rw [List.drop_eq_getElem_cons this]; rfl
theorem kF {u : Value} : fh false [u] = u := rfl
theorem zF {P : Program} {ab ok : Nat → Prop} {μ : Nat → Mu} {h : ay} {n : Nat} : ∀ (d : Nat) (t : TypeId) (xs ys : List TV) (us vs : List Value) (r : Bool) (g : Bool) (m e : Nat), eq1 P d t xs ys = some r → tv P t = some (g, m) → VRl w ab ok μ h n xs us → VRl w ab ok μ h n ys vs →
    (Op.equalIn (e + d) t (fh g us) (fh g vs)).run P w = .ok r w
  | 0, t, xs, ys, us, vs, r, g, m, e, hx, _, _, _ => by simp [eq1] at hx
  | d + 1, t, xs, ys, us, vs, r, g, m, e, hx, ht, hu, hv => by
    simp only [eq1] at hx
    obtain ⟨td, ti, htd, hti, htm, htg⟩ := uM ht
    rw [htd] at hx
    cases td with
    | struct fs =>
      simp only at hx htg
      subst htg
      cases hp : P.stoodInHeld t with
      | true => simp [hp] at hx
      | false =>
        simp only [hp, al] at hx
        have hf : P.fieldsOf t = fs := by simp [Program.fieldsOf, htd]
        rw [show e + (d + 1) = (e + d) + 1 by omega]
        simp only [fh, ↓reduceIte]
        rw [run_equalIn_struct w (e + d) t _ _ (by rw [hf]; exact htd) hp, hf]
        revert hx
        generalize fs.toList = fl
        intro hx
        induction fl generalizing r with
        | nil => simp at hx; subst hx; simp [Op.eqFields]
        | cons f fl ih =>
          simp only [List.foldr_cons, ax] at hx
          obtain ⟨⟨g1, m1⟩, ht1, hx⟩ := hx
          simp only at hx
          cases hb : (f.name == "_" || !Nat.ble (f.offset + m1) xs.length || !Nat.ble (f.offset + m1) ys.length || !(g1 || Nat.beq m1 1)) with
          | true => rw [hb] at hx; simp at hx
          | false =>
            rw [hb] at hx
            simp only [al, ax, Option.map_eq_some_iff] at hx
            obtain ⟨r1, hr1, s, hs, rfl⟩ := hx
            simp only [Bool.or_eq_false_iff, Bool.not_eq_false'] at hb
            obtain ⟨⟨⟨hn, hl1⟩, hl2⟩, hgm⟩ := hb
            have hl1 := Nat.le_of_ble_eq_true hl1
            have hl2 := Nat.le_of_ble_eq_true hl2
            rw [hu.length] at hl1
            rw [hv.length] at hl2
            have hgm' : g1 = true ∨ m1 = 1 := by
              simp only [Bool.or_eq_true] at hgm
              rcases hgm with h | h
              · exact .inl h
              · exact .inr (Nat.eq_of_beq_eq_true h)
            have hn' : f.name ≠ "_" := by simpa using hn
            have key := zF d f.type _ _ _ _ r1 g1 m1 e hr1 ht1 ((hu.drop f.offset).take m1) ((hv.drop f.offset).take m1)
            have ih' := ih s hs
            rw [Op.eqFields]
            simp only [if_pos hn', Sem.run_bind, rQ ht1 hl1 hgm', rQ ht1 hl2 hgm', Result.andThen_ok, key]
            cases r1
            · simp
            · simpa using ih'
    | int k0 =>
      simp only at hx htg
      subst htg
      split at hx <;> first | (simp at hx; done) | skip
      rename_i kk p kk' q
      split at hx <;> first | (simp at hx; done) | skip
      rename_i hk; subst hk
      simp only [af] at hx; subst hx
      simp only [VRl, VR] at hu hv
      obtain ⟨_, _, rfl, rfl, rfl⟩ := hu
      obtain ⟨_, _, rfl, rfl, rfl⟩ := hv
      rw [show e + (d + 1) = (e + d) + 1 by omega]
      rw [kF, kF, run_equalIn_int w (e + d) t _ k0 p q htd]; rfl
    | bool =>
      simp only at hx htg
      subst htg
      split at hx <;> first | (simp at hx; done) | skip
      simp only [af] at hx; subst hx
      simp only [VRl, VR] at hu hv
      obtain ⟨_, _, rfl, rfl, rfl⟩ := hu
      obtain ⟨_, _, rfl, rfl, rfl⟩ := hv
      rw [show e + (d + 1) = (e + d) + 1 by omega]
      rw [kF, kF, run_equalIn_bool w (e + d) t _ _ htd]
    | string =>
      simp only at hx htg
      subst htg
      split at hx <;> first | (simp at hx; done) | skip
      simp only [af] at hx; subst hx
      simp only [VRl, VR] at hu hv
      obtain ⟨_, _, rfl, rfl, rfl⟩ := hu
      obtain ⟨_, _, rfl, rfl, rfl⟩ := hv
      rw [show e + (d + 1) = (e + d) + 1 by omega]
      rw [kF, kF, run_equalIn_string w (e + d) t _ _ htd, pS, pS]
      congr 1
      rw [Bool.eq_iff_iff]; simp
    | _ => simp at hx
def En (P : Program) (t : TypeId) (u v : Value) (b : Bool) (w : World) : Prop :=
  (Op.equal t u v).run P w = .ok b w ∧ (∀ op x y, (eqGuard op t x y u v).run P w = .ok () w) ∧
  Go.binOp .eql t u v = (do pure (.bool (← Op.equal t u v))) ∧ Go.binOp .neq t u v = (do pure (.bool (!(← Op.equal t u v))))
theorem v3 {P : Program} {t e : TypeId} {w : World} (hd : P.underlying t = some (.slice e)) (A : Option Addr) (m k : Nat) :
    (∀ d, (Op.equalIn (d + 1) t (.slice A m k) (.slice none 0 0)).run P w = .ok A.isNone w) ∧ (∀ op x y, (eqGuard op t x y (.slice A m k) (.slice none 0 0)).run P w = .ok () w) ∧
      Go.binOp .eql t (.slice A m k) (.slice none 0 0) = (do pure (.bool (← Op.equal t (.slice A m k) (.slice none 0 0)))) ∧ Go.binOp .neq t (.slice A m k) (.slice none 0 0) = (do pure (.bool (!(← Op.equal t (.slice A m k) (.slice none 0 0))))) := by
  refine ⟨fun d => ?_, fun op x y => by cases op <;> rfl, rfl, rfl⟩
  have hu : (underlying t).run P w = .ok (.slice e) w := by simp [underlying, hd]
  rw [Op.equalIn]
  simp only [Sem.run_bind, hu, Result.andThen_ok]
  cases A <;> rfl
theorem tp {P : Program} {t : TypeId} {x y : TV} {u v : Value} {b : Bool} {ab ok : Nat → Prop} {μ : Nat → Mu} {h : ay} {n : Nat} (hb : isNil (P.underlying t) x y = some b) (hcn : GK x = true)
    (hx : VR w ab ok μ h n x u) (hy : VR w ab ok μ h n y v) : En P t u v b w := by
  have key : (∀ d, (Op.equalIn (d + 1) t u v).run P w = .ok b w) ∧ (∀ op x y, (eqGuard op t x y u v).run P w = .ok () w) ∧
      Go.binOp .eql t u v = (do pure (.bool (← Op.equal t u v))) ∧ Go.binOp .neq t u v = (do pure (.bool (!(← Op.equal t u v)))) := by
    unfold isNil at hb
    split at hb <;> first | (simp at hb; done) | skip
    all_goals (simp only [af] at hb; subst hb)
    all_goals (rename_i hd; simp only [VR] at hx hy)
    all_goals first
      | (subst hy; simp only [GK] at hcn; obtain ⟨u', e, hh⟩ := hx; simp only [List.cons.injEq, and_true] at e; subst e
         rcases hh with ⟨_, rfl, _⟩ | ⟨A, cap, L', rfl, _⟩
         · simp at hcn
         · exact v3 hd (some A) _ _)
      | (subst hx hy; exact v3 hd _ _ _)
      | (subst hx hy; exact ⟨fun d => by simp [Op.equalIn, underlying, hd], fun op x y => by cases op <;> simp [eqGuard], rfl, rfl⟩)
      | (subst hy; obtain ⟨u', rfl, _⟩ := hx; exact ⟨fun d => by simp [Op.equalIn, underlying, hd], fun op x y => by cases op <;> simp [eqGuard], rfl, rfl⟩)
      | (subst hx; obtain ⟨u', rfl, _⟩ := hy; exact ⟨fun d => by simp [Op.equalIn, underlying, hd], fun op x y => by cases op <;> simp [eqGuard], rfl, rfl⟩)
      | (subst hy; obtain ⟨_, A, rfl, _⟩ := hx; exact ⟨fun d => by simp [Op.equalIn, underlying, hd], fun op x y => by cases op <;> simp [eqGuard], rfl, rfl⟩)
  exact ⟨key.1 9999, key.2⟩
theorem ok_eq (hs : dH c σ a w) {op : BinOp} {t t' : TypeId} {x y : Operand} (ho : o.op = .binOp op t x y t') {b r : Bool} (hq : ∀ w1, Below w.heap.size w w1 → En c.P t (a.eval x) (a.eval y) b w1) (hop : (op = .eql ∧ r = b) ∨ (op = .neq ∧ r = !b))
    (hput : sput c.m o.dst (.p (.bool r)) σ.s = some s') : bR c o a w ⟨s', σ.h, σ.n⟩ := by
  rcases hop with ⟨hop, hr⟩ | ⟨hop, hr⟩
  · subst hop; subst hr
    exact bR.quiet hs (v := .bool r) (fun w1 hb1 => by obtain ⟨h1, h2, h3, h4⟩ := hq w1 hb1; simp [execOp, ho, h1, h2, h3]) hput fun _ _ _ => by simp [VR]
  · subst hop
    exact bR.quiet hs (v := .bool !b) (fun w1 hb1 => by obtain ⟨h1, h2, h3, h4⟩ := hq w1 hb1; simp [execOp, ho, h1, h2, h4]) hput fun _ _ _ => by rw [hr]; simp [VR]
theorem Eo (hs : dH c σ a w) {op : BinOp} {t t' : TypeId} {x y : Operand} (ho : o.op = .binOp op t x y t') (hx : ex c.P o.op (ev σ.s) σ.h σ.n = some A) (hc : A.c = true) (hput : sput c.m o.dst A.v (ks A σ.s) = some s') : bR c o a w ⟨s', A.h, A.n⟩ := by
  rw [ho] at hx
  simp only [ex, binS] at hx
  obtain ⟨_, _, _, μ, hH, hl, hg⟩ := id hs
  have hvx := SR.iR hl x
  have tq := SR.iR hl y
  split at hx
  · rename_i k p k' q hqx hqy
    rw [hqx] at hvx; rw [hqy] at tq
    have AT := hvx.iy
    have ey1 := tq.iy
    split at hx
    · simp only [af] at hx; subst hx
      simp only [bF] at hc
      exact v5 hs ho AT ey1 hc (.inl ⟨rfl, rfl⟩) hput
    · simp only [af] at hx; subst hx
      simp only [bF] at hc
      exact v5 hs ho AT ey1 hc (.inr ⟨rfl, rfl⟩) hput
    · split at hx
      · rename_i hk; subst hk
        simp only [af] at hx; subst hx
        simp only [Bool.not_eq_true', decide_eq_false_iff_not] at hc
        exact oB hs ho AT ey1 (by simp) (fun _ => hc) hput
      · simp at hx
    · split at hx
      · rename_i hk; subst hk
        simp only [af] at hx; subst hx
        simp only [Bool.not_eq_true', decide_eq_false_iff_not] at hc
        exact oB hs ho AT ey1 (by simp) (fun _ => hc) hput
      · simp at hx
    · rename_i h1 h2 h3 h4
      split at hx
      · rename_i hk; subst hk
        simp only [af] at hx; subst hx
        exact oB hs ho AT ey1 ⟨h1, h2⟩ (fun h => by rcases h with h | h <;> simp_all) hput
      · simp at hx
  · rename_i p q hqx hqy
    rw [hqx] at hvx; rw [hqy] at tq
    have AT := hvx.iy
    have ey1 := tq.iy
    split at hx
    · simp only [af] at hx; subst hx
      simp only [bF] at hc
      refine Ep hs ho AT ey1 ?_ hput
      have : IntKind.i64.max = 9223372036854775807 := rfl
      simp only; omega
    all_goals first | (simp at hx; done) | (simp only [af] at hx; subst hx; exact Ep hs ho AT ey1 trivial hput)
  · rename_i xs ys hqx hqy
    rw [hqx] at hvx; rw [hqy] at tq
    simp only [VR] at hvx tq
    obtain ⟨us, AT, hu⟩ := hvx
    obtain ⟨vs, ey1, hv⟩ := tq
    cases hg : c.P.eqGuardType c.P.depth t with
    | true => simp [hg] at hx
    | false =>
      simp only [hg, al] at hx
      split at hx
      · rename_i m ht
        have key : ∀ b, eq1 c.P 8 t xs ys = some b → ∀ w1, Below w.heap.size w w1 → En c.P t (a.eval x) (a.eval y) b w1 := by
          intro b hb w1 hb1
          have kp := hH.fQ hb1 hs.lt (Nat.le_refl _)
          have := zF 8 t xs ys us vs b true m 9992 hb ht (VRl.mono kp _ _ (aD _) hu) (VRl.mono kp _ _ (aD _) hv)
          simp only [fh, ↓reduceIte] at this
          rw [AT, ey1]
          exact ⟨this, fun o x y => run_eqGuard_agg w1 o t x y _ _ hg, rfl, rfl⟩
        split at hx
        · simp only [Option.map_eq_some_iff] at hx
          obtain ⟨b, hb, rfl⟩ := hx
          exact ok_eq hs ho (key b hb) (.inl ⟨rfl, rfl⟩) hput
        · simp only [Option.map_eq_some_iff] at hx
          obtain ⟨b, hb, rfl⟩ := hx
          exact ok_eq hs ho (key b hb) (.inr ⟨rfl, rfl⟩) hput
        · simp at hx
      · simp at hx
  · split at hx
    · rename_i b hb
      simp only [af] at hx; subst hx
      exact ok_eq hs ho (fun w1 hb1 => tp hb hc (VR.mono (hH.fQ hb1 hs.lt (Nat.le_refl _)) _ _ (fe _) hvx) (VR.mono (hH.fQ hb1 hs.lt (Nat.le_refl _)) _ _ (fe _) tq)) (.inl ⟨rfl, rfl⟩) hput
    · rename_i b hb
      simp only [af] at hx; subst hx
      exact ok_eq hs ho (fun w1 hb1 => tp hb hc (VR.mono (hH.fQ hb1 hs.lt (Nat.le_refl _)) _ _ (fe _) hvx) (VR.mono (hH.fQ hb1 hs.lt (Nat.le_refl _)) _ _ (fe _) tq)) (.inr ⟨rfl, rfl⟩) hput
    · simp at hx
end
end Go.Tw
namespace Go.Tw
open Go Go.RowKit
variable [k7]
section
variable {w w' : World} {ab ok : Nat → Prop} {μ : Nat → Mu} {h : ay} {n : Nat}
theorem iv {f f' : Bool} (hf : f = false → f' = false) {b : Nat} (h : cI f ab b) : cI f' ab b := ⟨hf h.1, h.2⟩
theorem mM.abs {r : Nat} {fr : Bool} {t : Ty} {l : List (den t)} {off len : Nat} {v : Value} {L : List Nat} (H : mM w (μ r) (sz t) off len v) (hle : off + len ≤ l.length) (hR : RR w ab ok μ h n r (.row fr t l) L) :
    ∃ L', TRl w (cI fr ab) ok (.sl t) ((l.drop off).take len) [v] L' ∧ L'.Sublist L := by
  have hlen : ((l.drop off).take len).length = len := by simp; omega
  rcases H with ⟨rfl, rfl⟩ | ⟨o, cap, rfl, h1, h2, h3, h4⟩
  · exact ⟨[], ⟨_, rfl, .inl ⟨rfl, by simp, rfl⟩⟩, List.nil_sublist _⟩
  · obtain ⟨L', rfl, g1, g2, g3⟩ := hR.oX h2
    obtain ⟨L1, L2, L3, rfl, hs⟩ := RL.sub off len (by omega) g3
    rcases Nat.eq_zero_or_pos cap with hz | hp
    · have hl0 : len = 0 := by omega
      subst hl0
      refine ⟨[(μ r).cY], ⟨_, rfl, .inr ⟨_, cap, [], by rw [hlen], by omega, by simp [RL], .inr ⟨rfl, rfl, g1, h3, fun hp => by omega⟩⟩⟩, by simp⟩
    · obtain ⟨rfl, h6⟩ := h4 hp
      refine ⟨(μ r).cY :: L2, ⟨_, rfl, .inr ⟨⟨(μ r).cY, (μ r).off + off * sz t, none⟩, cap, L2, by rw [hlen], by omega, hs, .inr ⟨rfl, rfl, g1, h3, fun _ => h6⟩⟩⟩, ?_⟩
      exact List.Sublist.cons_cons _ ((List.sublist_append_left L2 L3).trans (List.sublist_append_right L1 _))
theorem GL {D : List Nat} {c f : TV} {v : Value} {fr : Bool} {h' : ay} (H : HR w ab ok μ h n D) (hv : VR w ab ok μ h n c v) (ha : absC h c = some (f, fr, h')) :
    ∃ L, Bx w (cI fr ab) ok f v L ∧ HR w ab ok μ h' n (L ++ D) ∧ ∀ r x, hget h' r = some x → hget h r = some x := by
  unfold absC at ha
  split at ha
  · simp only [af, aG] at ha
    obtain ⟨rfl, rfl, rfl⟩ := ha
    exact ⟨[], ⟨by simpa [VR] using hv, rfl⟩, by simpa using H, fun _ _ h => h⟩
  · simp only [af, aG] at ha
    obtain ⟨rfl, rfl, rfl⟩ := ha
    simp only [VR] at hv
    exact ⟨[], TRl.mono (t := .sl _) (fun b hb => ⟨rfl, hb⟩) (fun _ h => h) (fun _ _ => rfl) (by simp) hv, by simpa using H, fun _ _ h => h⟩
  · rename_i r
    split at ha
    · rename_i fr0 t l hg
      simp only [af, aG] at ha
      obtain ⟨rfl, rfl, rfl⟩ := ha
      simp only [VR, hg] at hv
      obtain ⟨L, hR, H'⟩ := H.kb hg
      obtain ⟨L', h1, h2⟩ := mM.abs (l := l) hv.2 (by omega) hR
      simp only [List.drop_zero, List.take_length] at h1
      exact ⟨L', h1, H'.ni (List.Sublist.append h2 (List.Sublist.refl D)), fun _ _ => dz⟩
    · simp at ha
  · rename_i r off len
    split at ha
    · rename_i fr0 t l hg
      simp only [af, aG] at ha
      obtain ⟨rfl, rfl, rfl⟩ := ha
      simp only [VR, hg] at hv
      obtain ⟨L, hR, H'⟩ := H.kb hg
      obtain ⟨L', h1, h2⟩ := mM.abs (l := l) hv.2.2 hv.2.1 hR
      exact ⟨L', h1, H'.ni (List.Sublist.append h2 (List.Sublist.refl D)), fun _ _ => dz⟩
    · simp at ha
  · simp at ha
theorem uN : ∀ {cs fs : List TV} {us : List Value} {D : List Nat} {h : ay} {fr : Bool} {h' : ay}, HR w ab ok μ h n D → VRl w ab ok μ h n cs us → absL h cs = some (fs, fr, h') →
    ∃ L, CT w (cI fr ab) ok fs us L ∧ HR w ab ok μ h' n (L ++ D) ∧ ∀ r x, hget h' r = some x → hget h r = some x
  | [], fs, us, D, h, fr, h', H, hv, ha => by
    simp only [VRl] at hv; subst hv
    simp only [absL, af, aG] at ha
    obtain ⟨rfl, rfl, rfl⟩ := ha
    exact ⟨[], ⟨rfl, rfl⟩, by simpa using H, fun _ _ h => h⟩
  | c :: cs, fs, us, D, h, fr, h', H, hv, ha => by
    simp only [VRl] at hv
    obtain ⟨u, us', rfl, h1, h2⟩ := hv
    simp only [absL, ax, af, aG] at ha
    obtain ⟨⟨f1, b1, hh1⟩, ha1, ⟨f2, b2, hh2⟩, ha2, rfl, rfl, rfl⟩ := ha
    obtain ⟨L1, g1, g2, g3⟩ := GL H h1 ha1
    have h2' : VRl w ab ok μ hh1 n cs us' := VRl.mono (Kept.sub g3) _ _ (aD _) h2
    obtain ⟨L2, k1, k2, k3⟩ := uN g2 h2' ha2
    refine ⟨L1 ++ L2, ⟨u, us', L1, L2, rfl, rfl, g1.mono (fun b hb => iv (fun e => by simp [e]) hb) (fun _ h => h) (fun _ _ => rfl) (fun _ _ => rfl), k1.mono (fun b hb => iv (fun e => by simp [e]) hb) (fun _ h => h) (fun _ _ => rfl) (fun _ _ => rfl)⟩, k2.lq ?_, fun r x hx => g3 r x (k3 r x hx)⟩
    rw [← List.append_assoc]
    exact List.Perm.append_right _ List.perm_append_comm
theorem hget_killH (r : Nat) : ∀ (h : ay) (r' : Nat), hget (killH r h) r' = (hget h r').map fun x => match x with | .box cs => .box (lr r cs) | x => x
  | [], r' => rfl
  | (k, .box cs) :: h, r' => by simp only [killH, hget]; split <;> simp [hget_killH r h r']
  | (k, .mp q l) :: h, r' => by simp only [killH, hget]; split <;> simp [hget_killH r h r']
  | (k, .row fr t l) :: h, r' => by simp only [killH, hget]; split <;> simp [hget_killH r h r']
theorem kV (r : Nat) : ∀ (s : List (Nat × TV)) (t : Nat), sget (killS r s) t = kill r (sget s t)
  | [], t => rfl
  | (k, x) :: s, t => by
    simp only [killS, sget]
    cases Nat.beq t k <;> simp [kV r s t]
mutual
theorem VR.kill (r : Nat) : ∀ (x : TV) (v : Value), VR w ab ok μ h n x v → VR w ab ok μ h n (Tw.kill r x) v
  | .mJ r' i off, v, H => by
    simp only [Tw.kill]
    cases Nat.beq r' r
    · exact H
    · simp [VR]
  | .agg cs, v, H => by simp only [Tw.kill, VR] at H ⊢; obtain ⟨us, e, H⟩ := H; exact ⟨us, e, VRl.kill r cs us H⟩
  | .mF cs, v, H => by simp only [Tw.kill, VR] at H ⊢; obtain ⟨us, e, H⟩ := H; exact ⟨us, e, VRl.kill r cs us H⟩
  | .oV t x, v, H => by simp only [Tw.kill, VR] at H ⊢; obtain ⟨u, e, H⟩ := H; exact ⟨u, e, VR.kill r x u H⟩
  | .fn f fi ca, v, H => by simp only [Tw.kill, VR] at H ⊢; obtain ⟨us, vs, e, H1, H2⟩ := H; exact ⟨us, vs, e, VRl.kill r fi us H1, VRl.kill r ca vs H2⟩
  | .p _, v, H => H
  | .tr _ _, v, H => H
  | .full _, v, H => H
  | .sub _ _ _, v, H => H
  | .ptr _ _ _, v, H => H
  | .fm _ _ _ _, v, H => H
  | .mp _, v, H => H
  | .undef, v, H => H
theorem VRl.kill (r : Nat) : ∀ (xs : List TV) (us : List Value), VRl w ab ok μ h n xs us → VRl w ab ok μ h n (lr r xs) us
  | [], us, H => H
  | x :: xs, us, H => by
    simp only [lr, VRl] at H ⊢
    obtain ⟨u, us', e, h1, h2⟩ := H
    exact ⟨u, us', e, VR.kill r x u h1, VRl.kill r xs us' h2⟩
end
mutual
theorem mi (r : Nat) : ∀ x, innOk (· ≠ r) (kill r x)
  | .mJ r' i off => by
    simp only [kill]
    cases hb : Nat.beq r' r
    · simp only [al, innOk]; intro e; subst e; simp at hb
    · trivial
  | .agg cs => by simp only [kill, innOk]; exact hY r cs
  | .mF cs => by simp only [kill, innOk]; exact hY r cs
  | .oV t x => by simp only [kill, innOk]; exact mi r x
  | .fn f fi ca => by simp only [kill, innOk]; exact ⟨hY r fi, hY r ca⟩
  | .p _ => trivial
  | .tr _ _ => trivial
  | .full _ => trivial
  | .sub _ _ _ => trivial
  | .ptr _ _ _ => trivial
  | .fm _ _ _ _ => trivial
  | .mp _ => trivial
  | .undef => trivial
theorem hY (r : Nat) : ∀ xs, innOkl (· ≠ r) (lr r xs)
  | [] => trivial
  | x :: xs => ⟨mi r x, hY r xs⟩
end
theorem oY (r : Nat) : ∀ xs : List TV, (lr r xs).length = xs.length
  | [] => rfl
  | x :: xs => by simp only [lr, List.length_cons, oY r xs]
theorem Kept.kill (r : Nat) : Kept (fun _ => True) ab ab ok ok w w μ μ h (killH r h) n n := by
  refine ⟨Step.refl _ _, fun _ h => h, fun _ h => h, fun _ _ => rfl, Nat.le_refl _, fun r' _ => ?_, fun _ _ _ _ _ _ _ _ _ => rfl⟩
  rw [hget_killH]
  cases hget h r' with
  | none => trivial
  | some x => cases x <;> simp [Fit]
theorem HR.kill {D : List Nat} (r : Nat) (H : HR w ab ok μ h n D) : HR w ab ok μ (killH r h) n D := by
  obtain ⟨own, H, hD⟩ := H
  refine ⟨own, fun r' x hx => ?_, hD⟩
  rw [hget_killH, Option.map_eq_some_iff] at hx
  obtain ⟨y, hy, rfl⟩ := hx
  obtain ⟨hr, L, hR, hn, ho⟩ := H r' y hy
  refine ⟨hr, L, ?_, hn, ho⟩
  have := RR.mono (Kept.kill (w := w) (ab := ab) (ok := ok) (μ := μ) (h := h) (n := n) r) hr (fF _) (fun _ _ => rfl) hR
  cases y with
  | row fr t l => exact this
  | mp k l => exact this
  | box cs =>
    simp only [RR] at this ⊢
    obtain ⟨h1, h2, h3, us, h4, h5⟩ := this
    exact ⟨h1, h2, by rw [oY]; exact h3, us, VRl.kill r _ _ h4, h5⟩
theorem HR.congr {D : List Nat} {h' : ay} (hh : ∀ r, hget h' r = hget h r) (H : HR w ab ok μ h n D) : HR w ab ok μ h' n D :=
  H.sub (fun r x hx => by rw [← hh]; exact hx)
theorem HR.write {D1 D : List Nat} {r : Nat} {x x' : dq} {K : Nat → Prop} (H : HR w ab ok μ h n (D1 ++ D)) (hr : hget h r = some x) (hf : Fit (some x) (some x')) (hs : Step ab w w')
    (hw : ∀ b, b ≠ (μ r).cY → w'.heap[b]? = w.heap[b]?) (hblk : ∀ L, RR w ab ok μ h n r x L → (μ r).cY ∈ L) (hK : ∀ fr t l, K r → x = .row fr t l → hasSl t = false)
    (hbx : ∀ r' cs, r' ≠ r → hget h r' = some (.box cs) → innOkl K cs)
    (hh : ∀ L, Kept K ab ab ok ok w w' μ μ h (hset h r x') n n → RR w ab ok μ h n r x L → L.Nodup → (∀ b ∈ L, b ∉ D1) → D1.Nodup → ∃ L', RR w' ab ok μ (hset h r x') n r x' L' ∧ L'.Nodup ∧ ∀ b ∈ L', b ∈ L ∨ b ∈ D1) :
    HR w' ab ok μ (hset h r x') n D ∧ Kept K ab ab ok ok w w' μ μ h (hset h r x') n n := by
  obtain ⟨own, H, hD⟩ := H
  obtain ⟨hD1, hDn, hdis⟩ := List.nodup_append.1 hD.1
  obtain ⟨har, L, hR, hn, ho⟩ := H r x hr
  have hmem := hblk L hR
  have hob : own (μ r).cY = some r := ho _ hmem
  have kp : Kept K ab ab ok ok w w' μ μ h (hset h r x') n n := by
    refine ⟨hs, fun _ h => h, fun _ h => h, fun _ _ => rfl, Nat.le_refl _, fun r' _ => ?_, ?_⟩
    · rw [eW]; split
      · subst_vars; rw [hr]; exact hf
      · exact Fit.refl _
    · intro r' fr t l hr' hKr hg hsl hbk
      obtain ⟨_, L1, hR1, _, ho1⟩ := H r' _ hg
      have h1 := ho1 _ (hR1.cY hbk)
      refine hw _ (fun e => ?_)
      rw [e, hob] at h1
      simp only [af] at h1
      subst h1
      rw [hr] at hg
      simp only [af] at hg
      rw [hK fr t l hKr hg] at hsl
      simp at hsl
  obtain ⟨L', hR', hn', hsub⟩ := hh L kp hR hn (fun b hb hb1 => by have h1 := hD.2 b (by simp [hb1]); rw [ho b hb] at h1; simp at h1) hD1
  refine ⟨⟨fun b => if b ∈ L' then some r else if own b = some r then none else own b, fun r' y hy => ?_, hDn, fun b hb => ?_⟩, kp⟩
  · rw [eW] at hy
    split at hy
    · subst_vars
      simp only [af] at hy; subst hy
      exact ⟨har, L', hR', hn', fun b hb => by simp [hb]⟩
    · rename_i hne
      obtain ⟨ha, L1, hR1, hn1, ho1⟩ := H r' y hy
      refine ⟨ha, L1, RR.mono kp ha ?_ (fun b hb => hw b ?_) hR1, hn1, fun b hb => ?_⟩
      · cases y with
        | row => trivial
        | mp => trivial
        | box cs => exact hbx r' cs hne hy
      · intro e; subst e
        have h1 := ho1 _ hb; rw [hob] at h1; simp at h1; exact hne h1.symm
      · have h1 := ho1 b hb
        have h2 : b ∉ L' := fun hm => by
          rcases hsub b hm with h3 | h3
          · rw [ho b h3] at h1; simp at h1; exact hne h1.symm
          · rw [hD.2 b (by simp [h3])] at h1; simp at h1
        simp [h2, h1, hne]
  · have h2 : b ∉ L' := fun hm => by
      rcases hsub b hm with h3 | h3
      · have h1 := hD.2 b (by simp [hb]); rw [ho b h3] at h1; simp at h1
      · exact hdis b h3 b hb rfl
    simp [h2, hD.2 b (by simp [hb])]
theorem HR.rewrite {D : List Nat} {r : Nat} {x : dq} (H : HR w ab ok μ h n D) (hr : hget h r = some x) :
    ∃ L, RR w ab ok μ h n r x L ∧ L.Nodup ∧ (∀ b ∈ L, b ∉ D) ∧ (∀ r' y, r' ≠ r → hget h r' = some y → ∃ L1, RR w ab ok μ h n r' y L1 ∧ ∀ b ∈ L1, b < w.heap.size ∧ b ∉ L) ∧
      ∀ {w' : World} {x' : dq} {K : Nat → Prop} {L' : List Nat}, Fit (some x) (some x') → Step ab w w' → (∀ b, b < w.heap.size → b ∉ L → w'.heap[b]? = w.heap[b]?) →
        (∀ fr t l, K r → x = .row fr t l → hasSl t = true → (μ r).bk = true → w'.heap[(μ r).cY]? = w.heap[(μ r).cY]?) → (∀ r' cs, r' ≠ r → hget h r' = some (.box cs) → innOkl K cs) → (∀ b ∈ D, b < w.heap.size) →
        (Kept K ab ab ok ok w w' μ μ h (hset h r x') n n → RR w' ab ok μ (hset h r x') n r x' L') → L'.Nodup → (∀ b ∈ L', b ∈ L ∨ w.heap.size ≤ b) → ∀ {E : List Nat}, E.Nodup → (∀ b ∈ E, b ∉ L' ∧ (b ∈ L ∨ w.heap.size ≤ b)) →
        HR w' ab ok μ (hset h r x') n (E ++ D) ∧ Kept K ab ab ok ok w w' μ μ h (hset h r x') n n := by
  obtain ⟨own, H, hD⟩ := H
  obtain ⟨har, L, hR, hn, ho⟩ := H r x hr
  refine ⟨L, hR, hn, fun b hb hd => by have := hD.2 b hd; rw [ho b hb] at this; simp at this, fun r' y hne hy => ?_, ?_⟩
  · obtain ⟨_, L1, hR1, _, ho1⟩ := H r' y hy
    exact ⟨L1, hR1, fun b hb => ⟨(hR1.blocks b hb).2, fun hb' => by have h1 := ho1 b hb; rw [ho b hb'] at h1; simp at h1; exact hne h1.symm⟩⟩
  intro w' x' K L' hf hs hw hK hbx hDl hh hn' hsub E hE1 hE2
  have kp : Kept K ab ab ok ok w w' μ μ h (hset h r x') n n := by
    refine ⟨hs, fun _ h => h, fun _ h => h, fun _ _ => rfl, Nat.le_refl _, fun r' _ => ?_, ?_⟩
    · rw [eW]; split
      · subst_vars; rw [hr]; exact hf
      · exact Fit.refl _
    · intro r' fr t l hr' hKr hg hsl hbk
      by_cases hne : r' = r
      · subst hne
        rw [hr] at hg
        simp only [af] at hg
        exact hK fr t l hKr hg hsl hbk
      · obtain ⟨_, L1, hR1, _, ho1⟩ := H r' _ hg
        have hm := hR1.cY hbk
        exact hw _ (hR1.blocks _ hm).2 (fun hb' => by have h1 := ho1 _ hm; rw [ho _ hb'] at h1; simp at h1; exact hne h1.symm)
  have hR' := hh kp
  refine ⟨⟨fun b => if b ∈ L' then some r else if own b = some r then none else if b < w.heap.size then own b else none, fun r' y hy => ?_, ?_, fun b hb => ?_⟩, kp⟩
  · rw [eW] at hy
    split at hy
    · subst_vars
      simp only [af] at hy; subst hy
      exact ⟨har, L', hR', hn', fun b hb => by simp [hb]⟩
    · rename_i hne
      obtain ⟨ha, L1, hR1, hn1, ho1⟩ := H r' y hy
      have hout : ∀ b ∈ L1, b < w.heap.size ∧ b ∉ L := fun b hb => ⟨(hR1.blocks b hb).2, fun hb' => by have h1 := ho1 b hb; rw [ho b hb'] at h1; simp at h1; exact hne h1.symm⟩
      refine ⟨ha, L1, RR.mono kp ha ?_ (fun b hb => hw b (hout b hb).1 (hout b hb).2) hR1, hn1, fun b hb => ?_⟩
      · cases y with
        | row => trivial
        | mp => trivial
        | box cs => exact hbx r' cs hne hy
      · have h1 := ho1 b hb
        have h2 : b ∉ L' := fun hm => by
          rcases hsub b hm with h3 | h3
          · exact (hout b hb).2 h3
          · have := (hout b hb).1; omega
        simp [h2, h1, hne, (hout b hb).1]
  · refine List.nodup_append.2 ⟨hE1, hD.1, fun b hb b' hb' e => ?_⟩
    subst e
    rcases (hE2 b hb).2 with h3 | h3
    · have h1 := hD.2 b hb'; rw [ho b h3] at h1; simp at h1
    · have := hDl b hb'; omega
  · rcases List.mem_append.1 hb with hb | hb
    · obtain ⟨h2, h3⟩ := hE2 b hb
      rcases h3 with h3 | h3
      · simp [h2, ho b h3]
      · have : ¬ b < w.heap.size := by omega
        simp [h2, this]
    · have h2 : b ∉ L' := fun hm => by
        rcases hsub b hm with h3 | h3
        · have h1 := hD.2 b hb; rw [ho b h3] at h1; simp at h1
        · have := hDl b hb; omega
      simp [h2, hD.2 b hb]
end
theorem Fr.set {c : Cx} {w : World} (h : Fr c w) (us : List Value) {b o : Nat} (hb : c.ok b) : Fr c (setCells w b o us) := by
  have hbel : Below 0 w (setCells w b o us) := by
    have : ∀ (us : List Value) (w0 w : World) (o : Nat), Below 0 w0 w → Below 0 w0 (setCells w b o us) := by
      intro us
      induction us with
      | nil => intro _ _ _ h; exact h
      | cons u us ih => intro w0 w o h; exact ih _ _ _ (h.setCell (p := ⟨b, o, none⟩) (Nat.zero_le _) u)
    exact this us w w o (Below.refl _ _)
  refine ⟨hbel.os.trans h.os, hbel.tape.trans h.tape, hbel.output.trans h.output, Nat.le_trans h.size hbel.size, fun k hk hok => ?_, fun b' m hr => fG _ _ _ _ (h.row b' m hr)⟩
  have hne : k ≠ b := by rintro rfl; exact hok hb
  rw [fR _ _ _ _ _ hne]
  exact h.block k hk hok
end Go.Tw
namespace Go.Tw
open Go Go.RowKit
variable [k7]
section
variable {w w' : World} {ab ok : Nat → Prop} {μ : Nat → Mu} {h : ay} {n : Nat}
theorem VRl.Nq {cs ys : List TV} {us vs : List Value} {off : Nat} (h1 : VRl w ab ok μ h n cs us) (h2 : VRl w ab ok μ h n ys vs) : VRl w ab ok μ h n (vj cs off ys) (us.take off ++ vs ++ us.drop (off + vs.length)) := by
  unfold vj
  rw [← h2.length]
  exact VRl.append (VRl.append (h1.take off) h2) (h1.drop _)
theorem At.set {b o off : Nat} {us vs : List Value} (h : At w b o us) (hr : Row w b (o + us.length)) (hl : off + vs.length ≤ us.length) : At (setCells w b (o + off) vs) b o (us.take off ++ vs ++ us.drop (off + vs.length)) := by
  refine At.app.2 ⟨At.app.2 ⟨fun j u hj => ?_, fun j u hj => ?_⟩, fun j u hj => ?_⟩
  · have hjl : j < off := by
      rcases Nat.lt_or_ge j off with h' | h'
      · exact h'
      · rw [List.getElem?_eq_none (by rw [List.length_take]; omega)] at hj; simp at hj
    rw [gF _ _ _ _ _ (by left; omega)]
    rw [List.getElem?_take, if_pos hjl] at hj
    exact h j u hj
  · have e : (us.take off).length = off := by rw [List.length_take]; omega
    rw [e]
    exact mj vs w b (o + off) (hr.le (by omega)) j u hj
  · have e : (us.take off ++ vs).length = off + vs.length := by rw [aT, List.length_take]; omega
    rw [e, gF _ _ _ _ _ (by right; omega)]
    rw [List.getElem?_drop] at hj
    rw [show o + (off + vs.length) + j = o + (off + vs.length + j) by omega]
    exact h _ u hj
end
section
variable {c : Cx} {σ : St} {a : Act} {w w' : World} {A : lp} {o : Oper} {s' : List (Nat × TV)}
theorem dH.skip {dst : Option Tmp} {s s' : List (Nat × TV)} {h : ay} {n : Nat} {μ : Nat → Mu} (hfr : Fr c w') (hd : a.defers = []) (hsz : a.tmps.size = c.m.n ∧ ∀ q ∈ c.m.st, a.tmps.getD q.1 undef = (c.gv ++ c.kv).getD q.2 undef)
    (hH : HR w' c.ab c.ok μ h n []) (hs : SR w' c.ab c.ok μ h n s a.tmps) (hg : VRl w' c.ab c.ok μ h n c.gs c.gv) (hput : sput c.m dst .undef s = some s') : dH c ⟨s', h, n⟩ (a.put dst undef) w' :=
  dH.put hfr hd hsz hH hs hg (by simp [VR]) hput
theorem dH.IB {dst : Option Tmp} {s s' : List (Nat × TV)} {h : ay} {n : Nat} {μ : Nat → Mu} (hfr : Fr c w') (hd : a.defers = []) (hsz : a.tmps.size = c.m.n ∧ ∀ q ∈ c.m.st, a.tmps.getD q.1 undef = (c.gv ++ c.kv).getD q.2 undef)
    (hH : HR w' c.ab c.ok μ h n []) (hs : SR w' c.ab c.ok μ h n s a.tmps) (hg : VRl w' c.ab c.ok μ h n c.gs c.gv) (hput : sput c.m dst (.mF []) s = some s') : dH c ⟨s', h, n⟩ (a.put dst undef) w' :=
  dH.put hfr hd hsz hH hs hg (by simp [VR, VRl, undef]) hput
theorem SR.Er {ab ok : Nat → Prop} {μ : Nat → Mu} {h : ay} {n : Nat} {s : List (Nat × TV)} {us : Array Value} (r : Nat) (H : SR w ab ok μ h n s us) : SR w ab ok μ (killH r h) n (killS r s) us := by
  intro t
  rw [kV]
  exact VR.kill r _ _ (VR.mono (Kept.kill r) _ _ (fe _) (H t))
theorem SR.IC {K : Nat → Prop} {ab imm' ok ok' : Nat → Prop} {μ μ' : Nat → Mu} {h h' : ay} {n n' : Nat} {s : List (Nat × TV)} {us : Array Value} (kp : Kept K ab imm' ok ok' w w' μ μ' h h' n n') (hk : ∀ t, innOk K (sget s t)) (H : SR w ab ok μ h n s us) : SR w' imm' ok' μ' h' n' s us :=
  fun t => VR.mono kp _ _ (hk t) (H t)
theorem SR.congr {ab ok : Nat → Prop} {μ : Nat → Mu} {h h' : ay} {n : Nat} {s : List (Nat × TV)} {us : Array Value} (hh : ∀ r, hget h' r = hget h r) (H : SR w ab ok μ h n s us) : SR w ab ok μ h' n s us :=
  SR.mono (Kept.sub (fun r x hx => by rw [← hh]; exact hx)) H
theorem VRl.congr {ab ok : Nat → Prop} {μ : Nat → Mu} {h h' : ay} {n : Nat} {cs : List TV} {us : List Value} (hh : ∀ r, hget h' r = hget h r) (H : VRl w ab ok μ h n cs us) : VRl w ab ok μ h' n cs us :=
  VRl.mono (Kept.sub (fun r x hx => by rw [← hh]; exact hx)) _ _ (aD _) H
theorem HR.store {ab ok : Nat → Prop} {μ : Nat → Mu} {h : ay} {n : Nat} {K : Nat → Prop} {D D1 : List Nat} {r i off : Nat} {fr f2 : Bool} {t : Ty} {l : List (den t)} {fs : List TV} {us : List Value} {e : den t}
    (hio : ∀ b, ab b → ¬ ok b) (H : HR w ab ok μ h n (D1 ++ D)) (hg : hget h r = some (.row fr t l)) (hK : K r → hasSl t = false) (hbx : ∀ r' cs, r' ≠ r → hget h r' = some (.box cs) → innOkl K cs)
    (hi : i < l.length) (hle : off + fs.length ≤ sz t) (hc : CT w (cI f2 ab) ok fs us D1) (he : eF t (vj (encT t (l.getD i (eX t))) off fs) = some e) :
    Row w (μ r).cY ((μ r).off + i * sz t + off + us.length) ∧ ok (μ r).cY ∧ HR (setCells w (μ r).cY ((μ r).off + i * sz t + off) us) ab ok μ (hset h r (.row (fr && f2) t (l.set i e))) n D ∧
      Kept K ab ab ok ok w (setCells w (μ r).cY ((μ r).off + i * sz t + off) us) μ μ h (hset h r (.row (fr && f2) t (l.set i e))) n n := by
  obtain ⟨L0, hR0⟩ := H.row hg
  have hbk := hR0.bk (by rintro rfl; simp at hi)
  obtain ⟨_, _, hob, hrow, _⟩ := hR0.oX hbk
  have hlu := hc.length
  have hmul : i * sz t + sz t ≤ l.length * sz t := by rw [← Nat.succ_mul]; exact Nat.mul_le_mul_right _ hi
  have hstep : Step ab w (setCells w (μ r).cY ((μ r).off + i * sz t + off) us) := lC _ _ (fun hb => hio _ hb hob)
  have hsame : ∀ b, b ≠ (μ r).cY → (setCells w (μ r).cY ((μ r).off + i * sz t + off) us).heap[b]? = w.heap[b]? := fun b hb => fR _ _ _ _ _ hb
  have hw := HR.write (x' := .row (fr && f2) t (l.set i e)) (K := K) H hg (by simp [Fit]) hstep hsame (fun L hR => hR.cY hbk) (fun fr' t' l' hk e => by cases e; exact hK hk) hbx ?_
  · exact ⟨hrow.le (by omega), hob, hw.1, hw.2⟩
  intro L kp hR hn hdis hD1
  obtain ⟨L', rfl, g1, g2, g3⟩ := hR.oX hbk
  obtain ⟨L1, L2, L3, rfl, m1, ⟨vs, m2, m3⟩, m4⟩ := RL.at (eX t) hi g3
  obtain ⟨u1, u2, u3, La, Lb, Lc, rfl, rfl, k1, k2, c1, c2, c3⟩ := m2.oZ.Kz (off := off) (m := fs.length) (by rw [dg]; exact hle)
  have hmm : ∀ b, cI fr ab b → cI (fr && f2) ab b := fun b hb => iv (fun e => by simp [e]) hb
  have hm2 : ∀ b, cI f2 ab b → cI (fr && f2) ab b := fun b hb => iv (fun e => by simp [e]) hb
  have hlow : ∀ {f : Bool} b, cI f ab b → (setCells w (μ r).cY ((μ r).off + i * sz t + off) us).heap[b]? = w.heap[b]? := fun b hb => hstep.low b hb.2
  have hne : ∀ b ∈ L1 ++ ((La ++ (Lb ++ Lc)) ++ L3), b ≠ (μ r).cY := fun b hb e => by subst e; exact (List.nodup_cons.1 hn).1 (by simpa using hb)
  have hneD : ∀ b ∈ D1, b ≠ (μ r).cY := fun b hb e => by subst e; exact hdis _ (by simp) hb
  have k4 := c1.length
  have k5 := c3.length
  rw [List.length_take, dg] at k4
  rw [List.length_drop, dg] at k5
  have hct : CT (setCells w (μ r).cY ((μ r).off + i * sz t + off) us) (cI (fr && f2) ab) ok (vj (encT t (l.getD i (eX t))) off fs) (u1 ++ us ++ u3) (La ++ D1 ++ Lc) := by
    unfold vj
    refine CT.app.2 ⟨u1 ++ us, u3, La ++ D1, Lc, rfl, rfl, CT.app.2 ⟨u1, us, La, D1, rfl, rfl, ?_, ?_⟩, ?_⟩
    · exact c1.mono hmm (fun _ h => h) hlow (fun b hb => hsame b (hne b (by simp [hb])))
    · exact hc.mono hm2 (fun _ h => h) hlow (fun b hb => hsame b (hneD b hb))
    · exact c3.mono hmm (fun _ h => h) hlow (fun b hb => hsame b (hne b (by simp [hb])))
  have htr := CT.eF he hct
  have hat : At (setCells w (μ r).cY ((μ r).off + i * sz t + off) us) (μ r).cY ((μ r).off + i * sz t) (u1 ++ us ++ u3) := by
    have hvl : (u1 ++ (u2 ++ u3)).length = sz t := m2.length
    have := At.set (off := off) (vs := us) m3 (hrow.le (by rw [hvl]; omega)) (by rw [hvl]; omega)
    have e1 : (u1 ++ (u2 ++ u3)).take off = u1 := by rw [← k1]; simp
    have e2 : (u1 ++ (u2 ++ u3)).drop (off + us.length) = u3 := by
      rw [show off + us.length = (u1 ++ u2).length by simp; omega, ← List.append_assoc]; simp
    rwa [e1, e2] at this
  have hrest : ∀ {l' : List (den t)} {o' : Nat} {L' : List Nat}, (o' + l'.length * sz t ≤ (μ r).off + i * sz t ∨ (μ r).off + i * sz t + sz t ≤ o') → (∀ b ∈ L', b ≠ (μ r).cY) → RL (oW w (cI fr ab) ok t) (sz t) l' (μ r).cY o' L' →
      RL (oW (setCells w (μ r).cY ((μ r).off + i * sz t + off) us) (cI (fr && f2) ab) ok t) (sz t) l' (μ r).cY o' L' := by
    intro l'
    induction l' with
    | nil => intro o' L' _ _ h; exact h
    | cons x l' ih =>
      intro o' L' ho hL h
      simp only [RL] at h ⊢
      obtain ⟨Lx, Ly, rfl, ⟨xs, x1, x2⟩, h2⟩ := h
      refine ⟨Lx, Ly, rfl, ⟨xs, x1.mono hmm (fun _ h => h) hlow (fun b hb => hsame b (hL b (by simp [hb]))), fun j u hj => ?_⟩, ih ?_ (fun b hb => hL b (by simp [hb])) h2⟩
      · have hjl : j < sz t := by
          rw [← x1.length]
          rcases Nat.lt_or_ge j xs.length with h' | h'
          · exact h'
          · rw [List.getElem?_eq_none h'] at hj; simp at hj
        rw [gF _ _ _ _ _ ?_]
        · exact x2 j u hj
        · rcases ho with ho | ho
          · left; rw [List.length_cons, Nat.succ_mul] at ho; omega
          · right; omega
      · rcases ho with ho | ho
        · left; rw [List.length_cons, Nat.succ_mul] at ho; omega
        · right; omega
  have hRL := RL.put (l := l) (i := i) (x := e) (L1 := L1) (L2 := La ++ D1 ++ Lc) (L3 := L3) hi
    (hrest (.inl (by rw [List.length_take, Nat.min_eq_left (by omega)]; omega)) (fun b hb => hne b (by simp [hb])) m1) ⟨_, htr, hat⟩ (hrest (.inr (by omega)) (fun b hb => hne b (by simp [hb])) m4)
  refine ⟨(μ r).cY :: (L1 ++ ((La ++ D1 ++ Lc) ++ L3)), .inr ⟨hbk, _, rfl, g1, ?_, hRL⟩, ?_, ?_⟩
  · rw [List.length_set]; exact fG _ _ _ _ g2
  · have hD1' : ∀ b ∈ D1, b ∉ L1 ∧ b ∉ La ∧ b ∉ Lc ∧ b ∉ L3 ∧ b ≠ (μ r).cY := fun b hb => by
      refine ⟨fun h' => hdis b (by simp [h']) hb, fun h' => hdis b (by simp [h']) hb, fun h' => hdis b (by simp [h']) hb, fun h' => hdis b (by simp [h']) hb, hneD b hb⟩
    have hn2 : ((μ r).cY :: (L1 ++ ((La ++ Lc) ++ L3))).Nodup := by
      refine hn.sublist ?_
      refine List.Sublist.cons_cons _ (List.Sublist.append (List.Sublist.refl _) (List.Sublist.append ?_ (List.Sublist.refl _)))
      exact List.Sublist.append (List.Sublist.refl _) (List.sublist_append_right _ _)
    have hp : ((μ r).cY :: (L1 ++ ((La ++ D1 ++ Lc) ++ L3))).Perm (D1 ++ ((μ r).cY :: (L1 ++ ((La ++ Lc) ++ L3)))) := by
      refine List.perm_iff_count.2 (fun x => ?_)
      simp only [List.count_cons, List.count_append]; omega
    refine hp.nodup_iff.2 (List.nodup_append.2 ⟨hD1, hn2, fun b hb b' hb' e => ?_⟩)
    subst e
    obtain ⟨q1, q2, q3, q4, q5⟩ := hD1' b hb
    simp only [List.mem_cons, List.mem_append] at hb'
    rcases hb' with h | h | (h | h) | h
    · exact q5 h
    · exact q1 h
    · exact q2 h
    · exact q3 h
    · exact q4 h
  · intro b hb
    simp only [List.mem_cons, List.mem_append] at hb ⊢
    rcases hb with h | h | ((h | h) | h) | h <;> simp [h]
theorem qh : ∀ {cs fs : List TV} {h h' : ay} {fr : Bool}, absL h cs = some (fs, fr, h') → fs.length = cs.length
  | [], fs, h, h', fr, ha => by simp only [absL, af, aG] at ha; obtain ⟨rfl, _⟩ := ha; rfl
  | c :: cs, fs, h, h', fr, ha => by
    simp only [absL, ax, af, aG] at ha
    obtain ⟨⟨f1, b1, hh1⟩, ha1, ⟨f2, b2, hh2⟩, ha2, rfl, rfl, rfl⟩ := ha
    simp [qh ha2]
theorem hZ : ∀ {cs fs : List TV} {h h' : ay} {fr : Bool}, absL h cs = some (fs, fr, h') → ∀ r x, hget h' r = some x → hget h r = some x
  | [], fs, h, h', fr, ha, r, x, hx => by simp only [absL, af, aG] at ha; obtain ⟨_, _, rfl⟩ := ha; exact hx
  | c :: cs, fs, h, h', fr, ha, r, x, hx => by
    simp only [absL, ax, af, aG] at ha
    obtain ⟨⟨f1, b1, hh1⟩, ha1, ⟨f2, b2, hh2⟩, ha2, rfl, rfl, rfl⟩ := ha
    have h1 := hZ ha2 r x hx
    unfold absC at ha1
    split at ha1
    · simp only [af, aG] at ha1; obtain ⟨_, _, rfl⟩ := ha1; exact h1
    · simp only [af, aG] at ha1; obtain ⟨_, _, rfl⟩ := ha1; exact h1
    · split at ha1
      · simp only [af, aG] at ha1; obtain ⟨_, _, rfl⟩ := ha1; exact dz h1
      · simp at ha1
    · split at ha1
      · simp only [af, aG] at ha1; obtain ⟨_, _, rfl⟩ := ha1; exact dz h1
      · simp at ha1
    · simp at ha1
theorem Es (hs : dH c σ a w) {t : TypeId} {x y : Operand} (ho : o.op = .store t x y) (hx : ex c.P o.op (ev σ.s) σ.h σ.n = some A) (hc : A.c = true) (hput : sput c.m o.dst A.v (ks A σ.s) = some s') : bR c o a w ⟨s', A.h, A.n⟩ := by
  rw [ho] at hx
  simp only [ex, ax] at hx
  obtain ⟨⟨g, m⟩, ht, hx⟩ := hx
  have hlt := hs.lt
  obtain ⟨hfr, hd, hsz, μ, hH, hl, hgs⟩ := id hs
  have hv := SR.iR hl x
  have hy := SR.iR hl y
  have hio : ∀ b, c.ab b → ¬ c.ok b := c.iZ
  unfold storeS at hx
  split at hx
  · rename_i r i off hq
    rw [hq] at hv
    simp only [VR] at hv
    obtain ⟨hr, B, e1, hm⟩ := hv
    split at hx
    ·
      rename_i cs hg
      obtain ⟨hb, hx⟩ := ah.1 hx
      simp only [af] at hx; subst hx
      simp only [aA] at hb
      obtain ⟨⟨hb1, hb2⟩, hb3⟩ := hb
      have hb1 : (clist (ev σ.s y)).length = m := Nat.eq_of_beq_eq_true hb1
      have hb2 : off + m ≤ cs.length := Nat.le_of_ble_eq_true hb2
      simp only [hg] at hm; subst hm
      obtain ⟨us, hcells, hus, hone⟩ := nh hb3 hy
      have hlen := hus.length
      obtain ⟨L0, hR0⟩ := hH.row hg
      simp only [RR] at hR0
      obtain ⟨rfl, q1, q2, vs, q3, q4⟩ := hR0
      have hvl := q3.length
      have hstep : Step c.ab w (setCells w (μ r).cY ((μ r).off + off) us) := lC _ _ (fun hb => hio _ hb q1)
      have hrowu := q2.le (m' := (μ r).off + off + us.length) (by omega)
      obtain ⟨hH', kp⟩ := HR.write (D1 := []) (D := []) (x' := .box (vj cs off (clist (ev σ.s y)))) (K := fun _ => True) hH hg (by simp [Fit]) hstep (fun b hb => fR _ _ _ _ _ hb)
        (fun L hR => by simp only [RR] at hR; rw [hR.1]; simp) (fun fr t l _ e => by cases e) (fun _ _ _ _ => aD _) (by
          intro L kp hR hn _ _
          simp only [RR] at hR ⊢
          obtain ⟨rfl, p1, p2, vs', p3, p4⟩ := hR
          refine ⟨_, ⟨rfl, p1, ?_, _, VRl.mono kp _ _ (aD _) (VRl.Nq (off := off) p3 hus), At.set (off := off) p4 (by rw [← p3.length]; exact p2) (by rw [← p3.length]; omega)⟩, hn, by simp⟩
          have : (vj cs off (clist (ev σ.s y))).length = cs.length := by
            simp only [vj, aT, List.length_take, List.length_drop]; omega
          rw [this]; exact fG _ _ _ _ p2)
      refine ⟨.skip, setCells w (μ r).cY ((μ r).off + off) us, ?_, fun e => (by simp [ho, stillB] at e), .inr ⟨rfl, dH.skip (hfr.set us q1) hd hsz hH' (SR.mono kp hl) (dm kp c hgs) hput⟩⟩
      have := o6 (P := c.P) (w := w) ht hcells (by omega) hrowu hone
      simp [execOp, ho, e1, Instr.storeAt, Instr.sureAddr, this]
    ·
      rename_i fr0 t00 l00 hg0
      simp only [ax] at hx
      obtain ⟨⟨fs, f2, h1⟩, habs, hx⟩ := hx
      simp only at hx
      split at hx
      · rename_i fr t0 l hg
        obtain ⟨hb, hx⟩ := ah.1 hx
        simp only [ax, af] at hx
        obtain ⟨e, he, rfl⟩ := hx
        simp only [aA] at hb
        obtain ⟨⟨hb1, hb2⟩, hb3⟩ := hb
        have hb1 : fs.length = m := Nat.eq_of_beq_eq_true hb1
        have hb2 : off + m ≤ sz t0 := Nat.le_of_ble_eq_true hb2
        simp only [bF] at hc
        have hcl := qh habs
        have hgg : hget σ.h r = some (.row fr t0 l) := hZ habs r _ hg
        simp only [hgg] at hm; subst hm
        obtain ⟨us, hcells, hus, hone⟩ := nh hb3 hy
        have hlen := hus.length
        obtain ⟨L, k1, k2, k3⟩ := uN hH hus habs
        have kp1 : Kept (fun _ => True) c.ab c.ab c.ok c.ok w w μ μ σ.h h1 σ.n σ.n := Kept.sub k3
        have hl1 : SR w c.ab c.ok μ h1 σ.n σ.s a.tmps := SR.mono kp1 hl
        have hg1 : VRl w c.ab c.ok μ h1 σ.n c.gs c.gv := dm kp1 c hgs
        have hcu := k1.length
        have hrun : ∀ {w'}, w' = setCells w (μ r).cY ((μ r).off + i * sz t0 + off) us → Row w (μ r).cY ((μ r).off + i * sz t0 + off + us.length) → (execOp a.eval o).run c.P w = .ok .skip w' := by
          rintro w' rfl hrow
          have := o6 (P := c.P) (w := w) ht hcells (by omega) hrow hone
          simp [execOp, ho, e1, Instr.storeAt, Instr.sureAddr, this]
        by_cases hsl : hasSl t0 = true
        ·
          simp only [hsl, ag] at hput ⊢
          have hk2 := HR.kill r k2
          have hgk : hget (killH r h1) r = some (.row fr t0 l) := by rw [hget_killH, hg]; rfl
          obtain ⟨p1, p2, p3, p4⟩ := HR.store (K := (· ≠ r)) (D := []) (D1 := L) hio hk2 hgk (fun h => absurd rfl h) (fun r' cs hne hcs => by
            rw [hget_killH, Option.map_eq_some_iff] at hcs
            obtain ⟨z, _, hz⟩ := hcs
            cases z with
            | row => simp at hz
            | mp => simp at hz
            | box cs' => simp only [dq.box.injEq] at hz; subst hz; exact hY r _) hc (by omega) k1 he
          have hcong : ∀ r', hget (killH r (hset h1 r (.row (fr && f2) t0 (l.set i e)))) r' = hget (hset (killH r h1) r (.row (fr && f2) t0 (l.set i e))) r' := by
            intro r'
            rw [hget_killH, eW, eW]
            split
            · rfl
            · rw [hget_killH]
          have hSR := SR.IC (K := (· ≠ r)) p4 (fun t => by rw [kV]; exact mi r _) (SR.Er r hl1)
          refine ⟨.skip, _, hrun rfl p1, fun e => (by simp [ho, stillB] at e), .inr ⟨rfl, dH.skip (hfr.set us p2) hd hsz (p3.congr hcong) (SR.congr hcong hSR) (VRl.congr hcong ?_) hput⟩⟩
          exact dm p4 c (dm (Kept.kill r) c hg1)
        · have hsl' : hasSl t0 = false := by simpa using hsl
          simp only [hsl', al] at hput ⊢
          obtain ⟨p1, p2, p3, p4⟩ := HR.store (K := fun _ => True) (D := []) (D1 := L) hio k2 hg (fun _ => hsl') (fun _ _ _ _ => aD _) hc (by omega) k1 he
          exact ⟨.skip, _, hrun rfl p1, fun e => (by simp [ho, stillB] at e), .inr ⟨rfl, dH.skip (hfr.set us p2) hd hsz p3 (SR.mono p4 hl1) (dm p4 c hg1) hput⟩⟩
      · simp at hx
    · simp at hx
  · simp at hx
end
end Go.Tw
namespace Go.Tw
open Go Go.RowKit
variable [k7]
def EL (w : World) (ab ok : Nat → Prop) (t : Ty) : List (den t) → List Value → List Nat → Prop
  | [], us, L => us = [] ∧ L = []
  | x :: l, us, L => ∃ u1 u2 L1 L2, us = u1 ++ u2 ∧ L = L1 ++ L2 ∧ TRl w ab ok t x u1 L1 ∧ EL w ab ok t l u2 L2
section
variable {w w' : World} {ab imm' ok ok' : Nat → Prop} {μ : Nat → Mu} {h : ay} {n : Nat} {t : Ty}
theorem EL.length : ∀ {l : List (den t)} {us : List Value} {L : List Nat}, EL w ab ok t l us L → us.length = l.length * sz t
  | [], us, L, H => by rw [H.1]; simp
  | x :: l, us, L, H => by
    obtain ⟨u1, u2, L1, L2, rfl, rfl, h1, h2⟩ := H
    rw [aT, h1.length, EL.length h2, List.length_cons, Nat.succ_mul]; omega
theorem EL.one : ∀ {l : List (den t)} {us : List Value} {L : List Nat}, EL w ab ok t l us L → ∀ u ∈ us, u.oneCell' = true
  | [], us, L, H, u, hu => by rw [H.1] at hu; simp at hu
  | x :: l, us, L, H, u, hu => by
    obtain ⟨u1, u2, L1, L2, rfl, rfl, h1, h2⟩ := H
    rcases List.mem_append.1 hu with hu | hu
    · exact h1.qL u hu
    · exact EL.one h2 u hu
theorem EL.blocks : ∀ {l : List (den t)} {us : List Value} {L : List Nat}, EL w ab ok t l us L → ∀ b ∈ L, ok b ∧ b < w.heap.size
  | [], us, L, H, u, hu => by rw [H.2] at hu; simp at hu
  | x :: l, us, L, H, u, hu => by
    obtain ⟨u1, u2, L1, L2, rfl, rfl, h1, h2⟩ := H
    rcases List.mem_append.1 hu with hu | hu
    · exact h1.blocks u hu
    · exact EL.blocks h2 u hu
theorem EL.mono (hi : ∀ b, ab b → imm' b) (ho : ∀ b, ok b → ok' b) (hw : ∀ b, ab b → w'.heap[b]? = w.heap[b]?) : ∀ {l : List (den t)} {us : List Value} {L : List Nat}, (∀ b ∈ L, w'.heap[b]? = w.heap[b]?) → EL w ab ok t l us L → EL w' imm' ok' t l us L
  | [], us, L, _, H => H
  | x :: l, us, L, hL, H => by
    obtain ⟨u1, u2, L1, L2, rfl, rfl, h1, h2⟩ := H
    exact ⟨u1, u2, L1, L2, rfl, rfl, h1.mono hi ho hw (fun b hb => hL b (by simp [hb])), EL.mono hi ho hw (fun b hb => hL b (by simp [hb])) h2⟩
theorem EL.app : ∀ {l m : List (den t)} {us vs : List Value} {L M : List Nat}, EL w ab ok t l us L → EL w ab ok t m vs M → EL w ab ok t (l ++ m) (us ++ vs) (L ++ M)
  | [], m, us, vs, L, M, H, K => by obtain ⟨rfl, rfl⟩ := H; simpa using K
  | x :: l, m, us, vs, L, M, H, K => by
    obtain ⟨u1, u2, L1, L2, rfl, rfl, h1, h2⟩ := H
    exact ⟨u1, u2 ++ vs, L1, L2 ++ M, by simp, by simp, h1, EL.app h2 K⟩
theorem EL.JP {b : Nat} : ∀ {l : List (den t)} {us : List Value} {L : List Nat} {o : Nat}, EL w ab ok t l us L → At w b o us → RL (oW w ab ok t) (sz t) l b o L
  | [], us, L, o, H, _ => H.2
  | x :: l, us, L, o, H, ha => by
    obtain ⟨u1, u2, L1, L2, rfl, rfl, h1, h2⟩ := H
    obtain ⟨a1, a2⟩ := At.app.1 ha
    exact ⟨L1, L2, rfl, ⟨u1, h1, a1⟩, EL.JP h2 (by rw [← h1.length]; exact a2)⟩
theorem RL.GM {b : Nat} : ∀ {l : List (den t)} {L : List Nat} {o : Nat}, RL (oW w ab ok t) (sz t) l b o L → ∃ us, EL w ab ok t l us L ∧ At w b o us
  | [], L, o, H => ⟨[], ⟨rfl, H⟩, At.nil⟩
  | x :: l, L, o, H => by
    obtain ⟨L1, L2, rfl, ⟨u1, h1, a1⟩, h2⟩ := H
    obtain ⟨u2, h3, a2⟩ := RL.GM h2
    exact ⟨u1 ++ u2, ⟨u1, u2, L1, L2, rfl, rfl, h1, h3⟩, At.app.2 ⟨a1, by rw [h1.length]; exact a2⟩⟩
theorem TRl.flat : ∀ {t : Ty} {x : den t} {us : List Value} {L : List Nat}, hasSl t = false → TRl w ab ok t x us L → L = [] ∧ TRl w' imm' ok' t x us []
  | .int _, _, _, _, _, h => ⟨h.2, h.1, rfl⟩
  | .bool, _, _, _, _, h => ⟨h.2, h.1, rfl⟩
  | .str, _, _, _, _, h => ⟨h.2, h.1, rfl⟩
  | .un, _, _, _, _, h => ⟨h.2, h.1, rfl⟩
  | .pr a b, x, us, L, hf, h => by
    simp only [hasSl, Bool.or_eq_false_iff] at hf
    obtain ⟨u1, u2, L1, L2, rfl, rfl, h1, h2⟩ := h
    obtain ⟨rfl, g1⟩ := TRl.flat hf.1 h1
    obtain ⟨rfl, g2⟩ := TRl.flat hf.2 h2
    exact ⟨rfl, u1, u2, [], [], rfl, rfl, g1, g2⟩
  | .sl t, l, us, L, hf, h => by simp [hasSl] at hf
  | .ref t, l, us, L, hf, h => by simp [hasSl] at hf
  | .cl g t, l, us, L, hf, h => by simp [hasSl] at hf
theorem EL.flat (hf : hasSl t = false) : ∀ {l : List (den t)} {us : List Value} {L : List Nat}, EL w ab ok t l us L → L = [] ∧ EL w' imm' ok' t l us []
  | [], us, L, H => ⟨H.2, H.1, rfl⟩
  | x :: l, us, L, H => by
    obtain ⟨u1, u2, L1, L2, rfl, rfl, h1, h2⟩ := H
    obtain ⟨rfl, g1⟩ := TRl.flat hf h1
    obtain ⟨rfl, g2⟩ := EL.flat hf h2
    exact ⟨rfl, u1, u2, [], [], rfl, rfl, g1, g2⟩
theorem mM.src {m : Mu} {l : List (den t)} {off len : Nat} {v : Value} {L : List Nat} (H : mM w m (sz t) off len v) (hle : off + len ≤ l.length) (hR : m.bk = true → RL (oW w ab ok t) (sz t) l m.cY m.off L) :
    ∃ news L', Src w (sz t) v ((l.drop off).take len).length news ∧ EL w ab ok t ((l.drop off).take len) news L' ∧ L'.Sublist L := by
  have hlen : ((l.drop off).take len).length = len := by simp; omega
  rcases H with ⟨rfl, rfl⟩ | ⟨o, cap, rfl, h1, h2, h3, h4⟩
  · exact ⟨[], [], ⟨by simp, .inl ⟨0, rfl, by simp⟩⟩, by simp [EL], List.nil_sublist _⟩
  · obtain ⟨L1, L2, L3, rfl, hs⟩ := RL.sub off len (by omega) (hR h2)
    obtain ⟨us, g1, g2⟩ := RL.GM hs
    refine ⟨us, L2, ⟨g1.length, .inr (.inl ⟨_, cap, by rw [hlen], fun j u hj => ?_⟩)⟩, g1, (List.sublist_append_left L2 L3).trans (List.sublist_append_right L1 _)⟩
    have hp : 0 < cap := by
      rcases Nat.eq_zero_or_pos cap with h0 | h0
      · exfalso
        have : len = 0 := by omega
        subst this
        have hul := g1.length
        simp at hul; subst hul; simp at hj
      · exact h0
    obtain ⟨rfl, _⟩ := h4 hp
    rw [ia]; exact g2 j u hj
theorem v7 {x : TV} {v : Value} {xs : List (den t)} {fr : Bool} {h1 : ay} (H : HR w ab ok μ h n []) (hv : VR w ab ok μ h n x v) (hx : elemsS t x h = some (xs, fr, h1)) :
    ∃ news L, Src w (sz t) v xs.length news ∧ HR w ab ok μ h1 n L ∧ EL w (cI fr ab) ok t xs news L ∧ ∀ r y, hget h1 r = some y → hget h r = some y := by
  unfold elemsS at hx
  split at hx
  · simp only [af, aG] at hx
    obtain ⟨rfl, rfl, rfl⟩ := hx
    exact ⟨[], [], ⟨by simp, .inl ⟨0, hv.iy, rfl⟩⟩, H, ⟨rfl, rfl⟩, fun _ _ h => h⟩
  · simp only [af, aG] at hx
    obtain ⟨rfl, rfl, rfl⟩ := hx
    exact ⟨[], [], ⟨by simp, .inr (.inl ⟨_, _, hv.iy, fun j u hj => by simp at hj⟩)⟩, H, ⟨rfl, rfl⟩, fun _ _ h => h⟩
  · rename_i t' l
    simp only [Option.map_eq_some_iff, aG] at hx
    obtain ⟨l', hc, rfl, rfl, rfl⟩ := hx
    obtain ⟨rfl, rfl⟩ := eY hc
    simp only [VR] at hv
    obtain ⟨u, e, hv⟩ := hv
    simp only [List.cons.injEq, and_true] at e; subst e
    have key : ∃ news, Src w (sz t') v l.length news ∧ EL w ab ok t' l news [] := by
      rcases hv with ⟨rfl, rfl, _⟩ | ⟨B, cap, L', rfl, hcap, hte, hA⟩
      · exact ⟨[], ⟨by simp, .inl ⟨0, rfl, rfl⟩⟩, rfl, rfl⟩
      · rcases hA with ⟨_, rfl, _, hA⟩ | ⟨hn, _⟩
        · obtain ⟨us, g1, g2⟩ := RL.GM hte
          refine ⟨us, ⟨g1.length, .inr (.inl ⟨B, cap, rfl, fun j u hj => ?_⟩)⟩, g1⟩
          have hne : l ≠ [] := by rintro rfl; have := g1.length; simp at this; subst this; simp at hj
          obtain ⟨b, of, sp⟩ := B
          obtain ⟨rfl, _⟩ := hA hne
          rw [ia]; exact g2 j u hj
        · simp at hn
    obtain ⟨news, hs, he⟩ := key
    refine ⟨news, [], hs, H, ?_, fun _ _ h => h⟩
    cases hf : hasSl t' with
    | false => exact (EL.flat hf he).2
    | true => exact he.mono (fun b hb => ⟨rfl, hb⟩) (fun _ h => h) (fun _ _ => rfl) (fun _ _ => rfl)
  · rename_i r
    split at hx
    · rename_i fr0 t' l hg
      simp only [Option.map_eq_some_iff, aG] at hx
      obtain ⟨l', hc, rfl, rfl, rfl⟩ := hx
      obtain ⟨rfl, rfl⟩ := eY hc
      simp only [VR, hg] at hv
      obtain ⟨L, hR, H'⟩ := H.kb hg
      obtain ⟨news, L', g1, g2, g3⟩ := mM.src (ab := cI fr0 ab) (ok := ok) (l := l) (L := L.tail) hv.2 (by omega) (fun hb => by obtain ⟨L', rfl, _, _, q⟩ := hR.oX hb; exact q)
      simp only [List.drop_zero, List.take_length] at g1 g2
      cases hf : hasSl t' with
      | true =>
        simp only [ag]
        exact ⟨news, L', g1, H'.ni (by simpa using g3.trans (List.tail_sublist L)), g2, fun _ _ => dz⟩
      | false =>
        simp only [al]
        obtain ⟨rfl, g4⟩ := EL.flat (w' := w) (imm' := cI fr0 ab) (ok' := ok) hf g2
        exact ⟨news, [], g1, H, g4, fun _ _ h => h⟩
    · simp at hx
  · rename_i r off len
    split at hx
    · rename_i fr0 t' l hg
      simp only [Option.map_eq_some_iff, aG] at hx
      obtain ⟨l', hc, rfl, rfl, rfl⟩ := hx
      obtain ⟨rfl, rfl⟩ := eY hc
      simp only [VR, hg] at hv
      obtain ⟨L, hR, H'⟩ := H.kb hg
      obtain ⟨news, L', g1, g2, g3⟩ := mM.src (ab := cI fr0 ab) (ok := ok) (l := l) (L := L.tail) hv.2.2 hv.2.1 (fun hb => by obtain ⟨L', rfl, _, _, q⟩ := hR.oX hb; exact q)
      cases hf : hasSl t' with
      | true =>
        simp only [ag]
        exact ⟨news, L', g1, H'.ni (by simpa using g3.trans (List.tail_sublist L)), g2, fun _ _ => dz⟩
      | false =>
        simp only [al]
        obtain ⟨rfl, g4⟩ := EL.flat (w' := w) (imm' := cI fr0 ab) (ok' := ok) hf g2
        exact ⟨news, [], g1, H, g4, fun _ _ h => h⟩
    · simp at hx
  · rename_i s
    split at hx
    · simp only [af, aG] at hx
      obtain ⟨rfl, rfl, rfl⟩ := hx
      have e := hv.iy
      subst e
      have hE : EL w (cI true ab) ok (.int .u8) (s.data.toList.map fun b => (b.toNat : Int)) (s.data.toList.map fun b => Value.int .u8 b.toNat) [] := by
        generalize s.data.toList = l
        induction l with
        | nil => exact ⟨rfl, rfl⟩
        | cons x l ih => exact ⟨[_], _, [], [], rfl, rfl, ⟨rfl, rfl⟩, ih⟩
      refine ⟨_, [], ⟨hE.length, .inr (.inr ⟨s, rfl, ?_, rfl⟩)⟩, H, hE, fun _ _ h => h⟩
      exact (List.length_map (as := s.data.toList) (fun b => (b.toNat : Int))).trans (by simp)
    · simp at hx
  · simp at hx
theorem run_append_nil {P : Program} {tt t2 ty : TypeId} {d2 : TypeDesc} {size bytes : Nat} {z : List Value} (ht : tsl P tt = some (size, bytes, z)) (h2 : P.underlying t2 = some d2) (hd2 : d2 = .string ∨ ∃ e, d2 = .slice e)
    {x : Value} {news : List Value} (hx : Src w size x 0 news) {rest : List TypeId} :
    (Builtin.append_ (tt :: t2 :: rest).toArray ty #[.slice none 0 0, x]).run P w = .ok (.slice none 0 0) w := by
  obtain ⟨e, i, zv, hu, hi, hz, rfl, hsz, hby, hzl, hs0, hb0, _⟩ := iK ht
  subst hsz
  rcases hd2 with rfl | ⟨e2, rfl⟩ <;> simp [Builtin.append_, underlying, hu, h2, sizeOf, typeInfo, hi, hx.lenOf, hx.first]
end
section
variable {c : Cx} {σ : St} {a : Act} {w w' : World} {A : lp} {o : Oper} {s' : List (Nat × TV)}
theorem EL.bytes {w : World} {ab ok : Nat → Prop} : ∀ {l : List Int} {us : List Value} {L : List Nat}, EL w ab ok (.int .u8) l us L → us = l.map (Value.int .u8)
  | [], us, L, h => by obtain ⟨rfl, _⟩ := h; rfl
  | x :: l, us, L, h => by
    obtain ⟨u1, u2, L1, L2, rfl, rfl, h1, h2⟩ := h
    obtain ⟨rfl, _⟩ := h1
    rw [EL.bytes h2]; rfl
theorem JQ {w : World} {ab ok : Nat → Prop} {μ : Nat → Mu} {h h' : ay} {n : Nat} {x : TV} {v : Value} {t : Ty} {xs : List (den t)} {fr : Bool} (hst : isStr x = false) (hv : VR w ab ok μ h n x v) (hel : elemsS t x h = some (xs, fr, h')) (s0 : ByteArray) : v ≠ .string s0 := by
  rintro rfl
  unfold elemsS at hel
  split at hel
  · simp [VR] at hv
  · simp [VR] at hv
  · simp only [VR, TRl] at hv
    obtain ⟨v', e, hv⟩ := hv
    simp only [List.cons.injEq, and_true] at e
    subst e
    simp [ID] at hv
  · split at hel
    · rename_i hg
      simp only [VR, hg] at hv
      simp [mM] at hv
    · simp at hel
  · split at hel
    · rename_i hg
      simp only [VR, hg] at hv
      simp [mM] at hv
    · simp at hel
  · simp [isStr] at hst
  · simp at hel
theorem GN (hs : dH c σ a w) {s d : TypeId} {x : Operand} (ho : o.op = .convert s d x) (hx : bytC c.P s d (ev σ.s x) σ.h σ.n = some A) (hput : sput c.m o.dst A.v (ks A σ.s) = some s') : bR c o a w ⟨s', A.h, A.n⟩ := by
  obtain ⟨_, _, _, μ, hH, hl, hg⟩ := id hs
  have hv := SR.iR hl x
  unfold bytC at hx
  split at hx
  · rename_i e h1 h2
    split at hx
    · rename_i h3
      cases hst : isStr (ev σ.s x) with
      | true => rw [hst] at hx; cases hx
      | false =>
      rw [hst] at hx
      simp only [al, Option.map_eq_some_iff] at hx
      obtain ⟨⟨xs, fr, h'⟩, hel, rfl⟩ := hx
      obtain ⟨news, L, hsrc, _, hE, _⟩ := v7 hH hv hel
      have hb := EL.bytes hE
      refine bR.quiet hs (v := .string (strOf xs)) (fun w1 hb1 => ?_) hput (fun μ' hl' _ => by simp [VR])
      obtain ⟨hlen, hsrc⟩ := hsrc
      rcases hsrc with ⟨cc, e1, e2⟩ | ⟨A0, cap, e1, e2⟩ | ⟨s0, e1, _⟩
      · have : xs = [] := List.eq_nil_of_length_eq_zero e2
        subst this
        simp [execOp, ho, Go.convert, underlying, h1, h2, h3, e1, Conv.bytesToString, strOf]
        rfl
      · have hc : ∀ j u, news[j]? = some u → w1.cell? (A0.add j) = some u := fun j u hj => by
          have h0 := e2 j u hj
          have hlt : (A0.add j).block < w.heap.size := by
            unfold World.cell? at h0
            rcases Nat.lt_or_ge (A0.add j).block w.heap.size with h | h
            · exact h
            · rw [Array.getElem?_eq_none h] at h0; simp at h0
          rw [← h0]
          unfold World.cell?
          rw [hb1.block _ hlt]
        have hl2 := run_loadCells_list (P := c.P) w1 A0 news hc
        have hnl : news.length = xs.length := by simpa [sz] using hlen
        rw [hnl, hb] at hl2
        have := run_bytesToString (P := c.P) w1 A0 xs.length cap xs hl2
        simp [execOp, ho, Go.convert, underlying, h1, h2, h3, e1, this, strOf]
      · exact absurd e1 (JQ hst hv hel s0)
    · simp at hx
  · simp at hx
end
end Go.Tw
