/- A step of the typed logic of this claim is proved here: what an operation does to the data that slots and memory stand for. -/
import Derived.Test.YtmjacadeccoclaaT9
set_option linter.all false
namespace Go.Tw
open Go Go.RowKit

section
variable {c : Cx} {σ : St} {a : Act} {w w' : World} {A : Ans} {o : Oper} {s' : List (Nat × TV)}

def muP (μ : Nat → Mu) (id : Nat) (m : Mu) : Nat → Mu := fun r => if r = id then m else μ r
theorem Kept.cons {imm ok : Nat → Prop} {μ : Nat → Mu} {h : Heap} {n : Nat} {reg : Reg} {m : Mu} (kp : Kept (fun _ => True) imm imm ok ok w w' μ μ h h n n) : Kept (fun _ => True) imm imm ok ok w w' μ (muP μ n m) h ((n, reg) :: h) n (n + 1) :=
  ⟨kp.step, fun _ h => h, fun _ h => h, fun r hr => by simp [muP, show r ≠ n by omega], by omega, fun r hr => by simp only [hget, show r ≠ n by omega, ↓reduceIte]; exact Fit.refl _, kp.inn⟩

theorem vrl_gs {K : Nat → Prop} {imm imm' ok ok' : Nat → Prop} {μ μ' : Nat → Mu} {h h' : Heap} {n n' : Nat} (kp : Kept K imm imm' ok ok' w w' μ μ' h h' n n') (c : Cx) (H : VRl w imm ok μ h n c.gs c.gv) : VRl w' imm' ok' μ' h' n' c.gs c.gv :=
  VRl.mono kp _ _ (innOkl.imp (fun _ h => h.elim) _ c.gin) H
theorem SR.mono {imm imm' ok ok' : Nat → Prop} {μ μ' : Nat → Mu} {h h' : Heap} {n n' : Nat} {s : List (Nat × TV)} {us : Array Value} (kp : Kept (fun _ => True) imm imm' ok ok' w w' μ μ' h h' n n') (H : SR w imm ok μ h n s us) : SR w' imm' ok' μ' h' n' s us :=
  fun t => VR.mono kp _ _ (innOk_true _) (H t)

/-- A new region: a box, a made slice. -/
theorem OpOk.new (hs : Sim c σ a w) {x : TV} {v : Value} {reg : Reg} {m : Mu} {L : List Nat}
    (hst : stillB o.op = false) (hr : (execOp a.eval o).run c.P w = .ok (.value v) w') (hb : Below w.heap.size w w') (hn : L.Nodup) (hL : ∀ b ∈ L, w.heap.size ≤ b) (hput : sput c.m o.dst x σ.s = some s')
    (hR : ∀ μ, SR w c.imm c.ok μ σ.h σ.n σ.s a.tmps → HR w c.imm c.ok μ σ.h σ.n [] → Kept (fun _ => True) c.imm c.imm c.ok c.ok w w' μ (muP μ σ.n m) σ.h ((σ.n, reg) :: σ.h) σ.n (σ.n + 1) →
      RR w' c.imm c.ok (muP μ σ.n m) ((σ.n, reg) :: σ.h) (σ.n + 1) σ.n reg L ∧ VR w' c.imm c.ok (muP μ σ.n m) ((σ.n, reg) :: σ.h) (σ.n + 1) x v) :
    OpOk c o a w ⟨s', (σ.n, reg) :: σ.h, σ.n + 1⟩ := by
  have hlt := hs.lt
  have hnew := hs.new
  obtain ⟨h1, h2, h3, μ, hH, hl, hg⟩ := hs
  have kp0 := hH.kept_quiet hb hlt (Nat.le_refl _)
  have kp : Kept (fun _ => True) c.imm c.imm c.ok c.ok w w' μ (muP μ σ.n m) σ.h ((σ.n, reg) :: σ.h) σ.n (σ.n + 1) := Kept.cons kp0
  obtain ⟨hRR, hV⟩ := hR μ hl hH kp
  have hH1 : HR w' c.imm c.ok μ σ.h σ.n (L ++ []) := hH.fresh hb hlt hn hL (by simp)
  have hH2 := HR.attach (id := σ.n) (reg := reg) hH1 (Nat.le_refl _) (Nat.lt_succ_self _) (fun r hr => kp.mu r hr) hRR
  exact ⟨_, _, hr, fun e => (by rw [hst] at e; simp at e), .inl ⟨v, rfl, Sim.put (h1.below hb) h2 h3 hH2 (SR.mono kp hl) (vrl_gs kp c hg) hV hput⟩⟩

theorem okc_one {imm ok : Nat → Prop} {μ : Nat → Mu} {h : Heap} {n : Nat} {x : TV} {v : Value} (hx : okc x = true) (H : VR w imm ok μ h n x v) : v.oneCell' = true := by
  cases x with
  | p u => simp only [VR] at H; subst H; simpa [okc] using hx
  | tr t l => simp only [VR] at H; exact TRl.oneCell H v (by simp)
  | full r =>
    simp only [VR] at H
    obtain ⟨_, H⟩ := H
    split at H
    · obtain ⟨B, cap, rfl⟩ := H.len; rfl
    · obtain ⟨_, _, _, rfl⟩ := H; rfl
  | sub r off len =>
    simp only [VR] at H
    obtain ⟨_, H⟩ := H
    split at H
    · obtain ⟨B, cap, rfl⟩ := H.2.len; rfl
    · obtain ⟨_, _, _, rfl⟩ := H; rfl
  | inn r i off => simp only [VR] at H; exact H.2.1
  | ptr r i off => simp only [VR] at H; obtain ⟨_, A, rfl, _⟩ := H; rfl
  | iptr t l i off => simp only [VR] at H; obtain ⟨b, o, rfl, _⟩ := H; rfl
  | agg cs => simp [okc] at hx
  | tup cs => simp [okc] at hx
  | ifc t y => simp only [VR] at H; obtain ⟨u, rfl, _⟩ := H; rfl
  | fn f fi ca => simp only [VR] at H; obtain ⟨us, vs, rfl, _⟩ := H; rfl
  | mp r => simp [okc] at hx
  | undef => simp [okc] at hx
theorem okc_all {imm ok : Nat → Prop} {μ : Nat → Mu} {h : Heap} {n : Nat} : ∀ {cs : List TV} {us : List Value}, cs.all okc = true → VRl w imm ok μ h n cs us → ∀ u ∈ us, u.oneCell' = true
  | [], us, _, H, u, hu => by simp only [VRl] at H; subst H; simp at hu
  | c :: cs, us, ha, H, u, hu => by
    simp only [VRl] at H
    obtain ⟨u0, us', rfl, h1, h2⟩ := H
    simp only [List.all_cons, Bool.and_eq_true] at ha
    rcases List.mem_cons.1 hu with rfl | hu
    · exact okc_one ha.1 h1
    · exact okc_all ha.2 h2 u hu
theorem clist_vr {imm ok : Nat → Prop} {μ : Nat → Mu} {h : Heap} {n : Nat} {x : TV} {v : Value} (hok : (clist x).all okc = true) (H : VR w imm ok μ h n x v) : ∃ us, v.cells = us.toArray ∧ VRl w imm ok μ h n (clist x) us ∧ ∀ u ∈ us, u.oneCell' = true := by
  unfold clist at hok ⊢
  split at hok
  · simp only [VR] at H
    obtain ⟨us, rfl, hv⟩ := H
    exact ⟨us, rfl, hv, okc_all hok hv⟩
  · have h1 := okc_one (by simpa using hok) H
    refine ⟨[v], ?_, ?_, by simpa using h1⟩
    · cases v <;> first | rfl | simp [Value.oneCell'] at h1
    · simp only [VRl]; exact ⟨v, [], rfl, H, rfl⟩

theorem below_alloc (w : World) (o : Obj) : Below w.heap.size w (w.alloc o) := (Below.refl _ _).alloc (Nat.le_refl _) _
theorem Row.new (w : World) (c : Array Value) (t : TypeId) : Row (w.alloc (.cells c t)) w.heap.size c.size :=
  ⟨c, t, (0, 0), by show (w.heap.push _)[w.heap.size]? = _; simp, Nat.le_refl _, fun j _ => by simp⟩
theorem At.new (w : World) (c : Array Value) (t : TypeId) {us : List Value} {o : Nat} (h : ∀ (j : Nat) u, us[j]? = some u → c[o + j]? = some u) : At (w.alloc (.cells c t)) w.heap.size o us :=
  fun j u hj => by rw [World.cell?_alloc_new]; exact h j u hj

theorem ok_alloc (hs : Sim c σ a w) {t : TypeId} (ho : o.op = .alloc t) (hx : ex c.P o.op (ev σ.s) σ.h σ.n = some A) (hc : A.c = true) (hput : sput c.m o.dst A.v (ks A σ.s) = some s') : OpOk c o a w ⟨s', A.h, A.n⟩ := by
  rw [ho] at hx
  simp only [ex, Option.bind_eq_some_iff] at hx
  obtain ⟨z, hz, hx⟩ := hx
  obtain ⟨hzo, hx⟩ := cond_some.1 hx
  simp only [Option.some.injEq] at hx; subst hx
  obtain ⟨i, zv, hi, hzv, rfl⟩ := tz_some hz
  refine OpOk.new hs (hst := by simp [ho, stillB]) (v := .pointer (some ⟨w.heap.size, 0, none⟩)) (w' := w.alloc (.cells zv.cells t)) (m := ⟨w.heap.size, 0, true⟩) (L := [w.heap.size]) ?_ (below_alloc _ _) (by simp) (by simp) hput ?_
  · simp [execOp, ho, Instr.alloc, zeroValue, typeInfo, hi, hzv, newVar, newRow]
  · intro μ hl hH kp
    have hok : c.ok w.heap.size := hs.new _ (Nat.le_refl _)
    have hrow := Row.new w zv.cells t
    refine ⟨?_, ?_⟩
    · simp only [RR, muP, ↓reduceIte]
      refine ⟨trivial, hok, by simpa using hrow, zv.cells.toList, VRl.pmap _, At.new _ _ _ (fun j u hj => by simpa using hj)⟩
    · simp only [VR]
      refine ⟨by omega, _, rfl, ?_⟩
      simp [hget, muP]

theorem ok_box (hs : Sim c σ a w) {t : TypeId} {x : Operand} (ho : o.op = .box t x) (hx : ex c.P o.op (ev σ.s) σ.h σ.n = some A) (hc : A.c = true) (hput : sput c.m o.dst A.v (ks A σ.s) = some s') : OpOk c o a w ⟨s', A.h, A.n⟩ := by
  rw [ho] at hx
  simp only [ex] at hx
  obtain ⟨hzo, hx⟩ := cond_some.1 hx
  simp only [Option.some.injEq] at hx; subst hx
  refine OpOk.new hs (hst := by simp [ho, stillB]) (v := .pointer (some ⟨w.heap.size, 0, none⟩)) (w' := w.alloc (.cells (a.eval x).cells t)) (m := ⟨w.heap.size, 0, true⟩) (L := [w.heap.size]) ?_ (below_alloc _ _) (by simp) (by simp) hput ?_
  · simp [execOp, ho, Instr.box, newVar, newRow]
  · intro μ hl hH kp
    obtain ⟨us, hcells, hus, _⟩ := clist_vr hzo (hl.evl x)
    have hok : c.ok w.heap.size := hs.new _ (Nat.le_refl _)
    have hrow := Row.new w (a.eval x).cells t
    refine ⟨?_, ?_⟩
    · simp only [RR, muP, ↓reduceIte]
      refine ⟨trivial, hok, ?_, us, VRl.mono kp _ _ (innOkl_true _) hus, At.new _ _ _ (fun j u hj => by rw [hcells]; simpa using hj)⟩
      rw [hcells] at hrow ⊢
      simpa [hus.length] using hrow
    · simp only [VR]
      refine ⟨by omega, _, rfl, ?_⟩
      simp [hget, muP]

theorem fillS_ok {imm ok : Nat → Prop} {μ : Nat → Mu} {h : Heap} {n : Nat} {s : List (Nat × TV)} (hl : SR w imm ok μ h n s a.tmps) {pl : List (Nat × Nat)} {f : Nat → Option (Nat × Nat)} (hf : ∀ i q, pl[i]? = some q → f i = some q) :
    ∀ (parts : List (Nat × Operand)) (z cs : List TV) (us : List Value), VRl w imm ok μ h n z us → fillS pl (ev s) z parts = some cs →
    ∃ us', Instr.fill f us.toArray (parts.map fun q => (q.1, a.eval q.2)) = some us'.toArray ∧ VRl w imm ok μ h n cs us'
  | [], z, cs, us, hz, hob => ⟨us, by simp [Instr.fill], by simp only [fillS, Option.some.injEq] at hob; subst hob; exact hz⟩
  | (i, x) :: rest, z, cs, us, hz, hob => by
    simp only [fillS] at hob
    cases hp : pl[i]? with
    | none => simp [hp] at hob
    | some q =>
      obtain ⟨off, size⟩ := q
      simp only [hp] at hob
      obtain ⟨hb, hob⟩ := cond_some.1 hob
      simp only [Bool.and_eq_true] at hb
      obtain ⟨⟨h1, h2⟩, h3⟩ := hb
      have h1 : (clist (ev s x)).length = size := Nat.eq_of_beq_eq_true h1
      have h2 : off + size ≤ z.length := Nat.le_of_ble_eq_true h2
      obtain ⟨vs, hv, hvr, _⟩ := clist_vr h3 (hl.evl x)
      have l1 := hvr.length
      have l2 := hz.length
      have hz' : VRl w imm ok μ h n (spl z off (clist (ev s x))) (us.take off ++ vs ++ us.drop (off + vs.length)) := by
        unfold spl
        rw [← l1]
        exact VRl.append (VRl.append (hz.take off) hvr) (hz.drop _)
      obtain ⟨us', g1, g2⟩ := fillS_ok hl hf rest _ _ _ hz' hob
      refine ⟨us', ?_, g2⟩
      simp only [List.map_cons, Instr.fill, hf i _ hp]
      have hsz : (a.eval x).cells.size = size := by rw [hv]; simp; omega
      rw [if_neg (by rw [hsz]; simp; omega)]
      rw [← g1]
      congr 1
      exact fill_one us vs off _ hv (by omega)

theorem ok_build (hs : Sim c σ a w) {t : TypeId} {parts : Array (Nat × Operand)} (ho : o.op = .build t parts) (hx : ex c.P o.op (ev σ.s) σ.h σ.n = some A) (hc : A.c = true) (hput : sput c.m o.dst A.v (ks A σ.s) = some s') : OpOk c o a w ⟨s', A.h, A.n⟩ := by
  rw [ho] at hx
  simp only [ex, Option.bind_eq_some_iff, Option.map_eq_some_iff] at hx
  obtain ⟨z, hz, pl, hpl, cs, hfs, rfl⟩ := hx
  obtain ⟨_, _, _, μ, hH, hl, hg⟩ := id hs
  obtain ⟨i, zv, hi, hzv, rfl⟩ := tz_some hz
  obtain ⟨f, hf, hbuilt⟩ : ∃ f, (∀ i q, pl[i]? = some q → f i = some q) ∧ ∀ ps cells, Instr.fill f zv.cells ps = some cells → c.P.built t ps = some cells := by
    cases hu : c.P.underlying t with
    | none => simp [plc, hu] at hpl
    | some d =>
      cases d with
      | struct fs =>
        have hm := plc_struct hpl hu
        exact ⟨fun i => pl.toArray[i]?, fun i q h => by simpa using h, fun ps cells h => by unfold Program.built; simp only [hi, hu, hzv, hm]; exact h⟩
      | array n e =>
        obtain ⟨k, hk, rfl⟩ := plc_array hpl hu
        refine ⟨fun i => some (i * k.size, k.size), fun i q h => ?_, fun ps cells h => by unfold Program.built; simp only [hi, hu, hzv, hk]; exact h⟩
        rw [List.getElem?_map] at h
        cases hr : (List.range n)[i]? with
        | none => simp [hr] at h
        | some j =>
          have hin : i < n := by
            rcases Nat.lt_or_ge i n with h' | h'
            · exact h'
            · rw [List.getElem?_eq_none (by simpa using h')] at hr; simp at hr
          have : j = i := by
            have := List.getElem?_range (n := n) (i := i) hin
            rw [hr] at this; simpa using this
          subst this; simpa [hr] using h
      | _ => simp [plc, hu] at hpl
  obtain ⟨us', g1, g2⟩ := fillS_ok (SR.evl hl |> fun _ => hl) hf parts.toList (zv.cells.toList.map .p) _ zv.cells.toList (VRl.pmap _) hfs
  have e1 : (parts.map fun (q : Nat × Operand) => (q.1, a.eval q.2)).toList = parts.toList.map fun q => (q.1, a.eval q.2) := by simp
  have hb := fun w : World => run_build (P := c.P) w t (parts.map fun (q : Nat × Operand) => (q.1, a.eval q.2)) us'.toArray (hbuilt _ _ (by rw [e1]; simpa using g1))
  refine OpOk.quiet1 hs hH hl hg (v := .agg us'.toArray) (fun w1 hb1 => ?_) hput (by simp only [VR]; exact ⟨us', rfl, g2⟩)
  simp only [execOp, ho, Sem.run_bind]
  rw [show (Array.map (fun x => match x with | (i, x) => (i, a.eval x)) parts) = parts.map fun (q : Nat × Operand) => (q.1, a.eval q.2) from rfl, hb w1]
  simp

theorem ok_makeSlice (hs : Sim c σ a w) {t : TypeId} {l k : Operand} (ho : o.op = .makeSlice t l k) (hx : ex c.P o.op (ev σ.s) σ.h σ.n = some A) (hc : A.c = true) (hput : sput c.m o.dst A.v (ks A σ.s) = some s') : OpOk c o a w ⟨s', A.h, A.n⟩ := by
  rw [ho] at hx
  simp only [ex] at hx
  obtain ⟨_, _, _, μ, hH, hl, hg⟩ := id hs
  have hv1 := SR.evl hl l
  have hv2 := SR.evl hl k
  unfold makeS at hx
  split at hx
  · rename_i size bytes z et k1 x k2 y ht hel h1 h2
    simp only [Option.bind_eq_some_iff] at hx
    obtain ⟨d, hd, hx⟩ := hx
    obtain ⟨hb, hx⟩ := cond_some.1 hx
    simp only [Option.some.injEq] at hx; subst hx
    have hsz : sz et = size := Nat.eq_of_beq_eq_true hb
    simp only [Bool.and_eq_true, decide_eq_true_eq] at hc
    obtain ⟨⟨h0, hlc⟩, hbig⟩ := hc
    rw [h1] at hv1; rw [h2] at hv2
    obtain ⟨e, i, zv, hu, hi, hz, rfl, rfl, rfl, hzl, hs0, hb0, hzone⟩ := tsl_some ht
    have hy63 : y ≤ 2 ^ 40 := by
      have : (1 : Int) * y ≤ i.bytes * y := Int.mul_le_mul_of_nonneg_right (by omega) (by omega)
      omega
    have hr := run_make (P := c.P) w t e i zv hu hi hz k1 k2 x y h0 hlc (by omega) (by omega)
    have hle : x.toNat * i.size ≤ y.toNat * i.size := Nat.mul_le_mul_right _ (by omega)
    refine OpOk.new hs (hst := by simp [ho, stillB]) (v := .slice (some ⟨w.heap.size, 0, none⟩) x.toNat y.toNat) (m := ⟨w.heap.size, 0, true⟩) (L := [w.heap.size]) (w' := w.alloc (.cells (madeCells zv.cells (y.toNat * i.size)) e)) ?_ (below_alloc _ _) (by simp) (by simp) hput ?_
    · simp [execOp, ho, hv1.p_eq, hv2.p_eq, hr]
    · intro μ' hl' hH' kp
      have hok : c.ok w.heap.size := hs.new _ (Nat.le_refl _)
      have hrow := Row.new w (madeCells zv.cells (y.toNat * i.size)) e
      rw [size_madeCells] at hrow
      have hct : ∀ w', TRl w' (fun b => true = false ∧ c.imm b) c.ok et d zv.cells.toList [] := fun w' => CT.dec1 hd (CT.pmap _)
      have hsz' : zv.cells.size = i.size := by simpa using hzl
      refine ⟨?_, ?_⟩
      · simp only [RR, muP, ↓reduceIte]
        refine .inr ⟨trivial, [], rfl, hok, ?_, ?_⟩
        · simp only [List.length_replicate, Nat.zero_add, hsz]; exact hrow.le hle
        · -- the elements, one by one
          have : ∀ (q o : Nat), o + q * i.size ≤ y.toNat * i.size → o % i.size = 0 → RL (TRc (w.alloc (.cells (madeCells zv.cells (y.toNat * i.size)) e)) (immf true c.imm) c.ok et) (sz et) (List.replicate q d) w.heap.size o [] := by
            intro q
            induction q with
            | zero => intro o _ _; simp [RL]
            | succ q ih =>
              intro o ho hm
              simp only [List.replicate_succ, RL]
              have hsucc : o + i.size + q * i.size = o + (q + 1) * i.size := by rw [Nat.succ_mul]; omega
              refine ⟨[], [], rfl, ⟨zv.cells.toList, hct _, At.new _ _ _ (fun j u hj => ?_)⟩, by have := ih (o + i.size) (by omega) (by rw [Nat.add_mod_right]; exact hm); simp only [hsz] at this ⊢; exact this⟩
              have hjl : j < zv.cells.size := by
                rcases Nat.lt_or_ge j zv.cells.size with h | h
                · exact h
                · rw [List.getElem?_eq_none (by simpa using h)] at hj; simp at hj
              have hlt : o + j < y.toNat * i.size := by
                have : o + i.size ≤ o + (q + 1) * i.size := by rw [Nat.succ_mul]; omega
                omega
              have hmod : (o + j) % i.size = j := by
                rw [Nat.add_mod, hm, Nat.zero_add, Nat.mod_mod, Nat.mod_eq_of_lt (by omega)]
              have e2 : (madeCells zv.cells (y.toNat * i.size))[o + j]? = some (zv.cells[(o + j) % zv.cells.size]!) := by
                unfold madeCells
                simp [show o + j < y.toNat * i.size by omega]
              rw [e2, hsz', hmod]
              simp only [List.getElem?_eq_getElem (show j < zv.cells.toList.length by simpa using hjl), Option.some.injEq] at hj
              rw [← hj]; simp [hjl]
          exact this x.toNat 0 (by omega) (by simp)
      · simp only [VR, hget, muP, ↓reduceIte]
        refine ⟨by omega, .inr ⟨0, y.toNat, by simp, by simp; omega, rfl, hrow.le (Nat.zero_le _), fun _ => ⟨by simp, by simpa [hsz] using hrow⟩⟩⟩
  · simp at hx
end
end Go.Tw
