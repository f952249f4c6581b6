/- A step of the typed logic of this claim is proved here: what an operation does to the data that slots and memory stand for. -/
import Derived.Test.YtmjacadeccoclaaT15m
set_option linter.all false
namespace Go.Tw
open Go Go.RowKit

section
variable {w w' : World} {imm imm' ok ok' : Nat → Prop} {μ : Nat → Mu} {h : Heap} {n : Nat} {t : Ty}
theorem EL.split : ∀ {l m : List (den t)} {us : List Value} {L : List Nat}, EL w imm ok t (l ++ m) us L → ∃ u1 u2 L1 L2, us = u1 ++ u2 ∧ L = L1 ++ L2 ∧ EL w imm ok t l u1 L1 ∧ EL w imm ok t m u2 L2
  | [], m, us, L, H => ⟨[], us, [], L, rfl, rfl, ⟨rfl, rfl⟩, H⟩
  | x :: l, m, us, L, H => by
    obtain ⟨u1, u2, L1, L2, rfl, rfl, h1, h2⟩ := H
    obtain ⟨u3, u4, L3, L4, rfl, rfl, h3, h4⟩ := EL.split h2
    exact ⟨u1 ++ u3, u4, L1 ++ L3, L4, by simp, by simp, ⟨u1, u3, L1, L3, rfl, rfl, h1, h3⟩, h4⟩
theorem EL.rep {x : den t} {us : List Value} (h : TRl w imm ok t x us []) : ∀ k : Nat, EL w imm ok t (List.replicate k x) (List.replicate k us).flatten []
  | 0 => ⟨rfl, rfl⟩
  | k + 1 => ⟨us, _, [], [], by simp [List.replicate_succ], rfl, h, EL.rep h k⟩
theorem EL.put {l : List (den t)} {us vs : List Value} {L M : List Nat} {i : Nat} {y : den t} (hi : i < l.length) (H : EL w imm ok t l us L) (K : TRl w imm ok t y vs M) :
    ∃ u1 u2 u3 L1 L2 L3, us = u1 ++ (u2 ++ u3) ∧ L = L1 ++ (L2 ++ L3) ∧ u1.length = i * sz t ∧ u2.length = sz t ∧ EL w imm ok t (l.set i y) (u1 ++ (vs ++ u3)) (L1 ++ (M ++ L3)) := by
  have hl := split3 l (dflt t) i hi
  rw [hl] at H
  obtain ⟨u1, u4, L1, L4, rfl, rfl, h1, h2⟩ := EL.split H
  obtain ⟨u2, u3, L2, L3, rfl, rfl, h3, h4⟩ := EL.split h2
  obtain ⟨v1, v2, M1, M2, rfl, rfl, h5, rfl, rfl⟩ := h3
  refine ⟨u1, _, u3, L1, _, L3, rfl, rfl, ?_, by simpa using h5.length, ?_⟩
  · rw [h1.length]; congr 1; simp; omega
  · rw [set3 l y i hi]
    exact h1.app (EL.app (l := [y]) ⟨vs, [], M, [], by simp, by simp, K, rfl, rfl⟩ h4)
end

section
variable {c : Cx} {σ : St} {a : Act} {w w' : World} {A : Ans} {o : Oper} {s' : List (Nat × TV)}

theorem nodup_swap {D1 D2 D3 D4 : List Nat} (h : (D4 ++ (D1 ++ (D2 ++ D3))).Nodup) : (D1 ++ (D4 ++ D3)).Nodup := by
  simp only [List.nodup_append, List.mem_append] at h ⊢
  grind

theorem fillE_ok {imm ok : Nat → Prop} {μ : Nat → Mu} {n : Nat} {et : Ty} {s : List (Nat × TV)} : ∀ (parts : List (Nat × Operand)) (h : Heap) (f : Bool) (es es' : List (den et)) (us : List Value) (D : List Nat) (h' : Heap) (f' : Bool),
    SR w imm ok μ h n s a.tmps → HR w imm ok μ h n D → EL w (immf f imm) ok et es us D → fillE et (ev s) h f es parts = some (h', f', es') →
    ∃ us' D', Instr.fill (fun i => some (i * sz et, sz et)) us.toArray (parts.map fun q => (q.1, a.eval q.2)) = some us'.toArray ∧
      HR w imm ok μ h' n D' ∧ EL w (immf f' imm) ok et es' us' D' ∧ es'.length = es.length ∧ ∀ r x, hget h' r = some x → hget h r = some x
  | [], h, f, es, es', us, D, h', f', hl, H, hc, hob => by
    simp only [fillE, Option.some.injEq, Prod.mk.injEq] at hob
    obtain ⟨rfl, rfl, rfl⟩ := hob
    exact ⟨us, D, by simp [Instr.fill], H, hc, rfl, fun _ _ h => h⟩
  | (i, x) :: rest, h, f, es, es', us, D, h', f', hl, H, hc, hob => by
    simp only [fillE, Option.bind_eq_some_iff] at hob
    obtain ⟨⟨fs, f2, h1⟩, habs, y, hy, hob⟩ := hob
    obtain ⟨hb, hob⟩ := cond_some.1 hob
    simp only [Bool.and_eq_true] at hb
    obtain ⟨hb1, hb2⟩ := hb
    have hi : i < es.length := by simpa [Nat.blt_eq] using hb1
    obtain ⟨vs, hv, hvr, hvone⟩ := clist_vr hb2 (hl.evl x)
    obtain ⟨L, k1, k2, k3⟩ := absL_ok H hvr habs
    have hmf : ∀ b, immf f imm b → immf (f && f2) imm b := fun b hb => immf_mono (fun e => by simp [e]) hb
    have hm2 : ∀ b, immf f2 imm b → immf (f && f2) imm b := fun b hb => immf_mono (fun e => by simp [e]) hb
    have hty := (CT.dec1 hy k1)
    have hlv := hty.length
    obtain ⟨u1, u2, u3, L1, L2, L3, rfl, rfl, l1, l2, hput⟩ := EL.put hi (hc.mono hmf (fun _ h => h) (fun _ _ => rfl) (fun _ _ => rfl)) (hty.mono hm2 (fun _ h => h) (fun _ _ => rfl) (fun _ _ => rfl))
    have H2 : HR w imm ok μ h1 n (L1 ++ (L ++ L3)) := by
      obtain ⟨own, q1, q2, q3⟩ := k2
      exact ⟨own, q1, nodup_swap (D2 := L2) q2, fun b hb => q3 b (by simp only [List.mem_append] at hb ⊢; rcases hb with h | h | h <;> simp [h])⟩
    have hl2 : SR w imm ok μ h1 n s a.tmps := SR.mono (Kept.sub k3) hl
    obtain ⟨us', D', g1, g2, g3, g4, g5⟩ := fillE_ok rest _ _ _ _ _ _ _ _ hl2 H2 hput hob
    refine ⟨us', D', ?_, g2, g3, by simpa using g4, fun r x hx => k3 r x (g5 r x hx)⟩
    simp only [List.map_cons, Instr.fill]
    have hsz : (a.eval x).cells.size = sz et := by rw [hv]; simp; omega
    have hul : (u1 ++ (u2 ++ u3)).length = i * sz et + sz et + u3.length := by simp; omega
    rw [if_neg (by rw [hsz, List.size_toArray, hul]; simp)]
    rw [← g1]
    congr 1
    rw [fill_one (u1 ++ (u2 ++ u3)) vs (i * sz et) _ hv (by rw [hul]; omega)]
    congr 1
    rw [← l1, List.take_left]
    have : u1.length + vs.length = (u1 ++ u2).length := by simp; omega
    rw [this, ← List.append_assoc u1 u2, List.drop_left, List.append_assoc]

theorem ok_buildSlice (hs : Sim c σ a w) {t : TypeId} {len : Nat} {parts : Array (Nat × Operand)} (ho : o.op = .buildSlice t len parts) (hx : ex c.P o.op (ev σ.s) σ.h σ.n = some A) (hc : A.c = true) (hput : sput c.m o.dst A.v (ks A σ.s) = some s') : OpOk c o a w ⟨s', A.h, A.n⟩ := by
  have hlt := hs.lt
  obtain ⟨hfr, hd, hsz, μ, hH, hl, hgs⟩ := id hs
  rw [ho] at hx
  simp only [ex] at hx
  split at hx
  · rename_i size bytes z et ht hel
    obtain ⟨hb, hx⟩ := cond_some.1 hx
    simp only [Bool.and_eq_true] at hb
    have hsz : sz et = size := Nat.eq_of_beq_eq_true hb.1
    have h24' : len * size ≤ 16777216 := Nat.le_of_ble_eq_true hb.2
    simp only [Option.bind_eq_some_iff, Option.map_eq_some_iff] at hx
    obtain ⟨d, hdz, ⟨h1, f1, es⟩, hfill, rfl⟩ := hx
    obtain ⟨e, i, zv, hu, hi, hz, rfl, rfl, rfl, hzl, hs0, hb0, hzone⟩ := tsl_some ht
    have hzt : TRl w (immf true c.imm) c.ok et d zv.cells.toList [] := CT.dec1 hdz (CT.pmap _)
    obtain ⟨us', D', g1, g2, g3, g4, g5⟩ := fillE_ok (a := a) parts.toList σ.h true _ _ _ [] _ _ hl hH (EL.rep hzt len) hfill
    rw [hsz] at g1
    have hcells : ((Array.range (len * i.size)).map ((if len * i.size = 0 then (#[] : Array Value) else zv.cells)[· % (if len * i.size = 0 then (#[] : Array Value) else zv.cells).size]!)) = (List.replicate len zv.cells.toList).flatten.toArray := by
      have hln : (List.replicate len zv.cells.toList).flatten.length = len * i.size := by
        rw [List.length_flatten, List.map_replicate, List.sum_replicate_nat, hzl]
      apply Array.ext'
      apply List.ext_getElem?
      intro j
      by_cases hj : j < len * i.size
      · have hne : len * i.size ≠ 0 := by omega
        have hzsz : zv.cells.size = i.size := by simpa using hzl
        have := rep_flat_get zv.cells.toList (by omega) len j (by rw [hzl]; exact hj)
        simp only [List.toList_toArray, this, hzl]
        have hm : j % i.size < zv.cells.size := by rw [hzsz]; exact Nat.mod_lt _ (by omega)
        simp only [hne, ↓reduceIte, Array.getElem?_toList, hzsz]
        rw [Array.getElem?_map, Array.getElem?_range, if_pos hj, Option.map_some, getElem!_pos zv.cells _ hm, Array.getElem?_eq_getElem hm]
      · rw [List.getElem?_eq_none (by simp; omega), List.getElem?_eq_none (by simp only [List.toList_toArray, hln]; omega)]
    have hlen : es.length = len := by simpa using g4
    have hus : us'.length = len * i.size := by rw [g3.length, hlen, hsz]
    have hrun : (execOp a.eval o).run c.P w = .ok (.value (.slice (some ⟨w.heap.size, 0, none⟩) es.length len)) (w.alloc (.cells us'.toArray e)) := by
      rw [hlen]
      have e1 : (parts.map fun (q : Nat × Operand) => (q.1, a.eval q.2)).toList = parts.toList.map fun q => (q.1, a.eval q.2) := by simp
      simp only [execOp, ho, Instr.buildSlice]
      rw [show (Array.map (fun x => match x with | (i, x) => (i, a.eval x)) parts) = parts.map fun (q : Nat × Operand) => (q.1, a.eval q.2) from rfl, e1]
      simp only [Sem.run_bind, run_underlying hu, Result.andThen_ok]
      have hs : (sizeOf e).run c.P w = .ok i.size w := by simp [sizeOf, typeInfo, hi]
      have hzv : (zeroValue e).run c.P w = .ok zv w := by simp [zeroValue, typeInfo, hi, hz]
      have h24 : ¬ (len * i.size > 2 ^ 24) := by omega
      by_cases h0 : len * i.size = 0
      · have hc0 : (Array.range (len * i.size)).map ((#[] : Array Value)[· % (#[] : Array Value).size]!) = (List.replicate len zv.cells.toList).flatten.toArray := by
          rw [← hcells]; simp only [h0, ↓reduceIte]
        rw [h0] at hc0
        simp only [hs, Result.andThen_ok, show ¬ ((0 : Nat) > 2 ^ 24) from by omega, ↓reduceIte, h0, Sem.run_bind, Sem.run_pure, hc0, g1, newRow, Sem.run_bind, run_newObj, Result.andThen_ok, Sem.run_pure, World.alloc_eq]
      · have hc0 : (Array.range (len * i.size)).map (zv.cells[· % zv.cells.size]!) = (List.replicate len zv.cells.toList).flatten.toArray := by
          rw [← hcells]; simp only [h0, ↓reduceIte]
        simp only [hs, Result.andThen_ok, h24, ↓reduceIte, h0, Sem.run_bind, Sem.run_pure, hzv, hc0, g1, newRow, run_newObj, World.alloc_eq]
    refine app_new hs (by simp [ho, stillB]) (fr := f1) (cap := len) (w1 := w) (Below.refl _ _) rfl g2 (SR.mono (Kept.sub g5) hl) (vrl_gs (Kept.sub g5) c hgs) g3 (fun j u hj => by simpa using hj) (by simp [hus, hsz]) (Nat.le_of_eq hlen) hrun hput
  · simp at hx

theorem ok_field (hs : Sim c σ a w) {t : TypeId} {x : Operand} {f : Nat} (ho : o.op = .field t x f) (hx : ex c.P o.op (ev σ.s) σ.h σ.n = some A) (hc : A.c = true) (hput : sput c.m o.dst A.v (ks A σ.s) = some s') : OpOk c o a w ⟨s', A.h, A.n⟩ := by
  rw [ho] at hx; simp only [ex, Option.map_eq_some_iff] at hx
  obtain ⟨v, hv, rfl⟩ := hx
  unfold fieldS at hv
  split at hv
  · rename_i fs hu
    simp only [Option.bind_eq_some_iff] at hv
    obtain ⟨d, hd, ⟨g, m⟩, hav, hv⟩ := hv
    split at hv
    · rename_i cs hq
      obtain ⟨hb, hv⟩ := cond_some.1 hv
      simp only [Option.some.injEq] at hv; subst hv
      simp only [Bool.and_eq_true, Bool.or_eq_true] at hb
      obtain ⟨hgm, hle⟩ := hb
      have hgm' : g = true ∨ m = 1 := hgm.imp id Nat.eq_of_beq_eq_true
      have hle := Nat.le_of_ble_eq_true hle
      obtain ⟨_, _, _, μ, hH, hl, hg⟩ := id hs
      have hvx := SR.evl hl x
      rw [hq] at hvx
      simp only [VR] at hvx
      obtain ⟨us, he, hus⟩ := hvx
      have hlen : d.offset + m ≤ us.length := by rw [← hus.length]; exact hle
      refine OpOk.quiet hs (v := valOf g ((us.drop d.offset).take m)) (fun w1 hb1 => ?_) hput (fun μ' hl' _ => ?_)
      · have hp := run_part (P := c.P) (w := w1) hav hlen hgm'
        simp [execOp, ho, Instr.field, underlying, hu, hd, he, asAgg, hp]
      · have hv' := SR.evl hl' x
        rw [hq, he] at hv'
        simp only [VR] at hv'
        obtain ⟨us', he', hus'⟩ := hv'
        simp only [Value.agg.injEq] at he'
        have e2 : us' = us := by simpa using he'.symm
        subst e2
        exact pack_vr ((hus'.drop _).take _)
    · simp at hv
  · simp at hv
theorem mm_run {P : Program} {g : Int → Int → Int} {f : Value → Value → Sem Value} (hf : ∀ (k k' : IntKind) (a b : Int) (w : World), (f (.int k a) (.int k' b)).run P w = .ok (.int k (g a b)) w) {imm ok : Nat → Prop} {μ : Nat → Mu} {h : Heap} {n : Nat} {w0 : World} :
    ∀ (xs : List TV) (us : List Value) (k : IntKind) (a : Int) (v : TV), mmS g (.p (.int k a)) xs = some v → VRl w0 imm ok μ h n xs us → ∃ u, v = .p u ∧ ∀ w : World, (us.foldlM f (.int k a)).run P w = .ok u w
  | [], us, k, a, v, H, hx => by
    simp only [mmS, Option.some.injEq] at H
    simp only [VRl] at hx
    subst hx
    exact ⟨_, H.symm, fun w => by simp⟩
  | x :: xs, us, k, a, v, H, hx => by
    simp only [VRl] at hx
    obtain ⟨u, us', rfl, h1, h2⟩ := hx
    unfold mmS at H
    split at H
    · rename_i e; cases e
    · rename_i e1 e2
      cases e1
      simp only [List.cons.injEq] at e2
      obtain ⟨rfl, rfl⟩ := e2
      rw [h1.p_eq]
      obtain ⟨u2, g1, g2⟩ := mm_run hf xs us' _ _ v H h2
      exact ⟨u2, g1, fun w => by simp [List.foldlM_cons, hf, g2]⟩
    · simp at H
theorem ok_mm (hs : Sim c σ a w) {cl : Call} {x : Operand} {xs : List Operand} {g : Int → Int → Int} {f : Value → Value → Sem Value} (hf : ∀ (k k' : IntKind) (a b : Int) (w : World), (f (.int k a) (.int k' b)).run c.P w = .ok (.int k (g a b)) w) (hargs : cl.args.toList = x :: xs)
    (hrun : ∀ (v : Value) (w1 : World), (((xs.map a.eval).foldlM f (a.eval x)) : Sem Value).run c.P w1 = .ok v w1 → (execOp a.eval o).run c.P w1 = .ok (.value v) w1) {v : TV} (hi : isInt (ev σ.s x) = true) (hv : mmS g (ev σ.s x) (xs.map (ev σ.s)) = some v) (hput : sput c.m o.dst v σ.s = some s') : OpOk c o a w ⟨s', σ.h, σ.n⟩ := by
  obtain ⟨_, _, _, μ, hH, hl, hg⟩ := id hs
  have hx := SR.evl hl x
  unfold isInt at hi
  split at hi
  · rename_i k m hq
    rw [hq] at hx hv
    obtain ⟨u, rfl, hu⟩ := mm_run hf _ _ _ _ _ hv (SR.map hl xs)
    exact OpOk.quiet hs (v := u) (fun w1 _ => hrun u w1 (by rw [hx.p_eq]; exact hu w1)) hput (fun _ _ _ => by simp [VR])
  · simp at hi
theorem args_map {cl : Call} {x : Operand} {xs : List Operand} {e : Operand → Value} (hargs : cl.args.toList = x :: xs) : (cl.args.map e).toList = e x :: xs.map e := by simp [hargs]

theorem ex_ok (hs : Sim c σ a w) (o : Oper) (hx : ex c.P o.op (ev σ.s) σ.h σ.n = some A) (hc : A.c = true) (hput : sput c.m o.dst A.v (ks A σ.s) = some s') : OpOk c o a w ⟨s', A.h, A.n⟩ := by
  cases ho : o.op with
  | move x =>
    rw [ho] at hx; simp only [ex, Option.some.injEq] at hx; subst hx
    exact ok_move hs (.inl ho) hput
  | assign x =>
    rw [ho] at hx; simp only [ex, Option.some.injEq] at hx; subst hx
    exact ok_move hs (.inr ho) hput
  | pick k x y =>
    rw [ho] at hx; simp only [ex] at hx
    obtain ⟨_, _, _, μ, hH, hl, hg⟩ := id hs
    have hk := SR.evl hl k
    split at hx
    · rename_i hq
      simp only [Option.some.injEq] at hx; subst hx
      rw [hq] at hk
      exact OpOk.quiet hs (v := a.eval x) (fun w1 hb1 => by simp [execOp, ho, hk.p_eq, asBool]) hput fun μ hl _ => hl.evl x
    · rename_i hq
      simp only [Option.some.injEq] at hx; subst hx
      rw [hq] at hk
      exact OpOk.quiet hs (v := a.eval y) (fun w1 hb1 => by simp [execOp, ho, hk.p_eq, asBool]) hput fun μ hl _ => hl.evl y
    · simp at hx
  | alloc t => exact ok_alloc hs ho hx hc hput
  | box t x => exact ok_box hs ho hx hc hput
  | build t parts => exact ok_build hs ho hx hc hput
  | buildSlice t len parts => exact ok_buildSlice hs ho hx hc hput
  | load t x => exact ok_load hs ho hx hc hput
  | store t x y => exact ok_store hs ho hx hc hput
  | nilCheck x => exact ok_nilCheck hs ho hx hc hput
  | binOp op t x y t' => exact ok_binOp hs ho hx hc hput
  | unOp op t x => exact ok_unop hs ho hx hc hput
  | convert s d x => exact ok_convert hs ho hx hc hput
  | makeInterface t x => exact ok_makeInterface hs ho hx hc hput
  | makeFunc fn first cap => exact ok_makeFunc hs ho hx hc hput
  | makeSlice t l k => exact ok_makeSlice hs ho hx hc hput
  | slice t x lo hi mx => exact ok_slice hs ho hx hc hput
  | fieldAddr s x f => exact ok_fieldAddr hs ho hx hc hput
  | indexAddr t x i => exact ok_indexAddr hs ho hx hc hput
  | index t x i => exact ok_index hs ho hx hc hput
  | extract x i => exact ok_extract hs ho hx hc hput
  | call cl =>
    have hx' := hx
    rw [ho] at hx'; simp only [ex] at hx'
    split at hx'
    · rename_i hcl; exact ok_len hs ho hcl hx hc hput
    · rename_i hcl; exact ok_append hs ho hcl hx hc hput
    · rename_i hcl
      split at hx'
      · rename_i x xs hargs
        obtain ⟨hi, hx'⟩ := cond_some.1 hx'
        simp only [Option.map_eq_some_iff] at hx'
        obtain ⟨v, hv, rfl⟩ := hx'
        refine ok_mm (f := Builtin.max2) hs (fun k k' a b w => by simp only [Builtin.max2, Sem.run_pure, imax]) hargs (fun v w1 h => ?_) hi hv hput
        simp [execOp, ho, resolve, hcl, invoke, builtin, Builtin.max_, hargs, h]
      · simp at hx'
    · rename_i hcl
      split at hx'
      · rename_i x xs hargs
        obtain ⟨hi, hx'⟩ := cond_some.1 hx'
        simp only [Option.map_eq_some_iff] at hx'
        obtain ⟨v, hv, rfl⟩ := hx'
        refine ok_mm (f := Builtin.min2) hs (fun k k' a b w => by simp only [Builtin.min2, Sem.run_pure, imin]) hargs (fun v w1 h => ?_) hi hv hput
        simp [execOp, ho, resolve, hcl, invoke, builtin, Builtin.min_, hargs, h]
      · simp at hx'
    · rename_i hcl
      split at hx'
      · rename_i x e hargs hd
        split at hx'
        · rename_i hq
          simp only [Option.some.injEq] at hx'; subst hx'
          obtain ⟨_, _, _, μ, hH, hl, hg⟩ := id hs
          have hv := SR.evl hl x
          rw [hq] at hv
          cases ht : cl.argTypes[0]? with
          | none => simp [ht] at hd
          | some t =>
            simp only [ht, Option.bind_some] at hd
            have hargs' : (cl.args.map a.eval)[0]? = some (a.eval x) := by
              have : cl.args = [x].toArray := by rw [← hargs]
              rw [this]; simp
            exact OpOk.quiet hs (v := .int .i64 0) (fun w1 _ => by simp [execOp, ho, resolve, hcl, invoke, builtin, Builtin.cap_, ht, hargs', underlying, hd, hv.p_eq, goInt]) hput (fun _ _ _ => by simp [VR])
        · simp at hx'
      · simp at hx'
    · simp at hx'
  | field t x f => exact ok_field hs ho hx hc hput
  | makeMap t r => exact ok_makeMap hs ho hx hc hput
  | lookup t x y q => exact ok_lookup hs ho hx hc hput
  | mapUpdate t x y z => exact ok_mapUpdate hs ho hx hc hput
  | _ => rw [ho] at hx; simp [ex] at hx
end
end Go.Tw
