/- A step of the typed logic of this claim is proved here: what an operation does to the data that slots and memory stand for. -/
import Derived.Test.YtmjacadeccoclaaT15
import Derived.MapFrom
set_option linter.all false
namespace Go.Tw
open Go Go.RowKit Go.MapKept

theorem mpT_some {P : Program} {t : TypeId} {k : IntKind} (h : mpT P t = some k) : ∃ kt et, P.underlying t = some (.map kt et) ∧ P.underlying kt = some (.int k) ∧ P.underlying et = some .bool ∧ (P.info? et).bind (·.zero) = some (.bool false) := by
  unfold mpT at h
  split at h
  · rename_i kt et h1
    split at h
    · rename_i k' h2 h3 h4
      simp only [Option.some.injEq] at h; subst h
      exact ⟨kt, et, h1, h2, h3, h4⟩
    · simp at h
  · simp at h

/-- where the key is -/
def fnd : List (Int × Bool) → Int → Nat → Option (Nat × Value)
  | [], _, _ => none
  | p :: l, a, i => if a = p.1 then some (i, .bool p.2) else fnd l a (i + 1)
abbrev kv (k : IntKind) (p : Int × Bool) : Value × Value := (.int k p.1, .bool p.2)
theorem findNow_l {k : IntKind} {a : Int} : ∀ {L : List MapEntry} {l : List (Int × Bool)} (i : Nat), L.map (fun e => (e.key, e.val)) = l.map (kv k) → Instr.findNow (.int k) (.int k a) L i = some (fnd l a i)
  | [], [], i, _ => rfl
  | [], _ :: _, i, h => by simp at h
  | _ :: _, [], i, h => by simp at h
  | e :: L, p :: l, i, h => by
    simp only [List.map_cons, List.cons.injEq, Prod.mk.injEq] at h
    obtain ⟨⟨h1, h2⟩, h3⟩ := h
    simp only [Instr.findNow, h1, Instr.sameNow, ↓reduceIte, fnd, h2]
    by_cases hq : a = p.1
    · simp [hq]
    · simp only [hq, ↓reduceIte]
      rw [show (a == p.1) = false by simpa using hq]
      exact findNow_l (i + 1) h3
theorem fnd_none : ∀ {l : List (Int × Bool)} {a : Int} {i : Nat} (b : Bool), fnd l a i = none → mget l a = false ∧ mset l a b = l ++ [(a, b)]
  | [], a, i, b, _ => ⟨rfl, rfl⟩
  | p :: l, a, i, b, h => by
    simp only [fnd] at h
    split at h
    · simp at h
    · rename_i hq
      obtain ⟨h1, h2⟩ := fnd_none b h
      simp [mget, mset, hq, h1, h2]
theorem fnd_some : ∀ {l : List (Int × Bool)} {a : Int} {i j : Nat} {v : Value} (b : Bool), fnd l a i = some (j, v) → v = .bool (mget l a) ∧ ∃ j', j = i + j' ∧ j' < l.length ∧ (∃ q, l[j']? = some (a, q)) ∧ mset l a b = l.set j' (a, b)
  | [], a, i, j, v, b, h => by simp [fnd] at h
  | p :: l, a, i, j, v, b, h => by
    simp only [fnd] at h
    split at h
    · rename_i hq
      simp only [Option.some.injEq, Prod.mk.injEq] at h
      obtain ⟨rfl, rfl⟩ := h
      refine ⟨by simp [mget, hq], 0, rfl, by simp, ⟨p.2, by simp [hq]⟩, by simp [mset, hq]⟩
    · rename_i hq
      obtain ⟨h1, j', h2, h3, ⟨q, h4⟩, h5⟩ := fnd_some b h
      refine ⟨by simp [mget, hq, h1], j' + 1, by omega, by simp; omega, ⟨q, by simpa using h4⟩, by simp [mset, hq, h5]⟩

theorem run_lookup_map {P : Program} {w : World} {t : TypeId} {k : IntKind} {b : Nat} {l : List (Int × Bool)} {a : Int} (h : mpT P t = some k) (hm : MapAt w b k l) :
    (Instr.lookup t (.map (some b)) (.int k a) false).run P w = .ok (.bool (mget l a)) w := by
  obtain ⟨kt, et, h1, h2, h3, h4⟩ := mpT_some h
  obtain ⟨es, cl, hb, hes⟩ := hm
  obtain ⟨i, hi, hzv⟩ := Option.bind_eq_some_iff.1 h4
  have hk : IsKey (.int k) (.int k a) := by simp [IsKey]
  have hf := findNow_l (a := a) 0 hes
  cases hfd : fnd l a 0 with
  | none =>
    rw [hfd] at hf
    obtain ⟨e1, _⟩ := fnd_none true hfd
    simp [Instr.lookup, run_underlying h1, MapKept.run_getObj_map hb, run_checkKey h2 hk, run_findKey h2 hf, Result.andThen, zeroValue, typeInfo, hi, hzv, e1]
  | some q =>
    obtain ⟨j, v⟩ := q
    rw [hfd] at hf
    obtain ⟨e1, _⟩ := fnd_some true hfd
    simp [Instr.lookup, run_underlying h1, MapKept.run_getObj_map hb, run_checkKey h2 hk, run_findKey h2 hf, Result.andThen, e1]

theorem run_update_map {P : Program} {w : World} {t : TypeId} {k : IntKind} {b : Nat} {l : List (Int × Bool)} {a : Int} {q : Bool} (h : mpT P t = some k) (hm : MapAt w b k l) :
    ∃ o, (Instr.mapUpdate t (.map (some b)) (.int k a) (.bool q)).run P w = .ok () { w with heap := w.heap.setIfInBounds b o } ∧ MapAt { w with heap := w.heap.setIfInBounds b o } b k (mset l a q) := by
  obtain ⟨kt, et, h1, h2, h3, h4⟩ := mpT_some h
  obtain ⟨es, cl, hb, hes⟩ := hm
  have hk : IsKey (.int k) (.int k a) := by simp [IsKey]
  have hf := findNow_l (a := a) 0 hes
  cases hfd : fnd l a 0 with
  | none =>
    rw [hfd] at hf
    obtain ⟨_, e1⟩ := fnd_none q hfd
    refine ⟨.map (es.push { key := .int k a, val := .bool q, born := cl }) (cl + 1), ?_, _, _, (heap_set hb).1, ?_⟩
    · simp [Instr.mapUpdate, run_underlying h1, MapKept.run_getObj_map hb, run_checkKey h2 hk, run_findKey h2 hf, MapKept.run_setObj_map _ hb, Result.andThen]
    · rw [e1, Array.toList_push, List.map_append, hes]; simp
  | some p =>
    obtain ⟨j, v⟩ := p
    rw [hfd] at hf
    obtain ⟨_, j', hj', hlt, ⟨q0, h5⟩, e1⟩ := fnd_some q hfd
    have hj0 : j = j' := by omega
    subst hj0
    have hel : (es.toList.map (fun e => (e.key, e.val)))[j]? = some (.int k a, .bool q0) := by rw [hes]; simp [h5]
    rw [List.getElem?_map, Option.map_eq_some_iff] at hel
    obtain ⟨e, he, hee⟩ := hel
    have he2 : es[j]? = some e := by simpa using he
    simp only [Prod.mk.injEq] at hee
    refine ⟨.map (es.modify j fun e => { e with key := .int k a, val := .bool q }) cl, ?_, _, _, (heap_set hb).1, ?_⟩
    · simp [Instr.mapUpdate, run_underlying h1, MapKept.run_getObj_map hb, run_checkKey h2 hk, run_findKey h2 hf, he2, hee.1, run_keyThatStays hk, MapKept.run_setObj_map _ hb, Result.andThen]
    · rw [e1]
      apply List.ext_getElem?
      intro i
      have hi := congrArg (fun z => z[i]?) hes
      simp only [List.getElem?_map, Array.getElem?_toList, List.getElem?_set] at hi ⊢
      rw [Array.getElem?_modify]
      by_cases hij : j = i
      · subst hij; simp [he2, hlt]
      · simp only [hij, ↓reduceIte]; exact hi

section
variable {c : Cx} {σ : St} {a : Act} {w w' : World} {A : Ans} {o : Oper} {s' : List (Nat × TV)}
theorem ok_makeMap (hs : Sim c σ a w) {t : TypeId} {r : Option Operand} (ho : o.op = .makeMap t r) (hx : ex c.P o.op (ev σ.s) σ.h σ.n = some A) (hc : A.c = true) (hput : sput c.m o.dst A.v (ks A σ.s) = some s') : OpOk c o a w ⟨s', A.h, A.n⟩ := by
  rw [ho] at hx
  simp only [ex, Option.bind_eq_some_iff] at hx
  obtain ⟨k, hk, hx⟩ := hx
  obtain ⟨hr, hx⟩ := cond_some.1 hx
  simp only [Option.some.injEq] at hx; subst hx
  cases r with
  | some r => simp at hr
  | none =>
  refine OpOk.new hs (hst := by simp [ho, stillB]) (v := .map (some w.heap.size)) (w' := w.alloc (.map #[] 0)) (m := ⟨w.heap.size, 0, true⟩) (L := [w.heap.size]) ?_ (below_alloc _ _) (by simp) (by simp) hput ?_
  · have : (Instr.makeMap t none).run c.P w = .ok (.map (some w.heap.size)) (w.alloc (.map #[] 0)) := by simp [Instr.makeMap]
    simp [execOp, ho, this]
  · intro μ hl hH kp
    have hok : c.ok w.heap.size := hs.new _ (Nat.le_refl _)
    refine ⟨?_, ?_⟩
    · simp only [RR, muP, ↓reduceIte]
      exact ⟨trivial, hok, #[], 0, (heap_alloc w _).1, rfl⟩
    · simp only [VR]
      refine ⟨by omega, _, rfl, ?_⟩
      simp [hget, muP]
theorem ok_lookup (hs : Sim c σ a w) {t : TypeId} {x y : Operand} {q : Bool} (ho : o.op = .lookup t x y q) (hx : ex c.P o.op (ev σ.s) σ.h σ.n = some A) (hc : A.c = true) (hput : sput c.m o.dst A.v (ks A σ.s) = some s') : OpOk c o a w ⟨s', A.h, A.n⟩ := by
  rw [ho] at hx
  simp only [ex] at hx
  cases q with
  | true => simp at hx
  | false =>
  simp only [cond_false] at hx
  obtain ⟨hfr, hd, hsz, μ, hH, hl, hgs⟩ := id hs
  have hv := SR.evl hl x
  have hy := SR.evl hl y
  unfold lookupS at hx
  split at hx
  · rename_i k r k' i hk e1 e2
    split at hx
    · rename_i k2 l hg
      split at hx
      · rename_i hkk
        obtain ⟨rfl, rfl⟩ := hkk
        simp only [Option.some.injEq] at hx; subst hx
        rw [e1] at hv; rw [e2] at hy
        simp only [VR, hg] at hv
        obtain ⟨_, b, e3, rfl⟩ := hv
        obtain ⟨L, hR⟩ := hH.row hg
        simp only [RR] at hR
        obtain ⟨_, _, hm⟩ := hR
        refine OpOk.quiet hs (v := .bool (mget l i)) (fun w1 hb1 => ?_) hput (fun _ _ _ => by simp [VR])
        have hm1 : MapAt w1 (μ r).blk _ l := hm.same (hb1.block _ hm.lt)
        simp [execOp, ho, e3, hy.p_eq, run_lookup_map hk hm1]
      · simp at hx
    · simp at hx
  · simp at hx
theorem ok_mapUpdate (hs : Sim c σ a w) {t : TypeId} {x y z : Operand} (ho : o.op = .mapUpdate t x y z) (hx : ex c.P o.op (ev σ.s) σ.h σ.n = some A) (hc : A.c = true) (hput : sput c.m o.dst A.v (ks A σ.s) = some s') : OpOk c o a w ⟨s', A.h, A.n⟩ := by
  rw [ho] at hx
  simp only [ex] at hx
  have hlt := hs.lt
  obtain ⟨hfr, hd, hsz, μ, hH, hl, hgs⟩ := id hs
  have hio : ∀ b, c.imm b → ¬ c.ok b := c.immok
  have hv := SR.evl hl x
  have hy := SR.evl hl y
  have hz := SR.evl hl z
  unfold mapSetS at hx
  split at hx
  · rename_i k r k' i b hk e1 e2 e3
    split at hx
    · rename_i k2 l hg
      split at hx
      · rename_i hkk
        obtain ⟨rfl, rfl⟩ := hkk
        simp only [Option.some.injEq] at hx; subst hx
        rw [e1] at hv; rw [e2] at hy; rw [e3] at hz
        simp only [VR, hg] at hv
        obtain ⟨_, bb, e4, rfl⟩ := hv
        obtain ⟨L0, hR⟩ := hH.row hg
        simp only [RR] at hR
        obtain ⟨_, hok, hm⟩ := hR
        obtain ⟨ob, hrun, hm'⟩ := run_update_map (a := i) (q := b) hk hm
        have hoth : ∀ b', b' ≠ (μ r).blk → ({ w with heap := w.heap.setIfInBounds (μ r).blk ob } : World).heap[b']? = w.heap[b']? := fun b' hne => by
          show (w.heap.setIfInBounds (μ r).blk ob)[b']? = _
          simp [Ne.symm hne]
        obtain ⟨es, cl, hbm, _⟩ := hm
        have hstep : Step c.imm w { w with heap := w.heap.setIfInBounds (μ r).blk ob } := ⟨fun b' hb => hoth b' (fun e => hio _ hb (by rw [e]; exact hok)), fun b' m hr => hr.same (hoth b' (fun e => by
          obtain ⟨cs, tt, ff, hc1, _⟩ := hr
          rw [e, hbm] at hc1
          simp at hc1))⟩
        obtain ⟨hH', kp⟩ := HR.write (D1 := []) (D := []) (x' := .mp k2 (mset l i b)) (K := fun _ => True) hH hg (by simp [Fit]) hstep hoth
          (fun L hR => by simp only [RR] at hR; rw [hR.1]; simp) (fun fr t l _ e => by cases e) (fun _ _ _ _ => innOkl_true _) (by
            intro L kp hR hn _ _
            simp only [RR] at hR ⊢
            obtain ⟨rfl, p1, p2⟩ := hR
            exact ⟨_, ⟨rfl, p1, hm'⟩, hn, by simp⟩)
        refine ⟨.skip, { w with heap := w.heap.setIfInBounds (μ r).blk ob }, ?_, fun e => (by simp [ho, stillB] at e), .inr ⟨rfl, Sim.skip ⟨hfr.os, hfr.tape, hfr.output, ?_, ?_, ?_⟩ hd hsz hH' (SR.mono kp hl) (vrl_gs kp c hgs) hput⟩⟩
        · simp [execOp, ho, e4, hy.p_eq, hz.p_eq, hrun]
        · have := hfr.size; simpa using this
        · intro b' hb' hn
          exact (hoth b' (fun e => hn (by rw [e]; exact hok))).trans (hfr.block b' hb' hn)
        · exact fun b' m hr => hstep.row b' m (hfr.row b' m hr)
      · simp at hx
    · simp at hx
  · simp at hx
end
end Go.Tw
