/- The logic: a step. -/
import Derived.Test.YtemcbhjheebnnaaGreatT3
import Derived.Laws.Strings
import Derived.Laws.Append
import Derived.Laws.AppendOwn
import Derived.MapFrom
set_option linter.all false
namespace Go.Tw
open Go Go.RowKit
variable [k7]
theorem pS (x : ByteArray) : x.toList = x.data.toList := by
  exact ByteArray.toList_eq x
theorem Hi (x y : Array UInt8) : (x == y) = decide (x = y) := by rw [Bool.eq_iff_iff]; simp
theorem iK {P : Program} {t : TypeId} {sz by_ : Nat} {z : List Value} (h : tsl P t = some (sz, by_, z)) :
    ∃ e i zv, P.underlying t = some (.slice e) ∧ P.info? e = some i ∧ i.zero = some zv ∧ zv.cells.toList = z ∧ i.size = sz ∧ i.bytes = by_ ∧ z.length = sz ∧ sz ≠ 0 ∧ by_ ≠ 0 ∧ z.all Value.oneCell' = true := by
  unfold tsl at h
  split at h
  · rename_i e he
    cases hi : P.info? e with
    | none => simp [hi] at h
    | some i =>
      cases hz : i.zero with
      | none => simp [hi, hz] at h
      | some zv =>
        simp only [hi, hz, ai] at h
        split at h
        · rename_i hc
          simp only [af, aG] at h
          obtain ⟨h1, h2, h3⟩ := h
          exact ⟨e, i, zv, he, hi, hz, h3, h1, h2, by rw [← h3, ← h1]; simpa using hc.1, by rw [← h1]; exact hc.2.1, by rw [← h2]; exact hc.2.2.1, by rw [← h3]; exact hc.2.2.2⟩
        · simp at h
  · simp at h
theorem ia (b o n : Nat) : (⟨b, o, none⟩ : Addr).add n = ⟨b, o + n, none⟩ := by
  unfold Addr.add; split
  · subst_vars; rfl
  · rfl
section
variable {a : Act} {w : World}
theorem qG {P : Program} {o : Oper} {cl : Call} (ho : o.op = .call cl) (hc : cl.callee = .builtin .len) {v : Value} {w' : World}
    (h : (Builtin.len_ cl.argTypes o.type (cl.args.map a.eval)).run P w = .ok v w') : (execOp a.eval o).run P w = .ok (.value v) w' := by
  simp [execOp, ho, resolve, hc, invoke, builtin, h]
theorem Bu {P : Program} {t : TypeId} {f fo : Nat} (h : tfld P t f = some fo) : ∃ fs d i, P.underlying t = some (.struct fs) ∧ fs[f]? = some d ∧ P.info? d.type = some i ∧ i.size ≠ 0 ∧ d.offset = fo := by
  unfold tfld at h
  split at h
  · rename_i fs hu
    cases hf : fs[f]? with
    | none => simp [hf] at h
    | some d =>
      cases hi : P.info? d.type with
      | none => simp [hf, hi] at h
      | some i =>
        simp only [hf, hi, ai] at h
        split at h
        · simp at h
        · rename_i hne; simp only [af] at h; exact ⟨fs, d, i, hu, hf, hi, hne, h⟩
  · simp at h
theorem qo {P : Program} {s : TypeId} {f fo : Nat} {A : Addr} (h : tfld P s f = some fo) : (Instr.fieldAt s (.pointer (some A)) f).run P w = .ok (.pointer (some (A.add fo))) w := by
  obtain ⟨fs, d, i, hu, hf, hi, hne, rfl⟩ := Bu h
  simp [Instr.fieldAt, underlying, hu, hf, Instr.sureAddr, fieldPlace, sizeOf, typeInfo, hi, hne]
theorem run_indexAt_slice {P : Program} {t : TypeId} {size bytes : Nat} {z : List Value} (ht : tsl P t = some (size, bytes, z)) {A : Addr} {len cap : Nat} {k : IntKind} {i : Int} (h0 : 0 ≤ i) (h1 : i < len) :
    (Instr.indexAt t (.slice (some A) len cap) (.int k i)).run P w = .ok (.pointer (some (A.add (i.toNat * size)))) w := by
  obtain ⟨e, inf, zv, hu, hi, _, _, hsz, _⟩ := iK ht
  simp [Instr.indexAt, asIntOf, underlying, hu, h0, h1, sizeOf, typeInfo, hi, hsz]
theorem tT {P : Program} {v : Value} {k : IntKind} {n : Int} {m : Nat} {code : BoundsCode} (hv : v = .int k n) (h0 : 0 ≤ n) (h1 : n ≤ m) : (Instr.sliceBound v m code).run P w = .ok n.toNat w := by
  subst hv; simp [Instr.sliceBound, asIntOf, h0, h1]
theorem sA {P : Program} {isS : Bool} {len cap : Nat} {lo hi : Option Value} {l u : Int} (hlo : (lo = none ∧ l = 0) ∨ ∃ k, lo = some (.int k l)) (hhi : (hi = none ∧ u = len) ∨ ∃ k, hi = some (.int k u))
    (h0 : 0 ≤ l) (h1 : l ≤ u) (h2 : u ≤ cap) : (Instr.sliceBounds isS len cap lo hi none).run P w = .ok (l.toNat, u.toNat, cap) w := by
  have hu : (u.toNat : Int) = u := Int.toNat_of_nonneg (by omega)
  have b2 : ∀ (k : IntKind) (code : BoundsCode), (Instr.sliceBound (.int k u) cap code).run P w = .ok u.toNat w := fun k code => tT rfl (by omega) h2
  have b1 : ∀ (k : IntKind) (code : BoundsCode), (Instr.sliceBound (.int k l) u.toNat code).run P w = .ok l.toNat w := fun k code => tT rfl h0 (by omega)
  rcases hlo with ⟨rfl, rfl⟩ | ⟨k1, rfl⟩ <;> rcases hhi with ⟨rfl, hu'⟩ | ⟨k2, rfl⟩
  · subst hu'; simp [Instr.sliceBounds]
  · cases isS <;> simp [Instr.sliceBounds, b2]
  · subst hu'; simp only [Int.toNat_natCast] at b1; simp [Instr.sliceBounds, b1]
  · cases isS <;> simp [Instr.sliceBounds, b2, b1]
theorem eG {P : Program} {t : TypeId} {sz : Nat} (ht : (tsl P t).map (·.1) = some sz) {A : Option Addr} {len cap : Nat} {lo hi : Option Value} {l u : Int}
    (hlo : (lo = none ∧ l = 0) ∨ ∃ k, lo = some (.int k l)) (hhi : (hi = none ∧ u = len) ∨ ∃ k, hi = some (.int k u)) (h0 : 0 ≤ l) (h1 : l ≤ u) (h2 : u ≤ cap) :
    (Instr.sliceAt t (.slice A len cap) lo hi none).run P w = .ok (.slice (if cap = l.toNat then A else A.map (·.add (l.toNat * sz))) (u.toNat - l.toNat) (cap - l.toNat)) w := by
  cases hq : tsl P t with
  | none => simp [hq] at ht
  | some q =>
    obtain ⟨s0, b0, z0⟩ := q
    simp only [hq, Option.map_some, af] at ht
    subst ht
    obtain ⟨e, inf, zv, hu, hi', _, _, hsz, _⟩ := iK hq
    simp [Instr.sliceAt, underlying, hu, Instr.slice, sA hlo hhi h0 h1 h2, sizeOf, typeInfo, hi', hsz]
theorem uM {P : Program} {t : TypeId} {g : Bool} {n : Nat} (h : tv P t = some (g, n)) :
    ∃ d i, P.underlying t = some d ∧ P.info? t = some i ∧ i.size = n ∧ (match d with | .struct _ | .array _ _ => true | _ => false) = g := by
  unfold tv at h
  cases hu : P.underlying t with
  | none => simp [hu] at h
  | some d =>
    cases hi : P.info? t with
    | none => simp [hu, hi] at h
    | some i =>
      simp only [hu, hi, ai, Option.map_some, af, aG] at h
      exact ⟨d, i, rfl, rfl, h.2, h.1⟩
theorem nR {P : Program} {t : TypeId} {g : Bool} {n : Nat} (h : tv P t = some (g, n)) (w : World) : (isAgg t).run P w = .ok g w := by
  obtain ⟨d, i, hu, hi, hn, hg⟩ := uM h
  subst hg
  cases d <;> simp [isAgg, underlying, hu]
theorem run_sizeOf {P : Program} {t : TypeId} {g : Bool} {n : Nat} (h : tv P t = some (g, n)) (w : World) : (sizeOf t).run P w = .ok n w := by
  obtain ⟨d, i, hu, hi, hn, hg⟩ := uM h
  simp [sizeOf, typeInfo, hi, hn]
theorem wR {P : Program} {t : TypeId} {g : Bool} {n : Nat} (h : tv P t = some (g, n)) {w : World} {b o : Nat} {us : List Value} (hl : us.length = n) (hc : ∀ j u, us[j]? = some u → w.cell? ⟨b, o + j, none⟩ = some u)
    (hg : g = true ∨ n = 1) : (loadVar t ⟨b, o, none⟩).run P w = .ok (if g then .agg us.toArray else us.headD undef) w := by
  have hcells : (loadCells ⟨b, o, none⟩ n).run P w = .ok us.toArray w := by
    rw [← hl]
    exact run_loadCells_list w _ us (fun j v hj => by rw [ia]; exact hc j v hj)
  cases g with
  | true => simp [loadVar, nR h, run_sizeOf h, hcells]
  | false =>
    obtain rfl := hg.resolve_left (by simp)
    match us, hl with
    | [u], _ =>
      have := hc 0 u rfl
      simp only [Nat.add_zero] at this
      simp [loadVar, nR h, this]
def setCells (w : World) (b o : Nat) : List Value → World
  | [] => w
  | u :: us => setCells (w.setCell ⟨b, o, none⟩ u) b (o + 1) us
theorem fR : ∀ (us : List Value) (w : World) (b o k : Nat), k ≠ b → (setCells w b o us).heap[k]? = w.heap[k]?
  | [], _, _, _, _, _ => rfl
  | u :: us, w, b, o, k, hk => by
    simp only [setCells]
    rw [fR us _ b (o + 1) k hk, Below.heap_setCell _ _ _ _ (by simpa using hk)]
theorem fG : ∀ (us : List Value) (w : World) (b o : Nat) {b' m : Nat}, Row w b' m → Row (setCells w b o us) b' m
  | [], _, _, _, _, _, h => h
  | u :: us, w, b, o, b', m, h => fG us _ b (o + 1) (h.setCell _ _)
theorem gF : ∀ (us : List Value) (w : World) (b o j : Nat), (j < o ∨ o + us.length ≤ j) → (setCells w b o us).cell? ⟨b, j, none⟩ = w.cell? ⟨b, j, none⟩
  | [], _, _, _, _, _ => rfl
  | u :: us, w, b, o, j, hj => by
    simp only [setCells]
    rw [gF us _ b (o + 1) j (by simp at hj; omega), World.cell?_setCell_other]
    simp only [ne_eq, Addr.mk.injEq, and_true, true_and]
    simp at hj; omega
theorem mj : ∀ (us : List Value) (w : World) (b o : Nat), Row w b (o + us.length) → ∀ j u, us[j]? = some u → (setCells w b o us).cell? ⟨b, o + j, none⟩ = some u
  | [], _, _, _, _, j, u, hu => by simp at hu
  | v :: us, w, b, o, hr, j, u, hu => by
    simp only [setCells]
    simp only [List.length_cons] at hr
    cases j with
    | zero =>
      simp at hu; subst hu
      rw [gF us _ b (o + 1) (o + 0) (by omega)]
      obtain ⟨x, hx⟩ := hr.cell (j := o) (by omega)
      simpa using World.cell?_setCell_same w ⟨b, o, none⟩ v hx
    | succ j =>
      rw [show o + (j + 1) = o + 1 + j by omega]
      exact mj us _ b (o + 1) ((hr.setCell _ _).le (by omega)) j u (by simpa using hu)
theorem lC (us : List Value) (w : World) {ab : Nat → Prop} {b o : Nat} (hB : ¬ ab b) : Step ab w (setCells w b o us) :=
  ⟨fun k hk => fR us w b o k (fun e => hB (e ▸ hk)), fun _ _ h => fG us w b o h⟩
theorem kZ (P : Program) : ∀ (us : List Value) (w : World) (b o i : Nat), Row w b (o + i + us.length) → (∀ u ∈ us, u.oneCell' = true) →
    (storeCells ⟨b, o, none⟩ us i).run P w = .ok () (setCells w b (o + i) us)
  | [], w, b, o, i, _, _ => by simp [storeCells, setCells]
  | u :: us, w, b, o, i, hr, h1 => by
    simp only [List.length_cons] at hr
    obtain ⟨x, hx⟩ := hr.cell (j := o + i) (by omega)
    have hf := hr.frozen (j := o + i) (by omega)
    have ih := kZ P us (w.setCell ⟨b, o + i, none⟩ u) b o (i + 1) ((hr.setCell _ _).le (by omega)) (fun v hv => h1 v (by simp [hv]))
    simp only [storeCells, Sem.run_bind, ia]
    rw [run_store P w _ u .plain (h1 u (by simp))]
    simp only [hx, hf, Bool.false_eq_true, ↓reduceIte, Result.andThen_ok]
    rw [ih]; rfl
theorem o6 {P : Program} {t : TypeId} {g : Bool} {n : Nat} (ht : tv P t = some (g, n)) {v : Value} {us : List Value} (hv : v.cells = us.toArray) (hl : us.length = n) {b o : Nat} (hr : Row w b (o + us.length)) (h1 : ∀ u ∈ us, u.oneCell' = true) :
    (storeVar t ⟨b, o, none⟩ v).run P w = .ok () (setCells w b o us) := by
  have := kZ P us w b o 0 (by simpa using hr) h1
  simp [storeVar, run_sizeOf ht, hv, hl, this]
section
variable {P : Program}
def Src (w : World) (size : Nat) (x : Value) (n : Nat) (news : List Value) : Prop :=
  news.length = n * size ∧
  ((∃ c, x = .slice none n c ∧ n = 0) ∨
   (∃ A cap, x = .slice (some A) n cap ∧ ∀ j u, news[j]? = some u → w.cell? (A.add j) = some u) ∨
   (∃ s, x = .string s ∧ n = s.size ∧ news = s.data.toList.map fun b => .int .u8 b.toNat))
theorem Src.lenOf {size n : Nat} {x : Value} {news : List Value} (h : Src w size x n news) (w' : World) : (Builtin.lenOf x).run P w' = .ok n w' := by
  obtain ⟨_, ⟨c, rfl, _⟩ | ⟨A, cap, rfl, _⟩ | ⟨s, rfl, rfl, _⟩⟩ := h <;> simp [Builtin.lenOf]
theorem Src.first {size n : Nat} {x : Value} {news : List Value} (h : Src w size x n news) : (Builtin.firstCells size n x).run P w = .ok news.toArray w := by
  obtain ⟨hl, ⟨c, rfl, rfl⟩ | ⟨A, cap, rfl, hc⟩ | ⟨s, rfl, rfl, hn⟩⟩ := h
  · simp at hl; simp [Builtin.firstCells, hl]
  · simp only [Builtin.firstCells]
    rw [← hl]
    exact run_loadCells_list w A news hc
  · subst hn
    have hx : (Array.map (fun b : UInt8 => Value.int IntKind.u8 (b.toNat : Int)) s.data).extract 0 s.size = Array.map (fun b : UInt8 => Value.int IntKind.u8 (b.toNat : Int)) s.data := by
      have hs : s.size = (Array.map (fun b : UInt8 => Value.int IntKind.u8 (b.toNat : Int)) s.data).size := by rw [Array.size_map]; rfl
      rw [hs, Array.extract_size]
    simp [Builtin.firstCells, hx]
    apply Array.ext'; simp
theorem Src.drew {size n : Nat} {x : Value} {news : List Value} (h : Src w size x n news) : Src w.drew size x n news := by
  obtain ⟨hl, h⟩ := h
  refine ⟨hl, ?_⟩
  rcases h with h | ⟨A, cap, h, hc⟩ | h
  · exact .inl h
  · exact .inr (.inl ⟨A, cap, h, by simpa using hc⟩)
  · exact .inr (.inr h)
theorem og {t t2 ty : TypeId} {d2 : TypeDesc} {size bytes : Nat} {z : List Value} (ht : tsl P t = some (size, bytes, z)) (h2 : P.underlying t2 = some d2) (hd2 : d2 = .string ∨ ∃ e, d2 = .slice e)
    {b o sLen sCap n : Nat} {x : Value} {news : List Value} (hx : Src w size x n news) (hfit : sLen + n ≤ sCap) {rest : List TypeId}
    (hrow : Row w b (o + (sLen + n) * size)) (h1 : ∀ u ∈ news, u.oneCell' = true) :
    (Builtin.append_ (t :: t2 :: rest).toArray ty #[.slice (some ⟨b, o, none⟩) sLen sCap, x]).run P w =
      .ok (.slice (some ⟨b, o, none⟩) (sLen + n) sCap) (setCells w b (o + sLen * size) news) := by
  obtain ⟨e, i, zv, hu, hi, hz, rfl, hsz, hby, hzl, hs0, hb0, _⟩ := iK ht
  have hl : n * size = news.length := hx.1.symm
  subst hsz
  have hst := kZ P news w b (o + sLen * i.size) 0 (by
    simp only [Nat.add_zero]
    refine hrow.le ?_
    rw [← hl, Nat.add_mul]; omega) h1
  simp only [Nat.add_zero] at hst
  rcases hd2 with rfl | ⟨e2, rfl⟩ <;> simp [Builtin.append_, underlying, hu, h2, sizeOf, typeInfo, hi, hx.lenOf, hx.first, hfit, ia, hst]
theorem nj {t t2 ty : TypeId} {d2 : TypeDesc} {size bytes : Nat} {z : List Value} (ht : tsl P t = some (size, bytes, z)) (h2 : P.underlying t2 = some d2) (hd2 : d2 = .string ∨ ∃ e, d2 = .slice e)
    {base : Option Addr} {sLen sCap n : Nat} {x : Value} {olds news : List Value} (hx : Src w size x n news) (hs : Src w size (.slice base sLen sCap) sLen olds) (hfit : ¬ sLen + n ≤ sCap) {rest : List TypeId}
    (hbig : (sLen + n) * bytes ≤ 2 ^ 40) :
    ∃ cap e, sLen + n ≤ cap ∧ (Builtin.append_ (t :: t2 :: rest).toArray ty #[.slice base sLen sCap, x]).run P w =
      .ok (.slice (some ⟨w.heap.size, 0, none⟩) (sLen + n) cap) (w.drew.alloc (.cells ((olds ++ news).toArray ++ Builtin.zeroCells z.toArray (cap - (sLen + n))) e)) := by
  obtain ⟨e, i, zv, hu, hi, hz, rfl, hsz, hby, hzl, hs0, hb0, _⟩ := iK ht
  subst hsz; subst hby
  have hle : sLen + n ≤ (sLen + n) * i.bytes := Nat.le_mul_of_pos_right _ (Nat.pos_of_ne_zero hb0)
  have h63 : ¬ (9223372036854775807 < ((sLen : Int) + (n : Int))) := by omega
  have h48 : ¬ (281474976710656 < Builtin.nextslicecap (sLen + n) sCap * i.bytes) := by
    have := growslice_fits (need := sLen + n) (old := sCap) (bytes := i.bytes) (by omega) (by omega)
    omega
  refine ⟨grownCap w (sLen + n) sCap e, e, grownCap_ge _ _ _ _, ?_⟩
  have hzz : zv.cells = zv.cells.toList.toArray := by simp
  rcases hd2 with rfl | ⟨e2, rfl⟩ <;>
    simp [Builtin.append_, underlying, hu, h2, sizeOf, typeInfo, zeroValue, hi, hz, hx.lenOf, hx.drew.first, hs.drew.first, hfit, h63, h48, Question.forced, newRow, grownCap] <;>
    (congr 2; apply Array.ext'; simp)
end
theorem kW {P : Program} {o : Oper} {cl : Call} (ho : o.op = .call cl) (hc : cl.callee = .builtin .append) {v : Value} {w' : World}
    (h : (Builtin.append_ cl.argTypes o.type (cl.args.map a.eval)).run P w = .ok v w') : (execOp a.eval o).run P w = .ok (.value v) w' := by
  simp [execOp, ho, resolve, hc, invoke, builtin, h]
theorem mm {α : Type} (z : List α) (hz : z.length ≠ 0) : ∀ (n j : Nat), j < n * z.length → (List.replicate n z).flatten[j]? = z[j % z.length]?
  | 0, j, h => by omega
  | n + 1, j, h => by
    rw [List.replicate_succ, List.flatten_cons]
    by_cases hj : j < z.length
    · rw [List.getElem?_append_left hj, Nat.mod_eq_of_lt hj]
    · rw [List.getElem?_append_right (by omega)]
      have h2 : j - z.length < n * z.length := by rw [Nat.succ_mul] at h; omega
      rw [mm z hz n (j - z.length) h2]
      congr 1
      conv => rhs; rw [show j = (j - z.length) + z.length by omega]
      rw [Nat.add_mod_right]
theorem pH : ∀ (vs us : List Value) (off k : Nat), off + k + vs.length ≤ us.length →
    (vs.zipIdx k).foldl (fun cs (q : Value × Nat) => Array.setIfInBounds cs (off + q.2) q.1) us.toArray = (us.take (off + k) ++ vs ++ us.drop (off + k + vs.length)).toArray
  | [], us, off, k, h => by simp
  | v :: vs, us, off, k, h => by
    simp only [List.zipIdx_cons, List.foldl_cons]
    have e1 : us.toArray.setIfInBounds (off + k) v = (us.set (off + k) v).toArray := by simp
    rw [e1, pH vs (us.set (off + k) v) off (k + 1) (by simp at h ⊢; omega)]
    congr 1
    simp only [List.length_cons] at h
    apply List.ext_getElem?
    intro j
    simp only [List.length_cons, List.getElem?_append, List.getElem?_take, List.getElem?_drop, List.length_take, List.length_set, aT, List.getElem?_set, List.getElem?_cons]
    rw [Nat.min_eq_left (by omega), Nat.min_eq_left (by omega)]
    rcases Nat.lt_trichotomy j (off + k) with hj | hj | hj
    · simp [show j < off + (k + 1) by omega, hj, show j < off + k + (vs.length + 1) by omega, show off + k ≠ j by omega, show j < off + (k+1) + vs.length by omega]
    · subst hj
      simp [show off + k < us.length by omega, show off + k < off + (k + 1) by omega, show off + k < off + (k + 1) + vs.length by omega, show off + k < off + k + (vs.length + 1) by omega]
    · have h1 : ¬ j < off + k := by omega
      have h2 : ¬ j < off + (k + 1) := by omega
      by_cases h3 : j < off + (k + 1) + vs.length
      · simp [h1, h2, h3, show j < off + k + (vs.length + 1) by omega, show ¬ (j - (off + k) = 0) by omega]
        rw [show j - (off + (k + 1)) = j - (off + k) - 1 by omega]
      · simp [h1, h2, h3, show ¬ j < off + k + (vs.length + 1) by omega, show off + k ≠ off + (k + 1) + vs.length + (j - (off + (k + 1) + vs.length)) by omega]
        try (congr 1; omega)
theorem vZ (us vs : List Value) (off : Nat) (v : Value) (hv : v.cells = vs.toArray) (h : off + vs.length ≤ us.length) :
    v.cells.zipIdx.foldl (fun cs (q : Value × Nat) => Array.setIfInBounds cs (off + q.2) q.1) us.toArray = (us.take off ++ vs ++ us.drop (off + vs.length)).toArray := by
  have := pH vs us off 0 (by simpa using h)
  rw [hv]
  simp only [Nat.add_zero] at this
  rw [← this, ← Array.foldl_toList]
  simp
theorem yg {P : Program} {t : TypeId} {pl : List (Nat × Nat)} {fs : Array Field} (h : JO P t = some pl) (hu : P.underlying t = some (.struct fs)) :
    fs.toList.mapM (fun f => (P.info? f.type).map fun i => (f.offset, i.size)) = some pl := by
  unfold JO at h; rw [hu] at h; exact h
theorem AS {P : Program} {t : TypeId} {pl : List (Nat × Nat)} {n : Nat} {e : TypeId} (h : JO P t = some pl) (hu : P.underlying t = some (.array n e)) :
    ∃ k, P.info? e = some k ∧ pl = (List.range n).map fun i => (i * k.size, k.size) := by
  unfold JO at h; rw [hu] at h
  cases hk : P.info? e with
  | none => simp [hk] at h
  | some k => simp only [hk, Option.map_some, af] at h; exact ⟨k, rfl, h.symm⟩
theorem zE {P : Program} {t : TypeId} {z : List Value} (h : tz P t = some z) : ∃ i zv, P.info? t = some i ∧ i.zero = some zv ∧ zv.cells.toList = z := by
  unfold tz at h
  cases hi : P.info? t with
  | none => simp [hi] at h
  | some i =>
    cases hzv : i.zero with
    | none => simp [hi, hzv] at h
    | some zv => simp only [hi, hzv, ai, Option.map_some, af] at h; exact ⟨i, zv, rfl, hzv, h⟩
end
end Go.Tw
namespace Go.Tw
open Go Go.RowKit
variable [k7]
mutual
theorem innOk.imp {K K' : Nat → Prop} (h : ∀ r, K r → K' r) : ∀ x, innOk K x → innOk K' x
  | .mJ r _ _, H => h r H
  | .agg cs, H => by simp only [innOk] at H ⊢; exact innOkl.imp h cs H
  | .mF cs, H => by simp only [innOk] at H ⊢; exact innOkl.imp h cs H
  | .oV _ x, H => by simp only [innOk] at H ⊢; exact innOk.imp h x H
  | .fn _ fi ca, H => by simp only [innOk] at H ⊢; exact ⟨innOkl.imp h fi H.1, innOkl.imp h ca H.2⟩
  | .p _, _ => trivial
  | .tr _ _, _ => trivial
  | .full _, _ => trivial
  | .sub _ _ _, _ => trivial
  | .ptr _ _ _, _ => trivial
  | .fm _ _ _ _, _ => trivial
  | .mp _, _ => trivial
  | .undef, _ => trivial
theorem innOkl.imp {K K' : Nat → Prop} (h : ∀ r, K r → K' r) : ∀ xs, innOkl K xs → innOkl K' xs
  | [], _ => trivial
  | x :: xs, H => ⟨innOk.imp h x H.1, innOkl.imp h xs H.2⟩
end
def bR (c : Cx) (o : Oper) (a : Act) (w : World) (σ' : St) : Prop :=
  ∃ nx w', (execOp a.eval o).run c.P w = .ok nx w' ∧ (stillB o.op = true → ∀ w1, Below w.heap.size w w1 → (execOp a.eval o).run c.P w1 = .ok nx w1) ∧
    ((∃ v, nx = .value v ∧ dH c σ' (a.put o.dst v) w') ∨ (nx = .skip ∧ dH c σ' (a.put o.dst undef) w'))
theorem bZ (k : Nat) (x : TV) (s : List (Nat × TV)) (t : Nat) : sget ((k, x) :: s) t = if t = k then x else sget s t := by
  simp only [sget]
  by_cases h : t = k
  · subst h; simp
  · have : Nat.beq t k = false := by
      cases hb : Nat.beq t k with
      | false => rfl
      | true => exact absurd (Nat.eq_of_beq_eq_true hb) h
    simp [this, h]
section
variable {w : World} {ab ok : Nat → Prop} {μ : Nat → Mu} {h : ay} {n : Nat}
theorem VRl.get : ∀ {xs : List TV} {us : List Value}, VRl w ab ok μ h n xs us → ∀ t, VR w ab ok μ h n (xs.getD t .undef) (us.getD t undef)
  | [], us, _, t => by simp [VR]
  | c :: cs, us, H, t => by
    simp only [VRl] at H
    obtain ⟨u, us', rfl, h1, h2⟩ := H
    cases t with
    | zero => simpa using h1
    | succ t => simpa using VRl.get h2 t
theorem VRl.length : ∀ {xs : List TV} {us : List Value}, VRl w ab ok μ h n xs us → xs.length = us.length
  | [], us, H => by simp only [VRl] at H; subst H; rfl
  | c :: cs, us, H => by
    simp only [VRl] at H
    obtain ⟨u0, us', rfl, h1, h2⟩ := H
    simp [VRl.length h2]
theorem VRl.append : ∀ {xs ys : List TV} {us vs : List Value}, VRl w ab ok μ h n xs us → VRl w ab ok μ h n ys vs → VRl w ab ok μ h n (xs ++ ys) (us ++ vs)
  | [], ys, us, vs, h1, h2 => by simp only [VRl] at h1; subst h1; simpa using h2
  | x :: xs, ys, us, vs, h1, h2 => by
    simp only [VRl, List.cons_append] at h1 ⊢
    obtain ⟨u, us', rfl, h3, h4⟩ := h1
    exact ⟨u, us' ++ vs, by simp, h3, VRl.append h4 h2⟩
theorem VRl.take : ∀ {xs : List TV} {us : List Value} (k : Nat), VRl w ab ok μ h n xs us → VRl w ab ok μ h n (xs.take k) (us.take k)
  | xs, us, 0, _ => by simp [VRl]
  | [], us, k + 1, H => by simp only [VRl] at H; subst H; simp [VRl]
  | x :: xs, us, k + 1, H => by
    simp only [VRl] at H
    obtain ⟨u, us', rfl, h3, h4⟩ := H
    simp only [List.take_succ_cons, VRl]; exact ⟨u, _, rfl, h3, VRl.take k h4⟩
theorem VRl.drop : ∀ {xs : List TV} {us : List Value} (k : Nat), VRl w ab ok μ h n xs us → VRl w ab ok μ h n (xs.drop k) (us.drop k)
  | xs, us, 0, H => by simpa using H
  | [], us, k + 1, H => by simp only [VRl] at H; subst H; simp [VRl]
  | x :: xs, us, k + 1, H => by
    simp only [VRl] at H
    obtain ⟨u, us', rfl, h3, h4⟩ := H
    simpa using VRl.drop k h4
theorem VRl.headD {cs : List TV} {us : List Value} (H : VRl w ab ok μ h n cs us) : VR w ab ok μ h n (cs.headD .undef) (us.headD undef) := by
  cases cs with
  | nil => simp [VR]
  | cons c cs => simp only [VRl] at H; obtain ⟨u, us', rfl, h1, _⟩ := H; simpa using h1
theorem VRl.pmap : ∀ l : List Value, VRl w ab ok μ h n (l.map .p) l
  | [] => by simp [VRl]
  | x :: l => by simp only [List.map_cons, VRl]; exact ⟨x, l, rfl, by simp [VR], VRl.pmap l⟩
theorem VR.iy {u v : Value} (H : VR w ab ok μ h n (.p u) v) : v = u := by simpa [VR] using H
theorem kE {g : Bool} {cs : List TV} {us : List Value} (H : VRl w ab ok μ h n cs us) : VR w ab ok μ h n (pack g cs) (if g then .agg us.toArray else us.headD undef) := by
  cases g with
  | true => simp only [pack, ag, ↓reduceIte, VR]; exact ⟨us, rfl, H⟩
  | false => simp only [pack, al, Bool.false_eq_true, ↓reduceIte]; exact H.headD
def SR (w : World) (ab ok : Nat → Prop) (μ : Nat → Mu) (h : ay) (n : Nat) (s : List (Nat × TV)) (us : Array Value) : Prop := ∀ t, VR w ab ok μ h n (sget s t) (us.getD t undef)
theorem SR.iR {s : List (Nat × TV)} {a : Act} (H : SR w ab ok μ h n s a.tmps) (x : Operand) : VR w ab ok μ h n (ev s x) (a.eval x) := by
  cases x with
  | tmp t => exact H t
  | const v => simp [ev, Act.eval, VR]
  | global g => simp [ev, Act.eval, VR]
  | func f => simp only [ev, Act.eval, VR]; exact ⟨[], [], rfl, by simp [VRl], by simp [VRl]⟩
theorem SR.map {s : List (Nat × TV)} {a : Act} (H : SR w ab ok μ h n s a.tmps) : ∀ xs : List Operand, VRl w ab ok μ h n (xs.map (ev s)) (xs.map a.eval)
  | [] => by simp [VRl]
  | x :: xs => by simp only [List.map_cons, VRl]; exact ⟨_, _, rfl, H.iR x, SR.map H xs⟩
end
section
variable {c : Cx} {σ : St} {a : Act} {w w' : World}
theorem dH.put {dst : Option Tmp} {x : TV} {v : Value} {s s' : List (Nat × TV)} {h : ay} {n : Nat} {μ : Nat → Mu} (hfr : Fr c w') (hd : a.defers = []) (hsz : a.tmps.size = c.m.n ∧ ∀ q ∈ c.m.st, a.tmps.getD q.1 undef = (c.gv ++ c.kv).getD q.2 undef)
    (hH : HR w' c.ab c.ok μ h n []) (hs : SR w' c.ab c.ok μ h n s a.tmps) (hg : VRl w' c.ab c.ok μ h n c.gs c.gv) (hv : VR w' c.ab c.ok μ h n x v) (hput : sput c.m dst x s = some s') : dH c ⟨s', h, n⟩ (a.put dst v) w' := by
  cases dst with
  | none =>
    simp only [sput, af] at hput; subst hput
    exact ⟨hfr, hd, hsz, μ, hH, hs, hg⟩
  | some d =>
    simp only [sput] at hput
    cases hb : Nat.blt d c.m.n && c.m.st.all (fun q => !Nat.beq q.1 d) with
    | false => simp [hb] at hput
    | true =>
      simp only [hb, ag, af] at hput; subst hput
      simp only [aA] at hb
      have hlt : d < c.m.n := by simpa [Nat.blt_eq] using hb.1
      have hother : ∀ t, t ≠ d → (a.tmps.setIfInBounds d v).getD t undef = a.tmps.getD t undef := fun t ht => by
        simp [Array.getD_eq_getD_getElem?, Array.getElem?_setIfInBounds, Ne.symm ht]
      refine ⟨hfr, hd, ⟨by simpa [Act.put] using hsz.1, fun q hq => ?_⟩, μ, hH, fun t => ?_, hg⟩
      · have h1 := List.all_eq_true.1 hb.2 q hq
        have hne : q.1 ≠ d := by rintro e; rw [e] at h1; simp at h1
        show (a.tmps.setIfInBounds d v).getD q.1 undef = _
        rw [hother _ hne]; exact hsz.2 q hq
      rw [bZ]
      simp only [Act.put]
      by_cases ht : t = d
      · subst ht
        have : (a.tmps.setIfInBounds t v).getD t undef = v := by
          have hl : t < a.tmps.size := by rw [hsz.1]; exact hlt
          simp [Array.getD_eq_getD_getElem?, hl]
        rw [this, if_pos rfl]; exact hv
      · rw [hother t ht, if_neg ht]; exact hs t
theorem bR.quiet (hs : dH c σ a w) {o : Oper} {x : TV} {v : Value} {s' : List (Nat × TV)} (hr : ∀ w1, Below w.heap.size w w1 → (execOp a.eval o).run c.P w1 = .ok (.value v) w1) (hput : sput c.m o.dst x σ.s = some s')
    (hv : ∀ μ, SR w c.ab c.ok μ σ.h σ.n σ.s a.tmps → HR w c.ab c.ok μ σ.h σ.n [] → VR w c.ab c.ok μ σ.h σ.n x v) : bR c o a w ⟨s', σ.h, σ.n⟩ := by
  obtain ⟨h1, h2, h3, μ, h4, h5, h6⟩ := hs
  exact ⟨_, _, hr w (Below.refl _ _), fun _ => hr, .inl ⟨v, rfl, dH.put h1 h2 h3 h4 h5 h6 (hv μ h5 h4) hput⟩⟩
theorem zI (hs : dH c σ a w) {o : Oper} {x : Operand} (ho : o.op = .move x ∨ o.op = .assign x) {s' : List (Nat × TV)} (hput : sput c.m o.dst (ev σ.s x) σ.s = some s') : bR c o a w ⟨s', σ.h, σ.n⟩ :=
  bR.quiet hs (v := a.eval x) (fun w1 hb1 => by rcases ho with ho | ho <;> simp [execOp, ho]) hput fun μ hl _ => hl.iR x
theorem oB (hs : dH c σ a w) {o : Oper} {op : BinOp} {t t' : TypeId} {x y : Operand} (ho : o.op = .binOp op t x y t') {k : IntKind} {m n : Int}
    (hx : a.eval x = .int k m) (hy : a.eval y = .int k n) (h0 : op ≠ .shl ∧ op ≠ .shr) (hz : (op = .quo ∨ op = .rem) → n ≠ 0) {s' : List (Nat × TV)} (hput : sput c.m o.dst (bin op k m n) σ.s = some s') :
    bR c o a w ⟨s', σ.h, σ.n⟩ := by
  have hg : ∀ w : World, (eqGuard op t x y (.int k m) (.int k n)).run c.P w = .ok () w := by
    intro w; unfold eqGuard; cases op <;> simp
  have key : ∃ u, bin op k m n = .p u ∧ ∀ w : World, (Go.binOp op t (.int k m) (.int k n)).run c.P w = .ok u w := by
    cases op <;> simp at h0 hz <;> refine ⟨_, rfl, fun w => ?_⟩ <;> simp [Go.binOp, Op.intArith, Op.intDiv, Op.intBits, Op.intCmp, hz] <;> first | rfl | skip
  obtain ⟨u, hu, hrun⟩ := key
  exact bR.quiet hs (v := u) (fun w1 hb1 => by simp [execOp, ho, hx, hy, hg, hrun]) hput fun _ _ _ => by rw [hu]; simp [VR]
theorem v5 (hs : dH c σ a w) {o : Oper} {op : BinOp} {t t' : TypeId} {x y : Operand} (ho : o.op = .binOp op t x y t') {k k' : IntKind} {m n : Int}
    (hx : a.eval x = .int k m) (hy : a.eval y = .int k' n) (h0 : 0 ≤ n) {u : Value} (hu : (op = .shl ∧ u = .int k (k.wrap (m * 2 ^ min n.toNat k.bits))) ∨ (op = .shr ∧ u = .int k (m.fdiv (2 ^ min n.toNat k.bits))))
    {s' : List (Nat × TV)} (hput : sput c.m o.dst (.p u) σ.s = some s') : bR c o a w ⟨s', σ.h, σ.n⟩ := by
  have hneg : ¬ n < 0 := by omega
  have hg : ∀ w : World, (eqGuard op t x y (.int k m) (.int k' n)).run c.P w = .ok () w := by
    intro w; unfold eqGuard; cases op <;> simp
  rcases hu with ⟨rfl, rfl⟩ | ⟨rfl, rfl⟩
  · exact bR.quiet hs (v := _) (fun w1 hb1 => by simp [execOp, ho, hx, hy, hg, Go.binOp, Op.shift, hneg]; rfl) hput fun _ _ _ => by simp [VR]
  · exact bR.quiet hs (v := _) (fun w1 hb1 => by simp [execOp, ho, hx, hy, hg, Go.binOp, Op.shift, hneg]; rfl) hput fun _ _ _ => by simp [VR]
theorem Ep (hs : dH c σ a w) {o : Oper} {op : BinOp} {t t' : TypeId} {x y : Operand} (ho : o.op = .binOp op t x y t') {m n : ByteArray}
    (hx : a.eval x = .string m) (hy : a.eval y = .string n) (hob : match op with | .add => ((m.size + n.size : Nat) : Int) ≤ IntKind.i64.max | .eql | .neq | .lss | .leq | .gtr | .geq => True | _ => False)
    {s' : List (Nat × TV)} (hput : sput c.m o.dst (strB op m n) σ.s = some s') : bR c o a w ⟨s', σ.h, σ.n⟩ := by
  have hg : ∀ w : World, (eqGuard op t x y (.string m) (.string n)).run c.P w = .ok () w := by
    intro w; unfold eqGuard; cases op <;> simp
  have key : ∃ u, strB op m n = .p u ∧ ∀ w : World, (Go.binOp op t (.string m) (.string n)).run c.P w = .ok u w := by
    cases op <;> simp only at hob <;> first | exact hob.elim | skip
    all_goals refine ⟨_, rfl, fun w => ?_⟩
    all_goals simp only [Go.binOp, Op.stringOp, pS]
    all_goals first | rfl | (rw [if_neg (by omega)]; rfl) | (simp; rw [Hi]) | (simp; done)
  obtain ⟨u, hu, hrun⟩ := key
  exact bR.quiet hs (v := u) (fun w1 hb1 => by simp [execOp, ho, hx, hy, hg, hrun]) hput fun _ _ _ => by rw [hu]; simp [VR]
end
end Go.Tw
namespace Go.Tw
open Go Go.RowKit
variable [k7]
section
variable (w : World) (ab ok : Nat → Prop)
mutual
def FV : TV → Value → Prop
  | .p u, v => v = u
  | .tr t l, v => TRl w ab ok (.sl t) l [v] []
  | .fm t l i off, v => ∃ b o, v = .pointer (some ⟨b, o + i * sz t + off, none⟩) ∧ (l ≠ [] → ab b) ∧ RL (oW w ab ok t) (sz t) l b o []
  | .fn f fi ca, v => ∃ us vs : List Value, v = .func f us.toArray vs.toArray ∧ FVl fi us ∧ FVl ca vs
  | _, _ => False
def FVl : List TV → List Value → Prop
  | [], us => us = []
  | c :: cs, us => ∃ u us', us = u :: us' ∧ FV c u ∧ FVl cs us'
end
end
def Bx (w : World) (ab ok : Nat → Prop) : TV → Value → List Nat → Prop
  | .p u, v, L => v = u ∧ L = []
  | .tr t l, v, L => TRl w ab ok (.sl t) l [v] L
  | .fm t l i off, v, L => L = [] ∧ FV w ab ok (.fm t l i off) v
  | .fn f fi ca, v, L => L = [] ∧ FV w ab ok (.fn f fi ca) v
  | _, _, _ => False
def CT (w : World) (ab ok : Nat → Prop) : List TV → List Value → List Nat → Prop
  | [], us, L => us = [] ∧ L = []
  | c :: cs, us, L => ∃ u us' L1 L2, us = u :: us' ∧ L = L1 ++ L2 ∧ Bx w ab ok c u L1 ∧ CT w ab ok cs us' L2
section
variable {w w' : World} {ab imm' ok ok' : Nat → Prop} {μ : Nat → Mu} {h : ay} {n : Nat}
theorem CT.length : ∀ {cs : List TV} {us : List Value} {L : List Nat}, CT w ab ok cs us L → us.length = cs.length
  | [], us, L, H => by rw [H.1]; rfl
  | c :: cs, us, L, H => by obtain ⟨u, us', L1, L2, rfl, rfl, _, h2⟩ := H; simp [CT.length h2]
theorem CT.app : ∀ {xs ys : List TV} {us : List Value} {L : List Nat}, CT w ab ok (xs ++ ys) us L ↔ ∃ us1 us2 L1 L2, us = us1 ++ us2 ∧ L = L1 ++ L2 ∧ CT w ab ok xs us1 L1 ∧ CT w ab ok ys us2 L2
  | [], ys, us, L => by
    simp only [List.nil_append]
    exact ⟨fun h => ⟨[], us, [], L, rfl, rfl, ⟨rfl, rfl⟩, h⟩, fun ⟨us1, us2, L1, L2, e1, e2, h1, h2⟩ => by
      obtain ⟨rfl, rfl⟩ := h1; simpa [e1, e2] using h2⟩
  | x :: xs, ys, us, L => by
    simp only [List.cons_append]
    constructor
    · rintro ⟨u, us', L1, L2, rfl, rfl, h1, h2⟩
      obtain ⟨us1, us2, L3, L4, rfl, rfl, h3, h4⟩ := CT.app.1 h2
      exact ⟨u :: us1, us2, L1 ++ L3, L4, rfl, by simp, ⟨u, us1, L1, L3, rfl, rfl, h1, h3⟩, h4⟩
    · rintro ⟨us1, us2, L1, L2, rfl, rfl, ⟨u, us', L3, L4, rfl, rfl, h1, h2⟩, h3⟩
      exact ⟨u, us' ++ us2, L3, L4 ++ L2, rfl, by simp, h1, CT.app.2 ⟨us', us2, L4, L2, rfl, rfl, h2, h3⟩⟩
mutual
theorem FV.mono (hi : ∀ b, ab b → imm' b) (ho : ∀ b, ok b → ok' b) (hw : ∀ b, ab b → w'.heap[b]? = w.heap[b]?) : ∀ (x : TV) (v : Value), FV w ab ok x v → FV w' imm' ok' x v
  | .p u, v, H => by simpa [FV] using H
  | .tr t l, v, H => by simp only [FV] at H ⊢; exact H.mono hi ho hw (by simp)
  | .fm t l i off, v, H => by
    simp only [FV] at H ⊢
    obtain ⟨b, o, hv, hb, he⟩ := H
    refine ⟨b, o, hv, fun hl => hi b (hb hl), ?_⟩
    cases l with
    | nil => simpa [RL] using he
    | cons y l => exact RL.imp (fun x hx o L' hL hr => oW.mono hi ho hw (fun b hb => by simpa using hL b hb) (hw b (hb (by simp))) hr) he
  | .fn f fi ca, v, H => by
    simp only [FV] at H ⊢
    obtain ⟨us, vs, hv, h1, h2⟩ := H
    exact ⟨us, vs, hv, FVl.mono hi ho hw fi us h1, FVl.mono hi ho hw ca vs h2⟩
  | .full _, _, H => by simp [FV] at H
  | .sub _ _ _, _, H => by simp [FV] at H
  | .mJ _ _ _, _, H => by simp [FV] at H
  | .ptr _ _ _, _, H => by simp [FV] at H
  | .agg _, _, H => by simp [FV] at H
  | .mF _, _, H => by simp [FV] at H
  | .oV _ _, _, H => by simp [FV] at H
  | .mp _, _, H => by simp [FV] at H
  | .undef, _, H => by simp [FV] at H
theorem FVl.mono (hi : ∀ b, ab b → imm' b) (ho : ∀ b, ok b → ok' b) (hw : ∀ b, ab b → w'.heap[b]? = w.heap[b]?) : ∀ (cs : List TV) (us : List Value), FVl w ab ok cs us → FVl w' imm' ok' cs us
  | [], us, H => by simpa [FVl] using H
  | c :: cs, us, H => by
    simp only [FVl] at H ⊢
    obtain ⟨u, us', hu, h1, h2⟩ := H
    exact ⟨u, us', hu, FV.mono hi ho hw c u h1, FVl.mono hi ho hw cs us' h2⟩
end
mutual
theorem FV.vr : ∀ (x : TV) (v : Value), FV w ab ok x v → VR w ab ok μ h n x v
  | .p u, v, H => by simpa [FV, VR] using H
  | .tr t l, v, H => by simp only [FV, VR] at H ⊢; exact H
  | .fm t l i off, v, H => by simp only [FV, VR] at H ⊢; exact H
  | .fn f fi ca, v, H => by
    simp only [FV, VR] at H ⊢
    obtain ⟨us, vs, hv, h1, h2⟩ := H
    exact ⟨us, vs, hv, FVl.zJ fi us h1, FVl.zJ ca vs h2⟩
  | .full _, _, H => by simp [FV] at H
  | .sub _ _ _, _, H => by simp [FV] at H
  | .mJ _ _ _, _, H => by simp [FV] at H
  | .ptr _ _ _, _, H => by simp [FV] at H
  | .agg _, _, H => by simp [FV] at H
  | .mF _, _, H => by simp [FV] at H
  | .oV _ _, _, H => by simp [FV] at H
  | .mp _, _, H => by simp [FV] at H
  | .undef, _, H => by simp [FV] at H
theorem FVl.zJ : ∀ (cs : List TV) (us : List Value), FVl w ab ok cs us → VRl w ab ok μ h n cs us
  | [], us, H => by simpa [FVl, VRl] using H
  | c :: cs, us, H => by
    simp only [FVl, VRl] at H ⊢
    obtain ⟨u, us', hu, h1, h2⟩ := H
    exact ⟨u, us', hu, FV.vr c u h1, FVl.zJ cs us' h2⟩
end
mutual
theorem FV.of : ∀ (x : TV) (v : Value), flatV x = true → VR w ab ok μ h n x v → FV w ab ok x v
  | .p u, v, _, H => by simpa [FV, VR] using H
  | .tr t l, v, _, H => by simp only [FV, VR] at H ⊢; exact H
  | .fm t l i off, v, _, H => by simp only [FV, VR] at H ⊢; exact H
  | .fn f fi ca, v, hf, H => by
    simp only [flatV, aA] at hf
    simp only [FV, VR] at H ⊢
    obtain ⟨us, vs, hv, h1, h2⟩ := H
    exact ⟨us, vs, hv, FVl.of fi us hf.1 h1, FVl.of ca vs hf.2 h2⟩
  | .full _, _, hf, _ => by simp [flatV] at hf
  | .sub _ _ _, _, hf, _ => by simp [flatV] at hf
  | .mJ _ _ _, _, hf, _ => by simp [flatV] at hf
  | .ptr _ _ _, _, hf, _ => by simp [flatV] at hf
  | .agg _, _, hf, _ => by simp [flatV] at hf
  | .mF _, _, hf, _ => by simp [flatV] at hf
  | .oV _ _, _, hf, _ => by simp [flatV] at hf
  | .mp _, _, hf, _ => by simp [flatV] at hf
  | .undef, _, hf, _ => by simp [flatV] at hf
theorem FVl.of : ∀ (cs : List TV) (us : List Value), flatB cs = true → VRl w ab ok μ h n cs us → FVl w ab ok cs us
  | [], us, _, H => by simpa [FVl, VRl] using H
  | c :: cs, us, hf, H => by
    simp only [flatB, aA] at hf
    simp only [FVl, VRl] at H ⊢
    obtain ⟨u, us', hu, h1, h2⟩ := H
    exact ⟨u, us', hu, FV.of c u hf.1 h1, FVl.of cs us' hf.2 h2⟩
end
theorem FV.RK {x : TV} {v : Value} (H : FV w ab ok x v) : Bx w ab ok x v [] := by
  cases x with
  | p u => simp only [FV] at H; exact ⟨H, rfl⟩
  | tr t l => simp only [FV] at H; exact H
  | fm t l i off => exact ⟨rfl, H⟩
  | fn f fi ca => exact ⟨rfl, H⟩
  | _ => simp [FV] at H
theorem Bx.fv {x : TV} {v : Value} (H : Bx w ab ok x v []) : FV w ab ok x v := by
  cases x with
  | p u => simp only [FV]; exact H.1
  | tr t l => simp only [FV]; exact H
  | fm t l i off => exact H.2
  | fn f fi ca => exact H.2
  | _ => exact H.elim
theorem FVl.ct : ∀ {cs : List TV} {us : List Value}, FVl w ab ok cs us → CT w ab ok cs us []
  | [], us, H => by simp only [FVl] at H; exact ⟨H, rfl⟩
  | c :: cs, us, H => by
    simp only [FVl] at H
    obtain ⟨u, us', rfl, h1, h2⟩ := H
    exact ⟨u, us', [], [], rfl, rfl, h1.RK, FVl.ct h2⟩
theorem CT.QC : ∀ {cs : List TV} {us : List Value}, CT w ab ok cs us [] → FVl w ab ok cs us
  | [], us, H => by simp only [FVl]; exact H.1
  | c :: cs, us, H => by
    obtain ⟨u, us', L1, L2, rfl, hL, h1, h2⟩ := H
    obtain ⟨rfl, rfl⟩ := List.append_eq_nil_iff.1 hL.symm
    simp only [FVl]
    exact ⟨u, us', rfl, h1.fv, CT.QC h2⟩
theorem Bx.mono (hi : ∀ b, ab b → imm' b) (ho : ∀ b, ok b → ok' b) (hw : ∀ b, ab b → w'.heap[b]? = w.heap[b]?) {x : TV} {v : Value} {L : List Nat} (hL : ∀ b ∈ L, w'.heap[b]? = w.heap[b]?) (H : Bx w ab ok x v L) : Bx w' imm' ok' x v L := by
  cases x with
  | p u => exact H
  | tr t l => exact TRl.mono (t := .sl t) hi ho hw hL H
  | fm t l i off => exact ⟨H.1, FV.mono hi ho hw _ _ H.2⟩
  | fn f fi ca => exact ⟨H.1, FV.mono hi ho hw _ _ H.2⟩
  | _ => exact H.elim
theorem CT.mono (hi : ∀ b, ab b → imm' b) (ho : ∀ b, ok b → ok' b) (hw : ∀ b, ab b → w'.heap[b]? = w.heap[b]?) : ∀ {cs : List TV} {us : List Value} {L : List Nat}, (∀ b ∈ L, w'.heap[b]? = w.heap[b]?) → CT w ab ok cs us L → CT w' imm' ok' cs us L
  | [], us, L, _, H => H
  | c :: cs, us, L, hL, H => by
    obtain ⟨u, us', L1, L2, rfl, rfl, h1, h2⟩ := H
    exact ⟨u, us', L1, L2, rfl, rfl, h1.mono hi ho hw (fun b hb => hL b (by simp [hb])), CT.mono hi ho hw (fun b hb => hL b (by simp [hb])) h2⟩
theorem TRl.oZ : ∀ {t : Ty} {x : den t} {us : List Value} {L : List Nat}, TRl w ab ok t x us L → CT w ab ok (encT t x) us L
  | .int _, x, us, L, H => by obtain ⟨rfl, rfl⟩ := H; exact ⟨_, [], [], [], rfl, rfl, ⟨rfl, rfl⟩, rfl, rfl⟩
  | .bool, x, us, L, H => by obtain ⟨rfl, rfl⟩ := H; exact ⟨_, [], [], [], rfl, rfl, ⟨rfl, rfl⟩, rfl, rfl⟩
  | .str, x, us, L, H => by obtain ⟨rfl, rfl⟩ := H; exact ⟨_, [], [], [], rfl, rfl, ⟨rfl, rfl⟩, rfl, rfl⟩
  | .un, x, us, L, H => H
  | .pr a b, x, us, L, H => by
    obtain ⟨u1, u2, L1, L2, rfl, rfl, h1, h2⟩ := H
    exact CT.app.2 ⟨u1, u2, L1, L2, rfl, rfl, TRl.oZ h1, TRl.oZ h2⟩
  | .sl t, x, us, L, H => by
    obtain ⟨v, rfl, h⟩ := id H
    exact ⟨v, [], L, [], rfl, by simp, H, rfl, rfl⟩
  | .ref t, x, us, L, H => by
    obtain ⟨b, o, vs, rfl, rfl, h1, h2, h3⟩ := H
    refine ⟨_, [], [], [], rfl, rfl, ⟨rfl, ?_⟩, rfl, rfl⟩
    simp only [FV]
    exact ⟨b, o, by simp, fun _ => h1, [], [], rfl, ⟨vs, h2, h3⟩, rfl⟩
  | .cl g t, x, us, L, H => by
    obtain ⟨vs, rfl, rfl, h1⟩ := H
    refine ⟨_, [], [], [], rfl, rfl, ⟨rfl, ?_⟩, rfl, rfl⟩
    simp only [FV]
    exact ⟨[], vs, rfl, by simp [FVl], CT.QC (TRl.oZ h1)⟩
theorem eY {t t' : Ty} {l : List (den t)} {l' : List (den t')} (h : cast t t' l = some l') : ∃ e : t = t', e ▸ l = l' := by
  unfold cast at h
  split at h
  · rename_i e; exact ⟨e, by simpa using h⟩
  · simp at h
theorem CT.dec : ∀ {t : Ty} {cs r : List TV} {x : den t} {us : List Value} {L : List Nat}, decT t cs = some (x, r) → CT w ab ok cs us L →
    ∃ us1 us2 L1 L2, us = us1 ++ us2 ∧ L = L1 ++ L2 ∧ TRl w ab ok t x us1 L1 ∧ CT w ab ok r us2 L2
  | .int k, cs, r, x, us, L, hd, H => by
    simp only [decT] at hd
    split at hd <;> first | (simp at hd; done) | skip
    split at hd
    · simp only [af, aG] at hd
      obtain ⟨rfl, rfl⟩ := hd
      subst_vars
      obtain ⟨u, us', L1, L2, rfl, rfl, ⟨rfl, rfl⟩, h2⟩ := H
      exact ⟨[_], us', [], L2, rfl, rfl, ⟨rfl, rfl⟩, h2⟩
    · simp at hd
  | .bool, cs, r, x, us, L, hd, H => by
    simp only [decT] at hd
    split at hd <;> first | (simp at hd; done) | skip
    simp only [af, aG] at hd
    obtain ⟨rfl, rfl⟩ := hd
    obtain ⟨u, us', L1, L2, rfl, rfl, ⟨rfl, rfl⟩, h2⟩ := H
    exact ⟨[_], us', [], L2, rfl, rfl, ⟨rfl, rfl⟩, h2⟩
  | .str, cs, r, x, us, L, hd, H => by
    simp only [decT] at hd
    split at hd <;> first | (simp at hd; done) | skip
    simp only [af, aG] at hd
    obtain ⟨rfl, rfl⟩ := hd
    obtain ⟨u, us', L1, L2, rfl, rfl, ⟨rfl, rfl⟩, h2⟩ := H
    exact ⟨[_], us', [], L2, rfl, rfl, ⟨rfl, rfl⟩, h2⟩
  | .un, cs, r, x, us, L, hd, H => by
    simp only [decT, af, aG] at hd
    obtain ⟨_, rfl⟩ := hd
    exact ⟨[], us, [], L, rfl, rfl, ⟨rfl, rfl⟩, H⟩
  | .pr a b, cs, r, x, us, L, hd, H => by
    simp only [decT, ax, af, aG] at hd
    obtain ⟨⟨x1, r1⟩, hd1, ⟨x2, r2⟩, hd2, rfl, rfl⟩ := hd
    obtain ⟨us1, us2, L1, L2, rfl, rfl, h1, h2⟩ := CT.dec hd1 H
    obtain ⟨us3, us4, L3, L4, rfl, rfl, h3, h4⟩ := CT.dec hd2 h2
    exact ⟨us1 ++ us3, us4, L1 ++ L3, L4, by simp, by simp, ⟨us1, us3, L1, L3, rfl, rfl, h1, h3⟩, h4⟩
  | .sl t, cs, r, x, us, L, hd, H => by
    simp only [decT] at hd
    split at hd <;> first | (simp at hd; done) | skip
    · simp only [ax, af, aG] at hd
      obtain ⟨l', hc, rfl, rfl⟩ := hd
      obtain ⟨rfl, rfl⟩ := eY hc
      obtain ⟨u, us', L1, L2, rfl, rfl, h1, h2⟩ := H
      exact ⟨[u], us', L1, L2, rfl, rfl, h1, h2⟩
    · simp only [af, aG] at hd
      obtain ⟨rfl, rfl⟩ := hd
      obtain ⟨u, us', L1, L2, rfl, rfl, ⟨rfl, rfl⟩, h2⟩ := H
      exact ⟨[_], us', [], L2, rfl, rfl, ⟨_, rfl, .inl ⟨rfl, rfl, rfl⟩⟩, h2⟩
  | .ref t, cs, r, x, us, L, hd, H => by
    simp only [decT] at hd
    split at hd <;> first | (simp at hd; done) | skip
    simp only [ax, af, aG] at hd
    obtain ⟨l', hc, rfl, rfl⟩ := hd
    obtain ⟨rfl, rfl⟩ := eY hc
    obtain ⟨u, us', L1, L2, rfl, rfl, ⟨rfl, h1⟩, h2⟩ := H
    simp only [FV] at h1
    obtain ⟨b, o, rfl, hb, L1, L3, e, ⟨vs, g1, g2⟩, _⟩ := h1
    obtain ⟨rfl, rfl⟩ := List.append_eq_nil_iff.1 e.symm
    exact ⟨[_], us', [], L2, rfl, rfl, ⟨b, o, vs, by simp, rfl, hb (by simp), g1, g2⟩, h2⟩
  | .cl g t, cs, r, x, us, L, hd, H => by
    simp only [decT] at hd
    split at hd <;> first | (simp at hd; done) | skip
    rename_i g' ca r'
    cases hb : Nat.beq g' g with
    | false => rw [hb] at hd; simp at hd
    | true =>
      have hg := Nat.eq_of_beq_eq_true hb
      subst hg
      rw [hb] at hd
      simp only [ag] at hd
      split at hd
      · rename_i y hy
        simp only [af, aG] at hd
        obtain ⟨rfl, rfl⟩ := hd
        obtain ⟨u, us', L1, L2, rfl, rfl, ⟨rfl, h1⟩, h2⟩ := H
        simp only [FV, FVl] at h1
        obtain ⟨us0, vs, rfl, rfl, g2⟩ := h1
        obtain ⟨v1, v2, La, Lb, rfl, e, k1, k2⟩ := CT.dec hy g2.ct
        obtain ⟨rfl, rfl⟩ := List.append_eq_nil_iff.1 e.symm
        obtain ⟨rfl, _⟩ := k2
        exact ⟨[_], us', [], L2, rfl, rfl, ⟨v1, by simp, rfl, k1⟩, h2⟩
      · simp at hd
theorem CT.eF {t : Ty} {cs : List TV} {x : den t} {us : List Value} {L : List Nat} (hd : eF t cs = some x) (H : CT w ab ok cs us L) : TRl w ab ok t x us L := by
  unfold Go.Tw.eF at hd
  split at hd
  · rename_i y hy
    simp only [af] at hd; subst hd
    obtain ⟨us1, us2, L1, L2, rfl, rfl, h1, h2⟩ := CT.dec hy H
    obtain ⟨rfl, rfl⟩ := h2
    simpa using h1
  · simp at hd
theorem Bx.vr {x : TV} {v : Value} (H : Bx w ab ok x v []) : VR w ab ok μ h n x v := FV.vr _ _ H.fv
theorem jo {L1 L2 : List Nat} (h : [] = L1 ++ L2) : L1 = [] ∧ L2 = [] := List.append_eq_nil_iff.1 h.symm
theorem CT.zJ : ∀ {cs : List TV} {us : List Value}, CT w ab ok cs us [] → VRl w ab ok μ h n cs us
  | [], us, H => by simp [VRl, H.1]
  | c :: cs, us, H => by
    obtain ⟨u, us', L1, L2, rfl, hL, h1, h2⟩ := H
    obtain ⟨rfl, rfl⟩ := jo hL
    simp only [VRl]; exact ⟨u, us', rfl, h1.vr, CT.zJ h2⟩
theorem CT.pmap : ∀ l : List Value, CT w ab ok (l.map .p) l []
  | [] => ⟨rfl, rfl⟩
  | x :: l => ⟨x, l, [], [], rfl, rfl, ⟨rfl, rfl⟩, CT.pmap l⟩
theorem CT.nB {cs : List TV} {us : List Value} (hf : flatB cs = true) (H : VRl w ab ok μ h n cs us) : CT w ab ok cs us [] := (FVl.of _ _ hf H).ct
theorem TRl.qD (hi : ∀ b, ab b → imm' b) : ∀ {t : Ty} {x : den t} {us : List Value} {L : List Nat}, (∀ b ∈ L, imm' b) → TRl w ab ok t x us L → TRl w imm' ok' t x us []
  | .int _, _, _, _, _, h => ⟨h.1, rfl⟩
  | .bool, _, _, _, _, h => ⟨h.1, rfl⟩
  | .str, _, _, _, _, h => ⟨h.1, rfl⟩
  | .un, _, _, _, _, h => ⟨h.1, rfl⟩
  | .pr a b, x, us, L, hL, h => by
    obtain ⟨u1, u2, L1, L2, rfl, rfl, h1, h2⟩ := h
    exact ⟨u1, u2, [], [], rfl, rfl, TRl.qD hi (fun b hb => hL b (by simp [hb])) h1, TRl.qD hi (fun b hb => hL b (by simp [hb])) h2⟩
  | .sl t, l, us, L, hL, h => by
    obtain ⟨v, rfl, h⟩ := h
    refine ⟨v, rfl, ?_⟩
    rcases h with ⟨h1, h2, _⟩ | ⟨A, cap, L', h1, h2, h3, h4⟩
    · exact .inl ⟨h1, h2, rfl⟩
    · refine .inr ⟨A, cap, [], h1, h2, ?_, .inl ⟨rfl, rfl, ?_, ?_⟩⟩
      · have hL' : ∀ k ∈ L', imm' k := by
          rcases h4 with ⟨_, rfl, _⟩ | ⟨rfl, _⟩
          · simp
          · exact fun k hk => hL k (by simp [hk])
        clear h1 h2 h4 hL
        generalize A.off = o at h3
        induction l generalizing o L' with
        | nil => simp [RL]
        | cons y l ih =>
          simp only [RL] at h3 ⊢
          obtain ⟨La, Lb, rfl, ⟨us, g1, g2⟩, g3⟩ := h3
          exact ⟨[], [], rfl, ⟨us, TRl.qD hi (fun k hk => hL' k (by simp [hk])) g1, g2⟩, ih _ (fun k hk => hL' k (by simp [hk])) _ g3⟩
      · rcases h4 with ⟨_, _, ⟨b0, h0⟩, h4⟩ | ⟨rfl, h4, _⟩
        · exact ⟨b0, hi _ h0⟩
        · exact ⟨A.block, hL _ (by simp)⟩
      · rcases h4 with ⟨_, _, _, h4⟩ | ⟨rfl, h4, _⟩
        · exact fun hl => ⟨(h4 hl).1, hi _ (h4 hl).2⟩
        · exact fun _ => ⟨h4, hL _ (by simp)⟩
  | .ref t, x, us, L, hL, h => by
    obtain ⟨b, o, vs, rfl, rfl, h1, h2, h3⟩ := h
    exact ⟨b, o, vs, rfl, rfl, hi b h1, TRl.qD hi (by simp) h2, h3⟩
  | .cl g t, x, us, L, hL, h => by
    obtain ⟨vs, rfl, rfl, h1⟩ := h
    exact ⟨vs, rfl, rfl, TRl.qD hi (by simp) h1⟩
theorem RL.qD {t : Ty} (hi : ∀ b, ab b → imm' b) : ∀ {l : List (den t)} {b o : Nat} {L : List Nat}, (∀ k ∈ L, imm' k) → RL (oW w ab ok t) (sz t) l b o L → RL (oW w imm' ok' t) (sz t) l b o []
  | [], _, _, _, _, _ => rfl
  | x :: l, b, o, L, hL, h => by
    simp only [RL] at h ⊢
    obtain ⟨L1, L2, rfl, ⟨us, g1, g2⟩, g3⟩ := h
    exact ⟨[], [], rfl, ⟨us, TRl.qD hi (fun k hk => hL k (by simp [hk])) g1, g2⟩, RL.qD hi (fun k hk => hL k (by simp [hk])) g3⟩
theorem mM.tree {m : Mu} {t : Ty} {l : List (den t)} {off len : Nat} {v : Value} {L : List Nat} (H : mM w m (sz t) off len v) (hle : off + len ≤ l.length) (hii : ∀ b, ab b → imm' b)
    (hR : m.bk = true → RL (oW w ab ok t) (sz t) l m.cY m.off L ∧ (∀ b ∈ L, imm' b) ∧ imm' m.cY) : TRl w imm' ok' (.sl t) ((l.drop off).take len) [v] [] := by
  refine ⟨v, rfl, ?_⟩
  have hlen : ((l.drop off).take len).length = len := by simp; omega
  rcases H with ⟨rfl, rfl⟩ | ⟨o, cap, rfl, h1, h2, h3, h4⟩
  · exact .inl ⟨rfl, by simp, rfl⟩
  · obtain ⟨q1, q2, q3⟩ := hR h2
    refine .inr ⟨_, cap, [], by rw [hlen], by omega, ?_, .inl ⟨rfl, rfl, ⟨_, q3⟩, fun _ => ⟨rfl, q3⟩⟩⟩
    obtain ⟨L1, L2, L3, rfl, hs⟩ := RL.sub off len (by omega) q1
    rcases Nat.eq_zero_or_pos cap with hz | hp
    · have hl0 : len = 0 := by omega
      subst hl0; simp [RL]
    · simp only; rw [(h4 hp).1]; exact RL.qD hii (fun k hk => q2 k (by simp [hk])) hs
end
end Go.Tw
namespace Go.Tw
open Go Go.RowKit
variable [k7]
section
variable {w : World} {ab ok : Nat → Prop} {μ : Nat → Mu} {h : ay} {n : Nat}
theorem nV : ∀ {t : Ty} {x : den t} {t' : Ty} {l : List (den t')}, TV.tr t' l ∈ encT t x → hasSl t = true
  | .int _, _, _, _, H => by simp [encT] at H
  | .bool, _, _, _, H => by simp [encT] at H
  | .str, _, _, _, H => by simp [encT] at H
  | .un, _, _, _, H => by simp [encT] at H
  | .pr a b, x, t', l, H => by
    simp only [encT, List.mem_append] at H
    simp only [hasSl, Bool.or_eq_true]
    rcases H with H | H
    · exact .inl (nV H)
    · exact .inr (nV H)
  | .sl t, _, _, _, H => rfl
  | .ref t, _, _, _, H => rfl
  | .cl g t, _, _, _, H => rfl
theorem yE {r i : Nat} {fr : Bool} {t : Ty} {l : List (den t)} {im ok' : Nat → Prop} (hr : r < n) (hil : i < l.length) (hg : hget h r = some (.row fr t l)) (hb : (μ r).bk = true) : ∀ {cs : List TV} {us : List Value} {L : List Nat} {off : Nat},
    (∀ t' l', TV.tr t' l' ∈ cs → hasSl t = true) → CT w im ok' cs us L → At w (μ r).cY ((μ r).off + i * sz t + off) us → VRl w ab ok μ h n (innL r i off cs) us
  | [], us, L, off, _, H, _ => by simp [innL, VRl, H.1]
  | c :: cs, us, L, off, hs, H, ha => by
    obtain ⟨u, us', L1, L2, rfl, rfl, h1, h2⟩ := H
    obtain ⟨a1, a2⟩ := At.cons.1 ha
    have ih := yE hr hil hg hb (off := off + 1) (fun t' l' hm => hs t' l' (by simp [hm])) h2 (by rwa [show (μ r).off + i * sz t + (off + 1) = (μ r).off + i * sz t + off + 1 by omega])
    cases c with
    | p v => simp only [innL, VRl]; exact ⟨u, us', rfl, by simpa [VR] using h1.1, ih⟩
    | tr t' l' =>
      simp only [innL, VRl]
      refine ⟨u, us', rfl, ?_, ih⟩
      simp only [VR, hg]
      obtain ⟨v, e, hv⟩ := h1
      simp only [List.cons.injEq, and_true] at e
      subst e
      exact ⟨hr, hv.one, hs t' l' (by simp), hil, hb, a1⟩
    | fm => simp only [innL, VRl]; exact ⟨u, us', rfl, by simp [VR], ih⟩
    | fn => simp only [innL, VRl]; exact ⟨u, us', rfl, by simp [VR], ih⟩
    | _ => exact h1.elim
theorem RR.oX {r : Nat} {fr : Bool} {t : Ty} {l : List (den t)} {L : List Nat} (H : RR w ab ok μ h n r (.row fr t l) L) : (μ r).bk = true → ∃ L', L = (μ r).cY :: L' ∧ ok (μ r).cY ∧ Row w (μ r).cY ((μ r).off + l.length * sz t) ∧ RL (oW w (cI fr ab) ok t) (sz t) l (μ r).cY (μ r).off L' := by
  intro hb
  simp only [RR] at H
  rcases H with ⟨h1, _⟩ | ⟨_, H⟩
  · rw [hb] at h1; simp at h1
  · exact H
theorem RR.bk {r : Nat} {fr : Bool} {t : Ty} {l : List (den t)} {L : List Nat} (H : RR w ab ok μ h n r (.row fr t l) L) (hl : l ≠ []) : (μ r).bk = true := by
  simp only [RR] at H
  rcases H with ⟨_, h1, _⟩ | ⟨h1, _⟩
  · exact absurd h1 hl
  · exact h1
theorem HR.lt {D : List Nat} (H : HR w ab ok μ h n D) {r : Nat} {x : dq} (hg : hget h r = some x) : r < n := by
  obtain ⟨own, H, _⟩ := H; exact (H r x hg).1
theorem EJ {I ok' : Nat → Prop} (H : ∀ r x, hget h r = some x → ∃ L, RR w ab ok μ h n r x L ∧ ∀ b ∈ L, I b) (hlt : ∀ b, ab b → I b) : ∀ {c f : TV} {v : Value}, frzC h c = some f → VR w ab ok μ h n c v → Bx w I ok' f v [] := by
  intro c f v hf hv
  unfold frzC at hf
  split at hf
  · simp only [af] at hf; subst hf; exact ⟨by simpa [VR] using hv, rfl⟩
  · simp only [af] at hf; subst hf
    simp only [VR] at hv
    exact TRl.qD (t := .sl _) hlt (by simp) hv
  · rename_i r
    split at hf
    · rename_i fr t l hg
      simp only [af] at hf; subst hf
      simp only [VR, hg] at hv
      obtain ⟨L, hR, hLI⟩ := H r _ hg
      have := mM.tree (ab := cI fr ab) (ok := ok) (imm' := I) (ok' := ok') (l := l) hv.2 (by omega) (fun b hb => hlt b hb.2) (L := L.tail) (fun hb => by
        obtain ⟨L', rfl, g1, g2, g3⟩ := hR.oX hb
        exact ⟨g3, fun b hb => hLI b (by simp at hb; simp [hb]), hLI _ (by simp)⟩)
      simp only [List.drop_zero, List.take_length] at this; exact this
    · simp at hf
  · rename_i r off len
    split at hf
    · rename_i fr t l hg
      simp only [af] at hf; subst hf
      simp only [VR, hg] at hv
      obtain ⟨L, hR, hLI⟩ := H r _ hg
      exact mM.tree (ab := cI fr ab) (ok := ok) (l := l) hv.2.2 hv.2.1 (fun b hb => hlt b hb.2) (L := L.tail) (fun hb => by
        obtain ⟨L', rfl, g1, g2, g3⟩ := hR.oX hb
        exact ⟨g3, fun b hb => hLI b (by simp at hb; simp [hb]), hLI _ (by simp)⟩)
    · simp at hf
  · rename_i r i off
    split at hf
    · rename_i fr t l hg
      split at hf
      · rename_i t' l' he
        simp only [af] at hf; subst hf
        simp only [VR, hg] at hv
        obtain ⟨hr, h0, g1, hil, g2, g3⟩ := hv
        obtain ⟨L, hR, hLI⟩ := H r _ hg
        obtain ⟨L', rfl, k1, k2, k3⟩ := hR.oX g2
        obtain ⟨La, Lb, Lc, e, m1, ⟨us, m2, m3⟩, m4⟩ := RL.at (eX t) hil k3
        have hct := m2.oZ
        have hdrop : ∃ cs, (encT t (l.getD i (eX t))) = (encT t (l.getD i (eX t))).take off ++ (.tr t' l' :: cs) := by
          cases hd : (encT t (l.getD i (eX t))).drop off with
          | nil => rw [hd] at he; simp at he
          | cons y ys => rw [hd] at he; simp at he; subst he; exact ⟨ys, by rw [← hd]; simp⟩
        obtain ⟨cs, hcs⟩ := hdrop
        rw [hcs] at hct
        obtain ⟨us1, us2, L1, L2, rfl, rfl, c1, u, us', L3, L4, rfl, rfl, c2, c3⟩ := CT.app.1 hct
        have hl1 := c1.length
        have hofl : off < (encT t (l.getD i (eX t))).length := by
          rcases Nat.lt_or_ge off (encT t (l.getD i (eX t))).length with hl | hl
          · exact hl
          · rw [List.drop_of_length_le hl] at he; simp at he
        have hol : us1.length = off := by rw [hl1, List.length_take]; omega
        obtain ⟨_, a2⟩ := At.app.1 m3
        obtain ⟨a3, _⟩ := At.cons.1 a2
        rw [hol] at a3
        rw [a3] at g3
        simp only [af] at g3; subst g3
        exact TRl.qD (t := .sl _) (fun b hb => hlt b hb.2) (fun b hb => hLI b (by rw [e]; simp [hb])) c2
      · simp at hf
    · simp at hf
  · simp at hf
theorem HR.JX {D : List Nat} (H : HR w ab ok μ h n D) : ∀ r x, hget h r = some x → ∃ L, RR w ab ok μ h n r x L ∧ ∀ b ∈ L, b < w.heap.size ∧ b ∉ D := by
  intro r x hx
  obtain ⟨own, H, hD⟩ := H
  obtain ⟨_, L, hR, _, ho⟩ := H r x hx
  exact ⟨L, hR, fun b hb => ⟨(hR.blocks b hb).2, fun hd => by have := hD.2 b hd; rw [ho b hb] at this; simp at this⟩⟩
theorem Ac {D : List Nat} (H : HR w ab ok μ h n D) (hlt : ∀ b, ab b → b < w.heap.size) {c f : TV} {v : Value} (hf : frzC h c = some f) (hv : VR w ab ok μ h n c v) : Bx w (· < w.heap.size) (fun b => w.heap.size ≤ b) f v [] :=
  EJ (I := (· < w.heap.size)) (fun r x hx => by obtain ⟨L, h1, h2⟩ := H.JX r x hx; exact ⟨L, h1, fun b hb => (h2 b hb).1⟩) hlt hf hv
end
end Go.Tw
namespace Go.Tw
open Go Go.RowKit
variable [k7]
theorem ah {α : Type} {b : Bool} {x : Option α} {y : α} : (bif b then x else none) = some y ↔ b = true ∧ x = some y := by
  cases b <;> simp
def ks (A : lp) (s : List (Nat × TV)) : List (Nat × TV) := match A.k with | some r => killS r s | none => s
section
variable {c : Cx} {σ : St} {a : Act} {w : World} {A : lp} {o : Oper} {s' : List (Nat × TV)}
theorem yr (hs : dH c σ a w) {x : Operand} {i : Nat} (ho : o.op = .extract x i) (hx : ex c.P o.op (ev σ.s) σ.h σ.n = some A) (hc : A.c = true) (hput : sput c.m o.dst A.v (ks A σ.s) = some s') : bR c o a w ⟨s', A.h, A.n⟩ := by
  rw [ho] at hx; simp only [ex] at hx
  split at hx
  · rename_i vs hq
    obtain ⟨hb, hx⟩ := ah.1 hx
    simp only [af] at hx; subst hx
    obtain ⟨_, _, _, μ, hH, hl, hg⟩ := id hs
    have hv := SR.iR hl x
    rw [hq] at hv
    simp only [VR] at hv
    obtain ⟨us, he, hx⟩ := hv
    have hi : i < us.length := by rw [← hx.length]; simpa [Nat.blt_eq] using hb
    refine bR.quiet hs (v := us.getD i undef) (fun w1 hb1 => ?_) hput (fun μ' hl' _ => ?_)
    · simp [execOp, ho, Instr.extract, he, List.getElem?_eq_getElem hi]
    · have hv' := SR.iR hl' x
      rw [hq, he] at hv'
      simp only [VR] at hv'
      obtain ⟨us', he', hx'⟩ := hv'
      simp only [Value.tuple.injEq] at he'
      have e2 : us' = us := by simpa using he'.symm
      subst e2
      exact hx'.get i
  · simp at hx
theorem GY (hs : dH c σ a w) {op : UnOp} {t : TypeId} {x : Operand} (ho : o.op = .unOp op t x) (hx : ex c.P o.op (ev σ.s) σ.h σ.n = some A) (hc : A.c = true) (hput : sput c.m o.dst A.v (ks A σ.s) = some s') : bR c o a w ⟨s', A.h, A.n⟩ := by
  rw [ho] at hx; simp only [ex] at hx
  obtain ⟨_, _, _, μ, hH, hl, hg⟩ := id hs
  have hv := SR.iR hl x
  split at hx
  · rename_i b hq
    simp only [af] at hx; subst hx
    rw [hq] at hv
    exact bR.quiet hs (v := .bool !b) (fun w1 hb1 => by simp [execOp, ho, Op.unary, hv.iy]) hput (fun μ' hl' _ => by simp [VR])
  · rename_i k m hq
    simp only [af] at hx; subst hx
    rw [hq] at hv
    exact bR.quiet hs (v := .int k (k.wrap (0 - m))) (fun w1 hb1 => by simp [execOp, ho, Op.unary, hv.iy, Op.intArith]) hput (fun μ' hl' _ => by simp [VR])
  · simp at hx
theorem yq (hs : dH c σ a w) {s d : TypeId} {x : Operand} (ho : o.op = .convert s d x) (hx : ex c.P o.op (ev σ.s) σ.h σ.n = some A) (hc : A.c = true) (hput : sput c.m o.dst A.v (ks A σ.s) = some s') (hbyt : bytC c.P s d (ev σ.s x) σ.h σ.n = some A → bR c o a w ⟨s', A.h, A.n⟩) : bR c o a w ⟨s', A.h, A.n⟩ := by
  rw [ho] at hx; simp only [ex] at hx
  obtain ⟨_, _, _, μ, hH, hl, hg⟩ := id hs
  have hv := SR.iR hl x
  split at hx
  · rename_i k0 k k1 m h1 h2 hq
    simp only [af] at hx; subst hx
    rw [hq] at hv
    exact bR.quiet hs (v := .int k (k.wrap m)) (fun w1 hb1 => by simp [execOp, ho, Go.convert, underlying, h1, h2, hv.iy, Conv.intToInt]) hput (fun μ' hl' _ => by simp [VR])
  · rename_i b h1 h2 hq
    simp only [af] at hx; subst hx
    rw [hq] at hv
    exact bR.quiet hs (v := .string b) (fun w1 hb1 => by simp [execOp, ho, Go.convert, underlying, h1, h2, hv.iy]) hput (fun μ' hl' _ => by simp [VR])
  · exact hbyt hx
theorem pW (hs : dH c σ a w) {t : TypeId} {x : Operand} (ho : o.op = .makeInterface t x) (hx : ex c.P o.op (ev σ.s) σ.h σ.n = some A) (hc : A.c = true) (hput : sput c.m o.dst A.v (ks A σ.s) = some s') : bR c o a w ⟨s', A.h, A.n⟩ := by
  rw [ho] at hx; simp only [ex] at hx
  cases hu : c.P.underlying t with
  | none => simp [hu] at hx
  | some d =>
    have key : A = { v := .oV t (ev σ.s x), h := σ.h, n := σ.n, c := true } ∧ (∀ ms, d ≠ .interface ms) := by
      cases d <;> simp [hu] at hx <;> exact ⟨hx.symm, by simp⟩
    obtain ⟨rfl, hd⟩ := key
    refine bR.quiet hs (v := .iface t (a.eval x)) (fun w1 hb1 => ?_) hput (fun μ' hl' _ => by simp only [VR]; exact ⟨_, rfl, hl'.iR x⟩)
    cases d <;> simp at hd <;> simp [execOp, ho, Instr.makeInterface, underlying, hu]
theorem wh (hs : dH c σ a w) {fn : Fn} {first cap : Array Operand} (ho : o.op = .makeFunc fn first cap) (hx : ex c.P o.op (ev σ.s) σ.h σ.n = some A) (hc : A.c = true) (hput : sput c.m o.dst A.v (ks A σ.s) = some s') : bR c o a w ⟨s', A.h, A.n⟩ := by
  rw [ho] at hx; simp only [ex, af] at hx; subst hx
  refine bR.quiet hs (v := .func fn (first.map a.eval) (cap.map a.eval)) (fun w1 hb1 => by simp [execOp, ho, Instr.makeFunc]) hput (fun μ' hl' _ => ?_)
  simp only [VR]
  exact ⟨first.toList.map a.eval, cap.toList.map a.eval, by simp only [Value.func.injEq, true_and]; constructor <;> (apply Array.ext'; simp), hl'.map _, hl'.map _⟩
theorem wg (hs : dH c σ a w) {x : Operand} (ho : o.op = .nilCheck x) (hx : ex c.P o.op (ev σ.s) σ.h σ.n = some A) (hc : A.c = true) (hput : sput c.m o.dst A.v (ks A σ.s) = some s') : bR c o a w ⟨s', A.h, A.n⟩ := by
  rw [ho] at hx; simp only [ex] at hx
  obtain ⟨_, _, _, μ, hH, hl, hg⟩ := id hs
  have hv := SR.iR hl x
  split at hx
  · rename_i r i off hq
    simp only [af] at hx; subst hx
    rw [hq] at hv
    simp only [VR] at hv
    obtain ⟨_, B, he, _⟩ := hv
    exact bR.quiet hs (v := a.eval x) (fun w1 hb1 => by simp [execOp, ho, he]) hput (fun μ' hl' _ => by rw [← hq]; exact hl'.iR x)
  · rename_i t l i off hq
    simp only [af] at hx; subst hx
    rw [hq] at hv
    simp only [VR] at hv
    obtain ⟨b, o', he, _⟩ := hv
    exact bR.quiet hs (v := a.eval x) (fun w1 hb1 => by simp [execOp, ho, he]) hput (fun μ' hl' _ => by rw [← hq]; exact hl'.iR x)
  · simp at hx
theorem uS (hs : dH c σ a w) {s : TypeId} {x : Operand} {f : Nat} (ho : o.op = .fieldAddr s x f) (hx : ex c.P o.op (ev σ.s) σ.h σ.n = some A) (hc : A.c = true) (hput : sput c.m o.dst A.v (ks A σ.s) = some s') : bR c o a w ⟨s', A.h, A.n⟩ := by
  rw [ho] at hx; simp only [ex] at hx
  obtain ⟨_, _, _, μ, hH, hl, hg⟩ := id hs
  have hv := SR.iR hl x
  split at hx
  · rename_i fo r i off hf hq
    simp only [af] at hx; subst hx
    rw [hq] at hv
    simp only [VR] at hv
    obtain ⟨ha, B, he, hm⟩ := hv
    refine bR.quiet hs (v := .pointer (some (B.add fo))) (fun w1 hb1 => by simp [execOp, ho, he, qo hf]) hput (fun μ' hl' _ => ?_)
    have hv' := SR.iR hl' x
    rw [hq] at hv'
    simp only [VR] at hv' ⊢
    obtain ⟨ha', B', he', hm'⟩ := hv'
    rw [he] at he'
    simp only [Value.pointer.injEq, af] at he'
    subst he'
    refine ⟨ha', _, rfl, ?_⟩
    cases hg : hget σ.h r with
    | none => trivial
    | some y => cases y with
      | box cs => simp only [hg] at hm' ⊢; rw [hm', ia]; simp only [Nat.add_assoc]
      | mp _ _ => trivial
      | row fr t l => simp only [hg] at hm' ⊢; rw [hm', ia]; simp only [Nat.add_assoc]
  · rename_i fo t l i off hf hq
    simp only [af] at hx; subst hx
    rw [hq] at hv
    simp only [VR] at hv
    obtain ⟨b, o', he, hb, _⟩ := hv
    refine bR.quiet hs (v := .pointer (some ⟨b, o' + i * sz t + off + fo, none⟩)) (fun w1 hb1 => by simp [execOp, ho, he, qo hf, ia]) hput (fun μ' hl' _ => ?_)
    have hv' := SR.iR hl' x
    rw [hq] at hv'
    simp only [VR] at hv' ⊢
    obtain ⟨b', o'', he', hb', ht⟩ := hv'
    rw [he] at he'
    simp only [Value.pointer.injEq, af, Addr.mk.injEq] at he'
    exact ⟨b', o'', by simp only [Value.pointer.injEq, af, Addr.mk.injEq, and_true]; refine ⟨he'.1, ?_⟩; rw [he'.2.1]; omega, hb', ht⟩
  · simp at hx
theorem EG (hs : dH c σ a w) {t : TypeId} {x i : Operand} (ho : o.op = .index t x i) (hx : ex c.P o.op (ev σ.s) σ.h σ.n = some A) (hc : A.c = true) (hput : sput c.m o.dst A.v (ks A σ.s) = some s') : bR c o a w ⟨s', A.h, A.n⟩ := by
  rw [ho] at hx; simp only [ex] at hx
  obtain ⟨_, _, _, μ, hH, hl, hg⟩ := id hs
  have hv := SR.iR hl x
  have hvi := SR.iR hl i
  split at hx
  · rename_i s k j hu hq hi
    simp only [af] at hx; subst hx
    rw [hq] at hv
    rw [hi] at hvi
    simp only [aA, bF] at hc
    obtain ⟨h0, h1⟩ := hc
    have e1 := hv.iy
    have ei := hvi.iy
    refine bR.quiet hs (v := .int .u8 (s.data.toList.getD j.toNat 0).toNat) (fun w1 hb1 => ?_) hput (fun μ' hl' _ => by simp [VR])
    have hlt : j.toNat < s.size := by omega
    have e2 : s[j.toNat]? = some (s[j.toNat]'hlt) := ByteArray.getElem?_lt' s j.toNat hlt
    have e3 : s.data.toList.getD j.toNat 0 = s[j.toNat]'hlt := by
      have hlt' : j.toNat < s.data.toList.length := by simpa using hlt
      simp only [List.getD, List.getElem?_eq_getElem hlt', Option.getD_some]
      rfl
    simp [execOp, ho, e1, ei, Instr.index, asIntOf, underlying, hu, h0, e2]
    rw [← e3]; simp
  · simp at hx
theorem yG {ab ok : Nat → Prop} {t : Ty} {l : List (den t)} {v : Value} {L : List Nat} (H : TRl w ab ok (.sl t) l [v] L) : ∃ B cap, v = .slice B l.length cap := by
  obtain ⟨u, e, h⟩ := H
  simp only [List.cons.injEq, and_true] at e
  subst e
  rcases h with ⟨rfl, rfl, _⟩ | ⟨B, cap, L', rfl, _⟩
  · exact ⟨_, _, rfl⟩
  · exact ⟨_, _, rfl⟩
theorem mM.len {m : Mu} {s off len : Nat} {v : Value} (H : mM w m s off len v) : ∃ B cap, v = .slice B len cap := by
  rcases H with ⟨rfl, rfl⟩ | ⟨o, cap, rfl, _⟩ <;> exact ⟨_, _, rfl⟩
theorem JW (hs : dH c σ a w) {cl : Call} (ho : o.op = .call cl) (hcl : cl.callee = .builtin .len) (hx : ex c.P o.op (ev σ.s) σ.h σ.n = some A) (hc : A.c = true) (hput : sput c.m o.dst A.v (ks A σ.s) = some s') : bR c o a w ⟨s', A.h, A.n⟩ := by
  rw [ho] at hx; simp only [ex, hcl] at hx
  obtain ⟨_, _, _, μ, hH, hl, hg⟩ := id hs
  split at hx
  · rename_i x d hargs hd
    simp only [Option.map_eq_some_iff] at hx
    obtain ⟨m, hm, rfl⟩ := hx
    have hv := SR.iR hl x
    have hargs' : (cl.args.map a.eval)[0]? = some (a.eval x) := by
      have : cl.args = [x].toArray := by rw [← hargs]
      rw [this]; simp
    cases ht : cl.argTypes[0]? with
    | none => simp [ht] at hd
    | some t =>
      simp only [ht, ai] at hd
      have hu : ∀ w : World, (underlying t).run c.P w = .ok d w := by intro w; simp [underlying, hd]
      have key : ((∃ s, a.eval x = .string s ∧ s.size = m ∧ d = .string) ∨ (∃ B cap, a.eval x = .slice B m cap ∧ ∃ e, d = .slice e)) ∨ (∃ b es k, a.eval x = .map (some b) ∧ w.heap[b]? = some (.map es k) ∧ es.size = m ∧ ∃ e f, d = .map e f) := by
        unfold lenS at hm
        split at hm
        · rename_i s hq
          simp only [af] at hm; subst hm
          rw [hq] at hv
          exact .inl (.inl ⟨s, hv.iy, rfl, rfl⟩)
        · rename_i e
          split at hm
          · rename_i hf
            simp only [af] at hm; subst hm
            have := Ac hH hs.lt hf hv
            exact .inl (.inr ⟨_, _, this.1, _, rfl⟩)
          · rename_i t' l hf
            simp only [af] at hm; subst hm
            have := Ac hH hs.lt hf hv
            obtain ⟨B, cap, h1⟩ := yG this
            exact .inl (.inr ⟨B, cap, h1, _, rfl⟩)
          · simp at hm
        · rename_i e f r hq
          split at hm
          · rename_i k l hgm
            simp only [af] at hm; subst hm
            rw [hq] at hv
            simp only [VR, hgm] at hv
            obtain ⟨_, b, e1, rfl⟩ := hv
            obtain ⟨L, hR⟩ := hH.row hgm
            simp only [RR] at hR
            obtain ⟨_, _, l', hpm, _, es, cl, h1, h2⟩ := hR
            have h3 := congrArg List.length h2
            simp only [List.length_map, Array.length_toList, hpm.length_eq] at h3
            exact .inr ⟨_, es, cl, e1, h1, h3, _, _, rfl⟩
          · simp at hm
        · simp at hm
      refine bR.quiet hs (fun w1 hb1 => qG ho hcl (v := .int .i64 m) ?_) hput (fun _ _ _ => by simp [VR])
      unfold Builtin.len_
      rcases key with (⟨s, h1, h2, h3⟩ | ⟨B, cap, h1, e, h3⟩) | ⟨b, es, k, h1, h2, h3, e, f, h4⟩
      · subst h3; simp [ht, hargs', h1, hu, h2, goInt]
      · subst h3; simp [ht, hargs', h1, hu, goInt]
      · subst h4
        have h5 : w1.heap[b]? = some (.map es k) := (hb1.block b (Array.getElem?_eq_some_iff.1 h2).1).trans h2
        simp [ht, hargs', h1, hu, goInt, MapKept.run_getObj_map h5, h3]
  · simp at hx
theorem uT (hs : dH c σ a w) {t : TypeId} {x i : Operand} (ho : o.op = .indexAddr t x i) (hx : ex c.P o.op (ev σ.s) σ.h σ.n = some A) (hc : A.c = true) (hput : sput c.m o.dst A.v (ks A σ.s) = some s') : bR c o a w ⟨s', A.h, A.n⟩ := by
  rw [ho] at hx; simp only [ex, indexAddrS] at hx
  obtain ⟨_, _, _, μ, hH, hl, hg⟩ := id hs
  have hv := SR.iR hl x
  have hvi := SR.iR hl i
  split at hx
  · rename_i size bytes z k j ht hi
    rw [hi] at hvi
    have ei := hvi.iy
    split at hx
    · rename_i t0 l hq
      obtain ⟨hb, hx⟩ := ah.1 hx
      simp only [af] at hx; subst hx
      simp only [aA, bF] at hc
      obtain ⟨h0, h1⟩ := hc
      have hsz : sz t0 = size := Nat.eq_of_beq_eq_true hb
      rw [hq] at hv
      simp only [VR] at hv
      obtain ⟨u, e, hv⟩ := hv
      simp only [List.cons.injEq, and_true] at e
      rcases hv with ⟨_, rfl, _⟩ | ⟨B, cap, L', e1, hcap, hte, hA⟩
      · simp at h1; omega
      · rcases hA with ⟨_, rfl, _, hA⟩ | ⟨hn, _⟩
        · have hne : l ≠ [] := by rintro rfl; simp at h1; omega
          obtain ⟨hsp, him⟩ := hA hne
          obtain ⟨b, of, sp⟩ := B
          simp only at hsp; subst hsp
          refine bR.quiet hs (v := .pointer (some ⟨b, of + j.toNat * sz t0, none⟩)) (fun w1 hb1 => ?_) hput (fun μ' hl' _ => ?_)
          · rw [← e] at e1
            simp [execOp, ho, e1, ei, run_indexAt_slice ht h0 h1, ia, hsz]
          · simp only [VR]
            exact ⟨b, of, rfl, fun _ => him, hte⟩
        · simp at hn
    · rename_i r hq
      split at hx
      · rename_i fr t0 l hgr
        obtain ⟨hb, hx⟩ := ah.1 hx
        simp only [af] at hx; subst hx
        simp only [aA, bF] at hc
        obtain ⟨h0, h1⟩ := hc
        have hsz : sz t0 = size := Nat.eq_of_beq_eq_true hb
        rw [hq] at hv
        simp only [VR, hgr] at hv
        obtain ⟨hr, hv⟩ := hv
        rcases hv with ⟨_, h3⟩ | ⟨of, cap, e1, h2, h3, h4, h5⟩
        · omega
        · obtain ⟨h6, _⟩ := h5 (by omega)
          refine bR.quiet hs (v := .pointer (some ⟨(μ r).cY, of + j.toNat * sz t0, none⟩)) (fun w1 hb1 => ?_) hput (fun μ' hl' _ => ?_)
          · simp [execOp, ho, e1, ei, run_indexAt_slice ht h0 h1, ia, hsz]
          · have hv' := SR.iR hl' x
            rw [hq] at hv'
            simp only [VR, hgr] at hv' ⊢
            obtain ⟨_, hv'⟩ := hv'
            rcases hv' with ⟨_, h3'⟩ | ⟨of', cap', e1', h2', h3', h4', h5'⟩
            · omega
            · obtain ⟨h6', _⟩ := h5' (by omega)
              rw [e1] at e1'
              simp only [Value.slice.injEq, af, Addr.mk.injEq, and_true, true_and] at e1'
              refine ⟨hr, _, rfl, ?_⟩
              simp only [Addr.mk.injEq, and_true]
              refine ⟨e1'.1.1, ?_⟩
              rw [e1'.1.2, h6']; omega
      · simp at hx
    · rename_i r off len hq
      split at hx
      · rename_i fr t0 l hgr
        obtain ⟨hb, hx⟩ := ah.1 hx
        simp only [af] at hx; subst hx
        simp only [aA, bF] at hc
        obtain ⟨h0, h1⟩ := hc
        have hsz : sz t0 = size := Nat.eq_of_beq_eq_true hb
        rw [hq] at hv
        simp only [VR, hgr] at hv
        obtain ⟨hr, hle, hv⟩ := hv
        rcases hv with ⟨_, h3⟩ | ⟨of, cap, e1, h2, h3, h4, h5⟩
        · omega
        · obtain ⟨h6, _⟩ := h5 (by omega)
          refine bR.quiet hs (v := .pointer (some ⟨(μ r).cY, of + j.toNat * sz t0, none⟩)) (fun w1 hb1 => ?_) hput (fun μ' hl' _ => ?_)
          · simp [execOp, ho, e1, ei, run_indexAt_slice ht h0 h1, ia, hsz]
          · have hv' := SR.iR hl' x
            rw [hq] at hv'
            simp only [VR, hgr] at hv' ⊢
            obtain ⟨_, _, hv'⟩ := hv'
            rcases hv' with ⟨_, h3'⟩ | ⟨of', cap', e1', h2', h3', h4', h5'⟩
            · omega
            · obtain ⟨h6', _⟩ := h5' (by omega)
              rw [e1] at e1'
              simp only [Value.slice.injEq, af, Addr.mk.injEq, and_true, true_and] at e1'
              refine ⟨hr, _, rfl, ?_⟩
              simp only [Addr.mk.injEq, and_true]
              refine ⟨e1'.1.1, ?_⟩
              rw [e1'.1.2, h6', Nat.add_mul]; omega
      · simp at hx
    · simp at hx
  · simp at hx
end
end Go.Tw
namespace Go.Tw
open Go Go.RowKit
variable [k7]
section
variable {c : Cx} {σ : St} {a : Act} {w : World} {A : lp} {o : Oper} {s' : List (Nat × TV)}
theorem nC {ab ok : Nat → Prop} {μ : Nat → Mu} {h : ay} {n : Nat} {s : List (Nat × TV)} (hl : SR w ab ok μ h n s a.tmps) {lo : Option Operand} {l : Int} (h0 : bLo (lo.map (ev s)) = some l) :
    (lo.map a.eval = none ∧ l = 0) ∨ ∃ k, lo.map a.eval = some (.int k l) := by
  cases lo with
  | none => simp only [Option.map_none, bLo, af] at h0; exact .inl ⟨rfl, h0.symm⟩
  | some x =>
    simp only [Option.map_some] at h0 ⊢
    unfold bLo at h0
    split at h0
    · rename_i k m hq
      simp only [af] at h0 hq; subst h0
      have := hl.iR x
      rw [hq] at this
      exact .inr ⟨k, by rw [this.iy]⟩
    · simp at h0
    · rename_i hq; simp at hq
theorem nD {ab ok : Nat → Prop} {μ : Nat → Mu} {h : ay} {n : Nat} {s : List (Nat × TV)} (hl : SR w ab ok μ h n s a.tmps) {hi : Option Operand} {d : Nat} {u : Int} (h0 : bHi (hi.map (ev s)) d = some u) :
    (hi.map a.eval = none ∧ u = d) ∨ ∃ k, hi.map a.eval = some (.int k u) := by
  cases hi with
  | none => simp only [Option.map_none, bHi, af] at h0; exact .inl ⟨rfl, h0.symm⟩
  | some x =>
    simp only [Option.map_some] at h0 ⊢
    unfold bHi at h0
    split at h0
    · rename_i k m hq
      simp only [af] at h0 hq; subst h0
      have := hl.iR x
      rw [hq] at this
      exact .inr ⟨k, by rw [this.iy]⟩
    · simp at h0
    · rename_i hq; simp at hq
theorem mM.wT {m : Mu} {s off len l u : Nat} {o cap : Nat} (hlu : l ≤ u) (hu : u ≤ len) (h1 : len ≤ cap) (h2 : m.bk = true) (h3 : Row w m.cY o) (h4 : 0 < cap → o = m.off + off * s ∧ Row w m.cY (o + cap * s)) :
    mM w m s (off + l) (u - l) (.slice (if cap = l then some ⟨m.cY, o, none⟩ else some ⟨m.cY, o + l * s, none⟩) (u - l) (cap - l)) := by
  refine .inr ⟨if cap = l then o else o + l * s, cap - l, ?_, by omega, h2, ?_, fun hp => ?_⟩
  · split <;> rfl
  · split
    · exact h3
    · have h5 := h4 (by omega)
      refine h5.2.le ?_
      have : l * s ≤ cap * s := Nat.mul_le_mul_right _ (by omega)
      omega
  · have h5 := h4 (by omega)
    rw [if_neg (by omega)]
    refine ⟨by rw [h5.1, Nat.add_mul]; omega, h5.2.le ?_⟩
    have : l * s + (cap - l) * s = cap * s := by rw [← Nat.add_mul]; congr 1; omega
    omega
theorem ok_slice (hs : dH c σ a w) {t : TypeId} {x : Operand} {lo hi mx : Option Operand} (ho : o.op = .slice t x lo hi mx) (hx : ex c.P o.op (ev σ.s) σ.h σ.n = some A) (hc : A.c = true) (hput : sput c.m o.dst A.v (ks A σ.s) = some s') : bR c o a w ⟨s', A.h, A.n⟩ := by
  rw [ho] at hx; simp only [ex, sliceS] at hx
  obtain ⟨_, _, _, μ, hH, hl, hg⟩ := id hs
  have hv := SR.iR hl x
  split at hx
  ·
    rename_i s l hm hq hlo
    have hmx : mx = none := by simpa using hm
    simp only [ax] at hx
    obtain ⟨u, hhi, hx⟩ := hx
    split at hx
    · rename_i hu
      simp only [af] at hx; subst hx
      simp only [aA, bF] at hc
      obtain ⟨⟨h0, h1⟩, h2⟩ := hc
      rw [hq] at hv
      refine bR.quiet hs (v := .string (s.extract l.toNat u.toNat)) (fun w1 hb1 => ?_) hput (fun μ' hl' _ => by simp [VR])
      have hb := sA (P := c.P) (w := w1) (isS := false) (len := s.size) (cap := s.size) (nC hl hlo) (nD (d := s.size) hl hhi) h0 h1 h2
      simp [execOp, ho, hmx, hv.iy, Instr.sliceAt, underlying, hu, Instr.slice, hb]
    · simp at hx
  ·
    rename_i t0 es l hm hq hlo
    have hmx : mx = none := by simpa using hm
    simp only [ax] at hx
    obtain ⟨u, hhi, hx⟩ := hx
    split at hx
    · rename_i q ht
      obtain ⟨hb, hx⟩ := ah.1 hx
      simp only [af] at hx; subst hx
      simp only [aA, bF] at hc
      obtain ⟨⟨h0, h1⟩, h2⟩ := hc
      have hsz : q.1 = sz t0 := Nat.eq_of_beq_eq_true hb
      have ht' : (tsl c.P t).map (·.1) = some (sz t0) := by rw [ht]; simp [hsz]
      rw [hq] at hv
      simp only [VR] at hv
      obtain ⟨v, e, hv⟩ := hv
      simp only [List.cons.injEq, and_true] at e; subst e
      rcases hv with ⟨e1, rfl, _⟩ | ⟨B, cap, L', e1, hcap, hte, hA⟩
      · have hl0 : l = 0 := by simp only [List.length_nil] at h2; omega
        have hu0 : u = 0 := by simp only [List.length_nil] at h2; omega
        subst hl0 hu0
        refine bR.quiet hs (v := .slice none 0 0) (fun w1 hb1 => ?_) hput (fun μ' hl' _ => ?_)
        · have := eG (P := c.P) (w := w1) ht' (A := none) (len := 0) (cap := 0) (nC hl hlo) (nD (d := 0) hl (by simpa using hhi)) (by omega) (by omega) (by omega)
          simp [execOp, ho, hmx, e1, this]
        · simp only [VR, List.drop_nil, List.take_nil]
          exact ⟨_, rfl, .inl ⟨rfl, rfl, rfl⟩⟩
      · rcases hA with ⟨_, rfl, hb0, hA⟩ | ⟨hn, _⟩
        · refine bR.quiet hs (fun w1 hb1 => ?_) hput (fun μ' hl' _ => ?_) (v := .slice (if cap = l.toNat then some B else (some B).map (·.add (l.toNat * sz t0))) (u.toNat - l.toNat) (cap - l.toNat))
          · have := eG (P := c.P) (w := w1) ht' (A := some B) (len := es.length) (cap := cap) (nC hl hlo) (nD (d := es.length) hl hhi) h0 h1 (by omega)
            simp [execOp, ho, hmx, e1, this]
          · have hlen : ((es.drop l.toNat).take (u.toNat - l.toNat)).length = u.toNat - l.toNat := by simp; omega
            simp only [VR]
            refine ⟨_, rfl, .inr ⟨if cap = l.toNat then B else B.add (l.toNat * sz t0), cap - l.toNat, [], ?_, by rw [hlen]; omega, ?_, .inl ⟨rfl, rfl, hb0, fun hne => ?_⟩⟩⟩
            · rw [hlen]; split <;> simp
            · by_cases hcl : cap = l.toNat
              · have : (es.drop l.toNat).take (u.toNat - l.toNat) = [] := by rw [List.drop_of_length_le (by omega)]; simp
                rw [this]; simp [RL]
              · rw [if_neg hcl]
                by_cases hes : es = []
                · subst hes; simp [RL]
                · obtain ⟨b, of, sp⟩ := B
                  obtain ⟨rfl, hB⟩ := hA hes
                  rw [ia]
                  obtain ⟨L1, L2, L3, hL, hsub⟩ := RL.sub l.toNat (u.toNat - l.toNat) (by omega) hte
                  obtain ⟨_, hL2⟩ := jo hL
                  obtain ⟨rfl, _⟩ := jo hL2.symm
                  exact hsub
            · have hes : es ≠ [] := by rintro rfl; simp at hne
              obtain ⟨hsp, hB⟩ := hA hes
              obtain ⟨b, of, sp⟩ := B
              simp only at hsp hB
              subst hsp
              split
              · exact ⟨rfl, hB⟩
              · rw [ia]; exact ⟨rfl, hB⟩
        · simp at hn
    · simp at hx
  ·
    rename_i r l hm hq hlo
    have hmx : mx = none := by simpa using hm
    split at hx
    · rename_i fr t0 es hgr
      simp only [ax] at hx
      obtain ⟨u, hhi, hx⟩ := hx
      split at hx
      · rename_i q ht
        obtain ⟨hb, hx⟩ := ah.1 hx
        simp only [af] at hx; subst hx
        simp only [aA, bF] at hc
        obtain ⟨⟨h0, h1⟩, h2⟩ := hc
        have hsz : q.1 = sz t0 := Nat.eq_of_beq_eq_true hb
        have ht' : (tsl c.P t).map (·.1) = some (sz t0) := by rw [ht]; simp [hsz]
        rw [hq] at hv
        simp only [VR, hgr] at hv
        obtain ⟨hr, hv⟩ := hv
        rcases hv with ⟨e1, e2⟩ | ⟨of, cap, e1, g2, g3, g4, g5⟩
        · have hl0 : l = 0 := by omega
          have hu0 : u = 0 := by omega
          subst hl0 hu0
          refine bR.quiet hs (v := .slice none 0 0) (fun w1 hb1 => ?_) hput (fun μ' hl' _ => ?_)
          · have := eG (P := c.P) (w := w1) ht' (A := none) (len := 0) (cap := 0) (nC hl hlo) (nD (d := 0) hl (by rw [← e2]; exact hhi)) (by omega) (by omega) (by omega)
            simp [execOp, ho, hmx, e1, this]
          · simp only [VR, hgr]
            exact ⟨hr, by simp, .inl ⟨rfl, by simp⟩⟩
        · refine bR.quiet hs (fun w1 hb1 => ?_) hput (fun μ' hl' _ => ?_) (v := .slice (if cap = l.toNat then some ⟨(μ r).cY, of, none⟩ else some ⟨(μ r).cY, of + l.toNat * sz t0, none⟩) (u.toNat - l.toNat) (cap - l.toNat))
          · have := eG (P := c.P) (w := w1) ht' (A := some ⟨(μ r).cY, of, none⟩) (len := es.length) (cap := cap) (nC hl hlo) (nD (d := es.length) hl hhi) h0 h1 (by omega)
            simp [execOp, ho, hmx, e1, this, ia]
          · have hv' := SR.iR hl' x
            rw [hq] at hv'
            simp only [VR, hgr] at hv' ⊢
            obtain ⟨_, hv'⟩ := hv'
            rcases hv' with ⟨e1', _⟩ | ⟨of', cap', e1', g2', g3', g4', g5'⟩
            · rw [e1] at e1'; simp at e1'
            · rw [e1] at e1'
              simp only [Value.slice.injEq, af, Addr.mk.injEq, and_true, true_and] at e1'
              obtain ⟨⟨q1, rfl⟩, rfl⟩ := e1'
              rw [q1]
              refine ⟨hr, by omega, ?_⟩
              have := mM.wT (off := 0) (l := l.toNat) (u := u.toNat) (by omega) (by omega) g2' g3' g4' g5'
              simpa using this
      · simp at hx
    · simp at hx
  · rename_i r off len l hm hq hlo
    have hmx : mx = none := by simpa using hm
    split at hx
    · rename_i fr t0 es hgr
      simp only [ax] at hx
      obtain ⟨u, hhi, hx⟩ := hx
      split at hx
      · rename_i q ht
        obtain ⟨hb, hx⟩ := ah.1 hx
        simp only [af] at hx; subst hx
        simp only [aA, bF] at hc
        obtain ⟨⟨h0, h1⟩, h2⟩ := hc
        have hsz : q.1 = sz t0 := Nat.eq_of_beq_eq_true hb
        have ht' : (tsl c.P t).map (·.1) = some (sz t0) := by rw [ht]; simp [hsz]
        rw [hq] at hv
        simp only [VR, hgr] at hv
        obtain ⟨hr, hle, hv⟩ := hv
        rcases hv with ⟨e1, e2⟩ | ⟨of, cap, e1, g2, g3, g4, g5⟩
        · subst e2
          have hl0 : l = 0 := by omega
          have hu0 : u = 0 := by omega
          subst hl0 hu0
          refine bR.quiet hs (v := .slice none 0 0) (fun w1 hb1 => ?_) hput (fun μ' hl' _ => ?_)
          · have := eG (P := c.P) (w := w1) ht' (A := none) (len := 0) (cap := 0) (nC hl hlo) (nD (d := 0) hl hhi) (by omega) (by omega) (by omega)
            simp [execOp, ho, hmx, e1, this]
          · simp only [VR, hgr]
            exact ⟨hr, by simpa using hle, .inl ⟨rfl, by simp⟩⟩
        · refine bR.quiet hs (fun w1 hb1 => ?_) hput (fun μ' hl' _ => ?_) (v := .slice (if cap = l.toNat then some ⟨(μ r).cY, of, none⟩ else some ⟨(μ r).cY, of + l.toNat * sz t0, none⟩) (u.toNat - l.toNat) (cap - l.toNat))
          · have := eG (P := c.P) (w := w1) ht' (A := some ⟨(μ r).cY, of, none⟩) (len := len) (cap := cap) (nC hl hlo) (nD (d := len) hl hhi) h0 h1 (by omega)
            simp [execOp, ho, hmx, e1, this, ia]
          · have hv' := SR.iR hl' x
            rw [hq] at hv'
            simp only [VR, hgr] at hv' ⊢
            obtain ⟨_, _, hv'⟩ := hv'
            rcases hv' with ⟨e1', _⟩ | ⟨of', cap', e1', g2', g3', g4', g5'⟩
            · rw [e1] at e1'; simp at e1'
            · rw [e1] at e1'
              simp only [Value.slice.injEq, af, Addr.mk.injEq, and_true, true_and] at e1'
              obtain ⟨⟨q1, rfl⟩, rfl⟩ := e1'
              rw [q1]
              exact ⟨hr, by omega, mM.wT (l := l.toNat) (u := u.toNat) (by omega) (by omega) g2' g3' g4' g5'⟩
      · simp at hx
    · simp at hx
  · rename_i l hm hq hlo
    have hmx : mx = none := by simpa using hm
    simp only [ax] at hx
    obtain ⟨u, hhi, hx⟩ := hx
    split at hx
    · rename_i q ht
      simp only [af] at hx; subst hx
      simp only [aA, bF] at hc
      obtain ⟨rfl, rfl⟩ := hc
      rw [hq] at hv
      refine bR.quiet hs (fun w1 hb1 => ?_) hput (fun μ' hl' _ => by simp [VR]) (v := .slice none 0 0)
      have := eG (P := c.P) (w := w1) (t := t) (sz := q.1) (by simp [ht]) (A := none) (len := 0) (cap := 0) (nC (lo := lo) hl hlo) (nD (hi := hi) (d := 0) hl hhi) (by omega) (by omega) (by simp only [Int.natCast_zero]; omega)
      simp [execOp, ho, hmx, hv.iy, this]
    · simp at hx
  · simp at hx
theorem bR.uK (hs : dH c σ a w) {x : TV} {v : Value} {μ : Nat → Mu} (hH : HR w c.ab c.ok μ σ.h σ.n []) (hl : SR w c.ab c.ok μ σ.h σ.n σ.s a.tmps) (hg : VRl w c.ab c.ok μ σ.h σ.n c.gs c.gv)
    (hr : ∀ w1, Below w.heap.size w w1 → (execOp a.eval o).run c.P w1 = .ok (.value v) w1) (hput : sput c.m o.dst x σ.s = some s') (hv : VR w c.ab c.ok μ σ.h σ.n x v) : bR c o a w ⟨s', σ.h, σ.n⟩ :=
  ⟨_, _, hr w (Below.refl _ _), fun _ => hr, .inl ⟨v, rfl, dH.put hs.fr hs.defers hs.size hH hl hg hv hput⟩⟩
theorem CT.Kz {ab ok : Nat → Prop} {cs : List TV} {us : List Value} {L : List Nat} {off m : Nat} (H : CT w ab ok cs us L) (hm : off + m ≤ cs.length) :
    ∃ u1 u2 u3 L1 L2 L3, us = u1 ++ (u2 ++ u3) ∧ L = L1 ++ (L2 ++ L3) ∧ u1.length = off ∧ u2.length = m ∧ CT w ab ok (cs.take off) u1 L1 ∧ CT w ab ok ((cs.drop off).take m) u2 L2 ∧ CT w ab ok (cs.drop (off + m)) u3 L3 := by
  rw [← List.take_append_drop off cs] at H
  obtain ⟨u1, u2, La, Lb, rfl, rfl, c1, c2⟩ := CT.app.1 H
  rw [← List.take_append_drop m (cs.drop off)] at c2
  obtain ⟨u3, u4, Lc, Ld, rfl, rfl, c3, c4⟩ := CT.app.1 c2
  have q1 := c1.length
  have q3 := c3.length
  rw [List.length_take] at q1
  rw [List.length_take, List.length_drop] at q3
  exact ⟨u1, u3, u4, La, Lc, Ld, rfl, rfl, by omega, by omega, c1, c3, by rwa [List.drop_drop] at c4⟩
theorem dg : ∀ {t : Ty} (x : den t), (encT t x).length = sz t
  | .int _, _ => rfl
  | .bool, _ => rfl
  | .str, _ => rfl
  | .un, _ => rfl
  | .pr a b, x => by simp only [encT, aT, dg, sz]
  | .sl _, _ => rfl
  | .ref _, _ => rfl
  | .cl _ _, _ => rfl
theorem lX {g : Bool} {us : List Value} {b o : Nat} {t : TypeId} {m : Nat} {P : Program} (ht : tv P t = some (g, m)) (hl : us.length = m) (ha : At w b o us) (hg : g = true ∨ m = 1) :
    (loadVar t ⟨b, o, none⟩).run P w = .ok (if g then .agg us.toArray else us.headD undef) w := wR ht hl ha hg
theorem GX (hs : dH c σ a w) {t : TypeId} {x : Operand} (ho : o.op = .load t x) (hx : ex c.P o.op (ev σ.s) σ.h σ.n = some A) (hc : A.c = true) (hput : sput c.m o.dst A.v (ks A σ.s) = some s') : bR c o a w ⟨s', A.h, A.n⟩ := by
  rw [ho] at hx
  simp only [ex, ax] at hx
  obtain ⟨⟨g, m⟩, ht, hx⟩ := hx
  obtain ⟨_, _, _, μ, hH, hl, hg⟩ := id hs
  have hv := SR.iR hl x
  unfold loadS at hx
  obtain ⟨hgm, hx⟩ := ah.1 hx
  have hgm' : g = true ∨ m = 1 := by
    simp only [Bool.or_eq_true] at hgm
    rcases hgm with h | h
    · exact .inl h
    · exact .inr (Nat.eq_of_beq_eq_true h)
  simp only at hx
  split at hx
  · rename_i t0 l i off hq
    obtain ⟨hb, hx⟩ := ah.1 hx
    simp only [af] at hx; subst hx
    simp only [bF] at hc
    have hle : off + m ≤ sz t0 := Nat.le_of_ble_eq_true hb
    rw [hq] at hv
    simp only [VR] at hv
    obtain ⟨b, of, e1, him, hte⟩ := hv
    obtain ⟨L1, L2, L3, hL, _, ⟨us, g1, g2⟩, _⟩ := RL.at (eX t0) hc hte
    obtain ⟨_, hL2⟩ := jo hL
    obtain ⟨rfl, _⟩ := jo hL2.symm
    obtain ⟨u1, u2, u3, La, Lb, Lc, rfl, hLL, k1, k2, _, k3, _⟩ := g1.oZ.Kz (off := off) (m := m) (by rw [dg]; exact hle)
    obtain ⟨_, hLL⟩ := jo hLL
    obtain ⟨rfl, _⟩ := jo hLL.symm
    obtain ⟨_, g2⟩ := At.app.1 g2
    obtain ⟨g2, _⟩ := At.app.1 g2
    rw [k1] at g2
    refine bR.uK hs hH hl hg (fun w1 hb1 => ?_) hput (kE k3.zJ)
    simp [execOp, ho, Instr.loadAt, e1, Instr.sureAddr, lX ht k2 (g2.same (hb1.block _ (hs.lt _ (him (by rintro rfl; simp at hc))))) hgm']
  · rename_i r i off hq
    rw [hq] at hv
    simp only [VR] at hv
    obtain ⟨hr, B, e1, hm⟩ := hv
    split at hx
    · rename_i fr t0 l hgr
      obtain ⟨hb, hx⟩ := ah.1 hx
      simp only [af] at hx; subst hx
      simp only [bF] at hc
      have hle : off + m ≤ sz t0 := Nat.le_of_ble_eq_true hb
      simp only [hgr] at hm; subst hm
      obtain ⟨L, hR⟩ := hH.row hgr
      have hbk := hR.bk (by rintro rfl; simp at hc)
      obtain ⟨L', rfl, q1, q2, q3⟩ := hR.oX hbk
      obtain ⟨L1, L2, L3, hL, _, ⟨us, g1, g2⟩, _⟩ := RL.at (eX t0) hc q3
      obtain ⟨u1, u2, u3, La, Lb, Lc, rfl, hLL, k1, k2, _, k3, _⟩ := g1.oZ.Kz (off := off) (m := m) (by rw [dg]; exact hle)
      obtain ⟨_, g2⟩ := At.app.1 g2
      obtain ⟨g2, _⟩ := At.app.1 g2
      rw [k1] at g2
      refine bR.uK hs hH hl hg (fun w1 hb1 => ?_) hput (kE (yE hr hc hgr hbk (fun t' l' hmem => nV (List.mem_of_mem_drop (List.mem_of_mem_take hmem))) k3 g2))
      simp [execOp, ho, Instr.loadAt, e1, Instr.sureAddr, lX ht k2 (g2.same (hb1.block _ q2.lt)) hgm']
    · rename_i cs hgr
      obtain ⟨hb, hx⟩ := ah.1 hx
      simp only [af] at hx; subst hx
      have hle : off + m ≤ cs.length := Nat.le_of_ble_eq_true hb
      simp only [hgr] at hm; subst hm
      obtain ⟨L, hR⟩ := hH.row hgr
      simp only [RR] at hR
      obtain ⟨rfl, q1, q2, us, q3, q4⟩ := hR
      have k3 := (q3.drop off).take m
      have k2 : ((us.drop off).take m).length = m := by rw [List.length_take, List.length_drop, ← q3.length]; omega
      have g2 := q4.sub off m
      refine bR.uK hs hH hl hg (fun w1 hb1 => ?_) hput (kE k3)
      simp [execOp, ho, Instr.loadAt, e1, Instr.sureAddr, lX ht k2 (g2.same (hb1.block _ q2.lt)) hgm']
    · simp at hx
  · simp at hx
end
end Go.Tw
