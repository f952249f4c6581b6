/- A step of the typed logic of this claim is proved here: what an operation does to the data that slots and memory stand for. -/
import Derived.Test.YtmjacadeccoclaaT3
import Derived.Laws.Strings
import Derived.Laws.Append
import Derived.Laws.AppendOwn
set_option linter.all false
namespace Go.Tw
open Go Go.RowKit

theorem toList_ba (x : ByteArray) : x.toList = x.data.toList := by
  exact ByteArray.toList_eq x

theorem beq_dec (x y : Array UInt8) : (x == y) = decide (x = y) := by rw [Bool.eq_iff_iff]; simp
theorem tsl_some {P : Program} {t : TypeId} {sz by_ : Nat} {z : List Value} (h : tsl P t = some (sz, by_, z)) :
    ∃ e i zv, P.underlying t = some (.slice e) ∧ P.info? e = some i ∧ i.zero = some zv ∧ zv.cells.toList = z ∧ i.size = sz ∧ i.bytes = by_ ∧ z.length = sz ∧ sz ≠ 0 ∧ by_ ≠ 0 ∧ z.all Value.oneCell' = true := by
  unfold tsl at h
  split at h
  · rename_i e he
    cases hi : P.info? e with
    | none => simp [hi] at h
    | some i =>
      cases hz : i.zero with
      | none => simp [hi, hz] at h
      | some zv =>
        simp only [hi, hz, Option.bind_some] at h
        split at h
        · rename_i hc
          simp only [Option.some.injEq, Prod.mk.injEq] at h
          obtain ⟨h1, h2, h3⟩ := h
          exact ⟨e, i, zv, he, hi, hz, h3, h1, h2, by rw [← h3, ← h1]; simpa using hc.1, by rw [← h1]; exact hc.2.1, by rw [← h2]; exact hc.2.2.1, by rw [← h3]; exact hc.2.2.2⟩
        · simp at h
  · simp at h

theorem add_mk (b o n : Nat) : (⟨b, o, none⟩ : Addr).add n = ⟨b, o + n, none⟩ := by
  unfold Addr.add; split
  · subst_vars; rfl
  · rfl


section
variable {a : Act} {w : World}
/-- A builtin's call runs its function. -/
theorem run_builtin_len {P : Program} {o : Oper} {cl : Call} (ho : o.op = .call cl) (hc : cl.callee = .builtin .len) {v : Value} {w' : World}
    (h : (Builtin.len_ cl.argTypes o.type (cl.args.map a.eval)).run P w = .ok v w') : (execOp a.eval o).run P w = .ok (.value v) w' := by
  simp [execOp, ho, resolve, hc, invoke, builtin, h]

theorem tfld_some {P : Program} {t : TypeId} {f fo : Nat} (h : tfld P t f = some fo) : ∃ fs d i, P.underlying t = some (.struct fs) ∧ fs[f]? = some d ∧ P.info? d.type = some i ∧ i.size ≠ 0 ∧ d.offset = fo := by
  unfold tfld at h
  split at h
  · rename_i fs hu
    cases hf : fs[f]? with
    | none => simp [hf] at h
    | some d =>
      cases hi : P.info? d.type with
      | none => simp [hf, hi] at h
      | some i =>
        simp only [hf, hi, Option.bind_some] at h
        split at h
        · simp at h
        · rename_i hne; simp only [Option.some.injEq] at h; exact ⟨fs, d, i, hu, hf, hi, hne, h⟩
  · simp at h

theorem run_fieldAt {P : Program} {s : TypeId} {f fo : Nat} {A : Addr} (h : tfld P s f = some fo) : (Instr.fieldAt s (.pointer (some A)) f).run P w = .ok (.pointer (some (A.add fo))) w := by
  obtain ⟨fs, d, i, hu, hf, hi, hne, rfl⟩ := tfld_some h
  simp [Instr.fieldAt, underlying, hu, hf, Instr.sureAddr, fieldPlace, sizeOf, typeInfo, hi, hne]

theorem run_indexAt_slice {P : Program} {t : TypeId} {size bytes : Nat} {z : List Value} (ht : tsl P t = some (size, bytes, z)) {A : Addr} {len cap : Nat} {k : IntKind} {i : Int} (h0 : 0 ≤ i) (h1 : i < len) :
    (Instr.indexAt t (.slice (some A) len cap) (.int k i)).run P w = .ok (.pointer (some (A.add (i.toNat * size)))) w := by
  obtain ⟨e, inf, zv, hu, hi, _, _, hsz, _⟩ := tsl_some ht
  simp [Instr.indexAt, asIntOf, underlying, hu, h0, h1, sizeOf, typeInfo, hi, hsz]

theorem run_bound {P : Program} {v : Value} {k : IntKind} {n : Int} {m : Nat} {code : BoundsCode} (hv : v = .int k n) (h0 : 0 ≤ n) (h1 : n ≤ m) : (Instr.sliceBound v m code).run P w = .ok n.toNat w := by
  subst hv; simp [Instr.sliceBound, asIntOf, h0, h1]

theorem run_bounds {P : Program} {isS : Bool} {len cap : Nat} {lo hi : Option Value} {l u : Int} (hlo : (lo = none ∧ l = 0) ∨ ∃ k, lo = some (.int k l)) (hhi : (hi = none ∧ u = len) ∨ ∃ k, hi = some (.int k u))
    (h0 : 0 ≤ l) (h1 : l ≤ u) (h2 : u ≤ cap) : (Instr.sliceBounds isS len cap lo hi none).run P w = .ok (l.toNat, u.toNat, cap) w := by
  have hu : (u.toNat : Int) = u := Int.toNat_of_nonneg (by omega)
  have b2 : ∀ (k : IntKind) (code : BoundsCode), (Instr.sliceBound (.int k u) cap code).run P w = .ok u.toNat w := fun k code => run_bound rfl (by omega) h2
  have b1 : ∀ (k : IntKind) (code : BoundsCode), (Instr.sliceBound (.int k l) u.toNat code).run P w = .ok l.toNat w := fun k code => run_bound rfl h0 (by omega)
  rcases hlo with ⟨rfl, rfl⟩ | ⟨k1, rfl⟩ <;> rcases hhi with ⟨rfl, hu'⟩ | ⟨k2, rfl⟩
  · subst hu'; simp [Instr.sliceBounds]
  · cases isS <;> simp [Instr.sliceBounds, b2]
  · subst hu'; simp only [Int.toNat_natCast] at b1; simp [Instr.sliceBounds, b1]
  · cases isS <;> simp [Instr.sliceBounds, b2, b1]

theorem run_slice_slice {P : Program} {t : TypeId} {sz : Nat} (ht : (tsl P t).map (·.1) = some sz) {A : Option Addr} {len cap : Nat} {lo hi : Option Value} {l u : Int}
    (hlo : (lo = none ∧ l = 0) ∨ ∃ k, lo = some (.int k l)) (hhi : (hi = none ∧ u = len) ∨ ∃ k, hi = some (.int k u)) (h0 : 0 ≤ l) (h1 : l ≤ u) (h2 : u ≤ cap) :
    (Instr.sliceAt t (.slice A len cap) lo hi none).run P w = .ok (.slice (if cap = l.toNat then A else A.map (·.add (l.toNat * sz))) (u.toNat - l.toNat) (cap - l.toNat)) w := by
  cases hq : tsl P t with
  | none => simp [hq] at ht
  | some q =>
    obtain ⟨s0, b0, z0⟩ := q
    simp only [hq, Option.map_some, Option.some.injEq] at ht
    subst ht
    obtain ⟨e, inf, zv, hu, hi', _, _, hsz, _⟩ := tsl_some hq
    simp [Instr.sliceAt, underlying, hu, Instr.slice, run_bounds hlo hhi h0 h1 h2, sizeOf, typeInfo, hi', hsz]

theorem tv_some {P : Program} {t : TypeId} {g : Bool} {n : Nat} (h : tv P t = some (g, n)) :
    ∃ d i, P.underlying t = some d ∧ P.info? t = some i ∧ i.size = n ∧ (match d with | .struct _ | .array _ _ => true | _ => false) = g := by
  unfold tv at h
  cases hu : P.underlying t with
  | none => simp [hu] at h
  | some d =>
    cases hi : P.info? t with
    | none => simp [hu, hi] at h
    | some i =>
      simp only [hu, hi, Option.bind_some, Option.map_some, Option.some.injEq, Prod.mk.injEq] at h
      exact ⟨d, i, rfl, rfl, h.2, h.1⟩

theorem run_isAgg {P : Program} {t : TypeId} {g : Bool} {n : Nat} (h : tv P t = some (g, n)) (w : World) : (isAgg t).run P w = .ok g w := by
  obtain ⟨d, i, hu, hi, hn, hg⟩ := tv_some h
  subst hg
  cases d <;> simp [isAgg, underlying, hu]
theorem run_sizeOf {P : Program} {t : TypeId} {g : Bool} {n : Nat} (h : tv P t = some (g, n)) (w : World) : (sizeOf t).run P w = .ok n w := by
  obtain ⟨d, i, hu, hi, hn, hg⟩ := tv_some h
  simp [sizeOf, typeInfo, hi, hn]

theorem run_loadVar {P : Program} {t : TypeId} {g : Bool} {n : Nat} (h : tv P t = some (g, n)) {w : World} {b o : Nat} {us : List Value} (hl : us.length = n) (hc : ∀ j u, us[j]? = some u → w.cell? ⟨b, o + j, none⟩ = some u)
    (hg : g = true ∨ n = 1) : (loadVar t ⟨b, o, none⟩).run P w = .ok (if g then .agg us.toArray else us.headD undef) w := by
  have hcells : (loadCells ⟨b, o, none⟩ n).run P w = .ok us.toArray w := by
    rw [← hl]
    exact run_loadCells_list w _ us (fun j v hj => by rw [add_mk]; exact hc j v hj)
  cases g with
  | true => simp [loadVar, run_isAgg h, run_sizeOf h, hcells]
  | false =>
    obtain rfl := hg.resolve_left (by simp)
    match us, hl with
    | [u], _ =>
      have := hc 0 u rfl
      simp only [Nat.add_zero] at this
      simp [loadVar, run_isAgg h, this]

def setCells (w : World) (b o : Nat) : List Value → World
  | [] => w
  | u :: us => setCells (w.setCell ⟨b, o, none⟩ u) b (o + 1) us

theorem setCells_heap : ∀ (us : List Value) (w : World) (b o k : Nat), k ≠ b → (setCells w b o us).heap[k]? = w.heap[k]?
  | [], _, _, _, _, _ => rfl
  | u :: us, w, b, o, k, hk => by
    simp only [setCells]
    rw [setCells_heap us _ b (o + 1) k hk, Below.heap_setCell _ _ _ _ (by simpa using hk)]
theorem setCells_row : ∀ (us : List Value) (w : World) (b o : Nat) {b' m : Nat}, Row w b' m → Row (setCells w b o us) b' m
  | [], _, _, _, _, _, h => h
  | u :: us, w, b, o, b', m, h => setCells_row us _ b (o + 1) (h.setCell _ _)
theorem setCells_cell : ∀ (us : List Value) (w : World) (b o j : Nat), (j < o ∨ o + us.length ≤ j) → (setCells w b o us).cell? ⟨b, j, none⟩ = w.cell? ⟨b, j, none⟩
  | [], _, _, _, _, _ => rfl
  | u :: us, w, b, o, j, hj => by
    simp only [setCells]
    rw [setCells_cell us _ b (o + 1) j (by simp at hj; omega), World.cell?_setCell_other]
    simp only [ne_eq, Addr.mk.injEq, and_true, true_and]
    simp at hj; omega
theorem setCells_get : ∀ (us : List Value) (w : World) (b o : Nat), Row w b (o + us.length) → ∀ j u, us[j]? = some u → (setCells w b o us).cell? ⟨b, o + j, none⟩ = some u
  | [], _, _, _, _, j, u, hu => by simp at hu
  | v :: us, w, b, o, hr, j, u, hu => by
    simp only [setCells]
    simp only [List.length_cons] at hr
    cases j with
    | zero =>
      simp at hu; subst hu
      rw [setCells_cell us _ b (o + 1) (o + 0) (by omega)]
      obtain ⟨x, hx⟩ := hr.cell (j := o) (by omega)
      simpa using World.cell?_setCell_same w ⟨b, o, none⟩ v hx
    | succ j =>
      rw [show o + (j + 1) = o + 1 + j by omega]
      exact setCells_get us _ b (o + 1) ((hr.setCell _ _).le (by omega)) j u (by simpa using hu)
theorem setCells_size : ∀ (us : List Value) (w : World) (b o : Nat), (setCells w b o us).heap.size = w.heap.size
  | [], _, _, _ => rfl
  | u :: us, w, b, o => by simp only [setCells]; rw [setCells_size us]; simp
theorem setCells_step (us : List Value) (w : World) {imm : Nat → Prop} {b o : Nat} (hB : ¬ imm b) : Step imm w (setCells w b o us) :=
  ⟨fun k hk => setCells_heap us w b o k (fun e => hB (e ▸ hk)), fun _ _ h => setCells_row us w b o h⟩

theorem run_storeCells (P : Program) : ∀ (us : List Value) (w : World) (b o i : Nat), Row w b (o + i + us.length) → (∀ u ∈ us, u.oneCell' = true) →
    (storeCells ⟨b, o, none⟩ us i).run P w = .ok () (setCells w b (o + i) us)
  | [], w, b, o, i, _, _ => by simp [storeCells, setCells]
  | u :: us, w, b, o, i, hr, h1 => by
    simp only [List.length_cons] at hr
    obtain ⟨x, hx⟩ := hr.cell (j := o + i) (by omega)
    have hf := hr.frozen (j := o + i) (by omega)
    have ih := run_storeCells P us (w.setCell ⟨b, o + i, none⟩ u) b o (i + 1) ((hr.setCell _ _).le (by omega)) (fun v hv => h1 v (by simp [hv]))
    simp only [storeCells, Sem.run_bind, add_mk]
    rw [run_store P w _ u .plain (h1 u (by simp))]
    simp only [hx, hf, Bool.false_eq_true, ↓reduceIte, Result.andThen_ok]
    rw [ih]; rfl

theorem run_storeVar {P : Program} {t : TypeId} {g : Bool} {n : Nat} (ht : tv P t = some (g, n)) {v : Value} {us : List Value} (hv : v.cells = us.toArray) (hl : us.length = n) {b o : Nat} (hr : Row w b (o + us.length)) (h1 : ∀ u ∈ us, u.oneCell' = true) :
    (storeVar t ⟨b, o, none⟩ v).run P w = .ok () (setCells w b o us) := by
  have := run_storeCells P us w b o 0 (by simpa using hr) h1
  simp [storeVar, run_sizeOf ht, hv, hl, this]

section
variable {P : Program}

/-- n elements may be read out of x: these cells. -/
def Src (w : World) (size : Nat) (x : Value) (n : Nat) (news : List Value) : Prop :=
  news.length = n * size ∧
  ((∃ c, x = .slice none n c ∧ n = 0) ∨
   (∃ A cap, x = .slice (some A) n cap ∧ ∀ j u, news[j]? = some u → w.cell? (A.add j) = some u) ∨
   (∃ s, x = .string s ∧ n = s.size ∧ news = s.data.toList.map fun b => .int .u8 b.toNat))

theorem Src.lenOf {size n : Nat} {x : Value} {news : List Value} (h : Src w size x n news) (w' : World) : (Builtin.lenOf x).run P w' = .ok n w' := by
  obtain ⟨_, ⟨c, rfl, _⟩ | ⟨A, cap, rfl, _⟩ | ⟨s, rfl, rfl, _⟩⟩ := h <;> simp [Builtin.lenOf]
theorem Src.first {size n : Nat} {x : Value} {news : List Value} (h : Src w size x n news) : (Builtin.firstCells size n x).run P w = .ok news.toArray w := by
  obtain ⟨hl, ⟨c, rfl, rfl⟩ | ⟨A, cap, rfl, hc⟩ | ⟨s, rfl, rfl, hn⟩⟩ := h
  · simp at hl; simp [Builtin.firstCells, hl]
  · simp only [Builtin.firstCells]
    rw [← hl]
    exact run_loadCells_list w A news hc
  · subst hn
    have hx : (Array.map (fun b : UInt8 => Value.int IntKind.u8 (b.toNat : Int)) s.data).extract 0 s.size = Array.map (fun b : UInt8 => Value.int IntKind.u8 (b.toNat : Int)) s.data := by
      have hs : s.size = (Array.map (fun b : UInt8 => Value.int IntKind.u8 (b.toNat : Int)) s.data).size := by rw [Array.size_map]; rfl
      rw [hs, Array.extract_size]
    simp [Builtin.firstCells, hx]
    apply Array.ext'; simp
theorem Src.drew {size n : Nat} {x : Value} {news : List Value} (h : Src w size x n news) : Src w.drew size x n news := by
  obtain ⟨hl, h⟩ := h
  refine ⟨hl, ?_⟩
  rcases h with h | ⟨A, cap, h, hc⟩ | h
  · exact .inl h
  · exact .inr (.inl ⟨A, cap, h, by simpa using hc⟩)
  · exact .inr (.inr h)

theorem run_append_in {t t2 ty : TypeId} {d2 : TypeDesc} {size bytes : Nat} {z : List Value} (ht : tsl P t = some (size, bytes, z)) (h2 : P.underlying t2 = some d2) (hd2 : d2 = .string ∨ ∃ e, d2 = .slice e)
    {b o sLen sCap n : Nat} {x : Value} {news : List Value} (hx : Src w size x n news) (hfit : sLen + n ≤ sCap) {rest : List TypeId}
    (hrow : Row w b (o + (sLen + n) * size)) (h1 : ∀ u ∈ news, u.oneCell' = true) :
    (Builtin.append_ (t :: t2 :: rest).toArray ty #[.slice (some ⟨b, o, none⟩) sLen sCap, x]).run P w =
      .ok (.slice (some ⟨b, o, none⟩) (sLen + n) sCap) (setCells w b (o + sLen * size) news) := by
  obtain ⟨e, i, zv, hu, hi, hz, rfl, hsz, hby, hzl, hs0, hb0, _⟩ := tsl_some ht
  have hl : n * size = news.length := hx.1.symm
  subst hsz
  have hst := run_storeCells P news w b (o + sLen * i.size) 0 (by
    simp only [Nat.add_zero]
    refine hrow.le ?_
    rw [← hl, Nat.add_mul]; omega) h1
  simp only [Nat.add_zero] at hst
  rcases hd2 with rfl | ⟨e2, rfl⟩ <;> simp [Builtin.append_, underlying, hu, h2, sizeOf, typeInfo, hi, hx.lenOf, hx.first, hfit, add_mk, hst]

theorem run_append_out {t t2 ty : TypeId} {d2 : TypeDesc} {size bytes : Nat} {z : List Value} (ht : tsl P t = some (size, bytes, z)) (h2 : P.underlying t2 = some d2) (hd2 : d2 = .string ∨ ∃ e, d2 = .slice e)
    {base : Option Addr} {sLen sCap n : Nat} {x : Value} {olds news : List Value} (hx : Src w size x n news) (hs : Src w size (.slice base sLen sCap) sLen olds) (hfit : ¬ sLen + n ≤ sCap) {rest : List TypeId}
    (hbig : (sLen + n) * bytes ≤ 2 ^ 40) :
    ∃ cap e, sLen + n ≤ cap ∧ (Builtin.append_ (t :: t2 :: rest).toArray ty #[.slice base sLen sCap, x]).run P w =
      .ok (.slice (some ⟨w.heap.size, 0, none⟩) (sLen + n) cap) (w.drew.alloc (.cells ((olds ++ news).toArray ++ Builtin.zeroCells z.toArray (cap - (sLen + n))) e)) := by
  obtain ⟨e, i, zv, hu, hi, hz, rfl, hsz, hby, hzl, hs0, hb0, _⟩ := tsl_some ht
  subst hsz; subst hby
  have hle : sLen + n ≤ (sLen + n) * i.bytes := Nat.le_mul_of_pos_right _ (Nat.pos_of_ne_zero hb0)
  have h63 : ¬ (9223372036854775807 < ((sLen : Int) + (n : Int))) := by omega
  have h48 : ¬ (281474976710656 < Builtin.nextslicecap (sLen + n) sCap * i.bytes) := by
    have := growslice_fits (need := sLen + n) (old := sCap) (bytes := i.bytes) (by omega) (by omega)
    omega
  refine ⟨grownCap w (sLen + n) sCap e, e, grownCap_ge _ _ _ _, ?_⟩
  have hzz : zv.cells = zv.cells.toList.toArray := by simp
  rcases hd2 with rfl | ⟨e2, rfl⟩ <;>
    simp [Builtin.append_, underlying, hu, h2, sizeOf, typeInfo, zeroValue, hi, hz, hx.lenOf, hx.drew.first, hs.drew.first, hfit, h63, h48, Question.forced, newRow, grownCap] <;>
    (congr 2; apply Array.ext'; simp)
end
theorem run_builtin_append {P : Program} {o : Oper} {cl : Call} (ho : o.op = .call cl) (hc : cl.callee = .builtin .append) {v : Value} {w' : World}
    (h : (Builtin.append_ cl.argTypes o.type (cl.args.map a.eval)).run P w = .ok v w') : (execOp a.eval o).run P w = .ok (.value v) w' := by
  simp [execOp, ho, resolve, hc, invoke, builtin, h]

theorem list_two {α : Type} {xs : Array α} {x y : α} (h0 : xs[0]? = some x) (h1 : xs[1]? = some y) : ∃ r : List α, xs = (x :: y :: r).toArray := by
  obtain ⟨l⟩ := xs
  match l with
  | [] => simp at h0
  | [_] => simp at h1
  | p :: q :: r =>
    simp at h0 h1
    exact ⟨r, by rw [h0, h1]⟩

theorem rep_flat_get {α : Type} (z : List α) (hz : z.length ≠ 0) : ∀ (n j : Nat), j < n * z.length → (List.replicate n z).flatten[j]? = z[j % z.length]?
  | 0, j, h => by omega
  | n + 1, j, h => by
    rw [List.replicate_succ, List.flatten_cons]
    by_cases hj : j < z.length
    · rw [List.getElem?_append_left hj, Nat.mod_eq_of_lt hj]
    · rw [List.getElem?_append_right (by omega)]
      have h2 : j - z.length < n * z.length := by rw [Nat.succ_mul] at h; omega
      rw [rep_flat_get z hz n (j - z.length) h2]
      congr 1
      conv => rhs; rw [show j = (j - z.length) + z.length by omega]
      rw [Nat.add_mod_right]

theorem foldl_splice : ∀ (vs us : List Value) (off k : Nat), off + k + vs.length ≤ us.length →
    (vs.zipIdx k).foldl (fun cs (q : Value × Nat) => Array.setIfInBounds cs (off + q.2) q.1) us.toArray = (us.take (off + k) ++ vs ++ us.drop (off + k + vs.length)).toArray
  | [], us, off, k, h => by simp
  | v :: vs, us, off, k, h => by
    simp only [List.zipIdx_cons, List.foldl_cons]
    have e1 : us.toArray.setIfInBounds (off + k) v = (us.set (off + k) v).toArray := by simp
    rw [e1, foldl_splice vs (us.set (off + k) v) off (k + 1) (by simp at h ⊢; omega)]
    congr 1
    simp only [List.length_cons] at h
    apply List.ext_getElem?
    intro j
    simp only [List.length_cons, List.getElem?_append, List.getElem?_take, List.getElem?_drop, List.length_take, List.length_set, List.length_append, List.getElem?_set, List.getElem?_cons]
    rw [Nat.min_eq_left (by omega), Nat.min_eq_left (by omega)]
    rcases Nat.lt_trichotomy j (off + k) with hj | hj | hj
    · simp [show j < off + (k + 1) by omega, hj, show j < off + k + (vs.length + 1) by omega, show off + k ≠ j by omega, show j < off + (k+1) + vs.length by omega]
    · subst hj
      simp [show off + k < us.length by omega, show off + k < off + (k + 1) by omega, show off + k < off + (k + 1) + vs.length by omega, show off + k < off + k + (vs.length + 1) by omega]
    · have h1 : ¬ j < off + k := by omega
      have h2 : ¬ j < off + (k + 1) := by omega
      by_cases h3 : j < off + (k + 1) + vs.length
      · simp [h1, h2, h3, show j < off + k + (vs.length + 1) by omega, show ¬ (j - (off + k) = 0) by omega]
        rw [show j - (off + (k + 1)) = j - (off + k) - 1 by omega]
      · simp [h1, h2, h3, show ¬ j < off + k + (vs.length + 1) by omega, show off + k ≠ off + (k + 1) + vs.length + (j - (off + (k + 1) + vs.length)) by omega]
        try (congr 1; omega)

theorem fill_one (us vs : List Value) (off : Nat) (v : Value) (hv : v.cells = vs.toArray) (h : off + vs.length ≤ us.length) :
    v.cells.zipIdx.foldl (fun cs (q : Value × Nat) => Array.setIfInBounds cs (off + q.2) q.1) us.toArray = (us.take off ++ vs ++ us.drop (off + vs.length)).toArray := by
  have := foldl_splice vs us off 0 (by simpa using h)
  rw [hv]
  simp only [Nat.add_zero] at this
  rw [← this, ← Array.foldl_toList]
  simp

theorem plc_struct {P : Program} {t : TypeId} {pl : List (Nat × Nat)} {fs : Array Field} (h : plc P t = some pl) (hu : P.underlying t = some (.struct fs)) :
    fs.toList.mapM (fun f => (P.info? f.type).map fun i => (f.offset, i.size)) = some pl := by
  unfold plc at h; rw [hu] at h; exact h
theorem plc_array {P : Program} {t : TypeId} {pl : List (Nat × Nat)} {n : Nat} {e : TypeId} (h : plc P t = some pl) (hu : P.underlying t = some (.array n e)) :
    ∃ k, P.info? e = some k ∧ pl = (List.range n).map fun i => (i * k.size, k.size) := by
  unfold plc at h; rw [hu] at h
  cases hk : P.info? e with
  | none => simp [hk] at h
  | some k => simp only [hk, Option.map_some, Option.some.injEq] at h; exact ⟨k, rfl, h.symm⟩

theorem tz_some {P : Program} {t : TypeId} {z : List Value} (h : tz P t = some z) : ∃ i zv, P.info? t = some i ∧ i.zero = some zv ∧ zv.cells.toList = z := by
  unfold tz at h
  cases hi : P.info? t with
  | none => simp [hi] at h
  | some i =>
    cases hzv : i.zero with
    | none => simp [hi, hzv] at h
    | some zv => simp only [hi, hzv, Option.bind_some, Option.map_some, Option.some.injEq] at h; exact ⟨i, zv, rfl, hzv, h⟩

end
end Go.Tw
