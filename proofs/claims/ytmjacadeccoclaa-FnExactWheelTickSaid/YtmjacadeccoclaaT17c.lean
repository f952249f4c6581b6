/- A step of the typed logic of this claim is proved here: what an operation does to the data that slots and memory stand for. -/
import Derived.Test.YtmjacadeccoclaaT17w
set_option linter.all false
namespace Go.Tw
open Go Go.RowKit

/-! clear(s): zeros in the place of a slice's elements. -/
theorem zc_rep {z : Array Value} (hz : z.size ≠ 0) (n : Nat) : (Builtin.zeroCells z n).toList = (List.replicate n z.toList).flatten := by
  apply List.ext_getElem?
  intro j
  by_cases hj : j < n * z.size
  · rw [rep_flat_get z.toList (by simpa using hz) n j (by simpa using hj)]
    have hm : j % z.size < z.size := Nat.mod_lt _ (by omega)
    simp [Builtin.zeroCells, hj, hm]
  · rw [List.getElem?_eq_none (by simp [Builtin.zeroCells]; omega), List.getElem?_eq_none (by simp; omega)]
theorem setCells_app : ∀ (us vs : List Value) (w : World) (b o : Nat), setCells w b o (us ++ vs) = setCells (setCells w b o us) b (o + us.length) vs
  | [], vs, w, b, o => rfl
  | u :: us, vs, w, b, o => by
    simp only [List.cons_append, setCells, List.length_cons]
    rw [setCells_app us vs, show o + 1 + us.length = o + (us.length + 1) by omega]
theorem clr_length {α : Type} (d : α) : ∀ (k off : Nat) (l : List α), (clr d off k l).length = l.length
  | 0, _, _ => rfl
  | k + 1, off, l => by simp only [clr]; rw [clr_length d k]; simp

section
variable {imm ok : Nat → Prop} {μ : Nat → Mu} {n : Nat}
theorem HR.clear {r : Nat} {fr : Bool} {t : Ty} {d : den t} {z : List Value} (hio : ∀ b, imm b → ¬ ok b) (hsl : hasSl t = false) (hd : dec1 t (z.map .p) = some d) (hz : z.length = sz t) : ∀ (k off : Nat) (l : List (den t)) (w : World) (h : Heap), HR w imm ok μ h n [] → hget h r = some (.row fr t l) → off + k ≤ l.length →
    HR (setCells w (μ r).blk ((μ r).off + off * sz t) (List.replicate k z).flatten) imm ok μ (hset h r (.row fr t (clr d off k l))) n [] ∧
      ∀ xs us, VRl w imm ok μ h n xs us → VRl (setCells w (μ r).blk ((μ r).off + off * sz t) (List.replicate k z).flatten) imm ok μ (hset h r (.row fr t (clr d off k l))) n xs us
  | 0, off, l, w, h, H, hg, _ => by
    have hc : ∀ r', hget (hset h r (.row fr t l)) r' = hget h r' := by
      intro r'; rw [hget_hset]; split
      · subst_vars; exact hg.symm
      · rfl
    simp only [List.replicate_zero, List.flatten_nil, setCells, clr]
    exact ⟨H.congr hc, fun xs us hv => VRl.congr hc hv⟩
  | k + 1, off, l, w, h, H, hg, hle => by
    have he : dec1 t (spl (encT t (l.getD off (dflt t))) 0 (z.map .p)) = some d := by
      have : spl (encT t (l.getD off (dflt t))) 0 (z.map .p) = z.map .p := by
        simp only [spl, List.take_zero, List.nil_append, Nat.zero_add, List.length_map, hz]
        rw [List.drop_of_length_le (by rw [enc_length]; exact Nat.le_refl _)]; simp
      rw [this]; exact hd
    obtain ⟨_, _, h1, kp⟩ := HR.store (K := fun _ => True) (D := []) (D1 := []) (f2 := true) (i := off) (off := 0) (fs := z.map .p) (us := z) hio (by simpa using H) hg (fun _ => hsl) (fun _ _ _ _ => innOkl_true _) (by omega) (by simp [hz]) (CT.pmap z) he
    rw [Bool.and_true] at h1 kp
    obtain ⟨h2, h3⟩ := HR.clear hio hsl hd hz k (off + 1) (l.set off d) _ _ h1 (by rw [hget_hset, if_pos rfl]) (by simp; omega)
    have hc : ∀ r', hget (hset h r (.row fr t (clr d (off + 1) k (l.set off d)))) r' = hget (hset (hset h r (.row fr t (l.set off d))) r (.row fr t (clr d (off + 1) k (l.set off d)))) r' := by
      intro r'; rw [hget_hset, hget_hset, hget_hset]; split <;> rfl
    have hw : setCells w (μ r).blk ((μ r).off + off * sz t) (List.replicate (k + 1) z).flatten = setCells (setCells w (μ r).blk ((μ r).off + off * sz t + 0) z) (μ r).blk ((μ r).off + (off + 1) * sz t) (List.replicate k z).flatten := by
      rw [List.replicate_succ, List.flatten_cons, setCells_app, Nat.add_zero, hz]
      congr 1; rw [Nat.succ_mul]; omega
    rw [hw]
    exact ⟨h2.congr hc, fun xs us hv => VRl.congr hc (h3 xs us (VRl.mono kp _ _ (innOkl_true _) hv))⟩
end
theorem SR.of_VRl {w w' : World} {imm ok : Nat → Prop} {μ : Nat → Mu} {h h' : Heap} {n : Nat} (H : ∀ xs us, VRl w imm ok μ h n xs us → VRl w' imm ok μ h' n xs us) {s : List (Nat × TV)} {us : Array Value} (hs : SR w imm ok μ h n s us) : SR w' imm ok μ h' n s us := by
  intro t
  have := H [sget s t] [us.getD t undef] (by simp only [VRl]; exact ⟨_, _, rfl, hs t, rfl⟩)
  simp only [VRl] at this
  obtain ⟨_, _, e, h1, _⟩ := this
  simp only [List.cons.injEq] at e
  rw [e.1]; exact h1

theorem isClear_some {op : Op} {cl : Call} (h : isClear op = some cl) : op = .call cl ∧ cl.callee = .builtin .clear := by
  unfold isClear at h
  split at h
  · split at h
    · simp only [Option.some.injEq] at h; subst h; exact ⟨rfl, by assumption⟩
    · simp at h
  · simp at h

section
variable {c : Cx} {σ : St} {a : Act} {w w' : World} {o : Oper} {s' : List (Nat × TV)} {h' : Heap}
theorem ok_clear (hs : Sim c σ a w) {cl : Call} {x : Operand} (ho : o.op = .call cl) (hcl : cl.callee = .builtin .clear) (hargs : cl.args.toList = [x]) (hx : clearS c.P cl (ev σ.s x) σ.h = some h') (hput : sput c.m o.dst (.tup []) σ.s = some s') : OpOk c o a w ⟨s', h', σ.n⟩ := by
  obtain ⟨hfr, hdf, hsz, μ, hH, hl, hgs⟩ := id hs
  have hv := SR.evl hl x
  have ha : cl.args = #[x] := by rw [← Array.toList_inj]; exact hargs
  unfold clearS at hx
  split at hx
  · rename_i size bytes z e ht he
    obtain ⟨hb, hx1⟩ := cond_some.1 hx
    clear hx
    simp only [Bool.and_eq_true, Bool.not_eq_true'] at hb
    obtain ⟨hb1, hsl⟩ := hb
    have hes : sz e = size := Nat.eq_of_beq_eq_true hb1
    simp only [Option.bind_eq_some_iff] at hx1
    obtain ⟨d, hd, hx⟩ := hx1
    cases hat : cl.argTypes[0]? with
    | none => simp [hat] at ht
    | some tt =>
      simp only [hat, Option.bind_some] at ht
      obtain ⟨el, i, zv, hu, hi, hz, rfl, rfl, rfl, hzl, hs0, hb0, hzone⟩ := tsl_some ht
      have hzsz : zv.cells.size ≠ 0 := by simpa using (show zv.cells.toList.length ≠ 0 by rw [hzl]; exact hs0)
      have run0 : ∀ {v : Value}, a.eval x = v → ∀ {w1}, (Builtin.clear_ cl.argTypes o.type #[v]).run c.P w = .ok (.tuple #[]) w1 → (execOp a.eval o).run c.P w = .ok (.value (.tuple #[])) w1 := by
        rintro v rfl w1 h
        simp [execOp, ho, resolve, hcl, invoke, builtin, ha, h]
      -- a slice that is not empty
      have main : ∀ {r off len : Nat} {fr : Bool} {l : List (den e)}, hget σ.h r = some (.row fr e l) → off + len ≤ l.length → SlR w (μ r) (sz e) off len (a.eval x) → OpOk c o a w ⟨s', hset σ.h r (.row fr e (clr d off len l)), σ.n⟩ := by
        intro r off len fr l hg hle hS
        have hcl := HR.clear (imm := c.imm) c.immok hsl hd (by rw [hzl, hes]) len off l w σ.h hH hg hle
        rcases Nat.eq_zero_or_pos len with h0 | hp
        · subst h0
          simp only [List.replicate_zero, List.flatten_nil, setCells] at hcl
          have hrun : (Builtin.clear_ cl.argTypes o.type #[a.eval x]).run c.P w = .ok (.tuple #[]) w := by
            rcases hS with ⟨h1, _⟩ | ⟨o', cap, h1, _⟩ <;> simp [Builtin.clear_, hat, h1, underlying, hu]
          exact ⟨_, _, run0 rfl hrun, fun e => (by simp [ho, hcl, stillB, ‹cl.callee = _›] at e), .inl ⟨_, rfl, Sim.put hfr hdf hsz hcl.1 (SR.of_VRl hcl.2 hl) (hcl.2 _ _ hgs) (by simp [VR, VRl]) hput⟩⟩
        · rcases hS with ⟨_, h1⟩ | ⟨o', cap, h1, h2, h3, h4, h5⟩
          · omega
          obtain ⟨ho', h6⟩ := h5 (by omega)
          obtain ⟨L0, hR0⟩ := hH.row hg
          obtain ⟨_, _, hob, hrow, _⟩ := hR0.rowd h3
          have hmul : (off + len) * sz e ≤ l.length * sz e := Nat.mul_le_mul_right _ hle
          rw [Nat.add_mul] at hmul
          have hfl : (List.replicate len zv.cells.toList).flatten.length = len * sz e := by simp [hes, ← hzl]
          have hst : (storeCells ⟨(μ r).blk, o', none⟩ (Builtin.zeroCells zv.cells len).toList).run c.P w = .ok () (setCells w (μ r).blk ((μ r).off + off * sz e) (List.replicate len zv.cells.toList).flatten) := by
            rw [zc_rep hzsz]
            have := run_storeCells c.P (List.replicate len zv.cells.toList).flatten w (μ r).blk o' 0 (by rw [hfl, ho']; exact hrow.le (by omega)) (fun u hu => by
              simp only [List.mem_flatten, List.mem_replicate] at hu
              obtain ⟨y, ⟨_, rfl⟩, hu⟩ := hu
              exact List.all_eq_true.1 hzone u hu)
            rw [Nat.add_zero, ho'] at this
            rw [ho']; exact this
          have hrun : (Builtin.clear_ cl.argTypes o.type #[a.eval x]).run c.P w = .ok (.tuple #[]) (setCells w (μ r).blk ((μ r).off + off * sz e) (List.replicate len zv.cells.toList).flatten) := by
            cases len with
            | zero => omega
            | succ m => simp [Builtin.clear_, hat, h1, underlying, hu, zeroValue, typeInfo, hi, hz, hst]
          exact ⟨_, _, run0 rfl hrun, fun e => (by simp [ho, hcl, stillB, ‹cl.callee = _›] at e), .inl ⟨_, rfl, Sim.put (hfr.set _ hob) hdf hsz hcl.1 (SR.of_VRl hcl.2 hl) (hcl.2 _ _ hgs) (by simp [VR, VRl]) hput⟩⟩
      split at hx
      · rename_i r hq
        rw [hq] at hv
        split at hx
        · rename_i fr t l hg
          simp only [Option.map_eq_some_iff] at hx
          obtain ⟨l', hc, rfl⟩ := hx
          obtain ⟨rfl, rfl⟩ := cast_some hc
          simp only [VR, hg] at hv
          exact main hg (by omega) hv.2
        · simp at hx
      · rename_i r off len hq
        rw [hq] at hv
        split at hx
        · rename_i fr t l hg
          simp only [Option.map_eq_some_iff] at hx
          obtain ⟨l', hc, rfl⟩ := hx
          obtain ⟨rfl, rfl⟩ := cast_some hc
          simp only [VR, hg] at hv
          exact main hg hv.2.1 hv.2.2
        · simp at hx
      · rename_i hq
        rw [hq] at hv
        simp only [Option.some.injEq] at hx; subst hx
        have hrun : (Builtin.clear_ cl.argTypes o.type #[.slice none 0 0]).run c.P w = .ok (.tuple #[]) w := by
          simp [Builtin.clear_, hat, underlying, hu]
        exact ⟨_, _, run0 hv.p_eq hrun, fun e => (by simp [ho, hcl, stillB] at e), .inl ⟨_, rfl, Sim.put hfr hdf hsz hH hl hgs (by simp [VR, VRl]) hput⟩⟩
      · simp at hx
  · simp at hx
end
end Go.Tw
