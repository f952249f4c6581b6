/- A step of the typed logic of this claim is proved here: what an operation does to the data that slots and memory stand for. -/
import Derived.Test.YtmjacadeccoclaaT7
import Derived.MapFrom
set_option linter.all false
namespace Go.Tw
open Go Go.RowKit

theorem cond_some {α : Type} {b : Bool} {x : Option α} {y : α} : (bif b then x else none) = some y ↔ b = true ∧ x = some y := by
  cases b <;> simp
def ks (A : Ans) (s : List (Nat × TV)) : List (Nat × TV) := match A.k with | some r => killS r s | none => s

section
variable {c : Cx} {σ : St} {a : Act} {w : World} {A : Ans} {o : Oper} {s' : List (Nat × TV)}

theorem ok_extract (hs : Sim c σ a w) {x : Operand} {i : Nat} (ho : o.op = .extract x i) (hx : ex c.P o.op (ev σ.s) σ.h σ.n = some A) (hc : A.c = true) (hput : sput c.m o.dst A.v (ks A σ.s) = some s') : OpOk c o a w ⟨s', A.h, A.n⟩ := by
  rw [ho] at hx; simp only [ex] at hx
  split at hx
  · rename_i vs hq
    obtain ⟨hb, hx⟩ := cond_some.1 hx
    simp only [Option.some.injEq] at hx; subst hx
    obtain ⟨_, _, _, μ, hH, hl, hg⟩ := id hs
    have hv := SR.evl hl x
    rw [hq] at hv
    simp only [VR] at hv
    obtain ⟨us, he, hx⟩ := hv
    have hi : i < us.length := by rw [← hx.length]; simpa [Nat.blt_eq] using hb
    refine OpOk.quiet hs (v := us.getD i undef) (fun w1 hb1 => ?_) hput (fun μ' hl' _ => ?_)
    · simp [execOp, ho, Instr.extract, he, List.getElem?_eq_getElem hi]
    · have hv' := SR.evl hl' x
      rw [hq, he] at hv'
      simp only [VR] at hv'
      obtain ⟨us', he', hx'⟩ := hv'
      simp only [Value.tuple.injEq] at he'
      have e2 : us' = us := by simpa using he'.symm
      subst e2
      exact hx'.get i
  · simp at hx

theorem ok_unop (hs : Sim c σ a w) {op : UnOp} {t : TypeId} {x : Operand} (ho : o.op = .unOp op t x) (hx : ex c.P o.op (ev σ.s) σ.h σ.n = some A) (hc : A.c = true) (hput : sput c.m o.dst A.v (ks A σ.s) = some s') : OpOk c o a w ⟨s', A.h, A.n⟩ := by
  rw [ho] at hx; simp only [ex] at hx
  obtain ⟨_, _, _, μ, hH, hl, hg⟩ := id hs
  have hv := SR.evl hl x
  split at hx
  · rename_i b hq
    simp only [Option.some.injEq] at hx; subst hx
    rw [hq] at hv
    exact OpOk.quiet hs (v := .bool !b) (fun w1 hb1 => by simp [execOp, ho, Op.unary, hv.p_eq]) hput (fun μ' hl' _ => by simp [VR])
  · rename_i k m hq
    simp only [Option.some.injEq] at hx; subst hx
    rw [hq] at hv
    exact OpOk.quiet hs (v := .int k (k.wrap (0 - m))) (fun w1 hb1 => by simp [execOp, ho, Op.unary, hv.p_eq, Op.intArith]) hput (fun μ' hl' _ => by simp [VR])
  · simp at hx

theorem ok_convert (hs : Sim c σ a w) {s d : TypeId} {x : Operand} (ho : o.op = .convert s d x) (hx : ex c.P o.op (ev σ.s) σ.h σ.n = some A) (hc : A.c = true) (hput : sput c.m o.dst A.v (ks A σ.s) = some s') : OpOk c o a w ⟨s', A.h, A.n⟩ := by
  rw [ho] at hx; simp only [ex] at hx
  obtain ⟨_, _, _, μ, hH, hl, hg⟩ := id hs
  have hv := SR.evl hl x
  split at hx
  · rename_i k0 k k1 m h1 h2 hq
    simp only [Option.some.injEq] at hx; subst hx
    rw [hq] at hv
    exact OpOk.quiet hs (v := .int k (k.wrap m)) (fun w1 hb1 => by simp [execOp, ho, Go.convert, underlying, h1, h2, hv.p_eq, Conv.intToInt]) hput (fun μ' hl' _ => by simp [VR])
  · rename_i b h1 h2 hq
    simp only [Option.some.injEq] at hx; subst hx
    rw [hq] at hv
    exact OpOk.quiet hs (v := .string b) (fun w1 hb1 => by simp [execOp, ho, Go.convert, underlying, h1, h2, hv.p_eq]) hput (fun μ' hl' _ => by simp [VR])
  · simp at hx

theorem ok_makeInterface (hs : Sim c σ a w) {t : TypeId} {x : Operand} (ho : o.op = .makeInterface t x) (hx : ex c.P o.op (ev σ.s) σ.h σ.n = some A) (hc : A.c = true) (hput : sput c.m o.dst A.v (ks A σ.s) = some s') : OpOk c o a w ⟨s', A.h, A.n⟩ := by
  rw [ho] at hx; simp only [ex] at hx
  cases hu : c.P.underlying t with
  | none => simp [hu] at hx
  | some d =>
    have key : A = { v := .ifc t (ev σ.s x), h := σ.h, n := σ.n, c := true } ∧ (∀ ms, d ≠ .interface ms) := by
      cases d <;> simp [hu] at hx <;> exact ⟨hx.symm, by simp⟩
    obtain ⟨rfl, hd⟩ := key
    refine OpOk.quiet hs (v := .iface t (a.eval x)) (fun w1 hb1 => ?_) hput (fun μ' hl' _ => by simp only [VR]; exact ⟨_, rfl, hl'.evl x⟩)
    cases d <;> simp at hd <;> simp [execOp, ho, Instr.makeInterface, underlying, hu]

theorem ok_makeFunc (hs : Sim c σ a w) {fn : Fn} {first cap : Array Operand} (ho : o.op = .makeFunc fn first cap) (hx : ex c.P o.op (ev σ.s) σ.h σ.n = some A) (hc : A.c = true) (hput : sput c.m o.dst A.v (ks A σ.s) = some s') : OpOk c o a w ⟨s', A.h, A.n⟩ := by
  rw [ho] at hx; simp only [ex, Option.some.injEq] at hx; subst hx
  refine OpOk.quiet hs (v := .func fn (first.map a.eval) (cap.map a.eval)) (fun w1 hb1 => by simp [execOp, ho, Instr.makeFunc]) hput (fun μ' hl' _ => ?_)
  simp only [VR]
  exact ⟨first.toList.map a.eval, cap.toList.map a.eval, by simp only [Value.func.injEq, true_and]; constructor <;> (apply Array.ext'; simp), hl'.map _, hl'.map _⟩

theorem ok_nilCheck (hs : Sim c σ a w) {x : Operand} (ho : o.op = .nilCheck x) (hx : ex c.P o.op (ev σ.s) σ.h σ.n = some A) (hc : A.c = true) (hput : sput c.m o.dst A.v (ks A σ.s) = some s') : OpOk c o a w ⟨s', A.h, A.n⟩ := by
  rw [ho] at hx; simp only [ex] at hx
  obtain ⟨_, _, _, μ, hH, hl, hg⟩ := id hs
  have hv := SR.evl hl x
  split at hx
  · rename_i r i off hq
    simp only [Option.some.injEq] at hx; subst hx
    rw [hq] at hv
    simp only [VR] at hv
    obtain ⟨_, B, he, _⟩ := hv
    exact OpOk.quiet hs (v := a.eval x) (fun w1 hb1 => by simp [execOp, ho, he]) hput (fun μ' hl' _ => by rw [← hq]; exact hl'.evl x)
  · rename_i t l i off hq
    simp only [Option.some.injEq] at hx; subst hx
    rw [hq] at hv
    simp only [VR] at hv
    obtain ⟨b, o', he, _⟩ := hv
    exact OpOk.quiet hs (v := a.eval x) (fun w1 hb1 => by simp [execOp, ho, he]) hput (fun μ' hl' _ => by rw [← hq]; exact hl'.evl x)
  · simp at hx

theorem ok_fieldAddr (hs : Sim c σ a w) {s : TypeId} {x : Operand} {f : Nat} (ho : o.op = .fieldAddr s x f) (hx : ex c.P o.op (ev σ.s) σ.h σ.n = some A) (hc : A.c = true) (hput : sput c.m o.dst A.v (ks A σ.s) = some s') : OpOk c o a w ⟨s', A.h, A.n⟩ := by
  rw [ho] at hx; simp only [ex] at hx
  obtain ⟨_, _, _, μ, hH, hl, hg⟩ := id hs
  have hv := SR.evl hl x
  split at hx
  · rename_i fo r i off hf hq
    simp only [Option.some.injEq] at hx; subst hx
    rw [hq] at hv
    simp only [VR] at hv
    obtain ⟨ha, B, he, hm⟩ := hv
    refine OpOk.quiet hs (v := .pointer (some (B.add fo))) (fun w1 hb1 => by simp [execOp, ho, he, run_fieldAt hf]) hput (fun μ' hl' _ => ?_)
    have hv' := SR.evl hl' x
    rw [hq] at hv'
    simp only [VR] at hv' ⊢
    obtain ⟨ha', B', he', hm'⟩ := hv'
    rw [he] at he'
    simp only [Value.pointer.injEq, Option.some.injEq] at he'
    subst he'
    refine ⟨ha', _, rfl, ?_⟩
    cases hg : hget σ.h r with
    | none => trivial
    | some y => cases y with
      | box cs => simp only [hg] at hm' ⊢; rw [hm', add_mk]; simp only [Nat.add_assoc]
      | mp _ _ => trivial
      | row fr t l => simp only [hg] at hm' ⊢; rw [hm', add_mk]; simp only [Nat.add_assoc]
  · rename_i fo t l i off hf hq
    simp only [Option.some.injEq] at hx; subst hx
    rw [hq] at hv
    simp only [VR] at hv
    obtain ⟨b, o', he, hb, _⟩ := hv
    refine OpOk.quiet hs (v := .pointer (some ⟨b, o' + i * sz t + off + fo, none⟩)) (fun w1 hb1 => by simp [execOp, ho, he, run_fieldAt hf, add_mk]) hput (fun μ' hl' _ => ?_)
    have hv' := SR.evl hl' x
    rw [hq] at hv'
    simp only [VR] at hv' ⊢
    obtain ⟨b', o'', he', hb', ht⟩ := hv'
    rw [he] at he'
    simp only [Value.pointer.injEq, Option.some.injEq, Addr.mk.injEq] at he'
    exact ⟨b', o'', by simp only [Value.pointer.injEq, Option.some.injEq, Addr.mk.injEq, and_true]; refine ⟨he'.1, ?_⟩; rw [he'.2.1]; omega, hb', ht⟩
  · simp at hx

theorem ok_index (hs : Sim c σ a w) {t : TypeId} {x i : Operand} (ho : o.op = .index t x i) (hx : ex c.P o.op (ev σ.s) σ.h σ.n = some A) (hc : A.c = true) (hput : sput c.m o.dst A.v (ks A σ.s) = some s') : OpOk c o a w ⟨s', A.h, A.n⟩ := by
  rw [ho] at hx; simp only [ex] at hx
  obtain ⟨_, _, _, μ, hH, hl, hg⟩ := id hs
  have hv := SR.evl hl x
  have hvi := SR.evl hl i
  split at hx
  · rename_i s k j hu hq hi
    simp only [Option.some.injEq] at hx; subst hx
    rw [hq] at hv
    rw [hi] at hvi
    simp only [Bool.and_eq_true, decide_eq_true_eq] at hc
    obtain ⟨h0, h1⟩ := hc
    have e1 := hv.p_eq
    have ei := hvi.p_eq
    refine OpOk.quiet hs (v := .int .u8 (s.data.toList.getD j.toNat 0).toNat) (fun w1 hb1 => ?_) hput (fun μ' hl' _ => by simp [VR])
    have hlt : j.toNat < s.size := by omega
    have e2 : s[j.toNat]? = some (s[j.toNat]'hlt) := ByteArray.getElem?_lt' s j.toNat hlt
    have e3 : s.data.toList.getD j.toNat 0 = s[j.toNat]'hlt := by
      have hlt' : j.toNat < s.data.toList.length := by simpa using hlt
      simp only [List.getD, List.getElem?_eq_getElem hlt', Option.getD_some]
      rfl
    simp [execOp, ho, e1, ei, Instr.index, asIntOf, underlying, hu, h0, e2]
    rw [← e3]; simp
  · simp at hx

/-- the header that a slice's shadow stands for -/
theorem tree_slice {imm ok : Nat → Prop} {t : Ty} {l : List (den t)} {v : Value} {L : List Nat} (H : TRl w imm ok (.sl t) l [v] L) : ∃ B cap, v = .slice B l.length cap := by
  obtain ⟨u, e, h⟩ := H
  simp only [List.cons.injEq, and_true] at e
  subst e
  rcases h with ⟨rfl, rfl, _⟩ | ⟨B, cap, L', rfl, _⟩
  · exact ⟨_, _, rfl⟩
  · exact ⟨_, _, rfl⟩
theorem SlR.len {m : Mu} {s off len : Nat} {v : Value} (H : SlR w m s off len v) : ∃ B cap, v = .slice B len cap := by
  rcases H with ⟨rfl, rfl⟩ | ⟨o, cap, rfl, _⟩ <;> exact ⟨_, _, rfl⟩

theorem ok_len (hs : Sim c σ a w) {cl : Call} (ho : o.op = .call cl) (hcl : cl.callee = .builtin .len) (hx : ex c.P o.op (ev σ.s) σ.h σ.n = some A) (hc : A.c = true) (hput : sput c.m o.dst A.v (ks A σ.s) = some s') : OpOk c o a w ⟨s', A.h, A.n⟩ := by
  rw [ho] at hx; simp only [ex, hcl] at hx
  obtain ⟨_, _, _, μ, hH, hl, hg⟩ := id hs
  split at hx
  · rename_i x d hargs hd
    simp only [Option.map_eq_some_iff] at hx
    obtain ⟨m, hm, rfl⟩ := hx
    have hv := SR.evl hl x
    have hargs' : (cl.args.map a.eval)[0]? = some (a.eval x) := by
      have : cl.args = [x].toArray := by rw [← hargs]
      rw [this]; simp
    cases ht : cl.argTypes[0]? with
    | none => simp [ht] at hd
    | some t =>
      simp only [ht, Option.bind_some] at hd
      have hu : ∀ w : World, (underlying t).run c.P w = .ok d w := by intro w; simp [underlying, hd]
      have key : ((∃ s, a.eval x = .string s ∧ s.size = m ∧ d = .string) ∨ (∃ B cap, a.eval x = .slice B m cap ∧ ∃ e, d = .slice e)) ∨ (∃ b es k, a.eval x = .map (some b) ∧ w.heap[b]? = some (.map es k) ∧ es.size = m ∧ ∃ e f, d = .map e f) := by
        unfold lenS at hm
        split at hm
        · rename_i s hq
          simp only [Option.some.injEq] at hm; subst hm
          rw [hq] at hv
          exact .inl (.inl ⟨s, hv.p_eq, rfl, rfl⟩)
        · rename_i e
          split at hm
          · rename_i hf
            simp only [Option.some.injEq] at hm; subst hm
            have := frzC_ok hH hs.lt hf hv
            exact .inl (.inr ⟨_, _, this.1, _, rfl⟩)
          · rename_i t' l hf
            simp only [Option.some.injEq] at hm; subst hm
            have := frzC_ok hH hs.lt hf hv
            obtain ⟨B, cap, h1⟩ := tree_slice this
            exact .inl (.inr ⟨B, cap, h1, _, rfl⟩)
          · simp at hm
        · rename_i e f r hq
          split at hm
          · rename_i k l hgm
            simp only [Option.some.injEq] at hm; subst hm
            rw [hq] at hv
            simp only [VR, hgm] at hv
            obtain ⟨_, b, e1, rfl⟩ := hv
            obtain ⟨L, hR⟩ := hH.row hgm
            simp only [RR] at hR
            obtain ⟨_, _, es, cl, h1, h2⟩ := hR
            have h3 := congrArg List.length h2
            simp only [List.length_map, Array.length_toList] at h3
            exact .inr ⟨_, es, cl, e1, h1, h3, _, _, rfl⟩
          · simp at hm
        · simp at hm
      refine OpOk.quiet hs (fun w1 hb1 => run_builtin_len ho hcl (v := .int .i64 m) ?_) hput (fun _ _ _ => by simp [VR])
      unfold Builtin.len_
      rcases key with (⟨s, h1, h2, h3⟩ | ⟨B, cap, h1, e, h3⟩) | ⟨b, es, k, h1, h2, h3, e, f, h4⟩
      · subst h3; simp [ht, hargs', h1, hu, h2, goInt]
      · subst h3; simp [ht, hargs', h1, hu, goInt]
      · subst h4
        have h5 : w1.heap[b]? = some (.map es k) := (hb1.block b (Array.getElem?_eq_some_iff.1 h2).1).trans h2
        simp [ht, hargs', h1, hu, goInt, MapKept.run_getObj_map h5, h3]
  · simp at hx

theorem ok_indexAddr (hs : Sim c σ a w) {t : TypeId} {x i : Operand} (ho : o.op = .indexAddr t x i) (hx : ex c.P o.op (ev σ.s) σ.h σ.n = some A) (hc : A.c = true) (hput : sput c.m o.dst A.v (ks A σ.s) = some s') : OpOk c o a w ⟨s', A.h, A.n⟩ := by
  rw [ho] at hx; simp only [ex, indexAddrS] at hx
  obtain ⟨_, _, _, μ, hH, hl, hg⟩ := id hs
  have hv := SR.evl hl x
  have hvi := SR.evl hl i
  split at hx
  · rename_i size bytes z k j ht hi
    rw [hi] at hvi
    have ei := hvi.p_eq
    split at hx
    · rename_i t0 l hq
      obtain ⟨hb, hx⟩ := cond_some.1 hx
      simp only [Option.some.injEq] at hx; subst hx
      simp only [Bool.and_eq_true, decide_eq_true_eq] at hc
      obtain ⟨h0, h1⟩ := hc
      have hsz : sz t0 = size := Nat.eq_of_beq_eq_true hb
      rw [hq] at hv
      simp only [VR] at hv
      obtain ⟨u, e, hv⟩ := hv
      simp only [List.cons.injEq, and_true] at e
      rcases hv with ⟨_, rfl, _⟩ | ⟨B, cap, L', e1, hcap, hte, hA⟩
      · simp at h1; omega
      · rcases hA with ⟨_, rfl, _, hA⟩ | ⟨hn, _⟩
        · have hne : l ≠ [] := by rintro rfl; simp at h1; omega
          obtain ⟨hsp, him⟩ := hA hne
          obtain ⟨b, of, sp⟩ := B
          simp only at hsp; subst hsp
          refine OpOk.quiet hs (v := .pointer (some ⟨b, of + j.toNat * sz t0, none⟩)) (fun w1 hb1 => ?_) hput (fun μ' hl' _ => ?_)
          · rw [← e] at e1
            simp [execOp, ho, e1, ei, run_indexAt_slice ht h0 h1, add_mk, hsz]
          · simp only [VR]
            exact ⟨b, of, rfl, fun _ => him, hte⟩
        · simp at hn
    · rename_i r hq
      split at hx
      · rename_i fr t0 l hgr
        obtain ⟨hb, hx⟩ := cond_some.1 hx
        simp only [Option.some.injEq] at hx; subst hx
        simp only [Bool.and_eq_true, decide_eq_true_eq] at hc
        obtain ⟨h0, h1⟩ := hc
        have hsz : sz t0 = size := Nat.eq_of_beq_eq_true hb
        rw [hq] at hv
        simp only [VR, hgr] at hv
        obtain ⟨hr, hv⟩ := hv
        rcases hv with ⟨_, h3⟩ | ⟨of, cap, e1, h2, h3, h4, h5⟩
        · omega
        · obtain ⟨h6, _⟩ := h5 (by omega)
          refine OpOk.quiet hs (v := .pointer (some ⟨(μ r).blk, of + j.toNat * sz t0, none⟩)) (fun w1 hb1 => ?_) hput (fun μ' hl' _ => ?_)
          · simp [execOp, ho, e1, ei, run_indexAt_slice ht h0 h1, add_mk, hsz]
          · have hv' := SR.evl hl' x
            rw [hq] at hv'
            simp only [VR, hgr] at hv' ⊢
            obtain ⟨_, hv'⟩ := hv'
            rcases hv' with ⟨_, h3'⟩ | ⟨of', cap', e1', h2', h3', h4', h5'⟩
            · omega
            · obtain ⟨h6', _⟩ := h5' (by omega)
              rw [e1] at e1'
              simp only [Value.slice.injEq, Option.some.injEq, Addr.mk.injEq, and_true, true_and] at e1'
              refine ⟨hr, _, rfl, ?_⟩
              simp only [Addr.mk.injEq, and_true]
              refine ⟨e1'.1.1, ?_⟩
              rw [e1'.1.2, h6']; omega
      · simp at hx
    · rename_i r off len hq
      split at hx
      · rename_i fr t0 l hgr
        obtain ⟨hb, hx⟩ := cond_some.1 hx
        simp only [Option.some.injEq] at hx; subst hx
        simp only [Bool.and_eq_true, decide_eq_true_eq] at hc
        obtain ⟨h0, h1⟩ := hc
        have hsz : sz t0 = size := Nat.eq_of_beq_eq_true hb
        rw [hq] at hv
        simp only [VR, hgr] at hv
        obtain ⟨hr, hle, hv⟩ := hv
        rcases hv with ⟨_, h3⟩ | ⟨of, cap, e1, h2, h3, h4, h5⟩
        · omega
        · obtain ⟨h6, _⟩ := h5 (by omega)
          refine OpOk.quiet hs (v := .pointer (some ⟨(μ r).blk, of + j.toNat * sz t0, none⟩)) (fun w1 hb1 => ?_) hput (fun μ' hl' _ => ?_)
          · simp [execOp, ho, e1, ei, run_indexAt_slice ht h0 h1, add_mk, hsz]
          · have hv' := SR.evl hl' x
            rw [hq] at hv'
            simp only [VR, hgr] at hv' ⊢
            obtain ⟨_, _, hv'⟩ := hv'
            rcases hv' with ⟨_, h3'⟩ | ⟨of', cap', e1', h2', h3', h4', h5'⟩
            · omega
            · obtain ⟨h6', _⟩ := h5' (by omega)
              rw [e1] at e1'
              simp only [Value.slice.injEq, Option.some.injEq, Addr.mk.injEq, and_true, true_and] at e1'
              refine ⟨hr, _, rfl, ?_⟩
              simp only [Addr.mk.injEq, and_true]
              refine ⟨e1'.1.1, ?_⟩
              rw [e1'.1.2, h6', Nat.add_mul]; omega
      · simp at hx
    · simp at hx
  · simp at hx
end
end Go.Tw
