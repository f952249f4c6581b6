/- Plain facts on the mirrors of the functions are proved here. -/
import Derived.Test.YtmnfadocihfiaaaGreatMr
import Derived.Test.YtmnfadocihfiaaaGreatPra
set_option linter.all false
namespace Go.Tw
open Go Go.RowKit Go.Proofs
variable [Grd]
structure CmdE where
  i : Nat
  us : List Value
  op : Int
  n : Int
  A : Option Addr
  l : Nat
  c : Nat
  len : us.length = 30
  one : ∀ u ∈ us, u.oneCell' = true
  h0 : us[0]? = some (.int .i64 op)
  h1 : us[1]? = some (.int .i64 n)
  h2 : us[29]? = some (.slice A l c)
def CmdE.v (E : CmdE) : Value := .slice E.A E.l E.c
theorem cmd_at {w : World} {imm ok : Nat → Prop} {c : D_Cmd} {b o : Nat} {L : List Nat} (h : TRc w (immf true imm) ok T_Cmd c b o L) :
    ∃ E : CmdE, At w b o E.us ∧ E.op = c.1 ∧ E.n = c.2.1 ∧ TO1 w imm ok true (.tr T_Module c.2.2.2.2.2.1) E.v L := by
  obtain ⟨us, h, ha⟩ := h
  have hl := h.length
  have ho := h.oneCell
  obtain ⟨u1, v1, L1, M1, rfl, rfl, ⟨rfl, rfl⟩, h⟩ := h
  obtain ⟨u2, v2, L2, M2, rfl, rfl, ⟨rfl, rfl⟩, h⟩ := h
  obtain ⟨u3, v3, L3, M3, rfl, rfl, ⟨rfl, rfl⟩, h⟩ := h
  obtain ⟨u4, v4, L4, M4, rfl, rfl, hr, h⟩ := h
  obtain ⟨u5, v5, L5, M5, rfl, rfl, hlm, h⟩ := h
  obtain ⟨u6, v6, L6, M6, rfl, rfl, hc, ⟨rfl, rfl⟩⟩ := h
  obtain ⟨rfl, _⟩ := TRl.flat (w' := w) (imm' := imm) (ok' := ok) (by rfl) hr
  obtain ⟨rfl, _⟩ := TRl.flat (w' := w) (imm' := imm) (ok' := ok) (by rfl) hlm
  have l4 : u4.length = 21 := hr.length
  have l5 : u5.length = 5 := hlm.length
  have hc' := hc
  obtain ⟨v, rfl, hv⟩ := hc'
  obtain ⟨A, l, cp, rfl⟩ : ∃ A l cp, v = .slice A l cp := by
    rcases hv with ⟨rfl, _⟩ | ⟨A, cap, _, rfl, _⟩
    · exact ⟨_, _, _, rfl⟩
    · exact ⟨_, _, _, rfl⟩
  refine ⟨⟨0, _, c.1, c.2.1, A, l, cp, hl, ho, rfl, rfl, ?_⟩, ha, rfl, rfl, ?_⟩
  · simp only [List.cons_append, List.nil_append, List.append_nil]
    rw [List.getElem?_cons, List.getElem?_cons, List.getElem?_cons]
    simp [List.getElem?_append, l4, l5]
  · show TO1 w imm ok true (.tr T_Module c.2.2.2.2.2.1) (.slice A l cp) _
    simpa using TO1.of_TRl hc
def CmdE.at (E : CmdE) (j : Nat) : CmdE := { E with i := j }
instance : Nonempty CmdE := ⟨⟨0, List.replicate 29 (.int .i64 0) ++ [.slice none 0 0], 0, 0, none, 0, 0, rfl, by intro u hu; simp only [List.mem_append, List.mem_replicate, List.mem_singleton] at hu; rcases hu with ⟨_, rfl⟩ | rfl <;> rfl, rfl, rfl, rfl⟩⟩
theorem els_of {w : World} {imm ok : Nat → Prop} {cs : List D_Cmd} {sv : Value} {L : List Nat} (h : TO1 w imm ok true (.tr T_Cmd cs) sv L) (hn : L.Nodup) :
    ∃ E : Nat → CmdE, (∀ j, (E j).i = j) ∧ ((sv = .slice none 0 0 ∧ cs.length = 0) ∨ ∃ b o cap, sv = .slice (some ⟨b, o, none⟩) cs.length cap ∧ b < w.heap.size ∧ ∀ j, j < cs.length → At w b (o + j * 30) (E j).us) ∧
      ∀ j, j < cs.length → (E j).op = (cs.getD j zzC).1 ∧ (E j).n = (cs.getD j zzC).2.1 ∧ ∃ L', L'.Nodup ∧ (∀ b ∈ L', b ∈ L) ∧ TO1 w imm ok true (.tr T_Module (cs.getD j zzC).2.2.2.2.2.1) (E j).v L' := by
  rcases h with ⟨rfl, rfl, rfl⟩ | ⟨b, o, cap, L', rfl, _, h1, rfl, _, h2, _⟩
  · obtain ⟨E⟩ : Nonempty CmdE := inferInstance
    exact ⟨fun j => E.at j, fun _ => rfl, .inl ⟨rfl, rfl⟩, fun j hj => absurd hj (Nat.not_lt_zero j)⟩
  · have key : ∀ j, ∃ E : CmdE, j < cs.length → At w b (o + j * 30) E.us ∧ E.op = (cs.getD j zzC).1 ∧ E.n = (cs.getD j zzC).2.1 ∧ ∃ L2, L2.Nodup ∧ (∀ k ∈ L2, k ∈ b :: L') ∧ TO1 w imm ok true (.tr T_Module (cs.getD j zzC).2.2.2.2.2.1) E.v L2 := by
      intro j
      by_cases hj : j < cs.length
      · obtain ⟨M1, M2, M3, rfl, _, h3, _⟩ := RL.at zzC hj h1
        obtain ⟨E, e1, e2, e3, e4⟩ := cmd_at h3
        refine ⟨E, fun _ => ⟨e1, e2, e3, M2, ?_, fun k hk => by simp [hk], e4⟩⟩
        have := (List.nodup_cons.1 hn).2
        exact (List.nodup_append.1 (List.nodup_append.1 this).2.1).1
      · obtain ⟨E⟩ : Nonempty CmdE := inferInstance
        exact ⟨E, fun h => absurd h hj⟩
    obtain ⟨E, hE⟩ := Classical.axiomOfChoice key
    exact ⟨fun j => (E j).at j, fun _ => rfl, .inr ⟨b, o, cap, rfl, h2.lt, fun j hj => (hE j hj).1⟩, fun j hj => (hE j hj).2⟩
theorem tv110 : tv Tryz.prog 110 = some (true, 30) := by kernel_rfl
theorem load_el {w w' : World} {b o : Nat} {E : CmdE} (h : At w b o E.us) (hs : w'.heap[b]? = w.heap[b]?) : (loadVar 110 ⟨b, o, none⟩).run Tryz.prog w' = .ok (.agg E.us.toArray) w' :=
  run_loadVar tv110 E.len (fun j u hj => (h.same hs) j u hj) (.inl rfl)
theorem wpListIn_store {F : Fence} {n : Nat} {P : Program} {ops : Array Oper} {Q : Exit → Act → World → Prop} {rest : List Oper} {a : Act} {w w' : World} {t ty : TypeId} {x y : Operand} {pos : String} {af : Array Edge} {A : Addr}
    (hx : a.eval x = .pointer (some A)) (hl : (storeVar t A (a.eval y)).run P w = .ok () w') (h : wpListIn F n P ops Q rest (a.put none undef) w') : wpListIn F n P ops Q (⟨none, .store t x y, ty, pos, af, none⟩ :: rest) a w := by
  refine wpListIn_plain rfl fun K hK => ?_
  have hr : (Oper.semAt F.round a.eval ⟨none, .store t x y, ty, pos, af, none⟩).run P w = .ok .skip w' := by
    rw [Oper.semAt_eq _ _ _ (fun c => by simp)]
    simp [execOp, Instr.storeAt, hx, Instr.sureAddr, hl]
  refine ⟨fun f hf => by simp [Oper.about] at hf, ?_⟩
  rw [hr]
  exact hK _ _ h
structure Kp6 (B : Nat) (w0 w : World) : Prop where
  os : w.os = w0.os
  tape : w.tape = w0.tape
  output : w.output = w0.output
  size : w0.heap.size ≤ w.heap.size
  block : ∀ j, j < w0.heap.size → j ≠ B → w.heap[j]? = w0.heap[j]?
theorem Kp6.of {B n : Nat} {w0 w : World} (h : Below n w0 w) (hn : w0.heap.size ≤ n) : Kp6 B w0 w := ⟨h.os, h.tape, h.output, h.size, fun j hj _ => h.block j (Nat.lt_of_lt_of_le hj hn)⟩
theorem Kp6.set {B : Nat} {w0 w : World} (h : Kp6 B w0 w) (v : Value) : Kp6 B w0 (w.setCell ⟨B, 0, none⟩ v) := by
  have hg := grownBy_setCell' w B v
  refine ⟨hg.os.trans h.os, hg.tape.trans h.tape, hg.output.trans h.output, Nat.le_trans h.size hg.size, fun j hj hn => ?_⟩
  exact (hg.block j (Nat.lt_of_lt_of_le hj h.size) (fun e => hn (by cases e; rfl))).trans (h.block j hj hn)
theorem Kp6.own {β : Type} {B C : Nat} {w0 : World} (hC : w0.heap.size ≤ C) : OwnFrom C (fun (_ : β) W => Kp6 B w0 W) := by
  intro s W W' row h hg hr
  refine ⟨hg.os.trans h.os, hg.tape.trans h.tape, hg.output.trans h.output, Nat.le_trans h.size hg.size, fun j hj hn => ?_⟩
  exact (hg.block j (Nat.lt_of_lt_of_le hj h.size) (fun e => by have := (hr j e.symm).1; omega)).trans (h.block j hj hn)
theorem Kp6.frl {B : Nat} {w0 w1 w : World} (h : Kp6 B w1 w) (h1 : FrL [] w0 w1) (hB : w0.heap.size ≤ B) : FrL [] w0 w :=
  have hb : ∀ j, j < w0.heap.size → w.heap[j]? = w0.heap[j]? := fun j hj => (h.block j (Nat.lt_of_lt_of_le hj h1.size) (by omega)).trans (h1.block j hj (by simp))
  ⟨h.os.trans h1.os, h.tape.trans h1.tape, h.output.trans h1.output, Nat.le_trans h1.size h.size, fun j hj _ => hb j hj, fun b m hr => hr.same (hb b hr.lt)⟩
theorem keeps_setCells : ∀ (us : List Value) (w : World) (b o : Nat), KeepsOthers w (setCells w b o us)
  | [], w, b, o => KeepsOthers.refl w
  | u :: us, w, b, o => (KeepsOthers.setCell w ⟨b, o, none⟩ u).trans (keeps_setCells us _ b (o + 1))
theorem below_setCells {n : Nat} : ∀ (us : List Value) (w : World) (b o : Nat), n ≤ b → Below n w (setCells w b o us)
  | [], w, b, o, _ => Below.refl n w
  | u :: us, w, b, o, h => ((Below.refl n w).setCell (p := ⟨b, o, none⟩) h u).trans (below_setCells us _ b (o + 1) h)
theorem Kp6.below {B : Nat} {w0 w w' : World} (h : Kp6 B w0 w) (h' : Below w0.heap.size w w') : Kp6 B w0 w' :=
  ⟨h'.os.trans h.os, h'.tape.trans h.tape, h'.output.trans h.output, Nat.le_trans h.size h'.size, fun j hj hn => (h'.block j hj).trans (h.block j hj hn)⟩
end Go.Tw
