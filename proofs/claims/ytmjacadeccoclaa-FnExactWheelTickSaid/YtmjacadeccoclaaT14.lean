/- A step of the typed logic of this claim is proved here: what an operation does to the data that slots and memory stand for. -/
import Derived.Test.YtmjacadeccoclaaT13
set_option linter.all false
namespace Go.Tw
open Go Go.RowKit

/-- Elements' cells, side by side. -/
def EL (w : World) (imm ok : Nat → Prop) (t : Ty) : List (den t) → List Value → List Nat → Prop
  | [], us, L => us = [] ∧ L = []
  | x :: l, us, L => ∃ u1 u2 L1 L2, us = u1 ++ u2 ∧ L = L1 ++ L2 ∧ TRl w imm ok t x u1 L1 ∧ EL w imm ok t l u2 L2

section
variable {w w' : World} {imm imm' ok ok' : Nat → Prop} {μ : Nat → Mu} {h : Heap} {n : Nat} {t : Ty}
theorem EL.length : ∀ {l : List (den t)} {us : List Value} {L : List Nat}, EL w imm ok t l us L → us.length = l.length * sz t
  | [], us, L, H => by rw [H.1]; simp
  | x :: l, us, L, H => by
    obtain ⟨u1, u2, L1, L2, rfl, rfl, h1, h2⟩ := H
    rw [List.length_append, h1.length, EL.length h2, List.length_cons, Nat.succ_mul]; omega
theorem EL.one : ∀ {l : List (den t)} {us : List Value} {L : List Nat}, EL w imm ok t l us L → ∀ u ∈ us, u.oneCell' = true
  | [], us, L, H, u, hu => by rw [H.1] at hu; simp at hu
  | x :: l, us, L, H, u, hu => by
    obtain ⟨u1, u2, L1, L2, rfl, rfl, h1, h2⟩ := H
    rcases List.mem_append.1 hu with hu | hu
    · exact h1.oneCell u hu
    · exact EL.one h2 u hu
theorem EL.blocks : ∀ {l : List (den t)} {us : List Value} {L : List Nat}, EL w imm ok t l us L → ∀ b ∈ L, ok b ∧ b < w.heap.size
  | [], us, L, H, u, hu => by rw [H.2] at hu; simp at hu
  | x :: l, us, L, H, u, hu => by
    obtain ⟨u1, u2, L1, L2, rfl, rfl, h1, h2⟩ := H
    rcases List.mem_append.1 hu with hu | hu
    · exact h1.blocks u hu
    · exact EL.blocks h2 u hu
theorem EL.mono (hi : ∀ b, imm b → imm' b) (ho : ∀ b, ok b → ok' b) (hw : ∀ b, imm b → w'.heap[b]? = w.heap[b]?) : ∀ {l : List (den t)} {us : List Value} {L : List Nat}, (∀ b ∈ L, w'.heap[b]? = w.heap[b]?) → EL w imm ok t l us L → EL w' imm' ok' t l us L
  | [], us, L, _, H => H
  | x :: l, us, L, hL, H => by
    obtain ⟨u1, u2, L1, L2, rfl, rfl, h1, h2⟩ := H
    exact ⟨u1, u2, L1, L2, rfl, rfl, h1.mono hi ho hw (fun b hb => hL b (by simp [hb])), EL.mono hi ho hw (fun b hb => hL b (by simp [hb])) h2⟩
theorem EL.app : ∀ {l m : List (den t)} {us vs : List Value} {L M : List Nat}, EL w imm ok t l us L → EL w imm ok t m vs M → EL w imm ok t (l ++ m) (us ++ vs) (L ++ M)
  | [], m, us, vs, L, M, H, K => by obtain ⟨rfl, rfl⟩ := H; simpa using K
  | x :: l, m, us, vs, L, M, H, K => by
    obtain ⟨u1, u2, L1, L2, rfl, rfl, h1, h2⟩ := H
    exact ⟨u1, u2 ++ vs, L1, L2 ++ M, by simp, by simp, h1, EL.app h2 K⟩
theorem EL.toRL {b : Nat} : ∀ {l : List (den t)} {us : List Value} {L : List Nat} {o : Nat}, EL w imm ok t l us L → At w b o us → RL (TRc w imm ok t) (sz t) l b o L
  | [], us, L, o, H, _ => H.2
  | x :: l, us, L, o, H, ha => by
    obtain ⟨u1, u2, L1, L2, rfl, rfl, h1, h2⟩ := H
    obtain ⟨a1, a2⟩ := At.app.1 ha
    exact ⟨L1, L2, rfl, ⟨u1, h1, a1⟩, EL.toRL h2 (by rw [← h1.length]; exact a2)⟩
theorem RL.toEL {b : Nat} : ∀ {l : List (den t)} {L : List Nat} {o : Nat}, RL (TRc w imm ok t) (sz t) l b o L → ∃ us, EL w imm ok t l us L ∧ At w b o us
  | [], L, o, H => ⟨[], ⟨rfl, H⟩, At.nil⟩
  | x :: l, L, o, H => by
    obtain ⟨L1, L2, rfl, ⟨u1, h1, a1⟩, h2⟩ := H
    obtain ⟨u2, h3, a2⟩ := RL.toEL h2
    exact ⟨u1 ++ u2, ⟨u1, u2, L1, L2, rfl, rfl, h1, h3⟩, At.app.2 ⟨a1, by rw [h1.length]; exact a2⟩⟩

theorem TRl.flat : ∀ {t : Ty} {x : den t} {us : List Value} {L : List Nat}, hasSl t = false → TRl w imm ok t x us L → L = [] ∧ TRl w' imm' ok' t x us []
  | .int _, _, _, _, _, h => ⟨h.2, h.1, rfl⟩
  | .bool, _, _, _, _, h => ⟨h.2, h.1, rfl⟩
  | .str, _, _, _, _, h => ⟨h.2, h.1, rfl⟩
  | .un, _, _, _, _, h => ⟨h.2, h.1, rfl⟩
  | .pr a b, x, us, L, hf, h => by
    simp only [hasSl, Bool.or_eq_false_iff] at hf
    obtain ⟨u1, u2, L1, L2, rfl, rfl, h1, h2⟩ := h
    obtain ⟨rfl, g1⟩ := TRl.flat hf.1 h1
    obtain ⟨rfl, g2⟩ := TRl.flat hf.2 h2
    exact ⟨rfl, u1, u2, [], [], rfl, rfl, g1, g2⟩
  | .sl t, l, us, L, hf, h => by simp [hasSl] at hf
  | .ref t, l, us, L, hf, h => by simp [hasSl] at hf
  | .cl g t, l, us, L, hf, h => by simp [hasSl] at hf
theorem EL.flat (hf : hasSl t = false) : ∀ {l : List (den t)} {us : List Value} {L : List Nat}, EL w imm ok t l us L → L = [] ∧ EL w' imm' ok' t l us []
  | [], us, L, H => ⟨H.2, H.1, rfl⟩
  | x :: l, us, L, H => by
    obtain ⟨u1, u2, L1, L2, rfl, rfl, h1, h2⟩ := H
    obtain ⟨rfl, g1⟩ := TRl.flat hf h1
    obtain ⟨rfl, g2⟩ := EL.flat hf h2
    exact ⟨rfl, u1, u2, [], [], rfl, rfl, g1, g2⟩

/-- A slice's elements, as append reads them. -/
theorem SlR.src {m : Mu} {l : List (den t)} {off len : Nat} {v : Value} {L : List Nat} (H : SlR w m (sz t) off len v) (hle : off + len ≤ l.length) (hR : m.bk = true → RL (TRc w imm ok t) (sz t) l m.blk m.off L) :
    ∃ news L', Src w (sz t) v ((l.drop off).take len).length news ∧ EL w imm ok t ((l.drop off).take len) news L' ∧ L'.Sublist L := by
  have hlen : ((l.drop off).take len).length = len := by simp; omega
  rcases H with ⟨rfl, rfl⟩ | ⟨o, cap, rfl, h1, h2, h3, h4⟩
  · exact ⟨[], [], ⟨by simp, .inl ⟨0, rfl, by simp⟩⟩, by simp [EL], List.nil_sublist _⟩
  · obtain ⟨L1, L2, L3, rfl, hs⟩ := RL.sub off len (by omega) (hR h2)
    obtain ⟨us, g1, g2⟩ := RL.toEL hs
    refine ⟨us, L2, ⟨g1.length, .inr (.inl ⟨_, cap, by rw [hlen], fun j u hj => ?_⟩)⟩, g1, (List.sublist_append_left L2 L3).trans (List.sublist_append_right L1 _)⟩
    have hp : 0 < cap := by
      rcases Nat.eq_zero_or_pos cap with h0 | h0
      · exfalso
        have : len = 0 := by omega
        subst this
        have hul := g1.length
        simp at hul; subst hul; simp at hj
      · exact h0
    obtain ⟨rfl, _⟩ := h4 hp
    rw [add_mk]; exact g2 j u hj

theorem elems_ok {x : TV} {v : Value} {xs : List (den t)} {fr : Bool} {h1 : Heap} (H : HR w imm ok μ h n []) (hv : VR w imm ok μ h n x v) (hx : elemsS t x h = some (xs, fr, h1)) :
    ∃ news L, Src w (sz t) v xs.length news ∧ HR w imm ok μ h1 n L ∧ EL w (immf fr imm) ok t xs news L ∧ ∀ r y, hget h1 r = some y → hget h r = some y := by
  unfold elemsS at hx
  split at hx
  · simp only [Option.some.injEq, Prod.mk.injEq] at hx
    obtain ⟨rfl, rfl, rfl⟩ := hx
    exact ⟨[], [], ⟨by simp, .inl ⟨0, hv.p_eq, rfl⟩⟩, H, ⟨rfl, rfl⟩, fun _ _ h => h⟩
  · simp only [Option.some.injEq, Prod.mk.injEq] at hx
    obtain ⟨rfl, rfl, rfl⟩ := hx
    exact ⟨[], [], ⟨by simp, .inr (.inl ⟨_, _, hv.p_eq, fun j u hj => by simp at hj⟩)⟩, H, ⟨rfl, rfl⟩, fun _ _ h => h⟩
  · rename_i t' l
    simp only [Option.map_eq_some_iff, Prod.mk.injEq] at hx
    obtain ⟨l', hc, rfl, rfl, rfl⟩ := hx
    obtain ⟨rfl, rfl⟩ := cast_some hc
    simp only [VR] at hv
    obtain ⟨u, e, hv⟩ := hv
    simp only [List.cons.injEq, and_true] at e; subst e
    have key : ∃ news, Src w (sz t') v l.length news ∧ EL w imm ok t' l news [] := by
      rcases hv with ⟨rfl, rfl, _⟩ | ⟨B, cap, L', rfl, hcap, hte, hA⟩
      · exact ⟨[], ⟨by simp, .inl ⟨0, rfl, rfl⟩⟩, rfl, rfl⟩
      · rcases hA with ⟨_, rfl, _, hA⟩ | ⟨hn, _⟩
        · obtain ⟨us, g1, g2⟩ := RL.toEL hte
          refine ⟨us, ⟨g1.length, .inr (.inl ⟨B, cap, rfl, fun j u hj => ?_⟩)⟩, g1⟩
          have hne : l ≠ [] := by rintro rfl; have := g1.length; simp at this; subst this; simp at hj
          obtain ⟨b, of, sp⟩ := B
          obtain ⟨rfl, _⟩ := hA hne
          rw [add_mk]; exact g2 j u hj
        · simp at hn
    obtain ⟨news, hs, he⟩ := key
    refine ⟨news, [], hs, H, ?_, fun _ _ h => h⟩
    cases hf : hasSl t' with
    | false => exact (EL.flat hf he).2
    | true => exact he.mono (fun b hb => ⟨rfl, hb⟩) (fun _ h => h) (fun _ _ => rfl) (fun _ _ => rfl)
  · rename_i r
    split at hx
    · rename_i fr0 t' l hg
      simp only [Option.map_eq_some_iff, Prod.mk.injEq] at hx
      obtain ⟨l', hc, rfl, rfl, rfl⟩ := hx
      obtain ⟨rfl, rfl⟩ := cast_some hc
      simp only [VR, hg] at hv
      obtain ⟨L, hR, H'⟩ := H.detach hg
      obtain ⟨news, L', g1, g2, g3⟩ := SlR.src (imm := immf fr0 imm) (ok := ok) (l := l) (L := L.tail) hv.2 (by omega) (fun hb => by obtain ⟨L', rfl, _, _, q⟩ := hR.rowd hb; exact q)
      simp only [List.drop_zero, List.take_length] at g1 g2
      cases hf : hasSl t' with
      | true =>
        simp only [cond_true]
        exact ⟨news, L', g1, H'.dsub (by simpa using g3.trans (List.tail_sublist L)), g2, fun _ _ => hsub_hdel⟩
      | false =>
        simp only [cond_false]
        obtain ⟨rfl, g4⟩ := EL.flat (w' := w) (imm' := immf fr0 imm) (ok' := ok) hf g2
        exact ⟨news, [], g1, H, g4, fun _ _ h => h⟩
    · simp at hx
  · rename_i r off len
    split at hx
    · rename_i fr0 t' l hg
      simp only [Option.map_eq_some_iff, Prod.mk.injEq] at hx
      obtain ⟨l', hc, rfl, rfl, rfl⟩ := hx
      obtain ⟨rfl, rfl⟩ := cast_some hc
      simp only [VR, hg] at hv
      obtain ⟨L, hR, H'⟩ := H.detach hg
      obtain ⟨news, L', g1, g2, g3⟩ := SlR.src (imm := immf fr0 imm) (ok := ok) (l := l) (L := L.tail) hv.2.2 hv.2.1 (fun hb => by obtain ⟨L', rfl, _, _, q⟩ := hR.rowd hb; exact q)
      cases hf : hasSl t' with
      | true =>
        simp only [cond_true]
        exact ⟨news, L', g1, H'.dsub (by simpa using g3.trans (List.tail_sublist L)), g2, fun _ _ => hsub_hdel⟩
      | false =>
        simp only [cond_false]
        obtain ⟨rfl, g4⟩ := EL.flat (w' := w) (imm' := immf fr0 imm) (ok' := ok) hf g2
        exact ⟨news, [], g1, H, g4, fun _ _ h => h⟩
    · simp at hx
  · rename_i s
    split at hx
    · simp only [Option.some.injEq, Prod.mk.injEq] at hx
      obtain ⟨rfl, rfl, rfl⟩ := hx
      have e := hv.p_eq
      subst e
      have hE : EL w (immf true imm) ok (.int .u8) (s.data.toList.map fun b => (b.toNat : Int)) (s.data.toList.map fun b => Value.int .u8 b.toNat) [] := by
        generalize s.data.toList = l
        induction l with
        | nil => exact ⟨rfl, rfl⟩
        | cons x l ih => exact ⟨[_], _, [], [], rfl, rfl, ⟨rfl, rfl⟩, ih⟩
      refine ⟨_, [], ⟨hE.length, .inr (.inr ⟨s, rfl, ?_, rfl⟩)⟩, H, hE, fun _ _ h => h⟩
      exact (List.length_map (as := s.data.toList) (fun b => (b.toNat : Int))).trans (by simp)
    · simp at hx
  · simp at hx

theorem run_append_nil {P : Program} {tt t2 ty : TypeId} {d2 : TypeDesc} {size bytes : Nat} {z : List Value} (ht : tsl P tt = some (size, bytes, z)) (h2 : P.underlying t2 = some d2) (hd2 : d2 = .string ∨ ∃ e, d2 = .slice e)
    {x : Value} {news : List Value} (hx : Src w size x 0 news) {rest : List TypeId} :
    (Builtin.append_ (tt :: t2 :: rest).toArray ty #[.slice none 0 0, x]).run P w = .ok (.slice none 0 0) w := by
  obtain ⟨e, i, zv, hu, hi, hz, rfl, hsz, hby, hzl, hs0, hb0, _⟩ := tsl_some ht
  subst hsz
  rcases hd2 with rfl | ⟨e2, rfl⟩ <;> simp [Builtin.append_, underlying, hu, h2, sizeOf, typeInfo, hi, hx.lenOf, hx.first]
end
end Go.Tw
