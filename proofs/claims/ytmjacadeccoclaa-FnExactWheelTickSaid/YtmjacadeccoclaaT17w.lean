/- A step of the typed logic of this claim is proved here: what an operation does to the data that slots and memory stand for. -/
import Derived.Test.YtmjacadeccoclaaT17
set_option linter.all false
namespace Go.Tw
open Go Go.RowKit

/-! A call that writes through one argument. -/
section
variable {w w' : World} {imm imm' ok ok' : Nat → Prop} {μ : Nat → Mu} {h : Heap} {n : Nat} {fr : Bool}

theorem SlR.top {r : Nat} {t : Ty} {l : List (den t)} {off len : Nat} {v : Value} {L : List Nat} (H : SlR w (μ r) (sz t) off len v) (hle : off + len ≤ l.length) (hR : RR w imm ok μ h n r (.row fr t l) L) :
    ∃ L', TO1 w imm ok fr (.tr t ((l.drop off).take len)) v L' ∧ L'.Sublist L := by
  have hlen : ((l.drop off).take len).length = len := by simp; omega
  rcases H with ⟨rfl, rfl⟩ | ⟨o, cap, rfl, h1, h2, h3, h4⟩
  · exact ⟨[], .inl ⟨rfl, by simp, rfl⟩, List.nil_sublist _⟩
  · obtain ⟨L', rfl, g1, g2, g3⟩ := hR.rowd h2
    obtain ⟨L1, L2, L3, rfl, hs⟩ := RL.sub off len (by omega) g3
    rcases Nat.eq_zero_or_pos cap with hz | hp
    · have hl0 : len = 0 := by omega
      subst hl0
      refine ⟨[(μ r).blk], .inr ⟨_, _, cap, [], by rw [hlen], by omega, by simp [RL], rfl, g1, h3, fun hp => by omega⟩, by simp⟩
    · obtain ⟨rfl, h6⟩ := h4 hp
      refine ⟨(μ r).blk :: L2, .inr ⟨_, _, cap, L2, by rw [hlen], by omega, hs, rfl, g1, h3, fun _ => h6⟩, ?_⟩
      exact List.Sublist.cons_cons _ ((List.sublist_append_left L2 L3).trans (List.sublist_append_right L1 _))

theorem TRl.reok : ∀ {t : Ty} {x : den t} {us : List Value} {L : List Nat}, (∀ b, imm b → imm' b) → (∀ b ∈ L, ok' b) → TRl w imm ok t x us L → TRl w imm' ok' t x us L
  | .int _, _, _, _, _, _, h => h
  | .bool, _, _, _, _, _, h => h
  | .str, _, _, _, _, _, h => h
  | .un, _, _, _, _, _, h => h
  | .pr a b, x, us, L, hi, hL, h => by
    obtain ⟨u1, u2, L1, L2, rfl, rfl, h1, h2⟩ := h
    exact ⟨u1, u2, L1, L2, rfl, rfl, TRl.reok hi (fun b hb => hL b (by simp [hb])) h1, TRl.reok hi (fun b hb => hL b (by simp [hb])) h2⟩
  | .sl t, l, us, L, hi, hL, h => by
    obtain ⟨v, rfl, h⟩ := h
    refine ⟨v, rfl, ?_⟩
    rcases h with h | ⟨A, cap, L', h1, h2, h3, h4⟩
    · exact .inl h
    · rcases h4 with ⟨rfl, rfl, ⟨b0, h0⟩, h4⟩ | ⟨rfl, h4, h5, h6, h7⟩
      · exact .inr ⟨A, cap, [], h1, h2, RL.imp (fun x _ o L'' hL'' ⟨us, k1, k2⟩ => ⟨us, TRl.reok hi (fun b hb => hL b (by have := hL'' b hb; simp at this)) k1, k2⟩) h3, .inl ⟨rfl, rfl, ⟨b0, hi _ h0⟩, fun hne => ⟨(h4 hne).1, hi _ (h4 hne).2⟩⟩⟩
      · exact .inr ⟨A, cap, L', h1, h2, RL.imp (fun x _ o L'' hL'' ⟨us, k1, k2⟩ => ⟨us, TRl.reok hi (fun b hb => hL b (by simp [hL'' b hb])) k1, k2⟩) h3, .inr ⟨rfl, h4, hL _ (by simp), h6, h7⟩⟩
  | .ref t, x, us, L, hi, hL, h => by
    obtain ⟨b, o, vs, rfl, rfl, h1, h2, h3⟩ := h
    exact ⟨b, o, vs, rfl, rfl, hi b h1, TRl.reok hi (by simp) h2, h3⟩
  | .cl g t, x, us, L, hi, hL, h => by
    obtain ⟨vs, rfl, rfl, h1⟩ := h
    exact ⟨vs, rfl, rfl, TRl.reok hi (by simp) h1⟩
theorem TO1.reok {x : TV} {v : Value} {L : List Nat} (hL : ∀ b ∈ L, ok' b) (H : TO1 w imm ok true x v L) : TO1 w imm' ok' true x v L := by
  have hi : ∀ b, immf true imm b → immf true imm' b := fun b hb => by simp [immf] at hb
  cases x with
  | p u => exact H
  | tr t l =>
    rcases H with H | ⟨b, o, cap, L', h1, h2, h3, h4, h5, h6, h7⟩
    · exact .inl H
    · subst h4
      exact .inr ⟨b, o, cap, L', h1, h2, RL.imp (fun x _ o L'' hL'' ⟨us, k1, k2⟩ => ⟨us, TRl.reok hi (fun b hb => hL b (by simp [hL'' b hb])) k1, k2⟩) h3, rfl, hL _ (by simp), h6, h7⟩
  | iptr t l i off =>
    obtain ⟨h1, h2, x, b, o, us, h3, h4, rfl, h6, h7, h8, h9⟩ := H
    exact ⟨h1, h2, x, b, o, us, h3, h4, rfl, hL _ (by simp), h7, TRl.reok hi (by simp) h8, h9⟩
  | _ => exact H.elim
theorem TOC.length' : ∀ {cs : List TV} {us : List Value} {L : List Nat}, TOC w imm ok fr cs us L → us.length = cs.length
  | [], _, _, H => by rw [H.1]; rfl
  | c :: cs, us, L, H => by obtain ⟨u, us', L1, L2, rfl, rfl, _, h2⟩ := H; simp [TOC.length' h2]
theorem TO1.of_TRl {t : Ty} {l : List (den t)} {v : Value} {L : List Nat} (H : TRl w (immf true imm) ok (.sl t) l [v] L) : TO1 w imm ok true (.tr t l) v L := by
  obtain ⟨v', e, H⟩ := H
  simp only [List.cons.injEq, and_true] at e; subst e
  rcases H with ⟨h1, h2, h3⟩ | ⟨A, cap, L', h1, h2, h3, h4⟩
  · exact .inl ⟨h1, h2, h3⟩
  · rcases h4 with ⟨rfl, rfl, ⟨b0, h0⟩, h4⟩ | ⟨rfl, h4, h5, h6, h7⟩
    · simp [immf] at h0
    · obtain ⟨b, o, s⟩ := A
      simp only at h4; subst h4
      exact .inr ⟨b, o, cap, L', h1, h2, h3, rfl, h5, h6, h7⟩
theorem TO1.to_TRl {t : Ty} {l : List (den t)} {v : Value} {L : List Nat} (H : TO1 w imm ok true (.tr t l) v L) : TRl w (immf true imm) ok (.sl t) l [v] L := by
  refine ⟨v, rfl, ?_⟩
  rcases H with ⟨h1, h2, h3⟩ | ⟨b, o, cap, L', h1, h2, h3, h4, h5, h6, h7⟩
  · exact .inl ⟨h1, h2, h3⟩
  · exact .inr ⟨⟨b, o, none⟩, cap, L', h1, h2, h3, .inr ⟨h4, rfl, h5, h6, h7⟩⟩

theorem full_back {r : Nat} {t : Ty} {l : List (den t)} {v : Value} {L : List Nat} (H : SlR w (μ r) (sz t) 0 l.length v) (hR : RR w imm ok μ h n r (.row true t l) L) (hn : L.Nodup) (hnew : ∀ b, w.heap.size ≤ b → ok b) :
    ∃ Lm, TO1 w imm ok true (.tr t l) v Lm ∧ Lm.Sublist L ∧ ∀ {w' : World} {imm0 : Nat → Prop} {l' : List (den t)} {Lm' : List Nat} {h' : Heap}, FrL Lm w w' → TO1 w' imm0 (okL Lm w) true (.tr t l') v Lm' → Lm'.Nodup →
      l'.length = l.length ∧ ∃ L', RR w' imm ok μ h' n r (.row true t l') L' ∧ L'.Nodup ∧ ∀ b ∈ L', b ∈ Lm' ∨ (b ∈ L ∧ b ∉ Lm) := by
  obtain ⟨Lm, h1, h2⟩ := SlR.top (l := l) H (by omega) hR
  simp only [List.drop_zero, List.take_length] at h1
  refine ⟨Lm, h1, h2, fun {w' imm0 l' Lm' h'} hF hT hn' => ?_⟩
  have hok : ∀ b ∈ Lm', ok b ∧ (b ∈ L ∨ w.heap.size ≤ b) := by
    intro b hb
    have : okL Lm w b := (TO1.blocks hT b hb).1
    rcases this with h3 | h3
    · exact ⟨(RR.blocks hR b (h2.subset h3)).1, .inl (h2.subset h3)⟩
    · exact ⟨hnew b h3, .inr h3⟩
  have hT' : TO1 w' imm ok true (.tr t l') v Lm' := hT.reok (fun b hb => (hok b hb).1)
  rcases H with ⟨rfl, hl⟩ | ⟨o, cap, rfl, g1, g2, g3, g4⟩
  · -- nothing is there
    have hl0 : l = [] := List.eq_nil_of_length_eq_zero hl
    subst hl0
    rcases hT' with ⟨_, rfl, rfl⟩ | ⟨b, o, cap, L', h3, _⟩
    · refine ⟨rfl, ?_⟩
      rcases hR with ⟨k1, _, rfl⟩ | ⟨k1, L', rfl, k2, k3, k4⟩
      · exact ⟨[], .inl ⟨k1, rfl, rfl⟩, by simp, by simp⟩
      · refine ⟨[(μ r).blk], .inr ⟨k1, [], rfl, k2, hF.row _ _ k3, by simp [RL]⟩, by simp, fun b hb => .inr ⟨by simp at hb; simp [hb], ?_⟩⟩
        rcases h1 with ⟨_, _, rfl⟩ | ⟨b, o, cap, L', h3, _⟩
        · simp
        · simp at h3
    · simp at h3
  · rcases hT' with ⟨h3, _⟩ | ⟨b, o', cap', L', h3, h4, h5, h6, h7, h8, h9⟩
    · simp at h3
    · simp only [Value.slice.injEq, Option.some.injEq, Addr.mk.injEq, and_true] at h3
      obtain ⟨⟨rfl, rfl⟩, hlen, rfl⟩ := h3
      refine ⟨hlen.symm, ?_⟩
      obtain ⟨L0, rfl, k1, k2, k3⟩ := hR.rowd g2
      subst h6
      rcases Nat.eq_zero_or_pos cap with hz | hp
      · have hl0 : l' = [] := List.eq_nil_of_length_eq_zero (by omega)
        have hl1 : l = [] := List.eq_nil_of_length_eq_zero (by omega)
        subst hl0 hl1
        refine ⟨[(μ r).blk], .inr ⟨g2, [], rfl, k1, hF.row _ _ k2, by simp [RL]⟩, by simp, fun b hb => .inl (by simp at hb; simp [hb])⟩
      · obtain ⟨e0, g5⟩ := g4 hp
        simp only [Nat.zero_mul, Nat.add_zero] at e0; subst e0
        refine ⟨(μ r).blk :: L', .inr ⟨g2, L', rfl, k1, (h9 hp).le ?_, h5⟩, hn', fun b hb => .inl hb⟩
        have := Nat.mul_le_mul_right (sz t) h4
        omega

theorem inn_back {r i off : Nat} {t0 t2 : Ty} {l : List (den t0)} {l2 : List (den t2)} {v : Value} {L : List Nat} (hi : i < l.length) (hbk : (μ r).bk = true) (hcell : w.cell? ⟨(μ r).blk, (μ r).off + i * sz t0 + off, none⟩ = some v)
    (hd : ((encT t0 (l.getD i (dflt t0))).drop off).headD .undef = .tr t2 l2) (hR : RR w imm ok μ h n r (.row true t0 l) L) (hn : L.Nodup) (hnew : ∀ b, w.heap.size ≤ b → ok b) (hs : ∀ b, imm b → w.heap.size > b) :
    ∃ Lm, TO1 w imm ok true (.tr t2 l2) v Lm ∧ Lm.Sublist L ∧ ∀ {w' : World} {imm0 : Nat → Prop} {l' : List (den t2)} {Lm' : List Nat} {h' : Heap} {e : den t0}, FrL Lm w w' → TO1 w' imm0 (okL Lm w) true (.tr t2 l') v Lm' → Lm'.Nodup →
      dec1 t0 (spl (encT t0 (l.getD i (dflt t0))) off [.tr t2 l']) = some e → ∃ L', RR w' imm ok μ h' n r (.row true t0 (l.set i e)) L' ∧ L'.Nodup ∧ ∀ b ∈ L', b ∈ Lm' ∨ (b ∈ L ∧ b ∉ Lm) := by
  obtain ⟨L', rfl, g1, g2, g3⟩ := hR.rowd hbk
  obtain ⟨L1, L2, L3, rfl, m1, ⟨us, m2, m3⟩, m4⟩ := RL.at (dflt t0) hi g3
  have hofl : off < (encT t0 (l.getD i (dflt t0))).length := by
    rcases Nat.lt_or_ge off (encT t0 (l.getD i (dflt t0))).length with hl | hl
    · exact hl
    · rw [List.drop_of_length_le hl] at hd; simp at hd
  obtain ⟨u1, u2, u3, La, Lb, Lc, rfl, rfl, k1, k2, c1, c2, c3⟩ := m2.toCT.win (off := off) (m := 1) (by omega)
  have htake : ((encT t0 (l.getD i (dflt t0))).drop off).take 1 = [.tr t2 l2] := by
    cases hc : (encT t0 (l.getD i (dflt t0))).drop off with
    | nil => rw [hc] at hd; simp at hd
    | cons y ys => rw [hc] at hd; simp at hd; subst hd; rfl
  rw [htake] at c2
  obtain ⟨u, us', Lx, Ly, rfl, rfl, c4, rfl, rfl⟩ := c2
  have hu : u = v := by
    obtain ⟨_, a2⟩ := At.app.1 m3
    obtain ⟨a3, _⟩ := At.cons.1 a2
    rw [k1, hcell] at a3
    simpa using a3.symm
  subst hu
  have hT := TO1.of_TRl (ok := ok) c4
  simp only [List.append_nil] at hn ⊢
  have hnd := hn
  refine ⟨Lx, hT, ?_, fun {w' imm0 l' Lm' h' e} hF hT2 hn' he => ?_⟩
  · refine List.Sublist.cons _ ?_
    exact ((List.sublist_append_left Lx Lc).trans (List.sublist_append_right La _)).trans ((List.sublist_append_left _ L3).trans (List.sublist_append_right L1 _))
  obtain ⟨hnb, hnd⟩ := List.nodup_cons.1 hnd
  have hnot : ∀ b, (b = (μ r).blk ∨ b ∈ L1 ∨ b ∈ La ∨ b ∈ Lc ∨ b ∈ L3) → b ∉ Lx := by
    intro b hb hx
    rcases hb with rfl | hb
    · exact hnb (by simp [hx])
    · obtain ⟨n1, n2, n3⟩ := List.nodup_append.1 hnd
      obtain ⟨n4, n5, n6⟩ := List.nodup_append.1 n2
      obtain ⟨n7, n8, n9⟩ := List.nodup_append.1 n4
      obtain ⟨n10, n11, n12⟩ := List.nodup_append.1 n8
      rcases hb with h | h | h | h
      · exact n3 b h b (by simp [hx]) rfl
      · exact n9 b h b (by simp [hx]) rfl
      · exact n12 b hx b h rfl
      · exact n6 b (by simp [hx]) b h rfl
  have hsame : ∀ b, (b = (μ r).blk ∨ b ∈ L1 ∨ b ∈ La ∨ b ∈ Lc ∨ b ∈ L3) → w'.heap[b]? = w.heap[b]? := by
    intro b hb
    have hlt : b < w.heap.size := by
      rcases hb with rfl | hb
      · exact g2.lt
      · exact (RR.blocks hR b (by rcases hb with h | h | h | h <;> simp [h])).2
    exact hF.block b hlt (hnot b hb)
  have hok : ∀ b ∈ Lm', ok b ∧ (b ∈ Lx ∨ w.heap.size ≤ b) := by
    intro b hb
    have : okL Lx w b := (TO1.blocks hT2 b hb).1
    rcases this with h3 | h3
    · exact ⟨(RR.blocks hR b (by simp [h3])).1, .inl h3⟩
    · exact ⟨hnew b h3, .inr h3⟩
  have hT3 : TRl w' (immf true imm) ok (.sl t2) l' [u] Lm' := (TO1.reok (imm' := imm) (ok' := ok) (fun b hb => (hok b hb).1) hT2).to_TRl
  have hii : ∀ b, immf true imm b → immf true imm b := fun _ h => h
  have hiw : ∀ b, immf true imm b → w'.heap[b]? = w.heap[b]? := fun b hb => by simp [immf] at hb
  have d1 := c1.mono (w' := w') hii (fun _ h => h) hiw (fun b hb => hsame b (by simp [hb]))
  have d3 := c3.mono (w' := w') hii (fun _ h => h) hiw (fun b hb => hsame b (by simp [hb]))
  have hct : CT w' (immf true imm) ok (spl (encT t0 (l.getD i (dflt t0))) off [.tr t2 l']) (u1 ++ [u] ++ u3) (La ++ Lm' ++ Lc) := by
    unfold spl
    exact CT.app.2 ⟨u1 ++ [u], u3, La ++ Lm', Lc, rfl, rfl, CT.app.2 ⟨u1, [u], La, Lm', rfl, rfl, d1, ⟨u, [], Lm', [], rfl, by simp, hT3, rfl, rfl⟩⟩, d3⟩
  have htr := CT.dec1 he hct
  have hblk := hsame (μ r).blk (.inl rfl)
  have hat : At w' (μ r).blk ((μ r).off + i * sz t0) (u1 ++ [u] ++ u3) := by
    rw [show u1 ++ [u] ++ u3 = u1 ++ ([u] ++ u3) by simp]; exact m3.same hblk
  have hrest : ∀ {l0 : List (den t0)} {o' : Nat} {L0 : List Nat}, (∀ b ∈ L0, b ∈ L1 ∨ b ∈ L3) → RL (TRc w (immf true imm) ok t0) (sz t0) l0 (μ r).blk o' L0 → RL (TRc w' (immf true imm) ok t0) (sz t0) l0 (μ r).blk o' L0 :=
    fun hL hr => RL.imp (fun x _ o L'' hL'' hr => TRc.mono hii (fun _ h => h) hiw (fun b hb => hsame b (by rcases hL b (hL'' b hb) with h | h <;> simp [h])) hblk hr) hr
  have hRL := RL.put (l := l) (i := i) (x := e) (L1 := L1) (L2 := La ++ Lm' ++ Lc) (L3 := L3) hi (hrest (fun b hb => .inl hb) m1) ⟨_, htr, hat⟩ (hrest (fun b hb => .inr hb) m4)
  refine ⟨(μ r).blk :: (L1 ++ ((La ++ Lm' ++ Lc) ++ L3)), .inr ⟨hbk, _, rfl, g1, ?_, hRL⟩, ?_, ?_⟩
  · rw [List.length_set]; exact hF.row _ _ g2
  · have hLm : ∀ b ∈ Lm', b ∉ (μ r).blk :: (L1 ++ ((La ++ Lc) ++ L3)) := by
      intro b hb hm
      have hlt : b < w.heap.size := by
        rcases List.mem_cons.1 hm with rfl | hm
        · exact g2.lt
        · exact (RR.blocks hR b (by simp only [List.mem_append, List.mem_cons] at hm ⊢; rcases hm with h | (h | h) | h <;> simp [h])).2
      rcases (hok b hb).2 with hx | hx
      · rcases List.mem_cons.1 hm with rfl | hm
        · exact hnb (by simp [hx])
        · obtain ⟨n1, n2, n3⟩ := List.nodup_append.1 hnd
          obtain ⟨n4, n5, n6⟩ := List.nodup_append.1 n2
          obtain ⟨n7, n8, n9⟩ := List.nodup_append.1 n4
          obtain ⟨n10, n11, n12⟩ := List.nodup_append.1 n8
          simp only [List.mem_append] at hm
          rcases hm with h | (h | h) | h
          · exact n3 b h b (by simp [hx]) rfl
          · exact n9 b h b (by simp [hx]) rfl
          · exact n12 b hx b h rfl
          · exact n6 b (by simp [hx]) b h rfl
      · omega
    have hn2 : ((μ r).blk :: (L1 ++ ((La ++ Lc) ++ L3))).Nodup := by
      refine hn.sublist ?_
      refine List.Sublist.cons_cons _ (List.Sublist.append (List.Sublist.refl _) (List.Sublist.append ?_ (List.Sublist.refl _)))
      exact List.Sublist.append (List.Sublist.refl _) (List.sublist_append_right _ _)
    have hp : ((μ r).blk :: (L1 ++ ((La ++ Lm' ++ Lc) ++ L3))).Perm (Lm' ++ ((μ r).blk :: (L1 ++ ((La ++ Lc) ++ L3)))) := by
      refine List.perm_iff_count.2 (fun x => ?_)
      simp only [List.count_cons, List.count_append]; omega
    exact hp.nodup_iff.2 (List.nodup_append.2 ⟨hn', hn2, fun b hb b' hb' e => by subst e; exact hLm b hb hb'⟩)
  · intro b hb
    simp only [List.mem_cons, List.mem_append] at hb
    rcases hb with h | h | ((h | h) | h) | h
    · exact .inr ⟨by simp [h], hnot b (by simp [h])⟩
    · exact .inr ⟨by simp [h], hnot b (by simp [h])⟩
    · exact .inr ⟨by simp [h], hnot b (by simp [h])⟩
    · exact .inl h
    · exact .inr ⟨by simp [h], hnot b (by simp [h])⟩
    · exact .inr ⟨by simp [h], hnot b (by simp [h])⟩

theorem wArg_one {t : Ty} {a : TV} {y : den t} {v : Value} {r : Nat} {reg0 : Reg} {L : List Nat} {hk : Heap} (hr : (match a with | .full r => some r | .inn r _ _ => some r | _ => none) = some r) (hd : wDat h t a = some y) (hv : VR w imm ok μ h n a v)
    (hg : hget h r = some reg0) (hR : RR w imm ok μ hk n r reg0 L) (hn : L.Nodup) (hnew : ∀ b, w.heap.size ≤ b → ok b) (hs : ∀ b, imm b → b < w.heap.size) :
    isAg t = false ∧ frT t = true ∧ ∃ Lm, TOC w imm ok true (encT t y) [v] Lm ∧ Lm.Sublist L ∧ ∀ {w' : World} {imm0 : Nat → Prop} {y' : den t} {Lm' : List Nat} {g : Reg} {h' : Heap}, FrL Lm w w' → TOC w' imm0 (okL Lm w) true (encT t y') [v] Lm' → Lm'.Nodup → wNew h t a y' = some g →
      Fit (some reg0) (some g) ∧ ∃ L', RR w' imm ok μ h' n r g L' ∧ L'.Nodup ∧ ∀ b ∈ L', b ∈ Lm' ∨ (b ∈ L ∧ b ∉ Lm) := by
  have one : ∀ {w : World} {imm ok : Nat → Prop} {c : TV} {v : Value} {L : List Nat}, TO1 w imm ok true c v L → TOC w imm ok true [c] [v] L := fun H => ⟨_, [], _, [], rfl, by simp, H, rfl, rfl⟩
  have uno : ∀ {w : World} {imm ok : Nat → Prop} {c : TV} {v : Value} {L : List Nat}, TOC w imm ok true [c] [v] L → TO1 w imm ok true c v L := fun ⟨u, us', L1, L2, e1, e2, H, e3, e4⟩ => by
    subst e3 e4 e2; simp only [List.cons.injEq, and_true] at e1; subst e1; simpa using H
  cases t with
  | sl t1 =>
    refine ⟨rfl, rfl, ?_⟩
    cases a with
    | full r0 =>
      simp only [Option.some.injEq] at hr; subst hr
      simp only [wDat, hg] at hd
      cases reg0 with
      | box cs => cases hd
      | mp k l => cases hd
      | row f t' l =>
        cases f with
        | false => cases hd
        | true =>
          obtain ⟨e, hd⟩ := cast_some hd
          subst e
          subst hd
          simp only [VR, hg] at hv
          obtain ⟨Lm, h1, h2, h3⟩ := full_back (h := hk) (n := n) hv.2 hR hn hnew
          refine ⟨Lm, one h1, h2, fun {w' imm0 y' Lm' g h'} hF hT hn' hw => ?_⟩
          simp only [wNew, Option.some.injEq] at hw; subst hw
          obtain ⟨h4, h5⟩ := h3 (h' := h') hF (uno hT) hn'
          exact ⟨by simp [Fit, h4], h5⟩
    | inn r0 i off =>
      simp only [Option.some.injEq] at hr; subst hr
      simp only [wDat, hg] at hd
      split at hd
      · rename_i t0 l e
        simp only [Option.some.injEq] at e; subst e
        cases he : ((encT t0 (l.getD i (dflt t0))).drop off).headD .undef with
        | tr t2 l2 =>
          rw [he] at hd
          obtain ⟨e, hd⟩ := cast_some hd
          subst e
          subst hd
          simp only [VR, hg] at hv
          obtain ⟨_, _, _, hil, hbk, hcell⟩ := hv
          obtain ⟨Lm, h1, h2, h3⟩ := inn_back (h := hk) (n := n) hil hbk hcell he hR hn hnew hs
          refine ⟨Lm, one h1, h2, fun {w' imm0 y' Lm' g h'} hF hT hn' hw => ?_⟩
          simp only [wNew, hg, Option.map_eq_some_iff] at hw
          obtain ⟨e, he2, rfl⟩ := hw
          exact ⟨by simp [Fit], h3 (h' := h') hF (uno hT) hn' he2⟩
        | _ => rw [he] at hd; cases hd
      · simp at hd
    | _ => simp at hr
  | _ => simp [wDat] at hd

theorem argW_rd {hd : Heap} {I okm : Nat → Prop} (HI : ∀ r x, hget hd r = some x → ∃ L, RR w imm ok μ hd n r x L ∧ ∀ b ∈ L, I b) (hiI : ∀ b, imm b → I b) : ∀ {ps : List (Ty × Bool)} {xs : List TV} {vs : List Value} {x : den (prodT (ps.map (·.1)))}, argW h hd ps xs = some x → VRl w imm ok μ hd n xs vs → ps.all (fun p => !p.2) = true →
    ArgR w I okm ps x vs []
  | [], [], vs, x, ha, H, _ => by simp only [VRl] at H; exact ⟨H, rfl⟩
  | [], _ :: _, _, _, ha, _, _ => by simp [argW] at ha
  | (t, b) :: _, [], _, _, ha, _, _ => by cases b <;> simp [argW] at ha
  | (t, true) :: ps, y :: xs, vs, x, ha, H, hp => by simp at hp
  | (t, false) :: ps, y :: xs, vs, x, ha, H, hp => by
    simp only [argW, Option.bind_eq_some_iff, Option.some.injEq] at ha
    obtain ⟨cs, hcs, d, hd', z, hz, hxe⟩ := ha
    cases hxe
    simp only [VRl] at H
    obtain ⟨u, vs', rfl, h1, h2⟩ := H
    obtain ⟨us, rfl, hv⟩ := cellsOf_vr hcs h1
    simp only [List.all_cons, Bool.not_false, Bool.true_and] at hp
    exact ⟨us, vs', [], [], rfl, rfl, fun _ => ⟨see1_I (ok' := okm) HI hiI hd' hv, rfl⟩, fun e => by simp at e, argW_rd HI hiI hz h2 hp⟩

/-- The arguments of a call that writes through one of them; what stands for its memory afterwards. -/
theorem wcall_args (HH : HR w imm ok μ h n []) (hlt : ∀ b, imm b → b < w.heap.size) (hio : ∀ b, imm b → ¬ ok b) (hnew : ∀ b, w.heap.size ≤ b → ok b) {r : Nat} {reg0 : Reg} (hg : hget h r = some reg0) {L : List Nat} (hR : RR w imm ok μ (killH r h) n r reg0 L) (hn : L.Nodup)
    (HI : ∀ r' x, hget (hdel (killH r h) r) r' = some x → ∃ L1, RR w imm ok μ (hdel (killH r h) r) n r' x L1 ∧ ∀ b ∈ L1, b < w.heap.size ∧ b ∉ L) :
    ∀ {ps : List (Ty × Bool)} {xs : List TV} {vs : List Value} {x : den (prodT (ps.map (·.1)))}, wReg ps xs = some r → argW h (hdel (killH r h) r) ps xs = some x → VRl w imm ok μ h n xs vs → VRl w imm ok μ (hdel (killH r h) r) n xs vs →
    ∃ Lm, Lm.Sublist L ∧ ArgR w (fun b => b < w.heap.size ∧ b ∉ Lm) (· ∈ Lm) ps x vs Lm ∧ ∀ {w' : World} {imm0 : Nat → Prop} {y : den (prodT (mutT ps))} {Lm' : List Nat} {g : Reg} {h' : Heap}, FrL Lm w w' → MutR w' imm0 (okL Lm w) ps y vs Lm' → Lm'.Nodup → wPut h ps xs y = some g →
      Fit (some reg0) (some g) ∧ ∃ L', RR w' imm ok μ h' n r g L' ∧ L'.Nodup ∧ ∀ b ∈ L', b ∈ Lm' ∨ (b ∈ L ∧ b ∉ Lm)
  | [], _, _, _, hw, _, _, _ => by simp [wReg] at hw
  | (t, b) :: _, [], _, _, hw, _, _, _ => by cases b <;> simp [wReg] at hw
  | (t, false) :: ps, a :: xs, vs, x, hw, ha, H, H2 => by
    simp only [argW, Option.bind_eq_some_iff, Option.some.injEq] at ha
    obtain ⟨cs, hcs, d, hd', z, hz, hxe⟩ := ha
    cases hxe
    simp only [VRl] at H H2
    obtain ⟨u, vs', rfl, h1, h2⟩ := H
    obtain ⟨u', vs'', e, h3, h4⟩ := H2
    simp only [List.cons.injEq] at e
    obtain ⟨rfl, rfl⟩ := e
    obtain ⟨us, rfl, hv⟩ := cellsOf_vr hcs h3
    obtain ⟨Lm, q1, q2, q3⟩ := wcall_args HH hlt hio hnew hg hR hn HI (ps := ps) (by simpa [wReg] using hw) hz h2 h4
    have hLok : ∀ b ∈ Lm, ok b := fun b hb => (RR.blocks hR b (q1.subset hb)).1
    refine ⟨Lm, q1, ⟨us, vs', [], Lm, rfl, rfl, fun _ => ⟨see1_I (I := fun b => b < w.heap.size ∧ b ∉ Lm) (ok' := (· ∈ Lm)) (fun r' x hx => ?_) (fun b hb => ⟨hlt b hb, fun hm => hio b hb (hLok b hm)⟩) hd' hv, rfl⟩, fun e => by simp at e, q2⟩, fun {w' imm0 y Lm' g h'} hF hM hn' hp => q3 (h' := h') hF hM hn' hp⟩
    obtain ⟨L1, k1, k2⟩ := HI r' x hx
    exact ⟨L1, k1, fun b hb => ⟨(k2 b hb).1, fun hm => (k2 b hb).2 (q1.subset hm)⟩⟩
  | (t, true) :: ps, a :: xs, vs, x, hw, ha, H, H2 => by
    simp only [argW, Option.bind_eq_some_iff, Option.some.injEq] at ha
    obtain ⟨d, hd', z, hz, hxe⟩ := ha
    cases hxe
    simp only [VRl] at H H2
    obtain ⟨u, vs', rfl, h1, h2⟩ := H
    obtain ⟨u', vs'', e, h3, h4⟩ := H2
    simp only [List.cons.injEq] at e
    obtain ⟨rfl, rfl⟩ := e
    simp only [wReg] at hw
    obtain ⟨hall, hw⟩ := cond_some.1 hw
    obtain ⟨hag, hfrT, Lm, q1, q2, q3⟩ := wArg_one hw hd' h1 hg hR hn hnew hlt
    have hLok : ∀ b ∈ Lm, ok b := fun b hb => (RR.blocks hR b (q2.subset hb)).1
    have hrest : ArgR w (fun b => b < w.heap.size ∧ b ∉ Lm) (· ∈ Lm) ps z vs' [] := argW_rd (fun r' x hx => by
      obtain ⟨L1, k1, k2⟩ := HI r' x hx
      exact ⟨L1, k1, fun b hb => ⟨(k2 b hb).1, fun hm => (k2 b hb).2 (q2.subset hm)⟩⟩) (fun b hb => ⟨hlt b hb, fun hm => hio b hb (hLok b hm)⟩) hz h4 hall
    refine ⟨Lm, q2, ⟨[u], vs', Lm, [], by simp [valOf, hag], by simp, fun e => by simp at e, fun _ => ?_, hrest⟩, fun {w' imm0 y Lm' g h'} hF hM hn' hp => ?_⟩
    · have : ∀ {cs : List TV} {us : List Value} {L : List Nat}, TOC w imm ok true cs us L → (∀ b ∈ L, b ∈ Lm) → TOC w (fun b => b < w.heap.size ∧ b ∉ Lm) (· ∈ Lm) true cs us L := by
        intro cs
        induction cs with
        | nil => intro us L H _; exact H
        | cons c cs ih =>
          rintro us L ⟨u, us', L1, L2, rfl, rfl, k1, k2⟩ hL
          exact ⟨u, us', L1, L2, rfl, rfl, k1.reok (fun b hb => hL b (by simp [hb])), ih k2 (fun b hb => hL b (by simp [hb]))⟩
      rw [hfrT]; exact this q1 (fun b hb => hb)
    · obtain ⟨us, L1, L2, k1, rfl, k2, k3⟩ := hM
      rw [hfrT] at k2
      have hz2 : L2 = [] := by
        have : ∀ {ps : List (Ty × Bool)} {y : den (prodT (mutT ps))} {vs : List Value} {L : List Nat}, ps.all (fun p => !p.2) = true → MutR w' imm0 (okL Lm w) ps y vs L → L = [] := by
          intro ps
          induction ps with
          | nil => intro _ _ _ _ H; exact H
          | cons p ps ih =>
            obtain ⟨t, b⟩ := p
            intro y vs L hp H
            cases b with
            | true => simp at hp
            | false => exact ih (y := y) (by simpa using hp) H
        exact this hall k3
      subst hz2
      have hul : us = [u] := by
        have := TOC.length' k2
        simp only [List.head?_cons, Option.some.injEq] at k1
        cases t with
        | sl t1 =>
          simp only [encT, List.length_cons, List.length_nil] at this
          match us, this with
          | [u'], _ => simp [valOf, isAg] at k1; rw [k1]
        | _ => simp [wDat] at hd'
      subst hul
      simp only [List.append_nil] at hn' ⊢
      exact q3 (h' := h') hF k2 hn' (by simpa [wPut] using hp)
end
end Go.Tw
