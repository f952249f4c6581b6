/- A step of the typed logic of this claim is proved here: what an operation does to the data that slots and memory stand for. -/
import Derived.Test.YtmjacadeccoclaaT20
import Derived.ProofKit
import Derived.Carry
set_option linter.all false
namespace Go.Tw
open Go Go.RowKit

/-- type t's data are of kind τ -/
def tyF (P : Program) (g : TypeId → Ty → Bool) : List Field → Nat → Ty → Bool
  | [], _, .un => true
  | f :: fs, o, .pr a b => Nat.beq f.offset o && Nat.beq (P.cellsOf f.type) (sz a) && g f.type a && tyF P g fs (o + sz a) b
  | _, _, _ => false
def tyC (P : Program) : Nat → TypeId → Ty → Bool
  | 0, _, _ => false
  | k + 1, t, τ =>
    match P.underlying t with
    | some .bool => match τ with | .bool => true | _ => false
    | some (.int i) => match τ with | .int j => decide (i = j) | _ => false
    | some .string => match τ with | .str => true | _ => false
    | some (.slice e) => match τ with | .sl a => tyC P k e a && Nat.beq (P.cellsOf e) (sz a) && Nat.blt 0 (sz a) | _ => false
    | some (.struct fs) => isAg τ && tyF P (tyC P k) fs.toList 0 τ && Nat.beq (P.cellsOf t) (sz τ)
    | _ => false
def inR (k : IntKind) (n : Int) : Prop := k.min ≤ n ∧ n ≤ k.max
def allL {α : Type} (p : α → Prop) (l : List α) : Prop := l.length ≤ 9223372036854775807 ∧ ∀ x ∈ l, p x
/-- what a datum that was read is known to be -/
def WF : (t : Ty) → den t → Prop
  | .int k, n => inR k n
  | .bool, _ => True
  | .str, s => s.size ≤ 9223372036854775807
  | .un, _ => True
  | .pr a b, x => WF a x.1 ∧ WF b x.2
  | .sl t, l => allL (WF t) l
  | .ref t, x => WF t x
  | .cl _ t, x => WF t x

theorem mapM_some {α β : Type} {f : α → Option β} : ∀ {l : List α} {ys : List β}, l.mapM f = some ys → ys.length = l.length ∧ ∀ a, a ∈ l → ∃ y, f a = some y
  | [], ys, h => by simp at h; subst h; simp
  | a :: l, ys, h => by
    simp only [List.mapM_cons, Option.bind_eq_bind, Option.bind_eq_some_iff, Option.pure_def, Option.some.injEq] at h
    obtain ⟨y, h1, ys', h2, rfl⟩ := h
    obtain ⟨h3, h4⟩ := mapM_some h2
    refine ⟨by simp [h3], fun b hb => ?_⟩
    rcases List.mem_cons.1 hb with rfl | hb
    · exact ⟨y, h1⟩
    · exact h4 b hb

theorem cells?_some {w : World} {base n : Nat} {A : Addr} {cs : List Value} (h : w.cells? base A n = some cs) (hn : 0 < n) : A.spot = none ∧ cs.length = n ∧ At w A.block A.off cs ∧ A.block < w.heap.size := by
  unfold World.cells? at h
  split at h
  · have key : ∀ (m s : Nat) (ys : List Value), (List.range' s m).mapM (fun i => w.cell? (A.add i)) = some ys → ys.length = m ∧ ∀ (j : Nat) u, ys[j]? = some u → w.cell? (A.add (s + j)) = some u := by
      intro m
      induction m with
      | zero => intro s ys h; simp at h; subst h; simp
      | succ m ih =>
        intro s ys h
        simp only [List.range'_succ, List.mapM_cons, Option.bind_eq_bind, Option.bind_eq_some_iff, Option.pure_def, Option.some.injEq] at h
        obtain ⟨y, h1, ys', h2, rfl⟩ := h
        obtain ⟨h3, h4⟩ := ih (s + 1) ys' h2
        refine ⟨by simp [h3], fun j u hj => ?_⟩
        cases j with
        | zero => simp at hj; subst hj; simpa using h1
        | succ j => rw [show s + (j + 1) = s + 1 + j by omega]; exact h4 j u (by simpa using hj)
    rw [List.range_eq_range'] at h
    obtain ⟨h1, h2⟩ := key n 0 cs h
    have h0 : ∃ u, cs[0]? = some u := by
      cases cs with
      | nil => simp at h1; omega
      | cons c cs => exact ⟨c, rfl⟩
    obtain ⟨u, hu⟩ := h0
    have hc := h2 0 u hu
    have hadd : A.add (0 + 0) = A := by simp [Addr.add]
    rw [hadd] at hc
    have hsp : A.spot = none := by
      unfold World.cell? at hc
      split at hc
      · split at hc
        · simp at hc
        · rename_i hs; simpa using hs
      · simp at hc
    obtain ⟨b, o, sp⟩ := A
    simp only at hsp; subst hsp
    refine ⟨rfl, h1, fun j u hj => ?_, ?_⟩
    · have := h2 j u hj
      rwa [Nat.zero_add, add_mk] at this
    · unfold World.cell? at hc
      rcases Nat.lt_or_ge b w.heap.size with h | h
      · exact h
      · simp [Array.getElem?_eq_none h] at hc
  · simp at h

section
variable {H : Type} {enc : TypeId × Value → H} {P : Program} {w : World} {ok : Nat → Prop} {spare : Nat → Bool} {held : Bool}

theorem RL.of_fun {t : Ty} {imm : Nat → Prop} {b o s : Nat} (x : Nat → den t) : ∀ (m i : Nat), (∀ j, i ≤ j → j < i + m → TRc w imm ok t (x j) b (o + j * s) []) → RL (TRc w imm ok t) s ((List.range' i m).map x) b (o + i * s) []
  | 0, i, h => by simp [RL]
  | m + 1, i, h => by
    simp only [List.range'_succ, List.map_cons, RL]
    refine ⟨[], [], rfl, h i (Nat.le_refl _) (by omega), ?_⟩
    have := RL.of_fun x m (i + 1) (fun j h1 h2 => h j (by omega) (by omega))
    rwa [show o + (i + 1) * s = o + i * s + s by rw [Nat.succ_mul]; omega] at this

theorem trod_bool {fuel : Nat} {t : TypeId} {cs : List Value} {r : DataW H × List MemPlace} (hu : P.underlying t = some .bool) (ht : DataW.trod enc P w 0 spare held (fuel + 1) t cs = some r) : ∃ b, cs = [.bool b] := by
  simp only [DataW.trod, hu] at ht
  split at ht <;> simp_all
theorem trod_int {fuel : Nat} {t : TypeId} {cs : List Value} {r : DataW H × List MemPlace} {k : IntKind} (hu : P.underlying t = some (.int k)) (ht : DataW.trod enc P w 0 spare held (fuel + 1) t cs = some r) : ∃ n, cs = [.int k n] ∧ inR k n := by
  simp only [DataW.trod, hu] at ht
  split at ht <;> simp_all [Lit.wf, inR]
theorem trod_str {fuel : Nat} {t : TypeId} {cs : List Value} {r : DataW H × List MemPlace} (hu : P.underlying t = some .string) (ht : DataW.trod enc P w 0 spare held (fuel + 1) t cs = some r) : ∃ s, cs = [.string s] ∧ s.size ≤ 9223372036854775807 := by
  simp only [DataW.trod, hu] at ht
  split at ht <;> simp_all
  exact by simpa [maxLen] using ht.1
theorem trod_slice {fuel : Nat} {t e : TypeId} {cs : List Value} {r : DataW H × List MemPlace} (hu : P.underlying t = some (.slice e)) (ht : DataW.trod enc P w 0 spare held (fuel + 1) t cs = some r) :
    cs = [.slice none 0 0] ∨ ∃ A len cap, cs = [.slice (some A) len cap] ∧ len ≤ cap ∧ cap ≤ 9223372036854775807 ∧ ∀ i, i < len → ∃ cells y, w.cells? 0 (A.add (i * P.cellsOf e)) (P.cellsOf e) = some cells ∧ DataW.trod enc P w 0 spare held fuel e cells = some y := by
  simp only [DataW.trod, hu] at ht
  split at ht
  all_goals first
    | (left; rfl)
    | (rename_i h1; simp at h1; done)
    | (rename_i h1 _; simp at h1; done)
    | (rename_i h1 _ _; simp at h1; done)
    | skip
  all_goals first
    | (simp at ht; done)
    | skip
  rename_i e' A len cap h1
  simp only [Option.some.injEq, TypeDesc.slice.injEq] at h1
  subst h1
  right
  split at ht
  · rename_i hb
    simp only [Option.bind_eq_some_iff] at ht
    obtain ⟨elems, hel, _⟩ := ht
    obtain ⟨_, hall⟩ := mapM_some hel
    refine ⟨A, len, cap, rfl, hb.2.1, by simpa [maxLen] using hb.2.2, fun i hi => ?_⟩
    obtain ⟨y, hy⟩ := hall i (by simpa using hi)
    simp only [Option.bind_eq_some_iff] at hy
    obtain ⟨cells, h1, h2⟩ := hy
    exact ⟨cells, y, h1, h2⟩
  · simp at ht
theorem trod_struct {fuel : Nat} {t : TypeId} {fs : Array Field} {cs : List Value} {r : DataW H × List MemPlace} (hu : P.underlying t = some (.struct fs)) (ht : DataW.trod enc P w 0 spare held (fuel + 1) t cs = some r) :
    cs.length = P.cellsOf t ∧ ∀ f, f ∈ fs.toList → ∃ y, DataW.trod enc P w 0 spare held fuel f.type ((cs.drop f.offset).take (P.cellsOf f.type)) = some y := by
  simp only [DataW.trod, hu] at ht
  split at ht
  all_goals first
    | (rename_i h1; simp at h1; done)
    | (rename_i h1 _; simp at h1; done)
    | (rename_i h1 _ _; simp at h1; done)
    | skip
  all_goals first
    | (simp at ht; done)
    | skip
  rename_i hlen
  simp only [Option.map_eq_some_iff] at ht
  obtain ⟨xs, hxs, _⟩ := ht
  exact ⟨hlen, (mapM_some hxs).2⟩

/-- A reading of an argument, as a datum. -/
theorem trod_ok : ∀ (k : Nat) (t : TypeId) (τ : Ty) (fuel : Nat) (cs : List Value) (d : DataW H) (ps : List MemPlace), tyC P k t τ = true → DataW.trod enc P w 0 spare held fuel t cs = some (d, ps) → ((∃ A n c, Value.slice (some A) n c ∈ cs) → ∃ b, b < w.heap.size) →
    ∃ x : den τ, TRl w (· < w.heap.size) ok τ x cs [] ∧ WF τ x
  | 0, t, τ, fuel, cs, d, ps, hty, _, _ => by simp [tyC] at hty
  | k + 1, t, τ, 0, cs, d, ps, hty, ht, _ => by simp [DataW.trod] at ht
  | k + 1, t, τ, fuel + 1, cs, d, ps, hty, ht, hN => by
    simp only [tyC] at hty
    cases hu : P.underlying t with
    | none => simp [hu] at hty
    | some td =>
      rw [hu] at hty
      cases td with
      | bool =>
        simp only at hty
        split at hty <;> first | (simp at hty; done) | skip
        obtain ⟨b, rfl⟩ := trod_bool hu ht
        exact ⟨(b : Bool), ⟨rfl, rfl⟩, trivial⟩
      | int i =>
        simp only at hty
        split at hty <;> first | (simp at hty; done) | skip
        simp only [decide_eq_true_eq] at hty; subst hty
        obtain ⟨n, rfl, hn⟩ := trod_int hu ht
        exact ⟨(n : Int), ⟨rfl, rfl⟩, hn⟩
      | string =>
        simp only at hty
        split at hty <;> first | (simp at hty; done) | skip
        obtain ⟨s, rfl, hn⟩ := trod_str hu ht
        exact ⟨(s : ByteArray), ⟨rfl, rfl⟩, hn⟩
      | slice e =>
        simp only at hty
        split at hty <;> first | (simp at hty; done) | skip
        rename_i a
        simp only [Bool.and_eq_true] at hty
        obtain ⟨⟨hty, hsz⟩, hpos⟩ := hty
        have hsz : P.cellsOf e = sz a := Nat.eq_of_beq_eq_true hsz
        have hpos : 0 < sz a := by simpa [Nat.blt_eq] using hpos
        rcases trod_slice hu ht with rfl | ⟨A, len, cap, rfl, hlc, hcm, hall⟩
        · exact ⟨([] : List (den a)), ⟨_, rfl, .inl ⟨rfl, rfl, rfl⟩⟩, by simp [WF, allL]⟩
        · skip
          · skip
            have hx : ∀ i, i < len → ∃ x : den a, A.spot = none ∧ A.block < w.heap.size ∧ TRc w (· < w.heap.size) ok a x A.block (A.off + i * sz a) [] ∧ WF a x := by
              intro i hi
              obtain ⟨cells, ⟨d', p'⟩, hc, hd⟩ := hall i hi
              rw [hsz] at hc
              obtain ⟨q1, q2, q3, q4⟩ := cells?_some hc hpos
              have hblk : (A.add (i * sz a)).block = A.block := by unfold Addr.add; split <;> rfl
              have hoff : (A.add (i * sz a)).off = A.off + i * sz a := by
                unfold Addr.add; split
                · rename_i h; rw [h]; rfl
                · rfl
              rw [hblk] at q3 q4
              rw [hoff] at q3
              obtain ⟨x, h1, h2⟩ := trod_ok k e a fuel cells d' p' hty hd (fun _ => ⟨_, q4⟩)
              have hsp : A.spot = none := by
                rcases Nat.eq_zero_or_pos i with h0 | h0
                · subst h0; simp only [Nat.zero_mul, Addr.add, ↓reduceIte] at q1; exact q1
                · -- the first element is there, too
                  obtain ⟨cells0, _, hc0, _⟩ := hall 0 (by omega)
                  rw [hsz] at hc0
                  have := (cells?_some hc0 hpos).1
                  simpa [Addr.add] using this
              exact ⟨x, hsp, q4, ⟨cells, h1, q3⟩, h2⟩
            have hch : ∃ f : Nat → den a, ∀ i, i < len → A.spot = none ∧ A.block < w.heap.size ∧ TRc w (· < w.heap.size) ok a (f i) A.block (A.off + i * sz a) [] ∧ WF a (f i) :=
              ⟨fun i => if h : i < len then (hx i h).choose else dflt a, fun i hi => by simp only [hi, ↓reduceDIte]; exact (hx i hi).choose_spec⟩
            obtain ⟨f, hf⟩ := hch
            have hlen : ((List.range' 0 len).map f).length = len := by simp
            refine ⟨(List.range' 0 len).map f, ⟨_, rfl, .inr ⟨A, cap, [], by rw [hlen], by rw [hlen]; exact hlc, ?_, .inl ⟨rfl, rfl, ?_, fun hne => ?_⟩⟩⟩, ?_⟩
            · have := RL.of_fun (w := w) (ok := ok) (t := a) (imm := (· < w.heap.size)) (b := A.block) (o := A.off) (s := sz a) f len 0 (fun j _ hj => (hf j (by omega)).2.2.1)
              rw [Nat.zero_mul, Nat.add_zero] at this; exact this
            · exact hN ⟨A, len, cap, by simp⟩
            · have hl : 0 < len := by
                rcases Nat.eq_zero_or_pos len with h | h
                · subst h; simp at hne
                · exact h
              exact ⟨(hf 0 hl).1, (hf 0 hl).2.1⟩
            · simp only [WF]
              refine ⟨by rw [hlen]; omega, fun x hx => ?_⟩
              obtain ⟨i, hi, rfl⟩ := List.mem_map.1 hx
              simp only [List.mem_range'_1] at hi
              exact (hf i (by omega)).2.2.2
      | struct fs =>
        simp only [Bool.and_eq_true] at hty
        obtain ⟨⟨hag, hty⟩, hsz⟩ := hty
        have hsz : P.cellsOf t = sz τ := Nat.eq_of_beq_eq_true hsz
        obtain ⟨hlen, hall⟩ := trod_struct hu ht
        · skip
          rw [hsz] at hlen
          clear ht hu hag hsz
          revert hall hty hlen
          generalize fs.toList = fl
          intro hty hlen hall
          have key : ∀ (fl : List Field) (τ : Ty) (o : Nat), tyF P (tyC P k) fl o τ = true → o + sz τ = cs.length → (∀ f, f ∈ fl → ∃ y, DataW.trod enc P w 0 spare held fuel f.type ((cs.drop f.offset).take (P.cellsOf f.type)) = some y) →
              ∃ x : den τ, TRl w (· < w.heap.size) ok τ x (cs.drop o) [] ∧ WF τ x := by
            intro fl
            induction fl with
            | nil =>
              intro τ o h1 h2 h3
              cases τ with
              | un =>
                simp only [sz, Nat.add_zero] at h2
                exact ⟨(), ⟨by rw [h2]; simp, rfl⟩, trivial⟩
              | _ => simp [tyF] at h1
            | cons f fl ih =>
              intro τ o h1 h2 h3
              cases τ with
              | pr a b =>
                simp only [tyF, Bool.and_eq_true] at h1
                obtain ⟨⟨⟨g1, g2⟩, g3⟩, g4⟩ := h1
                have g1 : f.offset = o := Nat.eq_of_beq_eq_true g1
                have g2 : P.cellsOf f.type = sz a := Nat.eq_of_beq_eq_true g2
                simp only [sz] at h2
                obtain ⟨⟨d', p'⟩, hd⟩ := h3 f (by simp)
                rw [g1, g2] at hd
                obtain ⟨x1, k1, k2⟩ := trod_ok k f.type a fuel _ d' p' g3 hd (fun ⟨A, n, c, hm⟩ => hN ⟨A, n, c, List.mem_of_mem_drop (List.mem_of_mem_take hm)⟩)
                obtain ⟨x2, k3, k4⟩ := ih b (o + sz a) g4 (by omega) (fun f hf => h3 f (by simp [hf]))
                refine ⟨(x1, x2), ⟨_, _, [], [], ?_, rfl, k1, k3⟩, k2, k4⟩
                rw [← List.drop_drop, List.take_append_drop]
              | _ => simp [tyF] at h1
          obtain ⟨x, h1, h2⟩ := key fl τ 0 hty (by omega) hall
          exact ⟨x, by simpa using h1, h2⟩
      | _ => simp at hty
end
end Go.Tw
