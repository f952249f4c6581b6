/- The logic: a step. -/
import Derived.Test.YtemcbhjheebnnaaGreatT20
import Derived.ProofKit
import Derived.Carry
set_option linter.all false
namespace Go.Tw
open Go Go.RowKit
variable [k7]
def tyF (P : Program) (g : TypeId → Ty → Bool) : List Field → Nat → Ty → Bool
  | [], _, .un => true
  | f :: fs, o, .pr a b => Nat.beq f.offset o && Nat.beq (P.cellsOf f.type) (sz a) && g f.type a && tyF P g fs (o + sz a) b
  | _, _, _ => false
def tyC (P : Program) : Nat → TypeId → Ty → Bool
  | 0, _, _ => false
  | k + 1, t, τ =>
    match P.underlying t with
    | some .bool => match τ with | .bool => true | _ => false
    | some (.int i) => match τ with | .int j => decide (i = j) | _ => false
    | some .string => match τ with | .str => true | _ => false
    | some (.slice e) => match τ with | .sl a => tyC P k e a && Nat.beq (P.cellsOf e) (sz a) && Nat.blt 0 (sz a) | _ => false
    | some (.struct fs) => isAg τ && tyF P (tyC P k) fs.toList 0 τ && Nat.beq (P.cellsOf t) (sz τ)
    | _ => false
def NK (k : IntKind) (n : Int) : Prop := k.min ≤ n ∧ n ≤ k.max
def NF {α : Type} (p : α → Prop) (l : List α) : Prop := l.length ≤ 9223372036854775807 ∧ ∀ x ∈ l, p x
def WF : (t : Ty) → den t → Prop
  | .int k, n => NK k n
  | .bool, _ => True
  | .str, s => s.size ≤ 9223372036854775807
  | .un, _ => True
  | .pr a b, x => WF a x.1 ∧ WF b x.2
  | .sl t, l => NF (WF t) l
  | .ref t, x => WF t x
  | .cl _ t, x => WF t x
theorem mapM_some {α β : Type} {f : α → Option β} : ∀ {l : List α} {ys : List β}, l.mapM f = some ys → ys.length = l.length ∧ ∀ a, a ∈ l → ∃ y, f a = some y
  | [], ys, h => by simp at h; subst h; simp
  | a :: l, ys, h => by
    simp only [List.mapM_cons, Option.bind_eq_bind, ax, Option.pure_def, af] at h
    obtain ⟨y, h1, ys', h2, rfl⟩ := h
    obtain ⟨h3, h4⟩ := mapM_some h2
    refine ⟨by simp [h3], fun b hb => ?_⟩
    rcases List.mem_cons.1 hb with rfl | hb
    · exact ⟨y, h1⟩
    · exact h4 b hb
theorem cells?_some {w : World} {base n : Nat} {A : Addr} {cs : List Value} (h : w.cells? base A n = some cs) (hn : 0 < n) : A.spot = none ∧ cs.length = n ∧ At w A.block A.off cs ∧ A.block < w.heap.size := by
  unfold World.cells? at h
  split at h
  · have key : ∀ (m s : Nat) (ys : List Value), (List.range' s m).mapM (fun i => w.cell? (A.add i)) = some ys → ys.length = m ∧ ∀ (j : Nat) u, ys[j]? = some u → w.cell? (A.add (s + j)) = some u := by
      intro m
      induction m with
      | zero => intro s ys h; simp at h; subst h; simp
      | succ m ih =>
        intro s ys h
        simp only [List.range'_succ, List.mapM_cons, Option.bind_eq_bind, ax, Option.pure_def, af] at h
        obtain ⟨y, h1, ys', h2, rfl⟩ := h
        obtain ⟨h3, h4⟩ := ih (s + 1) ys' h2
        refine ⟨by simp [h3], fun j u hj => ?_⟩
        cases j with
        | zero => simp at hj; subst hj; simpa using h1
        | succ j => rw [show s + (j + 1) = s + 1 + j by omega]; exact h4 j u (by simpa using hj)
    rw [List.range_eq_range'] at h
    obtain ⟨h1, h2⟩ := key n 0 cs h
    have h0 : ∃ u, cs[0]? = some u := by
      cases cs with
      | nil => simp at h1; omega
      | cons c cs => exact ⟨c, rfl⟩
    obtain ⟨u, hu⟩ := h0
    have hc := h2 0 u hu
    have hadd : A.add (0 + 0) = A := by simp [Addr.add]
    rw [hadd] at hc
    have hsp : A.spot = none := by
      unfold World.cell? at hc
      split at hc
      · split at hc
        · simp at hc
        · rename_i hs; simpa using hs
      · simp at hc
    obtain ⟨b, o, sp⟩ := A
    simp only at hsp; subst hsp
    refine ⟨rfl, h1, fun j u hj => ?_, ?_⟩
    · have := h2 j u hj
      rwa [Nat.zero_add, ia] at this
    · unfold World.cell? at hc
      rcases Nat.lt_or_ge b w.heap.size with h | h
      · exact h
      · simp [Array.getElem?_eq_none h] at hc
  · simp at h
section
variable {H : Type} {enc : TypeId × Value → H} {P : Program} {w : World} {ok : Nat → Prop} {spare : Nat → Bool} {held : Bool}
theorem RL.Fg {t : Ty} {ab : Nat → Prop} {b o s : Nat} (x : Nat → den t) : ∀ (m i : Nat), (∀ j, i ≤ j → j < i + m → oW w ab ok t (x j) b (o + j * s) []) → RL (oW w ab ok t) s ((List.range' i m).map x) b (o + i * s) []
  | 0, i, h => by simp [RL]
  | m + 1, i, h => by
    simp only [List.range'_succ, List.map_cons, RL]
    refine ⟨[], [], rfl, h i (Nat.le_refl _) (by omega), ?_⟩
    have := RL.Fg x m (i + 1) (fun j h1 h2 => h j (by omega) (by omega))
    rwa [show o + (i + 1) * s = o + i * s + s by rw [Nat.succ_mul]; omega] at this
theorem trod_bool {fuel : Nat} {t : TypeId} {cs : List Value} {r : DataW H × List MemPlace} (hu : P.underlying t = some .bool) (ht : DataW.trod enc P w 0 spare held (fuel + 1) t cs = some r) : ∃ b, cs = [.bool b] := by
  simp only [DataW.trod, hu] at ht
  split at ht <;> simp_all
theorem trod_int {fuel : Nat} {t : TypeId} {cs : List Value} {r : DataW H × List MemPlace} {k : IntKind} (hu : P.underlying t = some (.int k)) (ht : DataW.trod enc P w 0 spare held (fuel + 1) t cs = some r) : ∃ n, cs = [.int k n] ∧ NK k n := by
  simp only [DataW.trod, hu] at ht
  split at ht <;> simp_all [Lit.wf, NK]
theorem Fh {fuel : Nat} {t : TypeId} {cs : List Value} {r : DataW H × List MemPlace} (hu : P.underlying t = some .string) (ht : DataW.trod enc P w 0 spare held (fuel + 1) t cs = some r) : ∃ s, cs = [.string s] ∧ s.size ≤ 9223372036854775807 := by
  simp only [DataW.trod, hu] at ht
  split at ht <;> simp_all
  exact by simpa [maxLen] using ht.1
theorem trod_slice {fuel : Nat} {t e : TypeId} {cs : List Value} {r : DataW H × List MemPlace} (hu : P.underlying t = some (.slice e)) (ht : DataW.trod enc P w 0 spare held (fuel + 1) t cs = some r) :
    cs = [.slice none 0 0] ∨ ∃ A len cap, cs = [.slice (some A) len cap] ∧ len ≤ cap ∧ cap ≤ 9223372036854775807 ∧ ∀ i, i < len → ∃ cells y, w.cells? 0 (A.add (i * P.cellsOf e)) (P.cellsOf e) = some cells ∧ DataW.trod enc P w 0 spare held fuel e cells = some y := by
  simp only [DataW.trod, hu] at ht
  split at ht
  all_goals first
    | (left; rfl)
    | (rename_i h1; simp at h1; done)
    | (rename_i h1 _; simp at h1; done)
    | (rename_i h1 _ _; simp at h1; done)
    | skip
  all_goals first
    | (simp at ht; done)
    | skip
  rename_i e' A len cap h1
  simp only [af, TypeDesc.slice.injEq] at h1
  subst h1
  right
  split at ht
  · rename_i hb
    simp only [ax] at ht
    obtain ⟨elems, hel, _⟩ := ht
    obtain ⟨_, hall⟩ := mapM_some hel
    refine ⟨A, len, cap, rfl, hb.2.1, by simpa [maxLen] using hb.2.2, fun i hi => ?_⟩
    obtain ⟨y, hy⟩ := hall i (by simpa using hi)
    simp only [ax] at hy
    obtain ⟨cells, h1, h2⟩ := hy
    exact ⟨cells, y, h1, h2⟩
  · simp at ht
theorem trod_struct {fuel : Nat} {t : TypeId} {fs : Array Field} {cs : List Value} {r : DataW H × List MemPlace} (hu : P.underlying t = some (.struct fs)) (ht : DataW.trod enc P w 0 spare held (fuel + 1) t cs = some r) :
    cs.length = P.cellsOf t ∧ ∀ f, f ∈ fs.toList → ∃ y, DataW.trod enc P w 0 spare held fuel f.type ((cs.drop f.offset).take (P.cellsOf f.type)) = some y := by
  simp only [DataW.trod, hu] at ht
  split at ht
  all_goals first
    | (rename_i h1; simp at h1; done)
    | (rename_i h1 _; simp at h1; done)
    | (rename_i h1 _ _; simp at h1; done)
    | skip
  all_goals first
    | (simp at ht; done)
    | skip
  rename_i hlen
  simp only [Option.map_eq_some_iff] at ht
  obtain ⟨xs, hxs, _⟩ := ht
  exact ⟨hlen, (mapM_some hxs).2⟩
theorem vf : ∀ (k : Nat) (t : TypeId) (τ : Ty) (fuel : Nat) (cs : List Value) (d : DataW H) (ps : List MemPlace), tyC P k t τ = true → DataW.trod enc P w 0 spare held fuel t cs = some (d, ps) → ((∃ A n c, Value.slice (some A) n c ∈ cs) → ∃ b, b < w.heap.size) →
    ∃ x : den τ, TRl w (· < w.heap.size) ok τ x cs [] ∧ WF τ x
  | 0, t, τ, fuel, cs, d, ps, hty, _, _ => by simp [tyC] at hty
  | k + 1, t, τ, 0, cs, d, ps, hty, ht, _ => by simp [DataW.trod] at ht
  | k + 1, t, τ, fuel + 1, cs, d, ps, hty, ht, hN => by
    simp only [tyC] at hty
    cases hu : P.underlying t with
    | none => simp [hu] at hty
    | some td =>
      rw [hu] at hty
      cases td with
      | bool =>
        simp only at hty
        split at hty <;> first | (simp at hty; done) | skip
        obtain ⟨b, rfl⟩ := trod_bool hu ht
        exact ⟨(b : Bool), ⟨rfl, rfl⟩, trivial⟩
      | int i =>
        simp only at hty
        split at hty <;> first | (simp at hty; done) | skip
        simp only [bF] at hty; subst hty
        obtain ⟨n, rfl, hn⟩ := trod_int hu ht
        exact ⟨(n : Int), ⟨rfl, rfl⟩, hn⟩
      | string =>
        simp only at hty
        split at hty <;> first | (simp at hty; done) | skip
        obtain ⟨s, rfl, hn⟩ := Fh hu ht
        exact ⟨(s : ByteArray), ⟨rfl, rfl⟩, hn⟩
      | slice e =>
        simp only at hty
        split at hty <;> first | (simp at hty; done) | skip
        rename_i a
        simp only [aA] at hty
        obtain ⟨⟨hty, hsz⟩, hpos⟩ := hty
        have hsz : P.cellsOf e = sz a := Nat.eq_of_beq_eq_true hsz
        have hpos : 0 < sz a := by simpa [Nat.blt_eq] using hpos
        rcases trod_slice hu ht with rfl | ⟨A, len, cap, rfl, hlc, hcm, hall⟩
        · exact ⟨([] : List (den a)), ⟨_, rfl, .inl ⟨rfl, rfl, rfl⟩⟩, by simp [WF, NF]⟩
        · skip
          · skip
            have hx : ∀ i, i < len → ∃ x : den a, A.spot = none ∧ A.block < w.heap.size ∧ oW w (· < w.heap.size) ok a x A.block (A.off + i * sz a) [] ∧ WF a x := by
              intro i hi
              obtain ⟨cells, ⟨d', p'⟩, hc, hd⟩ := hall i hi
              rw [hsz] at hc
              obtain ⟨q1, q2, q3, q4⟩ := cells?_some hc hpos
              have hblk : (A.add (i * sz a)).block = A.block := by unfold Addr.add; split <;> rfl
              have hoff : (A.add (i * sz a)).off = A.off + i * sz a := by
                unfold Addr.add; split
                · rename_i h; rw [h]; rfl
                · rfl
              rw [hblk] at q3 q4
              rw [hoff] at q3
              obtain ⟨x, h1, h2⟩ := vf k e a fuel cells d' p' hty hd (fun _ => ⟨_, q4⟩)
              have hsp : A.spot = none := by
                rcases Nat.eq_zero_or_pos i with h0 | h0
                · subst h0; simp only [Nat.zero_mul, Addr.add, ↓reduceIte] at q1; exact q1
                ·
                  obtain ⟨cells0, _, hc0, _⟩ := hall 0 (by omega)
                  rw [hsz] at hc0
                  have := (cells?_some hc0 hpos).1
                  simpa [Addr.add] using this
              exact ⟨x, hsp, q4, ⟨cells, h1, q3⟩, h2⟩
            have hch : ∃ f : Nat → den a, ∀ i, i < len → A.spot = none ∧ A.block < w.heap.size ∧ oW w (· < w.heap.size) ok a (f i) A.block (A.off + i * sz a) [] ∧ WF a (f i) :=
              ⟨fun i => if h : i < len then (hx i h).choose else eX a, fun i hi => by simp only [hi, ↓reduceDIte]; exact (hx i hi).choose_spec⟩
            obtain ⟨f, hf⟩ := hch
            have hlen : ((List.range' 0 len).map f).length = len := by simp
            refine ⟨(List.range' 0 len).map f, ⟨_, rfl, .inr ⟨A, cap, [], by rw [hlen], by rw [hlen]; exact hlc, ?_, .inl ⟨rfl, rfl, ?_, fun hne => ?_⟩⟩⟩, ?_⟩
            · have := RL.Fg (w := w) (ok := ok) (t := a) (ab := (· < w.heap.size)) (b := A.block) (o := A.off) (s := sz a) f len 0 (fun j _ hj => (hf j (by omega)).2.2.1)
              rw [Nat.zero_mul, Nat.add_zero] at this; exact this
            · exact hN ⟨A, len, cap, by simp⟩
            · have hl : 0 < len := by
                rcases Nat.eq_zero_or_pos len with h | h
                · subst h; simp at hne
                · exact h
              exact ⟨(hf 0 hl).1, (hf 0 hl).2.1⟩
            · simp only [WF]
              refine ⟨by rw [hlen]; omega, fun x hx => ?_⟩
              obtain ⟨i, hi, rfl⟩ := List.mem_map.1 hx
              simp only [List.mem_range'_1] at hi
              exact (hf i (by omega)).2.2.2
      | struct fs =>
        simp only [aA] at hty
        obtain ⟨⟨hag, hty⟩, hsz⟩ := hty
        have hsz : P.cellsOf t = sz τ := Nat.eq_of_beq_eq_true hsz
        obtain ⟨hlen, hall⟩ := trod_struct hu ht
        · skip
          rw [hsz] at hlen
          clear ht hu hag hsz
          revert hall hty hlen
          generalize fs.toList = fl
          intro hty hlen hall
          have key : ∀ (fl : List Field) (τ : Ty) (o : Nat), tyF P (tyC P k) fl o τ = true → o + sz τ = cs.length → (∀ f, f ∈ fl → ∃ y, DataW.trod enc P w 0 spare held fuel f.type ((cs.drop f.offset).take (P.cellsOf f.type)) = some y) →
              ∃ x : den τ, TRl w (· < w.heap.size) ok τ x (cs.drop o) [] ∧ WF τ x := by
            intro fl
            induction fl with
            | nil =>
              intro τ o h1 h2 h3
              cases τ with
              | un =>
                simp only [sz, Nat.add_zero] at h2
                exact ⟨(), ⟨by rw [h2]; simp, rfl⟩, trivial⟩
              | _ => simp [tyF] at h1
            | cons f fl ih =>
              intro τ o h1 h2 h3
              cases τ with
              | pr a b =>
                simp only [tyF, aA] at h1
                obtain ⟨⟨⟨g1, g2⟩, g3⟩, g4⟩ := h1
                have g1 : f.offset = o := Nat.eq_of_beq_eq_true g1
                have g2 : P.cellsOf f.type = sz a := Nat.eq_of_beq_eq_true g2
                simp only [sz] at h2
                obtain ⟨⟨d', p'⟩, hd⟩ := h3 f (by simp)
                rw [g1, g2] at hd
                obtain ⟨x1, k1, k2⟩ := vf k f.type a fuel _ d' p' g3 hd (fun ⟨A, n, c, hm⟩ => hN ⟨A, n, c, List.mem_of_mem_drop (List.mem_of_mem_take hm)⟩)
                obtain ⟨x2, k3, k4⟩ := ih b (o + sz a) g4 (by omega) (fun f hf => h3 f (by simp [hf]))
                refine ⟨(x1, x2), ⟨_, _, [], [], ?_, rfl, k1, k3⟩, k2, k4⟩
                rw [← List.drop_drop, List.take_append_drop]
              | _ => simp [tyF] at h1
          obtain ⟨x, h1, h2⟩ := key fl τ 0 hty (by omega) hall
          exact ⟨x, by simpa using h1, h2⟩
      | _ => simp at hty
end
end Go.Tw
namespace Go.Tw
open Go Go.RowKit
variable [k7]
def tyAll (P : Program) : List TypeId → List (Ty × Bool) → Bool
  | [], [] => true
  | t :: ts, p :: ps => tyC P 12 t p.1 && !p.2 && tyAll P ts ps
  | _, _ => false
def Qs : (ps : List (Ty × Bool)) → den (bg (ps.map (·.1))) → Prop
  | [], _ => True
  | p :: ps, x => WF p.1 x.1 ∧ Qs ps x.2
def Ko (f : FuncId) (ps : List (Ty × Bool)) (m : den (bg (ps.map (·.1))) → Option (den (bg [.bool]) × den (bg (qE ps)))) : bj := ⟨f, ps, [.bool], .own true, m⟩
section
variable {H : Type} {enc : TypeId × Value → H} {P : Program} {w : World}
theorem Kp {r : Reach} {base n : Nat} {A : Addr} {e : TypeId} (h : w.has P r base A e n) : ∃ b, b < w.heap.size := by
  obtain ⟨_, _, row, cells, hs, _⟩ := h
  refine ⟨A.block, ?_⟩
  unfold World.shape? at hs
  rcases Nat.lt_or_ge A.block w.heap.size with h | h
  · exact h
  · simp [Array.getElem?_eq_none h] at hs
theorem wN {r : Reach} {base : Nat} {u : TypeId} {A : Addr} {n c : Nat} (h : Cell.okWide P w r base u (.slice (some A) n c)) : ∃ b, b < w.heap.size := by
  unfold Cell.okWide at h
  split at h
  all_goals first
    | (rename_i h2; cases h2; done)
    | skip
  unfold Cell.ok at h
  split at h
  all_goals first
    | (rename_i h2; cases h2; done)
    | skip
  all_goals first
    | exact h.elim
    | (rename_i h2; cases h2; exact Kp h.2.2)
theorem wO {t : TypeId} {τ : Ty} {v : Value} {r : Reach} {base : Nat} (hty : tyC P 12 t τ = true) (hok : Value.okWide P w r base t v) :
    v = fh (isAg τ) v.cells.toList ∧ ((∃ A n c, Value.slice (some A) n c ∈ v.cells.toList) → ∃ b, b < w.heap.size) := by
  simp only [tyC] at hty
  unfold Value.okWide at hok
  cases hu : P.underlying t with
  | none => simp [hu] at hty
  | some td =>
    rw [hu] at hty hok
    have cell : ∀ {v : Value}, Cell.okWide P w r base t v → (∃ A n c, Value.slice (some A) n c = v) → ∃ b, b < w.heap.size := fun h ⟨A, n, c, e⟩ => wN (e ▸ h)
    have one : ∀ {v : Value}, Cell.okWide P w r base t v → (∀ ms, td ≠ .interface ms) → (td = .bool ∨ (∃ i, td = .int i) ∨ td = .string ∨ ∃ e, td = .slice e) → v.cells = #[v] := by
      intro v h _ hd
      have h2 : Cell.ok P w r base t v := by
        unfold Cell.okWide at h
        rw [hu] at h
        rcases hd with rfl | ⟨i, rfl⟩ | rfl | ⟨e, rfl⟩ <;> simpa using h
      unfold Cell.ok at h2
      rw [hu] at h2
      cases v with
      | agg cs => rcases hd with rfl | ⟨i, rfl⟩ | rfl | ⟨e, rfl⟩ <;> simp at h2
      | _ => rfl
    cases td with
    | struct fs =>
      simp only [aA] at hty
      obtain ⟨cs, rfl, hsz, hrow⟩ := hok
      refine ⟨by simp [fh, hty.1.1, Value.cells], ?_⟩
      rintro ⟨A, n, c, hm⟩
      simp only [Value.cells] at hm
      obtain ⟨i, hi⟩ := List.mem_iff_getElem?.1 hm
      obtain ⟨ts, _, _, h4⟩ := hrow
      obtain ⟨u, _, h5⟩ := h4 i _ (by simpa using hi)
      exact wN h5
    | bool =>
      simp only at hty hok
      split at hty <;> first | (simp at hty; done) | skip
      have := one hok (by simp) (.inl rfl)
      exact ⟨by rw [this]; rfl, fun ⟨A, n, c, hm⟩ => cell hok ⟨A, n, c, by rw [this] at hm; simpa using hm⟩⟩
    | int i =>
      simp only at hty hok
      split at hty <;> first | (simp at hty; done) | skip
      have := one hok (by simp) (.inr (.inl ⟨i, rfl⟩))
      exact ⟨by rw [this]; rfl, fun ⟨A, n, c, hm⟩ => cell hok ⟨A, n, c, by rw [this] at hm; simpa using hm⟩⟩
    | string =>
      simp only at hty hok
      split at hty <;> first | (simp at hty; done) | skip
      have := one hok (by simp) (.inr (.inr (.inl rfl)))
      exact ⟨by rw [this]; rfl, fun ⟨A, n, c, hm⟩ => cell hok ⟨A, n, c, by rw [this] at hm; simpa using hm⟩⟩
    | slice e =>
      simp only at hty hok
      split at hty <;> first | (simp at hty; done) | skip
      have := one hok (by simp) (.inr (.inr (.inr ⟨e, rfl⟩)))
      exact ⟨by rw [this]; rfl, fun ⟨A, n, c, hm⟩ => cell hok ⟨A, n, c, by rw [this] at hm; simpa using hm⟩⟩
    | _ => simp at hty
theorem Ab : ∀ {ts : List TypeId} {ps : List (Ty × Bool)} {vs : List Value} {ds : List (DataW H)} {p : List MemPlace} {base : Nat}, DataW.TrodAll enc P w 0 (fun _ => true) true ts vs ds p → (∀ (j : Nat) t v, ts[j]? = some t → vs[j]? = some v → Value.okWide P w .any base t v) → tyAll P ts ps = true →
    ∃ x : den (bg (ps.map (·.1))), mo w (· < w.heap.size) (· ∈ ([] : List Nat)) ps x vs [] ∧ Qs ps x
  | [], [], vs, ds, p, base, ht, _, _ => by
    cases vs with
    | nil => exact ⟨(), ⟨rfl, rfl⟩, trivial⟩
    | cons v vs => cases ds <;> simp [DataW.TrodAll] at ht
  | t :: ts, p :: ps, vs, ds, q, base, ht, hok, hty => by
    cases vs with
    | nil => cases ds <;> simp [DataW.TrodAll] at ht
    | cons v vs =>
      cases ds with
      | nil => simp [DataW.TrodAll] at ht
      | cons d ds =>
        obtain ⟨p1, p2, ⟨fuel, h1⟩, h2, _⟩ := ht
        simp only [tyAll, aA, Bool.not_eq_true'] at hty
        obtain ⟨x2, g1, g2⟩ := Ab (base := base) h2 (fun j t v h1 h2 => hok (j + 1) t v (by simpa using h1) (by simpa using h2)) hty.2
        obtain ⟨hv, hN⟩ := wO hty.1.1 (hok 0 t v rfl rfl)
        obtain ⟨x1, g3, g4⟩ := vf (ok := (· ∈ ([] : List Nat))) 12 t p.1 fuel _ d p1 hty.1.1 h1 hN
        exact ⟨(x1, x2), ⟨v.cells.toList, vs, [], [], by rw [← hv], rfl, fun _ => ⟨g3, rfl⟩, fun e => by rw [hty.1.2] at e; simp at e, g1⟩, g4, g2⟩
  | [], _ :: _, _, _, _, _, _, _, hty => by simp [tyAll] at hty
  | _ :: _, [], _, _, _, _, _, _, hty => by simp [tyAll] at hty
theorem AR {f : FuncId} {fn : Func} {ps : List (Ty × Bool)} {m : Nat → den (bg (ps.map (·.1))) → Option (den (bg [.bool]) × den (bg (qE ps)))} (hcon : ∀ k, an P (Ko f ps (m k))) (hty : tyAll P fn.params.toList ps = true) (hpure : ∀ x, Qs ps x → ∃ k y, m k x = some ((true, ()), y))
    {W : World} {base : Nat} {args : Array Value} {ds : List (DataW H)} {p : List MemPlace} (hA : DataW.TrodAll enc P W 0 (fun _ => true) true fn.params.toList args.toList ds p)
    (hval : ∀ (j : Nat) t v, fn.params[j]? = some t → args[j]? = some v → Value.okWide P W .any base t v) (hgd : (∀ g ∈ k7.G, g < W.heap.size) ∧ k7.J W := by exact ⟨fun _ h => (List.not_mem_nil h).elim, trivial⟩) :
    Calls P f args W fun e W' => e = .returned (.bool true) ∧ Below W.heap.size W W' := by
  obtain ⟨x, h1, h2⟩ := Ab (base := base) hA (fun j t v h1 h2 => hval j t v (by simpa using h1) (by simpa using h2)) hty
  obtain ⟨k, y, hy⟩ := hpure x h2
  have := (hcon k).2 W (· < W.heap.size) args.toList x [] _ (fun b hb => ⟨hb, by simp⟩) hgd (by simp) h1 hy
  simp only [Array.toArray_toList] at this
  refine this.mono ?_
  rintro e W' ⟨vs, L, Lm', rfl, h3, h4, _⟩
  refine ⟨?_, h3.below⟩
  obtain ⟨us, vs', L1, L2, rfl, rfl, h5, h6⟩ := h4
  obtain ⟨rfl, rfl⟩ := h6
  obtain ⟨u, us', L3, L4, rfl, rfl, ⟨rfl, rfl⟩, rfl, rfl⟩ := h5
  rfl
theorem tR (hl : laidOutB P = true) {W W' : World} (hb : Below W.heap.size W W') : ∀ {ts : List TypeId} {vs : List Value} {ds : List (DataW H)} {p : List MemPlace}, ts.all (fun t => P.readableRec t && Nat.blt t P.types.size) = true → (∀ x ∈ p, x.block < W.heap.size) →
    DataW.TrodAll enc P W 0 (fun _ => true) true ts vs ds p → DataW.TrodAll enc P W' 0 (fun b => decide (b < W.heap.size)) true ts vs ds p
  | [], vs, ds, p, _, _, h => by cases vs <;> cases ds <;> simp_all [DataW.TrodAll]
  | t :: ts, vs, ds, p, hr, hlt, h => by
    cases vs with
    | nil => cases ds <;> simp [DataW.TrodAll] at h
    | cons v vs =>
      cases ds with
      | nil => simp [DataW.TrodAll] at h
      | cons d ds =>
        obtain ⟨p1, p2, h1, h2, rfl⟩ := h
        simp only [List.all_cons, aA] at hr
        exact ⟨p1, p2, Below.trod hl hr.1.1 (by simpa [Nat.blt_eq] using hr.1.2) h1 hb (fun x hx => hlt x (by simp [hx])), tR hl hb (by simpa using hr.2) (fun x hx => hlt x (by simp [hx])) h2, rfl⟩
theorem Ek {s : ChangeSpec} {fn : Func} {W W' : World} {args : Array Value} {ds gs : List (DataW H)} {before : List MemPlace} {tb : TypeId} (hW : DataW.Whole enc P fn.params.toList s.vars false W args.toList ds gs before)
    (hvars : s.vars = []) (hspec : s.fn H (ds ++ gs) = { results := [.lit (.bool true)], args := ds }) (hres : fn.resultTypes = #[tb]) (htb : P.underlying tb = some .bool) (hl : laidOutB P = true)
    (hr : fn.params.toList.all (fun t => P.readableRec t && Nat.blt t P.types.size) = true) (hb : Below W.heap.size W W') : s.post enc P fn false true false false W args (.bool true) W' := by
  have hlt := hW.lt
  obtain ⟨p, q, hA, hV, rfl, hfz, hnd⟩ := id hW
  rw [hvars] at hV
  have hq : gs = [] ∧ q = [] := by cases gs <;> simp_all [DataW.TrodVars]
  obtain ⟨rfl, rfl⟩ := hq
  refine ⟨ds, [], p ++ [], [], p, [], hW, ?_, ?_, ?_, hb.frame _, fun h => by simp at h⟩
  · rw [hspec, hres]
    exact ⟨[], [], shut_bool htb true, rfl, rfl⟩
  · rw [hspec]
    exact tR hl hb hr (fun x hx => hlt x (by simp [hx])) hA
  · rw [hspec, hvars]; rfl
end
end Go.Tw
