/- A step of the typed logic of this claim is proved here: what an operation does to the data that slots and memory stand for. -/
import Derived.Test.YtmjacadeccoclaaT21
set_option linter.all false
namespace Go.Tw
open Go Go.RowKit

def tyAll (P : Program) : List TypeId → List (Ty × Bool) → Bool
  | [], [] => true
  | t :: ts, p :: ps => tyC P 12 t p.1 && !p.2 && tyAll P ts ps
  | _, _ => false
def WFA : (ps : List (Ty × Bool)) → den (prodT (ps.map (·.1))) → Prop
  | [], _ => True
  | p :: ps, x => WF p.1 x.1 ∧ WFA ps x.2
def lawCon (f : FuncId) (ps : List (Ty × Bool)) (m : den (prodT (ps.map (·.1))) → Option (den (prodT [.bool]) × den (prodT (mutT ps)))) : Con := ⟨f, ps, [.bool], .own true, m⟩

section
variable {H : Type} {enc : TypeId × Value → H} {P : Program} {w : World}

theorem has_lt {r : Reach} {base n : Nat} {A : Addr} {e : TypeId} (h : w.has P r base A e n) : ∃ b, b < w.heap.size := by
  obtain ⟨_, _, row, cells, hs, _⟩ := h
  refine ⟨A.block, ?_⟩
  unfold World.shape? at hs
  rcases Nat.lt_or_ge A.block w.heap.size with h | h
  · exact h
  · simp [Array.getElem?_eq_none h] at hs
theorem cell_has {r : Reach} {base : Nat} {u : TypeId} {A : Addr} {n c : Nat} (h : Cell.okWide P w r base u (.slice (some A) n c)) : ∃ b, b < w.heap.size := by
  unfold Cell.okWide at h
  split at h
  all_goals first
    | (rename_i h2; cases h2; done)
    | skip
  unfold Cell.ok at h
  split at h
  all_goals first
    | (rename_i h2; cases h2; done)
    | skip
  all_goals first
    | exact h.elim
    | (rename_i h2; cases h2; exact has_lt h.2.2)

theorem cells_of_ty {t : TypeId} {τ : Ty} {v : Value} {r : Reach} {base : Nat} (hty : tyC P 12 t τ = true) (hok : Value.okWide P w r base t v) :
    v = valOf (isAg τ) v.cells.toList ∧ ((∃ A n c, Value.slice (some A) n c ∈ v.cells.toList) → ∃ b, b < w.heap.size) := by
  simp only [tyC] at hty
  unfold Value.okWide at hok
  cases hu : P.underlying t with
  | none => simp [hu] at hty
  | some td =>
    rw [hu] at hty hok
    have cell : ∀ {v : Value}, Cell.okWide P w r base t v → (∃ A n c, Value.slice (some A) n c = v) → ∃ b, b < w.heap.size := fun h ⟨A, n, c, e⟩ => cell_has (e ▸ h)
    have one : ∀ {v : Value}, Cell.okWide P w r base t v → (∀ ms, td ≠ .interface ms) → (td = .bool ∨ (∃ i, td = .int i) ∨ td = .string ∨ ∃ e, td = .slice e) → v.cells = #[v] := by
      intro v h _ hd
      have h2 : Cell.ok P w r base t v := by
        unfold Cell.okWide at h
        rw [hu] at h
        rcases hd with rfl | ⟨i, rfl⟩ | rfl | ⟨e, rfl⟩ <;> simpa using h
      unfold Cell.ok at h2
      rw [hu] at h2
      cases v with
      | agg cs => rcases hd with rfl | ⟨i, rfl⟩ | rfl | ⟨e, rfl⟩ <;> simp at h2
      | _ => rfl
    cases td with
    | struct fs =>
      simp only [Bool.and_eq_true] at hty
      obtain ⟨cs, rfl, hsz, hrow⟩ := hok
      refine ⟨by simp [valOf, hty.1.1, Value.cells], ?_⟩
      rintro ⟨A, n, c, hm⟩
      simp only [Value.cells] at hm
      obtain ⟨i, hi⟩ := List.mem_iff_getElem?.1 hm
      obtain ⟨ts, _, _, h4⟩ := hrow
      obtain ⟨u, _, h5⟩ := h4 i _ (by simpa using hi)
      exact cell_has h5
    | bool =>
      simp only at hty hok
      split at hty <;> first | (simp at hty; done) | skip
      have := one hok (by simp) (.inl rfl)
      exact ⟨by rw [this]; rfl, fun ⟨A, n, c, hm⟩ => cell hok ⟨A, n, c, by rw [this] at hm; simpa using hm⟩⟩
    | int i =>
      simp only at hty hok
      split at hty <;> first | (simp at hty; done) | skip
      have := one hok (by simp) (.inr (.inl ⟨i, rfl⟩))
      exact ⟨by rw [this]; rfl, fun ⟨A, n, c, hm⟩ => cell hok ⟨A, n, c, by rw [this] at hm; simpa using hm⟩⟩
    | string =>
      simp only at hty hok
      split at hty <;> first | (simp at hty; done) | skip
      have := one hok (by simp) (.inr (.inr (.inl rfl)))
      exact ⟨by rw [this]; rfl, fun ⟨A, n, c, hm⟩ => cell hok ⟨A, n, c, by rw [this] at hm; simpa using hm⟩⟩
    | slice e =>
      simp only at hty hok
      split at hty <;> first | (simp at hty; done) | skip
      have := one hok (by simp) (.inr (.inr (.inr ⟨e, rfl⟩)))
      exact ⟨by rw [this]; rfl, fun ⟨A, n, c, hm⟩ => cell hok ⟨A, n, c, by rw [this] at hm; simpa using hm⟩⟩
    | _ => simp at hty

theorem args_ok : ∀ {ts : List TypeId} {ps : List (Ty × Bool)} {vs : List Value} {ds : List (DataW H)} {p : List MemPlace} {base : Nat}, DataW.TrodAll enc P w 0 (fun _ => true) true ts vs ds p → (∀ (j : Nat) t v, ts[j]? = some t → vs[j]? = some v → Value.okWide P w .any base t v) → tyAll P ts ps = true →
    ∃ x : den (prodT (ps.map (·.1))), ArgR w (· < w.heap.size) (· ∈ ([] : List Nat)) ps x vs [] ∧ WFA ps x
  | [], [], vs, ds, p, base, ht, _, _ => by
    cases vs with
    | nil => exact ⟨(), ⟨rfl, rfl⟩, trivial⟩
    | cons v vs => cases ds <;> simp [DataW.TrodAll] at ht
  | t :: ts, p :: ps, vs, ds, q, base, ht, hok, hty => by
    cases vs with
    | nil => cases ds <;> simp [DataW.TrodAll] at ht
    | cons v vs =>
      cases ds with
      | nil => simp [DataW.TrodAll] at ht
      | cons d ds =>
        obtain ⟨p1, p2, ⟨fuel, h1⟩, h2, _⟩ := ht
        simp only [tyAll, Bool.and_eq_true, Bool.not_eq_true'] at hty
        obtain ⟨x2, g1, g2⟩ := args_ok (base := base) h2 (fun j t v h1 h2 => hok (j + 1) t v (by simpa using h1) (by simpa using h2)) hty.2
        obtain ⟨hv, hN⟩ := cells_of_ty hty.1.1 (hok 0 t v rfl rfl)
        obtain ⟨x1, g3, g4⟩ := trod_ok (ok := (· ∈ ([] : List Nat))) 12 t p.1 fuel _ d p1 hty.1.1 h1 hN
        exact ⟨(x1, x2), ⟨v.cells.toList, vs, [], [], by rw [← hv], rfl, fun _ => ⟨g3, rfl⟩, fun e => by rw [hty.1.2] at e; simp at e, g1⟩, g4, g2⟩
  | [], _ :: _, _, _, _, _, _, _, hty => by simp [tyAll] at hty
  | _ :: _, [], _, _, _, _, _, _, hty => by simp [tyAll] at hty

/-- A law's call answers true and turns nothing that was there. -/
theorem law_calls {f : FuncId} {fn : Func} {ps : List (Ty × Bool)} {m : Nat → den (prodT (ps.map (·.1))) → Option (den (prodT [.bool]) × den (prodT (mutT ps)))} (hcon : ∀ k, ConOk P (lawCon f ps (m k))) (hty : tyAll P fn.params.toList ps = true) (hpure : ∀ x, WFA ps x → ∃ k y, m k x = some ((true, ()), y))
    {W : World} {base : Nat} {args : Array Value} {ds : List (DataW H)} {p : List MemPlace} (hA : DataW.TrodAll enc P W 0 (fun _ => true) true fn.params.toList args.toList ds p)
    (hval : ∀ (j : Nat) t v, fn.params[j]? = some t → args[j]? = some v → Value.okWide P W .any base t v) :
    Calls P f args W fun e W' => e = .returned (.bool true) ∧ Below W.heap.size W W' := by
  obtain ⟨x, h1, h2⟩ := args_ok (base := base) hA (fun j t v h1 h2 => hval j t v (by simpa using h1) (by simpa using h2)) hty
  obtain ⟨k, y, hy⟩ := hpure x h2
  have := (hcon k).2 W (· < W.heap.size) args.toList x [] _ (fun b hb => ⟨hb, by simp⟩) (by simp) h1 hy
  simp only [Array.toArray_toList] at this
  refine this.mono ?_
  rintro e W' ⟨vs, L, Lm', rfl, h3, h4, _⟩
  refine ⟨?_, h3.below⟩
  obtain ⟨us, vs', L1, L2, rfl, rfl, h5, h6⟩ := h4
  obtain ⟨rfl, rfl⟩ := h6
  obtain ⟨u, us', L3, L4, rfl, rfl, ⟨rfl, rfl⟩, rfl, rfl⟩ := h5
  rfl

theorem args_stay (hl : laidOutB P = true) {W W' : World} (hb : Below W.heap.size W W') : ∀ {ts : List TypeId} {vs : List Value} {ds : List (DataW H)} {p : List MemPlace}, ts.all (fun t => P.readableRec t && Nat.blt t P.types.size) = true → (∀ x ∈ p, x.block < W.heap.size) →
    DataW.TrodAll enc P W 0 (fun _ => true) true ts vs ds p → DataW.TrodAll enc P W' 0 (fun b => decide (b < W.heap.size)) true ts vs ds p
  | [], vs, ds, p, _, _, h => by cases vs <;> cases ds <;> simp_all [DataW.TrodAll]
  | t :: ts, vs, ds, p, hr, hlt, h => by
    cases vs with
    | nil => cases ds <;> simp [DataW.TrodAll] at h
    | cons v vs =>
      cases ds with
      | nil => simp [DataW.TrodAll] at h
      | cons d ds =>
        obtain ⟨p1, p2, h1, h2, rfl⟩ := h
        simp only [List.all_cons, Bool.and_eq_true] at hr
        exact ⟨p1, p2, Below.trod hl hr.1.1 (by simpa [Nat.blt_eq] using hr.1.2) h1 hb (fun x hx => hlt x (by simp [hx])), args_stay hl hb (by simpa using hr.2) (fun x hx => hlt x (by simp [hx])) h2, rfl⟩

theorem law_post {s : ChangeSpec} {fn : Func} {W W' : World} {args : Array Value} {ds gs : List (DataW H)} {before : List MemPlace} {tb : TypeId} (hW : DataW.Whole enc P fn.params.toList s.vars false W args.toList ds gs before)
    (hvars : s.vars = []) (hspec : s.fn H (ds ++ gs) = { results := [.lit (.bool true)], args := ds }) (hres : fn.resultTypes = #[tb]) (htb : P.underlying tb = some .bool) (hl : laidOutB P = true)
    (hr : fn.params.toList.all (fun t => P.readableRec t && Nat.blt t P.types.size) = true) (hb : Below W.heap.size W W') : s.post enc P fn false true false false W args (.bool true) W' := by
  have hlt := hW.lt
  obtain ⟨p, q, hA, hV, rfl, hfz, hnd⟩ := id hW
  rw [hvars] at hV
  have hq : gs = [] ∧ q = [] := by cases gs <;> simp_all [DataW.TrodVars]
  obtain ⟨rfl, rfl⟩ := hq
  refine ⟨ds, [], p ++ [], [], p, [], hW, ?_, ?_, ?_, hb.frame _, fun h => by simp at h⟩
  · rw [hspec, hres]
    exact ⟨[], [], shut_bool htb true, rfl, rfl⟩
  · rw [hspec]
    exact args_stay hl hb hr (fun x hx => hlt x (by simp [hx])) hA
  · rw [hspec, hvars]; rfl
end
end Go.Tw
