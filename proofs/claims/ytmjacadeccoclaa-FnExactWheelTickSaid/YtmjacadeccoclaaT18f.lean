/- A step of the typed logic of this claim is proved here: what an operation does to the data that slots and memory stand for. -/
import Derived.Test.YtmjacadeccoclaaT18d
set_option linter.all false
namespace Go.Tw
open Go Go.RowKit

section
variable {P : Program} {F : List Con} {ρ : Type} {σ σ' : Operand → TV} {h h' : Heap} {n : Nat}
theorem absL_pB : ∀ {cs : List TV} {h : Heap}, pB cs = true → absL h cs = some (cs, true, h)
  | [], h, _ => rfl
  | .p v :: cs, h, hp => by simp only [absL, absC, Option.bind_some]; rw [absL_pB (cs := cs) (by simpa [pB] using hp)]; rfl
theorem fillE_F {e : Ty} : ∀ {ps : List (Nat × Operand)} {es es' : List (den e)} {h : Heap}, fillF e σ es ps = some es' → fillE e σ h true es ps = some (h, true, es')
  | [], es, es', h, H => by simp only [fillF, Option.some.injEq] at H; subst H; rfl
  | (i, x) :: ps, es, es', h, H => by
    simp only [fillF] at H
    obtain ⟨hb, H⟩ := cond_some.1 H
    simp only [Bool.and_eq_true] at hb
    simp only [Option.bind_eq_some_iff] at H
    obtain ⟨y, h1, H⟩ := H
    simp only [fillE, absL_pB hb.1.1, Option.bind_some, h1, hb.1.2, hb.2, Bool.and_self, cond_true]
    exact fillE_F H
theorem alc_ex {op : Op} {reg : Reg} {c : Bool} (H : alcS P op σ = some (reg, c)) : ex P op σ h n = some { v := ptrOf reg n, h := (n, reg) :: h, n := n + 1, c := c } := by
  cases op <;> simp only [alcS] at H <;> first | (simp at H; done) | skip
  case alloc t =>
    simp only [ex, Option.bind_eq_some_iff] at H ⊢
    obtain ⟨z, h1, H⟩ := H
    obtain ⟨hb, H⟩ := cond_some.1 H
    simp only [Option.some.injEq, Prod.mk.injEq] at H
    obtain ⟨rfl, rfl⟩ := H
    exact ⟨z, h1, by rw [hb]; rfl⟩
  case box t x =>
    obtain ⟨hb, H⟩ := cond_some.1 H
    simp only [Option.some.injEq, Prod.mk.injEq] at H
    obtain ⟨rfl, rfl⟩ := H
    simp only [Bool.and_eq_true] at hb
    simp only [ex, hb.1]; rfl
  case buildSlice t l ps =>
    simp only [ex]
    split at H
    · rename_i h1 h2
      rw [h1, h2]
      obtain ⟨hb, H⟩ := cond_some.1 H
      simp only [Option.bind_eq_some_iff, Option.map_eq_some_iff, Prod.mk.injEq] at H
      obtain ⟨d, h3, es, h4, rfl, rfl⟩ := H
      simp only [hb, cond_true, h3, Option.bind_some, fillE_F (h := h) h4]
      rfl
    · simp at H
  case makeSlice t l k =>
    simp only [ex, makeS]
    split at H
    · rename_i h1 h2 h3 h4
      rw [h1, h2, h3, h4]
      simp only [Option.bind_eq_some_iff] at H ⊢
      obtain ⟨d, h5, H⟩ := H
      obtain ⟨hb, H⟩ := cond_some.1 H
      simp only [Option.some.injEq, Prod.mk.injEq] at H
      obtain ⟨rfl, rfl⟩ := H
      exact ⟨d, h5, by rw [hb]; rfl⟩
    · simp at H

/-! What an operation leaves alone. -/
theorem absC_out {c f : TV} {fr : Bool} {r : Nat} (H : absC h c = some (f, fr, h')) (hr : r ∉ refT c) : hget h' r = hget h r := by
  unfold absC at H
  split at H
  · simp only [Option.some.injEq, Prod.mk.injEq] at H; rw [H.2.2]
  · simp only [Option.some.injEq, Prod.mk.injEq] at H; rw [H.2.2]
  · split at H
    · simp only [Option.some.injEq, Prod.mk.injEq] at H; rw [← H.2.2, hget_hdel, if_neg (by simpa [refT] using hr)]
    · simp at H
  · split at H
    · simp only [Option.some.injEq, Prod.mk.injEq] at H; rw [← H.2.2, hget_hdel, if_neg (by simpa [refT] using hr)]
    · simp at H
  · simp at H
theorem absL_out : ∀ {cs fs : List TV} {fr : Bool} {h h' : Heap} {r : Nat}, absL h cs = some (fs, fr, h') → r ∉ cs.flatMap refT → hget h' r = hget h r
  | [], fs, fr, h, h', r, H, _ => by simp only [absL, Option.some.injEq, Prod.mk.injEq] at H; rw [H.2.2]
  | c :: cs, fs, fr, h, h', r, H, hr => by
    simp only [absL, Option.bind_eq_some_iff, Option.some.injEq, Prod.mk.injEq] at H
    obtain ⟨⟨f1, b1, h1⟩, a1, ⟨f2, b2, h2⟩, a2, _, _, rfl⟩ := H
    simp only [List.flatMap_cons, List.mem_append, not_or] at hr
    rw [absL_out a2 hr.2, absC_out a1 hr.1]
theorem fillE_out {e : Ty} : ∀ {ps : List (Nat × Operand)} {es es' : List (den e)} {f f' : Bool} {h h' : Heap} {r : Nat}, fillE e σ h f es ps = some (h', f', es') → r ∉ ps.flatMap (fun p => refC (σ p.2)) → hget h' r = hget h r
  | [], es, es', f, f', h, h', r, H, _ => by simp only [fillE, Option.some.injEq, Prod.mk.injEq] at H; rw [H.1]
  | (i, x) :: ps, es, es', f, f', h, h', r, H, hr => by
    simp only [fillE, Option.bind_eq_some_iff] at H
    obtain ⟨⟨f1, b1, h1⟩, a1, y, _, H⟩ := H
    obtain ⟨_, H⟩ := cond_some.1 H
    simp only [List.flatMap_cons, List.mem_append, not_or] at hr
    rw [fillE_out H hr.2, absL_out a1 hr.1]
theorem elems_out {t : Ty} {x : TV} {xs : List (den t)} {f : Bool} {r : Nat} (H : elemsS t x h = some (xs, f, h')) (hr : r ∉ refT x) : hget h' r = hget h r := by
  unfold elemsS at H
  split at H
  · simp only [Option.some.injEq, Prod.mk.injEq] at H; rw [H.2.2]
  · simp only [Option.some.injEq, Prod.mk.injEq] at H; rw [H.2.2]
  · simp only [Option.map_eq_some_iff, Prod.mk.injEq] at H; obtain ⟨_, _, _, _, rfl⟩ := H; rfl
  · split at H
    · simp only [Option.map_eq_some_iff, Prod.mk.injEq] at H
      obtain ⟨_, _, _, _, rfl⟩ := H
      cases hasSl t with
      | true => simp only [cond_true]; rw [hget_hdel, if_neg (by simpa [refT] using hr)]
      | false => rfl
    · simp at H
  · split at H
    · simp only [Option.map_eq_some_iff, Prod.mk.injEq] at H
      obtain ⟨_, _, _, _, rfl⟩ := H
      cases hasSl t with
      | true => simp only [cond_true]; rw [hget_hdel, if_neg (by simpa [refT] using hr)]
      | false => rfl
    · simp at H
  · split at H
    · simp only [Option.some.injEq, Prod.mk.injEq] at H; rw [H.2.2]
    · simp at H
  · simp at H
theorem hget_new {reg : Reg} {r : Nat} (hr : r < n ∨ n + 1 ≤ r) : hget ((n, reg) :: h) r = hget h r := by
  simp only [hget]; rw [if_neg (by omega)]
theorem opnC_out {fr : Bool} : ∀ {cs : List TV} {h : Heap} {n : Nat}, n ≤ (opnC fr cs h n).2.2 ∧ ∀ r, (r < n ∨ (opnC fr cs h n).2.2 ≤ r) → hget (opnC fr cs h n).2.1 r = hget h r
  | [], h, n => ⟨Nat.le_refl _, fun _ _ => rfl⟩
  | c :: cs, h, n => by
    cases c
    case tr t l =>
      obtain ⟨h1, h2⟩ := opnC_out (fr := fr) (cs := cs) (h := (n, .row fr t l) :: h) (n := n + 1)
      refine ⟨by simp only [opnC]; omega, fun r hr => ?_⟩
      simp only [opnC] at hr ⊢
      rw [h2 r (by omega), hget_new (by omega)]
    case iptr t l i off =>
      obtain ⟨h1, h2⟩ := opnC_out (fr := fr) (cs := cs) (h := (n, .box (encT t (l.headD (dflt t)))) :: h) (n := n + 1)
      refine ⟨by simp only [opnC]; omega, fun r hr => ?_⟩
      simp only [opnC] at hr ⊢
      rw [h2 r (by omega), hget_new (by omega)]
    all_goals exact opnC_out (fr := fr) (cs := cs) (h := h) (n := n)
theorem opnL_out {fr : Bool} : ∀ {ts : List Ty} {x : den (prodT ts)} {h : Heap} {n : Nat}, n ≤ (opnL fr ts x h n).2.2 ∧ ∀ r, (r < n ∨ (opnL fr ts x h n).2.2 ≤ r) → hget (opnL fr ts x h n).2.1 r = hget h r
  | [], x, h, n => ⟨Nat.le_refl _, fun _ _ => rfl⟩
  | t :: ts, x, h, n => by
    obtain ⟨h1, h2⟩ := opnC_out (fr := fr) (cs := encT t x.1) (h := h) (n := n)
    obtain ⟨h3, h4⟩ := opnL_out (fr := fr) (ts := ts) (x := x.2) (h := (opnC fr (encT t x.1) h n).2.1) (n := (opnC fr (encT t x.1) h n).2.2)
    refine ⟨by simp only [opnL, opnV]; omega, fun r hr => ?_⟩
    simp only [opnL, opnV] at hr ⊢
    rw [h4 r (by omega), h2 r (by omega)]
theorem opnR_out {rm : RM} {ts : List Ty} {x : den (prodT ts)} : n ≤ (opnR rm ts x h n).2.2 ∧ ∀ r, (r < n ∨ (opnR rm ts x h n).2.2 ≤ r) → hget (opnR rm ts x h n).2.1 r = hget h r := by
  unfold opnR
  split
  · exact opnL_out
  · exact ⟨Nat.le_refl _, fun _ _ => rfl⟩
  · exact opnL_out
theorem ex_out {op : Op} {A : Ans} (H : ex P op σ h n = some A) (hk : A.k = none) : n ≤ A.n ∧ ∀ r, r ∉ wrI op σ → (r < n ∨ A.n ≤ r) → hget A.h r = hget h r := by
  cases hs : stillB op with
  | true =>
    obtain ⟨h1, h2, _, _⟩ := HI (h' := h) (n' := n) hs H (fun _ _ => rfl)
    exact ⟨by omega, fun r _ _ => by rw [h1]⟩
  | false =>
    cases ha : alcS P op σ with
    | some q =>
      obtain ⟨reg, c⟩ := q
      rw [alc_ex ha] at H
      simp only [Option.some.injEq] at H; subst H
      exact ⟨by simp, fun r _ hr => hget_new hr⟩
    | none =>
      cases op <;> simp only [stillB] at hs <;> first | (simp at hs; done) | (simp [ex] at H; done) | skip
      case alloc t =>
        simp only [ex, Option.bind_eq_some_iff] at H
        obtain ⟨z, _, H⟩ := H
        obtain ⟨_, H⟩ := cond_some.1 H
        simp only [Option.some.injEq] at H; subst H
        exact ⟨by simp, fun r _ hr => hget_new hr⟩
      case box t x =>
        simp only [ex] at H
        obtain ⟨_, H⟩ := cond_some.1 H
        simp only [Option.some.injEq] at H; subst H
        exact ⟨by simp, fun r _ hr => hget_new hr⟩
      case buildSlice t l ps =>
        simp only [ex] at H
        split at H
        · obtain ⟨_, H⟩ := cond_some.1 H
          simp only [Option.bind_eq_some_iff, Option.map_eq_some_iff] at H
          obtain ⟨d, _, ⟨h1, f, es⟩, h2, rfl⟩ := H
          refine ⟨by simp, fun r hw hr => ?_⟩
          simp only [wrI] at hw
          rw [hget_new hr, fillE_out h2 hw]
        · simp at H
      case makeSlice t l k =>
        simp only [ex] at H
        unfold makeS at H
        split at H
        · simp only [Option.bind_eq_some_iff] at H
          obtain ⟨d, _, H⟩ := H
          obtain ⟨_, H⟩ := cond_some.1 H
          simp only [Option.some.injEq] at H; subst H
          exact ⟨by simp, fun r _ hr => hget_new hr⟩
        · simp at H
      case store t x y =>
        simp only [ex, Option.bind_eq_some_iff] at H
        obtain ⟨av, _, H⟩ := H
        unfold storeS at H
        split at H
        · rename_i r0 i off hx
          split at H
          · obtain ⟨_, H⟩ := cond_some.1 H
            simp only [Option.some.injEq] at H; subst H
            refine ⟨Nat.le_refl _, fun r hw hr => ?_⟩
            simp only [wrI, hx, refT, List.mem_append, List.mem_singleton, not_or] at hw
            rw [hget_hset, if_neg hw.1]
          · simp only [Option.bind_eq_some_iff] at H
            obtain ⟨⟨q1, q2, q3⟩, hq, H⟩ := H
            split at H
            · rename_i fr1 t0 l0 hg0
              obtain ⟨_, H⟩ := cond_some.1 H
              simp only [Option.bind_eq_some_iff, Option.some.injEq] at H
              obtain ⟨e, _, rfl⟩ := H
              refine ⟨Nat.le_refl _, fun r hw hr => ?_⟩
              simp only [wrI, hx, refT, List.mem_append, List.mem_singleton, not_or] at hw
              cases hsl : hasSl t0 with
              | true => rw [hsl] at hk; simp at hk
              | false =>
                simp only [cond_false]
                rw [hget_hset, if_neg hw.1, absL_out hq hw.2]
            · simp at H
          · simp at H
        · simp at H
      case makeMap t r =>
        simp only [ex, Option.bind_eq_some_iff] at H
        obtain ⟨k, _, H⟩ := H
        obtain ⟨_, H⟩ := cond_some.1 H
        simp only [Option.some.injEq] at H; subst H
        exact ⟨by simp, fun r _ hr => hget_new hr⟩
      case lookup t x y q =>
        simp only [ex] at H
        cases q with
        | true => simp at H
        | false =>
          simp only [cond_false] at H
          unfold lookupS at H
          split at H
          · split at H
            · split at H
              · simp only [Option.some.injEq] at H; subst H
                exact ⟨Nat.le_refl _, fun _ _ _ => rfl⟩
              · simp at H
            · simp at H
          · simp at H
      case mapUpdate t x y z =>
        simp only [ex] at H
        unfold mapSetS at H
        split at H
        · rename_i k r0 k' i b hk e1 e2 e3
          split at H
          · split at H
            · simp only [Option.some.injEq] at H; subst H
              refine ⟨Nat.le_refl _, fun r hw hr => ?_⟩
              simp only [wrI, e1, refT, List.mem_singleton] at hw
              rw [hget_hset, if_neg hw]
            · simp at H
          · simp at H
        · simp at H
      case call c =>
        simp only [ex] at H
        split at H
        · rename_i hc; simp [hc] at hs
        rotate_left
        · rename_i hc; simp [hc] at hs
        · rename_i hc; simp [hc] at hs
        · rename_i hc; simp [hc] at hs
        · simp at H
        · rename_i hc
          have key : ∀ {s x : Operand} {tt : TypeId}, c.args.toList = [s, x] → appendS P tt (σ s) (σ x) h n = some A → n ≤ A.n ∧ ∀ r, r ∉ wrI (.call c) σ → (r < n ∨ A.n ≤ r) → hget A.h r = hget h r := by
            intro s x tt hargs H
            have hw : ∀ r, r ∉ wrI (.call c) σ → r ∉ refT (σ s) ∧ r ∉ refT (σ x) := by
              intro r hw
              simp only [wrI, hc, hargs, List.flatMap_cons, List.flatMap_nil, List.append_nil, List.mem_append, not_or] at hw
              exact hw
            unfold appendS at H
            split at H
            · obtain ⟨_, H⟩ := cond_some.1 H
              simp only [Option.bind_eq_some_iff] at H
              obtain ⟨⟨xs, f, h1⟩, hel, H⟩ := H
              split at H
              · simp only [Option.some.injEq] at H; subst H
                refine ⟨by simp, fun r hw' hr => ?_⟩
                rw [hget_new hr]; exact elems_out hel (hw r hw').2
              · rename_i r0 hs0
                split at H
                · simp only [Option.bind_eq_some_iff, Option.some.injEq] at H
                  obtain ⟨l, _, rfl⟩ := H
                  refine ⟨by simp, fun r hw' hr => ?_⟩
                  have := (hw r hw').1
                  rw [hs0] at this
                  rw [hget_new hr, hget_hdel, if_neg (by simpa [refT] using this)]; exact elems_out hel (hw r hw').2
                · simp at H
              · rename_i r0 o0 l0 hs0
                split at H
                · simp only [Option.bind_eq_some_iff, Option.some.injEq] at H
                  obtain ⟨l, _, rfl⟩ := H
                  refine ⟨by simp, fun r hw' hr => ?_⟩
                  have := (hw r hw').1
                  rw [hs0] at this
                  rw [hget_new hr, hget_hdel, if_neg (by simpa [refT] using this)]; exact elems_out hel (hw r hw').2
                · simp at H
              · simp at H
            · simp at H
          split at H
          · rename_i s x tt t2 _ h1 h2
            split at H
            · exact key h1 H
            · exact key h1 H
            · unfold appendZ at H
              split at H
              · simp only [Option.bind_eq_some_iff] at H
                obtain ⟨d, _, H⟩ := H
                obtain ⟨_, H⟩ := cond_some.1 H
                simp only [Option.some.injEq] at H; subst H
                exact ⟨by simp, fun r _ hr => hget_new hr⟩
              · simp at H
            · simp at H
          · simp at H
theorem wBox_mem : ∀ {ps : List (Ty × Bool)} {xs : List TV} {r : Nat}, wBox ps xs = some r → r ∈ xs.flatMap refP
  | [], _, _, h => by simp [wBox] at h
  | (t, b) :: _, [], _, h => by cases b <;> cases t <;> simp [wBox] at h
  | (t, false) :: ps, x :: xs, r, h => by
    simp only [List.flatMap_cons, List.mem_append]
    exact .inr (wBox_mem (ps := ps) (by simpa [wBox] using h))
  | (t, true) :: ps, x :: xs, r, h => by
    cases t with
    | ref t =>
      simp only [wBox] at h
      obtain ⟨_, h⟩ := cond_some.1 h
      split at h
      · simp only [Option.some.injEq] at h; subst h
        simp [refP]
      · simp at h
    | _ => simp [wBox] at h
theorem evV_out {o : Oper} {A : Ans} (H : evV P F o σ h n some = some A) : A.c = true ∧ A.k = none ∧ n ≤ A.n ∧ ∀ r, r ∉ wrI o.op σ → (r < n ∨ A.n ≤ r) → hget A.h r = hget h r := by
  have plain : ((ex P o.op σ h n).bind fun a => bif a.k.isNone && a.c then some a else none) = some A → A.c = true ∧ A.k = none ∧ n ≤ A.n ∧ ∀ r, r ∉ wrI o.op σ → (r < n ∨ A.n ≤ r) → hget A.h r = hget h r := by
    intro H
    simp only [Option.bind_eq_some_iff] at H
    obtain ⟨A', h1, H⟩ := H
    obtain ⟨hb, H⟩ := cond_some.1 H
    simp only [Option.some.injEq] at H; subst H
    simp only [Bool.and_eq_true, Option.isNone_iff_eq_none] at hb
    obtain ⟨h2, h3⟩ := ex_out h1 hb.1
    exact ⟨hb.2, hb.1, h2, h3⟩
  unfold evV at H
  split at H
  · rename_i c hc
    cases hi : isCall o.op with
    | false => rw [hi] at H; exact plain H
    | true =>
      rw [hi] at H
      simp only [cond_true, Option.bind_eq_some_iff] at H
      obtain ⟨q, hq, cn, _, H⟩ := H
      cases h3 : (cn.ps.all (fun x => !x.2) && (cn.rm.isOwnF || flatA q.2)) with
      | true =>
        rw [h3] at H
        simp only [cond_true, Option.bind_eq_some_iff, Option.some.injEq] at H
        obtain ⟨x, _, y, _, rfl⟩ := H
        obtain ⟨h1, h2⟩ := opnR_out (h := h) (n := n) (rm := cn.rm) (ts := cn.rs) (x := y.1)
        exact ⟨rfl, rfl, h1, fun r _ hr => h2 r hr⟩
      | false =>
        rw [h3] at H
        simp only [cond_false] at H
        split at H
        · rename_i r0 hr0
          obtain ⟨_, H⟩ := cond_some.1 H
          simp only [Option.bind_eq_some_iff, Option.some.injEq] at H
          obtain ⟨x, _, y, _, g, _, rfl⟩ := H
          obtain ⟨h1, h2⟩ := opnR_out (h := hset h r0 g) (n := n) (rm := cn.rm) (ts := cn.rs) (x := y.1)
          refine ⟨rfl, rfl, h1, fun r hw hr => ?_⟩
          simp only
          rw [h2 r hr, hget_hset, if_neg]
          rintro rfl
          apply hw
          have hm := wBox_mem hr0
          rw [hc] at hi
          rw [hc]
          cases hcal : c.callee with
          | builtin b => simp [isCall, hcal] at hi
          | _ => simp only [wrI, hcal, hq]; exact hm
        · simp at H
  · exact plain H
end
end Go.Tw
