/- A step of the typed logic of this claim is proved here: what an operation does to the data that slots and memory stand for. -/
import Derived.Test.YtmjacadeccoclaaT18
set_option linter.all false
namespace Go.Tw
open Go Go.RowKit

/-! What an operation's answer hangs on. -/
section
variable {P : Program} {F : List Con} {ρ : Type} {σ σ' : Operand → TV} {h : Heap} {n : Nat}
theorem fm_congr {α β : Type} {f g : α → List β} : ∀ {l : List α}, (∀ x ∈ l, f x = g x) → l.flatMap f = l.flatMap g
  | [], _ => rfl
  | x :: l, H => by simp only [List.flatMap_cons, H x (by simp), fm_congr (l := l) fun y hy => H y (by simp [hy])]
theorem map_ev {xs : List Operand} (hx : ∀ x ∈ xs, σ x = σ' x) : xs.map σ = xs.map σ' := List.map_congr_left hx
theorem fillS_congr {pl : List (Nat × Nat)} : ∀ {z : List TV} {ps : List (Nat × Operand)}, (∀ p ∈ ps, σ p.2 = σ' p.2) → fillS pl σ z ps = fillS pl σ' z ps
  | z, [], _ => rfl
  | z, (i, x) :: ps, H => by
    have e : σ x = σ' x := H (i, x) (by simp)
    simp only [fillS, e]
    split
    · rfl
    · rw [fillS_congr (z := spl z _ (clist (σ' x))) (ps := ps) (fun p hp => H p (by simp [hp]))]
theorem fillE_congr {e : Ty} : ∀ {h : Heap} {f : Bool} {es : List (den e)} {ps : List (Nat × Operand)}, (∀ p ∈ ps, σ p.2 = σ' p.2) → fillE e σ h f es ps = fillE e σ' h f es ps
  | h, f, es, [], _ => rfl
  | h, f, es, (i, x) :: ps, H => by
    have e1 : σ x = σ' x := H (i, x) (by simp)
    simp only [fillE, e1]
    congr 1; funext q; congr 1; funext y
    rw [fillE_congr (ps := ps) (fun p hp => H p (by simp [hp]))]
theorem fillF_congr {e : Ty} : ∀ {es : List (den e)} {ps : List (Nat × Operand)}, (∀ p ∈ ps, σ p.2 = σ' p.2) → fillF e σ es ps = fillF e σ' es ps
  | es, [], _ => rfl
  | es, (i, x) :: ps, H => by
    have e1 : σ x = σ' x := H (i, x) (by simp)
    simp only [fillF, e1]
    congr 1; congr 1; funext y
    rw [fillF_congr (ps := ps) (fun p hp => H p (by simp [hp]))]
theorem parts_mem {ps : Array (Nat × Operand)} (H : ∀ x ∈ (ps.toList.map (·.2)).toArray, σ x = σ' x) : ∀ p ∈ ps.toList, σ p.2 = σ' p.2 := by
  intro p hp
  refine H p.2 ?_
  simp only [List.mem_toArray, List.mem_map]
  exact ⟨p, hp, rfl⟩
theorem omap_ev {x : Option Operand} (H : ∀ y ∈ x.toArray, σ y = σ' y) : x.map σ = x.map σ' := by
  cases x with
  | none => rfl
  | some y => simp at H; simp [H]
theorem ex_congr (op : Op) (H : ∀ x ∈ op.operands, σ x = σ' x) : ex P op σ h n = ex P op σ' h n := by
  cases op
  all_goals simp only [Op.operands] at H
  case build t ps => simp only [ex, fillS_congr (parts_mem H)]
  case buildSlice t l ps => simp only [ex, fillE_congr (parts_mem H)]
  case makeFunc f a b =>
    simp only [ex]
    rw [map_ev (xs := a.toList) fun x hx => H x (by simp at hx; simp [hx]), map_ev (xs := b.toList) fun x hx => H x (by simp at hx; simp [hx])]
  case slice t x lo hi mx =>
    simp only [ex]
    rw [H x (by simp), omap_ev (x := lo) fun y hy => H y (by simp [hy]), omap_ev (x := hi) fun y hy => H y (by simp [hy]), omap_ev (x := mx) fun y hy => H y (by simp [hy])]
  case call c =>
    simp only [ex]
    split
    · split
      · rename_i x d h1 h2
        have : σ x = σ' x := H x (by simp [Call.operands]; right; simp [← Array.mem_toList_iff, h1])
        rw [this]
      · rfl
    · split
      · rename_i x y t1 t2 r h1 h2
        have e1 : σ x = σ' x := H x (by simp [Call.operands]; right; simp [← Array.mem_toList_iff, h1])
        have e2 : σ y = σ' y := H y (by simp [Call.operands]; right; simp [← Array.mem_toList_iff, h1])
        rw [e1, e2]
      · rfl
    · split
      · rename_i x xs h1
        have e1 : σ x = σ' x := H x (by simp [Call.operands]; right; simp [← Array.mem_toList_iff, h1])
        rw [e1, map_ev (xs := xs) fun y hy => H y (by simp [Call.operands]; right; simp [← Array.mem_toList_iff, h1, hy])]
      · rfl
    · split
      · rename_i x xs h1
        have e1 : σ x = σ' x := H x (by simp [Call.operands]; right; simp [← Array.mem_toList_iff, h1])
        rw [e1, map_ev (xs := xs) fun y hy => H y (by simp [Call.operands]; right; simp [← Array.mem_toList_iff, h1, hy])]
      · rfl
    · split
      · rename_i x d h1 h2
        have : σ x = σ' x := H x (by simp [Call.operands]; right; simp [← Array.mem_toList_iff, h1])
        rw [this]
      · rfl
    · rfl
  all_goals first
    | rfl
    | (simp only [ex]; simp at H; simp only [H]; done)
    | (simp at H; simp [ex, H]; done)
    | skip
theorem calleeOf_congr {c : Call} (H : ∀ x ∈ c.operands, σ x = σ' x) : calleeOf σ c = calleeOf σ' c := by
  unfold calleeOf
  split
  · rename_i x hx
    have e1 : σ x = σ' x := H x (by simp [Call.operands, hx])
    rw [e1, map_ev (xs := c.args.toList) fun y hy => H y (by simp at hy; simp [Call.operands, hy])]
  · rfl
theorem evV_congr {o : Oper} {K : Ans → Option ρ} (H : ∀ x ∈ o.op.operands, σ x = σ' x) : evV P F o σ h n K = evV P F o σ' h n K := by
  have e := ex_congr (P := P) (h := h) (n := n) o.op H
  unfold evV
  split
  · rename_i c hc
    rw [hc] at H e
    rw [hc, e, calleeOf_congr (by simpa [Op.operands] using H)]
  · rw [e]
theorem alcS_congr {op : Op} (H : ∀ x ∈ op.operands, σ x = σ' x) : alcS P op σ = alcS P op σ' := by
  cases op
  all_goals simp only [Op.operands] at H
  case buildSlice t l ps => simp only [alcS, fillF_congr (parts_mem H)]
  all_goals first
    | rfl
    | (simp at H; simp [alcS, H]; done)
    | skip
theorem rdI_congr {op : Op} (H : ∀ x ∈ op.operands, σ x = σ' x) : rdI op σ = rdI op σ' := by
  cases op
  all_goals simp only [Op.operands] at H
  case call c =>
    simp only [rdI]
    split
    · exact fm_congr fun y hy => by rw [H y (by simp at hy; simp [Call.operands, hy])]
    · rfl
  all_goals first
    | rfl
    | (simp at H; simp [rdI, H]; done)
    | skip
theorem wrI_congr {op : Op} (H : ∀ x ∈ op.operands, σ x = σ' x) : wrI op σ = wrI op σ' := by
  cases op
  all_goals simp only [Op.operands] at H
  case buildSlice t l ps =>
    simp only [wrI]
    have := parts_mem H
    exact fm_congr fun p hp => by rw [this p hp]
  case call c =>
    simp only [wrI]
    split
    · exact fm_congr fun y hy => by rw [H y (by simp at hy; simp [Call.operands, hy])]
    · rfl
    · rw [calleeOf_congr H]
  all_goals first
    | rfl
    | (simp at H; simp [wrI, H]; done)
    | skip
theorem evV_some {o : Oper} {K : Ans → Option ρ} {r : ρ} (H : evV P F o σ h n K = some r) : ∃ A, evV P F o σ h n some = some A ∧ K A = some r := by
  unfold evV at H ⊢
  split at H
  · rename_i c hc
    cases hi : isCall o.op with
    | true =>
      rw [hi] at H
      simp only [cond_true, Option.bind_eq_some_iff] at H ⊢
      obtain ⟨q, h1, cn, h2, H⟩ := H
      cases h3 : (cn.ps.all (fun x => !x.2) && (cn.rm.isOwnF || flatA q.2)) with
      | true =>
        rw [h3] at H
        simp only [cond_true, Option.bind_eq_some_iff] at H
        obtain ⟨x, h4, y, h5, H⟩ := H
        refine ⟨_, ⟨q, h1, cn, h2, ?_⟩, H⟩
        rw [h3]
        simp only [cond_true, Option.bind_eq_some_iff]
        exact ⟨x, h4, y, h5, rfl⟩
      | false =>
        rw [h3] at H
        simp only [cond_false] at H
        split at H
        · rename_i r0 hr0
          obtain ⟨h6, H⟩ := cond_some.1 H
          simp only [Option.bind_eq_some_iff] at H
          obtain ⟨x, h4, y, h5, g, h7, H⟩ := H
          refine ⟨_, ⟨q, h1, cn, h2, ?_⟩, H⟩
          rw [h3]
          simp only [cond_false, hr0]
          rw [h6]
          simp only [cond_true, Option.bind_eq_some_iff]
          exact ⟨x, h4, y, h5, g, h7, rfl⟩
        · simp at H
    | false =>
      rw [hi] at H
      simp only [cond_false, Option.bind_eq_some_iff] at H ⊢
      obtain ⟨A, h1, H⟩ := H
      obtain ⟨h2, H⟩ := cond_some.1 H
      exact ⟨A, ⟨A, h1, cond_some.2 ⟨h2, rfl⟩⟩, H⟩
  · simp only [Option.bind_eq_some_iff] at H ⊢
    obtain ⟨A, h1, H⟩ := H
    obtain ⟨h2, H⟩ := cond_some.1 H
    exact ⟨A, ⟨A, h1, cond_some.2 ⟨h2, rfl⟩⟩, H⟩

/-- An operation that reads memory gives the same where that memory is the same. -/
theorem frzC_agree {h h' : Heap} {x : TV} (H : ∀ r ∈ refT x, hget h' r = hget h r) : frzC h' x = frzC h x := by
  cases x <;> simp_all [frzC, refT]
theorem HI {op : Op} {A : Ans} {h' : Heap} {n' : Nat} (hs : stillB op = true) (H : ex P op σ h n = some A) (hr : ∀ r ∈ rdI op σ, hget h' r = hget h r) : A.h = h ∧ A.n = n ∧ A.k = none ∧ ex P op σ h' n' = some { A with h := h', n := n' } := by
  cases op <;> simp only [stillB] at hs <;> first | (simp at hs; done) | skip
  case move x => simp only [ex, Option.some.injEq] at H ⊢; subst H; exact ⟨rfl, rfl, rfl, rfl⟩
  case assign x => simp only [ex, Option.some.injEq] at H ⊢; subst H; exact ⟨rfl, rfl, rfl, rfl⟩
  case pick a b c => simp only [ex] at H ⊢; split at H <;> first | (simp at H; done) | (simp only [Option.some.injEq] at H; subst H; exact ⟨rfl, rfl, rfl, rfl⟩)
  case build t ps =>
    simp only [ex, Option.bind_eq_some_iff, Option.map_eq_some_iff] at H ⊢
    obtain ⟨z, h1, pl, h2, cs, h3, rfl⟩ := H
    exact ⟨rfl, rfl, rfl, z, h1, pl, h2, cs, h3, rfl⟩
  case load t x =>
    simp only [ex, rdI, Option.bind_eq_some_iff] at H hr ⊢
    obtain ⟨av, h1, H⟩ := H
    have key : A.h = h ∧ A.n = n ∧ A.k = none ∧ loadS av (σ x) h' n' = some { A with h := h', n := n' } := by
      unfold loadS at H ⊢
      obtain ⟨hb, H⟩ := cond_some.1 H
      rw [hb, cond_true]
      split at H
      · rename_i hx
        try simp only [hx]
        obtain ⟨hb, H⟩ := cond_some.1 H
        rw [hb, cond_true]
        simp only [Option.some.injEq] at H ⊢
        subst H; exact ⟨rfl, rfl, rfl, rfl⟩
      · rename_i r i off hx
        try simp only [hx]
        rw [hr r (by simp [hx, refT])]
        split at H
        · rename_i hg
          try rw [hg]
          obtain ⟨hb, H⟩ := cond_some.1 H
          simp only [hb, cond_true, Option.some.injEq] at H ⊢
          subst H; exact ⟨rfl, rfl, rfl, rfl⟩
        · rename_i hg
          try rw [hg]
          obtain ⟨hb, H⟩ := cond_some.1 H
          simp only [hb, cond_true, Option.some.injEq] at H ⊢
          subst H; exact ⟨rfl, rfl, rfl, rfl⟩
        · simp at H
      · simp at H
    exact ⟨key.1, key.2.1, key.2.2.1, av, h1, key.2.2.2⟩
  case nilCheck x => simp only [ex] at H ⊢; split at H <;> first | (simp at H; done) | (simp only [Option.some.injEq] at H; subst H; exact ⟨rfl, rfl, rfl, rfl⟩)
  case binOp op t x y t' =>
    simp only [ex] at H ⊢
    unfold binS at H ⊢
    split at H
    · split at H
      all_goals first
        | (simp only [Option.some.injEq] at H; subst H; exact ⟨rfl, rfl, rfl, rfl⟩)
        | (split at H <;> first | (simp at H; done) | (rename_i hk; simp only [Option.some.injEq] at H; subst H; exact ⟨rfl, rfl, rfl, if_pos hk⟩))
    · split at H
      all_goals first
        | (simp at H; done)
        | (simp only [Option.some.injEq] at H; subst H; exact ⟨rfl, rfl, rfl, rfl⟩)
    · cases hg : P.eqGuardType P.depth t with
      | true => simp [hg] at H
      | false =>
        simp only [hg, cond_false] at H ⊢
        split at H
        · split at H
          · simp only [Option.map_eq_some_iff] at H ⊢
            obtain ⟨b, h1, rfl⟩ := H
            exact ⟨rfl, rfl, rfl, b, h1, rfl⟩
          · simp only [Option.map_eq_some_iff] at H ⊢
            obtain ⟨b, h1, rfl⟩ := H
            exact ⟨rfl, rfl, rfl, b, h1, rfl⟩
          · simp at H
        · simp at H
    · split at H
      · simp only [Option.some.injEq] at H; subst H; exact ⟨rfl, rfl, rfl, rfl⟩
      · simp only [Option.some.injEq] at H; subst H; exact ⟨rfl, rfl, rfl, rfl⟩
      · simp at H
  case unOp op t x => simp only [ex] at H ⊢; split at H <;> first | (simp at H; done) | (simp only [Option.some.injEq] at H; subst H; exact ⟨rfl, rfl, rfl, rfl⟩)
  case convert s d x => simp only [ex] at H ⊢; split at H <;> first | (simp at H; done) | (simp only [Option.some.injEq] at H; subst H; exact ⟨rfl, rfl, rfl, rfl⟩)
  case makeInterface t x => simp only [ex] at H ⊢; split at H <;> first | (simp at H; done) | (simp only [Option.some.injEq] at H; subst H; exact ⟨rfl, rfl, rfl, rfl⟩)
  case makeFunc f a b => simp only [ex, Option.some.injEq] at H ⊢; subst H; exact ⟨rfl, rfl, rfl, rfl⟩
  case slice t x lo hi mx =>
    simp only [ex, rdI] at H hr ⊢
    unfold sliceS at H ⊢
    split at H
    · simp only [Option.bind_eq_some_iff] at H ⊢
      obtain ⟨u, h1, H⟩ := H
      split at H
      · simp only [Option.some.injEq] at H; subst H; exact ⟨rfl, rfl, rfl, u, h1, rfl⟩
      · simp at H
    · simp only [Option.bind_eq_some_iff] at H ⊢
      obtain ⟨u, h1, H⟩ := H
      split at H
      · obtain ⟨hb, H⟩ := cond_some.1 H
        simp only [Option.some.injEq] at H; subst H; exact ⟨rfl, rfl, rfl, u, h1, by rw [hb]; rfl⟩
      · simp at H
    · rename_i r l hm hx hl
      rw [hr r (by simp [hx, refT])]
      split at H
      · simp only [Option.bind_eq_some_iff] at H ⊢
        obtain ⟨u, h1, H⟩ := H
        split at H
        · obtain ⟨hb, H⟩ := cond_some.1 H
          simp only [Option.some.injEq] at H; subst H; exact ⟨rfl, rfl, rfl, u, h1, by rw [hb]; rfl⟩
        · simp at H
      · simp at H
    · rename_i r off len l hm hx hl
      rw [hr r (by simp [hx, refT])]
      split at H
      · simp only [Option.bind_eq_some_iff] at H ⊢
        obtain ⟨u, h1, H⟩ := H
        split at H
        · obtain ⟨hb, H⟩ := cond_some.1 H
          simp only [Option.some.injEq] at H; subst H; exact ⟨rfl, rfl, rfl, u, h1, by rw [hb]; rfl⟩
        · simp at H
      · simp at H
    · simp only [Option.bind_eq_some_iff] at H ⊢
      obtain ⟨u, h1, H⟩ := H
      split at H
      · simp only [Option.some.injEq] at H; subst H; exact ⟨rfl, rfl, rfl, u, h1, rfl⟩
      · simp at H
    · simp at H
  case fieldAddr t x f => simp only [ex] at H ⊢; split at H <;> first | (simp at H; done) | (simp only [Option.some.injEq] at H; subst H; exact ⟨rfl, rfl, rfl, rfl⟩)
  case indexAddr t x i =>
    simp only [ex, rdI] at H hr ⊢
    unfold indexAddrS at H ⊢
    split at H
    · split at H
      · obtain ⟨hb, H⟩ := cond_some.1 H
        rw [hb, cond_true]
        simp only [Option.some.injEq] at H; subst H; exact ⟨rfl, rfl, rfl, rfl⟩
      · rename_i r hx
        rw [hr r (by simp [hx, refT])]
        split at H
        · obtain ⟨hb, H⟩ := cond_some.1 H
          rw [hb, cond_true]
          simp only [Option.some.injEq] at H; subst H; exact ⟨rfl, rfl, rfl, rfl⟩
        · simp at H
      · rename_i r off len hx
        rw [hr r (by simp [hx, refT])]
        split at H
        · obtain ⟨hb, H⟩ := cond_some.1 H
          rw [hb, cond_true]
          simp only [Option.some.injEq] at H; subst H; exact ⟨rfl, rfl, rfl, rfl⟩
        · simp at H
      · simp at H
    · simp at H
  case index t x i => simp only [ex] at H ⊢; split at H <;> first | (simp at H; done) | (simp only [Option.some.injEq] at H; subst H; exact ⟨rfl, rfl, rfl, rfl⟩)
  case extract x i =>
    simp only [ex] at H ⊢
    split at H
    · obtain ⟨hb, H⟩ := cond_some.1 H
      rw [hb, cond_true]
      simp only [Option.some.injEq] at H; subst H; exact ⟨rfl, rfl, rfl, rfl⟩
    · simp at H
  case call c =>
    simp only [ex, rdI] at H hr ⊢
    split at hs
    · rename_i hcl
      simp only [hcl] at H hr ⊢
      split at H
      · rename_i x d h1 h2
        simp only [Option.map_eq_some_iff] at H ⊢
        obtain ⟨m, hm, rfl⟩ := H
        refine ⟨rfl, rfl, rfl, m, ?_, rfl⟩
        have hf : frzC h' (σ x) = frzC h (σ x) := frzC_agree fun r hr' => hr r (by simp only [List.mem_flatMap]; exact ⟨x, by rw [h1]; simp, hr'⟩)
        unfold lenS at hm ⊢
        split at hm
        · exact hm
        · rw [hf]; exact hm
        · rename_i e f r hq
          rw [hr r (by simp only [List.mem_flatMap]; exact ⟨x, by rw [h1]; simp, by rw [hq]; simp [refT]⟩)]
          exact hm
        · simp at hm
      · simp at H
    · rename_i hcl
      simp only [hcl] at H ⊢
      split at H
      · obtain ⟨hb, H⟩ := cond_some.1 H
        simp only [Option.map_eq_some_iff] at H
        obtain ⟨v, hv, rfl⟩ := H
        exact ⟨rfl, rfl, rfl, by rw [hb, hv]; rfl⟩
      · simp at H
    · rename_i hcl
      simp only [hcl] at H ⊢
      split at H
      · obtain ⟨hb, H⟩ := cond_some.1 H
        simp only [Option.map_eq_some_iff] at H
        obtain ⟨v, hv, rfl⟩ := H
        exact ⟨rfl, rfl, rfl, by rw [hb, hv]; rfl⟩
      · simp at H
    · rename_i hcl
      simp only [hcl] at H ⊢
      split at H
      · split at H
        · simp only [Option.some.injEq] at H; subst H; exact ⟨rfl, rfl, rfl, rfl⟩
        · simp at H
      · simp at H
    · simp at hs
  case field t x f =>
    simp only [ex, Option.map_eq_some_iff] at H ⊢
    obtain ⟨v, hv, rfl⟩ := H
    exact ⟨rfl, rfl, rfl, v, hv, rfl⟩
end
end Go.Tw
