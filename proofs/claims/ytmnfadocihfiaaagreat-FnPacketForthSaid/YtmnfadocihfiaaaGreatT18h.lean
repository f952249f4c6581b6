/- The logic: a step. -/
import Derived.Test.YtmnfadocihfiaaaGreatT18
set_option linter.all false
namespace Go.Tw
open Go Go.RowKit
variable [Grd]
section
variable {P : Program} {F : List Con} {ρ : Type} {σ σ' : Operand → TV} {h : Heap} {n : Nat}
theorem fm_congr {α β : Type} {f g : α → List β} : ∀ {l : List α}, (∀ x ∈ l, f x = g x) → l.flatMap f = l.flatMap g
  | [], _ => rfl
  | x :: l, H => by simp only [List.flatMap_cons, H x (by simp), fm_congr (l := l) fun y hy => H y (by simp [hy])]
theorem map_ev {xs : List Operand} (hx : ∀ x ∈ xs, σ x = σ' x) : xs.map σ = xs.map σ' := List.map_congr_left hx
theorem fillS_congr {pl : List (Nat × Nat)} : ∀ {z : List TV} {ps : List (Nat × Operand)}, (∀ p ∈ ps, σ p.2 = σ' p.2) → fillS pl σ z ps = fillS pl σ' z ps
  | z, [], _ => rfl
  | z, (i, x) :: ps, H => by
    have e : σ x = σ' x := H (i, x) (by simp)
    simp only [fillS, e]
    split
    · rfl
    · rw [fillS_congr (z := spl z _ (clist (σ' x))) (ps := ps) (fun p hp => H p (by simp [hp]))]
theorem fillE_congr {e : Ty} : ∀ {h : Heap} {f : Bool} {es : List (den e)} {ps : List (Nat × Operand)}, (∀ p ∈ ps, σ p.2 = σ' p.2) → fillE e σ h f es ps = fillE e σ' h f es ps
  | h, f, es, [], _ => rfl
  | h, f, es, (i, x) :: ps, H => by
    have e1 : σ x = σ' x := H (i, x) (by simp)
    simp only [fillE, e1]
    congr 1; funext q; congr 1; funext y
    rw [fillE_congr (ps := ps) (fun p hp => H p (by simp [hp]))]
theorem fillF_congr {e : Ty} : ∀ {es : List (den e)} {ps : List (Nat × Operand)}, (∀ p ∈ ps, σ p.2 = σ' p.2) → fillF e σ es ps = fillF e σ' es ps
  | es, [], _ => rfl
  | es, (i, x) :: ps, H => by
    have e1 : σ x = σ' x := H (i, x) (by simp)
    simp only [fillF, e1]
    congr 1; congr 1; funext y
    rw [fillF_congr (ps := ps) (fun p hp => H p (by simp [hp]))]
theorem parts_mem {ps : Array (Nat × Operand)} (H : ∀ x ∈ (ps.toList.map (·.2)).toArray, σ x = σ' x) : ∀ p ∈ ps.toList, σ p.2 = σ' p.2 := by
  intro p hp
  refine H p.2 ?_
  simp only [List.mem_toArray, List.mem_map]
  exact ⟨p, hp, rfl⟩
theorem omap_ev {x : Option Operand} (H : ∀ y ∈ x.toArray, σ y = σ' y) : x.map σ = x.map σ' := by
  cases x with
  | none => rfl
  | some y => simp at H; simp [H]
theorem ex_congr (op : Op) (H : ∀ x ∈ op.operands, σ x = σ' x) : ex P op σ h n = ex P op σ' h n := by
  cases op
  all_goals simp only [Op.operands] at H
  case build t ps => simp only [ex, fillS_congr (parts_mem H)]
  case buildSlice t l ps => simp only [ex, fillE_congr (parts_mem H)]
  case makeFunc f a b =>
    simp only [ex]
    rw [map_ev (xs := a.toList) fun x hx => H x (by simp at hx; simp [hx]), map_ev (xs := b.toList) fun x hx => H x (by simp at hx; simp [hx])]
  case slice t x lo hi mx =>
    simp only [ex]
    rw [H x (by simp), omap_ev (x := lo) fun y hy => H y (by simp [hy]), omap_ev (x := hi) fun y hy => H y (by simp [hy]), omap_ev (x := mx) fun y hy => H y (by simp [hy])]
  case call c =>
    simp only [ex]
    split
    · split
      · rename_i x d h1 h2
        have : σ x = σ' x := H x (by simp [Call.operands]; right; simp [← Array.mem_toList_iff, h1])
        rw [this]
      · rfl
    · split
      · rename_i x y t1 t2 r h1 h2
        have e1 : σ x = σ' x := H x (by simp [Call.operands]; right; simp [← Array.mem_toList_iff, h1])
        have e2 : σ y = σ' y := H y (by simp [Call.operands]; right; simp [← Array.mem_toList_iff, h1])
        rw [e1, e2]
      · rfl
    · split
      · rename_i x xs h1
        have e1 : σ x = σ' x := H x (by simp [Call.operands]; right; simp [← Array.mem_toList_iff, h1])
        rw [e1, map_ev (xs := xs) fun y hy => H y (by simp [Call.operands]; right; simp [← Array.mem_toList_iff, h1, hy])]
      · rfl
    · split
      · rename_i x xs h1
        have e1 : σ x = σ' x := H x (by simp [Call.operands]; right; simp [← Array.mem_toList_iff, h1])
        rw [e1, map_ev (xs := xs) fun y hy => H y (by simp [Call.operands]; right; simp [← Array.mem_toList_iff, h1, hy])]
      · rfl
    · split
      · rename_i x d h1 h2
        have : σ x = σ' x := H x (by simp [Call.operands]; right; simp [← Array.mem_toList_iff, h1])
        rw [this]
      · rfl
    · rfl
  all_goals first
    | rfl
    | (simp only [ex]; simp at H; simp only [H]; done)
    | (simp at H; simp [ex, H]; done)
    | skip
theorem calleeOf_congr {c : Call} (H : ∀ x ∈ c.operands, σ x = σ' x) : calleeOf σ c = calleeOf σ' c := by
  unfold calleeOf
  split
  · rename_i x hx
    have e1 : σ x = σ' x := H x (by simp [Call.operands, hx])
    rw [e1, map_ev (xs := c.args.toList) fun y hy => H y (by simp at hy; simp [Call.operands, hy])]
  · rfl
theorem evV_congr {o : Oper} {K : Ans → Option ρ} (H : ∀ x ∈ o.op.operands, σ x = σ' x) : evV P F o σ h n K = evV P F o σ' h n K := by
  have e := ex_congr (P := P) (h := h) (n := n) o.op H
  unfold evV
  split
  · rename_i c hc
    rw [hc] at H e
    rw [hc, e, calleeOf_congr (by simpa [Op.operands] using H)]
  · rw [e]
theorem alcS_congr {op : Op} (H : ∀ x ∈ op.operands, σ x = σ' x) : alcS P op σ = alcS P op σ' := by
  cases op
  all_goals simp only [Op.operands] at H
  case buildSlice t l ps => simp only [alcS, fillF_congr (parts_mem H)]
  case makeMap t r => cases r <;> rfl
  all_goals first
    | rfl
    | (simp at H; simp [alcS, H]; done)
    | skip
theorem rdI_congr {op : Op} (H : ∀ x ∈ op.operands, σ x = σ' x) : rdI op σ = rdI op σ' := by
  cases op
  all_goals simp only [Op.operands] at H
  case call c =>
    simp only [rdI]
    split
    · exact fm_congr fun y hy => by rw [H y (by simp at hy; simp [Call.operands, hy])]
    · rfl
  all_goals first
    | rfl
    | (simp at H; simp [rdI, H]; done)
    | skip
theorem wrI_congr {op : Op} (H : ∀ x ∈ op.operands, σ x = σ' x) : wrI op σ = wrI op σ' := by
  cases op
  all_goals simp only [Op.operands] at H
  case buildSlice t l ps =>
    simp only [wrI]
    have := parts_mem H
    exact fm_congr fun p hp => by rw [this p hp]
  case call c =>
    simp only [wrI]
    split
    · exact fm_congr fun y hy => by rw [H y (by simp at hy; simp [Call.operands, hy])]
    · rfl
  all_goals first
    | rfl
    | (simp at H; simp [wrI, H]; done)
    | skip
theorem wrC_congr {op : Op} (H : ∀ x ∈ op.operands, σ x = σ' x) : wrC F op σ = wrC F op σ' := by
  unfold wrC
  split
  · rw [calleeOf_congr (by simpa [Op.operands] using H)]
  · rfl
theorem evV_some {o : Oper} {K : Ans → Option ρ} {r : ρ} (H : evV P F o σ h n K = some r) : ∃ A, evV P F o σ h n some = some A ∧ K A = some r := by
  unfold evV at H ⊢
  split at H
  · rename_i c hc
    cases hi : isCall o.op with
    | true =>
      rw [hi] at H
      simp only [cond_true, Option.bind_eq_some_iff] at H ⊢
      obtain ⟨q, h1, cn, h2, H⟩ := H
      cases h3 : (cn.ps.all (fun x => !x.2) && (cn.rm.isOwnF || flatA q.2)) with
      | true =>
        rw [h3] at H
        simp only [cond_true, Option.bind_eq_some_iff] at H
        obtain ⟨x, h4, y, h5, H⟩ := H
        refine ⟨_, ⟨q, h1, cn, h2, ?_⟩, H⟩
        rw [h3]
        simp only [cond_true, Option.bind_eq_some_iff]
        exact ⟨x, h4, y, h5, rfl⟩
      | false =>
        rw [h3] at H
        simp only [cond_false] at H
        split at H
        · rename_i r0 hr0
          obtain ⟨h6, H⟩ := cond_some.1 H
          simp only [Option.bind_eq_some_iff] at H
          obtain ⟨x, h4, y, h5, g, h7, H⟩ := H
          refine ⟨_, ⟨q, h1, cn, h2, ?_⟩, H⟩
          rw [h3]
          simp only [cond_false, hr0]
          rw [h6]
          simp only [cond_true, Option.bind_eq_some_iff]
          exact ⟨x, h4, y, h5, g, h7, rfl⟩
        · rename_i hr0
          cases h4 : cn.ps.all (fun x => !x.2) with
          | true => rw [h4] at H; simp at H
          | false =>
          rw [h4] at H
          simp only [cond_false] at H
          cases h5 : cn.rm.isMv with
          | true =>
            rw [h5] at H
            simp only [cond_true, Option.bind_eq_some_iff] at H
            obtain ⟨r0, h6, H⟩ := H
            obtain ⟨h7, H⟩ := cond_some.1 H
            simp only [Option.bind_eq_some_iff] at H
            obtain ⟨x, h8, y, h9, H⟩ := H
            refine ⟨_, ⟨q, h1, cn, h2, ?_⟩, H⟩
            rw [h3]
            simp only [cond_false, hr0, h4, h5, cond_true, Option.bind_eq_some_iff]
            refine ⟨r0, h6, ?_⟩
            rw [h7]
            simp only [cond_true, Option.bind_eq_some_iff]
            exact ⟨x, h8, y, h9, rfl⟩
          | false =>
            rw [h5] at H
            simp only [cond_false] at H
            obtain ⟨h5b, H⟩ := cond_some.1 H
            simp only [Option.bind_eq_some_iff] at H
            obtain ⟨r0, h6, H⟩ := H
            obtain ⟨h7, H⟩ := cond_some.1 H
            simp only [Option.bind_eq_some_iff] at H
            obtain ⟨x, h8, y, h9, g, h10, H⟩ := H
            refine ⟨_, ⟨q, h1, cn, h2, ?_⟩, H⟩
            rw [h3]
            simp only [cond_false, hr0, h4, h5, h5b, cond_true, Option.bind_eq_some_iff]
            refine ⟨r0, h6, ?_⟩
            rw [h7]
            simp only [cond_true, Option.bind_eq_some_iff]
            exact ⟨x, h8, y, h9, g, h10, rfl⟩
    | false =>
      rw [hi] at H
      simp only [cond_false, Option.bind_eq_some_iff] at H ⊢
      obtain ⟨A, h1, H⟩ := H
      obtain ⟨h2, H⟩ := cond_some.1 H
      exact ⟨A, ⟨A, h1, cond_some.2 ⟨h2, rfl⟩⟩, H⟩
  · simp only [Option.bind_eq_some_iff] at H ⊢
    obtain ⟨A, h1, H⟩ := H
    obtain ⟨h2, H⟩ := cond_some.1 H
    exact ⟨A, ⟨A, h1, cond_some.2 ⟨h2, rfl⟩⟩, H⟩
theorem frzC_agree {h h' : Heap} {x : TV} (H : ∀ r ∈ refT x, hget h' r = hget h r) : frzC h' x = frzC h x := by
  cases x <;> simp_all [frzC, refT]
theorem elemsS_agree {t : Ty} {x : TV} {h h' : Heap} (hr : ∀ r ∈ refT x, hget h' r = hget h r) : (elemsS t x h').map (·.1) = (elemsS t x h).map (·.1) := by
  cases x with
  | full r =>
    have : hget h' r = hget h r := hr r (by simp [refT])
    simp only [elemsS, this]
    split
    · rename_i fr t' l _
      cases cast t' t l <;> rfl
    · rfl
  | sub r off len =>
    have : hget h' r = hget h r := hr r (by simp [refT])
    simp only [elemsS, this]
    split
    · rename_i fr t' l _
      cases cast t' t l <;> rfl
    · rfl
  | tr t' l =>
    simp only [elemsS]
    cases cast t' t l <;> rfl
  | p v =>
    unfold elemsS
    split <;> first | rfl | (rename_i e; cases e; done) | skip
    all_goals (try (split <;> rfl))
  | _ => rfl
theorem bytC_agree {P : Program} {s d : TypeId} {x : TV} {h h' : Heap} {n n' : Nat} {A : Ans} (hr : ∀ r ∈ refT x, hget h' r = hget h r) (H : bytC P s d x h n = some A) : A.h = h ∧ A.n = n ∧ A.k = none ∧ bytC P s d x h' n' = some { A with h := h', n := n' } := by
  unfold bytC at H ⊢
  split at H
  · rename_i e h1 h2
    split at H
    · rename_i h3
      have e := elemsS_agree (t := .int .u8) hr
      cases hst : isStr x with
      | true => rw [hst] at H; cases H
      | false =>
        rw [hst] at H
        simp only [cond_false, Option.map_eq_some_iff] at H
        obtain ⟨q, hq, rfl⟩ := H
        rw [hq] at e
        simp only [Option.map_some, Option.map_eq_some_iff] at e
        obtain ⟨q', hq', e⟩ := e
        refine ⟨rfl, rfl, rfl, ?_⟩
        simp only [cond_false, hq', Option.map_some, e]
    · simp at H
  · simp at H
theorem HI {op : Op} {A : Ans} {h' : Heap} {n' : Nat} (hs : stillB op = true) (H : ex P op σ h n = some A) (hr : ∀ r ∈ rdI op σ, hget h' r = hget h r) : A.h = h ∧ A.n = n ∧ A.k = none ∧ ex P op σ h' n' = some { A with h := h', n := n' } := by
  cases op <;> simp only [stillB] at hs <;> first | (simp at hs; done) | skip
  case move x => simp only [ex, Option.some.injEq] at H ⊢; subst H; exact ⟨rfl, rfl, rfl, rfl⟩
  case assign x => simp only [ex, Option.some.injEq] at H ⊢; subst H; exact ⟨rfl, rfl, rfl, rfl⟩
  case pick a b c => simp only [ex] at H ⊢; split at H <;> first | (simp at H; done) | (simp only [Option.some.injEq] at H; subst H; exact ⟨rfl, rfl, rfl, rfl⟩)
  case build t ps =>
    simp only [ex, Option.bind_eq_some_iff, Option.map_eq_some_iff] at H ⊢
    obtain ⟨z, h1, pl, h2, cs, h3, rfl⟩ := H
    exact ⟨rfl, rfl, rfl, z, h1, pl, h2, cs, h3, rfl⟩
  case load t x =>
    simp only [ex, rdI, Option.bind_eq_some_iff] at H hr ⊢
    obtain ⟨av, h1, H⟩ := H
    have key : A.h = h ∧ A.n = n ∧ A.k = none ∧ loadS av (σ x) h' n' = some { A with h := h', n := n' } := by
      unfold loadS at H ⊢
      obtain ⟨hb, H⟩ := cond_some.1 H
      rw [hb, cond_true]
      split at H
      · rename_i hx
        try simp only [hx]
        obtain ⟨hb, H⟩ := cond_some.1 H
        rw [hb, cond_true]
        simp only [Option.some.injEq] at H ⊢
        subst H; exact ⟨rfl, rfl, rfl, rfl⟩
      · rename_i r i off hx
        try simp only [hx]
        rw [hr r (by simp [hx, refT])]
        split at H
        · rename_i hg
          try rw [hg]
          obtain ⟨hb, H⟩ := cond_some.1 H
          simp only [hb, cond_true, Option.some.injEq] at H ⊢
          subst H; exact ⟨rfl, rfl, rfl, rfl⟩
        · rename_i hg
          try rw [hg]
          obtain ⟨hb, H⟩ := cond_some.1 H
          simp only [hb, cond_true, Option.some.injEq] at H ⊢
          subst H; exact ⟨rfl, rfl, rfl, rfl⟩
        · simp at H
      · simp at H
    exact ⟨key.1, key.2.1, key.2.2.1, av, h1, key.2.2.2⟩
  case nilCheck x => simp only [ex] at H ⊢; split at H <;> first | (simp at H; done) | (simp only [Option.some.injEq] at H; subst H; exact ⟨rfl, rfl, rfl, rfl⟩)
  case binOp op t x y t' =>
    simp only [ex] at H ⊢
    unfold binS at H ⊢
    split at H
    · split at H
      all_goals first
        | (simp only [Option.some.injEq] at H; subst H; exact ⟨rfl, rfl, rfl, rfl⟩)
        | (split at H <;> first | (simp at H; done) | (rename_i hk; simp only [Option.some.injEq] at H; subst H; exact ⟨rfl, rfl, rfl, if_pos hk⟩))
    · split at H
      all_goals first
        | (simp at H; done)
        | (simp only [Option.some.injEq] at H; subst H; exact ⟨rfl, rfl, rfl, rfl⟩)
    · cases hg : P.eqGuardType P.depth t with
      | true => simp [hg] at H
      | false =>
        simp only [hg, cond_false] at H ⊢
        split at H
        · split at H
          · simp only [Option.map_eq_some_iff] at H ⊢
            obtain ⟨b, h1, rfl⟩ := H
            exact ⟨rfl, rfl, rfl, b, h1, rfl⟩
          · simp only [Option.map_eq_some_iff] at H ⊢
            obtain ⟨b, h1, rfl⟩ := H
            exact ⟨rfl, rfl, rfl, b, h1, rfl⟩
          · simp at H
        · simp at H
    · split at H
      · simp only [Option.some.injEq] at H; subst H; exact ⟨rfl, rfl, rfl, rfl⟩
      · simp only [Option.some.injEq] at H; subst H; exact ⟨rfl, rfl, rfl, rfl⟩
      · simp at H
  case unOp op t x => simp only [ex] at H ⊢; split at H <;> first | (simp at H; done) | (simp only [Option.some.injEq] at H; subst H; exact ⟨rfl, rfl, rfl, rfl⟩)
  case convert s d x =>
    simp only [ex, rdI] at H hr ⊢
    split at H
    · simp only [Option.some.injEq] at H; subst H; exact ⟨rfl, rfl, rfl, rfl⟩
    · simp only [Option.some.injEq] at H; subst H; exact ⟨rfl, rfl, rfl, rfl⟩
    · exact bytC_agree hr H
  case makeInterface t x => simp only [ex] at H ⊢; split at H <;> first | (simp at H; done) | (simp only [Option.some.injEq] at H; subst H; exact ⟨rfl, rfl, rfl, rfl⟩)
  case makeFunc f a b => simp only [ex, Option.some.injEq] at H ⊢; subst H; exact ⟨rfl, rfl, rfl, rfl⟩
  case slice t x lo hi mx =>
    simp only [ex, rdI] at H hr ⊢
    unfold sliceS at H ⊢
    split at H
    · simp only [Option.bind_eq_some_iff] at H ⊢
      obtain ⟨u, h1, H⟩ := H
      split at H
      · simp only [Option.some.injEq] at H; subst H; exact ⟨rfl, rfl, rfl, u, h1, rfl⟩
      · simp at H
    · simp only [Option.bind_eq_some_iff] at H ⊢
      obtain ⟨u, h1, H⟩ := H
      split at H
      · obtain ⟨hb, H⟩ := cond_some.1 H
        simp only [Option.some.injEq] at H; subst H; exact ⟨rfl, rfl, rfl, u, h1, by rw [hb]; rfl⟩
      · simp at H
    · rename_i r l hm hx hl
      rw [hr r (by simp [hx, refT])]
      split at H
      · simp only [Option.bind_eq_some_iff] at H ⊢
        obtain ⟨u, h1, H⟩ := H
        split at H
        · obtain ⟨hb, H⟩ := cond_some.1 H
          simp only [Option.some.injEq] at H; subst H; exact ⟨rfl, rfl, rfl, u, h1, by rw [hb]; rfl⟩
        · simp at H
      · simp at H
    · rename_i r off len l hm hx hl
      rw [hr r (by simp [hx, refT])]
      split at H
      · simp only [Option.bind_eq_some_iff] at H ⊢
        obtain ⟨u, h1, H⟩ := H
        split at H
        · obtain ⟨hb, H⟩ := cond_some.1 H
          simp only [Option.some.injEq] at H; subst H; exact ⟨rfl, rfl, rfl, u, h1, by rw [hb]; rfl⟩
        · simp at H
      · simp at H
    · simp only [Option.bind_eq_some_iff] at H ⊢
      obtain ⟨u, h1, H⟩ := H
      split at H
      · simp only [Option.some.injEq] at H; subst H; exact ⟨rfl, rfl, rfl, u, h1, rfl⟩
      · simp at H
    · simp at H
  case fieldAddr t x f => simp only [ex] at H ⊢; split at H <;> first | (simp at H; done) | (simp only [Option.some.injEq] at H; subst H; exact ⟨rfl, rfl, rfl, rfl⟩)
  case indexAddr t x i =>
    simp only [ex, rdI] at H hr ⊢
    unfold indexAddrS at H ⊢
    split at H
    · split at H
      · obtain ⟨hb, H⟩ := cond_some.1 H
        rw [hb, cond_true]
        simp only [Option.some.injEq] at H; subst H; exact ⟨rfl, rfl, rfl, rfl⟩
      · rename_i r hx
        rw [hr r (by simp [hx, refT])]
        split at H
        · obtain ⟨hb, H⟩ := cond_some.1 H
          rw [hb, cond_true]
          simp only [Option.some.injEq] at H; subst H; exact ⟨rfl, rfl, rfl, rfl⟩
        · simp at H
      · rename_i r off len hx
        rw [hr r (by simp [hx, refT])]
        split at H
        · obtain ⟨hb, H⟩ := cond_some.1 H
          rw [hb, cond_true]
          simp only [Option.some.injEq] at H; subst H; exact ⟨rfl, rfl, rfl, rfl⟩
        · simp at H
      · simp at H
    · simp at H
  case index t x i => simp only [ex] at H ⊢; split at H <;> first | (simp at H; done) | (simp only [Option.some.injEq] at H; subst H; exact ⟨rfl, rfl, rfl, rfl⟩)
  case extract x i =>
    simp only [ex] at H ⊢
    split at H
    · obtain ⟨hb, H⟩ := cond_some.1 H
      rw [hb, cond_true]
      simp only [Option.some.injEq] at H; subst H; exact ⟨rfl, rfl, rfl, rfl⟩
    · simp at H
  case call c =>
    simp only [ex, rdI] at H hr ⊢
    split at hs
    · rename_i hcl
      simp only [hcl] at H hr ⊢
      split at H
      · rename_i x d h1 h2
        simp only [Option.map_eq_some_iff] at H ⊢
        obtain ⟨m, hm, rfl⟩ := H
        refine ⟨rfl, rfl, rfl, m, ?_, rfl⟩
        have hf : frzC h' (σ x) = frzC h (σ x) := frzC_agree fun r hr' => hr r (by simp only [List.mem_flatMap]; exact ⟨x, by rw [h1]; simp, hr'⟩)
        unfold lenS at hm ⊢
        split at hm
        · exact hm
        · rw [hf]; exact hm
        · rename_i e f r hq
          rw [hr r (by simp only [List.mem_flatMap]; exact ⟨x, by rw [h1]; simp, by rw [hq]; simp [refT]⟩)]
          exact hm
        · simp at hm
      · simp at H
    · rename_i hcl
      simp only [hcl] at H ⊢
      split at H
      · obtain ⟨hb, H⟩ := cond_some.1 H
        simp only [Option.map_eq_some_iff] at H
        obtain ⟨v, hv, rfl⟩ := H
        exact ⟨rfl, rfl, rfl, by rw [hb, hv]; rfl⟩
      · simp at H
    · rename_i hcl
      simp only [hcl] at H ⊢
      split at H
      · obtain ⟨hb, H⟩ := cond_some.1 H
        simp only [Option.map_eq_some_iff] at H
        obtain ⟨v, hv, rfl⟩ := H
        exact ⟨rfl, rfl, rfl, by rw [hb, hv]; rfl⟩
      · simp at H
    · rename_i hcl
      simp only [hcl] at H ⊢
      split at H
      · split at H
        · simp only [Option.some.injEq] at H; subst H; exact ⟨rfl, rfl, rfl, rfl⟩
        · simp at H
      · simp at H
    · simp at hs
  case field t x f =>
    simp only [ex, Option.map_eq_some_iff] at H ⊢
    obtain ⟨v, hv, rfl⟩ := H
    exact ⟨rfl, rfl, rfl, v, hv, rfl⟩
end
end Go.Tw
namespace Go.Tw
open Go Go.RowKit
variable [Grd]
section
variable {P : Program} {F : List Con} {ρ : Type} {σ σ' : Operand → TV} {h h' : Heap} {n : Nat}
theorem absL_pB : ∀ {cs : List TV} {h : Heap}, pB cs = true → absL h cs = some (cs, true, h)
  | [], h, _ => rfl
  | .p v :: cs, h, hp => by simp only [absL, absC, Option.bind_some]; rw [absL_pB (cs := cs) (by simpa [pB] using hp)]; rfl
theorem fillE_F {e : Ty} : ∀ {ps : List (Nat × Operand)} {es es' : List (den e)} {h : Heap}, fillF e σ es ps = some es' → fillE e σ h true es ps = some (h, true, es')
  | [], es, es', h, H => by simp only [fillF, Option.some.injEq] at H; subst H; rfl
  | (i, x) :: ps, es, es', h, H => by
    simp only [fillF] at H
    obtain ⟨hb, H⟩ := cond_some.1 H
    simp only [Bool.and_eq_true] at hb
    simp only [Option.bind_eq_some_iff] at H
    obtain ⟨y, h1, H⟩ := H
    simp only [fillE, absL_pB hb.1.1, Option.bind_some, h1, hb.1.2, hb.2, Bool.and_self, cond_true]
    exact fillE_F H
theorem alc_ex {op : Op} {reg : Reg} {c : Bool} (H : alcS P op σ = some (reg, c)) : ex P op σ h n = some { v := ptrOf reg n, h := (n, reg) :: h, n := n + 1, c := c } := by
  cases op <;> simp only [alcS] at H <;> first | (simp at H; done) | skip
  case alloc t =>
    simp only [ex, Option.bind_eq_some_iff] at H ⊢
    obtain ⟨z, h1, H⟩ := H
    obtain ⟨hb, H⟩ := cond_some.1 H
    simp only [Option.some.injEq, Prod.mk.injEq] at H
    obtain ⟨rfl, rfl⟩ := H
    exact ⟨z, h1, by rw [hb]; rfl⟩
  case box t x =>
    obtain ⟨hb, H⟩ := cond_some.1 H
    simp only [Option.some.injEq, Prod.mk.injEq] at H
    obtain ⟨rfl, rfl⟩ := H
    simp only [Bool.and_eq_true] at hb
    simp only [ex, hb.1]; rfl
  case buildSlice t l ps =>
    simp only [ex]
    split at H
    · rename_i h1 h2
      try rw [h1, h2]
      obtain ⟨hb, H⟩ := cond_some.1 H
      simp only [Option.bind_eq_some_iff, Option.map_eq_some_iff, Prod.mk.injEq] at H
      obtain ⟨d, h3, es, h4, rfl, rfl⟩ := H
      simp only [hb, cond_true, h3, Option.bind_some, fillE_F (h := h) h4]
      rfl
    · simp at H
  case makeSlice t l k =>
    simp only [ex, makeS]
    split at H
    · rename_i h1 h2 h3 h4
      try rw [h1, h2, h3, h4]
      simp only [Option.bind_eq_some_iff] at H ⊢
      obtain ⟨d, h5, H⟩ := H
      obtain ⟨hb, H⟩ := cond_some.1 H
      simp only [Option.some.injEq, Prod.mk.injEq] at H
      obtain ⟨rfl, rfl⟩ := H
      exact ⟨d, h5, by rw [hb]; rfl⟩
    · simp at H
  case makeMap t r =>
    cases r with
    | some r => simp at H
    | none =>
    simp only [Option.map_eq_some_iff, Prod.mk.injEq] at H
    obtain ⟨q, h1, rfl, rfl⟩ := H
    simp only [ex, h1, Option.bind_some]
    rfl
theorem absC_out {c f : TV} {fr : Bool} {r : Nat} (H : absC h c = some (f, fr, h')) (hr : r ∉ refT c) : hget h' r = hget h r := by
  unfold absC at H
  split at H
  · simp only [Option.some.injEq, Prod.mk.injEq] at H; rw [H.2.2]
  · simp only [Option.some.injEq, Prod.mk.injEq] at H; rw [H.2.2]
  · split at H
    · simp only [Option.some.injEq, Prod.mk.injEq] at H; rw [← H.2.2, hget_hdel, if_neg (by simpa [refT] using hr)]
    · simp at H
  · split at H
    · simp only [Option.some.injEq, Prod.mk.injEq] at H; rw [← H.2.2, hget_hdel, if_neg (by simpa [refT] using hr)]
    · simp at H
  · simp at H
theorem absL_out : ∀ {cs fs : List TV} {fr : Bool} {h h' : Heap} {r : Nat}, absL h cs = some (fs, fr, h') → r ∉ cs.flatMap refT → hget h' r = hget h r
  | [], fs, fr, h, h', r, H, _ => by simp only [absL, Option.some.injEq, Prod.mk.injEq] at H; rw [H.2.2]
  | c :: cs, fs, fr, h, h', r, H, hr => by
    simp only [absL, Option.bind_eq_some_iff, Option.some.injEq, Prod.mk.injEq] at H
    obtain ⟨⟨f1, b1, h1⟩, a1, ⟨f2, b2, h2⟩, a2, _, _, rfl⟩ := H
    simp only [List.flatMap_cons, List.mem_append, not_or] at hr
    rw [absL_out a2 hr.2, absC_out a1 hr.1]
theorem fillE_out {e : Ty} : ∀ {ps : List (Nat × Operand)} {es es' : List (den e)} {f f' : Bool} {h h' : Heap} {r : Nat}, fillE e σ h f es ps = some (h', f', es') → r ∉ ps.flatMap (fun p => refC (σ p.2)) → hget h' r = hget h r
  | [], es, es', f, f', h, h', r, H, _ => by simp only [fillE, Option.some.injEq, Prod.mk.injEq] at H; rw [H.1]
  | (i, x) :: ps, es, es', f, f', h, h', r, H, hr => by
    simp only [fillE, Option.bind_eq_some_iff] at H
    obtain ⟨⟨f1, b1, h1⟩, a1, y, _, H⟩ := H
    obtain ⟨_, H⟩ := cond_some.1 H
    simp only [List.flatMap_cons, List.mem_append, not_or] at hr
    rw [fillE_out H hr.2, absL_out a1 hr.1]
theorem elems_out {t : Ty} {x : TV} {xs : List (den t)} {f : Bool} {r : Nat} (H : elemsS t x h = some (xs, f, h')) (hr : r ∉ refT x) : hget h' r = hget h r := by
  unfold elemsS at H
  split at H
  · simp only [Option.some.injEq, Prod.mk.injEq] at H; rw [H.2.2]
  · simp only [Option.some.injEq, Prod.mk.injEq] at H; rw [H.2.2]
  · simp only [Option.map_eq_some_iff, Prod.mk.injEq] at H; obtain ⟨_, _, _, _, rfl⟩ := H; rfl
  · split at H
    · simp only [Option.map_eq_some_iff, Prod.mk.injEq] at H
      obtain ⟨_, _, _, _, rfl⟩ := H
      cases hasSl t with
      | true => simp only [cond_true]; rw [hget_hdel, if_neg (by simpa [refT] using hr)]
      | false => rfl
    · simp at H
  · split at H
    · simp only [Option.map_eq_some_iff, Prod.mk.injEq] at H
      obtain ⟨_, _, _, _, rfl⟩ := H
      cases hasSl t with
      | true => simp only [cond_true]; rw [hget_hdel, if_neg (by simpa [refT] using hr)]
      | false => rfl
    · simp at H
  · split at H
    · simp only [Option.some.injEq, Prod.mk.injEq] at H; rw [H.2.2]
    · simp at H
  · simp at H
theorem hget_new {reg : Reg} {r : Nat} (hr : r < n ∨ n + 1 ≤ r) : hget ((n, reg) :: h) r = hget h r := by
  simp only [hget]; rw [if_neg (by omega)]
theorem opnC_out {fr : Bool} : ∀ {cs : List TV} {h : Heap} {n : Nat}, n ≤ (opnC fr cs h n).2.2 ∧ ∀ r, (r < n ∨ (opnC fr cs h n).2.2 ≤ r) → hget (opnC fr cs h n).2.1 r = hget h r
  | [], h, n => ⟨Nat.le_refl _, fun _ _ => rfl⟩
  | c :: cs, h, n => by
    cases c
    case tr t l =>
      obtain ⟨h1, h2⟩ := opnC_out (fr := fr) (cs := cs) (h := (n, .row fr t l) :: h) (n := n + 1)
      refine ⟨by simp only [opnC]; omega, fun r hr => ?_⟩
      simp only [opnC] at hr ⊢
      rw [h2 r (by omega), hget_new (by omega)]
    case iptr t l i off =>
      obtain ⟨h1, h2⟩ := opnC_out (fr := fr) (cs := cs) (h := (n, .box (encT t (l.headD (dflt t)))) :: h) (n := n + 1)
      refine ⟨by simp only [opnC]; omega, fun r hr => ?_⟩
      simp only [opnC] at hr ⊢
      rw [h2 r (by omega), hget_new (by omega)]
    all_goals exact opnC_out (fr := fr) (cs := cs) (h := h) (n := n)
theorem opnL_out {fr : Bool} : ∀ {ts : List Ty} {x : den (prodT ts)} {h : Heap} {n : Nat}, n ≤ (opnL fr ts x h n).2.2 ∧ ∀ r, (r < n ∨ (opnL fr ts x h n).2.2 ≤ r) → hget (opnL fr ts x h n).2.1 r = hget h r
  | [], x, h, n => ⟨Nat.le_refl _, fun _ _ => rfl⟩
  | t :: ts, x, h, n => by
    obtain ⟨h1, h2⟩ := opnC_out (fr := fr) (cs := encT t x.1) (h := h) (n := n)
    obtain ⟨h3, h4⟩ := opnL_out (fr := fr) (ts := ts) (x := x.2) (h := (opnC fr (encT t x.1) h n).2.1) (n := (opnC fr (encT t x.1) h n).2.2)
    refine ⟨by simp only [opnL, opnV]; omega, fun r hr => ?_⟩
    simp only [opnL, opnV] at hr ⊢
    rw [h4 r (by omega), h2 r (by omega)]
theorem opnX_out : ∀ {bs : List Bool} {ts : List Ty} {x : den (prodT ts)} {h : Heap} {n : Nat}, n ≤ (opnX bs ts x h n).2.2 ∧ ∀ r, (r < n ∨ (opnX bs ts x h n).2.2 ≤ r) → hget (opnX bs ts x h n).2.1 r = hget h r
  | _, [], x, h, n => ⟨Nat.le_refl _, fun _ _ => rfl⟩
  | bs, t :: ts, x, h, n => by
    cases he : bs.headD true with
    | true =>
      obtain ⟨h1, h2⟩ := opnC_out (fr := true) (cs := encT t x.1) (h := h) (n := n)
      obtain ⟨h3, h4⟩ := opnX_out (bs := bs.tail) (ts := ts) (x := x.2) (h := (opnC true (encT t x.1) h n).2.1) (n := (opnC true (encT t x.1) h n).2.2)
      refine ⟨by simp only [opnX, he, opnV]; omega, fun r hr => ?_⟩
      simp only [opnX, he, opnV] at hr ⊢
      rw [h4 r (by omega), h2 r (by omega)]
    | false =>
      obtain ⟨h3, h4⟩ := opnX_out (bs := bs.tail) (ts := ts) (x := x.2) (h := h) (n := n)
      refine ⟨by simp only [opnX, he]; omega, fun r hr => ?_⟩
      simp only [opnX, he] at hr ⊢
      rw [h4 r hr]
theorem opnR_out {rm : RM} {ts : List Ty} {x : den (prodT ts)} : n ≤ (opnR rm ts x h n).2.2 ∧ ∀ r, (r < n ∨ (opnR rm ts x h n).2.2 ≤ r) → hget (opnR rm ts x h n).2.1 r = hget h r := by
  unfold opnR
  split
  · exact opnL_out
  · exact ⟨Nat.le_refl _, fun _ _ => rfl⟩
  · exact opnL_out
  · exact opnX_out
theorem ex_out {op : Op} {A : Ans} (H : ex P op σ h n = some A) (hk : A.k = none) : n ≤ A.n ∧ ∀ r, r ∉ wrI op σ → (r < n ∨ A.n ≤ r) → hget A.h r = hget h r := by
  cases hs : stillB op with
  | true =>
    obtain ⟨h1, h2, _, _⟩ := HI (h' := h) (n' := n) hs H (fun _ _ => rfl)
    exact ⟨by omega, fun r _ _ => by rw [h1]⟩
  | false =>
    cases ha : alcS P op σ with
    | some q =>
      obtain ⟨reg, c⟩ := q
      rw [alc_ex ha] at H
      simp only [Option.some.injEq] at H; subst H
      exact ⟨by simp, fun r _ hr => hget_new hr⟩
    | none =>
      cases op <;> simp only [stillB] at hs <;> first | (simp at hs; done) | (simp [ex] at H; done) | skip
      case alloc t =>
        simp only [ex, Option.bind_eq_some_iff] at H
        obtain ⟨z, _, H⟩ := H
        obtain ⟨_, H⟩ := cond_some.1 H
        simp only [Option.some.injEq] at H; subst H
        exact ⟨by simp, fun r _ hr => hget_new hr⟩
      case box t x =>
        simp only [ex] at H
        obtain ⟨_, H⟩ := cond_some.1 H
        simp only [Option.some.injEq] at H; subst H
        exact ⟨by simp, fun r _ hr => hget_new hr⟩
      case buildSlice t l ps =>
        simp only [ex] at H
        split at H
        · obtain ⟨_, H⟩ := cond_some.1 H
          simp only [Option.bind_eq_some_iff, Option.map_eq_some_iff] at H
          obtain ⟨d, _, ⟨h1, f, es⟩, h2, rfl⟩ := H
          refine ⟨by simp, fun r hw hr => ?_⟩
          simp only [wrI] at hw
          rw [hget_new hr, fillE_out h2 hw]
        · simp at H
      case makeSlice t l k =>
        simp only [ex] at H
        unfold makeS at H
        split at H
        · simp only [Option.bind_eq_some_iff] at H
          obtain ⟨d, _, H⟩ := H
          obtain ⟨_, H⟩ := cond_some.1 H
          simp only [Option.some.injEq] at H; subst H
          exact ⟨by simp, fun r _ hr => hget_new hr⟩
        · simp at H
      case store t x y =>
        simp only [ex, Option.bind_eq_some_iff] at H
        obtain ⟨av, _, H⟩ := H
        unfold storeS at H
        split at H
        · rename_i r0 i off hx
          split at H
          · obtain ⟨_, H⟩ := cond_some.1 H
            simp only [Option.some.injEq] at H; subst H
            refine ⟨Nat.le_refl _, fun r hw hr => ?_⟩
            simp only [wrI, hx, refT, List.mem_append, List.mem_singleton, not_or] at hw
            rw [hget_hset, if_neg hw.1]
          · simp only [Option.bind_eq_some_iff] at H
            obtain ⟨⟨q1, q2, q3⟩, hq, H⟩ := H
            split at H
            · rename_i fr1 t0 l0 hg0
              obtain ⟨_, H⟩ := cond_some.1 H
              simp only [Option.bind_eq_some_iff, Option.some.injEq] at H
              obtain ⟨e, _, rfl⟩ := H
              refine ⟨Nat.le_refl _, fun r hw hr => ?_⟩
              simp only [wrI, hx, refT, List.mem_append, List.mem_singleton, not_or] at hw
              cases hsl : hasSl t0 with
              | true => rw [hsl] at hk; simp at hk
              | false =>
                simp only [cond_false]
                rw [hget_hset, if_neg hw.1, absL_out hq hw.2]
            · simp at H
          · simp at H
        · simp at H
      case makeMap t r =>
        simp only [ex, Option.bind_eq_some_iff] at H
        obtain ⟨k, _, H⟩ := H
        obtain ⟨_, H⟩ := cond_some.1 H
        simp only [Option.some.injEq] at H; subst H
        exact ⟨by simp, fun r _ hr => hget_new hr⟩
      case lookup t x y q =>
        simp only [ex] at H
        unfold lookupS at H
        split at H
        · split at H
          · split at H
            · obtain ⟨_, _, H⟩ := Option.map_eq_some_iff.1 H
              subst H
              exact ⟨Nat.le_refl _, fun _ _ _ => rfl⟩
            · simp at H
          · simp at H
        · simp at H
      case mapUpdate t x y z =>
        simp only [ex] at H
        unfold mapSetS at H
        split at H
        · rename_i k r0 hk e1
          split at H
          · split at H
            · obtain ⟨_, _, H⟩ := Option.bind_eq_some_iff.1 H
              obtain ⟨_, _, H⟩ := Option.map_eq_some_iff.1 H
              subst H
              refine ⟨Nat.le_refl _, fun r hw hr => ?_⟩
              simp only [wrI, e1, refT, List.mem_singleton] at hw
              rw [hget_hset, if_neg hw]
            · simp at H
          · simp at H
        · simp at H
      case insert t x y z =>
        simp only [ex] at H
        unfold mapSetS at H
        split at H
        · rename_i k r0 hk e1
          split at H
          · split at H
            · obtain ⟨_, _, H⟩ := Option.bind_eq_some_iff.1 H
              obtain ⟨_, _, H⟩ := Option.map_eq_some_iff.1 H
              subst H
              refine ⟨Nat.le_refl _, fun r hw hr => ?_⟩
              simp only [wrI, e1, refT, List.mem_singleton] at hw
              rw [hget_hset, if_neg hw]
            · simp at H
          · simp at H
        · simp at H
      case call c =>
        simp only [ex] at H
        split at H
        · rename_i hc; simp [hc] at hs
        rotate_left
        · rename_i hc; simp [hc] at hs
        · rename_i hc; simp [hc] at hs
        · rename_i hc; simp [hc] at hs
        · simp at H
        · rename_i hc
          have key : ∀ {s x : Operand} {tt : TypeId}, c.args.toList = [s, x] → appendS P tt (σ s) (σ x) h n = some A → n ≤ A.n ∧ ∀ r, r ∉ wrI (.call c) σ → (r < n ∨ A.n ≤ r) → hget A.h r = hget h r := by
            intro s x tt hargs H
            have hw : ∀ r, r ∉ wrI (.call c) σ → r ∉ refT (σ s) ∧ r ∉ refT (σ x) := by
              intro r hw
              simp only [wrI, hc, hargs, List.flatMap_cons, List.flatMap_nil, List.append_nil, List.mem_append, not_or] at hw
              exact hw
            unfold appendS at H
            split at H
            · obtain ⟨_, H⟩ := cond_some.1 H
              simp only [Option.bind_eq_some_iff] at H
              obtain ⟨⟨xs, f, h1⟩, hel, H⟩ := H
              split at H
              · simp only [Option.some.injEq] at H; subst H
                refine ⟨by simp, fun r hw' hr => ?_⟩
                rw [hget_new hr]; exact elems_out hel (hw r hw').2
              · rename_i r0 hs0
                split at H
                · simp only [Option.bind_eq_some_iff, Option.some.injEq] at H
                  obtain ⟨l, _, rfl⟩ := H
                  refine ⟨by simp, fun r hw' hr => ?_⟩
                  have := (hw r hw').1
                  rw [hs0] at this
                  rw [hget_new hr, hget_hdel, if_neg (by simpa [refT] using this)]; exact elems_out hel (hw r hw').2
                · simp at H
              · rename_i r0 o0 l0 hs0
                split at H
                · simp only [Option.bind_eq_some_iff, Option.some.injEq] at H
                  obtain ⟨l, _, rfl⟩ := H
                  refine ⟨by simp, fun r hw' hr => ?_⟩
                  have := (hw r hw').1
                  rw [hs0] at this
                  rw [hget_new hr, hget_hdel, if_neg (by simpa [refT] using this)]; exact elems_out hel (hw r hw').2
                · simp at H
              · simp at H
            · simp at H
          split at H
          · rename_i s x tt t2 _ h1 h2
            split at H
            · exact key h1 H
            · exact key h1 H
            · unfold appendZ at H
              split at H
              · simp only [Option.bind_eq_some_iff] at H
                obtain ⟨d, _, H⟩ := H
                obtain ⟨_, H⟩ := cond_some.1 H
                simp only [Option.some.injEq] at H; subst H
                exact ⟨by simp, fun r _ hr => hget_new hr⟩
              · simp at H
            · simp at H
          · simp at H
theorem wBox_mem : ∀ {ps : List (Ty × Bool)} {xs : List TV} {r : Nat}, wBox ps xs = some r → r ∈ xs.flatMap refT
  | [], _, _, h => by simp [wBox] at h
  | (t, b) :: _, [], _, h => by cases b <;> cases t <;> simp [wBox] at h
  | (t, false) :: ps, x :: xs, r, h => by
    simp only [List.flatMap_cons, List.mem_append]
    exact .inr (wBox_mem (ps := ps) (by simpa [wBox] using h))
  | (t, true) :: ps, x :: xs, r, h => by
    cases t with
    | ref t =>
      simp only [wBox] at h
      obtain ⟨_, h⟩ := cond_some.1 h
      split at h
      · simp only [Option.some.injEq] at h; subst h
        simp [refT]
      · simp at h
    | _ => simp [wBox] at h
theorem wReg_mem : ∀ {ps : List (Ty × Bool)} {xs : List TV} {r : Nat}, wReg ps xs = some r → r ∈ xs.flatMap refT
  | [], _, _, h => by simp [wReg] at h
  | (t, b) :: _, [], _, h => by cases b <;> simp [wReg] at h
  | (t, false) :: ps, x :: xs, r, h => by
    simp only [List.flatMap_cons, List.mem_append]
    exact .inr (wReg_mem (ps := ps) (by simpa [wReg] using h))
  | (t, true) :: ps, x :: xs, r, h => by
    simp only [wReg] at h
    obtain ⟨_, h⟩ := cond_some.1 h
    split at h
    · simp only [Option.some.injEq] at h; subst h; simp [refT]
    · simp only [Option.some.injEq] at h; subst h; simp [refT]
    · simp at h
theorem evV_out {o : Oper} {A : Ans} (H : evV P F o σ h n some = some A) : A.c = true ∧ A.k = none ∧ n ≤ A.n ∧ ∀ r, r ∉ wrI o.op σ ++ wrC F o.op σ → (r < n ∨ A.n ≤ r) → hget A.h r = hget h r := by
  have plain : ((ex P o.op σ h n).bind fun a => bif a.k.isNone && a.c then some a else none) = some A → A.c = true ∧ A.k = none ∧ n ≤ A.n ∧ ∀ r, r ∉ wrI o.op σ ++ wrC F o.op σ → (r < n ∨ A.n ≤ r) → hget A.h r = hget h r := by
    intro H
    simp only [Option.bind_eq_some_iff] at H
    obtain ⟨A', h1, H⟩ := H
    obtain ⟨hb, H⟩ := cond_some.1 H
    simp only [Option.some.injEq] at H; subst H
    simp only [Bool.and_eq_true, Option.isNone_iff_eq_none] at hb
    obtain ⟨h2, h3⟩ := ex_out h1 hb.1
    exact ⟨hb.2, hb.1, h2, fun r hr h => h3 r (fun hm => hr (List.mem_append_left _ hm)) h⟩
  unfold evV at H
  split at H
  · rename_i c hc
    cases hi : isCall o.op with
    | false => rw [hi] at H; exact plain H
    | true =>
      rw [hi] at H
      simp only [cond_true, Option.bind_eq_some_iff] at H
      obtain ⟨q, hq, cn, hcn, H⟩ := H
      cases h3 : (cn.ps.all (fun x => !x.2) && (cn.rm.isOwnF || flatA q.2)) with
      | true =>
        rw [h3] at H
        simp only [cond_true, Option.bind_eq_some_iff, Option.some.injEq] at H
        obtain ⟨x, _, y, _, rfl⟩ := H
        obtain ⟨h1, h2⟩ := opnR_out (h := h) (n := n) (rm := cn.rm) (ts := cn.rs) (x := y.1)
        exact ⟨rfl, rfl, h1, fun r _ hr => h2 r hr⟩
      | false =>
        rw [h3] at H
        simp only [cond_false] at H
        split at H
        · rename_i r0 hr0
          obtain ⟨hall, H⟩ := cond_some.1 H
          simp only [Bool.and_eq_true, Bool.not_eq_true'] at hall
          simp only [Option.bind_eq_some_iff, Option.some.injEq] at H
          obtain ⟨x, _, y, _, g, _, rfl⟩ := H
          obtain ⟨h1, h2⟩ := opnR_out (h := hset h r0 g) (n := n) (rm := cn.rm) (ts := cn.rs) (x := y.1)
          refine ⟨rfl, rfl, h1, fun r hw hr => ?_⟩
          simp only
          rw [h2 r hr, hget_hset, if_neg]
          rintro rfl
          apply hw
          apply List.mem_append_right
          rw [hc] at hi ⊢
          simp only [wrC, hi, cond_true, hq, hcn, hall.2, cond_false]
          exact wBox_mem hr0
        · rename_i hr0
          cases h4 : cn.ps.all (fun x => !x.2) with
          | true => rw [h4] at H; simp at H
          | false =>
          rw [h4] at H
          simp only [cond_false] at H
          have hin : ∀ r1, wReg cn.ps q.2 = some r1 → r1 ∈ wrI o.op σ ++ wrC F o.op σ := by
            intro r1 hr1
            apply List.mem_append_right
            rw [hc] at hi ⊢
            simp only [wrC, hi, cond_true, hq, hcn, h4, cond_false]
            exact wReg_mem hr1
          cases h5 : cn.rm.isMv with
          | true =>
            rw [h5] at H
            simp only [cond_true, Option.bind_eq_some_iff] at H
            obtain ⟨r1, h6, H⟩ := H
            obtain ⟨_, H⟩ := cond_some.1 H
            simp only [Option.bind_eq_some_iff, Option.some.injEq] at H
            obtain ⟨x, _, y, _, rfl⟩ := H
            obtain ⟨h1, h2⟩ := opnL_out (fr := true) (ts := cn.rs) (x := y.1) (h := hdel h r1) (n := n)
            refine ⟨rfl, rfl, h1, fun r hw hr => ?_⟩
            simp only
            rw [h2 r hr, hget_hdel, if_neg]
            rintro rfl
            exact hw (hin _ h6)
          | false =>
            rw [h5] at H
            simp only [cond_false] at H
            obtain ⟨_, H⟩ := cond_some.1 H
            simp only [Option.bind_eq_some_iff] at H
            obtain ⟨r1, h6, H⟩ := H
            obtain ⟨_, H⟩ := cond_some.1 H
            simp only [Option.bind_eq_some_iff, Option.some.injEq] at H
            obtain ⟨x, _, y, _, g, _, rfl⟩ := H
            obtain ⟨h1, h2⟩ := opnR_out (h := hset h r1 g) (n := n) (rm := cn.rm) (ts := cn.rs) (x := y.1)
            refine ⟨rfl, rfl, h1, fun r hw hr => ?_⟩
            simp only
            rw [h2 r hr, hget_hset, if_neg]
            rintro rfl
            exact hw (hin _ h6)
  · exact plain H
end
end Go.Tw
namespace Go.Tw
open Go Go.RowKit
variable [Grd]
section
variable {P : Program} {F : List Con} {ρ : Type} {σ σ' : Operand → TV} {h h' : Heap} {n : Nat}
theorem apX_congr {op : Op} {dst : Option Nat} (H : ∀ x ∈ op.operands, σ x = σ' x) : apX P op dst σ h = apX P op dst σ' h := by
  cases op with
  | call c =>
    cases dst with
    | none => rfl
    | some d =>
      simp only [apX]
      split
      · rename_i src x tt t2 ts hcal hargs htys
        have e1 : σ (.tmp src) = σ' (.tmp src) := H _ (by simp [Op.operands, Call.operands, ← Array.mem_toList_iff, hargs])
        have e2 : σ x = σ' x := H _ (by simp [Op.operands, Call.operands, ← Array.mem_toList_iff, hargs])
        rw [e1, e2]
      · rfl
  | _ => rfl
structure ApD (P : Program) (op : Op) (dst : Option Nat) (σ : Operand → TV) (h : Heap) (px : PX) (c : Bool) (cl : Call) (x : Operand) (tt t2 : TypeId) (rest : List TypeId) (size bytes : Nat) (z : List Value) (e2 : TypeId) (t0 : Ty) (l : List (den t0)) (l2 xs : List (den px.t)) (h1 : Heap) : Prop where
  op : op = .call cl
  dst : dst = some px.d
  cal : cl.callee = .builtin .append
  args : cl.args.toList = [.tmp px.src, x]
  tys : cl.argTypes.toList = tt :: t2 :: rest
  src : σ (.tmp px.src) = .inn px.r px.i px.off
  tsl : tsl P tt = some (size, bytes, z)
  el : elOf P tt = some px.t
  und : P.underlying t2 = some (.slice e2)
  row : hget h px.r = some (.row true t0 l)
  cell : ((encT t0 (l.getD px.i (dflt t0))).drop px.off).headD .undef = .tr px.t l2
  sz : sz px.t = size
  flat : hasSl px.t = false
  ne : px.d ≠ px.src
  els : elemsS px.t (σ x) h = some (xs, true, h1)
  eq : px.l = l2 ++ xs
  c : c = decide ((l2.length + xs.length) * bytes ≤ 1099511627776)
theorem apX_some {op : Op} {dst : Option Nat} {px : PX} {c : Bool} (H : apX P op dst σ h = some (px, c)) : ∃ cl x tt t2 rest size bytes z e2 t0 l l2 xs h1, ApD P op dst σ h px c cl x tt t2 rest size bytes z e2 t0 l l2 xs h1 := by
  unfold apX at H
  split at H
  · split at H
    · rename_i src x tt t2 rest hcal hargs htys
      split at H
      · rename_i r i off size bytes z e e2 hsrc htsl hel hund
        split at H
        · rename_i t0 l hrow
          split at H
          · rename_i t' l2 hcell
            obtain ⟨hb, H⟩ := cond_some.1 H
            simp only [Option.bind_eq_some_iff] at H
            obtain ⟨l2', hcst, ⟨xs, f, h1⟩, hels, H⟩ := H
            obtain ⟨rfl, rfl⟩ := cast_some hcst
            obtain ⟨hf, H⟩ := cond_some.1 H
            simp only at hf; subst hf
            simp only [Option.some.injEq, Prod.mk.injEq] at H
            obtain ⟨rfl, rfl⟩ := H
            simp only [Bool.and_eq_true, Bool.not_eq_true'] at hb
            refine ⟨_, x, tt, t2, rest, size, bytes, z, e2, t0, l, _, xs, h1, ⟨rfl, rfl, hcal, hargs, htys, hsrc, htsl, hel, hund, hrow, hcell, Nat.eq_of_beq_eq_true hb.1.1, hb.1.2, ?_, hels, rfl, rfl⟩⟩
            rintro e
            have := hb.2
            simp only at e
            rw [e] at this
            simp at this
          · simp at H
        · simp at H
      · simp at H
    · simp at H
  · simp at H
def EvX (P : Program) (F : List Con) (o : Oper) (σ : Operand → TV) (h : Heap) (n : Nat) (A : Ans) (x : Option PX) : Prop :=
  (x = none ∧ apX P o.op o.dst σ h = none ∧ evV P F o σ h n some = some A) ∨ ∃ px, x = some px ∧ apX P o.op o.dst σ h = some (px, true) ∧ A = { v := .undef, h := h, n := n, c := true }
theorem EvX.congr {o : Oper} {A : Ans} {x : Option PX} (H : ∀ x ∈ o.op.operands, σ x = σ' x) : EvX P F o σ h n A x ↔ EvX P F o σ' h n A x := by
  unfold EvX
  rw [apX_congr H, evV_congr H]
theorem wrX_congr {o : Oper} (H : ∀ x ∈ o.op.operands, σ x = σ' x) : wrX P F o σ h = wrX P F o σ' h := by
  unfold wrX
  rw [apX_congr H, wrI_congr H, wrC_congr H]
theorem evX_some {o : Oper} {K : Ans → Option PX → Option ρ} {r : ρ} (H : evX P F o σ h n K = some r) : ∃ A x, EvX P F o σ h n A x ∧ K A x = some r := by
  unfold evX at H
  split at H
  · rename_i px c hpx
    obtain ⟨hc, H⟩ := cond_some.1 H
    subst hc
    exact ⟨_, _, .inr ⟨px, rfl, hpx, rfl⟩, H⟩
  · rename_i hpx
    obtain ⟨A, h1, h2⟩ := evV_some H
    exact ⟨A, none, .inl ⟨rfl, hpx, h1⟩, h2⟩
theorem EvX.out {o : Oper} {A : Ans} {x : Option PX} (H : EvX P F o σ h n A x) : A.c = true ∧ A.k = none ∧ n ≤ A.n ∧ ∀ r, r ∉ wrX P F o σ h → (r < n ∨ A.n ≤ r) → hget A.h r = hget h r := by
  rcases H with ⟨rfl, h1, h2⟩ | ⟨px, rfl, h1, rfl⟩
  · have : wrX P F o σ h = wrI o.op σ ++ wrC F o.op σ := by simp only [wrX, h1]
    rw [this]
    exact evV_out h2
  · exact ⟨rfl, rfl, Nat.le_refl _, fun _ _ _ => rfl⟩
theorem EvX.px {o : Oper} {A : Ans} {px : PX} (H : EvX P F o σ h n A (some px)) : o.dst = some px.d ∧ .tmp px.src ∈ o.op.operands := by
  rcases H with ⟨h1, _⟩ | ⟨px', h1, h2, _⟩
  · cases h1
  · cases h1
    obtain ⟨cl, x, tt, t2, rest, size, bytes, z, e2, t0, l, l2, xs, h1, D⟩ := apX_some h2
    exact ⟨D.dst, by rw [D.op]; simp [Op.operands, Call.operands, ← Array.mem_toList_iff, D.args]⟩
end
structure DS where
  s : Nat → TV
  pd : Nat → Option Reg
  h : Heap
  n : Nat
  x : Option PX
def upd {α : Type} (f : Nat → α) (k : Nat) (v : α) : Nat → α := fun t => if t = k then v else f t
theorem upd_ne {α : Type} {f : Nat → α} {k t : Nat} {v : α} (h : t ≠ k) : upd f k v t = f t := if_neg h
theorem upd_eq {α : Type} {f : Nat → α} {k : Nat} {v : α} : upd f k v k = v := if_pos rfl
theorem upd_comm {α : Type} {f : Nat → α} {k k' : Nat} {v v' : α} (h : k ≠ k') : upd (upd f k v) k' v' = upd (upd f k' v') k v := by
  funext t
  simp only [upd]
  by_cases h1 : t = k
  · subst h1; simp [h]
  · simp [h1]
def putF (dst : Option Nat) (x : TV) (p : Option Reg) (τ : DS) : DS :=
  match dst with
  | some d => ⟨upd τ.s d x, upd τ.pd d p, τ.h, τ.n, τ.x⟩
  | none => τ
def attF : List Nat → DS → DS
  | [], τ => τ
  | t :: ts, τ => match τ.pd t with
    | some reg => attF ts ⟨upd τ.s t (ptrOf reg τ.n), upd τ.pd t none, (τ.n, reg) :: τ.h, τ.n + 1, τ.x⟩
    | none => attF ts τ
def evf (f : Nat → TV) : Operand → TV
  | .tmp t => f t
  | .const v => .p v
  | .global g => .p (.pointer (some ⟨g, 0, none⟩))
  | .func f => .fn (.func f) [] []
def absD (τ : DL) : DS := ⟨sget τ.s, pget τ.pd, τ.h, τ.n, τ.x⟩
theorem ev_evf (s : List (Nat × TV)) : ev s = evf (sget s) := by funext x; cases x <;> rfl
theorem sget_upd (s : List (Nat × TV)) (d : Nat) (x : TV) : sget ((d, x) :: s) = upd (sget s) d x := by funext t; rw [sget_cons]; rfl
theorem pget_upd (s : List (Nat × Option Reg)) (d : Nat) (x : Option Reg) : pget ((d, x) :: s) = upd (pget s) d x := by
  funext t
  simp only [pget, upd]
  by_cases h : t = d
  · subst h; simp
  · have : Nat.beq t d = false := by
      cases hb : Nat.beq t d with
      | false => rfl
      | true => exact absurd (Nat.eq_of_beq_eq_true hb) h
    simp [this, h]
theorem absD_put (dst : Option Nat) (x : TV) (p : Option Reg) (τ : DL) : absD (putL dst x p τ) = putF dst x p (absD τ) := by
  cases dst with
  | none => rfl
  | some d => simp only [putL, putF, absD, sget_upd, pget_upd]
theorem absD_att : ∀ (l : List Nat) (τ : DL), absD (attL l τ) = attF l (absD τ)
  | [], τ => rfl
  | t :: ts, τ => by
    simp only [attL, attF]
    have e : (absD τ).pd t = pget τ.pd t := rfl
    rw [e]
    cases hp : pget τ.pd t with
    | none => exact absD_att ts τ
    | some reg => simp only [absD_att ts]; simp only [absD, sget_upd, pget_upd]
theorem att_out : ∀ (l : List Nat) (τ : DS), τ.n ≤ (attF l τ).n ∧ (∀ t, ¬ (t ∈ l ∧ (τ.pd t).isSome = true) → (attF l τ).s t = τ.s t ∧ (attF l τ).pd t = τ.pd t) ∧ ∀ r, (r < τ.n ∨ (attF l τ).n ≤ r) → hget (attF l τ).h r = hget τ.h r
  | [], τ => ⟨Nat.le_refl _, fun _ _ => ⟨rfl, rfl⟩, fun _ _ => rfl⟩
  | t :: ts, τ => by
    simp only [attF]
    cases hp : τ.pd t with
    | none =>
      obtain ⟨h1, h2, h3⟩ := att_out ts τ
      exact ⟨h1, fun u hu => h2 u (fun hm => hu ⟨by simp [hm.1], hm.2⟩), h3⟩
    | some reg =>
      obtain ⟨h1, h2, h3⟩ := att_out ts ⟨upd τ.s t (ptrOf reg τ.n), upd τ.pd t none, (τ.n, reg) :: τ.h, τ.n + 1, τ.x⟩
      simp only at h1 h2 h3 ⊢
      refine ⟨by omega, fun u hu => ?_, fun r hr => by rw [h3 r (by omega), hget_new (by omega)]⟩
      have hne : u ≠ t := by rintro rfl; exact hu ⟨by simp, by rw [hp]; rfl⟩
      obtain ⟨e1, e2⟩ := h2 u (fun hm => hu ⟨by simp [hm.1], by rw [upd_ne hne] at hm; exact hm.2⟩)
      exact ⟨by rw [e1, upd_ne hne], by rw [e2, upd_ne hne]⟩
theorem att_put {d : Nat} {x : TV} {p : Option Reg} : ∀ (l : List Nat) (τ : DS), d ∉ l → attF l (putF (some d) x p τ) = putF (some d) x p (attF l τ)
  | [], τ, _ => rfl
  | t :: ts, τ, hd => by
    simp only [List.mem_cons, not_or] at hd
    simp only [attF]
    have e : (putF (some d) x p τ).pd t = τ.pd t := upd_ne (Ne.symm hd.1)
    rw [e]
    cases hp : τ.pd t with
    | none => exact att_put ts τ hd.2
    | some reg =>
      have h1 := att_put ts ⟨upd τ.s t (ptrOf reg τ.n), upd τ.pd t none, (τ.n, reg) :: τ.h, τ.n + 1, τ.x⟩ hd.2 (x := x) (p := p)
      simp only [putF] at h1 ⊢
      rw [upd_comm (f := τ.s) hd.1, upd_comm (f := τ.pd) hd.1]; exact h1
theorem put_comm {d d' : Option Nat} {x x' : TV} {p p' : Option Reg} {τ : DS} (h : ∀ a, d = some a → d' ≠ some a) : putF d x p (putF d' x' p' τ) = putF d' x' p' (putF d x p τ) := by
  cases d with
  | none => rfl
  | some a =>
    cases d' with
    | none => rfl
    | some b =>
      have hne : b ≠ a := by rintro rfl; exact h _ rfl rfl
      simp only [putF]
      rw [upd_comm (f := τ.s) hne, upd_comm (f := τ.pd) hne]
theorem put_s {d : Option Nat} {x : TV} {p : Option Reg} {τ : DS} {t : Nat} (h : d ≠ some t) : (putF d x p τ).s t = τ.s t ∧ (putF d x p τ).pd t = τ.pd t := by
  cases d with
  | none => exact ⟨rfl, rfl⟩
  | some a =>
    have hne : t ≠ a := by rintro rfl; exact h rfl
    exact ⟨upd_ne hne, upd_ne hne⟩
theorem put_h {d : Option Nat} {x : TV} {p : Option Reg} {τ : DS} : (putF d x p τ).h = τ.h ∧ (putF d x p τ).n = τ.n := by cases d <;> exact ⟨rfl, rfl⟩
theorem put_x {d : Option Nat} {x : TV} {p : Option Reg} {τ : DS} : (putF d x p τ).x = τ.x := by cases d <;> rfl
theorem att_x : ∀ (l : List Nat) (τ : DS), (attF l τ).x = τ.x
  | [], τ => rfl
  | t :: ts, τ => by
    simp only [attF]
    split
    · rw [att_x ts]
    · exact att_x ts τ
section
variable (P : Program) (F : List Con) (m : Fm) (dl : List (Option Tmp))
def Wnt (o : Oper) (s : Nat → TV) : Prop := o.guard = none ∨ ∃ j want t, o.guard = some (j, want) ∧ dl.getD j none = some t ∧ gv want (s t) = some true
def Unw (o : Oper) (s : Nat → TV) : Prop := ∃ j want t, o.guard = some (j, want) ∧ dl.getD j none = some t ∧ (gv want (s t) = some false ∨ isUn (s t) = true)
inductive Lig (o : Oper) (k : KI) (τ : DS) : TV → Option Reg → Option Nat → Prop
  | skip : Unw dl o τ.s → Lig o k τ (.tup []) none none
  | idx (t : Nat) (reg : Reg) : Wnt dl o τ.s → idxS P o.op (evf τ.s) τ.pd = some (t, reg, true) → o.dst.isSome = true → o.dst ≠ some t → t ∈ k.ta → Lig o k τ .undef (some reg) (some t)
  | ld (v : TV) : Wnt dl o τ.s → ldS P o.op (evf τ.s) τ.pd = some v → Lig o k τ v none none
  | alc (reg : Reg) : Wnt dl o τ.s → (∀ t ∈ opT o.op, τ.pd t = none) → alcS P o.op (evf τ.s) = some (reg, true) → o.dst.isSome = true → k.kn = 1 → Lig o k τ .undef (some reg) none
  | free (A : Ans) : Wnt dl o τ.s → (∀ t ∈ opT o.op, τ.pd t = none) → stillB o.op = true → ex P o.op (evf τ.s) τ.h τ.n = some A → A.c = true → (∀ r ∈ rdI o.op (evf τ.s), r ∈ k.rd) → Lig o k τ A.v none none
structure Hvy (o : Oper) (k : KI) (τ : DS) (A : Ans) (x : Option PX) : Prop where
  wnt : Wnt dl o τ.s
  ev : EvX P F o (evf (attF (opT o.op) τ).s) (attF (opT o.op) τ).h (attF (opT o.op) τ).n A x
  wr : ∀ r ∈ wrX P F o (evf (attF (opT o.op) τ).s) (attF (opT o.op) τ).h, r ∈ k.wr
  nw : ∀ r, τ.n ≤ r → r < A.n → r ∈ k.wr
  ta : ∀ t ∈ opT o.op, (τ.pd t).isSome = true → t ∈ k.ta
  kn : k.kn = knX x
def killF (r : Nat) (s : Nat → TV) : Nat → TV := fun t => kill r (s t)
structure StX (o : Oper) (τ : DS) (px : PX) (t : TypeId) (x : Operand) (t0 t2 : Ty) (l : List (den t0)) (l2 : List (den t2)) (r i off : Nat) (e : den t0) : Prop where
  op : o.op = .store t x (.tmp px.d)
  dst : o.dst = none
  tv : tv P t = some (false, 1)
  adr : evf τ.s x = .ptr r i off
  row : hget τ.h r = some (.row true t0 l)
  src : τ.s px.src = .inn r i off
  cell : ((encT t0 (l.getD i (dflt t0))).drop off).headD .undef = .tr t2 l2
  dec : dec1 t0 (spl (encT t0 (l.getD i (dflt t0))) off [.tr px.t px.l]) = some e
inductive App (o : Oper) (k : KI) : DS → DS → Prop
  | lig {τ : DS} {x : TV} {p : Option Reg} {tk : Option Nat} : k.kn ≠ 4 → k.hv = false → dstOk m o.dst = true → Lig P dl o k τ x p tk → (∀ px, τ.x = some px → o.dst ≠ some px.d ∧ o.dst ≠ some px.src ∧ k.kn ≠ 1) → App o k τ (putF o.dst x p (putF tk .undef none τ))
  | hvy {τ : DS} {A : Ans} {x : Option PX} : k.hv = true → dstOk m o.dst = true → Hvy P F dl o k τ A x → τ.x = none → App o k τ (putF o.dst A.v none ⟨(attF (opT o.op) τ).s, (attF (opT o.op) τ).pd, A.h, A.n, x⟩)
  | ins {τ : DS} {t : Nat} {reg : Reg} : k.kn = 4 → k.hv = false → o.dst = none → t ∈ k.ta → o.guard = none → τ.x = none → insS P o.op (evf τ.s) τ.pd = some (t, reg, true) → App o k τ (putF (some t) .undef (some reg) τ)
  | sto {τ : DS} {px : PX} {t : TypeId} {x : Operand} {t0 t2 : Ty} {l : List (den t0)} {l2 : List (den t2)} {r i off : Nat} {e : den t0} : k.kn = 3 → k.hv = true → Wnt dl o τ.s → τ.x = some px → StX P o τ px t x t0 t2 l l2 r i off e → App o k τ ⟨killF r τ.s, τ.pd, killH r (hset τ.h r (.row true t0 (l.set i e))), τ.n, none⟩
end
section
variable {P : Program} {F : List Con} {m : Fm} {dl : List (Option Tmp)} {o : Oper} {k : KI} {τ τ' : DS}
theorem opT_mem {x : Operand} {t : Nat} (h : x ∈ o.op.operands) (e : x = .tmp t) : t ∈ opT o.op := by
  subst e
  simp only [opT, tmpsOf, List.mem_filterMap]
  exact ⟨.tmp t, by simpa using h, rfl⟩
theorem evf_congr {s s' : Nat → TV} (h : ∀ t ∈ opT o.op, s' t = s t) : ∀ x ∈ o.op.operands, evf s' x = evf s x := by
  intro x hx
  cases x with
  | tmp t => exact h t (opT_mem hx rfl)
  | _ => rfl
theorem opT_lk {t : Nat} (h : t ∈ opT o.op) : t ∈ lkT dl o := by simp [lkT, h]
theorem guard_lk {j : Nat} {want : Bool} {t : Nat} (h : o.guard = some (j, want)) (ht : dl.getD j none = some t) : t ∈ lkT dl o := by unfold lkT; rw [h]; simp only [ht]; simp
theorem Wnt.congr {s s' : Nat → TV} (h : ∀ t ∈ lkT dl o, s' t = s t) (H : Wnt dl o s) : Wnt dl o s' := by
  rcases H with H | ⟨j, want, t, h1, h2, h3⟩
  · exact .inl H
  · exact .inr ⟨j, want, t, h1, h2, by rw [h t (guard_lk h1 h2)]; exact h3⟩
theorem Unw.congr {s s' : Nat → TV} (h : ∀ t ∈ lkT dl o, s' t = s t) (H : Unw dl o s) : Unw dl o s' := by
  obtain ⟨j, want, t, h1, h2, h3⟩ := H
  exact ⟨j, want, t, h1, h2, by rw [h t (guard_lk h1 h2)]; exact h3⟩
theorem idxS_congr {op : Op} {σ σ' : Operand → TV} {pd pd' : Nat → Option Reg} (H : ∀ x ∈ op.operands, σ' x = σ x) (hp : ∀ t ∈ opT op, pd' t = pd t) : idxS P op σ' pd' = idxS P op σ pd := by
  cases op with
  | indexAddr tt x i =>
    cases x with
    | tmp t =>
      have e1 : pd' t = pd t := hp t (by simp [opT, tmpsOf, Op.operands])
      have e2 : σ' i = σ i := H i (by simp [Op.operands])
      simp only [idxS, e1, e2]
    | _ => rfl
  | move x =>
    cases x with
    | tmp t =>
      have e1 : pd' t = pd t := hp t (by simp [opT, tmpsOf, Op.operands])
      simp only [idxS, e1]
    | _ => rfl
  | _ => rfl
theorem ldS_congr {op : Op} {σ σ' : Operand → TV} {pd pd' : Nat → Option Reg} (H : ∀ x ∈ op.operands, σ' x = σ x) (hp : ∀ t ∈ opT op, pd' t = pd t) : ldS P op σ' pd' = ldS P op σ pd := by
  cases op with
  | load ty x =>
    cases x with
    | tmp t =>
      have e1 : pd' t = pd t := hp t (by simp [opT, tmpsOf, Op.operands])
      simp only [ldS, e1]
    | _ => rfl
  | lookup ty x y ok =>
    cases x with
    | tmp t =>
      have e1 : pd' t = pd t := hp t (by simp [opT, tmpsOf, Op.operands])
      have e2 : σ' y = σ y := H y (by simp [Op.operands])
      simp only [ldS, e1, e2]
    | _ => rfl
  | _ => rfl
theorem all_cg {α : Type} {f g : α → Bool} : ∀ {l : List α}, (∀ u ∈ l, f u = g u) → l.all f = l.all g
  | [], _ => rfl
  | x :: l, h => by
    rw [List.all_cons, List.all_cons, h x (by simp), all_cg (fun u hu => h u (by simp [hu]))]
theorem insS_congr {op : Op} {σ σ' : Operand → TV} {pd pd' : Nat → Option Reg} (H : ∀ x ∈ op.operands, σ' x = σ x) (hp : ∀ t ∈ opT op, pd' t = pd t) : insS P op σ' pd' = insS P op σ pd := by
  cases op with
  | insert ty x y z =>
    cases x with
    | tmp t =>
      have e1 : pd' t = pd t := hp t (by simp [opT, tmpsOf, Op.operands])
      have e2 : σ' y = σ y := H y (by simp [Op.operands])
      have e3 : σ' z = σ z := H z (by simp [Op.operands])
      have e4 : ((tmpsOf [y, z]).all fun u => (pd' u).isNone) = ((tmpsOf [y, z]).all fun u => (pd u).isNone) := by
        refine all_cg fun u hu => ?_
        rw [hp u (by simp only [opT, tmpsOf, Op.operands, List.mem_filterMap] at hu ⊢; obtain ⟨w, hw, e⟩ := hu; exact ⟨w, by simp at hw ⊢; rcases hw with rfl | rfl <;> simp, e⟩)]
      simp only [insS, e1, e2, e3, e4]
    | _ => rfl
  | _ => rfl
structure InsD (P : Program) (op : Op) (σ : Operand → TV) (pd : Nat → Option Reg) (t : Nat) (reg : Reg) (ty : TypeId) (y z : Operand) (q : MQ) (l : List (den q.k × den q.v)) (a : den q.k) (b : den q.v) : Prop where
  op : op = .insert ty (.tmp t) y z
  sl : pd t = some (.mp q l)
  mp : mpT P ty = some q
  ky : keyV q.k (σ y) = some a
  vl : keyV q.v (σ z) = some b
  reg : reg = .mp q (sins q.k q.v l a b)
  ord : ordB q.k = true
  new : mhas q.k q.v l a = false
  alone : ∀ u ∈ tmpsOf [y, z], pd u = none
theorem insS_some {op : Op} {σ : Operand → TV} {pd : Nat → Option Reg} {t : Nat} {reg : Reg} : insS P op σ pd = some (t, reg, true) ↔ ∃ ty y z q l a b, InsD P op σ pd t reg ty y z q l a b := by
  constructor
  · intro h
    unfold insS at h
    split at h
    · split at h
      · rename_i ty t' y z _ _ q l q2 h1 h2
        split at h
        · rename_i e; subst e
          simp only [Option.bind_eq_some_iff, Option.map_eq_some_iff, Prod.mk.injEq, Bool.and_eq_true, Bool.not_eq_true'] at h
          obtain ⟨a, h3, b, h4, rfl, rfl, ⟨h5, h6⟩, h7⟩ := h
          exact ⟨ty, y, z, q, l, a, b, rfl, h1, h2, h3, h4, rfl, h5, h6, fun u hu => Option.isNone_iff_eq_none.1 (List.all_eq_true.1 h7 u hu)⟩
        · simp at h
      · simp at h
    · simp at h
  · rintro ⟨ty, y, z, q, l, a, b, rfl, h1, h2, h3, h4, rfl, h5, h6, h7⟩
    have h8 : ((tmpsOf [y, z]).all fun u => (pd u).isNone) = true := List.all_eq_true.2 fun u hu => by rw [h7 u hu]; rfl
    simp only [insS, h1, h2, if_pos, h3, h4, Option.bind_some, Option.map_some, h5, h6, h8]
    rfl
theorem idxS_mem {op : Op} {σ : Operand → TV} {pd : Nat → Option Reg} {t : Nat} {reg : Reg} {c : Bool} (h : idxS P op σ pd = some (t, reg, c)) : t ∈ opT op := by
  cases op with
  | indexAddr tt x i =>
    cases x with
    | tmp t' =>
      simp only [idxS] at h
      split at h
      · obtain ⟨_, h⟩ := cond_some.1 h
        simp only [Option.some.injEq, Prod.mk.injEq] at h
        rw [← h.1]; simp [opT, tmpsOf, Op.operands]
      · simp at h
    | _ => simp [idxS] at h
  | move x =>
    cases x with
    | tmp t' =>
      simp only [idxS] at h
      split at h
      · simp only [Option.some.injEq, Prod.mk.injEq] at h
        rw [← h.1]; simp [opT, tmpsOf, Op.operands]
      · simp at h
    | _ => simp [idxS] at h
  | _ => simp [idxS] at h
theorem Lig.tk {x : TV} {p : Option Reg} {tk : Option Nat} (H : Lig P dl o k τ x p tk) : ∀ t, tk = some t → t ∈ opT o.op ∧ t ∈ k.ta ∧ o.dst ≠ some t := by
  cases H with
  | idx t reg _ h _ h2 h3 => intro t' e; cases e; exact ⟨idxS_mem h, h3, h2⟩
  | _ => intro t' e; cases e
theorem Lig.frame {x : TV} {p : Option Reg} {tk : Option Nat} (hs : ∀ t ∈ lkT dl o, τ'.s t = τ.s t ∧ τ'.pd t = τ.pd t) (hr : ∀ r ∈ k.rd, hget τ'.h r = hget τ.h r) (H : Lig P dl o k τ x p tk) : Lig P dl o k τ' x p tk := by
  have hev : ∀ x ∈ o.op.operands, evf τ'.s x = evf τ.s x := evf_congr fun t ht => (hs t (opT_lk ht)).1
  have hw : ∀ t ∈ lkT dl o, τ'.s t = τ.s t := fun t ht => (hs t ht).1
  have hpd : (∀ t ∈ opT o.op, τ.pd t = none) → ∀ t ∈ opT o.op, τ'.pd t = none := fun h t ht => by rw [(hs t (opT_lk ht)).2]; exact h t ht
  cases H with
  | skip h => exact .skip (h.congr hw)
  | idx t reg h1 h2 h3 h4 h5 => exact .idx t reg (h1.congr hw) (by rw [idxS_congr hev (fun t ht => (hs t (opT_lk ht)).2)]; exact h2) h3 h4 h5
  | ld v h1 h2 => exact .ld _ (h1.congr hw) (by rw [ldS_congr hev (fun t ht => (hs t (opT_lk ht)).2)]; exact h2)
  | alc reg h1 h2 h3 h4 h5 => exact .alc reg (h1.congr hw) (hpd h2) (by rw [alcS_congr hev]; exact h3) h4 h5
  | free A h1 h2 h3 h4 h5 h6 =>
    have e := ex_congr (P := P) (h := τ'.h) (n := τ'.n) o.op hev
    obtain ⟨_, _, _, h7⟩ := HI (h' := τ'.h) (n' := τ'.n) h3 h4 (fun r hr' => hr r (h6 r hr'))
    exact .free { A with h := τ'.h, n := τ'.n } (h1.congr hw) (hpd h2) h3 (by rw [e]; exact h7) h5 (by rw [rdI_congr hev]; exact h6)
structure PairP (dl : List (Option Tmp)) (o1 : Oper) (k1 : KI) (o2 : Oper) (k2 : KI) : Prop where
  d1 : ∀ d, o1.dst = some d → d ∉ lkT dl o2
  d2 : ∀ d, o2.dst = some d → d ∉ lkT dl o1
  dn : ∀ d, o1.dst = some d → o2.dst ≠ some d
  hh : ¬ (k1.hv = true ∧ k2.hv = true)
  r1 : ∀ r ∈ k1.rd, r ∉ k2.wr
  r2 : ∀ r ∈ k2.rd, r ∉ k1.wr
  t1 : ¬ (k1.kn = 4 ∧ k2.kn = 4) → ∀ t ∈ k1.ta, t ∉ lkT dl o2
  t2 : ¬ (k1.kn = 4 ∧ k2.kn = 4) → ∀ t ∈ k2.ta, t ∉ lkT dl o1
  k24 : ¬ (k1.kn = 2 ∧ k2.kn = 4)
  k42 : ¬ (k1.kn = 4 ∧ k2.kn = 2)
  k3 : k1.kn ≠ 3 ∧ k2.kn ≠ 3
  k12 : ¬ (k1.kn = 1 ∧ k2.kn = 2)
  k21 : ¬ (k1.kn = 2 ∧ k2.kn = 1)
theorem knB_ok : ∀ {a b : Nat}, knB a b = true → ((a ≠ 3 ∧ b ≠ 3) ∧ ¬ (a = 1 ∧ b = 2) ∧ ¬ (a = 2 ∧ b = 1)) ∧ ¬ (a = 2 ∧ b = 4) ∧ ¬ (a = 4 ∧ b = 2) := by
  intro a b h
  unfold knB at h
  split at h
  all_goals first
    | (simp at h; done)
    | (refine ⟨⟨⟨by omega, by omega⟩, by omega, by omega⟩, by omega, by omega⟩)
theorem disj_of {a b : List Nat} (h : disjB a b = true) : ∀ r ∈ a, r ∉ b := by
  intro r hr hb
  have := List.all_eq_true.1 (List.all_eq_true.1 h r hr) r hb
  simp at this
theorem out_of {d : Option Nat} {l : List Nat} (h : outB d l = true) : ∀ a, d = some a → a ∉ l := by
  rintro a rfl hm
  have := List.all_eq_true.1 h a hm
  simp at this
theorem pairB_ok {o1 o2 : Oper} {k1 k2 : KI} (h : pairB dl o1 k1 o2 k2 = true) : PairP dl o1 k1 o2 k2 := by
  simp only [pairB, Bool.and_eq_true, Bool.not_eq_true'] at h
  obtain ⟨⟨⟨⟨⟨⟨⟨h0, h1⟩, h2⟩, h3⟩, h4⟩, h5⟩, h6⟩, h7⟩ := h
  obtain ⟨⟨j1, j2, j3⟩, j4, j5⟩ := knB_ok h0
  have h78 : ¬ (k1.kn = 4 ∧ k2.kn = 4) → disjB k1.ta (lkT dl o2) = true ∧ disjB k2.ta (lkT dl o1) = true := by
    intro hn
    rcases Bool.or_eq_true_iff.1 h7 with h | h
    · rw [Bool.and_eq_true] at h
      exact absurd ⟨Nat.eq_of_beq_eq_true h.1, Nat.eq_of_beq_eq_true h.2⟩ hn
    · simpa [Bool.and_eq_true] using h
  refine ⟨out_of h1, out_of h2, ?_, ?_, disj_of h5, disj_of h6, fun hn => disj_of (h78 hn).1, fun hn => disj_of (h78 hn).2, j4, j5, j1, j2, j3⟩
  · rintro d e1 e2
    rw [e1, e2] at h3
    simp [neB] at h3
  · rintro ⟨e1, e2⟩
    rw [e1, e2] at h4
    simp at h4
theorem Hvy.out {A : Ans} {x' : Option PX} (H : Hvy P F dl o k τ A x') : (∀ t, t ∉ k.ta → (attF (opT o.op) τ).s t = τ.s t ∧ (attF (opT o.op) τ).pd t = τ.pd t) ∧ ∀ r, r ∉ k.wr → hget A.h r = hget τ.h r := by
  obtain ⟨h1, h2, h3⟩ := att_out (opT o.op) τ
  obtain ⟨_, _, h4, h5⟩ := EvX.out H.ev
  refine ⟨fun t ht => h2 t (fun hm => ht (H.ta t hm.1 hm.2)), fun r hr => ?_⟩
  have hn : r < τ.n ∨ A.n ≤ r := by
    rcases Nat.lt_or_ge r τ.n with h | h
    · exact .inl h
    · rcases Nat.lt_or_ge r A.n with h' | h'
      · exact absurd (H.nw r h h') hr
      · exact .inr h'
  rw [h5 r (fun hm => hr (H.wr r hm)) (by omega), h3 r (by omega)]
theorem Hvy.frame {A : Ans} {x' : Option PX} {d : Option Nat} {x : TV} {p : Option Reg} (hd : ∀ a, d = some a → a ∉ lkT dl o) : Hvy P F dl o k (putF d x p τ) A x' ↔ Hvy P F dl o k τ A x' := by
  cases d with
  | none => exact Iff.rfl
  | some a =>
    have ha : a ∉ lkT dl o := hd a rfl
    have ha' : a ∉ opT o.op := fun h => ha (opT_lk h)
    have e := att_put (x := x) (p := p) (opT o.op) τ ha'
    have hs : ∀ t ∈ lkT dl o, (putF (some a) x p τ).s t = τ.s t ∧ (putF (some a) x p τ).pd t = τ.pd t := fun t ht => put_s (by rintro h; simp only [Option.some.injEq] at h; subst h; exact ha ht)
    have hev : ∀ y ∈ o.op.operands, evf (attF (opT o.op) (putF (some a) x p τ)).s y = evf (attF (opT o.op) τ).s y := by
      rw [e]
      exact evf_congr fun t ht => (put_s (by rintro h; simp only [Option.some.injEq] at h; subst h; exact ha' ht)).1
    have e1 : (attF (opT o.op) (putF (some a) x p τ)).h = (attF (opT o.op) τ).h := by rw [e]; rfl
    have e2 : (attF (opT o.op) (putF (some a) x p τ)).n = (attF (opT o.op) τ).n := by rw [e]; rfl
    have e3 := EvX.congr (P := P) (F := F) (h := (attF (opT o.op) τ).h) (n := (attF (opT o.op) τ).n) (A := A) (x := x') hev
    have e4 := wrX_congr (P := P) (F := F) (h := (attF (opT o.op) τ).h) (o := o) hev
    constructor
    · rintro ⟨h1, h2, h3, h4, h5, h6⟩
      rw [e1, e2, e3] at h2
      rw [e1, e4] at h3
      exact ⟨h1.congr fun t ht => (hs t ht).1.symm, h2, h3, h4, fun t ht hp => h5 t ht (by rw [(hs t (opT_lk ht)).2]; exact hp), h6⟩
    · rintro ⟨h1, h2, h3, h4, h5, h6⟩
      refine ⟨h1.congr fun t ht => (hs t ht).1, ?_, ?_, h4, fun t ht hp => h5 t ht (by rw [(hs t (opT_lk ht)).2] at hp; exact hp), h6⟩
      · rw [e1, e2, e3]; exact h2
      · rw [e1, e4]; exact h3
def ptF (d : Option Nat) (x : TV) (p : Option Reg) (tk : Option Nat) (τ : DS) : DS := putF d x p (putF tk .undef none τ)
theorem pt_s {d tk : Option Nat} {x : TV} {p : Option Reg} {τ : DS} {t : Nat} (h : d ≠ some t) (h2 : tk ≠ some t) : (ptF d x p tk τ).s t = τ.s t ∧ (ptF d x p tk τ).pd t = τ.pd t := by
  obtain ⟨e1, e2⟩ := put_s (x := x) (p := p) (τ := putF tk .undef none τ) h
  obtain ⟨e3, e4⟩ := put_s (x := .undef) (p := none) (τ := τ) h2
  exact ⟨e1.trans e3, e2.trans e4⟩
theorem pt_h {d tk : Option Nat} {x : TV} {p : Option Reg} {τ : DS} : (ptF d x p tk τ).h = τ.h ∧ (ptF d x p tk τ).n = τ.n := by
  unfold ptF
  exact ⟨put_h.1.trans put_h.1, put_h.2.trans put_h.2⟩
theorem pt_x {d tk : Option Nat} {x : TV} {p : Option Reg} {τ : DS} : (ptF d x p tk τ).x = τ.x := by
  unfold ptF
  exact put_x.trans put_x
theorem pt_put {d tk d' : Option Nat} {x x' : TV} {p p' : Option Reg} {τ : DS} (h : ∀ a, d = some a → d' ≠ some a) (h2 : ∀ a, tk = some a → d' ≠ some a) : ptF d x p tk (putF d' x' p' τ) = putF d' x' p' (ptF d x p tk τ) := by
  unfold ptF
  rw [put_comm h2, put_comm h]
theorem pt_comm {d tk d' tk' : Option Nat} {x x' : TV} {p p' : Option Reg} {τ : DS} (h1 : ∀ a, d = some a → d' ≠ some a) (h2 : ∀ a, tk = some a → d' ≠ some a) (h3 : ∀ a, d = some a → tk' ≠ some a) (h4 : ∀ a, tk = some a → tk' ≠ some a) :
    ptF d x p tk (ptF d' x' p' tk' τ) = ptF d' x' p' tk' (ptF d x p tk τ) := by
  show ptF d x p tk (putF d' x' p' (putF tk' .undef none τ)) = _
  rw [pt_put h1 h2, pt_put h3 h4]; rfl
theorem att_put' {d : Option Nat} {x : TV} {p : Option Reg} {l : List Nat} {τ : DS} (hd : ∀ a, d = some a → a ∉ l) : attF l (putF d x p τ) = putF d x p (attF l τ) := by
  cases d with
  | none => rfl
  | some a => exact att_put l τ (hd a rfl)
theorem att_pt {d tk : Option Nat} {x : TV} {p : Option Reg} {l : List Nat} {τ : DS} (hd : ∀ a, d = some a → a ∉ l) (ht : ∀ a, tk = some a → a ∉ l) : attF l (ptF d x p tk τ) = ptF d x p tk (attF l τ) := by
  unfold ptF
  rw [att_put' hd, att_put' ht]
theorem pt_mk {d tk : Option Nat} {x : TV} {p : Option Reg} {τ : DS} {h : Heap} {n : Nat} {y : Option PX} : (⟨(ptF d x p tk τ).s, (ptF d x p tk τ).pd, h, n, y⟩ : DS) = ptF d x p tk ⟨τ.s, τ.pd, h, n, y⟩ := by
  unfold ptF
  cases d <;> cases tk <;> rfl
theorem Hvy.frame2 {A : Ans} {x' : Option PX} {d tk : Option Nat} {x : TV} {p : Option Reg} (hd : ∀ a, d = some a → a ∉ lkT dl o) (ht : ∀ a, tk = some a → a ∉ lkT dl o) : Hvy P F dl o k (ptF d x p tk τ) A x' ↔ Hvy P F dl o k τ A x' :=
  (Hvy.frame hd).trans (Hvy.frame ht)
theorem insS_mem {op : Op} {σ : Operand → TV} {pd : Nat → Option Reg} {t : Nat} {reg : Reg} (h : insS P op σ pd = some (t, reg, true)) : t ∈ opT op := by
  obtain ⟨ty, y, z, q, l, a, b, D⟩ := insS_some.1 h
  rw [D.op]
  simp [opT, tmpsOf, Op.operands]
theorem insS_frame {t : Nat} {reg : Reg} (hs : ∀ u ∈ lkT dl o, τ'.s u = τ.s u ∧ τ'.pd u = τ.pd u) (h : insS P o.op (evf τ.s) τ.pd = some (t, reg, true)) : insS P o.op (evf τ'.s) τ'.pd = some (t, reg, true) := by
  rw [insS_congr (evf_congr fun u hu => (hs u (opT_lk hu)).1) (fun u hu => (hs u (opT_lk hu)).2)]
  exact h
theorem key_slot {k : Ty} {s : Nat → TV} {t : Nat} {y : Operand} {a : den k} (h : keyV k (evf (upd s t .undef) y) = some a) : keyV k (evf s y) = some a := by
  cases y with
  | tmp u =>
    by_cases e : u = t
    · subst e
      have h : keyV k (upd s u .undef u) = some a := h
      rw [upd_eq] at h
      cases k <;> simp [keyV] at h
    · have h : keyV k (upd s t .undef u) = some a := h
      rw [upd_ne e] at h; exact h
  | _ => exact h
theorem key_slot' {k : Ty} {s : Nat → TV} {t : Nat} {y : Operand} {a : den k} (hy : y ≠ .tmp t) (h : keyV k (evf s y) = some a) : keyV k (evf (upd s t .undef) y) = some a := by
  cases y with
  | tmp u =>
    have e : u ≠ t := by rintro rfl; exact hy rfl
    show keyV k (upd s t .undef u) = some a
    rw [upd_ne e]; exact h
  | _ => exact h
theorem tmps_mem {y z : Operand} {u : Nat} (h : y = .tmp u ∨ z = .tmp u) : u ∈ tmpsOf [y, z] := by
  simp only [tmpsOf, List.mem_filterMap]
  rcases h with rfl | rfl
  · exact ⟨.tmp u, by simp, rfl⟩
  · exact ⟨.tmp u, by simp, rfl⟩
theorem App.swap {o1 o2 : Oper} {k1 k2 : KI} {τ τ1 τ2 : DS} (hp : PairP dl o1 k1 o2 k2) (H1 : App P F m dl o1 k1 τ τ1) (H2 : App P F m dl o2 k2 τ1 τ2) : ∃ τ3, App P F m dl o2 k2 τ τ3 ∧ App P F m dl o1 k1 τ3 τ2 := by
  have h4 : ∀ {τ : DS} {A : Ans} {y : Option PX} {o : Oper} {k : KI}, Hvy P F dl o k τ A y → k.kn ≠ 4 := fun V e => by
    have := V.kn
    rw [e] at this
    unfold knX at this; split at this <;> simp at this
  cases H1 with
  | sto hk => exact absurd hk hp.k3.1
  | @ins t reg hk1 hv1 hd1 ht1 hg1 hx1 I1 =>
    have m1 : t ∈ lkT dl o1 := opT_lk (insS_mem I1)
    cases H2 with
    | sto hk => exact absurd hk hp.k3.2
    | @lig x2 p2 q2 hn2 hv2 hd2 L2 c2 =>
      have hn : ¬ (k1.kn = 4 ∧ k2.kn = 4) := fun h => hn2 h.2
      have a1 : t ∉ lkT dl o2 := hp.t1 hn t ht1
      have a2 : ∀ a, q2 = some a → a ∉ lkT dl o1 := fun a e => hp.t2 hn a (L2.tk a e).2.1
      refine ⟨ptF o2.dst x2 p2 q2 τ, .lig hn2 hv2 hd2 (L2.frame (τ' := τ) (fun u hu => ?_) (fun r _ => by rw [put_h.1])) (fun px hx => by rw [hx1] at hx; cases hx), ?_⟩
      · obtain ⟨e1, e2⟩ := put_s (x := .undef) (p := some reg) (τ := τ) (t := u) (d := some t) (fun e => a1 (by cases e; exact hu))
        exact ⟨e1.symm, e2.symm⟩
      · have := App.ins (P := P) (F := F) (m := m) (dl := dl) (τ := ptF o2.dst x2 p2 q2 τ) hk1 hv1 hd1 ht1 hg1 (by rw [pt_x]; exact hx1) (insS_frame (dl := dl) (fun u hu => pt_s (fun e => hp.d2 u e hu) (fun e => a2 u e hu)) I1)
        have e : ptF o2.dst x2 p2 q2 (putF (some t) .undef (some reg) τ) = putF (some t) .undef (some reg) (ptF o2.dst x2 p2 q2 τ) := pt_put (fun a e e' => hp.d2 a e (by cases e'; exact m1)) (fun a e e' => a2 a e (by cases e'; exact m1))
        show App P F m dl o1 k1 _ (ptF o2.dst x2 p2 q2 (putF (some t) .undef (some reg) τ))
        rw [e]; exact this
    | @hvy A y hv2 hd2 V2 hx2 =>
      have hn : ¬ (k1.kn = 4 ∧ k2.kn = 4) := fun h => h4 V2 h.2
      have a1 : ∀ a, (some t : Option Nat) = some a → a ∉ lkT dl o2 := fun a e => by cases e; exact hp.t1 hn t ht1
      have V := (Hvy.frame a1).1 V2
      have hy : y = none := by
        cases y with
        | none => rfl
        | some px => exact absurd ⟨hk1, V.kn⟩ hp.k42
      subst hy
      refine ⟨_, .hvy hv2 hd2 V hx1, ?_⟩
      obtain ⟨o1', o2'⟩ := V.out
      have := App.ins (P := P) (F := F) (m := m) (dl := dl) (τ := putF o2.dst A.v none ⟨(attF (opT o2.op) τ).s, (attF (opT o2.op) τ).pd, A.h, A.n, none⟩) hk1 hv1 hd1 ht1 hg1 (by rw [put_x]) (insS_frame (dl := dl) (τ := τ) (fun u hu => by
        obtain ⟨e1, e2⟩ := put_s (x := A.v) (p := none) (τ := ⟨(attF (opT o2.op) τ).s, (attF (opT o2.op) τ).pd, A.h, A.n, none⟩) (t := u) (d := o2.dst) (fun e => hp.d2 u e hu)
        rw [e1, e2]
        exact o1' u (fun hm => hp.t2 hn u hm hu)) I1)
      have e : putF o2.dst A.v none ⟨(attF (opT o2.op) (putF (some t) .undef (some reg) τ)).s, (attF (opT o2.op) (putF (some t) .undef (some reg) τ)).pd, A.h, A.n, none⟩ = putF (some t) .undef (some reg) (putF o2.dst A.v none ⟨(attF (opT o2.op) τ).s, (attF (opT o2.op) τ).pd, A.h, A.n, none⟩) := by
        rw [att_put' (fun a e h => a1 a e (opT_lk h))]
        exact put_comm (d := o2.dst) (d' := some t) (τ := ⟨(attF (opT o2.op) τ).s, (attF (opT o2.op) τ).pd, A.h, A.n, none⟩) (fun a e e' => hp.d2 a e (by cases e'; exact m1))
      show App P F m dl o1 k1 _ (putF o2.dst A.v none ⟨(attF (opT o2.op) (putF (some t) .undef (some reg) τ)).s, (attF (opT o2.op) (putF (some t) .undef (some reg) τ)).pd, A.h, A.n, none⟩)
      rw [e]; exact this
    | @ins t2 reg2 hk2 hv2 hd2 ht2 hg2 hx2 I2 =>
      obtain ⟨ty1, y1, z1, q1, l1, b1, v1, D1⟩ := insS_some.1 I1
      obtain ⟨ty2, y2, z2, q2, l2, b2, v2, D2⟩ := insS_some.1 I2
      have pd1 : (putF (some t) .undef (some reg) τ).pd = upd τ.pd t (some reg) := rfl
      have s1 : (putF (some t) .undef (some reg) τ).s = upd τ.s t .undef := rfl
      by_cases ht : t2 = t
      · subst ht
        have hpd := D2.sl
        rw [pd1, upd_eq, D1.reg] at hpd
        simp only [Option.some.injEq, Reg.mp.injEq] at hpd
        obtain ⟨rfl, hl⟩ := hpd
        have hl := eq_of_heq hl
        subst hl
        have hk := ordB_sc D1.ord
        have hnew := D2.new
        rw [mhas_sins, Bool.or_eq_false_iff] at hnew
        have hne : b1 ≠ b2 := by rintro rfl; rw [eqK_self hk] at hnew; cases hnew.1
        have al2 : ∀ u ∈ tmpsOf [y2, z2], u ≠ t2 ∧ τ.pd u = none := fun u hu => by
          have := D2.alone u hu
          rw [pd1] at this
          have hut : u ≠ t2 := by rintro rfl; rw [upd_eq] at this; cases this
          rw [upd_ne hut] at this
          exact ⟨hut, this⟩
        have J2 : insS P o2.op (evf τ.s) τ.pd = some (t2, .mp q1 (sins q1.k q1.v l1 b2 v2), true) := insS_some.2 ⟨ty2, y2, z2, q1, l1, b2, v2, D2.op, D1.sl, D2.mp, key_slot (t := t2) D2.ky, key_slot (t := t2) D2.vl, rfl, D1.ord, hnew.2, fun u hu => (al2 u hu).2⟩
        refine ⟨_, .ins hk2 hv2 hd2 ht2 hg2 hx1 J2, ?_⟩
        have hy0 : t2 ∉ tmpsOf [y1, z1] := fun h => (by have := D1.alone t2 h; rw [D1.sl] at this; cases this)
        have hy1 : y1 ≠ .tmp t2 ∧ z1 ≠ .tmp t2 := ⟨fun e => hy0 (tmps_mem (.inl e)), fun e => hy0 (tmps_mem (.inr e))⟩
        have J1 := (insS_some (P := P) (op := o1.op) (σ := evf (upd τ.s t2 .undef)) (pd := upd τ.pd t2 (some (.mp q1 (sins q1.k q1.v l1 b2 v2)))) (t := t2) (reg := .mp q1 (sins q1.k q1.v (sins q1.k q1.v l1 b2 v2) b1 v1))).2 ⟨ty1, y1, z1, q1, _, b1, v1, D1.op, upd_eq, D1.mp, key_slot' hy1.1 D1.ky, key_slot' hy1.2 D1.vl, rfl, D1.ord, by rw [mhas_sins, eqK_ne hk hne, D1.new]; rfl, fun u hu => by
          have h := D1.alone u hu
          have : u ≠ t2 := by rintro rfl; rw [D1.sl] at h; cases h
          rw [upd_ne this]; exact h⟩
        have := App.ins (P := P) (F := F) (m := m) (dl := dl) (τ := putF (some t2) .undef (some (.mp q1 (sins q1.k q1.v l1 b2 v2))) τ) hk1 hv1 hd1 ht1 hg1 hx1 J1
        have e : ∀ r r' : Reg, putF (some t2) .undef (some r) (putF (some t2) .undef (some r') τ) = putF (some t2) .undef (some r) τ := by
          intro r r'
          simp only [putF]
          congr 1
          · funext u; simp only [upd]; split <;> rfl
          · funext u; simp only [upd]; split <;> rfl
        rw [e, sins_comm D1.ord (Ne.symm hne)] at this
        rw [e, D2.reg]
        exact this
      · have hpd := D2.sl
        rw [pd1, upd_ne ht] at hpd
        have al2 : ∀ u ∈ tmpsOf [y2, z2], u ≠ t ∧ τ.pd u = none := fun u hu => by
          have := D2.alone u hu
          rw [pd1] at this
          have hut : u ≠ t := by rintro rfl; rw [upd_eq] at this; cases this
          rw [upd_ne hut] at this
          exact ⟨hut, this⟩
        have J2 : insS P o2.op (evf τ.s) τ.pd = some (t2, reg2, true) := insS_some.2 ⟨ty2, y2, z2, q2, l2, b2, v2, D2.op, hpd, D2.mp, key_slot (t := t) D2.ky, key_slot (t := t) D2.vl, D2.reg, D2.ord, D2.new, fun u hu => (al2 u hu).2⟩
        refine ⟨_, .ins hk2 hv2 hd2 ht2 hg2 hx1 J2, ?_⟩
        have al1 : ∀ u ∈ tmpsOf [y1, z1], u ≠ t2 := fun u hu e => by
          subst e
          have := D1.alone u hu
          rw [hpd] at this; cases this
        have J1 := (insS_some (P := P) (op := o1.op) (σ := evf (upd τ.s t2 .undef)) (pd := upd τ.pd t2 (some reg2)) (t := t) (reg := reg)).2 ⟨ty1, y1, z1, q1, l1, b1, v1, D1.op, by rw [upd_ne (Ne.symm ht)]; exact D1.sl, D1.mp, key_slot' (fun e => al1 t2 (tmps_mem (.inl e)) rfl) D1.ky, key_slot' (fun e => al1 t2 (tmps_mem (.inr e)) rfl) D1.vl, D1.reg, D1.ord, D1.new, fun u hu => by rw [upd_ne (al1 u hu)]; exact D1.alone u hu⟩
        have := App.ins (P := P) (F := F) (m := m) (dl := dl) (τ := putF (some t2) .undef (some reg2) τ) hk1 hv1 hd1 ht1 hg1 hx1 J1
        rw [put_comm (fun a e e' => ht (by cases e; cases e'; rfl))] at this
        exact this
  | @lig x1 p1 q1 hn1 hv1 hd1 L1 c1 =>
    have hn : ¬ (k1.kn = 4 ∧ k2.kn = 4) := fun h => hn1 h.1
    have a1 : ∀ a, q1 = some a → a ∉ lkT dl o2 := fun a e => hp.t1 hn a (L1.tk a e).2.1
    have b1 : ∀ a, q1 = some a → a ∈ lkT dl o1 := fun a e => opT_lk (L1.tk a e).1
    cases H2 with
    | sto hk => exact absurd hk hp.k3.2
    | @ins t reg hk2 hv2 hd2 ht2 hg2 hx2 I2 =>
      have m2 : t ∈ lkT dl o2 := opT_lk (insS_mem I2)
      have a2 : t ∉ lkT dl o1 := hp.t2 hn t ht2
      have hx : τ.x = none := by rw [put_x, put_x] at hx2; exact hx2
      refine ⟨_, .ins hk2 hv2 hd2 ht2 hg2 hx (insS_frame (dl := dl) (fun u hu => ?_) I2), ?_⟩
      · obtain ⟨e1, e2⟩ := pt_s (x := x1) (p := p1) (τ := τ) (t := u) (d := o1.dst) (tk := q1) (fun e => hp.d1 u e hu) (fun e => a1 u e hu)
        exact ⟨e1.symm, e2.symm⟩
      · have := App.lig (F := F) (τ := putF (some t) .undef (some reg) τ) hn1 hv1 hd1 (L1.frame (fun u hu => put_s (fun e => a2 (by cases e; exact hu))) (fun r _ => by rw [put_h.1])) (fun px hx' => c1 px (by rw [put_x] at hx'; exact hx'))
        have e : ptF o1.dst x1 p1 q1 (putF (some t) .undef (some reg) τ) = putF (some t) .undef (some reg) (ptF o1.dst x1 p1 q1 τ) := pt_put (fun a e e' => hp.d1 a e (by cases e'; exact m2)) (fun a e e' => a1 a e (by cases e'; exact m2))
        show App P F m dl o1 k1 _ (putF (some t) .undef (some reg) (ptF o1.dst x1 p1 q1 τ))
        rw [← e]; exact this
    | @lig x2 p2 q2 hn2 hv2 hd2 L2 c2 =>
      have a2 : ∀ a, q2 = some a → a ∉ lkT dl o1 := fun a e => hp.t2 hn a (L2.tk a e).2.1
      have b2 : ∀ a, q2 = some a → a ∈ lkT dl o2 := fun a e => opT_lk (L2.tk a e).1
      refine ⟨ptF o2.dst x2 p2 q2 τ, .lig hn2 hv2 hd2 (L2.frame (τ' := τ) (fun t ht => ?_) (fun r _ => by rw [put_h.1, put_h.1])) (fun px hx => c2 px (by rw [put_x, put_x]; exact hx)), ?_⟩
      · obtain ⟨e1, e2⟩ := pt_s (x := x1) (p := p1) (τ := τ) (t := t) (d := o1.dst) (tk := q1) (fun e => hp.d1 t e ht) (fun e => a1 t e ht)
        exact ⟨e1.symm, e2.symm⟩
      · have := App.lig (F := F) (τ := ptF o2.dst x2 p2 q2 τ) hn1 hv1 hd1 (L1.frame (fun t ht => pt_s (fun e => hp.d2 t e ht) (fun e => a2 t e ht)) (fun r _ => by rw [pt_h.1])) (fun px hx => c1 px (by rw [pt_x] at hx; exact hx))
        have e : ptF o1.dst x1 p1 q1 (ptF o2.dst x2 p2 q2 τ) = ptF o2.dst x2 p2 q2 (ptF o1.dst x1 p1 q1 τ) := pt_comm hp.dn (fun a e e' => hp.d2 a e' (b1 a e)) (fun a e e' => hp.d1 a e (b2 a e')) (fun a e e' => a1 a e (b2 a e'))
        show App P F m dl o1 k1 _ (ptF o2.dst x2 p2 q2 (ptF o1.dst x1 p1 q1 τ))
        rw [← e]; exact this
    | @hvy A y hv2 hd2 V2 hx2 =>
      have V := (Hvy.frame2 hp.d1 a1).1 V2
      have hx : τ.x = none := by rw [put_x, put_x] at hx2; exact hx2
      refine ⟨_, .hvy hv2 hd2 V hx, ?_⟩
      obtain ⟨o1', o2'⟩ := V.out
      have L := L1.frame (τ' := putF o2.dst A.v none ⟨(attF (opT o2.op) τ).s, (attF (opT o2.op) τ).pd, A.h, A.n, y⟩) (fun t ht => by
        obtain ⟨e1, e2⟩ := put_s (x := A.v) (p := none) (τ := ⟨(attF (opT o2.op) τ).s, (attF (opT o2.op) τ).pd, A.h, A.n, y⟩) (t := t) (d := o2.dst) (fun e => hp.d2 t e ht)
        rw [e1, e2]
        exact o1' t (fun hm => hp.t2 hn t hm ht)) (fun r hr => by rw [put_h.1]; exact o2' r (hp.r1 r hr))
      have := App.lig (F := F) hn1 hv1 hd1 L (fun px hx' => by
        rw [put_x] at hx'
        simp only at hx'; subst hx'
        obtain ⟨e1, e2⟩ := EvX.px V.ev
        refine ⟨fun e => hp.dn _ e e1, fun e => hp.d1 _ e (opT_lk (opT_mem e2 rfl)), fun e => hp.k12 ⟨e, V.kn⟩⟩)
      have e : putF o2.dst A.v none ⟨(attF (opT o2.op) (ptF o1.dst x1 p1 q1 τ)).s, (attF (opT o2.op) (ptF o1.dst x1 p1 q1 τ)).pd, A.h, A.n, y⟩ = ptF o1.dst x1 p1 q1 (putF o2.dst A.v none ⟨(attF (opT o2.op) τ).s, (attF (opT o2.op) τ).pd, A.h, A.n, y⟩) := by
        rw [pt_put hp.dn (fun a e e' => hp.d2 a e' (b1 a e)), att_pt (fun a e h => hp.d1 a e (opT_lk h)) (fun a e h => a1 a e (opT_lk h)), pt_mk]
      show App P F m dl o1 k1 _ (putF o2.dst A.v none ⟨(attF (opT o2.op) (ptF o1.dst x1 p1 q1 τ)).s, (attF (opT o2.op) (ptF o1.dst x1 p1 q1 τ)).pd, A.h, A.n, y⟩)
      rw [e]; exact this
  | @hvy A y hv1 hd1 V1 hx1 =>
    have hn : ¬ (k1.kn = 4 ∧ k2.kn = 4) := fun h => h4 V1 h.1
    cases H2 with
    | sto hk => exact absurd hk hp.k3.2
    | @hvy _ _ hv2 => exact absurd ⟨hv1, hv2⟩ hp.hh
    | @ins t reg hk2 hv2 hd2 ht2 hg2 hx2 I2 =>
      have m2 : t ∈ lkT dl o2 := opT_lk (insS_mem I2)
      have a2 : ∀ a, (some t : Option Nat) = some a → a ∉ lkT dl o1 := fun a e => by cases e; exact hp.t2 hn t ht2
      obtain ⟨o1', o2'⟩ := V1.out
      refine ⟨_, .ins hk2 hv2 hd2 ht2 hg2 hx1 (insS_frame (dl := dl) (fun u hu => ?_) I2), ?_⟩
      · obtain ⟨e1, e2⟩ := put_s (x := A.v) (p := none) (τ := ⟨(attF (opT o1.op) τ).s, (attF (opT o1.op) τ).pd, A.h, A.n, y⟩) (t := u) (d := o1.dst) (fun e => hp.d1 u e hu)
        obtain ⟨e3, e4⟩ := o1' u (fun hm => hp.t1 hn u hm hu)
        rw [e1, e2]
        exact ⟨e3.symm, e4.symm⟩
      · have := App.hvy (m := m) (τ := putF (some t) .undef (some reg) τ) hv1 hd1 ((Hvy.frame a2).2 V1) (by rw [put_x]; exact hx1)
        have e : putF (some t) .undef (some reg) (putF o1.dst A.v none ⟨(attF (opT o1.op) τ).s, (attF (opT o1.op) τ).pd, A.h, A.n, y⟩) = putF o1.dst A.v none ⟨(attF (opT o1.op) (putF (some t) .undef (some reg) τ)).s, (attF (opT o1.op) (putF (some t) .undef (some reg) τ)).pd, A.h, A.n, y⟩ := by
          rw [att_put' (fun a e h => a2 a e (opT_lk h))]
          exact (put_comm (d := o1.dst) (d' := some t) (τ := ⟨(attF (opT o1.op) τ).s, (attF (opT o1.op) τ).pd, A.h, A.n, y⟩) (fun a e e' => hp.d1 a e (by cases e'; exact m2))).symm
        show App P F m dl o1 k1 _ (putF (some t) .undef (some reg) (putF o1.dst A.v none ⟨(attF (opT o1.op) τ).s, (attF (opT o1.op) τ).pd, A.h, A.n, y⟩))
        rw [e]; exact this
    | @lig x2 p2 q2 hn2 hv2 hd2 L2 c2 =>
      have a2 : ∀ a, q2 = some a → a ∉ lkT dl o1 := fun a e => hp.t2 hn a (L2.tk a e).2.1
      have b2 : ∀ a, q2 = some a → a ∈ lkT dl o2 := fun a e => opT_lk (L2.tk a e).1
      obtain ⟨o1', o2'⟩ := V1.out
      have L : Lig P dl o2 k2 τ x2 p2 q2 := L2.frame (fun t ht => by
        obtain ⟨e1, e2⟩ := put_s (x := A.v) (p := none) (τ := ⟨(attF (opT o1.op) τ).s, (attF (opT o1.op) τ).pd, A.h, A.n, y⟩) (t := t) (d := o1.dst) (fun e => hp.d1 t e ht)
        obtain ⟨e3, e4⟩ := o1' t (fun hm => hp.t1 hn t hm ht)
        rw [e1, e2]
        exact ⟨e3.symm, e4.symm⟩) (fun r hr => by rw [put_h.1]; exact (o2' r (hp.r2 r hr)).symm)
      refine ⟨ptF o2.dst x2 p2 q2 τ, .lig hn2 hv2 hd2 L (fun px hx => by rw [hx1] at hx; cases hx), ?_⟩
      have := App.hvy (m := m) (τ := ptF o2.dst x2 p2 q2 τ) hv1 hd1 ((Hvy.frame2 hp.d2 a2).2 V1) (by rw [pt_x]; exact hx1)
      have e : ptF o2.dst x2 p2 q2 (putF o1.dst A.v none ⟨(attF (opT o1.op) τ).s, (attF (opT o1.op) τ).pd, A.h, A.n, y⟩) = putF o1.dst A.v none ⟨(attF (opT o1.op) (ptF o2.dst x2 p2 q2 τ)).s, (attF (opT o1.op) (ptF o2.dst x2 p2 q2 τ)).pd, A.h, A.n, y⟩ := by
        rw [pt_put (fun a e e' => hp.dn a e' e) (fun a e e' => hp.d1 a e' (b2 a e)), att_pt (fun a e h => hp.d2 a e (opT_lk h)) (fun a e h => a2 a e (opT_lk h)), pt_mk]
      show App P F m dl o1 k1 _ (ptF o2.dst x2 p2 q2 (putF o1.dst A.v none ⟨(attF (opT o1.op) τ).s, (attF (opT o1.op) τ).pd, A.h, A.n, y⟩))
      rw [e]; exact this
end
end Go.Tw
namespace Go.Tw
open Go Go.RowKit
variable [Grd]
section
variable {w w' : World} {imm imm' ok ok' : Nat → Prop} {μ μ' : Nat → Mu} {h h' : Heap} {n n' : Nat}
theorem TRl.rk : ∀ {t : Ty} {x : den t} {us : List Value} {L : List Nat}, (∀ b ∈ L, ok' b) → TRl w imm ok t x us L → TRl w imm ok' t x us L
  | .int _, _, _, _, _, H => H
  | .bool, _, _, _, _, H => H
  | .str, _, _, _, _, H => H
  | .un, _, _, _, _, H => H
  | .pr a b, x, us, L, hL, H => by
    obtain ⟨u1, u2, L1, L2, rfl, rfl, h1, h2⟩ := H
    exact ⟨u1, u2, L1, L2, rfl, rfl, TRl.rk (fun b hb => hL b (by simp [hb])) h1, TRl.rk (fun b hb => hL b (by simp [hb])) h2⟩
  | .sl t, l, us, L, hL, H => by
    obtain ⟨v, rfl, H⟩ := H
    refine ⟨v, rfl, ?_⟩
    rcases H with H | ⟨A, cap, L', h1, h2, h3, h4⟩
    · exact .inl H
    · refine .inr ⟨A, cap, L', h1, h2, ?_, ?_⟩
      · have hL' : ∀ b ∈ L', ok' b := by
          rcases h4 with ⟨_, rfl, _⟩ | ⟨rfl, _⟩
          · simp
          · exact fun b hb => hL b (by simp [hb])
        exact RL.imp (fun x _ o L'' hl ⟨us, g1, g2⟩ => ⟨us, TRl.rk (fun b hb => hL' b (hl b hb)) g1, g2⟩) h3
      · rcases h4 with h4 | ⟨rfl, g1, _, g3⟩
        · exact .inl h4
        · exact .inr ⟨rfl, g1, hL _ (by simp), g3⟩
  | .ref t, x, us, L, hL, H => by
    obtain ⟨b, o, vs, rfl, rfl, h1, h2, h3⟩ := H
    exact ⟨b, o, vs, rfl, rfl, h1, TRl.rk (by simp) h2, h3⟩
  | .cl g t, x, us, L, hL, H => by
    obtain ⟨vs, rfl, rfl, h1⟩ := H
    exact ⟨vs, rfl, rfl, TRl.rk (by simp) h1⟩
mutual
theorem VR.reok : ∀ (x : TV) (v : Value), VR w imm ok μ h n x v → VR w imm ok' μ h n x v
  | .p u, v, H => by simpa [VR] using H
  | .tr t l, v, H => by simp only [VR] at H ⊢; exact H.rk (by simp)
  | .full r, v, H => by simpa only [VR] using H
  | .sub r off len, v, H => by simpa only [VR] using H
  | .inn r i off, v, H => by simpa only [VR] using H
  | .ptr r i off, v, H => by simpa only [VR] using H
  | .iptr t l i off, v, H => by
    simp only [VR] at H ⊢
    obtain ⟨b, o, h1, h2, h3⟩ := H
    exact ⟨b, o, h1, h2, RL.imp (fun x _ o L'' hl ⟨us, g1, g2⟩ => ⟨us, g1.rk (fun b hb => by have := hl b hb; simp at this), g2⟩) h3⟩
  | .agg cs, v, H => by simp only [VR] at H ⊢; obtain ⟨us, h1, h2⟩ := H; exact ⟨us, h1, VRl.reok cs us h2⟩
  | .tup cs, v, H => by simp only [VR] at H ⊢; obtain ⟨us, h1, h2⟩ := H; exact ⟨us, h1, VRl.reok cs us h2⟩
  | .ifc t x, v, H => by simp only [VR] at H ⊢; obtain ⟨u, h1, h2⟩ := H; exact ⟨u, h1, VR.reok x u h2⟩
  | .fn f fi ca, v, H => by simp only [VR] at H ⊢; obtain ⟨us, vs, h1, h2, h3⟩ := H; exact ⟨us, vs, h1, VRl.reok fi us h2, VRl.reok ca vs h3⟩
  | .mp r, v, H => by simpa only [VR] using H
  | .undef, _, _ => by simp [VR]
theorem VRl.reok : ∀ (xs : List TV) (us : List Value), VRl w imm ok μ h n xs us → VRl w imm ok' μ h n xs us
  | [], us, H => by simpa [VRl] using H
  | x :: xs, us, H => by
    simp only [VRl] at H ⊢
    obtain ⟨u, us', h1, h2, h3⟩ := H
    exact ⟨u, us', h1, VR.reok x u h2, VRl.reok xs us' h3⟩
end
theorem RR.reok {r : Nat} {x : Reg} {L : List Nat} (hL : ∀ b ∈ L, ok' b) (H : RR w imm ok μ h n r x L) : RR w imm ok' μ h n r x L := by
  cases x with
  | row fr t l =>
    simp only [RR] at H ⊢
    rcases H with H | ⟨h1, L', rfl, h2, h3, h4⟩
    · exact .inl H
    · exact .inr ⟨h1, L', rfl, hL _ (by simp), h3, RL.imp (fun x _ o L'' hl ⟨us, g1, g2⟩ => ⟨us, g1.rk (fun b hb => hL b (by simp [hl b hb])), g2⟩) h4⟩
  | box cs =>
    simp only [RR] at H ⊢
    obtain ⟨rfl, h1, h2, us, h3, h4⟩ := H
    exact ⟨rfl, hL _ (by simp), h2, us, VRl.reok _ _ h3, h4⟩
  | mp k l =>
    simp only [RR] at H ⊢
    obtain ⟨rfl, h1, h2⟩ := H
    exact ⟨rfl, hL _ (by simp), h2⟩
theorem HR.frame_out {D : List Nat} (H : HR w imm ok μ h n D) : HR w imm (fun b => ok b ∧ b ∉ D) μ h n [] := by
  obtain ⟨own, H, h1, h2⟩ := H
  refine ⟨own, fun r x hx => ?_, by simp, by simp⟩
  obtain ⟨ha, L, hR, hn, ho⟩ := H r x hx
  exact ⟨ha, L, hR.reok fun b hb => ⟨(hR.blocks b hb).1, fun hd => by have e1 := h2 b hd; rw [ho b hb] at e1; simp at e1⟩, hn, ho⟩
theorem HR.frame_in {D E : List Nat} (H : HR w imm ok' μ h n E) (hok : ∀ b, ok' b → ok b ∧ b ∉ D) (hE : ∀ b ∈ E, b ∉ D) (hD : D.Nodup) : HR w imm ok μ h n (E ++ D) := by
  obtain ⟨own, H, h1, h2⟩ := H
  refine ⟨fun b => if b ∈ D then none else own b, fun r x hx => ?_, List.nodup_append.2 ⟨h1, hD, fun a ha b hb e => by subst e; exact hE a ha hb⟩, fun b hb => ?_⟩
  · obtain ⟨ha, L, hR, hn, ho⟩ := H r x hx
    exact ⟨ha, L, hR.reok fun b hb => (hok b (hR.blocks b hb).1).1, hn, fun b hb => by
      show (if b ∈ D then none else own b) = some r
      rw [if_neg (hok b (hR.blocks b hb).1).2]; exact ho b hb⟩
  · show (if b ∈ D then none else own b) = none
    rcases List.mem_append.1 hb with hb | hb
    · split
      · rfl
      · exact h2 b hb
    · rw [if_pos hb]
mutual
theorem VR.low {im ik : Nat → Prop} {w0 : World} {μ0 : Nat → Mu} {reg : Reg} (hn : hget h n = none) : ∀ (x : TV) (v v' : Value), VR w0 im ik μ0 h n x v → VR w imm ok μ ((n, reg) :: h) (n + 1) x v' → VR w imm ok μ h n x v'
  | .p u, v, v', _, H => by simpa [VR] using H
  | .tr t l, v, v', _, H => by simpa only [VR] using H
  | .full r, v, v', H0, H => by
    simp only [VR] at H0 H ⊢
    have hne : r ≠ n := by omega
    refine ⟨H0.1, ?_⟩
    have := H.2
    simp only [hget, hne, ↓reduceIte] at this; exact this
  | .sub r off len, v, v', H0, H => by
    simp only [VR] at H0 H ⊢
    have hne : r ≠ n := by omega
    refine ⟨H0.1, ?_⟩
    have := H.2
    simp only [hget, hne, ↓reduceIte] at this; exact this
  | .inn r i off, v, v', H0, H => by
    simp only [VR] at H0 H ⊢
    have hne : r ≠ n := by omega
    refine ⟨H0.1, H.2.1, ?_⟩
    have := H.2.2
    simp only [hget, hne, ↓reduceIte] at this; exact this
  | .ptr r i off, v, v', H0, H => by
    simp only [VR] at H0 H ⊢
    have hne : r ≠ n := by omega
    refine ⟨H0.1, ?_⟩
    obtain ⟨_, A, h1, h2⟩ := H
    simp only [hget, hne, ↓reduceIte] at h2
    exact ⟨A, h1, h2⟩
  | .iptr t l i off, v, v', _, H => by simpa only [VR] using H
  | .agg cs, v, v', H0, H => by
    simp only [VR] at H0 H ⊢
    obtain ⟨us0, _, g0⟩ := H0
    obtain ⟨us, h1, h2⟩ := H
    exact ⟨us, h1, VRl.low hn cs us0 us g0 h2⟩
  | .tup cs, v, v', H0, H => by
    simp only [VR] at H0 H ⊢
    obtain ⟨us0, _, g0⟩ := H0
    obtain ⟨us, h1, h2⟩ := H
    exact ⟨us, h1, VRl.low hn cs us0 us g0 h2⟩
  | .ifc t x, v, v', H0, H => by
    simp only [VR] at H0 H ⊢
    obtain ⟨u0, _, g0⟩ := H0
    obtain ⟨u, h1, h2⟩ := H
    exact ⟨u, h1, VR.low hn x u0 u g0 h2⟩
  | .fn f fi ca, v, v', H0, H => by
    simp only [VR] at H0 H ⊢
    obtain ⟨us0, vs0, _, g0, g1⟩ := H0
    obtain ⟨us, vs, h1, h2, h3⟩ := H
    exact ⟨us, vs, h1, VRl.low hn fi us0 us g0 h2, VRl.low hn ca vs0 vs g1 h3⟩
  | .mp r, v, v', H0, H => by
    simp only [VR] at H0 H ⊢
    have hne : r ≠ n := by omega
    refine ⟨H0.1, ?_⟩
    obtain ⟨_, A, h1, h2⟩ := H
    simp only [hget, hne, ↓reduceIte] at h2
    exact ⟨A, h1, h2⟩
  | .undef, _, _, _, _ => by simp [VR]
theorem VRl.low {im ik : Nat → Prop} {w0 : World} {μ0 : Nat → Mu} {reg : Reg} (hn : hget h n = none) : ∀ (xs : List TV) (us us' : List Value), VRl w0 im ik μ0 h n xs us → VRl w imm ok μ ((n, reg) :: h) (n + 1) xs us' → VRl w imm ok μ h n xs us'
  | [], us, us', _, H => by simpa [VRl] using H
  | x :: xs, us, us', H0, H => by
    simp only [VRl] at H0 H ⊢
    obtain ⟨u0, us0, _, g1, g2⟩ := H0
    obtain ⟨u, us1, h1, h2, h3⟩ := H
    exact ⟨u, us1, h1, VR.low hn x u0 u g1 h2, VRl.low hn xs us0 us1 g2 h3⟩
end
theorem HR.nomore {D : List Nat} (H : HR w imm ok μ h n D) : hget h n = none := by
  cases hg : hget h n with
  | none => rfl
  | some x => exact absurd (H.lt hg) (by omega)
theorem HR.pop {im ik : Nat → Prop} {w0 : World} {μ0 : Nat → Mu} {reg : Reg} (H0 : HR w0 im ik μ0 h n []) (H : HR w imm ok μ ((n, reg) :: h) (n + 1) []) :
    ∃ L, RR w imm ok μ ((n, reg) :: h) (n + 1) n reg L ∧ HR w imm ok μ h n L := by
  have hn := H0.nomore
  obtain ⟨own, H, _⟩ := H
  obtain ⟨own0, H0, _⟩ := H0
  obtain ⟨_, L, hR, hnd, ho⟩ := H n reg (by simp [hget])
  refine ⟨L, hR, fun b => if own b = some n then none else own b, fun r x hx => ?_, hnd, fun b hb => by
    show (if own b = some n then none else own b) = none
    rw [if_pos (ho b hb)]⟩
  obtain ⟨hr, L0, hR0, _⟩ := H0 r x hx
  have hne : r ≠ n := by omega
  obtain ⟨_, L1, hR1, hn1, ho1⟩ := H r x (by simp only [hget, hne, ↓reduceIte]; exact hx)
  refine ⟨hr, L1, ?_, hn1, fun b hb => ?_⟩
  · cases x with
    | row fr t l => simpa only [RR] using hR1
    | mp k l => simpa only [RR] using hR1
    | box cs =>
      simp only [RR] at hR1 hR0 ⊢
      obtain ⟨e1, h1, h2, us, h3, h4⟩ := hR1
      obtain ⟨_, _, _, us0, g3, _⟩ := hR0
      exact ⟨e1, h1, h2, us, VRl.low hn cs us0 us g3 h3, h4⟩
  · show (if own b = some n then none else own b) = some r
    rw [ho1 b hb, if_neg (by simpa using hne)]
def PR (w : World) (imm ok : Nat → Prop) : Reg → Value → List Nat → Prop
  | .row fr t l, v, L => ∃ m : Mu, RR w imm ok (fun _ => m) [] 1 0 (.row fr t l) L ∧ SlR w m (sz t) 0 l.length v
  | .box cs, v, L => ∃ b o us, v = .pointer (some ⟨b, o, none⟩) ∧ L = [b] ∧ ok b ∧ Row w b (o + cs.length) ∧ CT w imm ok cs us [] ∧ At w b o us
  | .mp k l, v, L => ∃ b, v = .map (some b) ∧ L = [b] ∧ ok b ∧ MapAt w b k l
theorem PR.mono {reg : Reg} {v : Value} {L : List Nat} (hs : Step imm w w') (hL : ∀ b ∈ L, w'.heap[b]? = w.heap[b]?) (H : PR w imm ok reg v L) : PR w' imm ok reg v L := by
  cases reg with
  | row fr t l =>
    obtain ⟨m, h1, h2⟩ := H
    refine ⟨m, ?_, h2.mono hs.row⟩
    exact RR.mono (K := fun _ => True) ⟨hs, fun _ h => h, fun _ h => h, fun _ _ => rfl, Nat.le_refl _, fun _ _ => Fit.refl _, fun r fr t l _ _ hg => by simp [hget] at hg⟩ (by omega) trivial hL h1
  | box cs =>
    obtain ⟨b, o, us, h1, rfl, h3, h4, h5, h6⟩ := H
    exact ⟨b, o, us, h1, rfl, h3, hs.row _ _ h4, h5.mono (fun _ h => h) (fun _ h => h) hs.low (by simp), h6.same (hL b (by simp))⟩
  | mp k l =>
    obtain ⟨b, h1, rfl, h3, h4⟩ := H
    exact ⟨b, h1, rfl, h3, h4.same (hL b (by simp))⟩
theorem PR.blocks {reg : Reg} {v : Value} {L : List Nat} (H : PR w imm ok reg v L) : ∀ b ∈ L, ok b ∧ b < w.heap.size := by
  cases reg with
  | row fr t l => obtain ⟨m, h1, _⟩ := H; exact h1.blocks
  | box cs => obtain ⟨b, o, us, h1, rfl, h3, h4, _⟩ := H; intro k hk; simp at hk; subst hk; exact ⟨h3, h4.lt⟩
  | mp k l => obtain ⟨b, h1, rfl, h3, h4⟩ := H; intro k hk; simp at hk; subst hk; exact ⟨h3, h4.lt⟩
theorem PR.attach {reg : Reg} {v : Value} {L D : List Nat} (H : PR w imm ok reg v L) (HH : HR w imm ok μ h n (L ++ D)) :
    ∃ m, HR w imm ok (muP μ n m) ((n, reg) :: h) (n + 1) D ∧ VR w imm ok (muP μ n m) ((n, reg) :: h) (n + 1) (ptrOf reg n) v := by
  cases reg with
  | row fr t l =>
    obtain ⟨m, h1, h2⟩ := H
    refine ⟨m, HR.attach HH (Nat.le_refl _) (Nat.lt_succ_self _) (fun r hr => by simp [muP, show r ≠ n by omega]) ?_, ?_⟩
    · simp only [RR, muP_self] at h1 ⊢; exact h1
    · simp only [ptrOf, VR, hget, muP_self, ↓reduceIte]; exact ⟨by omega, h2⟩
  | box cs =>
    obtain ⟨b, o, us, rfl, rfl, h3, h4, h5, h6⟩ := H
    refine ⟨⟨b, o, true⟩, HR.attach HH (Nat.le_refl _) (Nat.lt_succ_self _) (fun r hr => by simp [muP, show r ≠ n by omega]) ?_, ?_⟩
    · simp only [RR, muP_self]; exact ⟨trivial, h3, h4, us, h5.vrl, h6⟩
    · simp only [ptrOf, VR, hget, muP_self, ↓reduceIte]; exact ⟨by omega, _, rfl, by simp⟩
  | mp k l =>
    obtain ⟨b, rfl, rfl, h3, h4⟩ := H
    refine ⟨⟨b, 0, true⟩, HR.attach HH (Nat.le_refl _) (Nat.lt_succ_self _) (fun r hr => by simp [muP, show r ≠ n by omega]) ?_, ?_⟩
    · simp only [RR, muP_self]; exact ⟨trivial, h3, h4⟩
    · simp only [ptrOf, VR, hget, muP_self, ↓reduceIte]; exact ⟨by omega, _, rfl, rfl⟩
theorem PR.of {reg : Reg} {v : Value} {L : List Nat} (hf : ∀ cs, reg = .box cs → flatB cs = true) (hR : RR w imm ok μ ((n, reg) :: h) (n + 1) n reg L) (hV : VR w imm ok μ ((n, reg) :: h) (n + 1) (ptrOf reg n) v) : PR w imm ok reg v L := by
  cases reg with
  | row fr t l =>
    simp only [ptrOf, VR, hget, ↓reduceIte] at hV
    refine ⟨μ n, ?_, hV.2⟩
    simp only [RR] at hR ⊢; exact hR
  | box cs =>
    simp only [ptrOf, VR, hget, ↓reduceIte] at hV
    obtain ⟨_, A, rfl, rfl⟩ := hV
    simp only [RR] at hR
    obtain ⟨rfl, h1, h2, us, h3, h4⟩ := hR
    exact ⟨_, _, us, by simp, rfl, h1, h2, CT.of_vrl (hf cs rfl) h3, h4⟩
  | mp k l =>
    simp only [ptrOf, VR, hget, ↓reduceIte] at hV
    obtain ⟨_, b, rfl, rfl⟩ := hV
    simp only [RR] at hR
    obtain ⟨rfl, h1, h2⟩ := hR
    exact ⟨_, rfl, rfl, h1, h2⟩
end
theorem flatB_pmap : ∀ l : List Value, flatB (l.map .p) = true
  | [] => rfl
  | v :: l => by simp only [List.map_cons, flatB, flatV, Bool.true_and]; exact flatB_pmap l
theorem alcS_flat {P : Program} {op : Op} {σ : Operand → TV} {reg : Reg} {c : Bool} (H : alcS P op σ = some (reg, c)) : ∀ cs, reg = .box cs → flatB cs = true := by
  rintro cs rfl
  cases op <;> simp only [alcS] at H <;> first | (simp at H; done) | skip
  case alloc t =>
    simp only [Option.bind_eq_some_iff] at H
    obtain ⟨z, _, H⟩ := H
    obtain ⟨_, H⟩ := cond_some.1 H
    simp only [Option.some.injEq, Prod.mk.injEq, Reg.box.injEq] at H
    rw [← H.1]; exact flatB_pmap z
  case box t x =>
    obtain ⟨hb, H⟩ := cond_some.1 H
    simp only [Option.some.injEq, Prod.mk.injEq, Reg.box.injEq] at H
    simp only [Bool.and_eq_true] at hb
    rw [← H.1]; exact hb.2
  case buildSlice t l ps =>
    split at H
    · obtain ⟨_, H⟩ := cond_some.1 H
      simp only [Option.bind_eq_some_iff, Option.map_eq_some_iff, Prod.mk.injEq] at H
      obtain ⟨_, _, _, _, h, _⟩ := H
      cases h
    · simp at H
  case makeSlice t l k =>
    split at H
    · simp only [Option.bind_eq_some_iff] at H
      obtain ⟨_, _, H⟩ := H
      obtain ⟨_, H⟩ := cond_some.1 H
      simp at H
    · simp at H
  case makeMap t r =>
    cases r with
    | some r => simp at H
    | none => simp at H
end Go.Tw
