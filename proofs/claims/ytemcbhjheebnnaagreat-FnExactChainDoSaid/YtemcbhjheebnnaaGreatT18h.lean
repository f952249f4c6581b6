/- The logic: a step. -/
import Derived.Test.YtemcbhjheebnnaaGreatT18
set_option linter.all false
namespace Go.Tw
open Go Go.RowKit
variable [k7]
section
variable {P : Program} {F : List bj} {ρ : Type} {σ σ' : Operand → TV} {h : ay} {n : Nat}
theorem lV {α β : Type} {f g : α → List β} : ∀ {l : List α}, (∀ x ∈ l, f x = g x) → l.flatMap f = l.flatMap g
  | [], _ => rfl
  | x :: l, H => by simp only [List.flatMap_cons, H x (by simp), lV (l := l) fun y hy => H y (by simp [hy])]
theorem si {xs : List Operand} (hx : ∀ x ∈ xs, σ x = σ' x) : xs.map σ = xs.map σ' := List.map_congr_left hx
theorem ql {pl : List (Nat × Nat)} : ∀ {z : List TV} {ps : List (Nat × Operand)}, (∀ p ∈ ps, σ p.2 = σ' p.2) → fillS pl σ z ps = fillS pl σ' z ps
  | z, [], _ => rfl
  | z, (i, x) :: ps, H => by
    have e : σ x = σ' x := H (i, x) (by simp)
    simp only [fillS, e]
    split
    · rfl
    · rw [ql (z := vj z _ (clist (σ' x))) (ps := ps) (fun p hp => H p (by simp [hp]))]
theorem qm {e : Ty} : ∀ {h : ay} {f : Bool} {es : List (den e)} {ps : List (Nat × Operand)}, (∀ p ∈ ps, σ p.2 = σ' p.2) → fillE e σ h f es ps = fillE e σ' h f es ps
  | h, f, es, [], _ => rfl
  | h, f, es, (i, x) :: ps, H => by
    have e1 : σ x = σ' x := H (i, x) (by simp)
    simp only [fillE, e1]
    congr 1; funext q; congr 1; funext y
    rw [qm (ps := ps) (fun p hp => H p (by simp [hp]))]
theorem qn {e : Ty} : ∀ {es : List (den e)} {ps : List (Nat × Operand)}, (∀ p ∈ ps, σ p.2 = σ' p.2) → fillF e σ es ps = fillF e σ' es ps
  | es, [], _ => rfl
  | es, (i, x) :: ps, H => by
    have e1 : σ x = σ' x := H (i, x) (by simp)
    simp only [fillF, e1]
    congr 1; congr 1; funext y
    rw [qn (ps := ps) (fun p hp => H p (by simp [hp]))]
theorem nU {ps : Array (Nat × Operand)} (H : ∀ x ∈ (ps.toList.map (·.2)).toArray, σ x = σ' x) : ∀ p ∈ ps.toList, σ p.2 = σ' p.2 := by
  intro p hp
  refine H p.2 ?_
  simp only [List.mem_toArray, List.mem_map]
  exact ⟨p, hp, rfl⟩
theorem uW {x : Option Operand} (H : ∀ y ∈ x.toArray, σ y = σ' y) : x.map σ = x.map σ' := by
  cases x with
  | none => rfl
  | some y => simp at H; simp [H]
theorem wD (op : Op) (H : ∀ x ∈ op.operands, σ x = σ' x) : ex P op σ h n = ex P op σ' h n := by
  cases op
  all_goals simp only [Op.operands] at H
  case build t ps => simp only [ex, ql (nU H)]
  case buildSlice t l ps => simp only [ex, qm (nU H)]
  case makeFunc f a b =>
    simp only [ex]
    rw [si (xs := a.toList) fun x hx => H x (by simp at hx; simp [hx]), si (xs := b.toList) fun x hx => H x (by simp at hx; simp [hx])]
  case slice t x lo hi mx =>
    simp only [ex]
    rw [H x (by simp), uW (x := lo) fun y hy => H y (by simp [hy]), uW (x := hi) fun y hy => H y (by simp [hy]), uW (x := mx) fun y hy => H y (by simp [hy])]
  case call c =>
    simp only [ex]
    split
    · split
      · rename_i x d h1 h2
        have : σ x = σ' x := H x (by simp [Call.operands]; right; simp [← Array.mem_toList_iff, h1])
        rw [this]
      · rfl
    · split
      · rename_i x y t1 t2 r h1 h2
        have e1 : σ x = σ' x := H x (by simp [Call.operands]; right; simp [← Array.mem_toList_iff, h1])
        have e2 : σ y = σ' y := H y (by simp [Call.operands]; right; simp [← Array.mem_toList_iff, h1])
        rw [e1, e2]
      · rfl
    · split
      · rename_i x xs h1
        have e1 : σ x = σ' x := H x (by simp [Call.operands]; right; simp [← Array.mem_toList_iff, h1])
        rw [e1, si (xs := xs) fun y hy => H y (by simp [Call.operands]; right; simp [← Array.mem_toList_iff, h1, hy])]
      · rfl
    · split
      · rename_i x xs h1
        have e1 : σ x = σ' x := H x (by simp [Call.operands]; right; simp [← Array.mem_toList_iff, h1])
        rw [e1, si (xs := xs) fun y hy => H y (by simp [Call.operands]; right; simp [← Array.mem_toList_iff, h1, hy])]
      · rfl
    · split
      · rename_i x d h1 h2
        have : σ x = σ' x := H x (by simp [Call.operands]; right; simp [← Array.mem_toList_iff, h1])
        rw [this]
      · rfl
    · rfl
  all_goals first
    | rfl
    | (simp only [ex]; simp at H; simp only [H]; done)
    | (simp at H; simp [ex, H]; done)
    | skip
theorem nu {c : Call} (H : ∀ x ∈ c.operands, σ x = σ' x) : calleeOf σ c = calleeOf σ' c := by
  unfold calleeOf
  split
  · rename_i x hx
    have e1 : σ x = σ' x := H x (by simp [Call.operands, hx])
    rw [e1, si (xs := c.args.toList) fun y hy => H y (by simp at hy; simp [Call.operands, hy])]
  · rfl
theorem Be {o : Oper} {K : lp → Option ρ} (H : ∀ x ∈ o.op.operands, σ x = σ' x) : Bz P F o σ h n K = Bz P F o σ' h n K := by
  have e := wD (P := P) (h := h) (n := n) o.op H
  unfold Bz
  split
  · rename_i c hc
    rw [hc] at H e
    rw [hc, e, nu (by simpa [Op.operands] using H)]
  · rw [e]
theorem yx {op : Op} (H : ∀ x ∈ op.operands, σ x = σ' x) : alcS P op σ = alcS P op σ' := by
  cases op
  all_goals simp only [Op.operands] at H
  case buildSlice t l ps => simp only [alcS, qn (nU H)]
  case makeMap t r => cases r <;> rfl
  all_goals first
    | rfl
    | (simp at H; simp [alcS, H]; done)
    | skip
theorem Bf {op : Op} (H : ∀ x ∈ op.operands, σ x = σ' x) : rdI op σ = rdI op σ' := by
  cases op
  all_goals simp only [Op.operands] at H
  case call c =>
    simp only [rdI]
    split
    · exact lV fun y hy => by rw [H y (by simp at hy; simp [Call.operands, hy])]
    · rfl
  all_goals first
    | rfl
    | (simp at H; simp [rdI, H]; done)
    | skip
theorem Bg {op : Op} (H : ∀ x ∈ op.operands, σ x = σ' x) : wrI op σ = wrI op σ' := by
  cases op
  all_goals simp only [Op.operands] at H
  case buildSlice t l ps =>
    simp only [wrI]
    have := nU H
    exact lV fun p hp => by rw [this p hp]
  case call c =>
    simp only [wrI]
    split
    · exact lV fun y hy => by rw [H y (by simp at hy; simp [Call.operands, hy])]
    · rfl
  all_goals first
    | rfl
    | (simp at H; simp [wrI, H]; done)
    | skip
theorem Bh {op : Op} (H : ∀ x ∈ op.operands, σ x = σ' x) : IH F op σ = IH F op σ' := by
  unfold IH
  split
  · rw [nu (by simpa [Op.operands] using H)]
  · rfl
theorem EW {o : Oper} {K : lp → Option ρ} {r : ρ} (H : Bz P F o σ h n K = some r) : ∃ A, Bz P F o σ h n some = some A ∧ K A = some r := by
  unfold Bz at H ⊢
  split at H
  · rename_i c hc
    cases hi : mq o.op with
    | true =>
      rw [hi] at H
      simp only [ag, ax] at H ⊢
      obtain ⟨q, h1, cn, h2, H⟩ := H
      cases h3 : (cn.ps.all (fun x => !x.2) && (cn.rm.isOwnF || qj q.2)) with
      | true =>
        rw [h3] at H
        simp only [ag, ax] at H
        obtain ⟨x, h4, y, h5, H⟩ := H
        refine ⟨_, ⟨q, h1, cn, h2, ?_⟩, H⟩
        rw [h3]
        simp only [ag, ax]
        exact ⟨x, h4, y, h5, rfl⟩
      | false =>
        rw [h3] at H
        simp only [al] at H
        · cases h4 : cn.ps.all (fun x => !x.2) with
          | true => rw [h4] at H; simp at H
          | false =>
          rw [h4] at H
          simp only [al] at H
          cases h5 : cn.rm.isMv with
          | true =>
            rw [h5] at H
            simp only [ag] at H
            split at H
            · rename_i h6
              simp only [ax] at H
              obtain ⟨hd, h7, x, h8, y, h9, H⟩ := H
              refine ⟨_, ⟨q, h1, cn, h2, ?_⟩, H⟩
              rw [h3]
              simp only [al, h4, h5, h6, ag, ax]
              exact ⟨hd, h7, x, h8, y, h9, rfl⟩
            simp at H
          | false =>
            rw [h5] at H
            simp at H
    | false =>
      rw [hi] at H
      simp only [al, ax] at H ⊢
      obtain ⟨A, h1, H⟩ := H
      obtain ⟨h2, H⟩ := ah.1 H
      exact ⟨A, ⟨A, h1, ah.2 ⟨h2, rfl⟩⟩, H⟩
  · simp only [ax] at H ⊢
    obtain ⟨A, h1, H⟩ := H
    obtain ⟨h2, H⟩ := ah.1 H
    exact ⟨A, ⟨A, h1, ah.2 ⟨h2, rfl⟩⟩, H⟩
theorem yy {h h' : ay} {x : TV} (H : ∀ r ∈ refT x, hget h' r = hget h r) : frzC h' x = frzC h x := by
  cases x <;> simp_all [frzC, refT]
theorem uX {t : Ty} {x : TV} {h h' : ay} (hr : ∀ r ∈ refT x, hget h' r = hget h r) : (elemsS t x h').map (·.1) = (elemsS t x h).map (·.1) := by
  cases x with
  | full r =>
    have : hget h' r = hget h r := hr r (by simp [refT])
    simp only [elemsS, this]
    split
    · rename_i fr t' l _
      cases cast t' t l <;> rfl
    · rfl
  | sub r off len =>
    have : hget h' r = hget h r := hr r (by simp [refT])
    simp only [elemsS, this]
    split
    · rename_i fr t' l _
      cases cast t' t l <;> rfl
    · rfl
  | tr t' l =>
    simp only [elemsS]
    cases cast t' t l <;> rfl
  | p v =>
    unfold elemsS
    split <;> first | rfl | (rename_i e; cases e; done) | skip
    all_goals (try (split <;> rfl))
  | _ => rfl
theorem yz {P : Program} {s d : TypeId} {x : TV} {h h' : ay} {n n' : Nat} {A : lp} (hr : ∀ r ∈ refT x, hget h' r = hget h r) (H : bytC P s d x h n = some A) : A.h = h ∧ A.n = n ∧ A.k = none ∧ bytC P s d x h' n' = some { A with h := h', n := n' } := by
  unfold bytC at H ⊢
  split at H
  · rename_i e h1 h2
    split at H
    · rename_i h3
      have e := uX (t := .int .u8) hr
      cases hst : isStr x with
      | true => rw [hst] at H; cases H
      | false =>
        rw [hst] at H
        simp only [al, Option.map_eq_some_iff] at H
        obtain ⟨q, hq, rfl⟩ := H
        rw [hq] at e
        simp only [Option.map_some, Option.map_eq_some_iff] at e
        obtain ⟨q', hq', e⟩ := e
        refine ⟨rfl, rfl, rfl, ?_⟩
        simp only [al, hq', Option.map_some, e]
    · simp at H
  · simp at H
theorem HI {op : Op} {A : lp} {h' : ay} {n' : Nat} (hs : stillB op = true) (H : ex P op σ h n = some A) (hr : ∀ r ∈ rdI op σ, hget h' r = hget h r) : A.h = h ∧ A.n = n ∧ A.k = none ∧ ex P op σ h' n' = some { A with h := h', n := n' } := by
  cases op <;> simp only [stillB] at hs <;> first | (simp at hs; done) | skip
  case move x => simp only [ex, af] at H ⊢; subst H; exact ⟨rfl, rfl, rfl, rfl⟩
  case assign x => simp only [ex, af] at H ⊢; subst H; exact ⟨rfl, rfl, rfl, rfl⟩
  case pick a b c => simp only [ex] at H ⊢; split at H <;> first | (simp at H; done) | (simp only [af] at H; subst H; exact ⟨rfl, rfl, rfl, rfl⟩)
  case build t ps =>
    simp only [ex, ax, Option.map_eq_some_iff] at H ⊢
    obtain ⟨z, h1, pl, h2, cs, h3, rfl⟩ := H
    exact ⟨rfl, rfl, rfl, z, h1, pl, h2, cs, h3, rfl⟩
  case load t x =>
    simp only [ex, rdI, ax] at H hr ⊢
    obtain ⟨av, h1, H⟩ := H
    have key : A.h = h ∧ A.n = n ∧ A.k = none ∧ loadS av (σ x) h' n' = some { A with h := h', n := n' } := by
      unfold loadS at H ⊢
      obtain ⟨hb, H⟩ := ah.1 H
      rw [hb, ag]
      split at H
      · rename_i hx
        try simp only [hx]
        obtain ⟨hb, H⟩ := ah.1 H
        rw [hb, ag]
        simp only [af] at H ⊢
        subst H; exact ⟨rfl, rfl, rfl, rfl⟩
      · rename_i r i off hx
        try simp only [hx]
        rw [hr r (by simp [hx, refT])]
        split at H
        · rename_i hg
          try rw [hg]
          obtain ⟨hb, H⟩ := ah.1 H
          simp only [hb, ag, af] at H ⊢
          subst H; exact ⟨rfl, rfl, rfl, rfl⟩
        · rename_i hg
          try rw [hg]
          obtain ⟨hb, H⟩ := ah.1 H
          simp only [hb, ag, af] at H ⊢
          subst H; exact ⟨rfl, rfl, rfl, rfl⟩
        · simp at H
      · simp at H
    exact ⟨key.1, key.2.1, key.2.2.1, av, h1, key.2.2.2⟩
  case nilCheck x => simp only [ex] at H ⊢; split at H <;> first | (simp at H; done) | (simp only [af] at H; subst H; exact ⟨rfl, rfl, rfl, rfl⟩)
  case binOp op t x y t' =>
    simp only [ex] at H ⊢
    unfold binS at H ⊢
    split at H
    · split at H
      all_goals first
        | (simp only [af] at H; subst H; exact ⟨rfl, rfl, rfl, rfl⟩)
        | (split at H <;> first | (simp at H; done) | (rename_i hk; simp only [af] at H; subst H; exact ⟨rfl, rfl, rfl, if_pos hk⟩))
    · split at H
      all_goals first
        | (simp at H; done)
        | (simp only [af] at H; subst H; exact ⟨rfl, rfl, rfl, rfl⟩)
    · cases hg : P.eqGuardType P.depth t with
      | true => simp [hg] at H
      | false =>
        simp only [hg, al] at H ⊢
        split at H
        · split at H
          · simp only [Option.map_eq_some_iff] at H ⊢
            obtain ⟨b, h1, rfl⟩ := H
            exact ⟨rfl, rfl, rfl, b, h1, rfl⟩
          · simp only [Option.map_eq_some_iff] at H ⊢
            obtain ⟨b, h1, rfl⟩ := H
            exact ⟨rfl, rfl, rfl, b, h1, rfl⟩
          · simp at H
        · simp at H
    · split at H
      · simp only [af] at H; subst H; exact ⟨rfl, rfl, rfl, rfl⟩
      · simp only [af] at H; subst H; exact ⟨rfl, rfl, rfl, rfl⟩
      · simp at H
  case unOp op t x => simp only [ex] at H ⊢; split at H <;> first | (simp at H; done) | (simp only [af] at H; subst H; exact ⟨rfl, rfl, rfl, rfl⟩)
  case convert s d x =>
    simp only [ex, rdI] at H hr ⊢
    split at H
    · simp only [af] at H; subst H; exact ⟨rfl, rfl, rfl, rfl⟩
    · simp only [af] at H; subst H; exact ⟨rfl, rfl, rfl, rfl⟩
    · exact yz hr H
  case makeInterface t x => simp only [ex] at H ⊢; split at H <;> first | (simp at H; done) | (simp only [af] at H; subst H; exact ⟨rfl, rfl, rfl, rfl⟩)
  case makeFunc f a b => simp only [ex, af] at H ⊢; subst H; exact ⟨rfl, rfl, rfl, rfl⟩
  case slice t x lo hi mx =>
    simp only [ex, rdI] at H hr ⊢
    unfold sliceS at H ⊢
    split at H
    · simp only [ax] at H ⊢
      obtain ⟨u, h1, H⟩ := H
      split at H
      · simp only [af] at H; subst H; exact ⟨rfl, rfl, rfl, u, h1, rfl⟩
      · simp at H
    · simp only [ax] at H ⊢
      obtain ⟨u, h1, H⟩ := H
      split at H
      · obtain ⟨hb, H⟩ := ah.1 H
        simp only [af] at H; subst H; exact ⟨rfl, rfl, rfl, u, h1, by rw [hb]; rfl⟩
      · simp at H
    · rename_i r l hm hx hl
      rw [hr r (by simp [hx, refT])]
      split at H
      · simp only [ax] at H ⊢
        obtain ⟨u, h1, H⟩ := H
        split at H
        · obtain ⟨hb, H⟩ := ah.1 H
          simp only [af] at H; subst H; exact ⟨rfl, rfl, rfl, u, h1, by rw [hb]; rfl⟩
        · simp at H
      · simp at H
    · rename_i r off len l hm hx hl
      rw [hr r (by simp [hx, refT])]
      split at H
      · simp only [ax] at H ⊢
        obtain ⟨u, h1, H⟩ := H
        split at H
        · obtain ⟨hb, H⟩ := ah.1 H
          simp only [af] at H; subst H; exact ⟨rfl, rfl, rfl, u, h1, by rw [hb]; rfl⟩
        · simp at H
      · simp at H
    · simp only [ax] at H ⊢
      obtain ⟨u, h1, H⟩ := H
      split at H
      · simp only [af] at H; subst H; exact ⟨rfl, rfl, rfl, u, h1, rfl⟩
      · simp at H
    · simp at H
  case fieldAddr t x f => simp only [ex] at H ⊢; split at H <;> first | (simp at H; done) | (simp only [af] at H; subst H; exact ⟨rfl, rfl, rfl, rfl⟩)
  case indexAddr t x i =>
    simp only [ex, rdI] at H hr ⊢
    unfold indexAddrS at H ⊢
    split at H
    · split at H
      · obtain ⟨hb, H⟩ := ah.1 H
        rw [hb, ag]
        simp only [af] at H; subst H; exact ⟨rfl, rfl, rfl, rfl⟩
      · rename_i r hx
        rw [hr r (by simp [hx, refT])]
        split at H
        · obtain ⟨hb, H⟩ := ah.1 H
          rw [hb, ag]
          simp only [af] at H; subst H; exact ⟨rfl, rfl, rfl, rfl⟩
        · simp at H
      · rename_i r off len hx
        rw [hr r (by simp [hx, refT])]
        split at H
        · obtain ⟨hb, H⟩ := ah.1 H
          rw [hb, ag]
          simp only [af] at H; subst H; exact ⟨rfl, rfl, rfl, rfl⟩
        · simp at H
      · simp at H
    · simp at H
  case index t x i => simp only [ex] at H ⊢; split at H <;> first | (simp at H; done) | (simp only [af] at H; subst H; exact ⟨rfl, rfl, rfl, rfl⟩)
  case extract x i =>
    simp only [ex] at H ⊢
    split at H
    · obtain ⟨hb, H⟩ := ah.1 H
      rw [hb, ag]
      simp only [af] at H; subst H; exact ⟨rfl, rfl, rfl, rfl⟩
    · simp at H
  case call c =>
    simp only [ex, rdI] at H hr ⊢
    split at hs
    · rename_i hcl
      simp only [hcl] at H hr ⊢
      split at H
      · rename_i x d h1 h2
        simp only [Option.map_eq_some_iff] at H ⊢
        obtain ⟨m, hm, rfl⟩ := H
        refine ⟨rfl, rfl, rfl, m, ?_, rfl⟩
        have hf : frzC h' (σ x) = frzC h (σ x) := yy fun r hr' => hr r (by simp only [List.mem_flatMap]; exact ⟨x, by rw [h1]; simp, hr'⟩)
        unfold lenS at hm ⊢
        split at hm
        · exact hm
        · rw [hf]; exact hm
        · rename_i e f r hq
          rw [hr r (by simp only [List.mem_flatMap]; exact ⟨x, by rw [h1]; simp, by rw [hq]; simp [refT]⟩)]
          exact hm
        · simp at hm
      · simp at H
    · rename_i hcl
      simp only [hcl] at H ⊢
      split at H
      · obtain ⟨hb, H⟩ := ah.1 H
        simp only [Option.map_eq_some_iff] at H
        obtain ⟨v, hv, rfl⟩ := H
        exact ⟨rfl, rfl, rfl, by rw [hb, hv]; rfl⟩
      · simp at H
    · rename_i hcl
      simp only [hcl] at H ⊢
      split at H
      · obtain ⟨hb, H⟩ := ah.1 H
        simp only [Option.map_eq_some_iff] at H
        obtain ⟨v, hv, rfl⟩ := H
        exact ⟨rfl, rfl, rfl, by rw [hb, hv]; rfl⟩
      · simp at H
    · rename_i hcl
      simp only [hcl] at H ⊢
      split at H
      · split at H
        · simp only [af] at H; subst H; exact ⟨rfl, rfl, rfl, rfl⟩
        · simp at H
      · simp at H
    · simp at hs
  case field t x f =>
    simp only [ex, Option.map_eq_some_iff] at H ⊢
    obtain ⟨v, hv, rfl⟩ := H
    exact ⟨rfl, rfl, rfl, v, hv, rfl⟩
end
end Go.Tw
namespace Go.Tw
open Go Go.RowKit
variable [k7]
section
variable {P : Program} {F : List bj} {ρ : Type} {σ σ' : Operand → TV} {h h' : ay} {n : Nat}
theorem zX : ∀ {cs : List TV} {h : ay}, pB cs = true → absL h cs = some (cs, true, h)
  | [], h, _ => rfl
  | .p v :: cs, h, hp => by simp only [absL, absC, ai]; rw [zX (cs := cs) (by simpa [pB] using hp)]; rfl
theorem zY {e : Ty} : ∀ {ps : List (Nat × Operand)} {es es' : List (den e)} {h : ay}, fillF e σ es ps = some es' → fillE e σ h true es ps = some (h, true, es')
  | [], es, es', h, H => by simp only [fillF, af] at H; subst H; rfl
  | (i, x) :: ps, es, es', h, H => by
    simp only [fillF] at H
    obtain ⟨hb, H⟩ := ah.1 H
    simp only [aA] at hb
    simp only [ax] at H
    obtain ⟨y, h1, H⟩ := H
    simp only [fillE, zX hb.1.1, ai, h1, hb.1.2, hb.2, Bool.and_self, ag]
    exact zY H
theorem EX {op : Op} {bh : dq} {c : Bool} (H : alcS P op σ = some (bh, c)) : ex P op σ h n = some { v := ptrOf bh n, h := (n, bh) :: h, n := n + 1, c := c } := by
  cases op <;> simp only [alcS] at H <;> first | (simp at H; done) | skip
  case alloc t =>
    simp only [ex, ax] at H ⊢
    obtain ⟨z, h1, H⟩ := H
    obtain ⟨hb, H⟩ := ah.1 H
    simp only [af, aG] at H
    obtain ⟨rfl, rfl⟩ := H
    exact ⟨z, h1, by rw [hb]; rfl⟩
  case box t x =>
    obtain ⟨hb, H⟩ := ah.1 H
    simp only [af, aG] at H
    obtain ⟨rfl, rfl⟩ := H
    simp only [aA] at hb
    simp only [ex, hb.1]; rfl
  case buildSlice t l ps =>
    simp only [ex]
    split at H
    · rename_i h1 h2
      try rw [h1, h2]
      obtain ⟨hb, H⟩ := ah.1 H
      simp only [ax, Option.map_eq_some_iff, aG] at H
      obtain ⟨d, h3, es, h4, rfl, rfl⟩ := H
      simp only [hb, ag, h3, ai, zY (h := h) h4]
      rfl
    · simp at H
  case makeSlice t l k =>
    simp only [ex, makeS]
    split at H
    · rename_i h1 h2 h3 h4
      try rw [h1, h2, h3, h4]
      simp only [ax] at H ⊢
      obtain ⟨d, h5, H⟩ := H
      obtain ⟨hb, H⟩ := ah.1 H
      simp only [af, aG] at H
      obtain ⟨rfl, rfl⟩ := H
      exact ⟨d, h5, by rw [hb]; rfl⟩
    · simp at H
  case makeMap t r =>
    cases r with
    | some r => simp at H
    | none =>
    simp only [Option.map_eq_some_iff, aG] at H
    obtain ⟨q, h1, rfl, rfl⟩ := H
    simp only [ex, h1, ai]
    rfl
theorem EY {c f : TV} {fr : Bool} {r : Nat} (H : absC h c = some (f, fr, h')) (hr : r ∉ refT c) : hget h' r = hget h r := by
  unfold absC at H
  split at H
  · simp only [af, aG] at H; rw [H.2.2]
  · simp only [af, aG] at H; rw [H.2.2]
  · split at H
    · simp only [af, aG] at H; rw [← H.2.2, gi, if_neg (by simpa [refT] using hr)]
    · simp at H
  · split at H
    · simp only [af, aG] at H; rw [← H.2.2, gi, if_neg (by simpa [refT] using hr)]
    · simp at H
  · simp at H
theorem pz : ∀ {cs fs : List TV} {fr : Bool} {h h' : ay} {r : Nat}, absL h cs = some (fs, fr, h') → r ∉ cs.flatMap refT → hget h' r = hget h r
  | [], fs, fr, h, h', r, H, _ => by simp only [absL, af, aG] at H; rw [H.2.2]
  | c :: cs, fs, fr, h, h', r, H, hr => by
    simp only [absL, ax, af, aG] at H
    obtain ⟨⟨f1, b1, h1⟩, a1, ⟨f2, b2, h2⟩, a2, _, _, rfl⟩ := H
    simp only [List.flatMap_cons, List.mem_append, not_or] at hr
    rw [pz a2 hr.2, EY a1 hr.1]
theorem tM {e : Ty} : ∀ {ps : List (Nat × Operand)} {es es' : List (den e)} {f f' : Bool} {h h' : ay} {r : Nat}, fillE e σ h f es ps = some (h', f', es') → r ∉ ps.flatMap (fun p => Bi (σ p.2)) → hget h' r = hget h r
  | [], es, es', f, f', h, h', r, H, _ => by simp only [fillE, af, aG] at H; rw [H.1]
  | (i, x) :: ps, es, es', f, f', h, h', r, H, hr => by
    simp only [fillE, ax] at H
    obtain ⟨⟨f1, b1, h1⟩, a1, y, _, H⟩ := H
    obtain ⟨_, H⟩ := ah.1 H
    simp only [List.flatMap_cons, List.mem_append, not_or] at hr
    rw [tM H hr.2, pz a1 hr.1]
theorem pZ {t : Ty} {x : TV} {xs : List (den t)} {f : Bool} {r : Nat} (H : elemsS t x h = some (xs, f, h')) (hr : r ∉ refT x) : hget h' r = hget h r := by
  unfold elemsS at H
  split at H
  · simp only [af, aG] at H; rw [H.2.2]
  · simp only [af, aG] at H; rw [H.2.2]
  · simp only [Option.map_eq_some_iff, aG] at H; obtain ⟨_, _, _, _, rfl⟩ := H; rfl
  · split at H
    · simp only [Option.map_eq_some_iff, aG] at H
      obtain ⟨_, _, _, _, rfl⟩ := H
      cases hasSl t with
      | true => simp only [ag]; rw [gi, if_neg (by simpa [refT] using hr)]
      | false => rfl
    · simp at H
  · split at H
    · simp only [Option.map_eq_some_iff, aG] at H
      obtain ⟨_, _, _, _, rfl⟩ := H
      cases hasSl t with
      | true => simp only [ag]; rw [gi, if_neg (by simpa [refT] using hr)]
      | false => rfl
    · simp at H
  · split at H
    · simp only [af, aG] at H; rw [H.2.2]
    · simp at H
  · simp at H
theorem gj {bh : dq} {r : Nat} (hr : r < n ∨ n + 1 ≤ r) : hget ((n, bh) :: h) r = hget h r := by
  simp only [hget]; rw [if_neg (by omega)]
theorem nv {fr : Bool} : ∀ {cs : List TV} {h : ay} {n : Nat}, n ≤ (opnC fr cs h n).2.2 ∧ ∀ r, (r < n ∨ (opnC fr cs h n).2.2 ≤ r) → hget (opnC fr cs h n).2.1 r = hget h r
  | [], h, n => ⟨Nat.le_refl _, fun _ _ => rfl⟩
  | c :: cs, h, n => by
    cases c
    case tr t l =>
      obtain ⟨h1, h2⟩ := nv (fr := fr) (cs := cs) (h := (n, .row fr t l) :: h) (n := n + 1)
      refine ⟨by simp only [opnC]; omega, fun r hr => ?_⟩
      simp only [opnC] at hr ⊢
      rw [h2 r (by omega), gj (by omega)]
    case fm t l i off =>
      obtain ⟨h1, h2⟩ := nv (fr := fr) (cs := cs) (h := (n, .box (encT t (l.headD (eX t)))) :: h) (n := n + 1)
      refine ⟨by simp only [opnC]; omega, fun r hr => ?_⟩
      simp only [opnC] at hr ⊢
      rw [h2 r (by omega), gj (by omega)]
    all_goals exact nv (fr := fr) (cs := cs) (h := h) (n := n)
theorem pA {fr : Bool} : ∀ {ts : List Ty} {x : den (bg ts)} {h : ay} {n : Nat}, n ≤ (opnL fr ts x h n).2.2 ∧ ∀ r, (r < n ∨ (opnL fr ts x h n).2.2 ≤ r) → hget (opnL fr ts x h n).2.1 r = hget h r
  | [], x, h, n => ⟨Nat.le_refl _, fun _ _ => rfl⟩
  | t :: ts, x, h, n => by
    obtain ⟨h1, h2⟩ := nv (fr := fr) (cs := encT t x.1) (h := h) (n := n)
    obtain ⟨h3, h4⟩ := pA (fr := fr) (ts := ts) (x := x.2) (h := (opnC fr (encT t x.1) h n).2.1) (n := (opnC fr (encT t x.1) h n).2.2)
    refine ⟨by simp only [opnL, np]; omega, fun r hr => ?_⟩
    simp only [opnL, np] at hr ⊢
    rw [h4 r (by omega), h2 r (by omega)]
theorem sj : ∀ {bs : List Bool} {ts : List Ty} {x : den (bg ts)} {h : ay} {n : Nat}, n ≤ (opnX bs ts x h n).2.2 ∧ ∀ r, (r < n ∨ (opnX bs ts x h n).2.2 ≤ r) → hget (opnX bs ts x h n).2.1 r = hget h r
  | _, [], x, h, n => ⟨Nat.le_refl _, fun _ _ => rfl⟩
  | bs, t :: ts, x, h, n => by
    cases he : bs.headD true with
    | true =>
      obtain ⟨h1, h2⟩ := nv (fr := true) (cs := encT t x.1) (h := h) (n := n)
      obtain ⟨h3, h4⟩ := sj (bs := bs.tail) (ts := ts) (x := x.2) (h := (opnC true (encT t x.1) h n).2.1) (n := (opnC true (encT t x.1) h n).2.2)
      refine ⟨by simp only [opnX, he, np]; omega, fun r hr => ?_⟩
      simp only [opnX, he, np] at hr ⊢
      rw [h4 r (by omega), h2 r (by omega)]
    | false =>
      obtain ⟨h3, h4⟩ := sj (bs := bs.tail) (ts := ts) (x := x.2) (h := h) (n := n)
      refine ⟨by simp only [opnX, he]; omega, fun r hr => ?_⟩
      simp only [opnX, he] at hr ⊢
      rw [h4 r hr]
theorem EZ {rm : RM} {ts : List Ty} {x : den (bg ts)} : n ≤ (opnR rm ts x h n).2.2 ∧ ∀ r, (r < n ∨ (opnR rm ts x h n).2.2 ≤ r) → hget (opnR rm ts x h n).2.1 r = hget h r := by
  unfold opnR
  split
  · exact pA
  · exact ⟨Nat.le_refl _, fun _ _ => rfl⟩
  · exact pA
  · exact sj
theorem J9 {op : Op} {A : lp} (H : ex P op σ h n = some A) (hk : A.k = none) : n ≤ A.n ∧ ∀ r, r ∉ wrI op σ → (r < n ∨ A.n ≤ r) → hget A.h r = hget h r := by
  cases hs : stillB op with
  | true =>
    obtain ⟨h1, h2, _, _⟩ := HI (h' := h) (n' := n) hs H (fun _ _ => rfl)
    exact ⟨by omega, fun r _ _ => by rw [h1]⟩
  | false =>
    cases ha : alcS P op σ with
    | some q =>
      obtain ⟨bh, c⟩ := q
      rw [EX ha] at H
      simp only [af] at H; subst H
      exact ⟨by simp, fun r _ hr => gj hr⟩
    | none =>
      cases op <;> simp only [stillB] at hs <;> first | (simp at hs; done) | (simp [ex] at H; done) | skip
      case alloc t =>
        simp only [ex, ax] at H
        obtain ⟨z, _, H⟩ := H
        obtain ⟨_, H⟩ := ah.1 H
        simp only [af] at H; subst H
        exact ⟨by simp, fun r _ hr => gj hr⟩
      case box t x =>
        simp only [ex] at H
        obtain ⟨_, H⟩ := ah.1 H
        simp only [af] at H; subst H
        exact ⟨by simp, fun r _ hr => gj hr⟩
      case buildSlice t l ps =>
        simp only [ex] at H
        split at H
        · obtain ⟨_, H⟩ := ah.1 H
          simp only [ax, Option.map_eq_some_iff] at H
          obtain ⟨d, _, ⟨h1, f, es⟩, h2, rfl⟩ := H
          refine ⟨by simp, fun r hw hr => ?_⟩
          simp only [wrI] at hw
          rw [gj hr, tM h2 hw]
        · simp at H
      case makeSlice t l k =>
        simp only [ex] at H
        unfold makeS at H
        split at H
        · simp only [ax] at H
          obtain ⟨d, _, H⟩ := H
          obtain ⟨_, H⟩ := ah.1 H
          simp only [af] at H; subst H
          exact ⟨by simp, fun r _ hr => gj hr⟩
        · simp at H
      case store t x y =>
        simp only [ex, ax] at H
        obtain ⟨av, _, H⟩ := H
        unfold storeS at H
        split at H
        · rename_i r0 i off hx
          split at H
          · obtain ⟨_, H⟩ := ah.1 H
            simp only [af] at H; subst H
            refine ⟨Nat.le_refl _, fun r hw hr => ?_⟩
            simp only [wrI, hx, refT, List.mem_append, List.mem_singleton, not_or] at hw
            rw [eW, if_neg hw.1]
          · simp only [ax] at H
            obtain ⟨⟨q1, q2, q3⟩, hq, H⟩ := H
            split at H
            · rename_i fr1 t0 l0 hg0
              obtain ⟨_, H⟩ := ah.1 H
              simp only [ax, af] at H
              obtain ⟨e, _, rfl⟩ := H
              refine ⟨Nat.le_refl _, fun r hw hr => ?_⟩
              simp only [wrI, hx, refT, List.mem_append, List.mem_singleton, not_or] at hw
              cases hsl : hasSl t0 with
              | true => rw [hsl] at hk; simp at hk
              | false =>
                simp only [al]
                rw [eW, if_neg hw.1, pz hq hw.2]
            · simp at H
          · simp at H
        · simp at H
      case makeMap t r =>
        simp only [ex, ax] at H
        obtain ⟨k, _, H⟩ := H
        obtain ⟨_, H⟩ := ah.1 H
        simp only [af] at H; subst H
        exact ⟨by simp, fun r _ hr => gj hr⟩
      case lookup t x y q =>
        simp only [ex] at H
        unfold lookupS at H
        split at H
        · split at H
          · split at H
            · obtain ⟨_, _, H⟩ := Option.map_eq_some_iff.1 H
              subst H
              exact ⟨Nat.le_refl _, fun _ _ _ => rfl⟩
            · simp at H
          · simp at H
        · simp at H
      case mapUpdate t x y z =>
        simp only [ex] at H
        unfold nT at H
        split at H
        · rename_i k r0 hk e1
          split at H
          · split at H
            · obtain ⟨_, _, H⟩ := ax.1 H
              obtain ⟨_, _, H⟩ := Option.map_eq_some_iff.1 H
              subst H
              refine ⟨Nat.le_refl _, fun r hw hr => ?_⟩
              simp only [wrI, e1, refT, List.mem_singleton] at hw
              rw [eW, if_neg hw]
            · simp at H
          · simp at H
        · simp at H
      case insert t x y z =>
        simp only [ex] at H
        unfold nT at H
        split at H
        · rename_i k r0 hk e1
          split at H
          · split at H
            · obtain ⟨_, _, H⟩ := ax.1 H
              obtain ⟨_, _, H⟩ := Option.map_eq_some_iff.1 H
              subst H
              refine ⟨Nat.le_refl _, fun r hw hr => ?_⟩
              simp only [wrI, e1, refT, List.mem_singleton] at hw
              rw [eW, if_neg hw]
            · simp at H
          · simp at H
        · simp at H
      case call c =>
        simp only [ex] at H
        split at H
        · rename_i hc; simp [hc] at hs
        rotate_left
        · rename_i hc; simp [hc] at hs
        · rename_i hc; simp [hc] at hs
        · rename_i hc; simp [hc] at hs
        · simp at H
        · rename_i hc
          have key : ∀ {s x : Operand} {tt : TypeId}, c.args.toList = [s, x] → appendS P tt (σ s) (σ x) h n = some A → n ≤ A.n ∧ ∀ r, r ∉ wrI (.call c) σ → (r < n ∨ A.n ≤ r) → hget A.h r = hget h r := by
            intro s x tt hargs H
            have hw : ∀ r, r ∉ wrI (.call c) σ → r ∉ refT (σ s) ∧ r ∉ refT (σ x) := by
              intro r hw
              simp only [wrI, hc, hargs, List.flatMap_cons, List.flatMap_nil, List.append_nil, List.mem_append, not_or] at hw
              exact hw
            unfold appendS at H
            split at H
            · obtain ⟨_, H⟩ := ah.1 H
              simp only [ax] at H
              obtain ⟨⟨xs, f, h1⟩, hel, H⟩ := H
              split at H
              · simp only [af] at H; subst H
                refine ⟨by simp, fun r hw' hr => ?_⟩
                rw [gj hr]; exact pZ hel (hw r hw').2
              · rename_i r0 hs0
                split at H
                · simp only [ax, af] at H
                  obtain ⟨l, _, rfl⟩ := H
                  refine ⟨by simp, fun r hw' hr => ?_⟩
                  have := (hw r hw').1
                  rw [hs0] at this
                  rw [gj hr, gi, if_neg (by simpa [refT] using this)]; exact pZ hel (hw r hw').2
                · simp at H
              · rename_i r0 o0 l0 hs0
                split at H
                · simp only [ax, af] at H
                  obtain ⟨l, _, rfl⟩ := H
                  refine ⟨by simp, fun r hw' hr => ?_⟩
                  have := (hw r hw').1
                  rw [hs0] at this
                  rw [gj hr, gi, if_neg (by simpa [refT] using this)]; exact pZ hel (hw r hw').2
                · simp at H
              · simp at H
            · simp at H
          split at H
          · rename_i s x tt t2 _ h1 h2
            split at H
            · exact key h1 H
            · exact key h1 H
            · unfold appendZ at H
              split at H
              · simp only [ax] at H
                obtain ⟨d, _, H⟩ := H
                obtain ⟨_, H⟩ := ah.1 H
                simp only [af] at H; subst H
                exact ⟨by simp, fun r _ hr => gj hr⟩
              · simp at H
            · simp at H
          · simp at H
theorem sk : ∀ {ps : List (Ty × Bool)} {xs : List TV} {h hd : ay} {r : Nat}, remN h ps xs = some hd → r ∉ xs.flatMap Bi → hget hd r = hget h r
  | [], [], h, hd, r, H, _ => by simp only [remN, af] at H; subst H; rfl
  | [], _ :: _, _, _, _, H, _ => by simp [remN] at H
  | (_, b) :: _, [], _, _, _, H, _ => by cases b <;> simp [remN] at H
  | (t, false) :: ps, x :: xs, h, hd, r, H, hr => by
    simp only [remN] at H
    exact sk H (fun hm => hr (by simp [hm]))
  | (t, true) :: ps, x :: xs, h, hd, r, H, hr => by
    simp only [remN] at H
    obtain ⟨_, H⟩ := ah.1 H
    simp only [ax] at H
    obtain ⟨⟨d, h1⟩, hex, H⟩ := H
    rw [sk H (fun hm => hr (by simp [hm]))]
    simp only [tF, ax] at hex
    obtain ⟨cs, hcs, ⟨fs, f, h2⟩, habs, hx⟩ := hex
    obtain ⟨hf, hx⟩ := ah.1 hx
    simp only [ax, af, aG] at hx
    obtain ⟨d', hd', rfl, rfl⟩ := hx
    refine pz habs (fun hm => hr ?_)
    simp only [List.flatMap_cons, List.mem_append]
    left
    rw [Bi, oi hcs]; exact hm
theorem G6 {o : Oper} {A : lp} (H : Bz P F o σ h n some = some A) : A.c = true ∧ A.k = none ∧ n ≤ A.n ∧ ∀ r, r ∉ wrI o.op σ ++ IH F o.op σ → (r < n ∨ A.n ≤ r) → hget A.h r = hget h r := by
  have plain : ((ex P o.op σ h n).bind fun a => bif a.k.isNone && a.c then some a else none) = some A → A.c = true ∧ A.k = none ∧ n ≤ A.n ∧ ∀ r, r ∉ wrI o.op σ ++ IH F o.op σ → (r < n ∨ A.n ≤ r) → hget A.h r = hget h r := by
    intro H
    simp only [ax] at H
    obtain ⟨A', h1, H⟩ := H
    obtain ⟨hb, H⟩ := ah.1 H
    simp only [af] at H; subst H
    simp only [aA, Option.isNone_iff_eq_none] at hb
    obtain ⟨h2, h3⟩ := J9 h1 hb.1
    exact ⟨hb.2, hb.1, h2, fun r hr h => h3 r (fun hm => hr (List.mem_append_left _ hm)) h⟩
  unfold Bz at H
  split at H
  · rename_i c hc
    cases hi : mq o.op with
    | false => rw [hi] at H; exact plain H
    | true =>
      rw [hi] at H
      simp only [ag, ax] at H
      obtain ⟨q, hq, cn, hcn, H⟩ := H
      cases h3 : (cn.ps.all (fun x => !x.2) && (cn.rm.isOwnF || qj q.2)) with
      | true =>
        rw [h3] at H
        simp only [ag, ax, af] at H
        obtain ⟨x, _, y, _, rfl⟩ := H
        obtain ⟨h1, h2⟩ := EZ (h := h) (n := n) (rm := cn.rm) (ts := cn.rs) (x := y.1)
        exact ⟨rfl, rfl, h1, fun r _ hr => h2 r hr⟩
      | false =>
        rw [h3] at H
        simp only [al] at H
        · cases h4 : cn.ps.all (fun x => !x.2) with
          | true => rw [h4] at H; simp at H
          | false =>
          rw [h4] at H
          simp only [al] at H
          cases h5 : cn.rm.isMv with
          | true =>
            rw [h5] at H
            simp only [ag] at H
            split at H
            · simp only [ax, af] at H
              obtain ⟨hd, h6, x, _, y, _, rfl⟩ := H
              obtain ⟨h1, h2⟩ := pA (fr := true) (ts := cn.rs) (x := y.1) (h := hd) (n := n)
              refine ⟨rfl, rfl, h1, fun r hw hr => ?_⟩
              simp only
              rw [h2 r hr, sk h6]
              intro hm
              apply hw
              apply List.mem_append_right
              rw [hc] at hi ⊢
              simp only [IH, hi, ag, hq, hcn, h4, al]
              exact List.mem_append_right _ hm
            simp at H
          | false =>
            rw [h5] at H
            simp at H
  · exact plain H
end
end Go.Tw
namespace Go.Tw
open Go Go.RowKit
variable [k7]
section
variable {P : Program} {F : List bj} {ρ : Type} {σ σ' : Operand → TV} {h h' : ay} {n : Nat}
theorem tN {op : Op} {dst : Option Nat} (H : ∀ x ∈ op.operands, σ x = σ' x) : apX op dst σ h = apX op dst σ' h := rfl
def Bj (P : Program) (F : List bj) (o : Oper) (σ : Operand → TV) (h : ay) (n : Nat) (A : lp) (x : Option PX) : Prop :=
  (x = none ∧ apX o.op o.dst σ h = none ∧ Bz P F o σ h n some = some A) ∨ ∃ px, x = some px ∧ apX o.op o.dst σ h = some (px, true) ∧ A = { v := .undef, h := h, n := n, c := true }
theorem Bj.congr {o : Oper} {A : lp} {x : Option PX} (H : ∀ x ∈ o.op.operands, σ x = σ' x) : Bj P F o σ h n A x ↔ Bj P F o σ' h n A x := by
  unfold Bj
  rw [tN H, Be H]
theorem Bk {o : Oper} (H : ∀ x ∈ o.op.operands, σ x = σ' x) : G5 F o σ h = G5 F o σ' h := by
  unfold G5
  rw [tN H, Bg H, Bh H]
theorem EP {o : Oper} {K : lp → Option PX → Option ρ} {r : ρ} (H : evX P F o σ h n K = some r) : ∃ A x, Bj P F o σ h n A x ∧ K A x = some r := by
  unfold evX at H
  split at H
  · rename_i px c hpx
    obtain ⟨hc, H⟩ := ah.1 H
    subst hc
    exact ⟨_, _, .inr ⟨px, rfl, hpx, rfl⟩, H⟩
  · rename_i hpx
    obtain ⟨A, h1, h2⟩ := EW H
    exact ⟨A, none, .inl ⟨rfl, hpx, h1⟩, h2⟩
theorem Bj.out {o : Oper} {A : lp} {x : Option PX} (H : Bj P F o σ h n A x) : A.c = true ∧ A.k = none ∧ n ≤ A.n ∧ ∀ r, r ∉ G5 F o σ h → (r < n ∨ A.n ≤ r) → hget A.h r = hget h r := by
  rcases H with ⟨rfl, h1, h2⟩ | ⟨px, rfl, h1, rfl⟩
  · have : G5 F o σ h = wrI o.op σ ++ IH F o.op σ := by simp only [G5, h1]
    rw [this]
    exact G6 h2
  · exact ⟨rfl, rfl, Nat.le_refl _, fun _ _ _ => rfl⟩
theorem Bj.px {o : Oper} {A : lp} {px : PX} (H : Bj P F o σ h n A (some px)) : o.dst = some px.d ∧ .tmp px.src ∈ o.op.operands := by
  rcases H with ⟨h1, _⟩ | ⟨px', h1, h2, _⟩
  · cases h1
  · cases h2
end
structure DS where
  s : Nat → TV
  pd : Nat → Option dq
  h : ay
  n : Nat
  x : Option PX
def lE {α : Type} (f : Nat → α) (k : Nat) (v : α) : Nat → α := fun t => if t = k then v else f t
theorem cZ {α : Type} {f : Nat → α} {k t : Nat} {v : α} (h : t ≠ k) : lE f k v t = f t := if_neg h
theorem ib {α : Type} {f : Nat → α} {k : Nat} {v : α} : lE f k v k = v := if_pos rfl
theorem pC {α : Type} {f : Nat → α} {k k' : Nat} {v v' : α} (h : k ≠ k') : lE (lE f k v) k' v' = lE (lE f k' v') k v := by
  funext t
  simp only [lE]
  by_cases h1 : t = k
  · subst h1; simp [h]
  · simp [h1]
def putF (dst : Option Nat) (x : TV) (p : Option dq) (τ : DS) : DS :=
  match dst with
  | some d => ⟨lE τ.s d x, lE τ.pd d p, τ.h, τ.n, τ.x⟩
  | none => τ
def attF : List Nat → DS → DS
  | [], τ => τ
  | t :: ts, τ => match τ.pd t with
    | some bh => attF ts ⟨lE τ.s t (ny bh τ.h τ.n).1, lE τ.pd t none, (ny bh τ.h τ.n).2.1, (ny bh τ.h τ.n).2.2, τ.x⟩
    | none => attF ts τ
def nz (f : Nat → TV) : Operand → TV
  | .tmp t => f t
  | .const v => .p v
  | .global g => .p (.pointer (some ⟨g, 0, none⟩))
  | .func f => .fn (.func f) [] []
def fU (τ : DL) : DS := ⟨sget τ.s, pget τ.pd, τ.h, τ.n, τ.x⟩
theorem iz (s : List (Nat × TV)) : ev s = nz (sget s) := by funext x; cases x <;> rfl
theorem iL (s : List (Nat × TV)) (d : Nat) (x : TV) : sget ((d, x) :: s) = lE (sget s) d x := by funext t; rw [bZ]; rfl
theorem wG (s : List (Nat × Option dq)) (d : Nat) (x : Option dq) : pget ((d, x) :: s) = lE (pget s) d x := by
  funext t
  simp only [pget, lE]
  by_cases h : t = d
  · subst h; simp
  · have : Nat.beq t d = false := by
      cases hb : Nat.beq t d with
      | false => rfl
      | true => exact absurd (Nat.eq_of_beq_eq_true hb) h
    simp [this, h]
theorem ic (dst : Option Nat) (x : TV) (p : Option dq) (τ : DL) : fU (pt dst x p τ) = putF dst x p (fU τ) := by
  cases dst with
  | none => rfl
  | some d => simp only [pt, putF, fU, iL, wG]
theorem pq : ∀ (l : List Nat) (τ : DL), fU (attL l τ) = attF l (fU τ)
  | [], τ => rfl
  | t :: ts, τ => by
    simp only [attL, attF]
    have e : (fU τ).pd t = pget τ.pd t := rfl
    rw [e]
    cases hp : pget τ.pd t with
    | none => exact pq ts τ
    | some bh => simp only [pq ts]; simp only [fU, iL, wG]
theorem E0 (bh : dq) (h : ay) (n : Nat) : n ≤ (ny bh h n).2.2 ∧ ∀ r, (r < n ∨ (ny bh h n).2.2 ≤ r) → hget (ny bh h n).2.1 r = hget h r := by
  unfold ny
  cases isPM bh with
  | true => exact ⟨Nat.le_refl _, fun _ _ => rfl⟩
  | false =>
    refine ⟨Nat.le_succ _, fun r hr => ?_⟩
    simp only [al] at hr ⊢
    exact gj (by omega)
theorem uY : ∀ (l : List Nat) (τ : DS), τ.n ≤ (attF l τ).n ∧ (∀ t, ¬ (t ∈ l ∧ (τ.pd t).isSome = true) → (attF l τ).s t = τ.s t ∧ (attF l τ).pd t = τ.pd t) ∧ ∀ r, (r < τ.n ∨ (attF l τ).n ≤ r) → hget (attF l τ).h r = hget τ.h r
  | [], τ => ⟨Nat.le_refl _, fun _ _ => ⟨rfl, rfl⟩, fun _ _ => rfl⟩
  | t :: ts, τ => by
    simp only [attF]
    cases hp : τ.pd t with
    | none =>
      obtain ⟨h1, h2, h3⟩ := uY ts τ
      exact ⟨h1, fun u hu => h2 u (fun hm => hu ⟨by simp [hm.1], hm.2⟩), h3⟩
    | some bh =>
      obtain ⟨h1, h2, h3⟩ := uY ts ⟨lE τ.s t (ny bh τ.h τ.n).1, lE τ.pd t none, (ny bh τ.h τ.n).2.1, (ny bh τ.h τ.n).2.2, τ.x⟩
      obtain ⟨g1, g2⟩ := E0 bh τ.h τ.n
      simp only at h1 h2 h3 ⊢
      refine ⟨by omega, fun u hu => ?_, fun r hr => by rw [h3 r (by omega), g2 r (by omega)]⟩
      have hne : u ≠ t := by rintro rfl; exact hu ⟨by simp, by rw [hp]; rfl⟩
      obtain ⟨e1, e2⟩ := h2 u (fun hm => hu ⟨by simp [hm.1], by rw [cZ hne] at hm; exact hm.2⟩)
      exact ⟨by rw [e1, cZ hne], by rw [e2, cZ hne]⟩
theorem qO {d : Nat} {x : TV} {p : Option dq} : ∀ (l : List Nat) (τ : DS), d ∉ l → attF l (putF (some d) x p τ) = putF (some d) x p (attF l τ)
  | [], τ, _ => rfl
  | t :: ts, τ, hd => by
    simp only [List.mem_cons, not_or] at hd
    simp only [attF]
    have e : (putF (some d) x p τ).pd t = τ.pd t := cZ (Ne.symm hd.1)
    rw [e]
    cases hp : τ.pd t with
    | none => exact qO ts τ hd.2
    | some bh =>
      have h1 := qO ts ⟨lE τ.s t (ny bh τ.h τ.n).1, lE τ.pd t none, (ny bh τ.h τ.n).2.1, (ny bh τ.h τ.n).2.2, τ.x⟩ hd.2 (x := x) (p := p)
      simp only [putF] at h1 ⊢
      rw [pC (f := τ.s) hd.1, pC (f := τ.pd) hd.1]; exact h1
theorem put_comm {d d' : Option Nat} {x x' : TV} {p p' : Option dq} {τ : DS} (h : ∀ a, d = some a → d' ≠ some a) : putF d x p (putF d' x' p' τ) = putF d' x' p' (putF d x p τ) := by
  cases d with
  | none => rfl
  | some a =>
    cases d' with
    | none => rfl
    | some b =>
      have hne : b ≠ a := by rintro rfl; exact h _ rfl rfl
      simp only [putF]
      rw [pC (f := τ.s) hne, pC (f := τ.pd) hne]
theorem nA {d : Option Nat} {x : TV} {p : Option dq} {τ : DS} {t : Nat} (h : d ≠ some t) : (putF d x p τ).s t = τ.s t ∧ (putF d x p τ).pd t = τ.pd t := by
  cases d with
  | none => exact ⟨rfl, rfl⟩
  | some a =>
    have hne : t ≠ a := by rintro rfl; exact h rfl
    exact ⟨cZ hne, cZ hne⟩
theorem ix {d : Option Nat} {x : TV} {p : Option dq} {τ : DS} : (putF d x p τ).h = τ.h ∧ (putF d x p τ).n = τ.n := by cases d <;> exact ⟨rfl, rfl⟩
theorem ki {d : Option Nat} {x : TV} {p : Option dq} {τ : DS} : (putF d x p τ).x = τ.x := by cases d <;> rfl
theorem E1 : ∀ (l : List Nat) (τ : DS), (attF l τ).x = τ.x
  | [], τ => rfl
  | t :: ts, τ => by
    simp only [attF]
    split
    · rw [E1 ts]
    · exact E1 ts τ
section
variable (P : Program) (F : List bj) (m : Fm) (dl : List (Option Tmp)) (g : Nat)
def Bc (o : Oper) (s : Nat → TV) : Prop := o.guard = none ∨ ∃ j want t, o.guard = some (j, want) ∧ dl.getD j none = some t ∧ gv want (s t) = some true
def Ny (o : Oper) (s : Nat → TV) : Prop := ∃ j want t, o.guard = some (j, want) ∧ dl.getD j none = some t ∧ (gv want (s t) = some false ∨ isUn (s t) = true)
inductive Bl (o : Oper) (k : KI) (τ : DS) : TV → Option dq → Option Nat → Prop
  | skip : Ny dl o τ.s → Bl o k τ (.mF []) none none
  | idx (t : Nat) (bh : dq) : Bc dl o τ.s → idxS o.op (nz τ.s) τ.pd = some (t, bh, true) → o.dst.isSome = true → o.dst ≠ some t → t ∈ k.ta → Bl o k τ .undef (some bh) (some t)
  | ld (v : TV) : Bc dl o τ.s → ldS P o.op (nz τ.s) τ.pd = some v → Bl o k τ v none none
  | KB (b : Bool) (x y : TV) : Bc dl o τ.s → ldP P g o.op (nz τ.s) τ.pd = some (b, x, y) → Bl o k τ (bif b then x else y) none none
  | NN (bh : dq) : Bc dl o τ.s → (∀ t ∈ dY o.op, τ.pd t = none) → alcS P o.op (nz τ.s) = some (bh, true) → o.dst.isSome = true → k.kn = 1 → Bl o k τ .undef (some bh) none
  | free (A : lp) : Bc dl o τ.s → (∀ t ∈ dY o.op, τ.pd t = none) → stillB o.op = true → ex P o.op (nz τ.s) τ.h τ.n = some A → A.c = true → (∀ r ∈ rdI o.op (nz τ.s), r ∈ k.rd) → Bl o k τ A.v none none
structure wY (o : Oper) (k : KI) (τ : DS) (A : lp) (x : Option PX) : Prop where
  RI : Bc dl o τ.s
  ev : Bj P F o (nz (attF (dY o.op) τ).s) (attF (dY o.op) τ).h (attF (dY o.op) τ).n A x
  wr : ∀ r ∈ G5 F o (nz (attF (dY o.op) τ).s) (attF (dY o.op) τ).h, r ∈ k.wr
  nw : ∀ r, τ.n ≤ r → r < A.n → r ∈ k.wr
  ta : ∀ t ∈ dY o.op, (τ.pd t).isSome = true → t ∈ k.ta
  kn : k.kn = knX x
inductive App (o : Oper) (k : KI) : DS → DS → Prop
  | vk {τ : DS} {x : TV} {p : Option dq} {tk : Option Nat} : k.kn ≠ 4 → k.hv = false → jn m o.dst = true → Bl P dl g o k τ x p tk → (∀ px, τ.x = some px → o.dst ≠ some px.d ∧ o.dst ≠ some px.src ∧ k.kn ≠ 1) → App o k τ (putF o.dst x p (putF tk .undef none τ))
  | tq {τ : DS} {A : lp} {x : Option PX} : k.hv = true → jn m o.dst = true → wY P F dl o k τ A x → τ.x = none → App o k τ (putF o.dst A.v none ⟨(attF (dY o.op) τ).s, (attF (dY o.op) τ).pd, A.h, A.n, x⟩)
  | ins {τ : DS} {t : Nat} {bh : dq} {rd : List Nat} : k.kn = 4 → k.hv = false → o.dst = none → t ∈ k.ta → o.guard = none → τ.x = none → insS P g τ.h o.op (nz τ.s) τ.pd = some (t, bh, true, rd) → (∀ r ∈ rd, r ∈ k.rd) → App o k τ (putF (some t) .undef (some bh) τ)
end
section
variable {P : Program} {F : List bj} {m : Fm} {dl : List (Option Tmp)} {g : Nat} {o : Oper} {k : KI} {τ τ' : DS}
theorem zZ {x : Operand} {t : Nat} (h : x ∈ o.op.operands) (e : x = .tmp t) : t ∈ dY o.op := by
  subst e
  simp only [dY, tmpsOf, List.mem_filterMap]
  exact ⟨.tmp t, by simpa using h, rfl⟩
theorem p7 {s s' : Nat → TV} (h : ∀ t ∈ dY o.op, s' t = s t) : ∀ x ∈ o.op.operands, nz s' x = nz s x := by
  intro x hx
  cases x with
  | tmp t => exact h t (zZ hx rfl)
  | _ => rfl
theorem fj {t : Nat} (h : t ∈ dY o.op) : t ∈ lkT dl o := by simp [lkT, h]
theorem wH {j : Nat} {want : Bool} {t : Nat} (h : o.guard = some (j, want)) (ht : dl.getD j none = some t) : t ∈ lkT dl o := by unfold lkT; rw [h]; simp only [ht]; simp
theorem Bc.congr {s s' : Nat → TV} (h : ∀ t ∈ lkT dl o, s' t = s t) (H : Bc dl o s) : Bc dl o s' := by
  rcases H with H | ⟨j, want, t, h1, h2, h3⟩
  · exact .inl H
  · exact .inr ⟨j, want, t, h1, h2, by rw [h t (wH h1 h2)]; exact h3⟩
theorem Ny.congr {s s' : Nat → TV} (h : ∀ t ∈ lkT dl o, s' t = s t) (H : Ny dl o s) : Ny dl o s' := by
  obtain ⟨j, want, t, h1, h2, h3⟩ := H
  exact ⟨j, want, t, h1, h2, by rw [h t (wH h1 h2)]; exact h3⟩
theorem yA {op : Op} {σ σ' : Operand → TV} {pd pd' : Nat → Option dq} (H : ∀ x ∈ op.operands, σ' x = σ x) (hp : ∀ t ∈ dY op, pd' t = pd t) : idxS op σ' pd' = idxS op σ pd := by
  cases op with
  | move x =>
    cases x with
    | tmp t =>
      have e1 : pd' t = pd t := hp t (by simp [dY, tmpsOf, Op.operands])
      simp only [idxS, e1]
    | _ => rfl
  | _ => rfl
theorem Bm {op : Op} {σ σ' : Operand → TV} {pd pd' : Nat → Option dq} (H : ∀ x ∈ op.operands, σ' x = σ x) (hp : ∀ t ∈ dY op, pd' t = pd t) : ldS P op σ' pd' = ldS P op σ pd := by
  cases op with
  | lookup ty x y ok =>
    cases x with
    | tmp t =>
      have e1 : pd' t = pd t := hp t (by simp [dY, tmpsOf, Op.operands])
      have e2 : σ' y = σ y := H y (by simp [Op.operands])
      simp only [ldS, e1, e2]
    | _ => rfl
  | _ => rfl
theorem Bn {op : Op} {σ σ' : Operand → TV} {pd pd' : Nat → Option dq} (H : ∀ x ∈ op.operands, σ' x = σ x) (hp : ∀ t ∈ dY op, pd' t = pd t) : ldP P g op σ' pd' = ldP P g op σ pd := by
  cases op with
  | lookup ty x y ok =>
    cases x with
    | tmp t =>
      cases ok with
      | true => rfl
      | false =>
        have e1 : pd' t = pd t := hp t (by simp [dY, tmpsOf, Op.operands])
        have e2 : σ' y = σ y := H y (by simp [Op.operands])
        simp only [ldP, e1, e2]
    | _ => rfl
  | _ => rfl
structure Qp (P : Program) (g : Nat) (h : ay) (op : Op) (σ : Operand → TV) (pd : Nat → Option dq) (t : Nat) (bh : dq) (rd : List Nat) (ty : TypeId) (y z : Operand) (q : MQ) (l : List (den q.k × den q.v)) (a : den q.k) (b : den q.v) : Prop where
  op : op = .insert ty (.tmp t) y z
  sl : pd t = some (.mp q l)
  mp : yj P ty = some q
  ky : keyV q.k (σ y) = some a
  vl : wZ g h q.v (σ z) = some (b, rd)
  bh : bh = .mp q (sins q.k q.v l a b)
  ord : AZ q.k = true
  new : jb q.k q.v l a = false
  alone : ∀ u ∈ tmpsOf [y, z], pd u = none
theorem gI {h : ay} {op : Op} {σ : Operand → TV} {pd : Nat → Option dq} {t : Nat} {bh : dq} {rd : List Nat} : insS P g h op σ pd = some (t, bh, true, rd) ↔ ∃ ty y z q l a b, Qp P g h op σ pd t bh rd ty y z q l a b := by
  constructor
  · intro h
    unfold insS at h
    split at h
    · split at h
      · rename_i ty t' y z _ _ q l q2 h1 h2
        split at h
        · rename_i e; subst e
          simp only [ax, Option.map_eq_some_iff, aG, aA, Bool.not_eq_true'] at h
          obtain ⟨a, h3, ⟨b, rd'⟩, h4, rfl, rfl, ⟨⟨h5, h6⟩, h7⟩, rfl⟩ := h
          exact ⟨ty, y, z, q, l, a, b, rfl, h1, h2, h3, h4, rfl, h5, h6, fun u hu => Option.isNone_iff_eq_none.1 (List.all_eq_true.1 h7 u hu)⟩
        · simp at h
      · simp at h
    · simp at h
  · rintro ⟨ty, y, z, q, l, a, b, rfl, h1, h2, h3, h4, rfl, h5, h6, h7⟩
    have h8 : ((tmpsOf [y, z]).all fun u => (pd u).isNone) = true := List.all_eq_true.2 fun u hu => by rw [h7 u hu]; rfl
    simp only [insS, h1, h2, if_pos, h3, h4, ai, Option.map_some, h5, h6, h8]
    rfl
theorem Nz {h h' : ay} {t : Ty} {x : TV} {b : den t} {rd : List Nat} (H : wZ g h t x = some (b, rd)) (hr : ∀ r ∈ rd, hget h' r = hget h r) : wZ g h' t x = some (b, rd) := by
  unfold wZ at H ⊢
  split at H
  · rename_i e; subst e
    split at H
    · rename_i r i off
      obtain ⟨hc, H⟩ := ah.1 H
      simp only [af, aG] at H
      obtain ⟨rfl, rfl⟩ := H
      rw [dif_pos rfl]
      simp only [hr r (by simp), hc, ag]
    · cases H
  · rename_i e
    rw [dif_neg e]; exact H
theorem Bo {h : ay} {t : Ty} : wZ g h t .undef = none := by
  unfold wZ
  split
  · rfl
  · cases t <;> rfl
theorem E2 {op : Op} {σ : Operand → TV} {pd : Nat → Option dq} {t : Nat} {bh : dq} {c : Bool} (h : idxS op σ pd = some (t, bh, c)) : t ∈ dY op := by
  cases op with
  | move x =>
    cases x with
    | tmp t' =>
      simp only [idxS] at h
      split at h
      · simp only [af, aG] at h
        rw [← h.1]; simp [dY, tmpsOf, Op.operands]
      · simp at h
    | _ => simp [idxS] at h
  | _ => simp [idxS] at h
theorem Bl.tk {x : TV} {p : Option dq} {tk : Option Nat} (H : Bl P dl g o k τ x p tk) : ∀ t, tk = some t → t ∈ dY o.op ∧ t ∈ k.ta ∧ o.dst ≠ some t := by
  cases H with
  | idx t bh _ h _ h2 h3 => intro t' e; cases e; exact ⟨E2 h, h3, h2⟩
  | _ => intro t' e; cases e
theorem Bl.frame {x : TV} {p : Option dq} {tk : Option Nat} (hs : ∀ t ∈ lkT dl o, τ'.s t = τ.s t ∧ τ'.pd t = τ.pd t) (hr : ∀ r ∈ k.rd, hget τ'.h r = hget τ.h r) (H : Bl P dl g o k τ x p tk) : Bl P dl g o k τ' x p tk := by
  have hev : ∀ x ∈ o.op.operands, nz τ'.s x = nz τ.s x := p7 fun t ht => (hs t (fj ht)).1
  have hw : ∀ t ∈ lkT dl o, τ'.s t = τ.s t := fun t ht => (hs t ht).1
  have hpd : (∀ t ∈ dY o.op, τ.pd t = none) → ∀ t ∈ dY o.op, τ'.pd t = none := fun h t ht => by rw [(hs t (fj ht)).2]; exact h t ht
  cases H with
  | skip h => exact .skip (h.congr hw)
  | idx t bh h1 h2 h3 h4 h5 => exact .idx t bh (h1.congr hw) (by rw [yA hev (fun t ht => (hs t (fj ht)).2)]; exact h2) h3 h4 h5
  | ld v h1 h2 => exact .ld _ (h1.congr hw) (by rw [Bm hev (fun t ht => (hs t (fj ht)).2)]; exact h2)
  | KB b x y h1 h2 => exact .KB b x y (h1.congr hw) (by rw [Bn hev (fun t ht => (hs t (fj ht)).2)]; exact h2)
  | NN bh h1 h2 h3 h4 h5 => exact .NN bh (h1.congr hw) (hpd h2) (by rw [yx hev]; exact h3) h4 h5
  | free A h1 h2 h3 h4 h5 h6 =>
    have e := wD (P := P) (h := τ'.h) (n := τ'.n) o.op hev
    obtain ⟨_, _, _, h7⟩ := HI (h' := τ'.h) (n' := τ'.n) h3 h4 (fun r hr' => hr r (h6 r hr'))
    exact .free { A with h := τ'.h, n := τ'.n } (h1.congr hw) (hpd h2) h3 (by rw [e]; exact h7) h5 (by rw [Bf hev]; exact h6)
structure wx (dl : List (Option Tmp)) (o1 : Oper) (k1 : KI) (o2 : Oper) (k2 : KI) : Prop where
  d1 : ∀ d, o1.dst = some d → d ∉ lkT dl o2
  d2 : ∀ d, o2.dst = some d → d ∉ lkT dl o1
  dn : ∀ d, o1.dst = some d → o2.dst ≠ some d
  hh : ¬ (k1.hv = true ∧ k2.hv = true)
  r1 : ∀ r ∈ k1.rd, r ∉ k2.wr
  r2 : ∀ r ∈ k2.rd, r ∉ k1.wr
  t1 : ¬ (k1.kn = 4 ∧ k2.kn = 4) → ∀ t ∈ k1.ta, t ∉ lkT dl o2
  t2 : ¬ (k1.kn = 4 ∧ k2.kn = 4) → ∀ t ∈ k2.ta, t ∉ lkT dl o1
  RO : ¬ (k1.kn = 2 ∧ k2.kn = 4)
  RJ : ¬ (k1.kn = 4 ∧ k2.kn = 2)
  k3 : k1.kn ≠ 3 ∧ k2.kn ≠ 3
  nZ : ¬ (k1.kn = 1 ∧ k2.kn = 2)
  RP : ¬ (k1.kn = 2 ∧ k2.kn = 1)
theorem Ka : ∀ {a b : Nat}, knB a b = true → ((a ≠ 3 ∧ b ≠ 3) ∧ ¬ (a = 1 ∧ b = 2) ∧ ¬ (a = 2 ∧ b = 1)) ∧ ¬ (a = 2 ∧ b = 4) ∧ ¬ (a = 4 ∧ b = 2) := by
  intro a b h
  unfold knB at h
  split at h
  all_goals first
    | (simp at h; done)
    | (refine ⟨⟨⟨by omega, by omega⟩, by omega, by omega⟩, by omega, by omega⟩)
theorem qP {a b : List Nat} (h : sn a b = true) : ∀ r ∈ a, r ∉ b := by
  intro r hr hb
  have := List.all_eq_true.1 (List.all_eq_true.1 h r hr) r hb
  simp at this
theorem oG {d : Option Nat} {l : List Nat} (h : Bp d l = true) : ∀ a, d = some a → a ∉ l := by
  rintro a rfl hm
  have := List.all_eq_true.1 h a hm
  simp at this
theorem ER {o1 o2 : Oper} {k1 k2 : KI} (h : E3 dl o1 k1 o2 k2 = true) : wx dl o1 k1 o2 k2 := by
  simp only [E3, aA, Bool.not_eq_true'] at h
  obtain ⟨⟨⟨⟨⟨⟨⟨h0, h1⟩, h2⟩, h3⟩, h4⟩, h5⟩, h6⟩, h7⟩ := h
  obtain ⟨⟨j1, j2, j3⟩, j4, j5⟩ := Ka h0
  have h78 : ¬ (k1.kn = 4 ∧ k2.kn = 4) → sn k1.ta (lkT dl o2) = true ∧ sn k2.ta (lkT dl o1) = true := by
    intro hn
    rcases Bool.or_eq_true_iff.1 h7 with h | h
    · rw [aA] at h
      exact absurd ⟨Nat.eq_of_beq_eq_true h.1, Nat.eq_of_beq_eq_true h.2⟩ hn
    · simpa [aA] using h
  refine ⟨oG h1, oG h2, ?_, ?_, qP h5, qP h6, fun hn => qP (h78 hn).1, fun hn => qP (h78 hn).2, j4, j5, j1, j2, j3⟩
  · rintro d e1 e2
    rw [e1, e2] at h3
    simp [neB] at h3
  · rintro ⟨e1, e2⟩
    rw [e1, e2] at h4
    simp at h4
theorem wY.out {A : lp} {x' : Option PX} (H : wY P F dl o k τ A x') : (∀ t, t ∉ k.ta → (attF (dY o.op) τ).s t = τ.s t ∧ (attF (dY o.op) τ).pd t = τ.pd t) ∧ ∀ r, r ∉ k.wr → hget A.h r = hget τ.h r := by
  obtain ⟨h1, h2, h3⟩ := uY (dY o.op) τ
  obtain ⟨_, _, h4, h5⟩ := Bj.out H.ev
  refine ⟨fun t ht => h2 t (fun hm => ht (H.ta t hm.1 hm.2)), fun r hr => ?_⟩
  have hn : r < τ.n ∨ A.n ≤ r := by
    rcases Nat.lt_or_ge r τ.n with h | h
    · exact .inl h
    · rcases Nat.lt_or_ge r A.n with h' | h'
      · exact absurd (H.nw r h h') hr
      · exact .inr h'
  rw [h5 r (fun hm => hr (H.wr r hm)) (by omega), h3 r (by omega)]
theorem wY.frame {A : lp} {x' : Option PX} {d : Option Nat} {x : TV} {p : Option dq} (hd : ∀ a, d = some a → a ∉ lkT dl o) : wY P F dl o k (putF d x p τ) A x' ↔ wY P F dl o k τ A x' := by
  cases d with
  | none => exact Iff.rfl
  | some a =>
    have ha : a ∉ lkT dl o := hd a rfl
    have ha' : a ∉ dY o.op := fun h => ha (fj h)
    have e := qO (x := x) (p := p) (dY o.op) τ ha'
    have hs : ∀ t ∈ lkT dl o, (putF (some a) x p τ).s t = τ.s t ∧ (putF (some a) x p τ).pd t = τ.pd t := fun t ht => nA (by rintro h; simp only [af] at h; subst h; exact ha ht)
    have hev : ∀ y ∈ o.op.operands, nz (attF (dY o.op) (putF (some a) x p τ)).s y = nz (attF (dY o.op) τ).s y := by
      rw [e]
      exact p7 fun t ht => (nA (by rintro h; simp only [af] at h; subst h; exact ha' ht)).1
    have e1 : (attF (dY o.op) (putF (some a) x p τ)).h = (attF (dY o.op) τ).h := by rw [e]; rfl
    have e2 : (attF (dY o.op) (putF (some a) x p τ)).n = (attF (dY o.op) τ).n := by rw [e]; rfl
    have e3 := Bj.congr (P := P) (F := F) (h := (attF (dY o.op) τ).h) (n := (attF (dY o.op) τ).n) (A := A) (x := x') hev
    have e4 := Bk (F := F) (h := (attF (dY o.op) τ).h) (o := o) hev
    constructor
    · rintro ⟨h1, h2, h3, h4, h5, h6⟩
      rw [e1, e2, e3] at h2
      rw [e1, e4] at h3
      exact ⟨h1.congr fun t ht => (hs t ht).1.symm, h2, h3, h4, fun t ht hp => h5 t ht (by rw [(hs t (fj ht)).2]; exact hp), h6⟩
    · rintro ⟨h1, h2, h3, h4, h5, h6⟩
      refine ⟨h1.congr fun t ht => (hs t ht).1, ?_, ?_, h4, fun t ht hp => h5 t ht (by rw [(hs t (fj ht)).2] at hp; exact hp), h6⟩
      · rw [e1, e2, e3]; exact h2
      · rw [e1, e4]; exact h3
def kj (d : Option Nat) (x : TV) (p : Option dq) (tk : Option Nat) (τ : DS) : DS := putF d x p (putF tk .undef none τ)
theorem G7 {d tk : Option Nat} {x : TV} {p : Option dq} {τ : DS} {t : Nat} (h : d ≠ some t) (h2 : tk ≠ some t) : (kj d x p tk τ).s t = τ.s t ∧ (kj d x p tk τ).pd t = τ.pd t := by
  obtain ⟨e1, e2⟩ := nA (x := x) (p := p) (τ := putF tk .undef none τ) h
  obtain ⟨e3, e4⟩ := nA (x := .undef) (p := none) (τ := τ) h2
  exact ⟨e1.trans e3, e2.trans e4⟩
theorem NA {d tk : Option Nat} {x : TV} {p : Option dq} {τ : DS} : (kj d x p tk τ).h = τ.h ∧ (kj d x p tk τ).n = τ.n := by
  unfold kj
  exact ⟨ix.1.trans ix.1, ix.2.trans ix.2⟩
theorem Kc {d tk : Option Nat} {x : TV} {p : Option dq} {τ : DS} : (kj d x p tk τ).x = τ.x := by
  unfold kj
  exact ki.trans ki
theorem p8 {d tk d' : Option Nat} {x x' : TV} {p p' : Option dq} {τ : DS} (h : ∀ a, d = some a → d' ≠ some a) (h2 : ∀ a, tk = some a → d' ≠ some a) : kj d x p tk (putF d' x' p' τ) = putF d' x' p' (kj d x p tk τ) := by
  unfold kj
  rw [put_comm h2, put_comm h]
theorem G8 {d tk d' tk' : Option Nat} {x x' : TV} {p p' : Option dq} {τ : DS} (h1 : ∀ a, d = some a → d' ≠ some a) (h2 : ∀ a, tk = some a → d' ≠ some a) (h3 : ∀ a, d = some a → tk' ≠ some a) (h4 : ∀ a, tk = some a → tk' ≠ some a) :
    kj d x p tk (kj d' x' p' tk' τ) = kj d' x' p' tk' (kj d x p tk τ) := by
  show kj d x p tk (putF d' x' p' (putF tk' .undef none τ)) = _
  rw [p8 h1 h2, p8 h3 h4]; rfl
theorem pD {d : Option Nat} {x : TV} {p : Option dq} {l : List Nat} {τ : DS} (hd : ∀ a, d = some a → a ∉ l) : attF l (putF d x p τ) = putF d x p (attF l τ) := by
  cases d with
  | none => rfl
  | some a => exact qO l τ (hd a rfl)
theorem E4 {d tk : Option Nat} {x : TV} {p : Option dq} {l : List Nat} {τ : DS} (hd : ∀ a, d = some a → a ∉ l) (ht : ∀ a, tk = some a → a ∉ l) : attF l (kj d x p tk τ) = kj d x p tk (attF l τ) := by
  unfold kj
  rw [pD hd, pD ht]
theorem II {d tk : Option Nat} {x : TV} {p : Option dq} {τ : DS} {h : ay} {n : Nat} {y : Option PX} : (⟨(kj d x p tk τ).s, (kj d x p tk τ).pd, h, n, y⟩ : DS) = kj d x p tk ⟨τ.s, τ.pd, h, n, y⟩ := by
  unfold kj
  cases d <;> cases tk <;> rfl
theorem wY.E5 {A : lp} {x' : Option PX} {d tk : Option Nat} {x : TV} {p : Option dq} (hd : ∀ a, d = some a → a ∉ lkT dl o) (ht : ∀ a, tk = some a → a ∉ lkT dl o) : wY P F dl o k (kj d x p tk τ) A x' ↔ wY P F dl o k τ A x' :=
  (wY.frame hd).trans (wY.frame ht)
theorem pE {h : ay} {op : Op} {σ : Operand → TV} {pd : Nat → Option dq} {t : Nat} {bh : dq} {rd : List Nat} (h : insS P g h op σ pd = some (t, bh, true, rd)) : t ∈ dY op := by
  obtain ⟨ty, y, z, q, l, a, b, D⟩ := gI.1 h
  rw [D.op]
  simp [dY, tmpsOf, Op.operands]
theorem mr {t : Nat} {bh : dq} {rd : List Nat} (hs : ∀ u ∈ lkT dl o, τ'.s u = τ.s u ∧ τ'.pd u = τ.pd u) (hr : ∀ r ∈ rd, hget τ'.h r = hget τ.h r) (h : insS P g τ.h o.op (nz τ.s) τ.pd = some (t, bh, true, rd)) : insS P g τ'.h o.op (nz τ'.s) τ'.pd = some (t, bh, true, rd) := by
  obtain ⟨ty, y, z, q, l, a, b, D⟩ := gI.1 h
  have hev := p7 (o := o) fun u hu => (hs u (fj hu)).1
  have hpd := fun u hu => (hs u (fj (o := o) hu)).2
  have ho := D.op
  refine gI.2 ⟨ty, y, z, q, l, a, b, ho, ?_, D.mp, ?_, ?_, D.bh, D.ord, D.new, fun u hu => ?_⟩
  · rw [hpd t (pE h)]; exact D.sl
  · rw [hev y (by rw [ho]; simp [Op.operands])]; exact D.ky
  · rw [hev z (by rw [ho]; simp [Op.operands])]; exact Nz D.vl hr
  · rw [hpd u (by rw [ho]; simp only [dY, tmpsOf, Op.operands, List.mem_filterMap] at hu ⊢; obtain ⟨w, hw, e⟩ := hu; exact ⟨w, by simp at hw ⊢; rcases hw with rfl | rfl <;> simp, e⟩)]; exact D.alone u hu
theorem z5 {h : ay} {k : Ty} {s : Nat → TV} {t : Nat} {y : Operand} {p : den k × List Nat} (H : wZ g h k (nz (lE s t .undef) y) = some p) : wZ g h k (nz s y) = some p := by
  cases y with
  | tmp u =>
    by_cases e : u = t
    · subst e
      have H : wZ g h k (lE s u .undef u) = some p := H
      rw [ib, Bo] at H; cases H
    · have H : wZ g h k (lE s t .undef u) = some p := H
      rw [cZ e] at H; exact H
  | _ => exact H
theorem wI {h : ay} {k : Ty} {s : Nat → TV} {t : Nat} {y : Operand} {p : den k × List Nat} (hy : y ≠ .tmp t) (H : wZ g h k (nz s y) = some p) : wZ g h k (nz (lE s t .undef) y) = some p := by
  cases y with
  | tmp u =>
    have e : u ≠ t := by rintro rfl; exact hy rfl
    show wZ g h k (lE s t .undef u) = some p
    rw [cZ e]; exact H
  | _ => exact H
theorem wJ {k : Ty} {s : Nat → TV} {t : Nat} {y : Operand} {a : den k} (h : keyV k (nz (lE s t .undef) y) = some a) : keyV k (nz s y) = some a := by
  cases y with
  | tmp u =>
    by_cases e : u = t
    · subst e
      have h : keyV k (lE s u .undef u) = some a := h
      rw [ib] at h
      cases k <;> simp [keyV] at h
    · have h : keyV k (lE s t .undef u) = some a := h
      rw [cZ e] at h; exact h
  | _ => exact h
theorem tO {k : Ty} {s : Nat → TV} {t : Nat} {y : Operand} {a : den k} (hy : y ≠ .tmp t) (h : keyV k (nz s y) = some a) : keyV k (nz (lE s t .undef) y) = some a := by
  cases y with
  | tmp u =>
    have e : u ≠ t := by rintro rfl; exact hy rfl
    show keyV k (lE s t .undef u) = some a
    rw [cZ e]; exact h
  | _ => exact h
theorem pF {y z : Operand} {u : Nat} (h : y = .tmp u ∨ z = .tmp u) : u ∈ tmpsOf [y, z] := by
  simp only [tmpsOf, List.mem_filterMap]
  rcases h with rfl | rfl
  · exact ⟨.tmp u, by simp, rfl⟩
  · exact ⟨.tmp u, by simp, rfl⟩
theorem App.swap {o1 o2 : Oper} {k1 k2 : KI} {τ τ1 τ2 : DS} (hp : wx dl o1 k1 o2 k2) (H1 : App P F m dl g o1 k1 τ τ1) (H2 : App P F m dl g o2 k2 τ1 τ2) : ∃ τ3, App P F m dl g o2 k2 τ τ3 ∧ App P F m dl g o1 k1 τ3 τ2 := by
  have h4 : ∀ {τ : DS} {A : lp} {y : Option PX} {o : Oper} {k : KI}, wY P F dl o k τ A y → k.kn ≠ 4 := fun V e => by
    have := V.kn
    rw [e] at this
    unfold knX at this; split at this <;> simp at this
  cases H1 with
  | @ins t bh rd1 hk1 hv1 hd1 ht1 hg1 hx1 I1 R1 =>
    have m1 : t ∈ lkT dl o1 := fj (pE I1)
    cases H2 with
    | @vk x2 p2 q2 hn2 hv2 hd2 L2 c2 =>
      have hn : ¬ (k1.kn = 4 ∧ k2.kn = 4) := fun h => hn2 h.2
      have a1 : t ∉ lkT dl o2 := hp.t1 hn t ht1
      have a2 : ∀ a, q2 = some a → a ∉ lkT dl o1 := fun a e => hp.t2 hn a (L2.tk a e).2.1
      refine ⟨kj o2.dst x2 p2 q2 τ, .vk hn2 hv2 hd2 (L2.frame (τ' := τ) (fun u hu => ?_) (fun r _ => by rw [ix.1])) (fun px hx => by rw [hx1] at hx; cases hx), ?_⟩
      · obtain ⟨e1, e2⟩ := nA (x := .undef) (p := some bh) (τ := τ) (t := u) (d := some t) (fun e => a1 (by cases e; exact hu))
        exact ⟨e1.symm, e2.symm⟩
      · have := App.ins (P := P) (F := F) (m := m) (dl := dl) (τ := kj o2.dst x2 p2 q2 τ) hk1 hv1 hd1 ht1 hg1 (by rw [Kc]; exact hx1) (mr (dl := dl) (fun u hu => G7 (fun e => hp.d2 u e hu) (fun e => a2 u e hu)) (fun r _ => by rw [NA.1]) I1) R1
        have e : kj o2.dst x2 p2 q2 (putF (some t) .undef (some bh) τ) = putF (some t) .undef (some bh) (kj o2.dst x2 p2 q2 τ) := p8 (fun a e e' => hp.d2 a e (by cases e'; exact m1)) (fun a e e' => a2 a e (by cases e'; exact m1))
        show App P F m dl g o1 k1 _ (kj o2.dst x2 p2 q2 (putF (some t) .undef (some bh) τ))
        rw [e]; exact this
    | @tq A y hv2 hd2 V2 hx2 =>
      have hn : ¬ (k1.kn = 4 ∧ k2.kn = 4) := fun h => h4 V2 h.2
      have a1 : ∀ a, (some t : Option Nat) = some a → a ∉ lkT dl o2 := fun a e => by cases e; exact hp.t1 hn t ht1
      have V := (wY.frame a1).1 V2
      have hy : y = none := by
        cases y with
        | none => rfl
        | some px => exact absurd ⟨hk1, V.kn⟩ hp.RJ
      subst hy
      refine ⟨_, .tq hv2 hd2 V hx1, ?_⟩
      obtain ⟨o1', o2'⟩ := V.out
      have := App.ins (P := P) (F := F) (m := m) (dl := dl) (τ := putF o2.dst A.v none ⟨(attF (dY o2.op) τ).s, (attF (dY o2.op) τ).pd, A.h, A.n, none⟩) hk1 hv1 hd1 ht1 hg1 (by rw [ki]) (mr (dl := dl) (τ := τ) (fun u hu => by
        obtain ⟨e1, e2⟩ := nA (x := A.v) (p := none) (τ := ⟨(attF (dY o2.op) τ).s, (attF (dY o2.op) τ).pd, A.h, A.n, none⟩) (t := u) (d := o2.dst) (fun e => hp.d2 u e hu)
        rw [e1, e2]
        exact o1' u (fun hm => hp.t2 hn u hm hu)) (fun r hr => by rw [ix.1]; exact o2' r (hp.r1 r (R1 r hr))) I1) R1
      have e : putF o2.dst A.v none ⟨(attF (dY o2.op) (putF (some t) .undef (some bh) τ)).s, (attF (dY o2.op) (putF (some t) .undef (some bh) τ)).pd, A.h, A.n, none⟩ = putF (some t) .undef (some bh) (putF o2.dst A.v none ⟨(attF (dY o2.op) τ).s, (attF (dY o2.op) τ).pd, A.h, A.n, none⟩) := by
        rw [pD (fun a e h => a1 a e (fj h))]
        exact put_comm (d := o2.dst) (d' := some t) (τ := ⟨(attF (dY o2.op) τ).s, (attF (dY o2.op) τ).pd, A.h, A.n, none⟩) (fun a e e' => hp.d2 a e (by cases e'; exact m1))
      show App P F m dl g o1 k1 _ (putF o2.dst A.v none ⟨(attF (dY o2.op) (putF (some t) .undef (some bh) τ)).s, (attF (dY o2.op) (putF (some t) .undef (some bh) τ)).pd, A.h, A.n, none⟩)
      rw [e]; exact this
    | @ins t2 reg2 rd2 hk2 hv2 hd2 ht2 hg2 hx2 I2 R2 =>
      obtain ⟨ty1, y1, z1, q1, l1, b1, v1, D1⟩ := gI.1 I1
      obtain ⟨ty2, y2, z2, q2, l2, b2, v2, D2⟩ := gI.1 I2
      have pd1 : (putF (some t) .undef (some bh) τ).pd = lE τ.pd t (some bh) := rfl
      have s1 : (putF (some t) .undef (some bh) τ).s = lE τ.s t .undef := rfl
      by_cases ht : t2 = t
      · subst ht
        have hpd := D2.sl
        rw [pd1, ib, D1.bh] at hpd
        simp only [af, dq.mp.injEq] at hpd
        obtain ⟨rfl, hl⟩ := hpd
        have hl := eq_of_heq hl
        subst hl
        have hk := zH D1.ord
        have hnew := D2.new
        rw [pV, Bool.or_eq_false_iff] at hnew
        have hne : b1 ≠ b2 := by rintro rfl; rw [wa hk] at hnew; cases hnew.1
        have al2 : ∀ u ∈ tmpsOf [y2, z2], u ≠ t2 ∧ τ.pd u = none := fun u hu => by
          have := D2.alone u hu
          rw [pd1] at this
          have hut : u ≠ t2 := by rintro rfl; rw [ib] at this; cases this
          rw [cZ hut] at this
          exact ⟨hut, this⟩
        have J2 : insS P g τ.h o2.op (nz τ.s) τ.pd = some (t2, .mp q1 (sins q1.k q1.v l1 b2 v2), true, rd2) := gI.2 ⟨ty2, y2, z2, q1, l1, b2, v2, D2.op, D1.sl, D2.mp, wJ (t := t2) D2.ky, z5 (t := t2) D2.vl, rfl, D1.ord, hnew.2, fun u hu => (al2 u hu).2⟩
        refine ⟨_, .ins hk2 hv2 hd2 ht2 hg2 hx1 J2 R2, ?_⟩
        have hy0 : t2 ∉ tmpsOf [y1, z1] := fun h => (by have := D1.alone t2 h; rw [D1.sl] at this; cases this)
        have hy1 : y1 ≠ .tmp t2 ∧ z1 ≠ .tmp t2 := ⟨fun e => hy0 (pF (.inl e)), fun e => hy0 (pF (.inr e))⟩
        have J1 := (gI (P := P) (g := g) (h := τ.h) (rd := rd1) (op := o1.op) (σ := nz (lE τ.s t2 .undef)) (pd := lE τ.pd t2 (some (.mp q1 (sins q1.k q1.v l1 b2 v2)))) (t := t2) (bh := .mp q1 (sins q1.k q1.v (sins q1.k q1.v l1 b2 v2) b1 v1))).2 ⟨ty1, y1, z1, q1, _, b1, v1, D1.op, ib, D1.mp, tO hy1.1 D1.ky, wI hy1.2 D1.vl, rfl, D1.ord, by rw [pV, yl hk hne, D1.new]; rfl, fun u hu => by
          have h := D1.alone u hu
          have : u ≠ t2 := by rintro rfl; rw [D1.sl] at h; cases h
          rw [cZ this]; exact h⟩
        have := App.ins (P := P) (F := F) (m := m) (dl := dl) (τ := putF (some t2) .undef (some (.mp q1 (sins q1.k q1.v l1 b2 v2))) τ) hk1 hv1 hd1 ht1 hg1 hx1 J1 R1
        have e : ∀ r r' : dq, putF (some t2) .undef (some r) (putF (some t2) .undef (some r') τ) = putF (some t2) .undef (some r) τ := by
          intro r r'
          simp only [putF]
          congr 1
          · funext u; simp only [lE]; split <;> rfl
          · funext u; simp only [lE]; split <;> rfl
        rw [e, tD D1.ord (Ne.symm hne)] at this
        rw [e, D2.bh]
        exact this
      · have hpd := D2.sl
        rw [pd1, cZ ht] at hpd
        have al2 : ∀ u ∈ tmpsOf [y2, z2], u ≠ t ∧ τ.pd u = none := fun u hu => by
          have := D2.alone u hu
          rw [pd1] at this
          have hut : u ≠ t := by rintro rfl; rw [ib] at this; cases this
          rw [cZ hut] at this
          exact ⟨hut, this⟩
        have J2 : insS P g τ.h o2.op (nz τ.s) τ.pd = some (t2, reg2, true, rd2) := gI.2 ⟨ty2, y2, z2, q2, l2, b2, v2, D2.op, hpd, D2.mp, wJ (t := t) D2.ky, z5 (t := t) D2.vl, D2.bh, D2.ord, D2.new, fun u hu => (al2 u hu).2⟩
        refine ⟨_, .ins hk2 hv2 hd2 ht2 hg2 hx1 J2 R2, ?_⟩
        have al1 : ∀ u ∈ tmpsOf [y1, z1], u ≠ t2 := fun u hu e => by
          subst e
          have := D1.alone u hu
          rw [hpd] at this; cases this
        have J1 := (gI (P := P) (g := g) (h := τ.h) (rd := rd1) (op := o1.op) (σ := nz (lE τ.s t2 .undef)) (pd := lE τ.pd t2 (some reg2)) (t := t) (bh := bh)).2 ⟨ty1, y1, z1, q1, l1, b1, v1, D1.op, by rw [cZ (Ne.symm ht)]; exact D1.sl, D1.mp, tO (fun e => al1 t2 (pF (.inl e)) rfl) D1.ky, wI (fun e => al1 t2 (pF (.inr e)) rfl) D1.vl, D1.bh, D1.ord, D1.new, fun u hu => by rw [cZ (al1 u hu)]; exact D1.alone u hu⟩
        have := App.ins (P := P) (F := F) (m := m) (dl := dl) (τ := putF (some t2) .undef (some reg2) τ) hk1 hv1 hd1 ht1 hg1 hx1 J1 R1
        rw [put_comm (fun a e e' => ht (by cases e; cases e'; rfl))] at this
        exact this
  | @vk x1 p1 q1 hn1 hv1 hd1 L1 c1 =>
    have hn : ¬ (k1.kn = 4 ∧ k2.kn = 4) := fun h => hn1 h.1
    have a1 : ∀ a, q1 = some a → a ∉ lkT dl o2 := fun a e => hp.t1 hn a (L1.tk a e).2.1
    have b1 : ∀ a, q1 = some a → a ∈ lkT dl o1 := fun a e => fj (L1.tk a e).1
    cases H2 with
    | @ins t bh rd2 hk2 hv2 hd2 ht2 hg2 hx2 I2 R2 =>
      have m2 : t ∈ lkT dl o2 := fj (pE I2)
      have a2 : t ∉ lkT dl o1 := hp.t2 hn t ht2
      have hx : τ.x = none := by rw [ki, ki] at hx2; exact hx2
      refine ⟨_, .ins hk2 hv2 hd2 ht2 hg2 hx (mr (dl := dl) (fun u hu => ?_) (fun r hr => ?_) I2) R2, ?_⟩
      · obtain ⟨e1, e2⟩ := G7 (x := x1) (p := p1) (τ := τ) (t := u) (d := o1.dst) (tk := q1) (fun e => hp.d1 u e hu) (fun e => a1 u e hu)
        exact ⟨e1.symm, e2.symm⟩
      · rw [ix.1, ix.1]
      · have := App.vk (F := F) (τ := putF (some t) .undef (some bh) τ) hn1 hv1 hd1 (L1.frame (fun u hu => nA (fun e => a2 (by cases e; exact hu))) (fun r _ => by rw [ix.1])) (fun px hx' => c1 px (by rw [ki] at hx'; exact hx'))
        have e : kj o1.dst x1 p1 q1 (putF (some t) .undef (some bh) τ) = putF (some t) .undef (some bh) (kj o1.dst x1 p1 q1 τ) := p8 (fun a e e' => hp.d1 a e (by cases e'; exact m2)) (fun a e e' => a1 a e (by cases e'; exact m2))
        show App P F m dl g o1 k1 _ (putF (some t) .undef (some bh) (kj o1.dst x1 p1 q1 τ))
        rw [← e]; exact this
    | @vk x2 p2 q2 hn2 hv2 hd2 L2 c2 =>
      have a2 : ∀ a, q2 = some a → a ∉ lkT dl o1 := fun a e => hp.t2 hn a (L2.tk a e).2.1
      have b2 : ∀ a, q2 = some a → a ∈ lkT dl o2 := fun a e => fj (L2.tk a e).1
      refine ⟨kj o2.dst x2 p2 q2 τ, .vk hn2 hv2 hd2 (L2.frame (τ' := τ) (fun t ht => ?_) (fun r _ => by rw [ix.1, ix.1])) (fun px hx => c2 px (by rw [ki, ki]; exact hx)), ?_⟩
      · obtain ⟨e1, e2⟩ := G7 (x := x1) (p := p1) (τ := τ) (t := t) (d := o1.dst) (tk := q1) (fun e => hp.d1 t e ht) (fun e => a1 t e ht)
        exact ⟨e1.symm, e2.symm⟩
      · have := App.vk (F := F) (τ := kj o2.dst x2 p2 q2 τ) hn1 hv1 hd1 (L1.frame (fun t ht => G7 (fun e => hp.d2 t e ht) (fun e => a2 t e ht)) (fun r _ => by rw [NA.1])) (fun px hx => c1 px (by rw [Kc] at hx; exact hx))
        have e : kj o1.dst x1 p1 q1 (kj o2.dst x2 p2 q2 τ) = kj o2.dst x2 p2 q2 (kj o1.dst x1 p1 q1 τ) := G8 hp.dn (fun a e e' => hp.d2 a e' (b1 a e)) (fun a e e' => hp.d1 a e (b2 a e')) (fun a e e' => a1 a e (b2 a e'))
        show App P F m dl g o1 k1 _ (kj o2.dst x2 p2 q2 (kj o1.dst x1 p1 q1 τ))
        rw [← e]; exact this
    | @tq A y hv2 hd2 V2 hx2 =>
      have V := (wY.E5 hp.d1 a1).1 V2
      have hx : τ.x = none := by rw [ki, ki] at hx2; exact hx2
      refine ⟨_, .tq hv2 hd2 V hx, ?_⟩
      obtain ⟨o1', o2'⟩ := V.out
      have L := L1.frame (τ' := putF o2.dst A.v none ⟨(attF (dY o2.op) τ).s, (attF (dY o2.op) τ).pd, A.h, A.n, y⟩) (fun t ht => by
        obtain ⟨e1, e2⟩ := nA (x := A.v) (p := none) (τ := ⟨(attF (dY o2.op) τ).s, (attF (dY o2.op) τ).pd, A.h, A.n, y⟩) (t := t) (d := o2.dst) (fun e => hp.d2 t e ht)
        rw [e1, e2]
        exact o1' t (fun hm => hp.t2 hn t hm ht)) (fun r hr => by rw [ix.1]; exact o2' r (hp.r1 r hr))
      have := App.vk (F := F) hn1 hv1 hd1 L (fun px hx' => by
        rw [ki] at hx'
        simp only at hx'; subst hx'
        obtain ⟨e1, e2⟩ := Bj.px V.ev
        refine ⟨fun e => hp.dn _ e e1, fun e => hp.d1 _ e (fj (zZ e2 rfl)), fun e => hp.nZ ⟨e, V.kn⟩⟩)
      have e : putF o2.dst A.v none ⟨(attF (dY o2.op) (kj o1.dst x1 p1 q1 τ)).s, (attF (dY o2.op) (kj o1.dst x1 p1 q1 τ)).pd, A.h, A.n, y⟩ = kj o1.dst x1 p1 q1 (putF o2.dst A.v none ⟨(attF (dY o2.op) τ).s, (attF (dY o2.op) τ).pd, A.h, A.n, y⟩) := by
        rw [p8 hp.dn (fun a e e' => hp.d2 a e' (b1 a e)), E4 (fun a e h => hp.d1 a e (fj h)) (fun a e h => a1 a e (fj h)), II]
      show App P F m dl g o1 k1 _ (putF o2.dst A.v none ⟨(attF (dY o2.op) (kj o1.dst x1 p1 q1 τ)).s, (attF (dY o2.op) (kj o1.dst x1 p1 q1 τ)).pd, A.h, A.n, y⟩)
      rw [e]; exact this
  | @tq A y hv1 hd1 V1 hx1 =>
    have hn : ¬ (k1.kn = 4 ∧ k2.kn = 4) := fun h => h4 V1 h.1
    cases H2 with
    | @tq _ _ hv2 => exact absurd ⟨hv1, hv2⟩ hp.hh
    | @ins t bh rd2 hk2 hv2 hd2 ht2 hg2 hx2 I2 R2 =>
      have m2 : t ∈ lkT dl o2 := fj (pE I2)
      have a2 : ∀ a, (some t : Option Nat) = some a → a ∉ lkT dl o1 := fun a e => by cases e; exact hp.t2 hn t ht2
      obtain ⟨o1', o2'⟩ := V1.out
      refine ⟨_, .ins hk2 hv2 hd2 ht2 hg2 hx1 (mr (dl := dl) (fun u hu => ?_) (fun r hr => ?_) I2) R2, ?_⟩
      · obtain ⟨e1, e2⟩ := nA (x := A.v) (p := none) (τ := ⟨(attF (dY o1.op) τ).s, (attF (dY o1.op) τ).pd, A.h, A.n, y⟩) (t := u) (d := o1.dst) (fun e => hp.d1 u e hu)
        obtain ⟨e3, e4⟩ := o1' u (fun hm => hp.t1 hn u hm hu)
        rw [e1, e2]
        exact ⟨e3.symm, e4.symm⟩
      · rw [ix.1]; exact (o2' r (hp.r2 r (R2 r hr))).symm
      · have := App.tq (g := g) (m := m) (τ := putF (some t) .undef (some bh) τ) hv1 hd1 ((wY.frame a2).2 V1) (by rw [ki]; exact hx1)
        have e : putF (some t) .undef (some bh) (putF o1.dst A.v none ⟨(attF (dY o1.op) τ).s, (attF (dY o1.op) τ).pd, A.h, A.n, y⟩) = putF o1.dst A.v none ⟨(attF (dY o1.op) (putF (some t) .undef (some bh) τ)).s, (attF (dY o1.op) (putF (some t) .undef (some bh) τ)).pd, A.h, A.n, y⟩ := by
          rw [pD (fun a e h => a2 a e (fj h))]
          exact (put_comm (d := o1.dst) (d' := some t) (τ := ⟨(attF (dY o1.op) τ).s, (attF (dY o1.op) τ).pd, A.h, A.n, y⟩) (fun a e e' => hp.d1 a e (by cases e'; exact m2))).symm
        show App P F m dl g o1 k1 _ (putF (some t) .undef (some bh) (putF o1.dst A.v none ⟨(attF (dY o1.op) τ).s, (attF (dY o1.op) τ).pd, A.h, A.n, y⟩))
        rw [e]; exact this
    | @vk x2 p2 q2 hn2 hv2 hd2 L2 c2 =>
      have a2 : ∀ a, q2 = some a → a ∉ lkT dl o1 := fun a e => hp.t2 hn a (L2.tk a e).2.1
      have b2 : ∀ a, q2 = some a → a ∈ lkT dl o2 := fun a e => fj (L2.tk a e).1
      obtain ⟨o1', o2'⟩ := V1.out
      have L : Bl P dl g o2 k2 τ x2 p2 q2 := L2.frame (fun t ht => by
        obtain ⟨e1, e2⟩ := nA (x := A.v) (p := none) (τ := ⟨(attF (dY o1.op) τ).s, (attF (dY o1.op) τ).pd, A.h, A.n, y⟩) (t := t) (d := o1.dst) (fun e => hp.d1 t e ht)
        obtain ⟨e3, e4⟩ := o1' t (fun hm => hp.t1 hn t hm ht)
        rw [e1, e2]
        exact ⟨e3.symm, e4.symm⟩) (fun r hr => by rw [ix.1]; exact (o2' r (hp.r2 r hr)).symm)
      refine ⟨kj o2.dst x2 p2 q2 τ, .vk hn2 hv2 hd2 L (fun px hx => by rw [hx1] at hx; cases hx), ?_⟩
      have := App.tq (g := g) (m := m) (τ := kj o2.dst x2 p2 q2 τ) hv1 hd1 ((wY.E5 hp.d2 a2).2 V1) (by rw [Kc]; exact hx1)
      have e : kj o2.dst x2 p2 q2 (putF o1.dst A.v none ⟨(attF (dY o1.op) τ).s, (attF (dY o1.op) τ).pd, A.h, A.n, y⟩) = putF o1.dst A.v none ⟨(attF (dY o1.op) (kj o2.dst x2 p2 q2 τ)).s, (attF (dY o1.op) (kj o2.dst x2 p2 q2 τ)).pd, A.h, A.n, y⟩ := by
        rw [p8 (fun a e e' => hp.dn a e' e) (fun a e e' => hp.d1 a e' (b2 a e)), E4 (fun a e h => hp.d2 a e (fj h)) (fun a e h => a2 a e (fj h)), II]
      show App P F m dl g o1 k1 _ (kj o2.dst x2 p2 q2 (putF o1.dst A.v none ⟨(attF (dY o1.op) τ).s, (attF (dY o1.op) τ).pd, A.h, A.n, y⟩))
      rw [e]; exact this
end
end Go.Tw
namespace Go.Tw
open Go Go.RowKit
variable [k7]
section
variable {w w' : World} {ab imm' ok ok' : Nat → Prop} {μ μ' : Nat → Mu} {h h' : ay} {n n' : Nat}
theorem TRl.rk : ∀ {t : Ty} {x : den t} {us : List Value} {L : List Nat}, (∀ b ∈ L, ok' b) → TRl w ab ok t x us L → TRl w ab ok' t x us L
  | .int _, _, _, _, _, H => H
  | .bool, _, _, _, _, H => H
  | .str, _, _, _, _, H => H
  | .un, _, _, _, _, H => H
  | .pr a b, x, us, L, hL, H => by
    obtain ⟨u1, u2, L1, L2, rfl, rfl, h1, h2⟩ := H
    exact ⟨u1, u2, L1, L2, rfl, rfl, TRl.rk (fun b hb => hL b (by simp [hb])) h1, TRl.rk (fun b hb => hL b (by simp [hb])) h2⟩
  | .sl t, l, us, L, hL, H => by
    obtain ⟨v, rfl, H⟩ := H
    refine ⟨v, rfl, ?_⟩
    rcases H with H | ⟨A, cap, L', h1, h2, h3, h4⟩
    · exact .inl H
    · refine .inr ⟨A, cap, L', h1, h2, ?_, ?_⟩
      · have hL' : ∀ b ∈ L', ok' b := by
          rcases h4 with ⟨_, rfl, _⟩ | ⟨rfl, _⟩
          · simp
          · exact fun b hb => hL b (by simp [hb])
        exact RL.imp (fun x _ o L'' hl ⟨us, g1, g2⟩ => ⟨us, TRl.rk (fun b hb => hL' b (hl b hb)) g1, g2⟩) h3
      · rcases h4 with h4 | ⟨rfl, g1, _, g3⟩
        · exact .inl h4
        · exact .inr ⟨rfl, g1, hL _ (by simp), g3⟩
  | .ref t, x, us, L, hL, H => by
    obtain ⟨b, o, vs, rfl, rfl, h1, h2, h3⟩ := H
    exact ⟨b, o, vs, rfl, rfl, h1, TRl.rk (by simp) h2, h3⟩
  | .cl g t, x, us, L, hL, H => by
    obtain ⟨vs, rfl, rfl, h1⟩ := H
    exact ⟨vs, rfl, rfl, TRl.rk (by simp) h1⟩
mutual
theorem VR.fT : ∀ (x : TV) (v : Value), VR w ab ok μ h n x v → VR w ab ok' μ h n x v
  | .p u, v, H => by simpa [VR] using H
  | .tr t l, v, H => by simp only [VR] at H ⊢; exact H.rk (by simp)
  | .full r, v, H => by simpa only [VR] using H
  | .sub r off len, v, H => by simpa only [VR] using H
  | .mJ r i off, v, H => by simpa only [VR] using H
  | .ptr r i off, v, H => by simpa only [VR] using H
  | .fm t l i off, v, H => by
    simp only [VR] at H ⊢
    obtain ⟨b, o, h1, h2, h3⟩ := H
    exact ⟨b, o, h1, h2, RL.imp (fun x _ o L'' hl ⟨us, g1, g2⟩ => ⟨us, g1.rk (fun b hb => by have := hl b hb; simp at this), g2⟩) h3⟩
  | .agg cs, v, H => by simp only [VR] at H ⊢; obtain ⟨us, h1, h2⟩ := H; exact ⟨us, h1, VRl.fT cs us h2⟩
  | .mF cs, v, H => by simp only [VR] at H ⊢; obtain ⟨us, h1, h2⟩ := H; exact ⟨us, h1, VRl.fT cs us h2⟩
  | .oV t x, v, H => by simp only [VR] at H ⊢; obtain ⟨u, h1, h2⟩ := H; exact ⟨u, h1, VR.fT x u h2⟩
  | .fn f fi ca, v, H => by simp only [VR] at H ⊢; obtain ⟨us, vs, h1, h2, h3⟩ := H; exact ⟨us, vs, h1, VRl.fT fi us h2, VRl.fT ca vs h3⟩
  | .mp r, v, H => by simpa only [VR] using H
  | .undef, _, _ => by simp [VR]
theorem VRl.fT : ∀ (xs : List TV) (us : List Value), VRl w ab ok μ h n xs us → VRl w ab ok' μ h n xs us
  | [], us, H => by simpa [VRl] using H
  | x :: xs, us, H => by
    simp only [VRl] at H ⊢
    obtain ⟨u, us', h1, h2, h3⟩ := H
    exact ⟨u, us', h1, VR.fT x u h2, VRl.fT xs us' h3⟩
end
theorem RR.fT {r : Nat} {x : dq} {L : List Nat} (hL : ∀ b ∈ L, ok' b) (H : RR w ab ok μ h n r x L) : RR w ab ok' μ h n r x L := by
  cases x with
  | row fr t l =>
    simp only [RR] at H ⊢
    rcases H with H | ⟨h1, L', rfl, h2, h3, h4⟩
    · exact .inl H
    · exact .inr ⟨h1, L', rfl, hL _ (by simp), h3, RL.imp (fun x _ o L'' hl ⟨us, g1, g2⟩ => ⟨us, g1.rk (fun b hb => hL b (by simp [hl b hb])), g2⟩) h4⟩
  | box cs =>
    simp only [RR] at H ⊢
    obtain ⟨rfl, h1, h2, us, h3, h4⟩ := H
    exact ⟨rfl, hL _ (by simp), h2, us, VRl.fT _ _ h3, h4⟩
  | mp k l =>
    simp only [RR] at H ⊢
    obtain ⟨rfl, h1, h2⟩ := H
    exact ⟨rfl, hL _ (by simp), h2⟩
theorem HR.Bq {D : List Nat} (H : HR w ab ok μ h n D) : HR w ab (fun b => ok b ∧ b ∉ D) μ h n [] := by
  obtain ⟨own, H, h1, h2⟩ := H
  refine ⟨own, fun r x hx => ?_, by simp, by simp⟩
  obtain ⟨ha, L, hR, hn, ho⟩ := H r x hx
  exact ⟨ha, L, hR.fT fun b hb => ⟨(hR.blocks b hb).1, fun hd => by have e1 := h2 b hd; rw [ho b hb] at e1; simp at e1⟩, hn, ho⟩
theorem HR.wK {D E : List Nat} (H : HR w ab ok' μ h n E) (hok : ∀ b, ok' b → ok b ∧ b ∉ D) (hE : ∀ b ∈ E, b ∉ D) (hD : D.Nodup) : HR w ab ok μ h n (E ++ D) := by
  obtain ⟨own, H, h1, h2⟩ := H
  refine ⟨fun b => if b ∈ D then none else own b, fun r x hx => ?_, List.nodup_append.2 ⟨h1, hD, fun a ha b hb e => by subst e; exact hE a ha hb⟩, fun b hb => ?_⟩
  · obtain ⟨ha, L, hR, hn, ho⟩ := H r x hx
    exact ⟨ha, L, hR.fT fun b hb => (hok b (hR.blocks b hb).1).1, hn, fun b hb => by
      show (if b ∈ D then none else own b) = some r
      rw [if_neg (hok b (hR.blocks b hb).1).2]; exact ho b hb⟩
  · show (if b ∈ D then none else own b) = none
    rcases List.mem_append.1 hb with hb | hb
    · split
      · rfl
      · exact h2 b hb
    · rw [if_pos hb]
mutual
theorem VR.low {im ik : Nat → Prop} {w0 : World} {μ0 : Nat → Mu} {bh : dq} (hn : hget h n = none) : ∀ (x : TV) (v v' : Value), VR w0 im ik μ0 h n x v → VR w ab ok μ ((n, bh) :: h) (n + 1) x v' → VR w ab ok μ h n x v'
  | .p u, v, v', _, H => by simpa [VR] using H
  | .tr t l, v, v', _, H => by simpa only [VR] using H
  | .full r, v, v', H0, H => by
    simp only [VR] at H0 H ⊢
    have hne : r ≠ n := by omega
    refine ⟨H0.1, ?_⟩
    have := H.2
    simp only [hget, hne, ↓reduceIte] at this; exact this
  | .sub r off len, v, v', H0, H => by
    simp only [VR] at H0 H ⊢
    have hne : r ≠ n := by omega
    refine ⟨H0.1, ?_⟩
    have := H.2
    simp only [hget, hne, ↓reduceIte] at this; exact this
  | .mJ r i off, v, v', H0, H => by
    simp only [VR] at H0 H ⊢
    have hne : r ≠ n := by omega
    refine ⟨H0.1, H.2.1, ?_⟩
    have := H.2.2
    simp only [hget, hne, ↓reduceIte] at this; exact this
  | .ptr r i off, v, v', H0, H => by
    simp only [VR] at H0 H ⊢
    have hne : r ≠ n := by omega
    refine ⟨H0.1, ?_⟩
    obtain ⟨_, A, h1, h2⟩ := H
    simp only [hget, hne, ↓reduceIte] at h2
    exact ⟨A, h1, h2⟩
  | .fm t l i off, v, v', _, H => by simpa only [VR] using H
  | .agg cs, v, v', H0, H => by
    simp only [VR] at H0 H ⊢
    obtain ⟨us0, _, g0⟩ := H0
    obtain ⟨us, h1, h2⟩ := H
    exact ⟨us, h1, VRl.low hn cs us0 us g0 h2⟩
  | .mF cs, v, v', H0, H => by
    simp only [VR] at H0 H ⊢
    obtain ⟨us0, _, g0⟩ := H0
    obtain ⟨us, h1, h2⟩ := H
    exact ⟨us, h1, VRl.low hn cs us0 us g0 h2⟩
  | .oV t x, v, v', H0, H => by
    simp only [VR] at H0 H ⊢
    obtain ⟨u0, _, g0⟩ := H0
    obtain ⟨u, h1, h2⟩ := H
    exact ⟨u, h1, VR.low hn x u0 u g0 h2⟩
  | .fn f fi ca, v, v', H0, H => by
    simp only [VR] at H0 H ⊢
    obtain ⟨us0, vs0, _, g0, g1⟩ := H0
    obtain ⟨us, vs, h1, h2, h3⟩ := H
    exact ⟨us, vs, h1, VRl.low hn fi us0 us g0 h2, VRl.low hn ca vs0 vs g1 h3⟩
  | .mp r, v, v', H0, H => by
    simp only [VR] at H0 H ⊢
    have hne : r ≠ n := by omega
    refine ⟨H0.1, ?_⟩
    obtain ⟨_, A, h1, h2⟩ := H
    simp only [hget, hne, ↓reduceIte] at h2
    exact ⟨A, h1, h2⟩
  | .undef, _, _, _, _ => by simp [VR]
theorem VRl.low {im ik : Nat → Prop} {w0 : World} {μ0 : Nat → Mu} {bh : dq} (hn : hget h n = none) : ∀ (xs : List TV) (us us' : List Value), VRl w0 im ik μ0 h n xs us → VRl w ab ok μ ((n, bh) :: h) (n + 1) xs us' → VRl w ab ok μ h n xs us'
  | [], us, us', _, H => by simpa [VRl] using H
  | x :: xs, us, us', H0, H => by
    simp only [VRl] at H0 H ⊢
    obtain ⟨u0, us0, _, g1, g2⟩ := H0
    obtain ⟨u, us1, h1, h2, h3⟩ := H
    exact ⟨u, us1, h1, VR.low hn x u0 u g1 h2, VRl.low hn xs us0 us1 g2 h3⟩
end
theorem HR.E6 {D : List Nat} (H : HR w ab ok μ h n D) : hget h n = none := by
  cases hg : hget h n with
  | none => rfl
  | some x => exact absurd (H.lt hg) (by omega)
theorem HR.pop {im ik : Nat → Prop} {w0 : World} {μ0 : Nat → Mu} {bh : dq} (H0 : HR w0 im ik μ0 h n []) (H : HR w ab ok μ ((n, bh) :: h) (n + 1) []) :
    ∃ L, RR w ab ok μ ((n, bh) :: h) (n + 1) n bh L ∧ HR w ab ok μ h n L := by
  have hn := H0.E6
  obtain ⟨own, H, _⟩ := H
  obtain ⟨own0, H0, _⟩ := H0
  obtain ⟨_, L, hR, hnd, ho⟩ := H n bh (by simp [hget])
  refine ⟨L, hR, fun b => if own b = some n then none else own b, fun r x hx => ?_, hnd, fun b hb => by
    show (if own b = some n then none else own b) = none
    rw [if_pos (ho b hb)]⟩
  obtain ⟨hr, L0, hR0, _⟩ := H0 r x hx
  have hne : r ≠ n := by omega
  obtain ⟨_, L1, hR1, hn1, ho1⟩ := H r x (by simp only [hget, hne, ↓reduceIte]; exact hx)
  refine ⟨hr, L1, ?_, hn1, fun b hb => ?_⟩
  · cases x with
    | row fr t l => simpa only [RR] using hR1
    | mp k l => simpa only [RR] using hR1
    | box cs =>
      simp only [RR] at hR1 hR0 ⊢
      obtain ⟨e1, h1, h2, us, h3, h4⟩ := hR1
      obtain ⟨_, _, _, us0, g3, _⟩ := hR0
      exact ⟨e1, h1, h2, us, VRl.low hn cs us0 us g3 h3, h4⟩
  · show (if own b = some n then none else own b) = some r
    rw [ho1 b hb, if_neg (by simpa using hne)]
def PR (pv : Nat → Value) (w : World) (ab ok : Nat → Prop) : dq → Value → List Nat → Prop
  | .row fr t l, v, L => ∃ m : Mu, RR w ab ok (fun _ => m) [] 1 0 (.row fr t l) L ∧ mM w m (sz t) 0 l.length v
  | .box cs, v, L => ∃ b o us, v = .pointer (some ⟨b, o, none⟩) ∧ L = [b] ∧ ok b ∧ Row w b (o + cs.length) ∧ CT w ab ok cs us [] ∧ At w b o us
  | .mp k l, v, L => ∃ b, v = .map (some b) ∧ L = [b] ∧ ok b ∧ gh (oI pv) w b k l
theorem PR.mono {bh : dq} {v : Value} {L : List Nat} (hs : Step ab w w') (hL : ∀ b ∈ L, w'.heap[b]? = w.heap[b]?) {pv : Nat → Value} (H : PR pv w ab ok bh v L) : PR pv w' ab ok bh v L := by
  cases bh with
  | row fr t l =>
    obtain ⟨m, h1, h2⟩ := H
    refine ⟨m, ?_, h2.mono hs.row⟩
    exact RR.mono (K := fun _ => True) ⟨hs, fun _ h => h, fun _ h => h, fun _ _ => rfl, Nat.le_refl _, fun _ _ => Fit.refl _, fun r fr t l _ _ hg => by simp [hget] at hg⟩ (by omega) trivial hL h1
  | box cs =>
    obtain ⟨b, o, us, h1, rfl, h3, h4, h5, h6⟩ := H
    exact ⟨b, o, us, h1, rfl, h3, hs.row _ _ h4, h5.mono (fun _ h => h) (fun _ h => h) hs.low (by simp), h6.same (hL b (by simp))⟩
  | mp k l =>
    obtain ⟨b, h1, rfl, h3, h4⟩ := H
    exact ⟨b, h1, rfl, h3, h4.same (hL b (by simp))⟩
theorem PR.blocks {bh : dq} {v : Value} {L : List Nat} {pv : Nat → Value} (H : PR pv w ab ok bh v L) : ∀ b ∈ L, ok b ∧ b < w.heap.size := by
  cases bh with
  | row fr t l => obtain ⟨m, h1, _⟩ := H; exact h1.blocks
  | box cs => obtain ⟨b, o, us, h1, rfl, h3, h4, _⟩ := H; intro k hk; simp at hk; subst hk; exact ⟨h3, h4.lt⟩
  | mp k l => obtain ⟨b, h1, rfl, h3, h4⟩ := H; intro k hk; simp at hk; subst hk; exact ⟨h3, h4.lt⟩
theorem z6 {pv : Nat → Value} {t : Ty} (h : ∀ t', t ≠ .ref t') (x : den t) : oI pv t x = valK t x := by
  unfold oI
  rw [dif_neg (h _)]
theorem gh.eq {f g : (t : Ty) → den t → Value} {w : World} {b : Nat} {q : MQ} {l : List (den q.k × den q.v)} (h : ∀ x : den q.v, f q.v x = g q.v x) (H : gh f w b q l) : gh g w b q l := by
  obtain ⟨l', h1, h2, es, c, h3, h4⟩ := H
  refine ⟨l', h1, h2, es, c, h3, ?_⟩
  rw [h4]
  exact List.map_congr_left fun p _ => by rw [h]
theorem gh.nil {f g : (t : Ty) → den t → Value} {w : World} {b : Nat} {q : MQ} (H : gh f w b q []) : gh g w b q [] := by
  obtain ⟨l', h1, h2, es, c, h3, h4⟩ := H
  obtain rfl := h1.eq_nil
  exact ⟨[], .refl _, .nil, es, c, h3, by simpa using h4⟩
theorem G9 {q : MQ} {l : List (den q.k × den q.v)} (h : isPM (.mp q l) = false) : ∀ t', q.v ≠ .ref t' := by
  rintro t' e
  obtain ⟨k, v⟩ := q
  simp only at e; subst e
  simp [isPM] at h
theorem PR.attach {pv : Nat → Value} {bh : dq} {v : Value} {L D : List Nat} (hpm : isPM bh = false) (H : PR pv w ab ok bh v L) (HH : HR w ab ok μ h n (L ++ D)) :
    ∃ m, HR w ab ok (kh μ n m) ((n, bh) :: h) (n + 1) D ∧ VR w ab ok (kh μ n m) ((n, bh) :: h) (n + 1) (ptrOf bh n) v := by
  cases bh with
  | row fr t l =>
    obtain ⟨m, h1, h2⟩ := H
    refine ⟨m, HR.attach HH (Nat.le_refl _) (Nat.lt_succ_self _) (fun r hr => by simp [kh, show r ≠ n by omega]) ?_, ?_⟩
    · simp only [RR, cf] at h1 ⊢; exact h1
    · simp only [ptrOf, VR, hget, cf, ↓reduceIte]; exact ⟨by omega, h2⟩
  | box cs =>
    obtain ⟨b, o, us, rfl, rfl, h3, h4, h5, h6⟩ := H
    refine ⟨⟨b, o, true⟩, HR.attach HH (Nat.le_refl _) (Nat.lt_succ_self _) (fun r hr => by simp [kh, show r ≠ n by omega]) ?_, ?_⟩
    · simp only [RR, cf]; exact ⟨trivial, h3, h4, us, h5.zJ, h6⟩
    · simp only [ptrOf, VR, hget, cf, ↓reduceIte]; exact ⟨by omega, _, rfl, by simp⟩
  | mp k l =>
    obtain ⟨b, rfl, rfl, h3, h4⟩ := H
    refine ⟨⟨b, 0, true⟩, HR.attach HH (Nat.le_refl _) (Nat.lt_succ_self _) (fun r hr => by simp [kh, show r ≠ n by omega]) ?_, ?_⟩
    · simp only [RR, cf]; exact ⟨trivial, h3, h4.eq (z6 (G9 hpm))⟩
    · simp only [ptrOf, VR, hget, cf, ↓reduceIte]; exact ⟨by omega, _, rfl, rfl⟩
theorem PR.of {pv : Nat → Value} {bh : dq} {v : Value} {L : List Nat} (hf : ∀ cs, bh = .box cs → flatB cs = true) (hmp : ∀ q l, bh = .mp q l → l = []) (hR : RR w ab ok μ ((n, bh) :: h) (n + 1) n bh L) (hV : VR w ab ok μ ((n, bh) :: h) (n + 1) (ptrOf bh n) v) : PR pv w ab ok bh v L := by
  cases bh with
  | row fr t l =>
    simp only [ptrOf, VR, hget, ↓reduceIte] at hV
    refine ⟨μ n, ?_, hV.2⟩
    simp only [RR] at hR ⊢; exact hR
  | box cs =>
    simp only [ptrOf, VR, hget, ↓reduceIte] at hV
    obtain ⟨_, A, rfl, rfl⟩ := hV
    simp only [RR] at hR
    obtain ⟨rfl, h1, h2, us, h3, h4⟩ := hR
    exact ⟨_, _, us, by simp, rfl, h1, h2, CT.nB (hf cs rfl) h3, h4⟩
  | mp k l =>
    simp only [ptrOf, VR, hget, ↓reduceIte] at hV
    obtain ⟨_, b, rfl, rfl⟩ := hV
    simp only [RR] at hR
    obtain ⟨rfl, h1, h2⟩ := hR
    have e := hmp k l rfl
    subst e
    exact ⟨_, rfl, rfl, h1, h2.nil⟩
end
theorem so : ∀ l : List Value, flatB (l.map .p) = true
  | [] => rfl
  | v :: l => by simp only [List.map_cons, flatB, flatV, Bool.true_and]; exact so l
theorem Ha {P : Program} {op : Op} {σ : Operand → TV} {bh : dq} {c : Bool} (H : alcS P op σ = some (bh, c)) : ∀ q l, bh = .mp q l → l = [] := by
  rintro q l rfl
  cases op <;> simp only [alcS] at H <;> first | (simp at H; done) | skip
  case alloc t =>
    simp only [ax] at H
    obtain ⟨z, h1, H⟩ := H
    obtain ⟨hb, H⟩ := ah.1 H
    simp at H
  case box t x =>
    obtain ⟨hb, H⟩ := ah.1 H
    simp at H
  case buildSlice t l ps =>
    split at H
    · obtain ⟨hb, H⟩ := ah.1 H
      simp only [ax, Option.map_eq_some_iff, aG] at H
      obtain ⟨d, h3, es, h4, h5, _⟩ := H
      cases h5
    · simp at H
  case makeSlice t l k =>
    split at H
    · simp only [ax] at H
      obtain ⟨d, h5, H⟩ := H
      obtain ⟨hb, H⟩ := ah.1 H
      simp at H
    · simp at H
  case makeMap t r =>
    cases r with
    | some r => simp at H
    | none =>
      obtain ⟨q', _, H⟩ := Option.map_eq_some_iff.1 H
      simp only [aG, dq.mp.injEq] at H
      obtain ⟨⟨rfl, h⟩, _⟩ := H
      exact (eq_of_heq h).symm
theorem tP {P : Program} {op : Op} {σ : Operand → TV} {bh : dq} {c : Bool} (H : alcS P op σ = some (bh, c)) : ∀ cs, bh = .box cs → flatB cs = true := by
  rintro cs rfl
  cases op <;> simp only [alcS] at H <;> first | (simp at H; done) | skip
  case alloc t =>
    simp only [ax] at H
    obtain ⟨z, _, H⟩ := H
    obtain ⟨_, H⟩ := ah.1 H
    simp only [af, aG, dq.box.injEq] at H
    rw [← H.1]; exact so z
  case box t x =>
    obtain ⟨hb, H⟩ := ah.1 H
    simp only [af, aG, dq.box.injEq] at H
    simp only [aA] at hb
    rw [← H.1]; exact hb.2
  case buildSlice t l ps =>
    split at H
    · obtain ⟨_, H⟩ := ah.1 H
      simp only [ax, Option.map_eq_some_iff, aG] at H
      obtain ⟨_, _, _, _, h, _⟩ := H
      cases h
    · simp at H
  case makeSlice t l k =>
    split at H
    · simp only [ax] at H
      obtain ⟨_, _, H⟩ := H
      obtain ⟨_, H⟩ := ah.1 H
      simp at H
    · simp at H
  case makeMap t r =>
    cases r with
    | some r => simp at H
    | none => simp at H
end Go.Tw
