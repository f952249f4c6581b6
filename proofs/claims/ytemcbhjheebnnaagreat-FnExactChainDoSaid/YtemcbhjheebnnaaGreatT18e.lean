/- The logic: a step. -/
import Derived.Test.YtemcbhjheebnnaaGreatT18n
set_option linter.all false
namespace Go.Tw
open Go Go.RowKit
variable [k7]
inductive IG (os : List Oper) : Nat → Nat → Prop
  | dir {i : Nat} {o : Oper} {e : Edge} : os[i]? = some o → e ∈ o.after → Region.binds .any e = true → IG os i e.on
  | QB {i x : Nat} {o : Oper} {e : Edge} : os[i]? = some o → e ∈ o.after → Region.binds .any e = true → IG os e.on x → IG os i x
theorem Qo {k : Nat} (h : Nat.testBit 1 k = true) : k = 0 := by
  have := Nat.ge_two_pow_of_testBit h
  rcases Nat.eq_zero_or_pos k with h0 | h0
  · exact h0
  · have : 2 ^ 1 ≤ 2 ^ k := Nat.pow_le_pow_right (by omega) h0
    omega
theorem G2 {n x : Nat} (h : Nat.testBit (1 <<< n) x = true) : x = n := by
  rw [Nat.testBit_shiftLeft] at h
  simp only [aA, bF] at h
  have h2 := Qo h.2
  omega
theorem G3 {acc : List Nat} {o : Oper} {x : Nat} (h : Nat.testBit (J0 acc o) x = true) : ∃ e ∈ o.after, Region.binds .any e = true ∧ (x = e.on ∨ Nat.testBit (acc.getD e.on 0) x = true) := by
  have key : ∀ (l : List Edge) (m : Nat), Nat.testBit (l.foldl (fun m e => bif Region.binds .any e then m ||| (1 <<< e.on) ||| acc.getD e.on 0 else m) m) x = true → Nat.testBit m x = true ∨ ∃ e ∈ l, Region.binds .any e = true ∧ (x = e.on ∨ Nat.testBit (acc.getD e.on 0) x = true) := by
    intro l
    induction l with
    | nil => intro m h; exact .inl h
    | cons e l ih =>
      intro m h
      rcases ih _ h with h | ⟨e', h1, h2⟩
      · simp only at h
        cases hb : Region.binds .any e with
        | false => rw [hb] at h; exact .inl h
        | true =>
          rw [hb, ag, Nat.testBit_or, Nat.testBit_or] at h
          simp only [Bool.or_eq_true] at h
          rcases h with (h | h) | h
          · exact .inl h
          · exact .inr ⟨e, by simp, hb, .inl (G2 h)⟩
          · exact .inr ⟨e, by simp, hb, .inr h⟩
      · exact .inr ⟨e', by simp [h1], h2⟩
  rcases key _ _ h with h | ⟨e, h1, h2⟩
  · simp at h
  · exact ⟨e, by simpa using h1, h2⟩
theorem zQ {all : List Oper} : ∀ (os : List Oper) (acc : List Nat), (∀ j, os[j]? = all[acc.length + j]?) → (∀ i x, Nat.testBit (acc.getD i 0) x = true → IG all i x) → ∀ i x, Nat.testBit ((J3 os acc).getD i 0) x = true → IG all i x
  | [], acc, _, H, i, x, h => H i x h
  | o :: os, acc, hos, H, i, x, h => by
    refine zQ os (acc ++ [J0 acc o]) (fun j => by have := hos (j + 1); simpa [Nat.add_assoc, Nat.add_comm 1 j] using this) (fun i x h => ?_) i x h
    rcases Nat.lt_trichotomy i acc.length with hl | hl | hl
    · rw [List.getD_eq_getElem?_getD, List.getElem?_append_left hl, ← List.getD_eq_getElem?_getD] at h; exact H i x h
    · subst hl
      rw [List.getD_eq_getElem?_getD, List.getElem?_append_right (Nat.le_refl _)] at h
      simp only [Nat.sub_self, List.getElem?_cons_zero, Option.getD_some] at h
      obtain ⟨e, h1, h2, h3⟩ := G3 h
      have ho : all[acc.length]? = some o := by have := hos 0; simpa using this.symm
      rcases h3 with rfl | h3
      · exact .dir ho h1 h2
      · exact .QB ho h1 h2 (H _ _ h3)
    · rw [List.getD_eq_getElem?_getD, List.getElem?_append_right (by omega)] at h
      have : i - acc.length ≠ 0 := by omega
      cases hk : i - acc.length with
      | zero => omega
      | succ n => rw [hk] at h; simp at h
def yv (ops : Array Oper) (listed : Array Bool) : Prop := ∀ (j : Nat) o, ops[j]? = some o → listed.getD j true = true → ∀ e ∈ o.after, Region.binds .any e = true → listed.getD e.on false = true
theorem yw {ops : Array Oper} {listed : Array Bool} (hz : listed.size = ops.size) (hc : yv ops listed) {i x : Nat} (h : IG ops.toList i x) : (∀ o, ops[i]? = some o → ∀ e ∈ o.after, Region.binds .any e = true → listed.getD e.on false = true) → listed.getD x false = true := by
  induction h with
  | dir ho he hb => intro H; exact H _ (by simpa using ho) _ he hb
  | @QB i x o e ho he hb hd ih =>
    intro H
    have h1 := H _ (by simpa using ho) _ he hb
    refine ih fun o' ho' e' he' hb' => hc e.on o' ho' ?_ e' he' hb'
    rcases Nat.lt_or_ge e.on listed.size with hl | hl
    · simpa [hl] using h1
    · simp [Array.getElem?_eq_none hl] at h1
section
variable {P : Program} {F : List bj} {m : Fm} {dl : List (Option Tmp)} {g : Nat} {ops : Array Oper} {kd : Nat → KI} {c : Cx}
inductive Fold (P : Program) (F : List bj) (m : Fm) (dl : List (Option Tmp)) (g : Nat) (ops : Array Oper) (kd : Nat → KI) : List Nat → DS → DS → Prop
  | nil {τ : DS} : Fold P F m dl g ops kd [] τ τ
  | cons {i : Nat} {o : Oper} {p : List Nat} {τ τ1 τ2 : DS} : ops[i]? = some o → App P F m dl g o (kd i) τ τ1 → Fold P F m dl g ops kd p τ1 τ2 → Fold P F m dl g ops kd (i :: p) τ τ2
theorem Fold.first {i : Nat} {o : Oper} (ho : ops[i]? = some o) : ∀ {p1 p2 : List Nat} {τ τe : DS}, (∀ x ∈ p1, ∀ ox, ops[x]? = some ox → wx dl ox (kd x) o (kd i)) → Fold P F m dl g ops kd (p1 ++ i :: p2) τ τe → ∃ τ1, App P F m dl g o (kd i) τ τ1 ∧ Fold P F m dl g ops kd (p1 ++ p2) τ1 τe
  | [], p2, τ, τe, _, H => by
    cases H with
    | @cons _ o' _ _ τ1 _ h1 h2 h3 => rw [ho] at h1; cases h1; exact ⟨τ1, h2, h3⟩
  | x :: p1, p2, τ, τe, hp, H => by
    cases H with
    | @cons _ ox _ _ τx _ h1 h2 h3 =>
      obtain ⟨τ1, g1, g2⟩ := Fold.first ho (fun y hy => hp y (by simp [hy])) h3
      obtain ⟨τ3, g3, g4⟩ := App.swap (hp x (by simp) ox h1) h2 g1
      exact ⟨τ3, g3, .cons h1 g4 g2⟩
theorem J4 (hG : Gh c g) (hP : c.P = P) (hm : c.m = m) (hF : ∀ cn ∈ F, an P cn) (hd : ops.toList.map (·.dst) = dl)
    (hchk : ∀ (i : Nat) o, ops[i]? = some o → (∀ e ∈ o.after, Region.binds .any e = true → e.on < i) ∧ ∀ (x : Nat) ox, x < i → ops[x]? = some ox → IG ops.toList i x ∨ wx dl ox (kd x) o (kd i)) {τe : DS} {Q : Exit → Act → World → Prop} (hQ : ∀ a w, eO c τe a w → Q .normal a w) :
    ∀ (fuel : Nat) (p : List Nat) (listed : Array Bool) (a : Act) (w : World) (τ : DS), listed.size = ops.size → p.Pairwise (· < ·) → (∀ i, i ∈ p ↔ i < ops.size ∧ listed.getD i true = false) → p.length ≤ fuel → yv ops listed → Fold P F m dl g ops kd p τ τe → eO c τ a w → wpAny P .any ops Q fuel listed a w := by
  have hready : ∀ (p : List Nat) (listed : Array Bool), listed.size = ops.size → (∀ i, i ∈ p ↔ i < ops.size ∧ listed.getD i true = false) → ∀ i, i ∈ Region.ready .any ops listed → i ∈ p := by
    intro p listed hz hp i hi
    obtain ⟨h0, o, ho, _⟩ := mem_ready.1 hi
    exact (hp i).2 ⟨(Array.getElem?_eq_some_iff.1 ho).1, h0⟩
  have hfirst : ∀ (p : List Nat) (listed : Array Bool) (i : Nat) (rest : List Nat), listed.size = ops.size → p.Pairwise (· < ·) → (∀ i, i ∈ p ↔ i < ops.size ∧ listed.getD i true = false) → p = i :: rest → i ∈ Region.ready .any ops listed := by
    intro p listed i rest hz hpw hp he
    subst he
    obtain ⟨hi, h0⟩ := (hp i).1 (by simp)
    refine mem_ready.2 ⟨h0, ops[i], by simp [hi], fun e he hb => ?_⟩
    have hlt := (hchk i _ (by simp [hi])).1 e he hb
    have hn : e.on ∉ i :: rest := by
      intro hm
      rcases List.mem_cons.1 hm with h | h
      · omega
      · have := (List.pairwise_cons.1 hpw).1 _ h; omega
    have hs : e.on < listed.size := by omega
    have : listed.getD e.on true ≠ false := fun hf => hn ((hp _).2 ⟨by omega, hf⟩)
    simp only [Array.getD_eq_getD_getElem?, Array.getElem?_eq_getElem hs, Option.getD_some] at this ⊢
    simpa using this
  intro fuel
  induction fuel with
  | zero =>
    intro p listed a w τ hz hpw hp hl hc hf hs
    have hp0 : p = [] := by cases p with | nil => rfl | cons => simp at hl
    subst hp0
    cases hf
    refine ⟨?_, hQ _ _ hs⟩
    cases hr : Region.ready .any ops listed with
    | nil => rfl
    | cons i l => exact absurd (hready _ _ hz hp i (by rw [hr]; simp)) (by simp)
  | succ fuel ih =>
    intro p listed a w τ hz hpw hp hl hc hf hs
    refine ⟨fun hr => ?_, fun i hi => ?_⟩
    · cases p with
      | nil => cases hf; exact hQ _ _ hs
      | cons i rest =>
        have := hfirst _ _ i rest hz hpw hp rfl
        rw [hr] at this; simp at this
    · have him := hready _ _ hz hp i hi
      obtain ⟨h0, o, ho, hall⟩ := mem_ready.1 hi
      obtain ⟨p1, p2, rfl⟩ := List.append_of_mem him
      obtain ⟨hpw1, hpw2, hpw3⟩ := List.pairwise_append.1 hpw
      obtain ⟨τ1, g1, g2⟩ := Fold.first ho (fun x hx ox hox => by
        have hxi : x < i := hpw3 x hx i (by simp)
        rcases (hchk i o ho).2 x ox hxi hox with h | h
        · have h1 := yw hz hc h (fun o' ho' e he hb => by rw [ho] at ho'; cases ho'; exact hall e he hb)
          have h2 := ((hp x).1 (by simp [hx])).2
          have hs : x < listed.size := by have := ((hp x).1 (by simp [hx])).1; omega
          simp only [Array.getD_eq_getD_getElem?, Array.getElem?_eq_getElem hs, Option.getD_some] at h1 h2
          rw [h1] at h2; simp at h2
        · exact h) hf
      have hsz : i < listed.size := by have := ((hp i).1 (by simp)).1; omega
      have hmem : ∀ j, j ∈ p1 ++ p2 ↔ j < ops.size ∧ (listed.setIfInBounds i true).getD j true = false := by
        intro j
        by_cases hji : j = i
        · subst hji
          constructor
          · intro hm
            rcases List.mem_append.1 hm with h | h
            · have := hpw3 j h j (by simp); omega
            · have := (List.pairwise_cons.1 hpw2).1 j h; omega
          · rintro ⟨_, h⟩; simp [hsz] at h
        · rw [getD_set_ne true (Ne.symm hji), ← hp j]
          simp [hji]
      have hc' : yv ops (listed.setIfInBounds i true) := by
        intro j oj hoj hj e he hb
        by_cases hji : j = i
        · subst hji
          rw [ho] at hoj; cases hoj
          exact getD_set_true (hall e he hb)
        · rw [getD_set_ne true (Ne.symm hji)] at hj
          exact getD_set_true (hc j oj hoj hj e he hb)
      have hpw' : (p1 ++ p2).Pairwise (· < ·) := List.pairwise_append.2 ⟨hpw1, (List.pairwise_cons.1 hpw2).2, fun a ha b hb => hpw3 a ha b (by simp [hb])⟩
      have := App.sound hP hm hF hd hG g1 hs (K' := wpAny P .any ops Q fuel (listed.setIfInBounds i true)) (Q := Q) fun a' w' hs' => ih (p1 ++ p2) _ a' w' τ1 (by simpa using hz) hpw' hmem (by simp at hl ⊢; omega) hc' g2 hs'
      unfold wpOp
      rw [ho]
      exact this
end
section
variable {P : Program} {F : List bj} {m : Fm} {dl : List (Option Tmp)} {g : Nat} {ρ : Type} {r : ρ}
theorem zR {s : List (Nat × TV)} {t : Nat} {want : Bool} (h : gv want (sget s t) = some true) : sget ((t, .p (.bool want)) :: s) = sget s := by
  rw [iL]
  funext u
  by_cases hu : u = t
  · subst hu
    rw [ib]
    unfold gv at h
    split at h
    · rename_i b hb
      simp only [af] at h
      rw [hb]
      cases want <;> cases b <;> simp_all
    · simp at h
  · rw [cZ hu]
theorem G4 {s : List (Nat × TV)} {t : Nat} {want : Bool} (h : gv want (sget s t) = some false) : sget ((t, .p (.bool !want)) :: s) = sget s := by
  refine zR ?_
  unfold gv at h ⊢
  split at h
  · rename_i b hb
    simp only [af] at h ⊢
    cases want <;> cases b <;> simp_all
  · simp at h
theorem zS {o : Oper} {τ : DL} {K : DL → KI → Option ρ} (hx : τ.x = none) (hw : Bc dl o (sget τ.s)) (hdst : jn m o.dst = true) (H : NM P F o τ K = some r) : ∃ τ' k, K τ' k = some r ∧ App P F m dl g o k (fU τ) (fU τ') := by
  unfold NM at H
  obtain ⟨A, x, h1, h2⟩ := EP H
  refine ⟨_, _, h2, ?_⟩
  rw [ic]
  have e := pq (dY o.op) τ
  have e1 : sget (attL (dY o.op) τ).s = (attF (dY o.op) (fU τ)).s := by rw [← e]; rfl
  have e2 : pget (attL (dY o.op) τ).pd = (attF (dY o.op) (fU τ)).pd := by rw [← e]; rfl
  have e3 : (attL (dY o.op) τ).h = (attF (dY o.op) (fU τ)).h := by rw [← e]; rfl
  have e4 : (attL (dY o.op) τ).n = (attF (dY o.op) (fU τ)).n := by rw [← e]; rfl
  have : App P F m dl g o ⟨true, [], G5 F o (ev (attL (dY o.op) τ).s) (attL (dY o.op) τ).h ++ List.range' τ.n (A.n - τ.n), (dY o.op).filter fun t => (pget τ.pd t).isSome, knX x⟩ (fU τ) (putF o.dst A.v none ⟨(attF (dY o.op) (fU τ)).s, (attF (dY o.op) (fU τ)).pd, A.h, A.n, x⟩) := by
    refine .tq rfl hdst ⟨hw, ?_, fun r hr => ?_, fun r h1 h2 => ?_, fun t ht hp => List.mem_filter.2 ⟨ht, hp⟩, rfl⟩ hx
    · rw [← e1, ← e3, ← e4, ← iz]; exact h1
    · rw [← e1, ← e3, ← iz] at hr
      exact List.mem_append_left _ hr
    · refine List.mem_append_right _ (List.mem_range'_1.2 ⟨h1, ?_⟩)
      have : (fU τ).n = τ.n := rfl
      omega
  rw [← e1, ← e2] at this
  exact this
theorem zT {hv : Bool} {o : Oper} {τ : DL} {K : DL → KI → Option ρ} (hx : hv = true → τ.x = none) (hx2 : hv = false → ∀ px, τ.x = some px → o.dst ≠ some px.d ∧ o.dst ≠ some px.src) (hdst : jn m o.dst = true) (hw : Bc dl o (sget τ.s)) (H : evL P F g hv o τ K = some r) : ∃ τ' k, K τ' k = some r ∧ App P F m dl g o k (fU τ) (fU τ') := by
  have hcx : ∀ (k : KI), (k.kn = 1 → hv = true) → ∀ px, (fU τ).x = some px → o.dst ≠ some px.d ∧ o.dst ≠ some px.src ∧ k.kn ≠ 1 := by
    intro k hk px hpx
    have hpx : τ.x = some px := hpx
    cases hv with
    | true => rw [hx rfl] at hpx; cases hpx
    | false =>
      obtain ⟨h1, h2⟩ := hx2 rfl px hpx
      exact ⟨h1, h2, fun e => by have := hk e; cases this⟩
  unfold evL at H
  split at H
  · rename_i t bh c hix
    obtain ⟨hb, H2⟩ := ah.1 H
    clear H
    simp only [aA] at hb
    obtain ⟨⟨hb2, hb3⟩, rfl⟩ := hb
    refine ⟨_, _, H2, ?_⟩
    rw [ic, ic]
    rw [iz] at hix
    exact .vk (by simp [KI.lt]) rfl hdst (.idx t bh hw hix hb2 (fun e => by have := oG hb3 t e; simp at this) (by simp)) (hcx _ (by simp))
  split at H
  · rename_i v hld
    refine ⟨_, _, H, ?_⟩
    rw [ic]
    rw [iz] at hld
    exact .vk (by simp [KI.lt]) rfl hdst (.ld v hw hld) (hcx _ (by simp [KI.lt]))
  split at H
  · rename_i b x y hld
    rw [iz] at hld
    have L : App P F m dl g o KI.lt (fU τ) (putF o.dst (bif b then x else y) none (fU τ)) := .vk (by simp [KI.lt]) rfl hdst (.KB b x y hw hld) (hcx _ (by simp [KI.lt]))
    cases b with
    | true => exact ⟨_, _, H, by rw [ic]; exact L⟩
    | false => exact ⟨_, _, H, by rw [ic]; exact L⟩
  split at H
  · rename_i t bh c rd hin
    obtain ⟨hb, H2⟩ := ah.1 H
    clear H
    simp only [aA, Option.isNone_iff_eq_none] at hb
    obtain ⟨⟨⟨hb1, hb2⟩, hb3⟩, rfl⟩ := hb
    subst hb1
    refine ⟨_, _, H2, ?_⟩
    rw [ic]
    rw [iz] at hin
    exact .ins rfl rfl hb2 (by simp) hb3 (hx rfl) hin (fun r hr => hr)
  cases hany : (dY o.op).any (fun t => (pget τ.pd t).isSome) with
  | true =>
    rw [hany] at H
    simp only [ag] at H
    cases hv with
    | true => exact zS (hx rfl) hw hdst H
    | false => cases H
  | false =>
    rw [hany] at H
    simp only [al] at H
    have hpd : ∀ t ∈ dY o.op, (fU τ).pd t = none := by
      intro t ht
      have := List.any_eq_false.1 hany t ht
      simpa [fU] using this
    split at H
    · rename_i bh cc hal
      obtain ⟨hb, H⟩ := ah.1 H
      simp only [aA] at hb
      refine ⟨_, _, H, ?_⟩
      rw [ic]
      rw [hb.2, iz] at hal
      exact .vk (by simp [KI.lt]) rfl hdst (.NN bh hw hpd hal hb.1.2 rfl) (hcx _ (fun _ => hb.1.1))
    · cases hst : stillB o.op with
      | false =>
        rw [hst] at H
        cases hv with
        | true => exact zS (hx rfl) hw hdst H
        | false => cases H
      | true =>
        rw [hst] at H
        simp only [ag, ax] at H
        obtain ⟨A, h1, H⟩ := H
        obtain ⟨hc, H⟩ := ah.1 H
        refine ⟨_, _, H, ?_⟩
        rw [ic]
        rw [iz] at h1
        exact .vk (by simp [KI.lt]) rfl hdst (.free A hw hpd hst h1 hc (fun r hr => by rw [iz]; exact hr)) (hcx _ (by simp))
theorem wy {o : Oper} {τ : DL} {K : DL → KI → Option ρ} (hw : Bc dl o (sget τ.s)) (H : evD1 P m F g o τ K = some r) : ∃ τ' k, K τ' k = some r ∧ App P F m dl g o k (fU τ) (fU τ') := by
  unfold evD1 at H
  obtain ⟨hdst, H⟩ := ah.1 H
  split at H
  · rename_i hx
    exact zT (fun _ => hx) (fun _ px hpx => by rw [hx] at hpx; cases hpx) hdst hw H
  · rename_i px hx
    split at H
    · rename_i h s c hst
      cases hst
    · obtain ⟨hb, H⟩ := ah.1 H
      refine zT (fun h => by cases h) (fun _ px' hpx => ?_) hdst hw H
      rw [hx] at hpx; cases hpx
      exact ⟨fun e => oG hb _ e (by simp), fun e => oG hb _ e (by simp)⟩
inductive sf (P : Program) (F : List bj) (m : Fm) (dl : List (Option Tmp)) (g : Nat) : List Oper → List KI → DS → DS → Prop
  | nil {τ : DS} : sf P F m dl g [] [] τ τ
  | cons {o : Oper} {k : KI} {os : List Oper} {ks : List KI} {τ τ1 τ2 : DS} : App P F m dl g o k τ τ1 → sf P F m dl g os ks τ1 τ2 → sf P F m dl g (o :: os) (k :: ks) τ τ2
theorem zU {x : Option PX} {d : Option Nat} {k : KI} (h : J5 x d = true) (hk : k.kn = 0) : ∀ px, x = some px → d ≠ some px.d ∧ d ≠ some px.src ∧ k.kn ≠ 1 := by
  rintro px rfl
  exact ⟨fun e => oG h _ e (by simp), fun e => oG h _ e (by simp), by omega⟩
theorem wz {K : DL → List KI → Option ρ} : ∀ (os : List Oper) (τ : DL) (acc : List KI), evD P m F g dl os τ acc K = some r → ∃ τe ks, K τe (ks.reverse ++ acc) = some r ∧ sf P F m dl g os ks (fU τ) (fU τe)
  | [], τ, acc, H => ⟨τ, [], by simpa [evD] using H, .nil⟩
  | o :: os, τ, acc, H => by
    have step : ∀ {τ1 τ' : DL} {k : KI}, fU τ1 = fU τ → App P F m dl g o k (fU τ1) (fU τ') → evD P m F g dl os τ' (k :: acc) K = some r → ∃ τe ks, K τe (ks.reverse ++ acc) = some r ∧ sf P F m dl g (o :: os) ks (fU τ) (fU τe) := by
      intro τ1 τ' k he ha hk
      obtain ⟨τe, ks, h1, h2⟩ := wz os τ' (k :: acc) hk
      rw [he] at ha
      exact ⟨τe, k :: ks, by simpa using h1, .cons ha h2⟩
    simp only [evD] at H
    split at H
    · rename_i hg
      obtain ⟨τ', k, h1, h2⟩ := wy (dl := dl) (.inl hg) H
      exact step rfl h2 h1
    · rename_i j want hg
      split at H
      · simp at H
      · rename_i t ht
        split at H
        · obtain ⟨hb, H⟩ := ah.1 H
          simp only [aA] at hb
          refine step (τ1 := τ) (τ' := pt o.dst (.mF []) none τ) rfl ?_ H
          rw [ic]
          exact .vk (by simp [KI.lt]) rfl hb.1.2 (.skip ⟨j, want, t, hg, ht, .inr hb.1.1⟩) (zU hb.2 rfl)
        · rename_i cw hv
          cases cw with
          | true =>
            simp only [ag] at H
            have e := zR hv
            have he : fU ⟨(t, .p (.bool want)) :: τ.s, τ.pd, τ.h, τ.n, τ.x⟩ = fU τ := by simp only [fU, e]
            obtain ⟨τ', k, h1, h2⟩ := wy (dl := dl) (τ := ⟨(t, .p (.bool want)) :: τ.s, τ.pd, τ.h, τ.n, τ.x⟩) (.inr ⟨j, want, t, hg, ht, by simp only [e]; exact hv⟩) H
            exact step he h2 h1
          | false =>
            simp only [al] at H
            obtain ⟨hb, H⟩ := ah.1 H
            simp only [aA] at hb
            have e := G4 hv
            have he : fU ⟨(t, .p (.bool !want)) :: τ.s, τ.pd, τ.h, τ.n, τ.x⟩ = fU τ := by simp only [fU, e]
            refine step (τ1 := ⟨(t, .p (.bool !want)) :: τ.s, τ.pd, τ.h, τ.n, τ.x⟩) he ?_ H
            rw [ic, he]
            exact .vk (by simp [KI.lt]) rfl hb.1 (.skip ⟨j, want, t, hg, ht, .inl hv⟩) (zU hb.2 rfl)
theorem sf.fold {ops : Array Oper} {kd : Nat → KI} {os : List Oper} {ks : List KI} {τ τe : DS} (H : sf P F m dl g os ks τ τe) : ∀ b, (∀ (j : Nat) o, os[j]? = some o → ops[b + j]? = some o) → (∀ (j : Nat) k, ks[j]? = some k → kd (b + j) = k) → Fold P F m dl g ops kd (List.range' b os.length) τ τe := by
  induction H with
  | nil => intro b _ _; exact .nil
  | @cons o k os ks τ τ1 τ2 h1 h2 ih =>
    intro b ho hk
    simp only [List.length_cons, List.range'_succ]
    refine .cons (ho 0 o rfl) ?_ (ih (b + 1) (fun j o hj => by have := ho (j + 1) o (by simpa using hj); rwa [show b + (j + 1) = b + 1 + j by omega] at this) (fun j k hj => by have := hk (j + 1) k (by simpa using hj); rwa [show b + (j + 1) = b + 1 + j by omega] at this))
    have e := hk 0 k rfl
    rw [Nat.add_zero] at e
    rw [e]; exact h1
theorem J6 {os : List Oper} {ks : List KI} (h : chkD dl os ks = true) (i : Nat) (o : Oper) (ho : os[i]? = some o) : (∀ e ∈ o.after, Region.binds .any e = true → e.on < i) ∧ ∀ (x : Nat) ox, x < i → os[x]? = some ox → IG os i x ∨ wx dl ox (ks.getD x KI.lt) o (ks.getD i KI.lt) := by
  have hi : i < os.length := by
    rcases Nat.lt_or_ge i os.length with h | h
    · exact h
    · rw [List.getElem?_eq_none h] at ho; simp at ho
  have h1 := List.all_eq_true.1 h i (List.mem_range.2 hi)
  rw [ho] at h1
  split at h1
  · rename_i o' k' e1 e2
    simp only [af] at e1; subst e1
    simp only [aA] at h1
    refine ⟨fun e he hb => ?_, fun x ox hx hox => ?_⟩
    · have := List.all_eq_true.1 h1.1 e (by simpa using he)
      rw [hb] at this
      simpa [Nat.blt_eq] using this
    · have h2 := List.all_eq_true.1 h1.2 x (List.mem_range.2 hx)
      rw [hox] at h2
      split at h2
      · rename_i o'' k'' e3 e4
        simp only [af] at e3; subst e3
        simp only [Bool.or_eq_true] at h2
        rcases h2 with h2 | h2
        · exact .inl (zQ (all := os) os [] (fun j => by simp) (fun i x h => by simp at h) i x h2)
        · refine .inr ?_
          have := ER h2
          simpa [List.getD, e2, e4] using this
      · simp at h2
  · simp at h1
def stN : List (Nat × Nat) → Nat
  | [] => 1
  | q :: l => q.2 + stN l
theorem ES : ∀ {l : List (Nat × Nat)} {q : Nat × Nat}, q ∈ l → q.2 < stN l
  | x :: l, q, h => by
    unfold stN
    rcases List.mem_cons.1 h with rfl | h
    · have : ∀ l, 1 ≤ stN l := fun l => by induction l with
        | nil => exact Nat.le_refl _
        | cons x l ih => unfold stN; omega
      have := this l; omega
    · have := ES h; omega
theorem oH {K : Nat → Prop} : ∀ {xs ys : List TV}, innOkl K xs → innOkl K ys → innOkl K (xs ++ ys)
  | [], _, _, h => h
  | x :: xs, _, h1, h2 => ⟨h1.1, oH h1.2 h2⟩
theorem tJ {α : Type} {K : Nat → Prop} : ∀ l : List α, innOkl K (l.map fun _ => TV.undef)
  | [] => trivial
  | _ :: l => ⟨trivial, tJ l⟩
theorem tK {K : Nat → Prop} : ∀ l : List Nat, innOkl K (l.map fun r => TV.ptr r 0 0)
  | [] => trivial
  | _ :: l => ⟨trivial, tK l⟩
theorem tL {w : World} {ab ok : Nat → Prop} {μ : Nat → Mu} {h : ay} {n : Nat} : ∀ kv : List Value, VRl w ab ok μ h n (kv.map fun _ => TV.undef) kv
  | [] => rfl
  | v :: kv => ⟨v, kv, rfl, by simp [VR], tL kv⟩
theorem ET {w : World} {ab ok : Nat → Prop} {μ : Nat → Mu} {h : ay} {n : Nat} : ∀ l : List Nat, (∀ r ∈ l, r < n) → VRl w ab ok μ h n (l.map fun r => TV.ptr r 0 0) (l.map fun r => .pointer (some ⟨(μ r).cY, (μ r).off, none⟩))
  | [], _ => rfl
  | r :: l, hl => by
    refine ⟨_, _, rfl, ?_, ET l (fun x hx => hl x (by simp [hx]))⟩
    simp only [VR]
    refine ⟨hl r (by simp), _, rfl, ?_⟩
    split
    · simp
    · simp
    · trivial
def KC (c : Cx) (μ : Nat → Mu) (n : Nat) : Cx where
  P := c.P
  m := c.m
  w0 := c.w0
  ab := c.ab
  ok := c.ok
  lu := c.lu
  iZ := c.iZ
  mH := c.mH
  gs := (c.gs ++ (c.kv ++ List.replicate (stN c.m.st) undef).map fun _ => TV.undef) ++ (List.range n).map fun r => TV.ptr r 0 0
  gv := (c.gv ++ (c.kv ++ List.replicate (stN c.m.st) undef)) ++ (List.range n).map fun r => .pointer (some ⟨(μ r).cY, (μ r).off, none⟩)
  Bw := oH (oH c.Bw (tJ _)) (tK _)
  gG := c.gG
  gJ := c.gJ
theorem J7 (c : Cx) (μ : Nat → Mu) (n : Nat) : Gh (KC c μ n) n := fun r hr => List.mem_append_right _ (List.mem_map.2 ⟨r, List.mem_range.2 hr, rfl⟩)
theorem EU (c : Cx) (μ : Nat → Mu) (n : Nat) {q : Nat × Nat} (hq : q ∈ c.m.st) : ((KC c μ n).gv ++ (KC c μ n).kv).getD q.2 undef = (c.gv ++ c.kv).getD q.2 undef := by
  have hlt := ES hq
  show (((c.gv ++ (c.kv ++ List.replicate (stN c.m.st) undef)) ++ (List.range n).map fun r => Value.pointer (some ⟨(μ r).cY, (μ r).off, none⟩)) ++ []).getD q.2 undef = _
  rw [List.append_nil, ← List.append_assoc]
  simp only [List.getD, List.getElem?_append, aT, List.length_replicate]
  by_cases h1 : q.2 < c.gv.length + c.kv.length
  · rw [if_pos (by omega), if_pos h1]
  · rw [if_pos (by omega), if_neg h1, List.getElem?_replicate]
    by_cases h2 : q.2 < c.gv.length
    · omega
    · rw [if_neg h2, List.getElem?_eq_none (l := c.kv) (by omega)]
      split <;> rfl
theorem EV {c : Cx} {μ : Nat → Mu} {n : Nat} {w : World} : Fr (KC c μ n) w ↔ Fr c w :=
  ⟨fun h => ⟨h.os, h.tape, h.output, h.size, h.block, h.row⟩, fun h => ⟨h.os, h.tape, h.output, h.size, h.block, h.row⟩⟩
theorem sh {w : World} {ab ok : Nat → Prop} {μ : Nat → Mu} {h : ay} {n : Nat} : ∀ {xs ys : List TV} {us vs : List Value}, xs.length = us.length → VRl w ab ok μ h n (xs ++ ys) (us ++ vs) → VRl w ab ok μ h n xs us
  | [], _, [], _, _, _ => rfl
  | [], _, _ :: _, _, e, _ => by simp at e
  | _ :: _, _, [], _, e, _ => by simp at e
  | x :: xs, ys, u :: us, vs, e, H => by
    obtain ⟨u', us', e1, h1, h2⟩ := H
    simp only [List.cons_append, List.cons.injEq] at e1
    obtain ⟨rfl, rfl⟩ := e1
    exact ⟨u, us, rfl, h1, sh (by simpa using e) h2⟩
theorem zV {w : World} {ab ok : Nat → Prop} {μ : Nat → Mu} {h : ay} {n : Nat} : ∀ {xs : List TV} {us : List Value}, VRl w ab ok μ h n xs us → xs.length = us.length
  | [], us, H => by have H : us = [] := H; subst H; rfl
  | x :: xs, us, H => by
    obtain ⟨u, us', rfl, _, h2⟩ := H
    simp [zV h2]
theorem J8 {c : Cx} (hP : c.P = P) (hm : c.m = m) (hF : ∀ cn ∈ F, an P cn) (hmo : P.follows .mixedOrders = true) {id : Nat} {ops : Array Oper} {σ : St} {a : Act} {w : World} (hs : dH c σ a w) {K : Exit → St → Option ρ}
    (H : evD P m F σ.n (ops.toList.map (·.dst)) ops.toList ⟨σ.s, [], σ.h, σ.n, none⟩ [] (fun τ ks =>
          bif chkD (ops.toList.map (·.dst)) ops.toList ks.reverse then
            let τ1 := attL ((ops.toList.map (·.dst)).filterMap fun x => x) τ
            K .normal ⟨τ1.s, τ1.h, τ1.n⟩
          else none) = some r) : (Code.region id ops true).wp P (fun e a' w' => ∃ σ', K e σ' = some r ∧ dH c σ' a' w') a w := by
  obtain ⟨τe, ks, h1, h2⟩ := wz _ _ _ H
  simp only [List.append_nil, List.reverse_reverse] at h1
  obtain ⟨hck, h1⟩ := ah.1 h1
  refine wp_region_any hmo ?_
  have hs0 := hs.drew
  obtain ⟨q1, q2, q3, μ, q4, q5, q6⟩ := hs0
  have hlen0 := zV q6
  have hsd : eO (KC c μ σ.n) (fU ⟨σ.s, [], σ.h, σ.n, none⟩) a w.drew := by
    refine ⟨EV.2 q1, q2, ⟨q3.1, fun q hq => (q3.2 q hq).trans (EU c μ σ.n hq).symm⟩, σ.s, rfl, μ, [], fun _ => [], q4, q5, ?_, fun t bh ht => by simp [fU, pget] at ht, XR.none rfl⟩
    exact VRl.append (VRl.append q6 (tL _)) (ET _ (fun r hr => List.mem_range.1 hr))
  have hfold := h2.fold (ops := ops) (kd := fun i => ks.getD i KI.lt) 0 (fun j o hj => by simpa using hj) (fun j k hj => by simp [List.getD, hj])
  have hlen : ops.toList.length = ops.size := by simp
  rw [hlen] at hfold
  refine J4 (c := KC c μ σ.n) (J7 c μ σ.n) hP hm hF (dl := ops.toList.map (·.dst)) rfl (kd := fun i => ks.getD i KI.lt) (τe := fU τe) (fun i o ho => ?_) (fun a w hsD => ?_) ops.size (List.range' 0 ops.size) _ a w.drew _ (by simp) ?_ (fun i => ?_) (by simp) (fun j o ho hj => ?_) hfold hsd
  · obtain ⟨g1, g2⟩ := J6 hck i o (by simpa using ho)
    exact ⟨g1, fun x ox hx hox => g2 x ox hx (by simpa using hox)⟩
  · have hsA := eO.NO ((ops.toList.map (·.dst)).filterMap fun x => x) hsD
    rw [← pq] at hsA
    refine ⟨_, h1, ?_⟩
    obtain ⟨q1, q2, q3, s, hs', μ', ks', Lf, q4, q5, q6, _⟩ := hsA
    exact ⟨EV.1 q1, q2, ⟨q3.1, fun q hq => (q3.2 q hq).trans (EU c μ σ.n hq)⟩, μ', q4.ni (List.nil_sublist _), fun t => by have := q5 t; rw [hs'] at this; exact this, sh hlen0 (sh (by simp [hlen0]) q6)⟩
  · exact List.pairwise_lt_range'
  · simp only [List.mem_range'_1, Nat.zero_le, true_and, Nat.zero_add]
    constructor
    · intro hi; exact ⟨hi, by simp [hi]⟩
    · exact fun h => h.1
  · have hjl : j < ops.size := (Array.getElem?_eq_some_iff.1 ho).1
    simp [hjl] at hj
end
end Go.Tw
namespace Go.Tw
open Go Go.RowKit
variable [k7]
def loopsIn : Code → List Code
  | .seq a b => loopsIn a ++ loopsIn b
  | .block _ a => loopsIn a
  | .cond _ a b => loopsIn a ++ loopsIn b
  | .loop a => [a]
  | _ => []
theorem lD {c : Cx} {F : List bj} {N : A8} {L : List (Nat × LO)} (hN : qk c.P N) (hF : ∀ cn ∈ F, an c.P cn) {ρ : Type} {r : ρ} : ∀ (code : Code) (K : Exit → St → Option ρ) (σ : St), (∀ b ∈ loopsIn code, ∀ lo, qF L (zW b) = some lo → ch c lo b) → evC c.P c.m F N L code K σ = some r →
    Sy c code (fun e σ' => K e σ' = some r) σ
  | .skip, K, σ, _, hev => fun _ _ hs => wp_skip ⟨σ, hev, hs⟩
  | .exit id, K, σ, _, hev => fun _ _ hs => wp_exit ⟨σ, hev, hs⟩
  | .ret, K, σ, _, hev => fun _ _ hs => wp_ret ⟨σ, hev, hs⟩
  | .region id ops draw, K, σ, _, hev => fun a w hs => by
    simp only [evC] at hev
    cases draw with
    | true =>
      simp only [ag] at hev
      obtain ⟨h0, hev⟩ := ah.1 hev
      exact J8 (P := c.P) (m := c.m) rfl rfl hF h0 hs hev
    | false =>
      simp only [al] at hev
      have h := nq hN hF (ops := ops) rfl (Q := fun e a' w' => ∃ σ', K e σ' = some r ∧ dH c σ' a' w') (fun σ a w h1 h2 => ⟨σ, h1, h2⟩) ops.toList σ a w hev hs
      have := wp_region_lit (id := id) (l := ops.toList) h
      simpa using this
  | .seq x y, K, σ, hL, hev => fun a w hs => by
    simp only [evC] at hev
    have ih := lD hN hF x _ σ (fun b hb => hL b (by simp [loopsIn, hb])) hev
    refine Go.wp_seq (wp_mono (ih a w hs) ?_)
    rintro e a' w' ⟨σ', q, s⟩
    cases e with
    | normal => exact lD hN hF y K σ' (fun b hb => hL b (by simp [loopsIn, hb])) q a' w' s
    | _ => exact ⟨σ', q, s⟩
  | .block id x, K, σ, hL, hev => fun a w hs => by
    simp only [evC] at hev
    have ih := lD hN hF x _ σ hL hev
    refine Go.wp_block (wp_mono (ih a w hs) ?_)
    rintro e a' w' ⟨σ', q, s⟩
    cases e with
    | exit id' =>
      simp only at q
      by_cases hi : id' = id
      · subst hi
        simp only [Nat.beq_refl, ag] at q
        simp only [Exit.inBlock, ↓reduceIte]
        exact ⟨σ', q, s⟩
      · have : Nat.beq id' id = false := by
          cases hb : Nat.beq id' id with
          | false => rfl
          | true => exact absurd (Nat.eq_of_beq_eq_true hb) hi
        simp only [this, al] at q
        simp only [Exit.inBlock, hi, ↓reduceIte]
        exact ⟨σ', q, s⟩
    | _ => exact ⟨σ', q, s⟩
  | .cond x t e, K, σ, hL, hev => fun a w hs => by
    simp only [evC] at hev
    split at hev
    · rename_i b hq
      obtain ⟨_, _, _, μ, _, hl, _⟩ := id hs
      have hv := SR.iR hl x
      rw [hq] at hv
      refine wp_cond_split hv.iy (fun hb => ?_) (fun hb => ?_)
      · subst hb
        exact lD hN hF t K σ (fun b hb => hL b (by simp [loopsIn, hb])) hev a w hs
      · subst hb
        exact lD hN hF e K σ (fun b hb => hL b (by simp [loopsIn, hb])) hev a w hs
    · simp at hev
  | .loop x, K, σ, hL, hev => by
    simp only [evC] at hev
    split at hev
    · rename_i lo hlo
      exact hL x (by simp [loopsIn]) lo hlo ρ σ K r hev
    · simp at hev
  | .rangeFunc _ _ _ _, _, _, _, hev => by simp [evC] at hev
  | .scope _, _, _, _, hev => by simp [evC] at hev
  | .label _, _, _, _, hev => by simp [evC] at hev
  | .goto _, _, _, _, hev => by simp [evC] at hev
  | .refuse _, _, _, _, hev => by simp [evC] at hev
end Go.Tw
