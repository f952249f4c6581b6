/- Facts on mirrors. -/
import Derived.Test.YtemcbhjheebnnaaGreatMr
import Derived.Test.YtemcbhjheebnnaaGreatPk0
import Derived.Test.YtemcbhjheebnnaaGreatPa7
set_option linter.all false
set_option maxRecDepth 100000
namespace Go.Tw
open Go Go.RowKit
open Go.IntKind renaming wrap → Wr
theorem qs : gg MM du (WF (.sl (.int .u8))) (fun x => (List.length x : Int) ≤ MM) := (AF (α := Int) (M := MM) (by decide)).imp (fun e h => h.1) (fun e h => h)
theorem dD : gg MM du (WF (.sl (.int .u8))) (Bd (.sl (.int .u8))) := qs.imp (fun e h => h) (fun e h => ⟨h, fun x _ => trivial⟩)
theorem qt : gg MM (lY) (WF fu) (Bd fu) := (gg.bind (p := fun e : bH => e.2.2.2.2.1) (dD) gg.ret).imp (fun e h => ⟨h.2.2.2.2.1, trivial⟩) (fun e h => ⟨trivial, ⟨trivial, ⟨trivial, ⟨trivial, ⟨h.1, trivial⟩⟩⟩⟩⟩)
theorem ri : gg MM (mP) (WF dU) (Bd dU) := (gg.bind (p := fun e : aR => e.2.2.2.2.2.2.2.2.2.1) (dD) (gg.bind (p := fun e : aR => e.2.2.2.2.2.2.2.2.2.2.1) (dD) gg.ret)).imp (fun e h => ⟨h.2.2.2.2.2.2.2.2.2.1, h.2.2.2.2.2.2.2.2.2.2.1, trivial⟩) (fun e h => ⟨trivial, ⟨trivial, ⟨trivial, ⟨trivial, ⟨trivial, ⟨trivial, ⟨trivial, ⟨⟨trivial, ⟨trivial, ⟨trivial, ⟨trivial, ⟨trivial, trivial⟩⟩⟩⟩⟩, ⟨⟨trivial, ⟨trivial, ⟨trivial, ⟨trivial, ⟨trivial, trivial⟩⟩⟩⟩⟩, ⟨h.1, ⟨h.2.1, trivial⟩⟩⟩⟩⟩⟩⟩⟩⟩⟩⟩)
theorem sG : gg MM (lZ) (WF da) (Bd da) := (gg.bind (p := fun e : aB => e.2.1) (dD) gg.ret).imp (fun e h => ⟨h.2.1, trivial⟩) (fun e h => ⟨trivial, ⟨h.1, trivial⟩⟩)
theorem rj (k : Nat) (hk : MM < k) : gg MM (mQ k) (WF (.sl da)) (Bd (.sl da)) := (AG (f := lZ) (z := cF) (by decide) (sG) k hk).imp (fun e h => h) (fun e h => h)
theorem sH (k : Nat) (hk : MM < k) : gg MM (oq k) (WF eI) (Bd eI) := (gg.bind (p := fun e : bc => e.2.2.2.2.2.2.1) (rj k hk) (gg.bind (p := fun e : bc => e.2.2.2.2.2.2.2.1) (dD) gg.ret)).imp (fun e h => ⟨h.2.2.2.2.2.2.1, h.2.2.2.2.2.2.2.1, trivial⟩) (fun e h => ⟨trivial, ⟨trivial, ⟨trivial, ⟨trivial, ⟨⟨trivial, ⟨trivial, ⟨trivial, ⟨trivial, ⟨trivial, trivial⟩⟩⟩⟩⟩, ⟨⟨trivial, ⟨trivial, ⟨trivial, ⟨trivial, ⟨trivial, trivial⟩⟩⟩⟩⟩, ⟨h.1, ⟨h.2.1, trivial⟩⟩⟩⟩⟩⟩⟩⟩)
theorem qu : gg MM (l9) (WF dG) (Bd dG) := (gg.bind (p := fun e : aF => e.2.2.2.2.2.2.2.2.2.2.2.2.1) (dD) (gg.bind (p := fun e : aF => e.2.2.2.2.2.2.2.2.2.2.2.2.2.1) (dD) gg.ret)).imp (fun e h => ⟨h.2.2.2.2.2.2.2.2.2.2.2.2.1, h.2.2.2.2.2.2.2.2.2.2.2.2.2.1, trivial⟩) (fun e h => ⟨trivial, ⟨trivial, ⟨trivial, ⟨trivial, ⟨trivial, ⟨trivial, ⟨trivial, ⟨trivial, ⟨trivial, ⟨trivial, ⟨trivial, ⟨trivial, ⟨h.1, ⟨h.2.1, trivial⟩⟩⟩⟩⟩⟩⟩⟩⟩⟩⟩⟩⟩⟩)
theorem pO (k : Nat) (hk : MM < k) : gg MM (lv k) (WF aU) (Bd aU) := (gg.bind (p := fun e : aj => e.2.1) (qt) (gg.bind (p := fun e : aj => e.2.2.1) (ri) (gg.bind (p := fun e : aj => e.2.2.2.1) (sH k hk) (gg.bind (p := fun e : aj => e.2.2.2.2.1) (qu) (gg.bind (p := fun e : aj => e.2.2.2.2.2.1) (dD) gg.ret))))).imp (fun e h => ⟨h.2.1, h.2.2.1, h.2.2.2.1, h.2.2.2.2.1, h.2.2.2.2.2.1, trivial⟩) (fun e h => ⟨trivial, ⟨h.1, ⟨h.2.1, ⟨h.2.2.1, ⟨h.2.2.2.1, ⟨h.2.2.2.2.1, trivial⟩⟩⟩⟩⟩⟩)
theorem hO (k : Nat) (hk : MM < k) (x : ar) (h : Bd aW x) : gk x = some ((x, ()), ()) := by
  unfold gk
  try simp only [ai]
  try rfl
theorem lM (k : Nat) (hk : MM < k) (x : bx) (h : Bd dI x) : iB x = some ((x, ()), ()) := by
  unfold iB
  try simp only [hO k hk _ h.1, ai]
  try rfl
theorem pP (k : Nat) (hk : MM < k) (x : aV) (h : Bd fw x) : gC x = some ((x, ()), ()) := by
  unfold gC
  try simp only [lM k hk _ h.2.1, lM k hk _ h.2.2.1, ai]
  try rfl
theorem dE (k : Nat) (hk : MM < k) (x : (List Int)) (h : Bd (.sl (.int .u8)) x) : dO k x = some ((x, ()), ()) := sU (M := MM) (f := fun e => some ((e, ()), ())) (z := (0 : Int)) (s := 1) k x h.1 hk (by decide) (by decide) (by decide) (fun e _ => rfl)
theorem qv (k : Nat) (hk : MM < k) (x : bH) (h : Bd fu x) : kl k x = some ((x, ()), ()) := by
  unfold kl
  try simp only [dE k hk _ h.2.2.2.2.1, ai]
  try rfl
theorem rl (k : Nat) (hk : MM < k) (x : aR) (h : Bd dU x) : k9 k x = some ((x, ()), ()) := by
  unfold k9
  try simp only [hO k hk _ h.2.2.2.2.2.2.2.1, hO k hk _ h.2.2.2.2.2.2.2.2.1, dE k hk _ h.2.2.2.2.2.2.2.2.2.1, dE k hk _ h.2.2.2.2.2.2.2.2.2.2.1, ai]
  try rfl
theorem sI (k : Nat) (hk : MM < k) (x : aB) (h : Bd da x) : kH k x = some ((x, ()), ()) := by
  unfold kH
  try simp only [dE k hk _ h.2.1, ai]
  try rfl
theorem rn (k : Nat) (hk : MM < k) (x : (List aB)) (h : Bd (.sl da) x) : mR k x = some ((x, ()), ()) := sU (M := MM) (f := kH k) (z := cF) (s := 32) k x h.1 hk (by decide) (by decide) (by decide) (fun e he => sI k hk e (h.2 e he))
theorem sJ (k : Nat) (hk : MM < k) (x : bc) (h : Bd eI x) : ma k x = some ((x, ()), ()) := by
  unfold ma
  try simp only [hO k hk _ h.2.2.2.2.1, hO k hk _ h.2.2.2.2.2.1, rn k hk _ h.2.2.2.2.2.2.1, dE k hk _ h.2.2.2.2.2.2.2.1, ai]
  try rfl
theorem qw (k : Nat) (hk : MM < k) (x : aF) (h : Bd dG x) : km k x = some ((x, ()), ()) := by
  unfold km
  try simp only [dE k hk _ h.2.2.2.2.2.2.2.2.2.2.2.2.1, dE k hk _ h.2.2.2.2.2.2.2.2.2.2.2.2.2.1, ai]
  try rfl
theorem pQ (k : Nat) (hk : MM < k) (x : aj) (h : Bd aU x) : fH k x = some ((x, ()), ()) := by
  unfold fH
  try simp only [qv k hk _ h.2.1, rl k hk _ h.2.2.1, sJ k hk _ h.2.2.2.1, qw k hk _ h.2.2.2.2.1, dE k hk _ h.2.2.2.2.2.1, ai]
  try rfl
theorem dF (k : Nat) (hk : MM < k) (x : (List Int)) (h : Bd (.sl (.int .u8)) x) : dS k x x = some ((true, ()), ()) := sV (M := MM) (f := fun a b => some ((decide (a = b), ()), ())) (z := (0 : Int)) k x h.1 hk (by decide) (fun e _ => by simp)
theorem qx (k : Nat) (hk : MM < k) (x : bH) (h : Bd fu x) : kA k x x = some ((true, ()), ()) := by
  unfold kA
  simp [dF k hk _ h.2.2.2.2.1]
theorem jj (k : Nat) (hk : MM < k) (x : ar) (h : Bd aW x) : gY x x = some ((true, ()), ()) := by
  unfold gY
  simp
theorem rp (k : Nat) (hk : MM < k) (x : aR) (h : Bd dU x) : lg k x x = some ((true, ()), ()) := by
  unfold lg
  simp [jj k hk _ h.2.2.2.2.2.2.2.1, jj k hk _ h.2.2.2.2.2.2.2.2.1, dF k hk _ h.2.2.2.2.2.2.2.2.2.1, dF k hk _ h.2.2.2.2.2.2.2.2.2.2.1]
theorem sK (k : Nat) (hk : MM < k) (x : aB) (h : Bd da x) : kM k x x = some ((true, ()), ()) := by
  unfold kM
  simp [dF k hk _ h.2.1]
theorem rq (k : Nat) (hk : MM < k) (x : (List aB)) (h : Bd (.sl da) x) : mW k x x = some ((true, ()), ()) := sV (M := MM) (f := kM k) (z := cF) k x h.1 hk (by decide) (fun e he => sK k hk e (h.2 e he))
theorem sL (k : Nat) (hk : MM < k) (x : bc) (h : Bd eI x) : md k x x = some ((true, ()), ()) := by
  unfold md
  simp [jj k hk _ h.2.2.2.2.1, jj k hk _ h.2.2.2.2.2.1, rq k hk _ h.2.2.2.2.2.2.1, dF k hk _ h.2.2.2.2.2.2.2.1]
theorem qy (k : Nat) (hk : MM < k) (x : aF) (h : Bd dG x) : kB k x x = some ((true, ()), ()) := by
  unfold kB
  simp [dF k hk _ h.2.2.2.2.2.2.2.2.2.2.2.2.1, dF k hk _ h.2.2.2.2.2.2.2.2.2.2.2.2.2.1]
theorem lN (k : Nat) (hk : MM < k) (x : aj) (h : Bd aU x) : fN k x x = some ((true, ()), ()) := by
  unfold fN
  simp [qx k hk _ h.2.1, rp k hk _ h.2.2.1, sL k hk _ h.2.2.2.1, qy k hk _ h.2.2.2.2.1, dF k hk _ h.2.2.2.2.2.1]
theorem SE : gg MM Sh (WF (.sl fw)) (fun x => (List.length x : Int) ≤ MM) := (AF (α := aV) (M := MM) (by decide)).imp (fun e h => h.1) (fun e h => h)
theorem SF : gg MM Sh (WF (.sl fw)) (Bd (.sl fw)) := SE.imp (fun e h => h) (fun e h => ⟨h, fun x _ => ⟨trivial, ⟨⟨⟨trivial, ⟨trivial, ⟨trivial, ⟨trivial, ⟨trivial, trivial⟩⟩⟩⟩⟩, ⟨trivial, trivial⟩⟩, ⟨⟨⟨trivial, ⟨trivial, ⟨trivial, ⟨trivial, ⟨trivial, trivial⟩⟩⟩⟩⟩, ⟨trivial, trivial⟩⟩, ⟨trivial, ⟨trivial, ⟨trivial, ⟨trivial, trivial⟩⟩⟩⟩⟩⟩⟩⟩)
theorem SG (k : Nat) (hk : MM < k) (x : (List aV)) (h : Bd (.sl fw) x) : R6 k x = some ((x, ()), ()) := sU (M := MM) (f := gC) (z := vJ) (s := 136) k x h.1 hk (by decide) (by decide) (by decide) (fun e he => pP k hk e (h.2 e he))
theorem SQ (k : Nat) (hk : MM < k) (x : (List Int)) (h : Bd (.sl (.int .i64)) x) : Sf k x = some ((x, ()), ()) := sU (M := MM) (f := fun e => some ((e, ()), ())) (z := (0 : Int)) (s := 8) k x h.1 hk (by decide) (by decide) (by decide) (fun e _ => rfl)
theorem SA (k : Nat) (hk : MM < k) (x : (List Int)) (h : Bd (.sl (.int .i64)) x) : Sg k x x = some ((true, ()), ()) := sV (M := MM) (f := fun a b => some ((decide (a = b), ()), ())) (z := (0 : Int)) k x h.1 hk (by decide) (fun e _ => by simp)
theorem Sx (k : Nat) (hk : MM < k) (x : bx) (h : Bd dI x) : R9 x x = some ((true, ()), ()) := by
  unfold R9
  simp [jj k hk _ h.1]
theorem SL (k : Nat) (hk : MM < k) (x : aV) (h : Bd fw x) : Sa x x = some ((true, ()), ()) := by
  unfold Sa
  simp [Sx k hk _ h.2.1, Sx k hk _ h.2.2.1]
theorem SH (k : Nat) (hk : MM < k) (x : (List aV)) (h : Bd (.sl fw) x) : Sw k x x = some ((true, ()), ()) := sV (M := MM) (f := Sa) (z := vJ) k x h.1 hk (by decide) (fun e he => SL k hk e (h.2 e he))
section
set_option maxHeartbeats 4000000
abbrev mB (n : Nat) (m : Int) : List Int := markF (fun m => Wr .u8 m) 1 n m
theorem cN (k : Nat) (hk : MM < k) (L : List Int) (hL : L.length ≤ 1048576) (m : Int) (h0 : 0 ≤ m) (hm : m + (L.length : Int) ≤ 4398046511104) :
    aP k L m = some ((m + (L.length : Int), ()), (mB L.length m, ())) := by
  unfold aP
  have run := DD (step := eg) (E := fun m => Wr .u8 m) (c := 1) (0 : Int) (fun L m i rec hi hl g0 g1 => by
      have e1 : Wr .i64 (m + 1) = m + ((1 : Nat) : Int) := (bL (n := m + 1) (by omega)).trans (by omega)
      have ei : Wr .i64 ((i : Int) + 1) = ((i + 1 : Nat) : Int) := bL (by omega)
      have c1 : decide ((i : Int) < (L.length : Int)) = true := ae (by omega)
      have c2 : decide ((0 : Int) ≤ (i : Int)) = true := ae (by omega)
      have c3 : decide (i < L.length) = true := ae (by omega)
      unfold eg
      simp only [e1, ei, Int.toNat_natCast, c1, c2, c3, Bool.and_self, ag]) (fun L m rec => by
      unfold eg
      exact aK (ao (by dsimp only; omega))) hk hL h0 (by rw [Nat.one_mul]; exact hm)
  rw [run, Nat.one_mul]; rfl
theorem gr (k : Nat) (hk : MM < k) (n : Nat) (hn : n ≤ 1048576) (m : Int) (h0 : 0 ≤ m) (hm : m + ((n : Nat) : Int) ≤ 4398046511104) :
    cM k (mB n m) m = some ((m + ((n : Nat) : Int), ()), ()) := by
  unfold cM
  have run := DE (step := ej) (E := fun m => Wr .u8 m) (c := 1) (0 : Int) (fun L m i rec hi hl g0 g1 he => by
      have e1 : Wr .i64 (m + 1) = m + ((1 : Nat) : Int) := (bL (n := m + 1) (by omega)).trans (by omega)
      have ei : Wr .i64 ((i : Int) + 1) = ((i + 1 : Nat) : Int) := bL (by omega)
      have c1 : decide ((i : Int) < (L.length : Int)) = true := ae (by omega)
      have c2 : decide ((0 : Int) ≤ (i : Int)) = true := ae (by omega)
      have c3 : decide (i < L.length) = true := ae (by omega)
      unfold ej
      simp only [e1, ei, Int.toNat_natCast, he, c1, c2, c3, Bool.and_self, ag, aI, bI, al]) (fun L m rec => by
      unfold ej
      exact aK (ao (by dsimp only; omega))) hk hn h0 (by rw [Nat.one_mul]; exact hm)
  rw [run, Nat.one_mul]; rfl
def mkX : List aB → Int → List aB
  | [], _ => []
  | e :: l, m => (m, mB e.2.1.length (m + 1), ()) :: mkX l (m + 1 + (e.2.1.length : Int))
def xc : List aB → Nat
  | [] => 0
  | e :: l => 1 + e.2.1.length + xc l
theorem zg : ∀ (l : List aB) (m : Int), (mkX l m).length = l.length
  | [], _ => rfl
  | e :: l, m => by unfold mkX; rw [List.length_cons, List.length_cons, zg l]
theorem xW (W : Nat) : ∀ (l : List aB) (n : Nat), l.length ≤ n → (∀ e ∈ l, e.2.1.length ≤ W) → xc l ≤ (W + 1) * n
  | [], n, _, _ => Nat.zero_le _
  | e :: l, 0, h, _ => by simp at h
  | e :: l, n + 1, h, hw => by
    have := xW W l n (by simpa using h) (fun x hx => hw x (List.mem_cons_of_mem _ hx))
    have := hw e List.mem_cons_self
    unfold xc
    rw [Nat.mul_succ]; omega
theorem zh (l : List aB) (n : Nat) (h : l.length ≤ n) (hw : ∀ e ∈ l, e.2.1.length ≤ 1600) : xc l ≤ 1601 * n := xW 1600 l n h hw
theorem ru {α : Type} : ∀ (P : List α) (x z : α) (r : List α) (n : Nat), n = P.length → (P ++ x :: r).getD n z = x
  | [], x, z, r, n, h => by subst h; rfl
  | p :: P, x, z, r, n, h => by
    subst h
    simp only [List.cons_append, List.length_cons, List.getD_cons_succ]
    exact ru P x z r P.length rfl
theorem sX (K : Nat) (hK : MM < K) : ∀ (l P : List aB) (m : Int) (k : Nat), P.length + l.length ≤ 1048576 → (∀ e ∈ l, e.2.1.length ≤ 1048576) → l.length < k → 0 ≤ m → m + ((xc l : Nat) : Int) ≤ 2199023255552 →
    iter (cV K) k ((P ++ l, ()), (), m, (P.length : Int), ()) = some ((P ++ mkX l m, ()), m + ((xc l : Nat) : Int), ())
  | l, P, m, 0, _, _, h, _, _ => by omega
  | [], P, m, k + 1, h1, hw, h, h0, hm => by
    rw [bd]
    have st : ∀ rec, cV K rec ((P ++ [], ()), (), m, (P.length : Int), ()) = some ((P ++ [], ()), m, ()) := fun rec => by
      unfold cV; exact aK (ao (by simp))
    rw [st]
    simp [mkX, xc]
  | e :: l, P, m, k + 1, h1, hw, h, h0, hm => by
    rw [bd]
    have he := hw e List.mem_cons_self
    have hxc : xc (e :: l) = 1 + e.2.1.length + xc l := rfl
    have hl : (P ++ e :: l).length = P.length + l.length + 1 := by simp; omega
    have h1' : P.length + l.length + 1 ≤ 1048576 := by have := h1; simp only [List.length_cons] at this; omega
    have st : ∀ rec, cV K rec ((P ++ e :: l, ()), (), m, (P.length : Int), ()) = rec ((P ++ (m, mB e.2.1.length (m + 1), ()) :: l, ()), (), m + 1 + (e.2.1.length : Int), ((P.length + 1 : Nat) : Int), ()) := fun rec => by
      have e1 : Wr .i64 (m + 1) = m + 1 := bL (n := m + 1) (by omega)
      have ei : Wr .i64 ((P.length : Int) + 1) = ((P.length + 1 : Nat) : Int) := bL (by omega)
      have c1 : decide ((P.length : Int) < (((P ++ e :: l).length : Nat) : Int)) = true := ae (by omega)
      have c2 : decide ((0 : Int) ≤ (P.length : Int)) = true := ae (by omega)
      have c3 : decide (P.length < (P ++ e :: l).length) = true := ae (by omega)
      have d1 : ∀ x : aB, decide ((P.length : Int) < (((P ++ x :: l).length : Nat) : Int)) = true := fun x => ae (by simp; omega)
      have d3 : ∀ x : aB, decide (P.length < (P ++ x :: l).length) = true := fun x => ae (by simp)
      have g := fun (x : aB) => ru P x cF l P.length rfl
      have s := fun (x y : aB) => ry P x y l P.length rfl
      have mb := cN K hK e.2.1 (by omega) (m + 1) (by omega) (by omega)
      unfold cV
      simp only [e1, ei, Int.toNat_natCast, c1, c2, c3, g, s, d1, d3, mb, Bool.and_self, ag, ai]
    rw [st]
    have ih := sX K hK l (P ++ [(m, mB e.2.1.length (m + 1), ())]) (m + 1 + (e.2.1.length : Int)) k (by simp; omega) (fun x hx => hw x (List.mem_cons_of_mem _ hx)) (by simp at h; omega) (by omega) (by omega)
    simp only [List.append_assoc, List.singleton_append, aT, List.length_cons, List.length_nil] at ih
    rw [ih, hxc, show mkX (e :: l) m = (m, mB e.2.1.length (m + 1), ()) :: mkX l (m + 1 + (e.2.1.length : Int)) from rfl]
    have ew : m + 1 + (e.2.1.length : Int) + ((xc l : Nat) : Int) = m + ((1 + e.2.1.length + xc l : Nat) : Int) := by omega
    rw [ew]
theorem sY (k : Nat) (hk : MM < k) (L : List aB) (hL : L.length ≤ 1048576) (hw : ∀ e ∈ L, e.2.1.length ≤ 1048576) (m : Int) (h0 : 0 ≤ m) (hm : m + ((xc L : Nat) : Int) ≤ 2199023255552) :
    fP k L m = some ((m + ((xc L : Nat) : Int), ()), (mkX L m, ())) := by
  have hM : MM = 1048576 := rfl
  unfold fP
  have run := sX k hk L [] m k (by simp; omega) hw (by omega) h0 hm
  simp only [List.nil_append, List.length_nil] at run
  rw [show iter (cV k) k ((L, ()), (), m, (0 : Int), ()) = _ from run]
  rfl
theorem DF (k : Nat) (hk : MM < k) (L : List aB) (hL : L.length ≤ 3) (hw : ∀ e ∈ L, e.2.1.length ≤ 1600) (m : Int) (h0 : 0 ≤ m) (hm : m ≤ 10000000) :
    fP k L m = some ((m + ((xc L : Nat) : Int), ()), (mkX L m, ())) := by
  have := zh L 3 hL hw
  exact sY k hk L (by omega) (fun e he => Nat.le_trans (hw e he) (by decide)) m h0 (by omega)
theorem sZ (K : Nat) (hK : MM < K) : ∀ (l P : List aB) (m : Int) (k : Nat), P.length + l.length ≤ 1048576 → (∀ e ∈ l, e.2.1.length ≤ 1048576) → l.length < k → 0 ≤ m → m + ((xc l : Nat) : Int) ≤ 2199023255552 →
    iter (cW K) k ((), P ++ mkX l m, m, (P.length : Int), ()) = some (Sum.inr ((), m + ((xc l : Nat) : Int), ()))
  | l, P, m, 0, _, _, h, _, _ => by omega
  | [], P, m, k + 1, h1, hw, h, h0, hm => by
    rw [bd]
    have st : ∀ rec, cW K rec ((), P ++ mkX [] m, m, (P.length : Int), ()) = some (Sum.inr ((), m, ())) := fun rec => by
      unfold cW; exact aK (ao (by simp [mkX]))
    rw [st]
    simp [xc]
  | e :: l, P, m, k + 1, h1, hw, h, h0, hm => by
    rw [bd]
    have he := hw e List.mem_cons_self
    have hxc : xc (e :: l) = 1 + e.2.1.length + xc l := rfl
    have h1' : P.length + l.length + 1 ≤ 1048576 := by have := h1; simp only [List.length_cons] at this; omega
    rw [show mkX (e :: l) m = (m, mB e.2.1.length (m + 1), ()) :: mkX l (m + 1 + (e.2.1.length : Int)) from rfl]
    have st : ∀ (R : List aB) rec, R.length = l.length → cW K rec ((), P ++ (m, mB e.2.1.length (m + 1), ()) :: R, m, (P.length : Int), ()) = rec ((), P ++ (m, mB e.2.1.length (m + 1), ()) :: R, m + 1 + (e.2.1.length : Int), ((P.length + 1 : Nat) : Int), ()) := fun R rec hR => by
      have e1 : Wr .i64 (m + 1) = m + 1 := bL (n := m + 1) (by omega)
      have ei : Wr .i64 ((P.length : Int) + 1) = ((P.length + 1 : Nat) : Int) := bL (by omega)
      have c2 : decide ((0 : Int) ≤ (P.length : Int)) = true := ae (by omega)
      have d1 : ∀ x : aB, decide ((P.length : Int) < (((P ++ x :: R).length : Nat) : Int)) = true := fun x => ae (by simp; omega)
      have d3 : ∀ x : aB, decide (P.length < (P ++ x :: R).length) = true := fun x => ae (by simp)
      have g := fun (x : aB) => ru P x cF R P.length rfl
      have mb := gr K hK e.2.1.length (by omega) (m + 1) (by omega) (by omega)
      have n1 : decide (m + 1 + (e.2.1.length : Int) < 0) = false := ao (by omega)
      unfold cW
      simp only [e1, ei, Int.toNat_natCast, c2, g, d1, d3, mb, n1, aI, bI, Bool.and_self, ag, al, ai]
    rw [st _ _ (zg _ _)]
    have ih := sZ K hK l (P ++ [(m, mB e.2.1.length (m + 1), ())]) (m + 1 + (e.2.1.length : Int)) k (by simp; omega) (fun x hx => hw x (List.mem_cons_of_mem _ hx)) (by simp at h; omega) (by omega) (by omega)
    simp only [List.append_assoc, List.singleton_append, aT, List.length_cons, List.length_nil] at ih
    rw [ih, hxc]
    have ew : m + 1 + (e.2.1.length : Int) + ((xc l : Nat) : Int) = m + ((1 + e.2.1.length + xc l : Nat) : Int) := by omega
    rw [ew]
theorem DG (k : Nat) (hk : MM < k) (L : List aB) (hL : L.length ≤ 3) (hw : ∀ e ∈ L, e.2.1.length ≤ 1600) (m : Int) (h0 : 0 ≤ m) (hm : m ≤ 10000000) :
    jO k (mkX L m) m = some ((m + ((xc L : Nat) : Int), ()), ()) := by
  have hM : MM = 1048576 := rfl
  have := zh L 3 hL hw
  unfold jO
  have run := sZ k hk L [] m k (by simp; omega) (fun e he => Nat.le_trans (hw e he) (by decide)) (by omega) h0 (by omega)
  simp only [List.nil_append, List.length_nil] at run
  rw [show iter (cW k) k ((), mkX L m, m, (0 : Int), ()) = _ from run]
  rfl
end
section
set_option maxHeartbeats 8000000
structure PW (P : aj) : Prop where
  a1 : P.2.1.2.2.2.2.1.length ≤ 1600
  a2 : (fO P.2.2.1).length ≤ 1600
  a3 : (fB P.2.2.1).length ≤ 1600
  a4 : rz (sE P.2.2.2.1)
  a5 : (sB P.2.2.2.1).length ≤ 1600
  a6 : P.2.2.2.2.1.2.2.2.2.2.2.2.2.2.2.2.2.1.length ≤ 1600
  a7 : P.2.2.2.2.1.2.2.2.2.2.2.2.2.2.2.2.2.2.1.length ≤ 1600
  a8 : P.2.2.2.2.2.1.length ≤ 1600
theorem tc : PW oK := ⟨Nat.zero_le _, Nat.zero_le _, Nat.zero_le _, zi, Nat.zero_le _, Nat.zero_le _, Nat.zero_le _, Nat.zero_le _⟩
theorem qf {l : List Int} (h : l.length ≤ 1600) : Bd (.sl (.int .u8)) l := by
  have hM : MM = 1048576 := rfl
  exact ⟨show (l.length : Int) ≤ MM by omega, fun _ _ => trivial⟩
theorem Jm {P : aj} (h : PW P) : Bd aU P := by
  have hM : MM = 1048576 := rfl
  have hx : Bd (.sl da) (sE P.2.2.2.1) := ⟨show (((sE P.2.2.2.1).length : Nat) : Int) ≤ MM by have := h.a4.1; omega, fun e he => ⟨trivial, qf (h.a4.2 e he), trivial⟩⟩
  exact ⟨trivial, ⟨trivial, trivial, trivial, trivial, qf h.a1, trivial⟩, ⟨trivial, trivial, trivial, trivial, trivial, trivial, trivial, ⟨trivial, trivial, trivial, trivial, trivial, trivial⟩, ⟨trivial, trivial, trivial, trivial, trivial, trivial⟩, qf h.a2, qf h.a3, trivial⟩, ⟨trivial, trivial, trivial, trivial, ⟨trivial, trivial, trivial, trivial, trivial, trivial⟩, ⟨trivial, trivial, trivial, trivial, trivial, trivial⟩, hx, qf h.a5, trivial⟩, ⟨trivial, trivial, trivial, trivial, trivial, trivial, trivial, trivial, trivial, trivial, trivial, trivial, qf h.a6, qf h.a7, trivial⟩, qf h.a8, trivial⟩
theorem Jn (k : Nat) (hk : MM < k) (v e1 e2 e3 e4 f1 f2 f3 f4 f5 f6 f7 s1 s2 s3 s4 u1 u2 u3 u4 u5 u6 u7 u8 u9 u10 u11 : Int) (fa fb sa sb : ar) (ub : Bool) (X : List aB) (hX : rz X) (n1 n2 n3 n5 n6 n7 n8 : Nat) (h1 : n1 ≤ 1600) (h2 : n2 ≤ 1600) (h3 : n3 ≤ 1600) (h5 : n5 ≤ 1600) (h6 : n6 ≤ 1600) (h7 : n7 ≤ 1600) (h8 : n8 ≤ 1600) (c1 c2 c3 c4 c5 c6 c7 c8 : Int)
    (g1 : c1 = 1 + (n1 : Int)) (g2 : c2 = c1 + (n2 : Int)) (g3 : c3 = c2 + (n3 : Int)) (g4 : c4 = c3 + ((xc X : Nat) : Int)) (g5 : c5 = c4 + (n5 : Int)) (g6 : c6 = c5 + (n6 : Int)) (g7 : c7 = c6 + (n7 : Int)) (g8 : c8 = c7 + (n8 : Int)) :
    gA k (v, (e1, e2, e3, e4, mB n1 1, ()), (f1, f2, f3, f4, f5, f6, f7, fa, fb, mB n2 c1, mB n3 c2, ()), (s1, s2, s3, s4, sa, sb, mkX X c3, mB n5 c4, ()), (u1, u2, u3, u4, u5, u6, u7, u8, u9, u10, u11, ub, mB n6 c5, mB n7 c6, ()), mB n8 c7, ()) 1 = some ((c8, ()), ()) := by
  have hx := zh X 3 hX.1 hX.2
  have r1 := gr k hk n1 (by omega) 1 (by omega) (by omega)
  have r2 := gr k hk n2 (by omega) c1 (by omega) (by omega)
  have r3 := gr k hk n3 (by omega) c2 (by omega) (by omega)
  have r4 := DG k hk X hX.1 hX.2 c3 (by omega) (by omega)
  have r5 := gr k hk n5 (by omega) c4 (by omega) (by omega)
  have r6 := gr k hk n6 (by omega) c5 (by omega) (by omega)
  have r7 := gr k hk n7 (by omega) c6 (by omega) (by omega)
  have r8 := gr k hk n8 (by omega) c7 (by omega) (by omega)
  rw [← g1] at r1
  rw [← g2] at r2
  rw [← g3] at r3
  rw [← g4] at r4
  rw [← g5] at r5
  rw [← g6] at r6
  rw [← g7] at r7
  rw [← g8] at r8
  have d1 : decide (c1 < 0) = false := ao (by omega)
  have d2 : decide (c2 < 0) = false := ao (by omega)
  have d3 : decide (c3 < 0) = false := ao (by omega)
  have d4 : decide (c4 < 0) = false := ao (by omega)
  have d5 : decide (c5 < 0) = false := ao (by omega)
  have d6 : decide (c6 < 0) = false := ao (by omega)
  have d7 : decide (c7 < 0) = false := ao (by omega)
  have d8 : decide (c8 < 0) = false := ao (by omega)
  unfold gA kO ly me kP
  simp only [r1, r2, r3, r4, r5, r6, r7, r8, d1, d2, d3, d4, d5, d6, d7, d8, al, ai]
theorem vK {x : List Int} (h : WF (.sl (.int .u8)) x) : az x := fun b hb => by
  have q := h.2 b hb
  simpa [WF, NK, IntKind.min, IntKind.max, IntKind.signed, IntKind.bits] using q
theorem Gl {P : aj} (hg : cg P = true) : PW P := by
  rcases vG hg with h4 | h6
  · have ge := (zd hg h4).1
    have gz := (zd hg h4).2.1
    unfold cg at hg
    rw [ae h4] at hg
    simp only [ag] at hg
    unfold qp at hg
    simp only [aA] at hg
    obtain ⟨_, _, _, g4, g5⟩ := hg
    unfold Fj at g4
    simp only [aA] at g4
    obtain ⟨i1, i2, _⟩ := g4
    obtain ⟨_, _, _, _, _, _, _, r8, _⟩ := hJ i2
    have el := (lO g5).2.2
    have el' : (qH (wF P.2.2.1 (mL P)) ++ P.2.2.2.2.2.1).length ≤ 1600 := el
    rw [aT] at el'
    unfold emp at ge
    simp only [aA, bF] at ge
    obtain ⟨z1, z2, z3⟩ := ge
    have ul : (uO P.2.2.2.2.1).length ≤ 1600 ∧ (uB P.2.2.2.2.1).length ≤ 1600 := by
      unfold dX at i1
      rw [aA] at i1
      generalize P.2.2.2.2.1 = u at i1
      obtain ⟨_, h⟩ := lP i1.2
      rcases h with ⟨sp, dp, sq, ak, bt, wn, ur, o, b, rfl, a1, a2, a3, a4, a5, a6, a7, a8, a9, a10⟩ | ⟨sp, dp, ns, b, rfl, a1, a2, a3, a4⟩ | ⟨ty, cd, rs, b, rfl, a1, a2, a3, a4⟩ | ⟨b, rfl, a1⟩
      · exact ⟨by show o.length ≤ 1600; omega, by show b.length ≤ 1600; omega⟩
      · exact ⟨Nat.zero_le _, by show b.length ≤ 1600; omega⟩
      · exact ⟨Nat.zero_le _, by show b.length ≤ 1600; omega⟩
      · exact ⟨Nat.zero_le _, by show b.length ≤ 1600; omega⟩
    have r8' : (fO P.2.2.1).length ≤ 40 := r8
    have h3 : (fB P.2.2.1).length ≤ 1600 := by
      show P.2.2.1.2.2.2.2.2.2.2.2.2.2.1.length ≤ 1600
      omega
    have h4 : (sB P.2.2.2.1).length ≤ 1600 := by
      show P.2.2.2.1.2.2.2.2.2.2.2.1.length ≤ 1600
      omega
    refine ⟨by omega, by omega, h3, by rw [gz]; exact zi, h4, ul.1, ul.2, by omega⟩
  · have ge := (zf hg h6).1
    have gz := (zf hg h6).2.1
    unfold cg at hg
    rw [ao (show ¬ P.1 = 4 by omega), ae h6] at hg
    simp only [ag, al] at hg
    unfold qq at hg
    simp only [aA] at hg
    obtain ⟨_, _, _, g4, g5⟩ := hg
    unfold Fk at g4
    simp only [aA] at g4
    obtain ⟨i1, i2, _⟩ := g4
    obtain ⟨_, _, x1, x2, _⟩ := qJ i2
    have el' : (gN (wS P.2.2.2.1 (oL P)) ++ P.2.2.2.2.2.1).length ≤ 1600 := (lO g5).2.2
    rw [aT] at el'
    unfold emp at ge
    simp only [aA, bF] at ge
    obtain ⟨z1, z2, z3⟩ := ge
    have ul : (uO P.2.2.2.2.1).length ≤ 1600 ∧ (uB P.2.2.2.2.1).length ≤ 1600 := by
      unfold dX at i1
      rw [aA] at i1
      generalize P.2.2.2.2.1 = u at i1
      obtain ⟨_, h⟩ := lP i1.2
      rcases h with ⟨sp, dp, sq, ak, bt, wn, ur, o, b, rfl, a1, a2, a3, a4, a5, a6, a7, a8, a9, a10⟩ | ⟨sp, dp, ns, b, rfl, a1, a2, a3, a4⟩ | ⟨ty, cd, rs, b, rfl, a1, a2, a3, a4⟩ | ⟨b, rfl, a1⟩
      · exact ⟨by show o.length ≤ 1600; omega, by show b.length ≤ 1600; omega⟩
      · exact ⟨Nat.zero_le _, by show b.length ≤ 1600; omega⟩
      · exact ⟨Nat.zero_le _, by show b.length ≤ 1600; omega⟩
      · exact ⟨Nat.zero_le _, by show b.length ≤ 1600; omega⟩
    have xw : rz (sE P.2.2.2.1) := ⟨x1, fun e he => Nat.le_trans (x2 e he) (by decide)⟩
    have h3 : (fB P.2.2.1).length ≤ 1600 := by
      show P.2.2.1.2.2.2.2.2.2.2.2.2.2.1.length ≤ 1600
      omega
    have h4 : (sB P.2.2.2.1).length ≤ 1600 := by
      show P.2.2.2.1.2.2.2.2.2.2.2.1.length ≤ 1600
      omega
    refine ⟨by omega, by rw [gz]; exact Nat.zero_le _, h3, xw, h4, ul.1, ul.2, by omega⟩
end
section
set_option maxHeartbeats 8000000
theorem MY {P : aj} (h : WF aU P) (b : Bd aU P) : PC P := by
  obtain ⟨_, he, hf, hs, hu, hp, _⟩ := h
  obtain ⟨_, be, bf, bs, bu, bp, _⟩ := b
  exact { fo := mZ bf.2.2.2.2.2.2.2.2.2.1.1, Kv := vK hf.2.2.2.2.2.2.2.2.2.1, se := mZ bs.2.2.2.2.2.2.1.1, sx := fun x hx => mZ (bs.2.2.2.2.2.2.1.2 x hx).2.1.1, uo := mZ bu.2.2.2.2.2.2.2.2.2.2.2.2.1.1, oN := vK hu.2.2.2.2.2.2.2.2.2.2.2.2.1, ub := mZ bu.2.2.2.2.2.2.2.2.2.2.2.2.2.1.1, oO := vK hu.2.2.2.2.2.2.2.2.2.2.2.2.2.1, pd := mZ bp.1, xb := fun x hx => vK (hs.2.2.2.2.2.2.1.2 x hx).2.1, pb := vK hp }
theorem m9 {l : List Int} (h : Bd (.sl (.int .u8)) l) : l.length ≤ 1048576 := mZ h.1
end
end Go.Tw
