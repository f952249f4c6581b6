/- Plain facts on the mirrors of the functions are proved here. -/
import Derived.Test.YtmnfadocihfiaaaGreatPn7
set_option linter.all false
set_option maxRecDepth 100000
set_option maxHeartbeats 4000000
namespace Go.Tw
open Go Sem
def tk (n : Nat) (l : List Int) : Int × List Int := if l.length < n then (0, []) else (beB (l.take n), l.drop n)
theorem tk_bytes (n : Nat) {l : List Int} (h : bytesP l) : bytesP (tk n l).2 := by
  unfold tk
  split
  · exact bytesP_nil
  · exact fun b hb => h b (List.mem_of_mem_drop hb)
theorem takeI (k : Nat) (hk : MM < k) (l : List Int) (hb : bytesP l) (n : Nat) (hn : n ≤ 7) : impl_cursor_take k (l, ()) (n : Int) = some (((tk n l).1, ()), ((tk n l).2, ()), ()) := by
  unfold impl_cursor_take tk
  by_cases h : l.length < n
  · rw [bif_t (decide_eq_true (by dsimp only; omega)), if_pos h]
  · rw [bif_f (decide_eq_false (by dsimp only; omega)), bif_t (Bool.and_eq_true_iff.2 ⟨decide_eq_true (by omega), decide_eq_true (by dsimp only; omega)⟩), if_neg h]
    dsimp only [Int.toNat_natCast]
    rw [beOf_eq k hk _ (fun b h => hb b (List.mem_of_mem_take h)) (by rw [List.length_take]; omega)]
    dsimp only [Option.bind_some]
    rw [bif_t (Bool.and_eq_true_iff.2 ⟨Bool.and_eq_true_iff.2 ⟨decide_eq_true (by omega), decide_eq_true (by omega)⟩, decide_eq_true (by omega)⟩), List.take_of_length_le (i := l.length - n) (l := l.drop n) (by rw [List.length_drop]; omega)]
theorem take1 (k : Nat) (hk : MM < k) {l : List Int} (hb : bytesP l) : impl_cursor_take k (l, ()) (1 : Int) = some (((tk 1 l).1, ()), ((tk 1 l).2, ()), ()) := takeI k hk l hb 1 (by omega)
theorem take2 (k : Nat) (hk : MM < k) {l : List Int} (hb : bytesP l) : impl_cursor_take k (l, ()) (2 : Int) = some (((tk 2 l).1, ()), ((tk 2 l).2, ()), ()) := takeI k hk l hb 2 (by omega)
theorem take4 (k : Nat) (hk : MM < k) {l : List Int} (hb : bytesP l) : impl_cursor_take k (l, ()) (4 : Int) = some (((tk 4 l).1, ()), ((tk 4 l).2, ()), ()) := takeI k hk l hb 4 (by omega)
def TotI {α : Type} (f : D_cursor → Option ((α × Unit) × (D_cursor × Unit))) : Prop := ∀ l, bytesP l → ∃ a l', bytesP l' ∧ f (l, ()) = some ((a, ()), ((l', ()), ()))
theorem t1 (k : Nat) (hk : MM < k) : TotI fun s => impl_cursor_take k s (1 : Int) := fun l h => ⟨_, _, tk_bytes 1 h, take1 k hk h⟩
theorem t2 (k : Nat) (hk : MM < k) : TotI fun s => impl_cursor_take k s (2 : Int) := fun l h => ⟨_, _, tk_bytes 2 h, take2 k hk h⟩
theorem t4 (k : Nat) (hk : MM < k) : TotI fun s => impl_cursor_take k s (4 : Int) := fun l h => ⟨_, _, tk_bytes 4 h, take4 k hk h⟩
theorem tX (k : Nat) (hk : MM < k) : TotI (impl_cursor_prefix k) := fun l h => by
  unfold impl_cursor_prefix
  obtain ⟨a1, l1, h1, e1⟩ := t1 k hk l h
  dsimp only at e1
  simp only [e1, Option.bind_some]
  by_cases g0 : a1 = 0
  · exact ⟨_, _, h1, bif_t (decide_eq_true g0)⟩
  · by_cases g6 : a1 = 6
    · obtain ⟨a2, l2, h2, e2⟩ := t4 k hk l1 h1
      obtain ⟨a3, l3, h3, e3⟩ := t4 k hk l2 h2
      obtain ⟨a4, l4, h4, e4⟩ := t4 k hk l3 h3
      obtain ⟨a5, l5, h5, e5⟩ := t4 k hk l4 h4
      obtain ⟨a6, l6, h6, e6⟩ := t1 k hk l5 h5
      dsimp only at e2 e3 e4 e5 e6
      simp only [e2, e3, e4, e5, e6, Option.bind_some]
      exact ⟨_, _, h6, (bif_f (decide_eq_false g0)).trans (bif_t (decide_eq_true g6))⟩
    · obtain ⟨a5, l5, h5, e5⟩ := t4 k hk l1 h1
      obtain ⟨a6, l6, h6, e6⟩ := t1 k hk l5 h5
      dsimp only at e5 e6
      simp only [e5, e6, Option.bind_some]
      exact ⟨_, _, h6, (bif_f (decide_eq_false g0)).trans (bif_f (decide_eq_false g6))⟩
theorem tP (k : Nat) (hk : MM < k) : TotI (impl_cursor_proto k) := fun l h => by
  unfold impl_cursor_proto
  obtain ⟨a1, l1, h1, e1⟩ := t2 k hk l h
  dsimp only at e1
  simp only [e1, Option.bind_some]
  by_cases g0 : a1 = 65535
  · exact ⟨_, _, h1, bif_t (decide_eq_true g0)⟩
  · exact ⟨_, _, h1, bif_f (decide_eq_false g0)⟩
theorem tM (k : Nat) (hk : MM < k) : TotI (impl_cursor_module k) := fun l h => by
  unfold impl_cursor_module
  obtain ⟨a1, l1, h1, e1⟩ := t1 k hk l h
  obtain ⟨a2, l2, h2, e2⟩ := tX k hk l1 h1
  obtain ⟨a3, l3, h3, e3⟩ := tX k hk l2 h2
  obtain ⟨a4, l4, h4, e4⟩ := tP k hk l3 h3
  obtain ⟨a5, l5, h5, e5⟩ := t2 k hk l4 h4
  obtain ⟨a6, l6, h6, e6⟩ := t2 k hk l5 h5
  obtain ⟨a7, l7, h7, e7⟩ := t1 k hk l6 h6
  dsimp only at e1 e5 e6 e7
  simp only [e1, e2, e3, e4, e5, e6, e7, Option.bind_some]
  exact ⟨_, _, h7, rfl⟩
theorem tk_put (n : Nat) (x : Int) (r : List Int) : tk n (putB x n ++ r) = (x % ((256 ^ n : Nat) : Int), r) := by
  unfold tk
  have := putB_len x n
  rw [if_neg (by rw [List.length_append]; omega), List.take_left' this, List.drop_left' this, beB_put]
theorem tk_one (x : Int) (r : List Int) : tk 1 (x :: r) = (x, r) := by
  unfold tk
  rw [if_neg (by simp)]
  simp [beB]
theorem bytes_r {a b : List Int} (h : bytesP (a ++ b)) : bytesP b := fun x hx => h x (List.mem_append.2 (.inr hx))
theorem bytes_t {a : Int} {b : List Int} (h : bytesP (a :: b)) : bytesP b := fun x hx => h x (List.mem_cons.2 (.inr hx))
theorem m8 {x : Int} (h : 0 ≤ x ∧ x ≤ 255) : x % 256 = x := by omega
theorem Q1 (k : Nat) (hk : MM < k) {x : Int} {r : List Int} (h : bytesP (x :: r)) : impl_cursor_take k (x :: r, ()) (1 : Int) = some ((x, ()), ((r, ()), ())) := by
  rw [take1 k hk h, tk_one]
theorem Q2 (k : Nat) (hk : MM < k) {x : Int} {r : List Int} (hx : 0 ≤ x ∧ x ≤ 65535) (h : bytesP (putB x 2 ++ r)) : impl_cursor_take k (putB x 2 ++ r, ()) (2 : Int) = some ((x, ()), ((r, ()), ())) := by
  rw [take2 k hk h, tk_put, show x % ((256 ^ 2 : Nat) : Int) = x by show x % 65536 = x; omega]
theorem Q4 (k : Nat) (hk : MM < k) {x : Int} {r : List Int} (hx : 0 ≤ x ∧ x ≤ 4294967295) (h : bytesP (putB x 4 ++ r)) : impl_cursor_take k (putB x 4 ++ r, ()) (4 : Int) = some ((x, ()), ((r, ()), ())) := by
  rw [take4 k hk h, tk_put, show x % ((256 ^ 4 : Nat) : Int) = x by show x % 4294967296 = x; omega]
theorem QP (k : Nat) (hk : MM < k) {x : Int} {r : List Int} (hx : -1 ≤ x ∧ x ≤ 255) (h : bytesP (putB x 2 ++ r)) : impl_cursor_proto k (putB x 2 ++ r, ()) = some ((x, ()), ((r, ()), ())) := by
  unfold impl_cursor_proto
  rw [take2 k hk h, tk_put]
  simp only [Option.bind_some]
  have e : x % ((256 ^ 2 : Nat) : Int) = x % 65536 := rfl
  rw [e]
  by_cases g : x = -1
  · subst g; rfl
  · rw [show x % 65536 = x by omega]
    exact bif_f (decide_eq_false (by omega))
def zP : D_Prefix := ((0, 0, 0, 0, 0, ()), 0, ())
theorem anyP_eq {p : D_Prefix} (h : anyP p = true) : p = zP := by
  unfold anyP eqA at h
  simp only [Bool.and_eq_true_iff] at h
  obtain ⟨⟨h1, h2, h3, h4, h5, _⟩, h6, _⟩ := h
  have e1 : p.1.1 = 0 := of_decide_eq_true h1
  have e2 : p.1.2.1 = 0 := of_decide_eq_true h2
  have e3 : p.1.2.2.1 = 0 := of_decide_eq_true h3
  have e4 : p.1.2.2.2.1 = 0 := of_decide_eq_true h4
  have e5 : p.1.2.2.2.2.1 = 0 := of_decide_eq_true h5
  have e6 : p.2.1 = 0 := of_decide_eq_true h6
  obtain ⟨⟨a, b, c, d, e, u⟩, n, v⟩ := p
  dsimp only at e1 e2 e3 e4 e5 e6
  subst e1 e2 e3 e4 e5 e6
  rfl
theorem pref_cases {p : D_Prefix} (h : prefB p = true) : (p = zP ∧ prefBy p = [0]) ∨
    (∃ d n, p = ((4, 0, 0, 0, d, ()), n, ()) ∧ (0 ≤ d ∧ d ≤ 4294967295) ∧ (0 ≤ n ∧ n ≤ 32) ∧ prefBy p = 4 :: (putB d 4 ++ [n])) ∨
    (∃ a b c d n, p = ((6, a, b, c, d, ()), n, ()) ∧ (0 ≤ a ∧ a ≤ 4294967295) ∧ (0 ≤ b ∧ b ≤ 4294967295) ∧ (0 ≤ c ∧ c ≤ 4294967295) ∧ (0 ≤ d ∧ d ≤ 4294967295) ∧ (0 ≤ n ∧ n ≤ 128) ∧ prefBy p = 6 :: (putB a 4 ++ (putB b 4 ++ (putB c 4 ++ (putB d 4 ++ [n]))))) := by
  by_cases ha : anyP p = true
  · refine .inl ⟨anyP_eq ha, ?_⟩
    unfold prefBy; rw [h, ha]; rfl
  · have ha' : anyP p = false := by simpa using ha
    have h' := h
    unfold prefB at h'
    rw [ha', Bool.false_or, Bool.and_eq_true_iff, Bool.and_eq_true_iff] at h'
    obtain ⟨hA, hn, _⟩ := h'
    obtain ⟨⟨kd, a, b, c, d, u⟩, n, v⟩ := p
    have e : prefBy ((kd, a, b, c, d, u), n, v) = kd % 256 :: (addrBy (kd, a, b, c, d, u) ++ [n % 256]) := by
      unfold prefBy; rw [h, ha']; rfl
    have eA : addrBy (kd, a, b, c, d, u) = bif decide (kd = 4) then putB d 4 else ((putB a 4 ++ putB b 4) ++ putB c 4) ++ putB d 4 := by
      unfold addrBy; rw [hA]; rfl
    simp only [bitsA, Bool.and_eq_true_iff, decide_eq_true_eq] at hn
    unfold addrB longB at hA
    by_cases h4 : kd = 4
    · subst h4
      simp at hA hn
      obtain ⟨rfl, rfl, rfl, hA⟩ := hA
      refine .inr (.inl ⟨d, n, rfl, hA, hn, ?_⟩)
      rw [e, eA, m8 (x := n) (by omega)]; rfl
    · simp [h4] at hA hn
      obtain ⟨rfl, hA1, hA2, hA3, hA4⟩ := hA
      refine .inr (.inr ⟨a, b, c, d, n, rfl, hA1, hA2, hA3, hA4, hn, ?_⟩)
      rw [e, eA, m8 (x := n) (by omega)]
      simp only [List.append_assoc, show decide ((6 : Int) = 4) = false from rfl, cond_false]
      rfl
theorem QX (k : Nat) (hk : MM < k) {p : D_Prefix} {r : List Int} (hp : prefB p = true) (h : bytesP (prefBy p ++ r)) : impl_cursor_prefix k (prefBy p ++ r, ()) = some ((p, ()), ((r, ()), ())) := by
  unfold impl_cursor_prefix
  rcases pref_cases hp with ⟨e1, e2⟩ | ⟨d, n, e1, hd, hn, e2⟩ | ⟨a, b, c, d, n, e1, h1, h2, h3, h4, hn, e2⟩
  · rw [e2] at h ⊢
    rw [show ([0] : List Int) ++ r = 0 :: r from rfl] at h ⊢
    rw [Q1 k hk h, e1]
    rfl
  · rw [e2] at h ⊢
    simp only [List.cons_append, List.append_assoc, List.nil_append] at h ⊢
    rw [Q1 k hk h]
    dsimp only [Option.bind_some]
    rw [Q4 k hk hd (bytes_t h)]
    dsimp only [Option.bind_some]
    rw [Q1 k hk (bytes_r (bytes_t h)), e1]
    rfl
  · rw [e2] at h ⊢
    simp only [List.cons_append, List.append_assoc, List.nil_append] at h ⊢
    have g1 := bytes_t h
    have g2 := bytes_r g1
    have g3 := bytes_r g2
    have g4 := bytes_r g3
    have g5 := bytes_r g4
    simp only [Q1 k hk h, Q4 k hk h1 g1, Q4 k hk h2 g2, Q4 k hk h3 g3, Q4 k hk h4 g4, Q1 k hk g5, Option.bind_some, e1]
    rfl
end Go.Tw
