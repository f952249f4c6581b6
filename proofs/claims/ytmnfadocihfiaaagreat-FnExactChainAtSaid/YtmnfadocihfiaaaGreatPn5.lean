/- Plain facts on the mirrors of the functions are proved here. -/
import Derived.Test.YtmnfadocihfiaaaGreatPn4
set_option linter.all false
set_option maxRecDepth 100000
set_option maxHeartbeats 4000000
namespace Go.Tw
open Go Sem
def prefBy (p : D_Prefix) : List Int := bif prefB p then (bif anyP p then [0] else p.1.1 % 256 :: (addrBy p.1 ++ [p.2.1 % 256])) else []
theorem addrBy_le (a : D_Addr) : (addrBy a).length ≤ 16 := by
  unfold addrBy
  cases addrB a
  · simp
  · cases decide (a.1 = 4) <;> simp [putB_len]
theorem prefBy_le (p : D_Prefix) : (prefBy p).length ≤ 18 := by
  unfold prefBy
  have := addrBy_le p.1
  cases prefB p
  · simp
  · cases anyP p
    · simp; omega
    · simp
theorem bytes_app {a b : List Int} (ha : bytesP a) (hb : bytesP b) : bytesP (a ++ b) := fun x hx => (List.mem_append.1 hx).elim (ha x) (hb x)
theorem bytesP_nil : bytesP [] := fun x hx => by cases hx
theorem bytes_cons {a : Int} {l : List Int} (hb : bytesP l) : bytesP (a % 256 :: l) := fun x hx => by
  rcases List.mem_cons.1 hx with rfl | h
  · omega
  · exact hb x h
theorem bytes_put (n : Int) (m : Nat) : bytesP (putB n m) := putB_bytes n m
theorem prefBy_bytes (p : D_Prefix) : bytesP (prefBy p) := by
  unfold prefBy
  cases prefB p
  · exact bytesP_nil
  · cases anyP p
    · exact bytes_cons (bytes_app (addrBy_bytes p.1) (bytes_cons bytesP_nil))
    · exact bytes_cons (a := 0) bytesP_nil
theorem prefByI (k : Nat) (hk : MM < k) (p : D_Prefix) : impl_PrefixBytes k p = some ((prefBy p, ()), ()) := by
  unfold impl_PrefixBytes prefBy
  simp only [prefI k hk, anyI, addrByI k hk, Option.bind_some, wu8]
  have := addrBy_le p.1
  rw [catB k hk _ (by simp) (by simp; omega)]
  cases prefB p <;> cases anyP p <;> simp
theorem prefByS (k : Nat) (hk : MM < k) (p : D_Prefix) : spec_PrefixBytes k p = some ((prefBy p, ()), ()) := by
  unfold spec_PrefixBytes prefBy
  simp only [prefS k hk, anyS, addrByS, Option.bind_some, wu8]
  have := addrBy_le p.1
  rw [bif_t (decide_eq_true (by omega)), bif_t (decide_eq_true (by simp only [List.length_append, List.length_cons, List.length_nil]; omega))]
  cases prefB p <;> cases anyP p <;> simp
def twos (l : List Int) : List Int := l.flatMap fun n => putB n 2
theorem twos_len : ∀ l : List Int, (twos l).length = 2 * l.length
  | [] => rfl
  | a :: l => by
    have := twos_len l
    simp only [twos, List.flatMap_cons, List.length_append, putB_len, List.length_cons] at this ⊢; omega
theorem twos_bytes (l : List Int) : bytesP (twos l) := fun x hx => by
  obtain ⟨n, _, h⟩ := List.mem_flatMap.1 hx
  exact putB_bytes n 2 x h
theorem twos_take (l : List Int) (j : Nat) (h : j < l.length) : twos (l.take (j + 1)) = twos (l.take j) ++ putB (l.getD j 0) 2 := by
  rw [List.take_add_one, List.getElem?_eq_getElem h, getD_at l 0 j h]
  simp only [twos, Option.toList_some, List.flatMap_append, List.flatMap_cons, List.flatMap_nil, List.append_nil]
theorem twosS (k : Nat) (hk : MM < k) (o l : List Int) (ho : o.length ≤ 10000) (hl : l.length ≤ 100) : spec_l22Twos k o l = some ((o ++ twos l, ()), ([] : List Int), ()) := by
  have hM : MM = 1048576 := rfl
  unfold spec_l22Twos
  have r := inv_run (step := spec_l22Twos_s2) (n := l.length) (st := fun j (a : List Int) => ((), a, l, (j : Int), ())) (fin := fun a => ((), a, ())) (fun j a => a = o ++ twos (l.take j))
    (fun j a hj hI => by
      refine ⟨o ++ twos (l.take (j + 1)), rfl, fun rec => ?_⟩
      have hwi : IntKind.wrap .i64 ((j : Int) + 1) = ((j + 1 : Nat) : Int) := w64 (by omega)
      have el := twos_len (l.take j)
      rw [List.length_take] at el
      unfold spec_l22Twos_s2
      refine (bif_t (by simp; omega)).trans ?_
      refine (bif_t (by simp; omega)).trans ?_
      refine (bif_t (by simp; omega)).trans ?_
      simp only [Int.toNat_natCast, hwi, put16S, Option.bind_some]
      refine (bif_t (decide_eq_true (by rw [hI]; simp only [List.length_append, putB_len]; omega))).trans ?_
      rw [hI, twos_take l j hj, List.append_assoc])
    (fun a hI rec => by
      unfold spec_l22Twos_s2
      exact bif_f (by simp)) l.length 0 k o (by omega) (by omega) (by simp [twos])
  obtain ⟨a, ha, r⟩ := r
  rw [List.take_length] at ha
  exact (congrArg (fun o => Option.bind o _) r).trans (by subst ha; rfl)
theorem twosI (k : Nat) (hk : MM < k) (l : List Int) (hl : l.length ≤ 100) : impl_put16s k l = some ((twos l, ()), ()) := by
  have hM : MM = 1048576 := rfl
  unfold impl_put16s
  have r := inv_run (step := impl_put16s_s3 k) (n := l.length) (st := fun j (a : List Int) => ((), a, l, ((l.length : Nat) : Int), (j : Int), ())) (fin := fun a => ((), a, ())) (fun j a => a = twos (l.take j))
    (fun j a hj hI => by
      refine ⟨twos (l.take (j + 1)), rfl, fun rec => ?_⟩
      have hwi : IntKind.wrap .i64 ((j : Int) + 1) = ((j + 1 : Nat) : Int) := w64 (by omega)
      have el := twos_len (l.take j)
      rw [List.length_take] at el
      unfold impl_put16s_s3
      refine (bif_t (by simp; omega)).trans ?_
      refine (bif_t (by simp; omega)).trans ?_
      refine (bif_t (by simp; omega)).trans ?_
      simp only [Int.toNat_natCast, hwi, put16I k hk, Option.bind_some]
      refine (bif_t (decide_eq_true (by rw [hI]; simp only [List.length_append, putB_len]; omega))).trans ?_
      rw [hI, twos_take l j hj])
    (fun a hI rec => by
      unfold impl_put16s_s3
      exact bif_f (by simp)) l.length 0 k [] (by omega) (by omega) (by simp [twos])
  obtain ⟨a, ha, r⟩ := r
  rw [List.take_length] at ha
  exact (congrArg (fun o => Option.bind o _) r).trans (by subst ha; rfl)
def modBy (m : D_Module) : List Int := m.1 % 256 :: (prefBy m.2.1 ++ (prefBy m.2.2.1 ++ (twos [m.2.2.2.1, m.2.2.2.2.1, m.2.2.2.2.2.1] ++ [m.2.2.2.2.2.2.1 % 256])))
def bodyB (c : D_Cmd) : List Int :=
  bif decide (c.1 = 1) then [c.2.1 % 256, c.2.2.1 % 256]
  else bif decide (c.1 = 4) || decide (c.1 = 8) then putB c.2.1 2
  else bif decide (c.1 = 3) then putB c.2.2.2.1.1 2 ++ (prefBy c.2.2.2.1.2.1 ++ (prefBy c.2.2.2.1.2.2.1 ++ (twos [c.2.2.2.1.2.2.2.1, c.2.2.2.1.2.2.2.2.1, c.2.2.2.1.2.2.2.2.2.1, c.2.2.2.1.2.2.2.2.2.2.1, c.2.2.2.1.2.2.2.2.2.2.2.1] ++ [c.2.2.2.1.2.2.2.2.2.2.2.2.1 % 256, c.2.2.2.1.2.2.2.2.2.2.2.2.2.1 % 256, c.2.2.2.1.2.2.2.2.2.2.2.2.2.2.1 % 256])))
  else bif decide (c.1 = 5) then c.2.2.2.2.1.1 % 256 :: (putB c.2.2.2.2.1.2.1 4 ++ (putB c.2.2.2.2.1.2.2.1 4 ++ (putB c.2.2.2.2.1.2.2.2.1 4 ++ [bif c.2.2.2.2.1.2.2.2.2.1 then 1 else 0])))
  else bif decide (c.1 = 7) then c.2.1 % 256 :: (((c.2.2.2.2.2.1.length : Nat) : Int) % 256) :: c.2.2.2.2.2.1.flatMap modBy
  else [c.2.1 % 256]
theorem modBy_le (m : D_Module) : (modBy m).length ≤ 44 := by
  have h1 := prefBy_le m.2.1
  have h2 := prefBy_le m.2.2.1
  have h3 := twos_len [m.2.2.2.1, m.2.2.2.2.1, m.2.2.2.2.2.1]
  simp only [List.length_cons, List.length_nil] at h3
  simp only [modBy, List.length_cons, List.length_append, List.length_nil, h3]; omega
theorem modBy_bytes (m : D_Module) : bytesP (modBy m) := bytes_cons (bytes_app (prefBy_bytes _) (bytes_app (prefBy_bytes _) (bytes_app (twos_bytes _) (bytes_cons bytesP_nil))))
theorem flat_bytes {α : Type} {f : α → List Int} (h : ∀ a, bytesP (f a)) (l : List α) : bytesP (l.flatMap f) := fun x hx => by
  obtain ⟨n, _, g⟩ := List.mem_flatMap.1 hx
  exact h n x g
theorem flat_le {α : Type} {f : α → List Int} {B : Nat} (h : ∀ a, (f a).length ≤ B) : ∀ l : List α, (l.flatMap f).length ≤ B * l.length
  | [] => by simp
  | a :: l => by
    have h1 := h a
    have h2 := flat_le h l
    simp only [List.flatMap_cons, List.length_append, List.length_cons, Nat.mul_add]; omega
theorem flat_takeM {α : Type} (f : α → List Int) (l : List α) (z : α) (j : Nat) (h : j < l.length) : (l.take (j + 1)).flatMap f = (l.take j).flatMap f ++ f (l.getD j z) := by
  rw [List.take_add_one, List.getElem?_eq_getElem h, getD_at l z j h]
  simp only [Option.toList_some, List.flatMap_append, List.flatMap_cons, List.flatMap_nil, List.append_nil]
theorem cmdB_len {c : D_Cmd} (h : cmdB c = true) : c.2.2.2.2.2.1.length ≤ 8 := by
  revert h
  unfold cmdB plainB zerB chainB
  by_cases h8 : ((c.2.2.2.2.2.1.length : Nat) : Int) ≤ 8
  · intro _; omega
  · have h0 : ¬ ((c.2.2.2.2.2.1.length : Nat) : Int) = 0 := by omega
    rw [decide_eq_false h8, decide_eq_false h0]
    simp only [Bool.and_false, Bool.false_and]
    cases decide (c.1 = 1) <;> cases decide (c.1 = 2) <;> cases decide (c.1 = 3) <;> cases decide (c.1 = 4) <;> cases decide (c.1 = 5) <;> cases decide (c.1 = 6) <;> cases decide (c.1 = 7) <;> cases decide (c.1 = 8) <;> intro q <;> cases q
end Go.Tw
