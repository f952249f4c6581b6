/- Plain facts on the mirrors of the functions are proved here. -/
import Derived.Test.YtmnfadocihfiaaaGreatPn14
set_option linter.all false
set_option maxRecDepth 100000
set_option maxHeartbeats 4000000
namespace Go.Tw
open Go Sem
theorem strOf_list (l : List Int) : (strOf l).data.toList = l.map fun n => UInt8.ofNat n.toNat := by
  have : ∀ (l : List Int) (b : ByteArray), (l.foldl (fun r n => r.push (UInt8.ofNat n.toNat)) b).data.toList = b.data.toList ++ l.map fun n => UInt8.ofNat n.toNat := by
    intro l
    induction l with
    | nil => intro b; simp
    | cons a l ih => intro b; rw [List.foldl_cons, ih]; simp
  have := this l ByteArray.empty
  unfold strOf
  rw [this]
  simp
theorem strOf_inj {a b : List Int} (ha : bytesP a) (hb : bytesP b) (h : (strOf a).data.toList = (strOf b).data.toList) : a = b := by
  rw [strOf_list, strOf_list] at h
  have h2 := congrArg (List.map fun u : UInt8 => (u.toNat : Int)) h
  rw [List.map_map, List.map_map] at h2
  have e : ∀ l : List Int, bytesP l → l.map ((fun u : UInt8 => (u.toNat : Int)) ∘ fun n => UInt8.ofNat n.toNat) = l := by
    intro l hl
    refine (List.map_congr_left fun x hx => ?_).trans (List.map_id l)
    have := hl x hx
    show ((UInt8.ofNat x.toNat).toNat : Int) = x
    rw [UInt8.toNat_ofNat']
    omega
  rw [e a ha, e b hb] at h2
  exact h2
def tailR (k : Nat) (c : D_Cmd) (b : Bool) (d : List Int) : Option ((D_Cmd × (Int × Unit)) × Unit) :=
  (spec_CmdBytes k c).bind fun t6 =>
    bif (!b) then
      (spec_CmdOk k c).bind fun t7 =>
        bif (!(!t7.1.1)) then
          bif (!(decide ((strOf t6.1.1).data.toList = (strOf d).data.toList))) then some ((zC, (4 : Int), ()), ()) else some ((c, (0 : Int), ()), ())
        else some ((zC, (4 : Int), ()), ())
    else some ((zC, (4 : Int), ()), ())
theorem cmdBy_bytes (c : D_Cmd) : bytesP (cmdBy c) := by
  unfold cmdBy
  cases cmdB c
  · exact bytesP_nil
  · exact bytes_app (bytes_cons (bodyB_bytes c)) (bytes_put _ _)
theorem tail_bad (k : Nat) (hk : MM < k) {d : List Int} (hb : bytesP d) (h : ¬ Enc d) (c : D_Cmd) (b : Bool) : tailR k c b d = some ((zC, (4 : Int), ()), ()) := by
  unfold tailR
  rw [cmdByS k hk, cmdS k hk]
  simp only [Option.bind_some]
  cases b
  case true => rfl
  cases g : cmdB c
  case false => rfl
  have : ¬ (strOf (cmdBy c)).data.toList = (strOf d).data.toList := fun e => h ⟨c, g, strOf_inj (cmdBy_bytes c) hb e⟩
  rw [decide_eq_false this]
  rfl
theorem tail_ok (k : Nat) (hk : MM < k) {d : List Int} {c : D_Cmd} (g : cmdB c = true) (e : cmdBy c = d) : tailR k c false d = some ((c, (0 : Int), ()), ()) := by
  unfold tailR
  rw [cmdByS k hk, cmdS k hk, g, e]
  simp only [Option.bind_some]
  simp only [decide_true, Bool.not_true, Bool.not_false, cond_true, cond_false]
section
variable {B : List Int} (hd : B.length ≤ 600) (hb : bytesP B)
include hd hb
theorem tloopS (k : Nat) (hk : MM < k) (d : List Int) (c0 : D_Cmd) : ∀ (m kk p : Nat) (b : Bool) (c : D_Cmd) (n : Int), n ≤ (m : Int) → m < kk → p ≤ B.length → c.2.2.2.2.2.1.length + m ≤ 20 → ∃ c' p' b', p' ≤ B.length ∧ iter (spec_CmdRead_s42 k) kk ((), d, c0, (B, ((p : Nat) : Int), b, ()), c, n, ()) = some ((), d, c0, (B, ((p' : Nat) : Int), b', ()), c', ())
  | m, 0, p, b, c, n, h1, h2, hp, hc => by omega
  | 0, kk + 1, p, b, c, n, h1, h2, hp, hc => by
    rw [iter_succ]
    unfold spec_CmdRead_s42
    exact ⟨c, p, b, hp, bif_f (decide_eq_false (by dsimp only; omega))⟩
  | m + 1, kk + 1, p, b, c, n, h1, h2, hp, hc => by
    rw [iter_succ]
    obtain ⟨rec, hrec⟩ : ∃ rec, rec = iter (spec_CmdRead_s42 k) kk := ⟨_, rfl⟩
    rw [← hrec]
    unfold spec_CmdRead_s42
    by_cases hn : 0 < n
    · obtain ⟨a1, p1, b1, g1, e1⟩ := s1 hd hb p b hp
      obtain ⟨a2, p2, b2, g2, e2⟩ := sX hd hb k hk p1 b1 g1.1
      obtain ⟨a3, p3, b3, g3, e3⟩ := sX hd hb k hk p2 b2 g2
      obtain ⟨a4, p4, b4, g4, e4⟩ := sP hd hb p3 b3 g3
      obtain ⟨a5, p5, b5, g5, e5⟩ := s2 hd hb p4 b4 g4
      obtain ⟨a6, p6, b6, g6, e6⟩ := s2 hd hb p5 b5 g5
      obtain ⟨a7, p7, b7, g7, e7⟩ := s1 hd hb p6 b6 g6
      obtain ⟨c', p', b', hp', e'⟩ := tloopS k hk d c0 m kk p7 b7 (putC c (c.2.2.2.2.2.1 ++ [(a1, a2, a3, a4, a5, a6, a7, ())])) (n - 1) (by omega) (by omega) g7.1 (by simp only [putC, List.length_append, List.length_cons, List.length_nil]; omega)
      refine ⟨c', p', b', hp', ?_⟩
      rw [← hrec] at e'
      refine (bif_t (decide_eq_true hn)).trans ?_
      dsimp only
      simp only [e1, e2, e3, e4, e5, e6, e7, Option.bind_some]
      refine (bif_t (decide_eq_true (by omega))).trans ?_
      rw [w64 (by omega)]
      exact e'
    · exact ⟨c, p, b, hp, bif_f (decide_eq_false hn)⟩
theorem qloopS (k : Nat) (hk : MM < k) (d : List Int) (c0 : D_Cmd) (r : List Int) : ∀ (ms : List D_Module) (kk p : Nat) (c : D_Cmd), ms.length < kk → (∀ m ∈ ms, modB m = true) → B.drop p = chB ms ++ r → c.2.2.2.2.2.1.length + ms.length ≤ 20 → ∃ p', B.drop p' = r ∧ iter (spec_CmdRead_s42 k) kk ((), d, c0, (B, ((p : Nat) : Int), false, ()), c, ((ms.length : Nat) : Int), ()) = some ((), d, c0, (B, ((p' : Nat) : Int), false, ()), putC c (c.2.2.2.2.2.1 ++ ms), ())
  | ms, 0, p, c, h1, h2, hp, hc => by omega
  | [], kk + 1, p, c, h1, h2, hp, hc => by
    rw [iter_succ]
    unfold spec_CmdRead_s42
    refine ⟨p, hp, (bif_f (decide_eq_false (by simp))).trans ?_⟩
    rw [List.append_nil]; rfl
  | m :: ms, kk + 1, p, c, h1, h2, hp, hc => by
    rw [iter_succ]
    obtain ⟨rec, hrec⟩ : ∃ rec, rec = iter (spec_CmdRead_s42 k) kk := ⟨_, rfl⟩
    have hm := h2 m List.mem_cons_self
    obtain ⟨r1, r2, r3, r4, r5, r6, r7⟩ := mod_rng hm
    have hp' : B.drop p = modBy m ++ (chB ms ++ r) := by rw [hp]; simp [chB, List.append_assoc]
    rw [modBy_ok hm] at hp'
    simp only [List.length_cons] at h1 hc
    obtain ⟨p1, g1, e1⟩ := z1' hd hb hp'
    obtain ⟨p2, g2, e2⟩ := zX hd hb k hk r2 p1 _ g1
    obtain ⟨p3, g3, e3⟩ := zX hd hb k hk r3 p2 _ g2
    obtain ⟨p4, g4, e4⟩ := zP' hd hb r4 p3 _ g3
    obtain ⟨p5, g5, e5⟩ := z2 hd hb r5 p4 _ g4
    obtain ⟨p6, g6, e6⟩ := z2 hd hb r6 p5 _ g5
    obtain ⟨p7, g7, e7⟩ := z1' hd hb g6
    obtain ⟨p8, g8, e8⟩ := qloopS k hk d c0 r ms kk p7 (putC c (c.2.2.2.2.2.1 ++ [m])) (by omega) (fun x hx => h2 x (List.mem_cons_of_mem _ hx)) g7 (by simp only [putC, List.length_append, List.length_cons, List.length_nil]; omega)
    refine ⟨p8, g8, ?_⟩
    rw [← hrec] at e8 ⊢
    unfold spec_CmdRead_s42
    refine (bif_t (decide_eq_true (by simp only [List.length_cons]; omega))).trans ?_
    dsimp only
    simp only [e1, e2, e3, e4, e5, e6, e7, Option.bind_some]
    refine (bif_t (decide_eq_true (by omega))).trans ?_
    rw [w64 (by simp only [List.length_cons]; omega), show (((m :: ms).length : Nat) : Int) - 1 = ((ms.length : Nat) : Int) by simp only [List.length_cons]; omega]
    refine Eq.trans e8 ?_
    unfold putC
    simp only [List.append_assoc, List.cons_append, List.nil_append]
end
end Go.Tw
