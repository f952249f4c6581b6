/- Plain facts on the mirrors of the functions are proved here. -/
import Derived.Test.YtmnfadocihfiaaaGreatPrb
set_option linter.all false
namespace Go.Tw
open Go Go.RowKit Go.Proofs Go.Shelf
attribute [local go_sem] Oper.semAt_some
set_option maxRecDepth 100000 in
set_option maxHeartbeats 1000000 in
theorem within_in (F : Fence) (n : Nat) (h : F.fn 71) (hro : F.round = none) (a b c : Int) (w : World) :
    CallsIn F n Tryz.prog 71 #[.int .i64 a, .int .i64 b, .int .i64 c] w fun e w' => e = .returned (.bool (decide (b ≤ a) && decide (a ≤ c))) ∧ w' = w := by
  refine callsIn_of_wp Tryz.func71 rfl h ?_ hro
  simp only [Tryz.ntmps71, List.size_toArray, List.length_cons, List.length_nil, Nat.reduceAdd, Nat.reduceSub, Array.replicate_succ, Array.replicate_zero, List.push_toArray, List.append_toArray, List.nil_append, List.cons_append]
  by_cases h1 : b ≤ a
  · gi_wp2
    go_ret
    simp [h1]
  · gi_wp2
    go_ret
    simp
    omega
theorem backM_cut {q : Int} : ∀ {l r : List D_Cmd} {c : D_Cmd}, (∀ d ∈ l, ¬ (d.1 = 7 ∧ d.2.1 = q)) → c.1 = 7 → c.2.1 = q → backM q (l ++ c :: r) = c.2.2.2.2.2.1
  | [], r, c, _, h1, h2 => by
    show (bif decide (c.1 = 7) && decide (c.2.1 = q) then c.2.2.2.2.2.1 else backM q r) = _
    rw [decide_eq_true h1, decide_eq_true h2]; rfl
  | d :: l, r, c, h, h1, h2 => by
    have hd := h d (by simp)
    have : (decide (d.1 = 7) && decide (d.2.1 = q)) = false := by simpa using hd
    show (bif decide (d.1 = 7) && decide (d.2.1 = q) then d.2.2.2.2.2.1 else backM q (l ++ c :: r)) = _
    rw [this]
    exact backM_cut (fun e he => h e (by simp [he])) h1 h2
theorem backM_none {q : Int} : ∀ {l : List D_Cmd}, (∀ d ∈ l, ¬ (d.1 = 7 ∧ d.2.1 = q)) → backM q l = []
  | [], _ => rfl
  | d :: l, h => by
    have hd := h d (by simp)
    have : (decide (d.1 = 7) && decide (d.2.1 = q)) = false := by simpa using hd
    show (bif decide (d.1 = 7) && decide (d.2.1 = q) then d.2.2.2.2.2.1 else backM q l) = _
    rw [this]
    exact backM_none (fun e he => h e (by simp [he]))
theorem rev_split {l : List D_Cmd} {j : Nat} (h : j < l.length) : l.reverse = (l.drop (j + 1)).reverse ++ l.getD j zzC :: (l.take j).reverse := by
  have e : l = l.take j ++ ([l.getD j zzC] ++ l.drop (j + 1)) := split3 l zzC j h
  have := congrArg List.reverse e
  rw [this]; simp
theorem getDa {α : Type} (l : List α) (z : α) (i : Nat) (h : i < l.length) : l.getD i z = l[i] := by simp [List.getD, h]
theorem none_of {q : Int} {cs : List D_Cmd} {E : Nat → CmdE} (hE : ∀ j, j < cs.length → (E j).op = (cs.getD j zzC).1 ∧ (E j).n = (cs.getD j zzC).2.1) (hp : ∀ e ∈ Tryz.upto (fun j => E (cs.length - 1 - j)) cs.length, ¬ (e.op = 7 ∧ e.n = q)) : backM q cs.reverse = [] := by
  refine backM_none fun d hd => ?_
  rw [List.mem_reverse] at hd
  obtain ⟨i, hi, rfl⟩ := List.mem_iff_getElem.1 hd
  have h1 := hp (E i) (by
    simp only [Tryz.upto, List.mem_map, List.mem_range]
    exact ⟨cs.length - 1 - i, by omega, by congr 1; omega⟩)
  have h2 := hE i hi
  rw [getDa cs zzC i hi] at h2
  rw [h2.1, h2.2] at h1
  exact h1
theorem some_of {q : Int} {cs : List D_Cmd} {E : Nat → CmdE} {m : Nat} (hm : m < cs.length) (hE : ∀ j, j < cs.length → (E j).op = (cs.getD j zzC).1 ∧ (E j).n = (cs.getD j zzC).2.1) (hp : ∀ e ∈ Tryz.upto (fun j => E (cs.length - 1 - j)) m, ¬ (e.op = 7 ∧ e.n = q))
    (h7 : (E (cs.length - 1 - m)).op = 7) (hq : (E (cs.length - 1 - m)).n = q) : backM q cs.reverse = (cs.getD (cs.length - 1 - m) zzC).2.2.2.2.2.1 := by
  have hj : cs.length - 1 - m < cs.length := by omega
  have h2 := hE _ hj
  rw [rev_split hj]
  refine backM_cut (fun d hd => ?_) (h2.1.symm.trans h7) (h2.2.symm.trans hq)
  rw [List.mem_reverse] at hd
  obtain ⟨i, hi, rfl⟩ := List.mem_iff_getElem.1 hd
  rw [List.length_drop] at hi
  have h1 := hp (E (cs.length - 1 - m + 1 + i)) (by
    simp only [Tryz.upto, List.mem_map, List.mem_range]
    exact ⟨m - 1 - i, by omega, by congr 1; omega⟩)
  have h3 := hE (cs.length - 1 - m + 1 + i) (by omega)
  rw [getDa cs zzC _ (by omega)] at h3
  rw [h3.1, h3.2] at h1
  rw [List.getElem_drop]
  exact h1
variable [Grd]
theorem slice_of {w : World} {imm ok : Nat → Prop} {t : Ty} {l : List (den t)} {v : Value} {L : List Nat} (h : TO1 w imm ok true (.tr t l) v L) : ∃ A cap, v = .slice A l.length cap := by
  rcases h with ⟨rfl, rfl, _⟩ | ⟨b, o, cap, L', rfl, _⟩
  · exact ⟨none, 0, rfl⟩
  · exact ⟨_, cap, rfl⟩
set_option maxRecDepth 100000 in
set_option maxHeartbeats 4000000 in
theorem chain_walk (F : Fence) (k : Nat) (h14 : F.fn 14) (h70 : F.fn 70) (h71 : F.fn 71) (h72 : F.fn 72) (h170 : F.fn 170) (hro : F.round = none) (hk : 5 ≤ k) {w : World} {imm : Nat → Prop} (himm : ∀ b, imm b → b < w.heap.size) {n q : Int} {sv : Value} {cs : List D_Cmd} {okb : Bool} {res : List D_Module} (hr : res = (bif okb && (decide (1 ≤ q) && decide (q ≤ 8)) then backM q cs.reverse else [])) (hmax : cs.length ≤ 1099511627776)
    (hcmd : ∀ W : World, Below w.heap.size w W → CallsIn F (k - 1) Tryz.prog 70 #[sv, .int .i64 n] W fun e w' => ∃ tv L, e = .returned (.tuple #[tv, .bool okb]) ∧ FrL [] W w' ∧ TO1 w' imm (okL [] W) true (.tr T_Cmd cs) tv L ∧ L.Nodup) :
    CallsIn F k Tryz.prog 14 #[sv, .int .i64 n, .int .i64 q] w fun e w' => ∃ cv L, e = .returned cv ∧ FrL [] w w' ∧ TO1 w' imm (okL [] w) true (.tr T_Module res) cv L ∧ L.Nodup := by
  refine callsIn_of_wp_marks Tryz.func14 rfl h14 ?_ hro
  simp only [Tryz.ntmps14, List.size_toArray, List.length_cons, List.length_nil, Nat.reduceAdd, Nat.reduceSub, Array.replicate_succ, Array.replicate_zero, List.push_toArray, List.append_toArray, List.nil_append, List.cons_append]
  have hB1 : Below w.heap.size w ((w.alloc (.cells #[.int .i64 q] 3)).alloc (.cells #[.slice none 0 0] 24)) := ((Below.refl _ w).alloc (Nat.le_refl _) _).alloc (by simp) _
  have hcmd1 := (hcmd _ hB1).mono (R' := fun e w' => ∃ A cap L, e = .returned (.tuple #[.slice A cs.length cap, .bool okb]) ∧ (Boxed w' w.heap.size 3 (.int .i64 q) ∧ Boxed w' (w.heap.size + 1) 24 (.slice none 0 0)) ∧ FrL [] w w' ∧ w.heap.size + 2 ≤ w'.heap.size ∧ (TO1 w' imm (fun b => w.heap.size + 2 ≤ b) true (.tr T_Cmd cs) (.slice A cs.length cap) L ∧ L.Nodup)) (by
    rintro e w' ⟨tv, L, rfl, h1, h2, h3⟩
    obtain ⟨A, cap, rfl⟩ := slice_of h2
    have b5 := (Boxed.new w 3 (.int .i64 q)).alloc (.cells #[.slice none 0 0] 24)
    have b6 := Boxed.new (w.alloc (.cells #[.int .i64 q] 3)) 24 (.slice none 0 0)
    simp only [World.size_alloc] at b6
    have hs : ((w.alloc (.cells #[.int .i64 q] 3)).alloc (.cells #[.slice none 0 0] 24)).heap.size = w.heap.size + 2 := by simp
    have hsz := h1.size
    rw [hs] at hsz
    refine ⟨A, cap, L, rfl, ⟨(h1.block _ b5.lt (by simp)).trans b5, (h1.block _ b6.lt (by simp)).trans b6⟩, ⟨h1.os.trans hB1.os, h1.tape.trans hB1.tape, h1.output.trans hB1.output, by omega, fun j hj hn => (h1.block j (by omega) (by simp)).trans (hB1.block j hj), fun b m hr => h1.row b m (hr.same (hB1.block b hr.lt))⟩, hsz, ?_, h3⟩
    refine TO1.mono (fun _ h => h) (fun b hb => ?_) (fun _ _ => rfl) (fun _ _ => rfl) h2
    have := okL_nil hb
    rw [hs] at this
    exact this)
  clear hcmd
  have h1k : 1 ≤ k := by omega
  gi_wp2_with (first
    | (gi_at_call 70; refine hcmd1.mono ?_; clear hcmd1; rintro e w' ⟨A, cap, L, rfl, ⟨b5, b6⟩, h1, hsz, h2⟩; have c5 := b5.cell; have c6 := b6.cell; have f6 := b6.frozen)
    | (gi_at_call 71; refine (within_in F _ h71 hro _ _ _ _).mono ?_; rintro e w'' ⟨rfl, rfl⟩)
    | (gi_at_call 72; refine (Tryz.back_in F _ h72 hro _ _ _ _).mono ?_; rintro e w'' ⟨rfl, rfl⟩))
  ·
    rename_i hq
    have hcell := World.cell?_setCell_same' w'' ⟨w.heap.size + 1, 0, none⟩ (.slice none 0 0) (by rw [c6]; rfl)
    refine ⟨.slice none 0 0, ?_, .slice none 0 0, [], rfl, (Kp6.set (Kp6.of (Below.refl _ w'') (Nat.le_refl _)) _).frl h1 (by omega), .inl ⟨rfl, ?_, rfl⟩, List.nodup_nil⟩
    · simp [results, Tryz.f14, go_sem, hcell]
    · have : (decide (1 ≤ q) && decide (q ≤ 8)) = false := by
        rcases hq with h | h
        · simp only [Bool.not_eq_true'] at h; rw [h]; rfl
        · simp only [Bool.not_eq_true'] at h; rw [h]; simp
      rw [hr, this]; cases okb <;> rfl
  ·
    rename_i hok hq K hK0
    have hq1 : (decide (1 ≤ q) && decide (q ≤ 8)) = true := by
      obtain ⟨h, h'⟩ := hq
      simp only [Bool.not_eq_false'] at h h'
      rw [h, h']; rfl
    have hres : res = backM q cs.reverse := by rw [hr, hok, hq1]; rfl
    obtain ⟨E, hEi, hEs, hEc⟩ := els_of h2.1 h2.2
    obtain ⟨sv0, hsv0⟩ : ∃ sv0, sv0 = Value.slice A cs.length cap := ⟨_, rfl⟩
    have bS : Boxed (w''.alloc (.cells #[.slice A cs.length cap] 114)) w''.heap.size 114 (.slice A cs.length cap) := Boxed.new w'' 114 _
    have b5' := b5.alloc (.cells #[.slice A cs.length cap] 114)
    have b6' := b6.alloc (.cells #[.slice A cs.length cap] 114)
    obtain ⟨W0, hW0⟩ : ∃ W0, W0 = w''.alloc (.cells #[.slice A cs.length cap] 114) := ⟨_, rfl⟩
    have hbw : Below w''.heap.size w'' W0 := by rw [hW0]; exact (Below.refl _ w'').alloc (Nat.le_refl _) _
    have hs0 : W0.heap.size = w''.heap.size + 1 := by rw [hW0]; simp
    rw [← hW0] at bS b5' b6' ⊢
    rw [hq1]
    have hF0 : FrL [] w W0 := ⟨hbw.os.trans h1.os, hbw.tape.trans h1.tape, hbw.output.trans h1.output, by omega, fun j hj hn => (hbw.block j (by omega)).trans (h1.block j hj hn), fun b m hr => (h1.row b m hr).same (hbw.block b (h1.row b m hr).lt)⟩
    have hEls : Tryz.Els CmdE.us E W0.heap.size W0 (.slice A cs.length cap) cs.length := by
      rcases hEs with ⟨e1, e2⟩ | ⟨b, o, cp, e1, e2, e3⟩
      · exact .inl ⟨e1, e2⟩
      · exact .inr ⟨b, o, cp, e1, by omega, fun j hj W' hb' => load_el (e3 j hj) ((hb'.block b (by omega)).trans (hbw.block b e2))⟩
    refine wpIn_rangeFunc_ownH hro h1k (gf := 170) (lb := #[.pointer (some ⟨w''.heap.size, 0, none⟩)]) rfl h170 (enters_of Tryz.func170 (by kernel_rfl) rfl)
      (Tryz.back_stops F (k - 1) h170 hro (by omega) w''.heap.size W0.heap.size cs.length _ CmdE.i CmdE.us E (fun j _ => hEi j) hmax W0 (by omega) (Nat.le_refl _) bS.cell hEls) belowK_t (belowK_b (Nat.le_refl _)) (Below.refl _ _) (fun _ => rfl)
      (fun pre W => (∀ e ∈ pre, ¬ (e.op = 7 ∧ e.n = q)) ∧ Below W0.heap.size W0 W)
      (fun c pre W => (c = .ret ∧ ∃ ini e, pre = ini ++ [e] ∧ (∀ x ∈ ini, ¬ (x.op = 7 ∧ x.n = q)) ∧ e.op = 7 ∧ e.n = q ∧ W.cell? ⟨w.heap.size + 1, 0, none⟩ = some e.v) ∧ Kp6 (w.heap.size + 1) W0 W)
      (OwnFrom.and (ownFrom_pure _ _) (ownFrom_below (Nat.le_refl _) (Nat.le_refl _)))
      (fun c => OwnFrom.and (Own.from (fun s A B row hs hg hr => by obtain ⟨hc, ini, last, e1, e2, e3, e4, e5⟩ := hs; exact ⟨hc, ini, last, e1, e2, e3, e4, cell_kept e5 hg hr⟩) _) (Kp6.own (Nat.le_refl _)))
      ⟨by simp, Below.refl _ _⟩
      (fun x a' W => ∃ Bx, W0.heap.size ≤ Bx ∧ (W.cell? ⟨Bx, 0, none⟩ = some (.int .i64 x.op) ∧ W.cell? ⟨Bx, 1, none⟩ = some (.int .i64 x.n) ∧ W.cell? ⟨Bx, 29, none⟩ = some (.slice x.A x.l x.c)) ∧ a' = { tmps := #[sv, .int .i64 n, .int .i64 q, undef, undef, .pointer (some ⟨w.heap.size, 0, none⟩), .pointer (some ⟨w.heap.size + 1, 0, none⟩), .slice A cs.length cap, .bool true, undef, .pointer (some ⟨Bx, 0, none⟩), .tuple #[.slice A cs.length cap, .bool true], sv, .int .i64 n, .tuple #[.slice A cs.length cap, .bool true], .slice A cs.length cap, .bool true, .bool true, .bool false, .bool false, .int .i64 q, .bool true, .bool false, .bool false, .slice A cs.length cap, .func (.func 170) #[] #[.pointer (some ⟨w''.heap.size, 0, none⟩)], .int .i64 (x.i : Int), .agg x.us.toArray, undef, undef, undef, undef, undef, undef, undef, undef, undef, undef, undef], defers := [] })
      (fun x a' _ X Y row hs hg hr => by obtain ⟨Bx, g1, ⟨g2, g3, g4⟩, g5⟩ := hs; exact ⟨Bx, g1, ⟨cell_kept g2 hg (fun r e => (hr r e).2), cell_kept g3 hg (fun r e => (hr r e).2), cell_kept g4 hg (fun r e => (hr r e).2)⟩, g5⟩)
      ?assign ?body ?done ?stop
    case assign =>
      rintro l pre x W K ⟨hp, hB⟩ hK
      have hst : ∀ Z : Array Value, Z.size = 30 → (storeVar 110 ⟨W.heap.size, 0, none⟩ (.agg x.us.toArray)).run Tryz.prog (W.alloc (.cells Z 110)) = .ok () (setCells (W.alloc (.cells Z 110)) W.heap.size 0 x.us) := fun Z hZ => run_storeVar tv110 (us := x.us) rfl x.len ((Row.new W Z 110).le (by rw [x.len, hZ]; exact Nat.le_refl _)) x.one
      have hrw : ∀ Z : Array Value, Z.size = 30 → Row (W.alloc (.cells Z 110)) W.heap.size (0 + x.us.length) := fun Z hZ => (Row.new W Z 110).le (by rw [x.len, hZ]; exact Nat.le_refl _)
      have hbz : ∀ Z : Array Value, Below W0.heap.size W (setCells (W.alloc (.cells Z 110)) W.heap.size 0 x.us) := fun Z => ((Below.refl _ W).alloc hB.size _).trans (below_setCells _ _ _ _ hB.size)
      simp only [Tryz.bEnc]
      gi_wp2_with (refine wpListIn_store (A := ⟨W.heap.size, 0, none⟩) rfl (hst _ rfl) ?_)
      refine hK _ _ ?_ ?_ ?_ ?_
      · exact ((KeepsOthers.alloc _ _).trans (keeps_setCells _ _ _ _)).from _
      · exact hbz _
      · exact ⟨hp, hB.trans (hbz _)⟩
      · refine ⟨W.heap.size, hB.size, ⟨?_, ?_, ?_⟩, rfl⟩
        · exact setCells_get _ _ _ 0 (hrw _ rfl) 0 _ x.h0
        · exact setCells_get _ _ _ 0 (hrw _ rfl) 1 _ x.h1
        · exact setCells_get _ _ _ 0 (hrw _ rfl) 29 _ x.h2
    case body =>
      rintro l pre x a' W hl ⟨r, hr⟩ ⟨hp, hB⟩ ⟨Bx, hBx, ⟨g0, g1, g2⟩, rfl⟩ hlt
      have w5 := (hB.block _ (by omega : w.heap.size < W0.heap.size)).trans b5'
      have w6 := (hB.block _ (by omega : w.heap.size + 1 < W0.heap.size)).trans b6'
      have d5 : W.cell? ⟨w.heap.size, 0, none⟩ = some (.int .i64 q) := Boxed.cell w5
      have d6 : W.cell? ⟨w.heap.size + 1, 0, none⟩ = some (.slice none 0 0) := Boxed.cell w6
      have d7 : W.frozen? ⟨w.heap.size + 1, 0, none⟩ = false := Boxed.frozen w6
      gi_wp2
      · rename_i h7 hnq
        exact ⟨(KeepsOthers.setCell _ _ _).from _, ⟨rfl, pre, x, rfl, hp, h7, eq_of_beq hnq, World.cell?_setCell_same' _ _ _ (by rw [d6]; rfl)⟩, (Kp6.of hB (Nat.le_refl _)).set _⟩
      · rename_i h7 hnq
        refine ⟨KeepsFrom.refl _ _, Below.refl _ _, ⟨fun e he => ?_, hB⟩⟩
        rcases List.mem_append.1 he with h | h
        · exact hp e h
        · simp only [List.mem_singleton] at h; subst h
          rintro ⟨_, h⟩; rw [h] at hnq; simp at hnq
      · rename_i h7
        refine ⟨KeepsFrom.refl _ _, Below.refl _ _, ⟨fun e he => ?_, hB⟩⟩
        rcases List.mem_append.1 he with h | h
        · exact hp e h
        · simp only [List.mem_singleton] at h; subst h
          rintro ⟨h, _⟩; exact h7 h
    case done =>
      rintro D ys W hD rfl ⟨hp, hB⟩ hK
      have w6 := (hB.block _ (by omega : w.heap.size + 1 < W0.heap.size)).trans b6'
      have d6 : W.cell? ⟨w.heap.size + 1, 0, none⟩ = some (.slice none 0 0) := Boxed.cell w6
      have d7 : W.frozen? ⟨w.heap.size + 1, 0, none⟩ = false := Boxed.frozen w6
      gi_wp2
      have hK' := (KeepsOthers.setCell W ⟨w.heap.size + 1, 0, none⟩ (.slice none 0 0)).same D _ hK rfl
      refine ⟨by simp, .inl ⟨_, _, rfl, run_takeDeferred hK', ?_⟩⟩
      have hc5 := cell_kept (World.cell?_setCell_same' W ⟨w.heap.size + 1, 0, none⟩ (.slice none 0 0) (by rw [d6]; rfl)) (grownBy_putObj' _ D (.deferred none)) (fun r e => by cases e; exact ⟨_, hK', rfl⟩)
      have hkp := ((Kp6.of (B := w.heap.size + 1) hB (Nat.le_refl _)).set (.slice none 0 0)).below (belowK_b (n₀ := W0.heap.size) (Nat.le_refl _) _ D _ (.deferred none) hD hK' rfl rfl)
      refine ⟨.slice none 0 0, ?_, .slice none 0 0, [], rfl, hkp.frl hF0 (by omega), .inl ⟨rfl, ?_, rfl⟩, List.nodup_nil⟩
      · simp [results, Tryz.f14, go_sem, hc5]
      · rw [hres]; exact none_of (fun j hj => ⟨(hEc j hj).1, (hEc j hj).2.1⟩) hp
    case stop =>
      rintro D c pre W hD ⟨kk, hkk, rfl⟩ ⟨⟨rfl, ini, last, e1, e2, e3, e4, e5⟩, hB⟩ hK
      gi_wp2
      refine ⟨by simp, .inl ⟨_, _, rfl, run_takeDeferred hK, ?_⟩⟩
      have hc5 := cell_kept e5 (grownBy_putObj' _ D (.deferred none)) (fun r e => by cases e; exact ⟨_, hK, rfl⟩)
      have hkp := hB.below (belowK_b (n₀ := W0.heap.size) (Nat.le_refl _) _ D _ (.deferred none) hD hK rfl rfl)
      obtain ⟨k', rfl⟩ : ∃ k', kk = k' + 1 := by
        cases kk with
        | zero => simp [Tryz.upto] at e1
        | succ k' => exact ⟨k', rfl⟩
      rw [Tryz.upto_succ] at e1
      obtain ⟨rfl, e6⟩ := List.append_inj' e1 rfl
      simp only [List.cons.injEq, and_true] at e6
      subst e6
      obtain ⟨q1, q2, L', q3, q4, q5⟩ := hEc (cs.length - 1 - k') (by omega)
      have hb' : ∀ b ∈ L', (W.putObj D (.deferred none)).heap[b]? = w''.heap[b]? := fun b hb => by
        obtain ⟨g1, g2⟩ := TO1.blocks q5 b hb
        exact (hkp.block b (by omega) (by omega)).trans (hbw.block b g2)
      refine ⟨(E (cs.length - 1 - k')).v, ?_, _, L', rfl, hkp.frl hF0 (by omega), ?_, q3⟩
      · simp only [CmdE.v] at hc5 ⊢
        simp [results, Tryz.f14, go_sem, hc5]
      · rw [hres, some_of (by omega) (fun j hj => ⟨(hEc j hj).1, (hEc j hj).2.1⟩) e2 e3 e4]
        exact TO1.mono (fun _ h => h) (fun b (hb : w.heap.size + 2 ≤ b) => .inr (by omega)) (fun _ h => by cases h.1) hb' q5
  ·
    rename_i hok
    have hcell := World.cell?_setCell_same' w' ⟨w.heap.size + 1, 0, none⟩ (.slice none 0 0) (by rw [c6]; rfl)
    refine ⟨.slice none 0 0, ?_, .slice none 0 0, [], rfl, (Kp6.set (Kp6.of (Below.refl _ w') (Nat.le_refl _)) _).frl h1 (by omega), .inl ⟨rfl, ?_, rfl⟩, List.nodup_nil⟩
    · simp [results, Tryz.f14, go_sem, hcell]
    · show res = []
      rw [hr]
      cases okb
      · rfl
      · exact absurd rfl hok
theorem chainAt_ok {m : List D_Event → Int → Option ((List D_Cmd × (Bool × Unit)) × Unit)} (hC : ConOk Tryz.prog ⟨70, [((.sl T_Event), false), ((.int .i64), false)], [(.sl T_Cmd), .bool], (.own true), fun x => m x.1 x.2.1⟩) :
    ConOk Tryz.prog ⟨14, [((.sl T_Event), false), ((.int .i64), false), ((.int .i64), false)], [(.sl T_Module)], (.own true), fun x => chainC (m x.1 x.2.1) x.2.2.1⟩ := by
  refine ⟨by kernel_rfl, fun w imm vals x Lm y himm hgd hLm harg hy => ?_⟩
  obtain ⟨evs, n, q, ⟨⟩⟩ := x
  obtain ⟨us1, vs1, La, Lb, rfl, rfl, ha, _, us2, vs2, Lc, Ld, rfl, rfl, hb, _, us3, vs3, Le, Lf, rfl, rfl, hc, _, rfl, rfl⟩ := harg
  obtain ⟨ha, rfl⟩ := ha rfl
  obtain ⟨⟨rfl, _⟩, rfl⟩ := hb rfl
  obtain ⟨⟨rfl, _⟩, rfl⟩ := hc rfl
  have ha' := ha
  obtain ⟨sv, rfl, _⟩ := ha'
  have hy' : chainC (m evs n) q = some y := hy
  unfold chainC at hy'
  obtain ⟨⟨⟨cs, okb, ⟨⟩⟩, ⟨⟩⟩, hm, hy'⟩ := Option.bind_eq_some_iff.1 hy'
  obtain ⟨hmax, hy'⟩ := cond_some.1 hy'
  have hmax := of_decide_eq_true hmax
  obtain ⟨res, hres⟩ : ∃ res : List D_Module, res = (fun (q : Int) (cs : List D_Cmd) => (bif okb && (decide (1 ≤ q) && decide (q ≤ 8)) then backM q cs.reverse else [])) q cs := ⟨_, rfl⟩
  have hy2 : some ((res, ()), ()) = some y := by rw [hres]; exact hy'
  obtain rfl : ((res, ()), ()) = y := Option.some.inj hy2
  have hcmd : ∀ W : World, Below w.heap.size w W → CallsIn Fence.wide 7 Tryz.prog 70 #[sv, .int .i64 n] W fun e w' => ∃ tv L, e = .returned (.tuple #[tv, .bool okb]) ∧ FrL [] W w' ∧ TO1 w' imm (okL [] W) true (.tr T_Cmd cs) tv L ∧ L.Nodup := by
    intro W hW
    refine callsIn_wide.2 ((hC.2 W imm [sv, .int .i64 n] (evs, n, ()) [] ((cs, okb, ()), ()) (fun b hb => ⟨Nat.lt_of_lt_of_le (himm b hb).1 hW.size, by simp⟩) ⟨hgd.1, ?_⟩ (by simp) ?_ hm).mono ?_)
    · exact Grd.st w W (fun g hg => hW.block g (himm g (hgd.1 g hg)).1) hgd.2
    · refine ⟨[sv], [.int .i64 n], [], [], rfl, rfl, fun _ => ⟨?_, rfl⟩, fun h => (by cases h), [.int .i64 n], [], [], [], rfl, rfl, fun _ => ⟨⟨rfl, rfl⟩, rfl⟩, fun h => (by cases h), rfl, rfl⟩
      exact ha.mono (fun _ h => h) (fun _ h => h) (fun b hb => hW.block b (himm b hb).1) (by simp)
    · rintro e w' ⟨vs, L, Lm', rfl, h1, h2, h3, h4⟩
      obtain ⟨u1, v1, L1, L2, rfl, rfl, h5, u2, v2, L3, L4, rfl, rfl, h6, rfl, rfl⟩ := h2
      obtain ⟨tv, us', L5, L6, rfl, rfl, h7, rfl, rfl⟩ := h5
      obtain ⟨b1, us'', L7, L8, rfl, rfl, ⟨rfl, rfl⟩, rfl, rfl⟩ := h6
      refine ⟨tv, L5, rfl, h1, h7, ?_⟩
      have : (L5 ++ [] ++ ([] ++ [] ++ []) ++ Lm').Nodup := h4
      simp only [List.append_nil] at this
      exact (List.nodup_append.1 this).1
  have hw := callsIn_wide.1 (chain_walk Fence.wide 8 trivial trivial trivial trivial trivial rfl (by omega) (w := w) (imm := imm) (fun b hb => (himm b hb).1) (n := n) (q := q) (sv := sv) (cs := cs) (okb := okb) hres hmax hcmd)
  refine hw.mono ?_
  rintro e w' ⟨cv, L, rfl, h1, h2, h3⟩
  refine ⟨[cv], L, [], rfl, h1, ⟨[cv], [], L, [], rfl, (List.append_nil L).symm, ⟨cv, [], L, [], rfl, (List.append_nil L).symm, h2, rfl, rfl⟩, rfl, rfl⟩, rfl, by simpa using h3⟩
end Go.Tw
