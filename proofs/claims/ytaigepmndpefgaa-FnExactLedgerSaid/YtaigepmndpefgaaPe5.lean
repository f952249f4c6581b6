/- Plain facts on the mirrors of the functions are proved here. -/
import Derived.Test.YtaigepmndpefgaaT24
import Derived.Sort.Grow
import Derived.Sort.Row
import Derived.Lib.SlicesCompact
import Derived.Lib.RowBridge
set_option linter.all false
namespace Go.Tw
open Go Go.RowKit Go.Sort
variable [Grd]

/-! Functions of the library that write through a slice of integers, by their contracts. -/
theorem rl_ints {w : World} {imm ok : Nat → Prop} : ∀ {l : List Int} {b o : Nat} {L : List Nat}, RL (TRc w imm ok (.int .i64)) 1 l b o L ↔ L = [] ∧ ∀ j (h : j < l.length), w.cell? ⟨b, o + j, none⟩ = some (.int .i64 l[j])
  | [], b, o, L => by simp [RL]
  | x :: l, b, o, L => by
    constructor
    · rintro ⟨L1, L2, rfl, ⟨us, ⟨rfl, rfl⟩, h2⟩, h3⟩
      obtain ⟨rfl, h4⟩ := rl_ints.1 h3
      refine ⟨rfl, fun j hj => ?_⟩
      cases j with
      | zero => exact h2 0 _ rfl
      | succ j =>
        have := h4 j (by simpa using hj)
        rw [show o + (j + 1) = o + 1 + j by omega]
        simpa using this
    · rintro ⟨rfl, h⟩
      refine ⟨[], [], rfl, ⟨[.int .i64 x], ⟨rfl, rfl⟩, fun j u hj => ?_⟩, rl_ints.2 ⟨rfl, fun j hj => ?_⟩⟩
      · cases j with
        | zero => simp only [List.getElem?_cons_zero, Option.some.injEq] at hj; subst hj; exact h 0 (by simp)
        | succ j => simp at hj
      · have := h (j + 1) (by simpa using hj)
        rw [show o + (j + 1) = o + 1 + j by omega] at this
        simpa using this
def putW (w : World) (n b o : Nat) (d : Array Int) (os : Array Obj) : World := grow (putRow (Value.int .i64) (Sort.ahead w n) b o d) os
theorem putW_block {w : World} {n b o : Nat} {d : Array Int} {os : Array Obj} {k : Nat} (hk : k < w.heap.size) (hb : k ≠ b) : (putW w n b o d os).heap[k]? = w.heap[k]? := by
  unfold putW grow putRow mapBlock Sort.ahead
  simp only [Array.getElem?_append, Array.size_modify, hk, if_true, Array.getElem?_modify]
  rw [if_neg (fun h => hb h.symm)]
theorem putW_old {w : World} {n b o : Nat} {d : Array Int} {os : Array Obj} {k : Nat} (hk : k < w.heap.size) : (putW w n b o d os).heap[k]? = (putRow (Value.int .i64) (Sort.ahead w n) b o d).heap[k]? := by
  unfold putW grow
  have : k < (putRow (Value.int .i64) (Sort.ahead w n) b o d).heap.size := by rw [size_putRow]; exact hk
  simp only [Array.getElem?_append, this, if_true]
theorem putW_row {w : World} {n b o : Nat} {d : Array Int} {os : Array Obj} {k m : Nat} (h : Row w k m) : Row (putW w n b o d os) k m := by
  have hk := h.lt
  by_cases hb : k = b
  · subst hb
    obtain ⟨c, e, f, h1, h2, h3⟩ := h
    refine ⟨putCells (Value.int .i64) o d c, e, f, ?_, by simp [putCells]; exact h2, fun j hj => ?_⟩
    · rw [putW_old hk]
      unfold putRow mapBlock Sort.ahead
      simp only [Array.getElem?_modify, if_true, h1, Option.map_some, onCells]
    · rw [frozen_same (putW_old hk), frozen?_putRow, frozen?_ahead]
      exact h3 j (by simpa [putCells] using hj)
  · exact h.same (putW_block hk hb)
theorem putW_fr {w : World} {n b o : Nat} {d : Array Int} {os : Array Obj} : FrL [b] w (putW w n b o d os) :=
  ⟨rfl, rfl, rfl, by unfold putW; rw [size_grow, size_putRow]; exact Nat.le_add_right _ _, fun k hk hb => putW_block hk (by simpa using hb), fun k m h => putW_row h⟩
theorem putW_cell {w : World} {n b o : Nat} {d d0 : Array Int} {os : Array Obj} (hb : b < w.heap.size) (h0 : Holds (Value.int .i64) w b o d0) (hs : d.size = d0.size) (j : Nat) (hj : j < d.size) : (putW w n b o d os).cell? ⟨b, o + j, none⟩ = some (.int .i64 d[j]!) := by
  rw [cell_same (putW_old hb)]
  exact cell?_putRow (Value.int .i64) (Sort.ahead w n) b o d0 d h0 hs j hj
theorem holds_of {w : World} {b o : Nat} {l : List Int} (hr : ∀ j (h : j < l.length), w.cell? ⟨b, o + j, none⟩ = some (.int .i64 l[j])) (hf : ∀ j, j < l.length → w.frozen? ⟨b, o + j, none⟩ = false) : Holds (Value.int .i64) w b o l.toArray := by
  intro j hj
  have hj' : j < l.length := by simpa using hj
  refine ⟨?_, hf j hj'⟩
  rw [hr j hj']
  simp [getElem!_pos, hj']

/-- slices.Sort -/
def sortI (l : List Int) : List Int := l.mergeSort (fun a b => decide (a ≤ b))
theorem sortI_len (l : List Int) : (sortI l).length = l.length := List.length_mergeSort l
def sortM (x : List Int × Unit) : Option (Unit × (List Int × Unit)) :=
  bif decide (x.1.length < 4611686018427387904) then some ((), (sortI x.1, ())) else none
def sortC (l : List Int) := sortM (l, ())
theorem ext_sort {P : Program} {f : FuncId} (hc : callable P f = true)
    (h0 : ∀ (a : Option Addr) (cap : Nat) (w : World), Calls P f #[.slice a 0 cap] w fun e w' => e = .returned (.tuple #[]) ∧ w' = w)
    (h : ∀ (blk off cap : Nat) (zs : List Int) (w : World), Holds (Value.int .i64) w blk off zs.toArray → blk < w.heap.size → zs.length < 4611686018427387904 →
      Calls P f #[.slice (some ⟨blk, off, none⟩) zs.length cap] w fun e w' => e = .returned (.tuple #[]) ∧ ∃ n os, w' = grow (putRow (Value.int .i64) (Sort.ahead w n) blk off (zs.mergeSort fun x y => decide (x ≤ y)).toArray) os) :
    ConOk P ⟨f, [(.sl (.int .i64), true)], [], .own true, sortM⟩ := by
  refine ⟨hc, fun w imm vals x Lm y himm hgd hLm harg hy => ?_⟩
  obtain ⟨us, vs', L1, L2, rfl, rfl, _, h1, rfl, rfl⟩ := harg
  obtain ⟨u, us', L3, L4, rfl, rfl, h2, rfl, rfl⟩ := h1 rfl
  unfold sortM at hy
  obtain ⟨hb, hy⟩ := cond_some.1 hy
  have hb := of_decide_eq_true hb
  cases hy
  rcases h2 with ⟨rfl, hx, rfl⟩ | ⟨b, o, cap, L', rfl, hcap, hRL, rfl, hok, hrow, hrowc⟩
  · refine (h0 none 0 w).mono ?_
    rintro e w' ⟨rfl, rfl⟩
    refine ⟨[], [], [], rfl, ⟨rfl, rfl, rfl, Nat.le_refl _, fun _ _ _ => rfl, fun _ _ h => h⟩, ⟨rfl, rfl⟩, ⟨[.slice none 0 0], [], [], rfl, rfl, ⟨_, [], [], [], rfl, rfl, .inl ⟨rfl, ?_, rfl⟩, rfl, rfl⟩, rfl⟩, by simp⟩
    show sortI x.1 = []
    rw [hx]; exact List.mergeSort_nil
  · obtain ⟨rfl, hcells⟩ := rl_ints.1 hRL
    have hfz : ∀ j, j < x.1.length → w.frozen? ⟨b, o + j, none⟩ = false := fun j hj => (hrowc (by omega)).frozen (by simp only [sz]; omega)
    have hH := holds_of hcells hfz
    have hlt := hrow.lt
    refine (h b o cap x.1 w hH hlt hb).mono ?_
    rintro e w' ⟨rfl, n, os, hw'⟩
    obtain rfl : w' = putW w n b o (sortI x.1).toArray os := hw'
    have hlen : (sortI x.1).length = x.1.length := sortI_len _
    refine ⟨[], [], [b], rfl, by simpa using (putW_fr (n := n) (d := (sortI x.1).toArray) (os := os)), ⟨rfl, rfl⟩, ⟨[.slice (some ⟨b, o, none⟩) x.1.length cap], [b], [], rfl, rfl, ⟨_, [], [b], [], rfl, rfl, .inr ⟨b, o, cap, [], ?_, ?_, ?_, rfl, .inl (by simp), putW_row hrow, fun hp => putW_row (hrowc hp)⟩, rfl, rfl⟩, rfl⟩, by simp⟩
    · show Value.slice _ _ _ = Value.slice _ (sortI x.1).length _
      rw [hlen]
    · show (sortI x.1).length ≤ cap
      rw [hlen]; exact hcap
    · refine rl_ints.2 ⟨rfl, fun j hj => ?_⟩
      have hj : j < (sortI x.1).length := hj
      have := putW_cell (n := n) (os := os) (d := (sortI x.1).toArray) hlt hH ((List.size_toArray).trans (hlen.trans (List.size_toArray).symm)) j (by simpa using hj)
      rw [show (sortI x.1).toArray[j]! = (sortI x.1)[j] by rw [getElem!_pos _ _ (by simpa using hj)]; simp] at this
      exact this

def cpI (l : List Int) : List Int := Lib.compact l
/-- slices.Compact: its argument is moved -/
def compactM (x : List Int × Unit) : Option ((List Int × Unit) × (List Int × Unit)) :=
  bif decide (x.1.length ≤ 9223372036854775807) then some ((cpI x.1, ()), (x.1, ())) else none
def compactC (l : List Int) := compactM (l, ())
theorem cpI_le (l : List Int) : (cpI l).length ≤ l.length := Lib.compact_length_le _
theorem compact_core {P : Program} {f : FuncId}
    (h : ∀ (blk off cap : Nat) (zs : List Int) (w : World), Holds (Value.int .i64) w blk off zs.toArray → zs.length ≤ 9223372036854775807 → zs.length ≤ cap →
      Calls P f #[.slice (some ⟨blk, off, none⟩) zs.length cap] w fun e w' => e = .returned (.slice (some ⟨blk, off, none⟩) (Lib.compact zs).length cap) ∧ ∃ q, w' = putRow (Value.int .i64) (Sort.ahead w q) blk off (Lib.compact zs ++ List.replicate (zs.length - (Lib.compact zs).length) 0).toArray)
    (l : List Int) (w : World) (b o cap : Nat) (hcells : ∀ j (h : j < l.length), w.cell? ⟨b, o + j, none⟩ = some (.int .i64 l[j])) (hfz : ∀ j, j < l.length → w.frozen? ⟨b, o + j, none⟩ = false) (hlt : b < w.heap.size) (hb : l.length ≤ 9223372036854775807) (hcap : l.length ≤ cap) :
    Calls P f #[.slice (some ⟨b, o, none⟩) l.length cap] w fun e w' => e = .returned (.slice (some ⟨b, o, none⟩) (cpI l).length cap) ∧ ∃ n d, w' = putW w n b o d #[] ∧ ∀ j (h : j < (cpI l).length), w'.cell? ⟨b, o + j, none⟩ = some (.int .i64 (cpI l)[j]) := by
  have hH := holds_of hcells hfz
  refine (h b o cap l w hH hb hcap).mono ?_
  rintro e w' ⟨rfl, n, hw'⟩
  have hle := cpI_le l
  obtain ⟨d, hd⟩ : ∃ d : Array Int, d = (cpI l ++ List.replicate (l.length - (cpI l).length) 0).toArray := ⟨_, rfl⟩
  have hds : d.size = l.toArray.size := by rw [hd]; simp; omega
  have hdl : d.size = l.length := by rw [hds]; simp
  have hdj : ∀ j (hj : j < (cpI l).length), d[j]! = (cpI l)[j] := by
    intro j hj
    rw [getElem!_pos d j (by omega)]
    simp only [hd, List.getElem_toArray]
    rw [List.getElem_append_left hj]
  have hw2 : w' = putW w n b o d #[] := by rw [hw', hd]; unfold putW; rw [grow_empty]; rfl
  subst hw2
  refine ⟨rfl, n, d, rfl, fun j hj => ?_⟩
  rw [putW_cell hlt hH hds j (by omega), hdj j hj]
theorem ext_compact {P : Program} {f : FuncId} (hc : callable P f = true)
    (h0 : ∀ (a : Option Addr) (cap : Nat) (w : World), Calls P f #[.slice a 0 cap] w fun e w' => e = .returned (.slice a 0 cap) ∧ w' = w)
    (h : ∀ (blk off cap : Nat) (zs : List Int) (w : World), Holds (Value.int .i64) w blk off zs.toArray → zs.length ≤ 9223372036854775807 → zs.length ≤ cap →
      Calls P f #[.slice (some ⟨blk, off, none⟩) zs.length cap] w fun e w' => e = .returned (.slice (some ⟨blk, off, none⟩) (Lib.compact zs).length cap) ∧ ∃ q, w' = putRow (Value.int .i64) (Sort.ahead w q) blk off (Lib.compact zs ++ List.replicate (zs.length - (Lib.compact zs).length) 0).toArray) :
    ConOk P ⟨f, [(.sl (.int .i64), true)], [.sl (.int .i64)], .mv, compactM⟩ := by
  refine ⟨hc, fun w imm vals x Lm y himm hgd hLm harg hy => ?_⟩
  obtain ⟨us, vs', L1, L2, rfl, rfl, _, h1, rfl, rfl⟩ := harg
  obtain ⟨u, us', L3, L4, rfl, rfl, h2, rfl, rfl⟩ := h1 rfl
  unfold compactM at hy
  obtain ⟨hb, hy⟩ := cond_some.1 hy
  have hb := of_decide_eq_true hb
  cases hy
  rcases h2 with ⟨rfl, hx, rfl⟩ | ⟨b, o, cap, L', rfl, hcap, hRL, rfl, hok, hrow, hrowc⟩
  · refine (h0 none 0 w).mono ?_
    rintro e w' ⟨rfl, rfl⟩
    refine ⟨[.slice none 0 0], [], [], rfl, ⟨rfl, rfl, rfl, Nat.le_refl _, fun _ _ _ => rfl, fun _ _ h => h⟩, ⟨[.slice none 0 0], [], [], [], rfl, rfl, ⟨_, [], [], [], rfl, rfl, .inl ⟨rfl, ?_, rfl⟩, rfl, rfl⟩, rfl, rfl⟩, rfl, by simp⟩
    show cpI x.1 = []
    rw [hx]; rfl
  · obtain ⟨rfl, hcells⟩ := rl_ints.1 hRL
    have hfz : ∀ j, j < x.1.length → w.frozen? ⟨b, o + j, none⟩ = false := fun j hj => (hrowc (by omega)).frozen (by simp only [sz]; omega)
    have hlt := hrow.lt
    refine (compact_core h x.1 w b o cap hcells hfz hlt hb hcap).mono ?_
    rintro e w' ⟨rfl, n, d, rfl, hcl⟩
    refine ⟨[.slice (some ⟨b, o, none⟩) (cpI x.1).length cap], [b], [], rfl, by simpa using (putW_fr (n := n) (d := d) (os := #[])), ⟨[.slice (some ⟨b, o, none⟩) (cpI x.1).length cap], [], [b], [], rfl, rfl, ⟨_, [], [b], [], rfl, rfl, .inr ⟨b, o, cap, [], rfl, ?_, ?_, rfl, .inl (by simp), putW_row hrow, fun hp => putW_row (hrowc hp)⟩, rfl, rfl⟩, rfl, rfl⟩, rfl, by simp⟩
    · exact Nat.le_trans (cpI_le x.1) hcap
    · exact rl_ints.2 ⟨rfl, fun j hj => hcl j hj⟩
end Go.Tw
