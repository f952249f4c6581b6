/- Plain facts on the mirrors of the functions are proved here. -/
import Derived.Test.YtaigepmndpefgaaDoorPe1
set_option linter.all false
namespace Go.Tw
open Go Go.RowKit Go.Proofs

def joinM (x : List ByteArray × (ByteArray × Unit)) : Option ((ByteArray × Unit) × Unit) :=
  bif decide (x.1.length ≤ 140737488355328) && decide ((Lib.join (x.1.map (·.data.toList)) x.2.1.data.toList).length ≤ 140737488355328) then some ((⟨(Lib.join (x.1.map (·.data.toList)) x.2.1.data.toList).toArray⟩, ()), ()) else none
theorem RL.strs {w : World} {imm ok : Nat → Prop} : ∀ {l : List ByteArray} {b o : Nat} {L : List Nat}, RL (TRc w imm ok .str) 1 l b o L → ∀ (j : Nat) x, l[j]? = some x → w.cell? ⟨b, o + j, none⟩ = some (.string x)
  | [], b, o, L, h, j, x, hj => by simp at hj
  | y :: l, b, o, L, h, j, x, hj => by
    obtain ⟨L1, L2, rfl, ⟨us, h1, h2⟩, h3⟩ := h
    obtain ⟨rfl, _⟩ := h1
    cases j with
    | zero =>
      simp only [List.getElem?_cons_zero, Option.some.injEq] at hj; subst hj
      exact h2 0 _ rfl
    | succ j =>
      have := RL.strs h3 j x (by simpa using hj)
      rwa [show o + (j + 1) = o + 1 + j by omega]
theorem join_ok : ConOk Tryd.prog ⟨38, [(.sl .str, false), (.str, false)], [.str], .own true, joinM⟩ := by
  refine ext_str (by kernel_rfl) (by rfl) fun w imm vals x y hi hj harg hy => ?_
  obtain ⟨us, vs', L1, L2, rfl, _, h1, _, us2, vs2, L3, L4, rfl, _, h2, _, rfl, _⟩ := harg
  obtain ⟨v, rfl, hs⟩ := (h1 rfl).1
  obtain ⟨rfl, _⟩ := (h2 rfl).1
  unfold joinM at hy
  obtain ⟨hb, hy⟩ := cond_some.1 hy
  have hb1 := of_decide_eq_true (Bool.and_eq_true_iff.1 hb).1
  have hb2 := of_decide_eq_true (Bool.and_eq_true_iff.1 hb).2
  cases hy
  have nil : ∀ (a : Option Addr) (cc : Nat), x.1 = [] → v = .slice a 0 cc → Calls Tryd.prog 38 [v, .string x.2.1].toArray w fun e w' => e = .returned (.string ⟨(Lib.join (x.1.map (·.data.toList)) x.2.1.data.toList).toArray⟩) ∧ Below w.heap.size w w' := by
    intro a cc h0 hv
    subst hv
    refine (Tryd.strings_Join_none a cc x.2.1 w).mono ?_
    rintro e w' ⟨rfl, rfl⟩
    rw [h0]
    exact ⟨rfl, Below.refl _ _⟩
  rcases hs with ⟨rfl, h0, _⟩ | ⟨A, cap, L', rfl, hcap, hRL, hor⟩
  · exact nil none 0 h0 rfl
  · by_cases h0 : x.1 = []
    · exact nil (some A) cap h0 (by rw [h0]; rfl)
    · rcases hor with ⟨_, rfl, _, hh⟩ | ⟨hL, _⟩
      · obtain ⟨hsp, himm⟩ := hh h0
        obtain ⟨bk, o, sp⟩ := A
        simp only at hsp; subst hsp
        exact Tryd.strings_Join bk o cap x.1 x.2.1 w (RL.strs hRL) (hi _ himm) hb1 hcap hb2
      · cases hL
end Go.Tw
