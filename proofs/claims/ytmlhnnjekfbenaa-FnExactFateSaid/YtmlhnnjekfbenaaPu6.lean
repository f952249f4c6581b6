/- Plain facts on the mirrors of the functions are proved here. -/
import Derived.Test.YtmlhnnjekfbenaaPu5
set_option linter.all false
namespace Go.Tw
open Go Go.RowKit

abbrev M1 : Int := 1048576
def WOut (e : D_Out) : Prop := e.2.2.2.1.length ≤ 9223372036854775807 ∧ e.2.2.2.2.1.length ≤ 9223372036854775807
theorem szOut_ok : SzOk M1 laws_szOut WOut BOut := by
  intro e m hW h0 hm
  obtain ⟨n, h1, h2, h3, h4⟩ := szFlat_ok (α := Int) (M := M1) (by decide) e.2.2.2.1 m hW.1 h0 hm
  have h1' : laws_szByteS e.2.2.2.1 m = some ((n, ()), ()) := h1
  unfold laws_szOut
  rw [h1', Option.bind_some]
  by_cases h : n < 0
  · exact ⟨-1, by rw [bif_t (by simpa using h)], by omega, by omega, fun h => by omega⟩
  · rw [bif_f (by simpa using h)]
    obtain ⟨n2, g1, g2, g3, g4⟩ := szFlat_ok (α := Int) (M := M1) (by decide) e.2.2.2.2.1 n hW.2 (by omega) (by omega)
    have g1' : laws_szIntS e.2.2.2.2.1 n = some ((n2, ()), ()) := g1
    simp only
    rw [g1', Option.bind_some]
    by_cases hh : n2 < 0
    · exact ⟨-1, by rw [bif_t (by simpa using hh)], by omega, by omega, fun h => by omega⟩
    · exact ⟨n2, by rw [bif_f (by simpa using hh)], g2, by omega, fun h5 => by
        have hM' : M1 = 1048576 := rfl
        have a := h4 (by omega); have b := g4 h5
        exact ⟨by omega, by omega⟩⟩
theorem szOutS_ok (k : Nat) (hk : M1 < k) : SzOk M1 (laws_szOutS k) (fun x => x.length ≤ 9223372036854775807 ∧ ∀ e ∈ x, WOut e) (fun x => (x.length : Int) ≤ M1 ∧ ∀ e ∈ x, BOut e) :=
  szList_ok (f := laws_szOut) (z := z_Out) (by decide) szOut_ok k hk
theorem toByte_ok (k : Nat) (hk : M1 < k) (x : List Int) (hx : x.length ≤ 1048576) : laws_toByteS k x = some ((x, ()), ()) :=
  toList_ok (M := M1) (f := fun e => some ((e, ()), ())) (z := (0 : Int)) (d := (0 : Int)) (s := 1) k x (by have hM' : M1 = 1048576 := rfl; omega) hk (by decide) (by decide) (by decide) (fun e _ => rfl)
theorem toInt_ok (k : Nat) (hk : M1 < k) (x : List Int) (hx : x.length ≤ 1048576) : laws_toIntS k x = some ((x, ()), ()) :=
  toList_ok (M := M1) (f := fun e => some ((e, ()), ())) (z := (0 : Int)) (d := (0 : Int)) (s := 8) k x (by have hM' : M1 = 1048576 := rfl; omega) hk (by decide) (by decide) (by decide) (fun e _ => rfl)
theorem toOut_ok (k : Nat) (hk : M1 < k) (e : D_Out) (he : BOut e) : laws_toOut k e = some ((e, ()), ()) := by
  unfold laws_toOut
  rw [toByte_ok k hk _ he.1, Option.bind_some, toInt_ok k hk _ he.2]; rfl
theorem toOutS_ok (k : Nat) (hk : M1 < k) (x : List D_Out) (hx : (x.length : Int) ≤ M1) (hB : ∀ e ∈ x, BOut e) : laws_toOutS k x = some ((x, ()), ()) :=
  toList_ok (f := laws_toOut k) (z := z_Out) (s := 72) k x hx hk (by decide) (by decide) (by decide) (fun e h => toOut_ok k hk e (hB e h))
theorem eqByte_ok (k : Nat) (hk : M1 < k) (x : List Int) (hx : x.length ≤ 1048576) : laws_eqByteS k x x = some ((true, ()), ()) :=
  eqList_ok (M := M1) (f := fun a b => some ((decide (a = b), ()), ())) (z := (0 : Int)) k x (by have hM' : M1 = 1048576 := rfl; omega) hk (by decide) (fun e _ => by simp)
theorem eqInt_ok (k : Nat) (hk : M1 < k) (x : List Int) (hx : x.length ≤ 1048576) : laws_eqIntS k x x = some ((true, ()), ()) :=
  eqList_ok (M := M1) (f := fun a b => some ((decide (a = b), ()), ())) (z := (0 : Int)) k x (by have hM' : M1 = 1048576 := rfl; omega) hk (by decide) (fun e _ => by simp)
theorem eqOut_ok (k : Nat) (hk : M1 < k) (e : D_Out) (he : BOut e) : laws_eqOut k e e = some ((true, ()), ()) := by
  unfold laws_eqOut
  rw [eqByte_ok k hk _ he.1, eqInt_ok k hk _ he.2]; simp
theorem eqOutS_ok (k : Nat) (hk : M1 < k) (x : List D_Out) (hx : (x.length : Int) ≤ M1) (hB : ∀ e ∈ x, BOut e) : laws_eqOutS k x x = some ((true, ()), ()) :=
  eqList_ok (f := laws_eqOut k) (z := z_Out) k x hx hk (by decide) (fun e h => eqOut_ok k hk e (hB e h))
theorem markOut_ok (k : Nat) (hk : M1 < k) (x : List D_Out) (hx : (x.length : Int) ≤ M1) (hB : ∀ e ∈ x, BOut e) : ∃ c y, laws_markOutS k x 1 = some ((c, ()), (y, ())) ∧ 0 ≤ c := by
  have hM' : M1 = 1048576 := rfl
  unfold laws_markOutS
  obtain ⟨y, c, this, h0⟩ := markOut_run k hk x.length (by omega) x.length 0 k x 1 (by omega) (by omega) rfl (fun j _ h => hB _ (getD_mem x z_Out j h)) (by omega) (by omega)
  exact ⟨c, y, by rw [show iter (laws_markOutS_s2 k) k ((x, ()), (), (1 : Int), (0 : Int), ()) = _ from this]; rfl, h0⟩
theorem wf_out {x : List D_Out} (h : WF (.sl T_Out) x) : x.length ≤ 9223372036854775807 ∧ ∀ e ∈ x, WOut e :=
  ⟨h.1, fun e he => ⟨(h.2 e he).2.2.2.1.1, (h.2 e he).2.2.2.2.1.1⟩⟩
theorem law_FnExactTally (x : List D_Out) (h : WF (.sl T_Out) x) : ∃ k y, laws_FnExactTally k x = some ((true, ()), y) := by
  have hM' : M1 = 1048576 := rfl
  have hk : M1 < (1048577 : Nat) := by decide
  refine ⟨1048577, (), ?_⟩
  revert hk
  generalize (1048577 : Nat) = k
  intro hk
  obtain ⟨n, h1, _, _, h4⟩ := szOutS_ok k hk x M1 (wf_out h) (by decide) (by decide)
  unfold laws_FnExactTally
  rw [h1, Option.bind_some]
  by_cases hn : n < 0
  · rw [bif_t (by simpa using hn)]
  · rw [bif_f (by simpa using hn)]
    obtain ⟨h5, h6⟩ := h4 (by omega)
    obtain ⟨c, y, h7, h8⟩ := markOut_ok k hk x h5 h6
    have hl := tallyOf_len x
    have h9 := markInt_ok k hk (tallyOf x) (by omega) 1 (by omega)
    have h10 := heldInt_ok k hk (tallyOf x).length (by omega) 1 (by omega)
    simp only [toOutS_ok k hk x h5 h6, spec_Tally_eq k hk x h5, impl_Tally_eq k hk x h5, eqOutS_ok k hk x h5 h6, eqInt_ok k hk (tallyOf x) (by omega), h7, h9, h10, Option.bind_some]
    have h11 : ¬ c < 0 := by omega
    have h12 : ¬ (1 + ((tallyOf x).length : Int)) < 0 := by omega
    simp [h11, h12]
end Go.Tw
