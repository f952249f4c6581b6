/- Plain facts on the mirrors of the functions are proved here. -/
import Derived.Test.YtaigepmndpefgaaDoorPf1
import Derived.Test.YtaigepmndpefgaaDoorPt1
import Derived.Lib.ItoaLen
set_option linter.all false
namespace Go.Tw
open Go Go.RowKit

/-! Texts. -/
theorem le40 {n : Nat} (h : n ≤ 1000000000000) : decide (n ≤ 1099511627776) = true := decide_eq_true (by omega)
def numT (n : Int) : ByteArray := ⟨(Lib.itoa n).toArray⟩
theorem numT_size {n : Int} (h : inR .i64 n) : (numT n).size ≤ 21 := by
  have h : -9223372036854775808 ≤ n ∧ n ≤ 9223372036854775807 := h
  have := Lib.itoa_length_le n h.1 h.2
  simpa [numT, ByteArray.size] using this
theorem numI_eq {n : Int} (h : inR .i64 n) : impl_NumText n = some ((numT n, ()), ()) := by
  have h : -9223372036854775808 ≤ n ∧ n ≤ 9223372036854775807 := h
  unfold impl_NumText itoaC itoaM
  rw [bif_t (by simp [h.1, h.2])]
  rfl
theorem numS_eq (k : Nat) (hk : MM < k) {n : Int} (h : inR .i64 n) : spec_NumText k n = some ((numT n, ()), ()) := numSpec_eq k hk n h
def hexT (l : List Int) : ByteArray := bif decide ((4000 : Int) < ((l.length : Nat) : Int)) then ⟨#[]⟩ else strOf (hexL l)
theorem hexL_len : ∀ l : List Int, (hexL l).length = 2 * l.length
  | [] => rfl
  | b :: l => by
    have := hexL_len l
    simp only [hexL, List.flatMap_cons, List.length_append, List.length_cons, List.length_nil] at this ⊢
    omega
theorem hexT_size (l : List Int) : (hexT l).size ≤ 8000 := by
  unfold hexT
  by_cases h : (4000 : Int) < ((l.length : Nat) : Int)
  · rw [bif_t (decide_eq_true h)]; decide
  · rw [bif_f (decide_eq_false h), strOf_eq]
    simp [ByteArray.size, hexL_len]
    omega
theorem sz_lit (l : List UInt8) : ByteArray.size ⟨l.toArray⟩ = l.length := by simp [ByteArray.size]
theorem inR_mem {l : List Int} (h : WF (.sl (.int .i64)) l) {j : Nat} (hj : j < l.length) : inR .i64 (l.getD j 0) := h.2 _ (getD_mem l (0 : Int) j hj)

/-- the numbers after each other -/
def toldT (l : List Int) (s : ByteArray) : ByteArray := thru (fun _ n a => (a ++ (⟨#[32]⟩ : ByteArray)) ++ numT n) l 0 s
theorem toldI (k : Nat) (hk : MM < k) (l : List Int) (hl : WF (.sl (.int .i64)) l) (hn : l.length ≤ 100) (s : ByteArray) (hs : s.size ≤ 1000) :
    iter impl_OutText_s13 k ((), s, l, ((l.length : Nat) : Int), (0 : Int), ()) = some ((), toldT l s, ()) := by
  have hM : MM = 1048576 := rfl
  have run := thru_run0 (step := impl_OutText_s13) (x := l) (0 : Int) (st := fun j a => ((), a, l, ((l.length : Nat) : Int), (j : Int), ())) (g := fun _ n a => (a ++ (⟨#[32]⟩ : ByteArray)) ++ numT n) (fin := fun a => ((), a, ())) (fun j a => a.size ≤ 1000 + 22 * j)
    (fun j a hj hI rec => by
      have hb := inR_mem hl hj
      have hz := numT_size hb
      have hwi : IntKind.wrap .i64 ((j : Int) + 1) = ((j + 1 : Nat) : Int) := w64 (by omega)
      unfold impl_OutText_s13
      refine (bif_t (by simp; omega)).trans ?_
      refine (bif_t (by simp; omega)).trans ?_
      refine (bif_t (by simp; omega)).trans ?_
      simp only [Int.toNat_natCast, numI_eq hb, Option.bind_some]
      refine (bif_t (le40 (by simp only [sz_lit, List.length_cons, List.length_nil]; omega))).trans ?_
      refine (bif_t (le40 (by simp only [ByteArray.size_append, sz_lit, List.length_cons, List.length_nil]; omega))).trans ?_
      rw [hwi, ByteArray.append_assoc])
    (fun j a hj hI => by
      have hb := numT_size (inR_mem hl hj)
      simp only [ByteArray.size_append, sz_lit, List.length_cons, List.length_nil]; omega) (fun a _ rec => by
      unfold impl_OutText_s13
      exact bif_f (by simp)) (k := k) (by omega) (a := s) (by omega)
  exact run
theorem toldS (k : Nat) (hk : MM < k) (o : D_Out) (hl : WF (.sl (.int .i64)) o.2.2.2.2.1) (hn : o.2.2.2.2.1.length ≤ 100) (s : ByteArray) (hs : s.size ≤ 1000) :
    iter (spec_OutText_s13 k) k ((), o, s, (0 : Int), ()) = some ((), toldT o.2.2.2.2.1 s, ()) := by
  have hM : MM = 1048576 := rfl
  have run := thru_run0 (step := spec_OutText_s13 k) (x := o.2.2.2.2.1) (0 : Int) (st := fun j a => ((), o, a, (j : Int), ())) (g := fun _ n a => (a ++ (⟨#[32]⟩ : ByteArray)) ++ numT n) (fin := fun a => ((), a, ())) (fun j a => a.size ≤ 1000 + 22 * j)
    (fun j a hj hI rec => by
      have hb := inR_mem hl hj
      have hz := numT_size hb
      have hwi : IntKind.wrap .i64 ((j : Int) + 1) = ((j + 1 : Nat) : Int) := w64 (by omega)
      unfold spec_OutText_s13
      refine (bif_t (by simp; omega)).trans ?_
      refine (bif_t (le40 (by simp only [sz_lit, List.length_cons, List.length_nil]; omega))).trans ?_
      refine (bif_t (by simp; omega)).trans ?_
      refine (bif_t (by simp; omega)).trans ?_
      simp only [Int.toNat_natCast, numS_eq k hk hb, Option.bind_some]
      refine (bif_t (le40 (by simp only [ByteArray.size_append, sz_lit, List.length_cons, List.length_nil]; omega))).trans ?_
      rw [hwi])
    (fun j a hj hI => by
      have hb := numT_size (inR_mem hl hj)
      simp only [ByteArray.size_append, sz_lit, List.length_cons, List.length_nil]; omega) (fun a _ rec => by
      unfold spec_OutText_s13
      exact bif_f (by simp)) (k := k) (by omega) (a := s) (by omega)
  exact run
end Go.Tw
