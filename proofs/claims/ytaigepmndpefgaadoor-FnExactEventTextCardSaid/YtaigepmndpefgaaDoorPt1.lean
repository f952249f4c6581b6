/- Plain facts on the mirrors of the functions are proved here. -/
import Derived.Test.YtaigepmndpefgaaDoorPt0
import Derived.Test.YtaigepmndpefgaaDoorPw0
set_option linter.all false
namespace Go.Tw
open Go Go.RowKit

def hiI (b : Int) : Int := Int.fdiv b (2 ^ min (Int.toNat (4 : Int)) (IntKind.bits .u8))
def loI (b : Int) : Int := IntKind.wrap .u8 (BitVec.ofInt (IntKind.bits .u8) b &&& BitVec.ofInt (IntKind.bits .u8) (15 : Int)).toNat
def hexB (j : Int) : Int := (((⟨#[48, 49, 50, 51, 52, 53, 54, 55, 56, 57, 97, 98, 99, 100, 101, 102]⟩ : ByteArray).data.toList.getD (Int.toNat j) 0).toNat : Nat)
def digV (x : Int) : Int := bif decide (x < 10) then IntKind.wrap .u8 (IntKind.wrap .i64 (48 + x)) else IntKind.wrap .u8 (IntKind.wrap .i64 (87 + x))
theorem digV_eq (x : Int) : spec_l01Digit x = some ((digV x, ()), ()) := by
  unfold spec_l01Digit digV
  cases decide (x < 10) <;> rfl
theorem hex_all : ∀ n : Fin 256, (0 ≤ hiI (n.val : Int) ∧ hiI (n.val : Int) < 16) ∧ (0 ≤ loI (n.val : Int) ∧ loI (n.val : Int) < 16) ∧
    digV (IntKind.wrap .i64 (Int.tdiv (IntKind.wrap .i64 (n.val : Int)) 16)) = hexB (hiI (n.val : Int)) ∧ digV (Int.tmod (IntKind.wrap .i64 (n.val : Int)) 16) = hexB (loI (n.val : Int)) := by decide +kernel
theorem hex_byte {b : Int} (h : 0 ≤ b ∧ b ≤ 255) : (0 ≤ hiI b ∧ hiI b < 16) ∧ (0 ≤ loI b ∧ loI b < 16) ∧ digV (IntKind.wrap .i64 (Int.tdiv (IntKind.wrap .i64 b) 16)) = hexB (hiI b) ∧ digV (Int.tmod (IntKind.wrap .i64 b) 16) = hexB (loI b) := by
  have := hex_all ⟨b.toNat, by omega⟩
  simp only [Int.toNat_of_nonneg h.1] at this
  exact this

def hexL (l : List Int) : List Int := l.flatMap fun b => [hexB (hiI b), hexB (loI b)]
abbrev bytesP (l : List Int) : Prop := ∀ b ∈ l, 0 ≤ b ∧ b ≤ 255
theorem hexSpec_eq (k : Nat) (hk : MM < k) (l : List Int) (hb : bytesP l) : spec_HexText k l = some ((bif decide ((4000 : Int) < ((l.length : Nat) : Int)) then ⟨#[]⟩ else strOf (hexL l), ()), ()) := by
  have hM : MM = 1048576 := rfl
  unfold spec_HexText
  by_cases h : (4000 : Int) < ((l.length : Nat) : Int)
  · simp only [decide_eq_true h, cond_true]
  · simp only [decide_eq_false h, cond_false]
    have run := thru_run0 (step := spec_HexText_s5) (x := l) (0 : Int) (st := fun j a => ((), l, a, (j : Int), ())) (g := fun _ b a => a ++ [hexB (hiI b), hexB (loI b)]) (fin := fun a => ((), a, ())) (fun j a => a.length = 2 * j)
      (fun j a hj hI rec => by
        have hbb := hb _ (getD_mem l (0 : Int) j hj)
        obtain ⟨_, _, e1, e2⟩ := hex_byte hbb
        have hwi : IntKind.wrap .i64 ((j : Int) + 1) = ((j + 1 : Nat) : Int) := w64 (by omega)
        unfold spec_HexText_s5
        obtain ⟨b, hb1⟩ : ∃ b, b = l.getD (j : Int).toNat (0 : Int) := ⟨_, rfl⟩
        have hb2 : b = l.getD j (0 : Int) := hb1
        rw [← hb2] at e1 e2
        have c1 : (decide ((0 : Int) ≤ (j : Int)) && decide ((j : Int) < ((l.length : Nat) : Int))) = true := by simp; omega
        have c2 : decide ((j : Int).toNat < l.length) = true := decide_eq_true (by omega)
        have c3 : decide ((a.length + 2) * 1 ≤ 1099511627776) = true := decide_eq_true (by omega)
        refine (bif_t (by simp; omega)).trans ?_
        simp only [← hb1, ← hb2, c1, c2, c3, cond_true, digV_eq, Option.bind_some, e1, e2, hwi])
      (fun j a hj hI => by simp [hI]; omega) (fun a _ rec => by
        unfold spec_HexText_s5
        exact bif_f (by simp)) (k := k) (by omega) (a := []) rfl
    refine (congrArg (fun o => Option.bind o _) run).trans ?_
    rw [thru_flat]
    rfl
theorem hexImpl_eq (k : Nat) (hk : MM < k) (l : List Int) (hb : bytesP l) : impl_HexText k l = some ((bif decide ((4000 : Int) < ((l.length : Nat) : Int)) then ⟨#[]⟩ else strOf (hexL l), ()), ()) := by
  have hM : MM = 1048576 := rfl
  unfold impl_HexText
  by_cases h : (4000 : Int) < ((l.length : Nat) : Int)
  · simp only [decide_eq_true h, cond_true]
  · simp only [decide_eq_false h, cond_false]
    have run := thru_run0 (step := impl_HexText_s5) (x := l) (0 : Int) (st := fun j a => ((), a, l, ((l.length : Nat) : Int), (j : Int), ())) (g := fun _ b a => a ++ [hexB (hiI b), hexB (loI b)]) (fin := fun a => ((), a, ())) (fun j a => a.length = 2 * j)
      (fun j a hj hI rec => by
        have hbb := hb _ (getD_mem l (0 : Int) j hj)
        obtain ⟨h1, h2, _, _⟩ := hex_byte hbb
        have hwi : IntKind.wrap .i64 ((j : Int) + 1) = ((j + 1 : Nat) : Int) := w64 (by omega)
        unfold impl_HexText_s5
        obtain ⟨b, hb1⟩ : ∃ b, b = l.getD (j : Int).toNat (0 : Int) := ⟨_, rfl⟩
        have hb2 : b = l.getD j (0 : Int) := hb1
        rw [← hb2] at h1 h2
        have c3 : decide ((a.length + 2) * 1 ≤ 1099511627776) = true := decide_eq_true (by omega)
        have c4 : (decide ((0 : Int) ≤ hiI b) && decide (hiI b < 16)) = true := by simp [h1]
        have c5 : (decide ((0 : Int) ≤ loI b) && decide (loI b < 16)) = true := by simp [h2]
        refine (bif_t (by simp; omega)).trans ?_
        refine (bif_t (by simp; omega)).trans ?_
        refine (bif_t (by simp; omega)).trans ?_
        simp only [← hb1, ← hb2, hwi]
        refine (bif_t (show _ = true from c4)).trans ?_
        refine (bif_t (show _ = true from c5)).trans ?_
        refine (bif_t c3).trans ?_
        rfl)
      (fun j a hj hI => by simp [hI]; omega) (fun a _ rec => by
        unfold impl_HexText_s5
        exact bif_f (by simp)) (k := k) (by omega) (a := []) rfl
    refine (congrArg (fun o => Option.bind o _) run).trans ?_
    rw [thru_flat]
    rfl
end Go.Tw
