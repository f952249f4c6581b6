/- Plain facts on the mirrors of the functions are proved here. -/
import Derived.Test.YtaigepmndpefgaaDoorPt3
import Derived.Lib.Join
set_option linter.all false
namespace Go.Tw
open Go Go.RowKit

/-! Texts that are joined. -/
theorem ba_ext {a b : ByteArray} (h : a.data.toList = b.data.toList) : a = b := by
  cases a; cases b
  simpa using h
theorem ba_app (a b : ByteArray) : (a ++ b).data.toList = a.data.toList ++ b.data.toList := by simp
theorem ba_lit (l : List UInt8) : (⟨l.toArray⟩ : ByteArray).data.toList = l := by simp
theorem ba_size (a : ByteArray) : a.size = a.data.toList.length := by simp only [ByteArray.size, Array.length_toList]
def joinT (l : List ByteArray) (s : ByteArray) : ByteArray := ⟨(Lib.join (l.map (·.data.toList)) s.data.toList).toArray⟩
theorem joinT_list (l : List ByteArray) (s : ByteArray) : (joinT l s).data.toList = Lib.join (l.map (·.data.toList)) s.data.toList := by simp [joinT]
theorem joinTail_len (s : List UInt8) (B : Nat) (hs : s.length ≤ B) : ∀ r : List (List UInt8), (∀ w ∈ r, w.length ≤ B) → (Lib.joinTail s r).length ≤ 2 * B * r.length
  | [], _ => by simp [Lib.joinTail]
  | w :: r, h => by
    have := joinTail_len s B hs r (fun x hx => h x (by simp [hx]))
    have := h w (by simp)
    simp only [Lib.joinTail, List.map_cons, List.flatten_cons, List.length_append, List.length_cons, Nat.mul_add, Nat.mul_one] at this ⊢
    simp only [Lib.joinTail] at *
    omega
theorem joinT_size (l : List ByteArray) (s : ByteArray) (B : Nat) (hs : s.size ≤ B) (h : ∀ w ∈ l, w.size ≤ B) : (joinT l s).size ≤ 2 * B * l.length := by
  rw [ba_size, joinT_list]
  cases l with
  | nil => simp [Lib.join_nil]
  | cons w r =>
    rw [List.map_cons, Lib.join_cons, List.length_append]
    have h1 := joinTail_len s.data.toList B (by rw [← ba_size]; exact hs) (r.map (·.data.toList)) (fun x hx => by
      obtain ⟨y, hy, rfl⟩ := List.mem_map.1 hx
      rw [← ba_size]; exact h y (by simp [hy]))
    have h2 := h w (by simp)
    rw [ba_size] at h2
    simp only [List.length_map, List.length_cons, Nat.mul_add, Nat.mul_one] at h1 ⊢
    omega
theorem joinC_eq (l : List ByteArray) (s : ByteArray) (B : Nat) (hs : s.size ≤ B) (h : ∀ w ∈ l, w.size ≤ B) (hB : 2 * B * l.length ≤ 1000000000) (hl : l.length ≤ 1000000000) : joinC l s = some ((joinT l s, ()), ()) := by
  have h1 := joinT_size l s B hs h
  rw [ba_size, joinT_list] at h1
  unfold joinC joinM
  exact bif_t (Bool.and_eq_true_iff.2 ⟨decide_eq_true (Nat.le_trans hl (by decide)), decide_eq_true (Nat.le_trans h1 (Nat.le_trans hB (by decide)))⟩)

/-- a list's text -/
def listT (l : List Int) : ByteArray := bif decide (((l.length : Nat) : Int) = 0) then ⟨#[45]⟩ else joinT (l.map numT) ⟨#[44]⟩
theorem numT_le {l : List Int} (h : WF (.sl (.int .i64)) l) : ∀ w ∈ l.map numT, w.size ≤ 21 := by
  intro w hw
  obtain ⟨n, hn, rfl⟩ := List.mem_map.1 hw
  exact numT_size (h.2 n hn)
theorem listT_size {l : List Int} (h : WF (.sl (.int .i64)) l) (hn : l.length ≤ 2000) : (listT l).size ≤ 90000 := by
  unfold listT
  by_cases h0 : ((l.length : Nat) : Int) = 0
  · rw [bif_t (decide_eq_true h0)]; decide
  · rw [bif_f (decide_eq_false h0)]
    have := joinT_size (l.map numT) ⟨#[44]⟩ 21 (by decide) (numT_le h)
    rw [List.length_map] at this
    omega
theorem listI (k : Nat) (hk : MM < k) (l : List Int) (hl : WF (.sl (.int .i64)) l) (hn : l.length ≤ 2000) : impl_listText k l = some ((listT l, ()), ()) := by
  have hM : MM = 1048576 := rfl
  have run := thru_run0 (step := impl_listText_s3) (x := l) (0 : Int) (st := fun j (a : List ByteArray) => ((), a, l, ((l.length : Nat) : Int), (j : Int), ())) (g := fun _ n a => a ++ [numT n]) (fin := fun a => ((), a, ())) (fun j a => a.length = j)
    (fun j a hj hI rec => by
      have hb := inR_mem hl hj
      have hwi : IntKind.wrap .i64 ((j : Int) + 1) = ((j + 1 : Nat) : Int) := w64 (by omega)
      unfold impl_listText_s3
      refine (bif_t (by simp; omega)).trans ?_
      refine (bif_t (by simp; omega)).trans ?_
      refine (bif_t (by simp; omega)).trans ?_
      simp only [Int.toNat_natCast, numI_eq hb, Option.bind_some]
      refine (bif_t (le40 (by omega))).trans ?_
      rw [hwi])
    (fun j a hj hI => by simp [hI]) (fun a _ rec => by
      unfold impl_listText_s3
      exact bif_f (by simp)) (k := k) (by omega) (a := []) rfl
  rw [thru_all, List.nil_append] at run
  unfold impl_listText listT
  refine (congrArg (fun o => Option.bind o _) run).trans ?_
  simp only [Option.bind_some, List.length_map]
  by_cases h0 : ((l.length : Nat) : Int) = 0
  · rw [bif_t (decide_eq_true h0), bif_t (decide_eq_true h0)]
  · rw [bif_f (decide_eq_false h0), bif_f (decide_eq_false h0)]
    have h1 : l.length * 42 ≤ 1000000000 := by omega
    rw [joinC_eq (l.map numT) ⟨#[44]⟩ 21 (by decide) (numT_le hl) (by rw [List.length_map]; omega) (by rw [List.length_map]; omega)]
    rfl
theorem thru_cat (f : Int → ByteArray) : ∀ (r : List Int) (i : Nat) (s : ByteArray), (thru (fun _ n a => (a ++ (⟨#[44]⟩ : ByteArray)) ++ f n) r i s).data.toList = s.data.toList ++ Lib.joinTail [44] ((r.map f).map (·.data.toList))
  | [], i, s => by simp [thru, Lib.joinTail]
  | n :: r, i, s => by
    simp only [thru]
    rw [thru_cat f r]
    simp only [ba_app, ba_lit, Lib.joinTail, List.map_cons, List.flatten_cons, List.append_assoc]
theorem listS (k : Nat) (hk : MM < k) (l : List Int) (hl : WF (.sl (.int .i64)) l) (hn : l.length ≤ 2000) : spec_l25List k l = some ((listT l, ()), ()) := by
  have hM : MM = 1048576 := rfl
  unfold spec_l25List listT
  cases l with
  | nil => rfl
  | cons n r =>
    have h0 : ¬ (((n :: r).length : Nat) : Int) = 0 := by simp only [List.length_cons]; omega
    have hb : inR .i64 n := hl.2 n List.mem_cons_self
    have hz := numT_size hb
    have hlen : (n :: r).length = r.length + 1 := rfl
    rw [bif_f (decide_eq_false h0), bif_f (decide_eq_false h0)]
    refine (bif_t (decide_eq_true (by rw [hlen]; omega))).trans ?_
    refine (bif_t (decide_eq_true (by rw [hlen]; omega))).trans ?_
    rw [show (n :: r).getD 0 (0 : Int) = n from rfl]
    simp only [numS_eq k hk hb, Option.bind_some]
    have run := thru_run0 (step := spec_l25List_s5 k) (x := r) (0 : Int) (st := fun j (a : ByteArray) => ((), n :: r, a, ((j + 1 : Nat) : Int), ())) (g := fun _ n a => (a ++ (⟨#[44]⟩ : ByteArray)) ++ numT n) (fin := fun a => ((), a, ())) (fun j a => a.size ≤ 1000 + 22 * j)
      (fun j a hj hI rec => by
        have hb := inR_mem hl (j := j + 1) (by rw [hlen]; omega)
        have hz := numT_size hb
        have hwi : IntKind.wrap .i64 (((j + 1 : Nat) : Int) + 1) = ((j + 1 + 1 : Nat) : Int) := w64 (by omega)
        unfold spec_l25List_s5
        refine (bif_t (decide_eq_true (show ((j + 1 : Nat) : Int) < (((n :: r).length : Nat) : Int) by rw [hlen]; omega))).trans ?_
        refine (bif_t (le40 (by simp only [sz_lit, List.length_cons, List.length_nil]; omega))).trans ?_
        refine (bif_t (by rw [hlen]; simp; omega)).trans ?_
        refine (bif_t (by rw [hlen]; simp; omega)).trans ?_
        simp only [Int.toNat_natCast, numS_eq k hk hb, Option.bind_some]
        refine (bif_t (le40 (by simp only [ByteArray.size_append, sz_lit, List.length_cons, List.length_nil]; omega))).trans ?_
        rw [hwi]
        rfl)
      (fun j a hj hI => by
        have hb := numT_size (inR_mem hl (j := j + 1) (by rw [hlen]; omega))
        have hb : (numT (r.getD j 0)).size ≤ 21 := hb
        simp only [ByteArray.size_append, sz_lit, List.length_cons, List.length_nil]; omega) (fun a _ rec => by
        unfold spec_l25List_s5
        exact bif_f (decide_eq_false (show ¬ ((r.length + 1 : Nat) : Int) < (((n :: r).length : Nat) : Int) by rw [hlen]; omega))) (k := k) (by omega) (a := numT n) (by omega)
    refine (congrArg (fun o => Option.bind o _) run).trans ?_
    simp only [Option.bind_some]
    congr 3
    apply ba_ext
    rw [thru_cat, joinT_list, List.map_cons, List.map_cons, Lib.join_cons]
end Go.Tw
