/- Facts on mirrors. -/
import Derived.Test.YtmnfadocihfiaaaGreatPs2
import Derived.Test.YtmnfadocihfiaaaGreatPp6
set_option linter.all false
set_option maxRecDepth 100000
set_option maxHeartbeats 4000000
namespace Go.Tw
open Go Go.RowKit
def hdBc (c : Int) (f : D_Four) : List Int :=
  (((((((([(69 + (((fO f).length : Nat) : Int) / 4) % 256, (4 * f.1 + f.2.1) % 256] : List Int) ++ putB (20 + (((fO f).length : Nat) : Int) + (((fB f).length : Nat) : Int)) 2) ++ putB f.2.2.1 2) ++ putB (8192 * f.2.2.2.1 + f.2.2.2.2.1) 2) ++ [f.2.2.2.2.2.1 % 256, f.2.2.2.2.2.2.1 % 256]) ++ putB c 2) ++ addrBy f.2.2.2.2.2.2.2.1) ++ addrBy f.2.2.2.2.2.2.2.2.1) ++ fO f
theorem hdcI (k : Nat) (hk : MM < k) (c : Int) (f : D_Four) (hf : fourB f = true) : impl_Four_head k f c = some ((hdBc c f, ()), ()) := by
  obtain ⟨h1, h2, h3, h4, h5, h6, h7, h8, h9⟩ := four_rng hf
  have h8' : f.2.2.2.2.2.2.2.2.2.1.length ≤ 40 := h8
  have h9' : f.2.2.2.2.2.2.2.2.2.2.1.length ≤ 1500 := h9
  unfold impl_Four_head impl_fourHead
  simp only [Option.bind_some, sizeI f (by omega) (by omega), put16I k hk, addrByI k hk]
  have a1 := addrBy_le f.2.2.2.2.2.2.2.1
  have a2 := addrBy_le f.2.2.2.2.2.2.2.2.1
  rw [catB k hk _ (by simp) (by simp only [List.flatten_cons, List.flatten_nil, List.length_append, List.length_cons, List.length_nil, putB_len]; omega)]
  simp only [Option.bind_some]
  have w1 : IntKind.wrap .i64 (20 + ((f.2.2.2.2.2.2.2.2.2.1.length : Nat) : Int)) = 20 + ((f.2.2.2.2.2.2.2.2.2.1.length : Nat) : Int) := w64 (by omega)
  have w2 : Int.tdiv (20 + ((f.2.2.2.2.2.2.2.2.2.1.length : Nat) : Int)) 4 = 5 + ((f.2.2.2.2.2.2.2.2.2.1.length : Nat) : Int) / 4 := by rw [Int.tdiv_eq_ediv_of_nonneg (by omega)]; omega
  have w3 : IntKind.wrap .i64 (5 + ((f.2.2.2.2.2.2.2.2.2.1.length : Nat) : Int) / 4) = 5 + ((f.2.2.2.2.2.2.2.2.2.1.length : Nat) : Int) / 4 := w64 (by omega)
  have w4 : IntKind.wrap .i64 (64 + (5 + ((f.2.2.2.2.2.2.2.2.2.1.length : Nat) : Int) / 4)) = 69 + ((f.2.2.2.2.2.2.2.2.2.1.length : Nat) : Int) / 4 := by rw [w64 (by omega)]; omega
  have w5 : IntKind.wrap .i64 (IntKind.wrap .i64 (4 * f.1) + f.2.1) = 4 * f.1 + f.2.1 := by rw [w64 (n := 4 * f.1) (by omega), w64 (by omega)]
  have w6 : IntKind.wrap .i64 (IntKind.wrap .i64 (8192 * f.2.2.2.1) + f.2.2.2.2.1) = 8192 * f.2.2.2.1 + f.2.2.2.2.1 := by rw [w64 (n := 8192 * f.2.2.2.1) (by omega), w64 (by omega)]
  rw [w1, w2, w3, w4, w5, w6, wu8, wu8, wu8, wu8]
  unfold hdBc
  simp only [List.flatten_cons, List.flatten_nil, List.append_nil, List.append_assoc]
theorem hdcS (c : Int) (f : D_Four) (hf : fourB f = true) : spec_l05Head f c = some ((hdBc c f, ()), ()) := by
  obtain ⟨h1, h2, h3, h4, h5, h6, h7, h8, h9⟩ := four_rng hf
  have h8' : f.2.2.2.2.2.2.2.2.2.1.length ≤ 40 := h8
  have h9' : f.2.2.2.2.2.2.2.2.2.2.1.length ≤ 1500 := h9
  have a1 := addrBy_le f.2.2.2.2.2.2.2.1
  have a2 := addrBy_le f.2.2.2.2.2.2.2.2.1
  unfold spec_l05Head
  simp only [Option.bind_some, put16S, addrByS, putB_len, List.length_append, List.length_cons, List.length_nil]
  have w0 : IntKind.wrap .i64 (IntKind.wrap .i64 (20 + ((f.2.2.2.2.2.2.2.2.2.1.length : Nat) : Int)) + ((f.2.2.2.2.2.2.2.2.2.2.1.length : Nat) : Int)) = 20 + ((f.2.2.2.2.2.2.2.2.2.1.length : Nat) : Int) + ((f.2.2.2.2.2.2.2.2.2.2.1.length : Nat) : Int) := by rw [w64 (n := 20 + _) (by omega), w64 (by omega)]
  have w2 : Int.tdiv (((f.2.2.2.2.2.2.2.2.2.1.length : Nat) : Int)) 4 = ((f.2.2.2.2.2.2.2.2.2.1.length : Nat) : Int) / 4 := Int.tdiv_eq_ediv_of_nonneg (by omega)
  have w3 : IntKind.wrap .i64 (((f.2.2.2.2.2.2.2.2.2.1.length : Nat) : Int) / 4) = ((f.2.2.2.2.2.2.2.2.2.1.length : Nat) : Int) / 4 := w64 (by omega)
  have w4 : IntKind.wrap .i64 (69 + (((f.2.2.2.2.2.2.2.2.2.1.length : Nat) : Int) / 4)) = 69 + ((f.2.2.2.2.2.2.2.2.2.1.length : Nat) : Int) / 4 := by rw [w64 (by omega)]
  have w5 : IntKind.wrap .i64 (IntKind.wrap .i64 (4 * f.1) + f.2.1) = 4 * f.1 + f.2.1 := by rw [w64 (n := 4 * f.1) (by omega), w64 (by omega)]
  have w6 : IntKind.wrap .i64 (IntKind.wrap .i64 (8192 * f.2.2.2.1) + f.2.2.2.2.1) = 8192 * f.2.2.2.1 + f.2.2.2.2.1 := by rw [w64 (n := 8192 * f.2.2.2.1) (by omega), w64 (by omega)]
  rw [w0, w2, w3, w4, w5, w6, wu8, wu8, wu8, wu8]
  repeat (refine (bif_t (decide_eq_true (by omega))).trans ?_)
  rfl
theorem hdBc_bytes {c : Int} {f : D_Four} (hf : fourB f = true) (ho : bytesP (fO f)) : bytesP (hdBc c f) := by
  intro b hb
  unfold hdBc at hb
  simp only [List.mem_append, List.mem_cons, List.not_mem_nil, or_false] at hb
  rcases hb with ((((((((h | h) | h) | h) | h) | (h | h)) | h) | h) | h) | h
  · subst h; omega
  · subst h; omega
  · exact putB_bytes _ _ b h
  · exact putB_bytes _ _ b h
  · exact putB_bytes _ _ b h
  · subst h; omega
  · subst h; omega
  · exact putB_bytes _ _ b h
  · exact addrBy_bytes _ b h
  · exact addrBy_bytes _ b h
  · exact ho b h
theorem or_add {a b : Int} (n : Nat) (hn : n ≤ 40) (ha : 0 ≤ a ∧ a < 1048576) (hb : 0 ≤ b ∧ b < ((2 ^ n : Nat) : Int)) :
    (BitVec.ofInt (IntKind.bits .i64) (a * ((2 ^ n : Nat) : Int)) ||| BitVec.ofInt (IntKind.bits .i64) b).toNat = (a * ((2 ^ n : Nat) : Int) + b).toNat := by
  obtain ⟨x, rfl⟩ := Int.eq_ofNat_of_zero_le ha.1
  obtain ⟨y, rfl⟩ := Int.eq_ofNat_of_zero_le hb.1
  have h2 : 2 ^ n ≤ 2 ^ 40 := Nat.pow_le_pow_right (by omega) hn
  have h20 : x * 2 ^ n ≤ 1048576 * 2 ^ 40 := Nat.mul_le_mul (by omega) h2
  have hc : ((2 : Nat) ^ 40) = 1099511627776 := rfl
  rw [hc] at h20 h2
  rw [BitVec.toNat_or]
  have e1 : (BitVec.ofInt (IntKind.bits .i64) ((x : Int) * ((2 ^ n : Nat) : Int))).toNat = x * 2 ^ n := by
    rw [show ((x : Int) * ((2 ^ n : Nat) : Int)) = ((x * 2 ^ n : Nat) : Int) by rw [Int.natCast_mul], BitVec.ofInt_natCast, BitVec.toNat_ofNat]
    exact Nat.mod_eq_of_lt (by show x * 2 ^ n < 2 ^ 64; omega)
  have e2 : (BitVec.ofInt (IntKind.bits .i64) (y : Int)).toNat = y := by
    rw [BitVec.ofInt_natCast, BitVec.toNat_ofNat]
    exact Nat.mod_eq_of_lt (by show y < 2 ^ 64; omega)
  rw [e1, e2]
  have := Nat.shiftLeft_add_eq_or_of_lt (i := n) (b := y) (by omega) x
  rw [Nat.shiftLeft_eq] at this
  rw [← this, ← Int.natCast_mul, ← Int.natCast_add, Int.toNat_natCast]
def fBy (f : D_Four) : List Int := bif fourB f then hdBc (hsum f) f ++ fB f else []
theorem fByI (k : Nat) (hk : MM < k) (f : D_Four) (h1 : (fO f).length ≤ 1100000) (h2 : (fB f).length ≤ 1100000) (ho : bytesP (fO f)) : impl_FourBytes k f = some ((fBy f, ()), ()) := by
  unfold impl_FourBytes fBy
  rw [fourI f h1 h2, Option.bind_some, bn]
  cases h : fourB f
  · rfl
  · obtain ⟨_, _, _, _, _, _, _, b1, b2⟩ := four_rng h
    have a1 := addrBy_le f.2.2.2.2.2.2.2.1
    have a2 := addrBy_le f.2.2.2.2.2.2.2.2.1
    have hl : (hdBc (hsum f) f).length ≤ 100 := by
      unfold hdBc; simp only [List.length_append, List.length_cons, List.length_nil, putB_len]; omega
    have c1 := catB k hk [hdBc (hsum f) f, fB f] (by simp) (by simp only [List.flatten_cons, List.flatten_nil, List.length_append, List.length_nil]; omega)
    simp only [List.flatten_cons, List.flatten_nil, List.append_nil] at c1
    simp only [cond_true, hsumI k hk f h1 h2 ho, hdcI k hk _ f h, Option.bind_some, c1]
theorem fByS (k : Nat) (hk : MM < k) (f : D_Four) (h1 : (fO f).length ≤ 1100000) (h2 : (fB f).length ≤ 1100000) (ho : bytesP (fO f)) : spec_FourBytes k f = some ((fBy f, ()), ()) := by
  unfold spec_FourBytes fBy
  rw [fourS f h1 h2, Option.bind_some, bn]
  cases h : fourB f
  · rfl
  · obtain ⟨_, _, _, _, _, _, _, b1, b2⟩ := four_rng h
    have a1 := addrBy_le f.2.2.2.2.2.2.2.1
    have a2 := addrBy_le f.2.2.2.2.2.2.2.2.1
    have hl : (hdBc (hsum f) f).length ≤ 100 := by
      unfold hdBc; simp only [List.length_append, List.length_cons, List.length_nil, putB_len]; omega
    simp only [cond_true, hsumS k hk f h1 h2 ho, hdcS _ f h, Option.bind_some]
    exact bif_t (decide_eq_true (by have : f.2.2.2.2.2.2.2.2.2.2.1.length ≤ 1500 := b2; omega))
abbrev eB (e : D_Ether) : List Int := e.2.2.2.2.1
def hdE (e : D_Ether) : Int := bif decide (0 ≤ e.2.2.1) then 18 else 14
def ethB (e : D_Ether) : Bool := inB e.1 0 281474976710655 && (inB e.2.1 0 281474976710655 && (inB e.2.2.1 (-1) 65535 && (inB e.2.2.2.1 1536 65535 && (!decide (e.2.2.2.1 = 33024) && decide (hdE e + (((eB e).length : Nat) : Int) ≤ 1600)))))
def etherBy (e : D_Ether) : List Int := bif ethB e then putB e.1 6 ++ (putB e.2.1 6 ++ ((bif decide (0 ≤ e.2.2.1) then putB 33024 2 ++ putB e.2.2.1 2 else []) ++ (putB e.2.2.2.1 2 ++ eB e))) else []
theorem ethI (e : D_Ether) (h : (eB e).length ≤ 1100000) : impl_EtherOk e = some ((ethB e, ()), ()) := by
  unfold impl_EtherOk impl_isKind impl_headOf ethB hdE
  have h' : e.2.2.2.2.1.length ≤ 1100000 := h
  have w1 : IntKind.wrap .i64 (18 + ((e.2.2.2.2.1.length : Nat) : Int)) = 18 + ((e.2.2.2.2.1.length : Nat) : Int) := w64 (by omega)
  have w2 : IntKind.wrap .i64 (14 + ((e.2.2.2.2.1.length : Nat) : Int)) = 14 + ((e.2.2.2.2.1.length : Nat) : Int) := w64 (by omega)
  simp only [inI, Option.bind_some, bnn, bn, andS]
  cases inB e.2.2.2.1 1536 65535
  · simp only [cond_false, Option.bind_some, andS, Bool.false_and, Bool.and_false]
  · cases decide (0 ≤ e.2.2.1)
    · simp only [cond_true, cond_false, Option.bind_some, w2, andS, Bool.true_and]
    · simp only [cond_true, cond_false, Option.bind_some, w1, andS, Bool.true_and]
theorem ethS (e : D_Ether) (h : (eB e).length ≤ 1100000) : spec_EtherOk e = some ((ethB e, ()), ()) := by
  unfold spec_EtherOk ethB hdE inB
  have lt : ∀ x c : Int, decide (x < c) = !decide (c ≤ x) := fun x c => gt_not c x
  have q1 : decide (((e.2.2.2.2.1.length : Nat) : Int) ≤ 1582) = decide (18 + ((e.2.2.2.2.1.length : Nat) : Int) ≤ 1600) := decide_eq_decide.2 (by omega)
  have q2 : decide (((e.2.2.2.2.1.length : Nat) : Int) ≤ 1586) = decide (14 + ((e.2.2.2.2.1.length : Nat) : Int) ≤ 1600) := decide_eq_decide.2 (by omega)
  simp only [lt, bnn, bn, andS, nandS, q1, q2]
  cases decide (0 ≤ e.2.2.1)
  · simp only [cond_false, andS]
    refine pk1 ?_
    ac_rfl
  · simp only [cond_true, andS]
    refine pk1 ?_
    ac_rfl
theorem macS {x : Int} (h : 0 ≤ x ∧ x ≤ 281474976710655) : spec_l04Mac x = some ((putB x 6, ()), ()) := by
  unfold spec_l04Mac
  have w1 : Int.tdiv x 4294967296 = x / 4294967296 := Int.tdiv_eq_ediv_of_nonneg h.1
  have w2 : Int.tmod x 4294967296 = x % 4294967296 := Int.tmod_eq_emod_of_nonneg h.1
  have w3 : IntKind.wrap .i64 (x / 4294967296) = x / 4294967296 := w64 (by omega)
  simp only [w1, w2, w3, put16S, put32S, Option.bind_some, putB_len]
  refine (bif_t (by decide)).trans ?_
  refine congrArg (fun l : List Int => some ((l, ()), ())) ?_
  rw [putB2, putB4]
  have p0 : ((256 ^ 0 : Nat) : Int) = 1 := rfl
  have p1 : ((256 ^ 1 : Nat) : Int) = 256 := rfl
  have p2 : ((256 ^ 2 : Nat) : Int) = 65536 := rfl
  have p3 : ((256 ^ 3 : Nat) : Int) = 16777216 := rfl
  have p4 : ((256 ^ 4 : Nat) : Int) = 4294967296 := rfl
  have p5 : ((256 ^ 5 : Nat) : Int) = 1099511627776 := rfl
  simp only [putB, p0, p1, p2, p3, p4, p5, List.cons_append, List.nil_append, List.cons.injEq, and_true]
  refine ⟨?_, trivial, ?_, ?_, ?_, ?_⟩ <;> clear w1 w2 w3 <;> omega
theorem ethB_rng {e : D_Ether} (h : ethB e = true) : (0 ≤ e.1 ∧ e.1 ≤ 281474976710655) ∧ (0 ≤ e.2.1 ∧ e.2.1 ≤ 281474976710655) ∧ (eB e).length ≤ 1600 := by
  unfold ethB hdE at h
  simp only [Bool.and_eq_true, inB_iff, decide_eq_true_eq] at h
  obtain ⟨h1, h2, _, _, _, h3⟩ := h
  refine ⟨h1, h2, ?_⟩
  cases h5 : decide (0 ≤ e.2.2.1) <;> rw [h5] at h3 <;> simp only [cond_true, cond_false] at h3 <;> omega
theorem etherByI (k : Nat) (hk : MM < k) (e : D_Ether) (h : (eB e).length ≤ 1100000) : impl_EtherBytes k e = some ((etherBy e, ()), ()) := by
  unfold impl_EtherBytes etherBy
  rw [ethI e h, Option.bind_some, bn]
  cases he : ethB e
  · rfl
  · obtain ⟨_, _, b1⟩ := ethB_rng he
    have b1' : e.2.2.2.2.1.length ≤ 1600 := b1
    have p6 : ∀ n, impl_put k n 6 = some ((putB n 6, ()), ()) := fun n => put_eq k hk n 6 (by omega)
    have c1 := catB k hk [putB 33024 2, putB e.2.2.1 2] (by simp) (by simp [putB_len])
    have c2 := catB k hk [putB e.1 6, putB e.2.1 6, putB 33024 2 ++ putB e.2.2.1 2, putB e.2.2.2.1 2, eB e] (by simp) (by simp only [List.flatten_cons, List.flatten_nil, List.length_append, List.length_nil, putB_len]; omega)
    have c3 := catB k hk [putB e.1 6, putB e.2.1 6, [], putB e.2.2.2.1 2, eB e] (by simp) (by simp only [List.flatten_cons, List.flatten_nil, List.length_append, List.length_nil, putB_len]; omega)
    simp only [List.flatten_cons, List.flatten_nil, List.append_nil, List.nil_append] at c1 c2 c3
    cases decide (0 ≤ e.2.2.1)
    · simp only [cond_true, cond_false, put16I k hk, p6, c3, Option.bind_some, List.nil_append]
    · simp only [cond_true, put16I k hk, p6, c1, c2, Option.bind_some]
theorem etherByS (e : D_Ether) (h : (eB e).length ≤ 1100000) : spec_EtherBytes e = some ((etherBy e, ()), ()) := by
  unfold spec_EtherBytes etherBy
  rw [ethS e h, Option.bind_some, bn]
  cases he : ethB e
  · rfl
  · obtain ⟨a1, a2, b1⟩ := ethB_rng he
    have b1' : e.2.2.2.2.1.length ≤ 1600 := b1
    simp only [cond_true, macS a1, macS a2, put16S, Option.bind_some, putB_len, List.length_append]
    refine (bif_t (by decide)).trans ?_
    cases decide (0 ≤ e.2.2.1)
    · simp only [cond_false, putB_len, List.length_append]
      repeat (refine (bif_t (decide_eq_true (by omega))).trans ?_)
      simp only [List.append_assoc, List.nil_append]
    · simp only [cond_true, putB_len, List.length_append]
      repeat (refine (bif_t (decide_eq_true (by omega))).trans ?_)
      simp only [List.append_assoc]
end Go.Tw
