/- Facts on mirrors. -/
import Derived.Test.YtmnfadocihfiaaaGreatPq3
set_option linter.all false
set_option maxRecDepth 100000
set_option maxHeartbeats 8000000
namespace Go.Tw
open Go Go.RowKit
theorem ecT_len {sp dp sq ak bt wn ur : Int} {o b : List Int} : (ecT sp dp sq ak bt wn ur o b).length = 20 + o.length + b.length := by
  unfold ecT; simp only [List.length_append, putB_len]; omega
theorem ecU_len {sp dp : Int} {b : List Int} : (ecU sp dp b).length = 8 + b.length := by
  unfold ecU; simp only [List.length_append, putB_len]; omega
theorem ecI_len {ty cd rs : Int} {b : List Int} : (ecI ty cd rs b).length = 8 + b.length := by
  unfold ecI; simp only [List.length_append, List.length_cons, List.length_nil, putB_len]; omega
def usm (p : List Int) (e : List Int) : Int := 65535 - sm (osum p 0) (osum e 0)
theorem or0 {l : List Int} (h : bytesP l) : 0 ≤ osum l 0 ∧ osum l 0 ≤ 65535 := osum_rng l 0 h (by omega)
theorem usm_rng {p e : List Int} (hp : bytesP p) (he : bytesP e) : 0 ≤ usm p e ∧ usm p e ≤ 65535 := by
  have := sm_rng (or0 hp) (or0 he)
  unfold usm; omega
section
variable {sp dp sq ak bt wn ur ty cd rs : Int} {ns : Bool} {o b : List Int} {s d : D_Addr}
theorem sumT (k : Nat) (hk : MM < k) (hs : bothB s d = true) (h1 : 0 ≤ sp ∧ sp ≤ 65535) (h2 : 0 ≤ dp ∧ dp ≤ 65535) (h3 : 0 ≤ sq ∧ sq ≤ 4294967295) (h4 : 0 ≤ ak ∧ ak ≤ 4294967295) (h5 : 0 ≤ bt ∧ bt ≤ 4095) (h6 : 0 ≤ wn ∧ wn ≤ 65535) (h7 : 0 ≤ ur ∧ ur ≤ 65535) (h8 : o.length ≤ 40) (h9 : o.length % 4 = 0) (h10 : 20 + o.length + b.length ≤ 1500) (ho : bytesP o) (hb : bytesP b) :
    impl_UpperSum k (upT sp dp sq ak bt wn ur o b) s d = some ((usm (psd s d 6 (20 + ((o.length : Nat) : Int) + ((b.length : Nat) : Int))) (ecT sp dp sq ak bt wn ur o b), ()), ()) ∧
    spec_UpperSum k (upT sp dp sq ak bt wn ur o b) s d = some ((usm (psd s d 6 (20 + ((o.length : Nat) : Int) + ((b.length : Nat) : Int))) (ecT sp dp sq ak bt wn ur o b), ()), ()) := by
  obtain ⟨z1, z2⟩ := uszT (sp := sp) (dp := dp) (sq := sq) (ak := ak) (bt := bt) (wn := wn) (ur := ur) (o := o) (b := b) (by omega)
  obtain ⟨q1, q2⟩ := okT k hk h1 h2 h3 h4 h5 h6 h7 h8 h9 h10 (pair_kind hs)
  have pb := psd_bytes s d 6 (20 + ((o.length : Nat) : Int) + ((b.length : Nat) : Int))
  have eb := encT_bytes (sp := sp) (dp := dp) (sq := sq) (ak := ak) (bt := bt) (wn := wn) (ur := ur) ho hb
  have el := ecT_len (sp := sp) (dp := dp) (sq := sq) (ak := ak) (bt := bt) (wn := wn) (ur := ur) (o := o) (b := b)
  have k0 : decide ((1 : Int) = 0) = false := rfl
  have k2 : decide ((1 : Int) = 2) = false := rfl
  have k3 : decide ((1 : Int) = 3) = false := rfl
  have g : iI (mget (.int .i64) (.int .i64) ([((1:Int), (6:Int)), ((2:Int), (17:Int)), ((3:Int), (58:Int))] : List (Int × Int)) (1:Int)) = 6 := rfl
  have hur := usm_rng pb eb
  have w : IntKind.wrap .i64 (65535 - sm (osum (psd s d 6 (20 + ((o.length : Nat) : Int) + ((b.length : Nat) : Int))) 0) (osum (ecT sp dp sq ak bt wn ur o b) 0)) = usm (psd s d 6 (20 + ((o.length : Nat) : Int) + ((b.length : Nat) : Int))) (ecT sp dp sq ak bt wn ur o b) := w64 (n := usm _ _) (by omega)
  constructor
  · unfold impl_UpperSum
    simp only [pairI, hs, q1, k0, k2, k3, z1, g, psdI k hk, encT_I k hk h5 h8 (by omega : b.length ≤ 1500), onesI k hk _ eb (by omega), sumI (or0 pb) (or0 eb), w, Option.bind_some, Bool.not_true, Bool.not_false, cond_true, cond_false]
  · unfold spec_UpperSum
    simp only [pairS, hs, q2, k0, k2, k3, z2, psdS k hk s d 6 _ hs (by omega) (by omega : 0 ≤ 20 + ((o.length : Nat) : Int) + ((b.length : Nat) : Int) ∧ 20 + ((o.length : Nat) : Int) + ((b.length : Nat) : Int) ≤ 1500), encT_S h5 h8 (by omega : b.length ≤ 1500), onesS k hk _ eb (by omega), sumS (or0 pb) (or0 eb), w, decide_true, Option.bind_some, Bool.not_true, Bool.not_false, cond_true, cond_false]
    cases decide (usm (psd s d 6 (20 + ((o.length : Nat) : Int) + ((b.length : Nat) : Int))) (ecT sp dp sq ak bt wn ur o b) = 0) <;> rfl
def usU (v : Int) : Int := bif decide (v = 0) then 65535 else v
theorem sumU (k : Nat) (hk : MM < k) (hs : bothB s d = true) (h1 : 0 ≤ sp ∧ sp ≤ 65535) (h2 : 0 ≤ dp ∧ dp ≤ 65535) (h10 : 8 + b.length ≤ 1500) (hb : bytesP b) (hns : ns = true → s.1 = 4) :
    impl_UpperSum k (upU sp dp ns b) s d = some ((bif ns then 0 else usU (usm (psd s d 17 (8 + ((b.length : Nat) : Int))) (ecU sp dp b)), ()), ()) ∧
    spec_UpperSum k (upU sp dp ns b) s d = some ((bif ns then 0 else usU (usm (psd s d 17 (8 + ((b.length : Nat) : Int))) (ecU sp dp b)), ()), ()) := by
  obtain ⟨z1, z2⟩ := uszU (sp := sp) (dp := dp) (ns := ns) (b := b) (by omega)
  obtain ⟨q1, q2⟩ := okU (b := b) k hk h1 h2 h10 (pair_kind hs) hns
  have pb := psd_bytes s d 17 (8 + ((b.length : Nat) : Int))
  have eb := encU_bytes (sp := sp) (dp := dp) hb
  have el := ecU_len (sp := sp) (dp := dp) (b := b)
  have k0 : decide ((2 : Int) = 0) = false := rfl
  have k1 : decide ((2 : Int) = 1) = false := rfl
  have k3 : decide ((2 : Int) = 3) = false := rfl
  have g : iI (mget (.int .i64) (.int .i64) ([((1:Int), (6:Int)), ((2:Int), (17:Int)), ((3:Int), (58:Int))] : List (Int × Int)) (2:Int)) = 17 := rfl
  have hur := usm_rng pb eb
  have w : IntKind.wrap .i64 (65535 - sm (osum (psd s d 17 (8 + ((b.length : Nat) : Int))) 0) (osum (ecU sp dp b) 0)) = usm (psd s d 17 (8 + ((b.length : Nat) : Int))) (ecU sp dp b) := w64 (n := usm _ _) (by omega)
  unfold usU
  constructor
  · unfold impl_UpperSum
    simp only [pairI, hs, q1, k0, k1, k3, z1, g, psdI k hk, encU_I k hk (by omega : b.length ≤ 1500), onesI k hk _ eb (by omega), sumI (or0 pb) (or0 eb), w, decide_true, Option.bind_some, Bool.not_true, Bool.not_false, cond_true, cond_false]
    cases ns <;> cases decide (usm (psd s d 17 (8 + ((b.length : Nat) : Int))) (ecU sp dp b) = 0) <;> rfl
  · unfold spec_UpperSum
    simp only [pairS, hs, q2, k0, k1, k3, z2, psdS k hk s d 17 _ hs (by omega) (by omega : 0 ≤ 8 + ((b.length : Nat) : Int) ∧ 8 + ((b.length : Nat) : Int) ≤ 1500), encU_S (by omega : b.length ≤ 1500), onesS k hk _ eb (by omega), sumS (or0 pb) (or0 eb), w, decide_true, Option.bind_some, Bool.not_true, Bool.not_false, cond_true, cond_false]
    cases ns <;> cases decide (usm (psd s d 17 (8 + ((b.length : Nat) : Int))) (ecU sp dp b) = 0) <;> rfl
def usI (s d : D_Addr) (n : Int) (e : List Int) : Int := bif decide (s.1 = 6) then usm (psd s d 58 n) e else 65535 - sm 0 (osum e 0)
theorem sumIc (k : Nat) (hk : MM < k) (hs : bothB s d = true) (h1 : 0 ≤ ty ∧ ty ≤ 255) (h2 : 0 ≤ cd ∧ cd ≤ 255) (h3 : 0 ≤ rs ∧ rs ≤ 4294967295) (h10 : 8 + b.length ≤ 1500) (hb : bytesP b) :
    impl_UpperSum k (upI ty cd rs b) s d = some ((usI s d (8 + ((b.length : Nat) : Int)) (ecI ty cd rs b), ()), ()) ∧
    spec_UpperSum k (upI ty cd rs b) s d = some ((usI s d (8 + ((b.length : Nat) : Int)) (ecI ty cd rs b), ()), ()) := by
  obtain ⟨z1, z2⟩ := uszI (ty := ty) (cd := cd) (rs := rs) (b := b) (by omega)
  obtain ⟨q1, q2⟩ := okI (b := b) k hk h1 h2 h3 h10 (pair_kind hs)
  have pb := psd_bytes s d 58 (8 + ((b.length : Nat) : Int))
  have eb := encI_bytes (ty := ty) (cd := cd) (rs := rs) hb
  have el := ecI_len (ty := ty) (cd := cd) (rs := rs) (b := b)
  have k0 : decide ((3 : Int) = 0) = false := rfl
  have k1 : decide ((3 : Int) = 1) = false := rfl
  have k2 : decide ((3 : Int) = 2) = false := rfl
  have g : iI (mget (.int .i64) (.int .i64) ([((1:Int), (6:Int)), ((2:Int), (17:Int)), ((3:Int), (58:Int))] : List (Int × Int)) (3:Int)) = 58 := rfl
  have hur := usm_rng pb eb
  have r0 := sm_rng (a := 0) (by omega) (or0 eb)
  have w : IntKind.wrap .i64 (65535 - sm (osum (psd s d 58 (8 + ((b.length : Nat) : Int))) 0) (osum (ecI ty cd rs b) 0)) = usm (psd s d 58 (8 + ((b.length : Nat) : Int))) (ecI ty cd rs b) := w64 (n := usm _ _) (by omega)
  have w0 : IntKind.wrap .i64 (65535 - sm 0 (osum (ecI ty cd rs b) 0)) = 65535 - sm 0 (osum (ecI ty cd rs b) 0) := w64 (by omega)
  have s0 := sumI (a := 0) (by omega) (or0 eb)
  have s1 := sumS (a := 0) (by omega) (or0 eb)
  unfold usI
  constructor
  · unfold impl_UpperSum
    simp only [pairI, hs, q1, k0, k1, k2, z1, g, psdI k hk, encI_I k hk (by omega : b.length ≤ 1500), onesI k hk _ eb (by omega), sumI (or0 pb) (or0 eb), s0, w, w0, decide_true, Option.bind_some, Bool.not_true, Bool.not_false, cond_true, cond_false]
    cases decide (s.1 = 6) <;> rfl
  · unfold spec_UpperSum
    simp only [pairS, hs, q2, k0, k1, k2, z2, psdS k hk s d 58 _ hs (by omega) (by omega : 0 ≤ 8 + ((b.length : Nat) : Int) ∧ 8 + ((b.length : Nat) : Int) ≤ 1500), encI_S (by omega : b.length ≤ 1500), onesS k hk _ eb (by omega), sumS (or0 pb) (or0 eb), s1, w, w0, decide_true, Option.bind_some, Bool.not_true, Bool.not_false, cond_true, cond_false]
    cases decide (s.1 = 6)
    · cases decide (65535 - sm 0 (osum (ecI ty cd rs b) 0) = 0) <;> rfl
    · cases decide (usm (psd s d 58 (8 + ((b.length : Nat) : Int))) (ecI ty cd rs b) = 0) <;> rfl
theorem sumO (k : Nat) (hk : MM < k) (hs : bothB s d = true) (h10 : b.length ≤ 1500) : impl_UpperSum k (upO b) s d = some ((0, ()), ()) := by
  obtain ⟨q1, q2⟩ := okO (b := b) k hk h10 (pair_kind hs)
  unfold impl_UpperSum
  simp only [pairI, hs, q1, decide_true, Option.bind_some, Bool.not_true, Bool.not_false, cond_true, cond_false]
end
end Go.Tw
