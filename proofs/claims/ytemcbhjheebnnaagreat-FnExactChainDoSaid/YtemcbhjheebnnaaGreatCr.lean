/- Functions answer as their mirrors. -/
import Derived.Test.YtemcbhjheebnnaaGreatMr
import Derived.Test.YtemcbhjheebnnaaGreatRows
set_option linter.all false
namespace Go.Tw
open Go Go.RowKit Go.Proofs
theorem vm : ∀ (ps : List (Ty × Bool)) (x : den (bg (ps.map (·.1)))) (h : ay) (n : Nat), ps.all (fun q => !q.2) = true → parG ps x h n = []
  | [], x, h, n, _ => rfl
  | (t, true) :: ps, x, h, n, e => by simp at e
  | (t, false) :: ps, x, h, n, e => vm ps x.2 h n (by simpa using e)
theorem cO {F : List bj} {cn : bj} (fn : Func) (hF : ∀ c ∈ F, an Tryz.prog c) (h : (Tryz.prog.funcs[cn.f]?, fn.body, callable Tryz.prog cn.f, Nat.ble cn.ps.length fn.ntmps, cn.ps.all (fun q => !q.2), loopsIn (ad fn), cn.rm.isMv) = (some fn, some (ad fn), true, true, true, [], false)) (he : ∀ x, om Tryz.prog F (inlN Tryz.prog F 4) [] fn (ad fn) cn.ps cn.rs cn.rm x = cn.m x) : an Tryz.prog cn := by
  simp only [aG] at h
  obtain ⟨h1, h2, h3, h4, h5, h6, h7⟩ := h
  exact ft hF h1 h2 h3 h4 rfl (fun x => vm cn.ps x [] 0 h5) [] (fun c _ _ _ => aO.of h6 aO.nil) he h7
def Wz (k : Nat) : bj := ⟨15, [((.sl fw), false), ((.int .i64), false)], [(.int .i64)], (.own true), fun x => Sh x.1 x.2.1⟩
theorem VK (k : Nat) : an Tryz.prog (Wz k) := cO Tryz.f15 aq (by kernel_rfl) (fun _ => by kernel_rfl)
def QD (k : Nat) : bj := ⟨47, [((.sl (.int .u8)), false), ((.int .i64), false)], [(.int .i64)], (.own true), fun x => du x.1 x.2.1⟩
theorem Ad (k : Nat) : an Tryz.prog (QD k) := cO Tryz.f47 aq (by kernel_rfl) (fun _ => by kernel_rfl)
def QE (k : Nat) : bj := ⟨43, [(fu, false), ((.int .i64), false)], [(.int .i64)], (.own true), fun x => lY x.1 x.2.1⟩
theorem NR (k : Nat) : an Tryz.prog (QE k) := cO Tryz.f43 (aa (Ad k) aq) (by kernel_rfl) (fun _ => by kernel_rfl)
def QF (k : Nat) : bj := ⟨44, [(dU, false), ((.int .i64), false)], [(.int .i64)], (.own true), fun x => mP x.1 x.2.1⟩
theorem NS (k : Nat) : an Tryz.prog (QF k) := cO Tryz.f44 (aa (Ad k) aq) (by kernel_rfl) (fun _ => by kernel_rfl)
def KD (k : Nat) : bj := ⟨231, [(da, false), ((.int .i64), false)], [(.int .i64)], (.own true), fun x => lZ x.1 x.2.1⟩
theorem KE (k : Nat) : an Tryz.prog (KD k) := cO Tryz.f231 (aa (Ad k) aq) (by kernel_rfl) (fun _ => by kernel_rfl)
def Ae (k : Nat) : bj := ⟨136, [((.sl da), false), ((.int .i64), false)], [(.int .i64)], (.own true), fun x => mQ k x.1 x.2.1⟩
def BA (k : Nat) : List bj := [KD k]
theorem BB (k : Nat) : ∀ cn ∈ BA k, an Tryz.prog cn := (aa (KE k) aq)
abbrev w8 : Shape := [(0, .v (.sl da)), (1, .v (.int .i64)), (5, .v (.int .i64))]
abbrev BC : Exit × Shape := (Exit.ret, [(4, .v (.int .i64))])
abbrev BD : List (Exit × Shape) := [(Exit.exit 0, [(1, .v (.int .i64))])]
def tU (k : Nat) : LO := eH [] [] [] w8 BC BD (iter (kG) k)
theorem Fp (k : Nat) (rec v) : evC Tryz.prog ⟨27, []⟩ (BA k) (inlN Tryz.prog (BA k) 4) [] (aQ (ad Tryz.f136) [0]) (Kb [] [] [] w8 BC BD rec) (gO [] [] w8 v.1 v.2) = (kG) rec v := by kernel_rfl
theorem Fq (k : Nat) {c : Cx} (hP : c.P = Tryz.prog) (hm : c.m = ⟨27, []⟩) (hg : c.gs = []) : ch c (tU k) (aQ (ad Tryz.f136) [0]) :=
  cE hP hm hg (BB k) (aO.of (code := (aQ (ad Tryz.f136) [0])) (bs := []) (by kernel_rfl) aO.nil) (fun rec v => Fp k rec v) k
theorem KF (k : Nat) (x) : om Tryz.prog (BA k) (inlN Tryz.prog (BA k) 4) [(5, tU k)] Tryz.f136 (ad Tryz.f136) (Ae k).ps (Ae k).rs (Ae k).rm x = (Ae k).m x := by kernel_rfl
theorem KG (k : Nat) : an Tryz.prog (Ae k) :=
  ft (BB k) (cn := Ae k) (fn := Tryz.f136) (code := ad Tryz.f136) (m := ⟨27, []⟩) (gs := []) (by kernel_rfl) (by kernel_rfl) (by kernel_rfl) (by kernel_rfl) (by kernel_rfl) (fun _ => by kernel_rfl)
    [(5, tU k)] (fun c hP hm hg => (aO.of (code := (ad Tryz.f136)) (bs := [(aQ (ad Tryz.f136) [0])]) (by kernel_rfl) (aO.cons (b := (aQ (ad Tryz.f136) [0])) (by kernel_rfl) (Fq k hP hm hg) aO.nil))) (KF k)
def QG (k : Nat) : bj := ⟨45, [(eI, false), ((.int .i64), false)], [(.int .i64)], (.own true), fun x => oq k x.1 x.2.1⟩
theorem NT (k : Nat) : an Tryz.prog (QG k) := cO Tryz.f45 (aa (KG k) (aa (Ad k) aq)) (by kernel_rfl) (fun _ => by kernel_rfl)
def QH (k : Nat) : bj := ⟨46, [(dG, false), ((.int .i64), false)], [(.int .i64)], (.own true), fun x => l9 x.1 x.2.1⟩
theorem NU (k : Nat) : an Tryz.prog (QH k) := cO Tryz.f46 (aa (Ad k) aq) (by kernel_rfl) (fun _ => by kernel_rfl)
def c7 (k : Nat) : bj := ⟨7, [(aU, false), ((.int .i64), false)], [(.int .i64)], (.own true), fun x => lv k x.1 x.2.1⟩
theorem QI (k : Nat) : an Tryz.prog (c7 k) := cO Tryz.f7 (aa (NR k) (aa (NS k) (aa (NT k) (aa (NU k) (aa (Ad k) aq))))) (by kernel_rfl) (fun _ => by kernel_rfl)
def NV (k : Nat) : bj := ⟨148, [(aW, false)], [aW], (.own true), fun x => gk x.1⟩
theorem BE (k : Nat) : an Tryz.prog (NV k) := cO Tryz.f148 aq (by kernel_rfl) (fun _ => by kernel_rfl)
def QJ (k : Nat) : bj := ⟨60, [(dI, false)], [dI], (.own true), fun x => iB x.1⟩
theorem NW (k : Nat) : an Tryz.prog (QJ k) := cO Tryz.f60 (aa (BE k) aq) (by kernel_rfl) (fun _ => by kernel_rfl)
def c9 (k : Nat) : bj := ⟨9, [(fw, false)], [fw], (.own true), fun x => gC x.1⟩
theorem QK (k : Nat) : an Tryz.prog (c9 k) := cO Tryz.f9 (aa (NW k) aq) (by kernel_rfl) (fun _ => by kernel_rfl)
def Vm (k : Nat) : bj := ⟨17, [((.sl fw), false)], [(.sl fw)], (.own true), fun x => R6 k x.1⟩
def Vr (k : Nat) : List bj := [c9 k]
theorem Ui (k : Nat) : ∀ cn ∈ Vr k, an Tryz.prog cn := (aa (QK k) aq)
abbrev TB : Shape := [(0, .v (.sl fw)), (3, .own true (.sl fw)), (4, .v (.int .i64))]
abbrev Uj : Exit × Shape := (Exit.exit 0, [(3, .own true (.sl fw))])
abbrev Uk : List (Exit × Shape) := []
def Tc (k : Nat) : LO := eH [] [] [] TB Uj Uk (iter (Si) k)
theorem UR (k : Nat) (rec v) : evC Tryz.prog ⟨23, []⟩ (Vr k) (inlN Tryz.prog (Vr k) 4) [] (aQ (ad Tryz.f17) [0]) (Kb [] [] [] TB Uj Uk rec) (gO [] [] TB v.1 v.2) = (Si) rec v := by kernel_rfl
theorem US (k : Nat) {c : Cx} (hP : c.P = Tryz.prog) (hm : c.m = ⟨23, []⟩) (hg : c.gs = []) : ch c (Tc k) (aQ (ad Tryz.f17) [0]) :=
  cE hP hm hg (Ui k) (aO.of (code := (aQ (ad Tryz.f17) [0])) (bs := []) (by kernel_rfl) aO.nil) (fun rec v => UR k rec v) k
theorem VL (k : Nat) (x) : om Tryz.prog (Vr k) (inlN Tryz.prog (Vr k) 4) [(3, Tc k)] Tryz.f17 (ad Tryz.f17) (Vm k).ps (Vm k).rs (Vm k).rm x = (Vm k).m x := by kernel_rfl
theorem VM (k : Nat) : an Tryz.prog (Vm k) :=
  ft (Ui k) (cn := Vm k) (fn := Tryz.f17) (code := ad Tryz.f17) (m := ⟨23, []⟩) (gs := []) (by kernel_rfl) (by kernel_rfl) (by kernel_rfl) (by kernel_rfl) (by kernel_rfl) (fun _ => by kernel_rfl)
    [(3, Tc k)] (fun c hP hm hg => (aO.of (code := (ad Tryz.f17)) (bs := [(aQ (ad Tryz.f17) [0])]) (by kernel_rfl) (aO.cons (b := (aQ (ad Tryz.f17) [0])) (by kernel_rfl) (US k hP hm hg) aO.nil))) (VL k)
def Kr (k : Nat) : bj := ⟨65, [((.sl (.int .u8)), false)], [(.sl (.int .u8))], (.own true), fun x => dO k x.1⟩
def KH (k : Nat) : List bj := []
theorem Hj (k : Nat) : ∀ cn ∈ KH k, an Tryz.prog cn := aq
abbrev BF : Shape := [(0, .v (.sl (.int .u8))), (3, .own true (.sl (.int .u8))), (4, .v (.int .i64))]
abbrev Hk : Exit × Shape := (Exit.exit 0, [(3, .own true (.sl (.int .u8)))])
abbrev Hl : List (Exit × Shape) := []
def w9 (k : Nat) : LO := eH [] [] [] BF Hk Hl (iter (j7) k)
theorem IK (k : Nat) (rec v) : evC Tryz.prog ⟨22, []⟩ (KH k) (inlN Tryz.prog (KH k) 4) [] (aQ (ad Tryz.f65) [0]) (Kb [] [] [] BF Hk Hl rec) (gO [] [] BF v.1 v.2) = (j7) rec v := by kernel_rfl
theorem IL (k : Nat) {c : Cx} (hP : c.P = Tryz.prog) (hm : c.m = ⟨22, []⟩) (hg : c.gs = []) : ch c (w9 k) (aQ (ad Tryz.f65) [0]) :=
  cE hP hm hg (Hj k) (aO.of (code := (aQ (ad Tryz.f65) [0])) (bs := []) (by kernel_rfl) aO.nil) (fun rec v => IK k rec v) k
theorem NX (k : Nat) (x) : om Tryz.prog (KH k) (inlN Tryz.prog (KH k) 4) [(3, w9 k)] Tryz.f65 (ad Tryz.f65) (Kr k).ps (Kr k).rs (Kr k).rm x = (Kr k).m x := by kernel_rfl
theorem Af (k : Nat) : an Tryz.prog (Kr k) :=
  ft (Hj k) (cn := Kr k) (fn := Tryz.f65) (code := ad Tryz.f65) (m := ⟨22, []⟩) (gs := []) (by kernel_rfl) (by kernel_rfl) (by kernel_rfl) (by kernel_rfl) (by kernel_rfl) (fun _ => by kernel_rfl)
    [(3, w9 k)] (fun c hP hm hg => (aO.of (code := (ad Tryz.f65)) (bs := [(aQ (ad Tryz.f65) [0])]) (by kernel_rfl) (aO.cons (b := (aQ (ad Tryz.f65) [0])) (by kernel_rfl) (IL k hP hm hg) aO.nil))) (NX k)
def QL (k : Nat) : bj := ⟨61, [(fu, false)], [fu], (.own true), fun x => kl k x.1⟩
theorem NY (k : Nat) : an Tryz.prog (QL k) := cO Tryz.f61 (aa (Af k) aq) (by kernel_rfl) (fun _ => by kernel_rfl)
def QM (k : Nat) : bj := ⟨62, [(dU, false)], [dU], (.own true), fun x => k9 k x.1⟩
theorem NZ (k : Nat) : an Tryz.prog (QM k) := cO Tryz.f62 (aa (BE k) (aa (Af k) aq)) (by kernel_rfl) (fun _ => by kernel_rfl)
def KJ (k : Nat) : bj := ⟨240, [(da, false)], [da], (.own true), fun x => kH k x.1⟩
theorem KK (k : Nat) : an Tryz.prog (KJ k) := cO Tryz.f240 (aa (Af k) aq) (by kernel_rfl) (fun _ => by kernel_rfl)
def Ag (k : Nat) : bj := ⟨149, [((.sl da), false)], [(.sl da)], (.own true), fun x => mR k x.1⟩
def BG (k : Nat) : List bj := [KJ k]
theorem BH (k : Nat) : ∀ cn ∈ BG k, an Tryz.prog cn := (aa (KK k) aq)
abbrev xd : Shape := [(0, .v (.sl da)), (3, .own true (.sl da)), (4, .v (.int .i64))]
abbrev BI : Exit × Shape := (Exit.exit 0, [(3, .own true (.sl da))])
abbrev BJ : List (Exit × Shape) := []
def tV (k : Nat) : LO := eH [] [] [] xd BI BJ (iter (kI k) k)
theorem Fs (k : Nat) (rec v) : evC Tryz.prog ⟨23, []⟩ (BG k) (inlN Tryz.prog (BG k) 4) [] (aQ (ad Tryz.f149) [0]) (Kb [] [] [] xd BI BJ rec) (gO [] [] xd v.1 v.2) = (kI k) rec v := by kernel_rfl
theorem Ft (k : Nat) {c : Cx} (hP : c.P = Tryz.prog) (hm : c.m = ⟨23, []⟩) (hg : c.gs = []) : ch c (tV k) (aQ (ad Tryz.f149) [0]) :=
  cE hP hm hg (BH k) (aO.of (code := (aQ (ad Tryz.f149) [0])) (bs := []) (by kernel_rfl) aO.nil) (fun rec v => Fs k rec v) k
theorem KL (k : Nat) (x) : om Tryz.prog (BG k) (inlN Tryz.prog (BG k) 4) [(3, tV k)] Tryz.f149 (ad Tryz.f149) (Ag k).ps (Ag k).rs (Ag k).rm x = (Ag k).m x := by kernel_rfl
theorem KM (k : Nat) : an Tryz.prog (Ag k) :=
  ft (BH k) (cn := Ag k) (fn := Tryz.f149) (code := ad Tryz.f149) (m := ⟨23, []⟩) (gs := []) (by kernel_rfl) (by kernel_rfl) (by kernel_rfl) (by kernel_rfl) (by kernel_rfl) (fun _ => by kernel_rfl)
    [(3, tV k)] (fun c hP hm hg => (aO.of (code := (ad Tryz.f149)) (bs := [(aQ (ad Tryz.f149) [0])]) (by kernel_rfl) (aO.cons (b := (aQ (ad Tryz.f149) [0])) (by kernel_rfl) (Ft k hP hm hg) aO.nil))) (KL k)
def QN (k : Nat) : bj := ⟨63, [(eI, false)], [eI], (.own true), fun x => ma k x.1⟩
theorem N0 (k : Nat) : an Tryz.prog (QN k) := cO Tryz.f63 (aa (BE k) (aa (KM k) (aa (Af k) aq))) (by kernel_rfl) (fun _ => by kernel_rfl)
def QO (k : Nat) : bj := ⟨64, [(dG, false)], [dG], (.own true), fun x => km k x.1⟩
theorem N3 (k : Nat) : an Tryz.prog (QO k) := cO Tryz.f64 (aa (Af k) aq) (by kernel_rfl) (fun _ => by kernel_rfl)
def QP (k : Nat) : bj := ⟨10, [(aU, false)], [aU], (.own true), fun x => fH k x.1⟩
theorem N4 (k : Nat) : an Tryz.prog (QP k) := cO Tryz.f10 (aa (NY k) (aa (NZ k) (aa (N0 k) (aa (N3 k) (aa (Af k) aq))))) (by kernel_rfl) (fun _ => by kernel_rfl)
def Re (k : Nat) : bj := ⟨18, [((.sl (.int .i64)), false)], [(.sl (.int .i64))], (.own true), fun x => Sf k x.1⟩
def Vs (k : Nat) : List bj := []
theorem Ul (k : Nat) : ∀ cn ∈ Vs k, an Tryz.prog cn := aq
abbrev TC : Shape := [(0, .v (.sl (.int .i64))), (3, .own true (.sl (.int .i64))), (4, .v (.int .i64))]
abbrev Um : Exit × Shape := (Exit.exit 0, [(3, .own true (.sl (.int .i64)))])
abbrev Un : List (Exit × Shape) := []
def Td (k : Nat) : LO := eH [] [] [] TC Um Un (iter (Ss) k)
theorem UT (k : Nat) (rec v) : evC Tryz.prog ⟨22, []⟩ (Vs k) (inlN Tryz.prog (Vs k) 4) [] (aQ (ad Tryz.f18) [0]) (Kb [] [] [] TC Um Un rec) (gO [] [] TC v.1 v.2) = (Ss) rec v := by kernel_rfl
theorem UU (k : Nat) {c : Cx} (hP : c.P = Tryz.prog) (hm : c.m = ⟨22, []⟩) (hg : c.gs = []) : ch c (Td k) (aQ (ad Tryz.f18) [0]) :=
  cE hP hm hg (Ul k) (aO.of (code := (aQ (ad Tryz.f18) [0])) (bs := []) (by kernel_rfl) aO.nil) (fun rec v => UT k rec v) k
theorem VN (k : Nat) (x) : om Tryz.prog (Vs k) (inlN Tryz.prog (Vs k) 4) [(3, Td k)] Tryz.f18 (ad Tryz.f18) (Re k).ps (Re k).rs (Re k).rm x = (Re k).m x := by kernel_rfl
theorem VO (k : Nat) : an Tryz.prog (Re k) :=
  ft (Ul k) (cn := Re k) (fn := Tryz.f18) (code := ad Tryz.f18) (m := ⟨22, []⟩) (gs := []) (by kernel_rfl) (by kernel_rfl) (by kernel_rfl) (by kernel_rfl) (by kernel_rfl) (fun _ => by kernel_rfl)
    [(3, Td k)] (fun c hP hm hg => (aO.of (code := (ad Tryz.f18)) (bs := [(aQ (ad Tryz.f18) [0])]) (by kernel_rfl) (aO.cons (b := (aQ (ad Tryz.f18) [0])) (by kernel_rfl) (UU k hP hm hg) aO.nil))) (VN k)
def N5 (k : Nat) : bj := ⟨137, [(dI, false)], [.bool], (.own true), fun x => gl x.1⟩
theorem yH (k : Nat) : an Tryz.prog (N5 k) := cO Tryz.f137 aq (by kernel_rfl) (fun _ => by kernel_rfl)
def N6 (k : Nat) : bj := ⟨237, [((.int .i64), false)], [.bool], (.own true), fun x => dv x.1⟩
theorem Hm (k : Nat) : an Tryz.prog (N6 k) := cO Tryz.f237 aq (by kernel_rfl) (fun _ => by kernel_rfl)
def IM (k : Nat) : bj := ⟨144, [(aW, false)], [.bool], (.own true), fun x => dh x.1⟩
theorem qU (k : Nat) : an Tryz.prog (IM k) := cO Tryz.f144 (aa (Hm k) aq) (by kernel_rfl) (fun _ => by kernel_rfl)
def KN (k : Nat) : bj := ⟨232, [(aW, false)], [(.int .i64)], (.own true), fun x => ie x.1⟩
theorem Hn (k : Nat) : an Tryz.prog (KN k) := cO Tryz.f232 aq (by kernel_rfl) (fun _ => by kernel_rfl)
def N7 (k : Nat) : bj := ⟨270, [((.int .i64), false), ((.int .i64), false)], [(.int .i64)], (.own true), fun x => jT x.1 x.2.1⟩
theorem Ho (k : Nat) : an Tryz.prog (N7 k) := cO Tryz.f270 aq (by kernel_rfl) (fun _ => by kernel_rfl)
def KO (k : Nat) : bj := ⟨193, [((.int .i64), false)], [(.sl (.int .u8))], (.own true), fun x => aY x.1⟩
theorem qV (k : Nat) : an Tryz.prog (KO k) := cO Tryz.f193 (aa (Ho k) aq) (by kernel_rfl) (fun _ => by kernel_rfl)
def KP (k : Nat) : bj := ⟨238, [((.int .i64), false)], [(.sl (.int .u8))], (.own true), fun x => cJ x.1⟩
theorem vn (k : Nat) : an Tryz.prog (KP k) := cO Tryz.f238 (aa (Ho k) (aa (qV k) aq)) (by kernel_rfl) (fun _ => by kernel_rfl)
def Fu (k : Nat) : bj := ⟨146, [(aW, false)], [(.sl (.int .u8))], (.own true), fun x => cA x.1⟩
theorem vo (k : Nat) : an Tryz.prog (Fu k) := cO Tryz.f146 (aa (qU k) (aa (vn k) aq)) (by kernel_rfl) (fun _ => by kernel_rfl)
def xe (k : Nat) : bj := ⟨239, [((.sl (.int .u8)), false), ((.int .i64), false)], [(.int .i64), .bool], (.own true), fun x => cH k x.1 x.2.1⟩
def BK (k : Nat) : List bj := []
theorem BL (k : Nat) : ∀ cn ∈ BK k, an Tryz.prog cn := aq
abbrev xf : Shape := [(0, .v (.sl (.int .u8))), (1, .v (.int .i64)), (6, .v (.int .i64)), (7, .v (.int .i64))]
abbrev BM : Exit × Shape := (Exit.exit 0, [(6, .v (.int .i64))])
abbrev BN : List (Exit × Shape) := []
def tW (k : Nat) : LO := eH [] [] [] xf BM BN (iter (ig) k)
theorem Fv (k : Nat) (rec v) : evC Tryz.prog ⟨32, []⟩ (BK k) (inlN Tryz.prog (BK k) 4) [] (aQ (ad Tryz.f239) [0]) (Kb [] [] [] xf BM BN rec) (gO [] [] xf v.1 v.2) = (ig) rec v := by kernel_rfl
theorem Fw (k : Nat) {c : Cx} (hP : c.P = Tryz.prog) (hm : c.m = ⟨32, []⟩) (hg : c.gs = []) : ch c (tW k) (aQ (ad Tryz.f239) [0]) :=
  cE hP hm hg (BL k) (aO.of (code := (aQ (ad Tryz.f239) [0])) (bs := []) (by kernel_rfl) aO.nil) (fun rec v => Fv k rec v) k
theorem KQ (k : Nat) (x) : om Tryz.prog (BK k) (inlN Tryz.prog (BK k) 4) [(5, tW k)] Tryz.f239 (ad Tryz.f239) (xe k).ps (xe k).rs (xe k).rm x = (xe k).m x := by kernel_rfl
theorem yI (k : Nat) : an Tryz.prog (xe k) :=
  ft (BL k) (cn := xe k) (fn := Tryz.f239) (code := ad Tryz.f239) (m := ⟨32, []⟩) (gs := []) (by kernel_rfl) (by kernel_rfl) (by kernel_rfl) (by kernel_rfl) (by kernel_rfl) (fun _ => by kernel_rfl)
    [(5, tW k)] (fun c hP hm hg => (aO.of (code := (ad Tryz.f239)) (bs := [(aQ (ad Tryz.f239) [0])]) (by kernel_rfl) (aO.cons (b := (aQ (ad Tryz.f239) [0])) (by kernel_rfl) (Fw k hP hm hg) aO.nil))) (KQ k)
def Fx (k : Nat) : bj := ⟨147, [((.sl (.int .u8)), false)], [aW, .bool], (.own true), fun x => fy k x.1⟩
theorem yJ (k : Nat) : an Tryz.prog (Fx k) := cO Tryz.f147 (aa (yI k) aq) (by kernel_rfl) (fun _ => by kernel_rfl)
def xg (k : Nat) : bj := ⟨145, [(aW, false), ((.int .i64), false)], [aW], (.own true), fun x => lG k x.1 x.2.1⟩
def xh (k : Nat) : List bj := [IM k, KN k, Fu k, Fx k]
theorem xi (k : Nat) : ∀ cn ∈ xh k, an Tryz.prog cn := (aa (qU k) (aa (Hn k) (aa (vo k) (aa (yJ k) aq))))
abbrev xj : Shape := [(2, .box true aW), (4, .box true aW), (5, .own true (.sl (.int .u8))), (6, .v (.int .i64)), (7, .v (.int .i64)), (8, .v (.int .i64))]
abbrev BO : Exit × Shape := (Exit.exit 2, [(2, .box true aW), (4, .box true aW), (5, .own true (.sl (.int .u8))), (6, .v (.int .i64)), (7, .v (.int .i64))])
abbrev BP : List (Exit × Shape) := []
def yK (k : Nat) : LO := eH [] [] [] xj BO BP (iter (gP) k)
theorem Fy (k : Nat) (rec v) : evC Tryz.prog ⟨70, []⟩ (xh k) (inlN Tryz.prog (xh k) 4) [] (aQ (ad Tryz.f145) [0, 0]) (Kb [] [] [] xj BO BP rec) (gO [] [] xj v.1 v.2) = (gP) rec v := by kernel_rfl
theorem Fz (k : Nat) {c : Cx} (hP : c.P = Tryz.prog) (hm : c.m = ⟨70, []⟩) (hg : c.gs = []) : ch c (yK k) (aQ (ad Tryz.f145) [0, 0]) :=
  cE hP hm hg (xi k) (aO.of (code := (aQ (ad Tryz.f145) [0, 0])) (bs := []) (by kernel_rfl) aO.nil) (fun rec v => Fy k rec v) k
abbrev xk : Shape := [(2, .box true aW), (4, .box true aW), (5, .own true (.sl (.int .u8))), (6, .v (.int .i64))]
abbrev BQ : Exit × Shape := (Exit.exit 0, [(4, .box true aW), (5, .own true (.sl (.int .u8)))])
abbrev BR : List (Exit × Shape) := []
def tX (k : Nat) : LO := eH [] [] [] xk BQ BR (iter (gQ k) k)
theorem FA (k : Nat) (rec v) : evC Tryz.prog ⟨70, []⟩ (xh k) (inlN Tryz.prog (xh k) 4) [(9, yK k)] (aQ (ad Tryz.f145) [0]) (Kb [] [] [] xk BQ BR rec) (gO [] [] xk v.1 v.2) = (gQ k) rec v := by kernel_rfl
theorem FB (k : Nat) {c : Cx} (hP : c.P = Tryz.prog) (hm : c.m = ⟨70, []⟩) (hg : c.gs = []) : ch c (tX k) (aQ (ad Tryz.f145) [0]) :=
  cE hP hm hg (xi k) (aO.of (code := (aQ (ad Tryz.f145) [0])) (bs := [(aQ (ad Tryz.f145) [0, 0])]) (by kernel_rfl) (aO.cons (b := (aQ (ad Tryz.f145) [0, 0])) (by kernel_rfl) (Fz k hP hm hg) aO.nil)) (fun rec v => FA k rec v) k
theorem KR (k : Nat) (x) : om Tryz.prog (xh k) (inlN Tryz.prog (xh k) 4) [(5, tX k)] Tryz.f145 (ad Tryz.f145) (xg k).ps (xg k).rs (xg k).rm x = (xg k).m x := by kernel_rfl
theorem BS (k : Nat) : an Tryz.prog (xg k) :=
  ft (xi k) (cn := xg k) (fn := Tryz.f145) (code := ad Tryz.f145) (m := ⟨70, []⟩) (gs := []) (by kernel_rfl) (by kernel_rfl) (by kernel_rfl) (by kernel_rfl) (by kernel_rfl) (fun _ => by kernel_rfl)
    [(5, tX k)] (fun c hP hm hg => (aO.of (code := (ad Tryz.f145)) (bs := [(aQ (ad Tryz.f145) [0])]) (by kernel_rfl) (aO.cons (b := (aQ (ad Tryz.f145) [0])) (by kernel_rfl) (FB k hP hm hg) aO.nil))) (KR k)
def N8 (k : Nat) : bj := ⟨138, [(dI, false)], [.bool], (.own true), fun x => eP k x.1⟩
theorem BT (k : Nat) : an Tryz.prog (N8 k) := cO Tryz.f138 (aa (yH k) (aa (qU k) (aa (Hn k) (aa (BS k) aq)))) (by kernel_rfl) (fun _ => by kernel_rfl)
def N9 (k : Nat) : bj := ⟨139, [((.int .i64), false), ((.int .i64), false)], [.bool], (.own true), fun x => jE x.1 x.2.1⟩
theorem KS (k : Nat) : an Tryz.prog (N9 k) := cO Tryz.f139 aq (by kernel_rfl) (fun _ => by kernel_rfl)
def KT (k : Nat) : bj := ⟨140, [(dI, false), (dI, false)], [.bool], (.own true), fun x => gD k x.1 x.2.1⟩
theorem Hp (k : Nat) : an Tryz.prog (KT k) := cO Tryz.f140 (aa (BT k) (aa (yH k) aq)) (by kernel_rfl) (fun _ => by kernel_rfl)
def KU (k : Nat) : bj := ⟨141, [((.int .i64), false), ((.int .i64), false)], [.bool], (.own true), fun x => bo x.1 x.2.1⟩
theorem p9 (k : Nat) : an Tryz.prog (KU k) := cO Tryz.f141 aq (by kernel_rfl) (fun _ => by kernel_rfl)
def QQ (k : Nat) : bj := ⟨48, [(fw, false)], [.bool], (.own true), fun x => jF k x.1⟩
theorem Oa (k : Nat) : an Tryz.prog (QQ k) := cO Tryz.f48 (aa (yH k) (aa (BT k) (aa (KS k) (aa (Hp k) (aa (p9 k) aq))))) (by kernel_rfl) (fun _ => by kernel_rfl)
def UW (k : Nat) : bj := ⟨84, [((.sl fw), false)], [.bool], (.own true), fun x => Sp k x.1⟩
def Vt (k : Nat) : List bj := [QQ k]
theorem Uo (k : Nat) : ∀ cn ∈ Vt k, an Tryz.prog cn := (aa (Oa k) aq)
abbrev TD : Shape := [(0, .v (.sl fw)), (3, .v (.int .i64))]
abbrev Up : Exit × Shape := (Exit.ret, [(2, .v .bool)])
abbrev Uq : List (Exit × Shape) := [(Exit.exit 0, [])]
def Te (k : Nat) : LO := eH [] [] [] TD Up Uq (iter (RZ k) k)
theorem UX (k : Nat) (rec v) : evC Tryz.prog ⟨19, []⟩ (Vt k) (inlN Tryz.prog (Vt k) 4) [] (aQ (ad Tryz.f84) [0]) (Kb [] [] [] TD Up Uq rec) (gO [] [] TD v.1 v.2) = (RZ k) rec v := by kernel_rfl
theorem UY (k : Nat) {c : Cx} (hP : c.P = Tryz.prog) (hm : c.m = ⟨19, []⟩) (hg : c.gs = []) : ch c (Te k) (aQ (ad Tryz.f84) [0]) :=
  cE hP hm hg (Uo k) (aO.of (code := (aQ (ad Tryz.f84) [0])) (bs := []) (by kernel_rfl) aO.nil) (fun rec v => UX k rec v) k
theorem VP (k : Nat) (x) : om Tryz.prog (Vt k) (inlN Tryz.prog (Vt k) 4) [(4, Te k)] Tryz.f84 (ad Tryz.f84) (UW k).ps (UW k).rs (UW k).rm x = (UW k).m x := by kernel_rfl
theorem VQ (k : Nat) : an Tryz.prog (UW k) :=
  ft (Uo k) (cn := UW k) (fn := Tryz.f84) (code := ad Tryz.f84) (m := ⟨19, []⟩) (gs := []) (by kernel_rfl) (by kernel_rfl) (by kernel_rfl) (by kernel_rfl) (by kernel_rfl) (fun _ => by kernel_rfl)
    [(4, Te k)] (fun c hP hm hg => (aO.of (code := (ad Tryz.f84)) (bs := [(aQ (ad Tryz.f84) [0])]) (by kernel_rfl) (aO.cons (b := (aQ (ad Tryz.f84) [0])) (by kernel_rfl) (UY k hP hm hg) aO.nil))) (VP k)
def QR (k : Nat) : bj := ⟨51, [(aU, false)], [aW], (.own true), fun x => bJ x.1⟩
theorem BU (k : Nat) : an Tryz.prog (QR k) := cO Tryz.f51 aq (by kernel_rfl) (fun _ => by kernel_rfl)
def QS (k : Nat) : bj := ⟨52, [(aU, false)], [aW], (.own true), fun x => bK x.1⟩
theorem BV (k : Nat) : an Tryz.prog (QS k) := cO Tryz.f52 aq (by kernel_rfl) (fun _ => by kernel_rfl)
def Ob (k : Nat) : bj := ⟨258, [(aW, false), (aW, false)], [.bool], (.own true), fun x => ij x.1 x.2.1⟩
theorem BW (k : Nat) : an Tryz.prog (Ob k) := cO Tryz.f258 (aa (qU k) aq) (by kernel_rfl) (fun _ => by kernel_rfl)
def Oc (k : Nat) : bj := ⟨261, [(dG, false)], [(.int .i64)], (.own true), fun x => aM x.1⟩
theorem BX (k : Nat) : an Tryz.prog (Oc k) := cO Tryz.f261 aq (by kernel_rfl) (fun _ => by kernel_rfl)
def Od (k : Nat) : bj := ⟨259, [(dG, false), ((.int .i64), false)], [.bool], (.own true), fun x => bq x.1 x.2.1⟩
theorem KV (k : Nat) : an Tryz.prog (Od k) := cO Tryz.f259 (aa (p9 k) (aa (Hm k) (aa (BX k) aq))) (by kernel_rfl) (fun _ => by kernel_rfl)
def Oe (k : Nat) : bj := ⟨306, [((.int .i64), false)], [.bool], (.own true), fun x => jc x.1⟩
theorem KW (k : Nat) : an Tryz.prog (Oe k) := cO Tryz.f306 aq (by kernel_rfl) (fun _ => by kernel_rfl)
def KX (k : Nat) : bj := ⟨262, [((.int .i64), false), ((.int .i64), false)], [(.int .i64)], (.own true), fun x => fz x.1 x.2.1⟩
theorem Hq (k : Nat) : an Tryz.prog (KX k) := cO Tryz.f262 (aa (KW k) aq) (by kernel_rfl) (fun _ => by kernel_rfl)
def Ah (k : Nat) : bj := ⟨263, [((.sl (.int .u8)), false)], [(.int .i64)], (.own true), fun x => dw k x.1⟩
def BY (k : Nat) : List bj := [KX k]
theorem BZ (k : Nat) : ∀ cn ∈ BY k, an Tryz.prog cn := (aa (Hq k) aq)
abbrev xm : Shape := [(0, .v (.sl (.int .u8))), (3, .v (.int .i64)), (4, .v (.int .i64))]
abbrev B0 : Exit × Shape := (Exit.exit 0, [(3, .v (.int .i64))])
abbrev B2 : List (Exit × Shape) := []
def tY (k : Nat) : LO := eH [] [] [] xm B0 B2 (iter (ez) k)
theorem FC (k : Nat) (rec v) : evC Tryz.prog ⟨38, []⟩ (BY k) (inlN Tryz.prog (BY k) 4) [] (aQ (ad Tryz.f263) [0]) (Kb [] [] [] xm B0 B2 rec) (gO [] [] xm v.1 v.2) = (ez) rec v := by kernel_rfl
theorem FD (k : Nat) {c : Cx} (hP : c.P = Tryz.prog) (hm : c.m = ⟨38, []⟩) (hg : c.gs = []) : ch c (tY k) (aQ (ad Tryz.f263) [0]) :=
  cE hP hm hg (BZ k) (aO.of (code := (aQ (ad Tryz.f263) [0])) (bs := []) (by kernel_rfl) aO.nil) (fun rec v => FC k rec v) k
theorem KY (k : Nat) (x) : om Tryz.prog (BY k) (inlN Tryz.prog (BY k) 4) [(5, tY k)] Tryz.f263 (ad Tryz.f263) (Ah k).ps (Ah k).rs (Ah k).rm x = (Ah k).m x := by kernel_rfl
theorem B3 (k : Nat) : an Tryz.prog (Ah k) :=
  ft (BZ k) (cn := Ah k) (fn := Tryz.f263) (code := ad Tryz.f263) (m := ⟨38, []⟩) (gs := []) (by kernel_rfl) (by kernel_rfl) (by kernel_rfl) (by kernel_rfl) (by kernel_rfl) (fun _ => by kernel_rfl)
    [(5, tY k)] (fun c hP hm hg => (aO.of (code := (ad Tryz.f263)) (bs := [(aQ (ad Tryz.f263) [0])]) (by kernel_rfl) (aO.cons (b := (aQ (ad Tryz.f263) [0])) (by kernel_rfl) (FD k hP hm hg) aO.nil))) (KY k)
def Of (k : Nat) : bj := ⟨260, [(aW, false), (aW, false), ((.int .i64), false), ((.int .i64), false)], [(.int .i64)], (.own true), fun x => fW k x.1 x.2.1 x.2.2.1 x.2.2.2.1⟩
theorem KZ (k : Nat) : an Tryz.prog (Of k) := cO Tryz.f260 (aa (BW k) (aa (p9 k) (aa (vo k) (aa (qV k) (aa (B3 k) (aa (vn k) aq)))))) (by kernel_rfl) (fun _ => by kernel_rfl)
def Og (k : Nat) : bj := ⟨264, [(dG, false), ((.int .i64), false)], [(.sl (.int .u8))], (.own true), fun x => bm x.1 x.2.1⟩
theorem Hr (k : Nat) : an Tryz.prog (Og k) := cO Tryz.f264 (aa (qV k) (aa (vn k) (aa (BX k) aq))) (by kernel_rfl) (fun _ => by kernel_rfl)
def Oh (k : Nat) : bj := ⟨181, [(dG, false), (aW, false), (aW, false)], [(.int .i64)], (.own true), fun x => ba k x.1 x.2.1 x.2.2.1⟩
theorem yL (k : Nat) : an Tryz.prog (Oh k) := cO Tryz.f181 (aa (BW k) (aa (KV k) (aa (BX k) (aa (KZ k) (aa (Hr k) (aa (B3 k) (aa (Hq k) aq))))))) (by kernel_rfl) (fun _ => by kernel_rfl)
def Oi (k : Nat) : bj := ⟨182, [(dG, false), (aW, false), (aW, false)], [(.sl (.int .u8))], (.own true), fun x => gx k x.1 x.2.1 x.2.2.1⟩
theorem Hs (k : Nat) : an Tryz.prog (Oi k) := cO Tryz.f182 (aa (yL k) (aa (Hr k) aq)) (by kernel_rfl) (fun _ => by kernel_rfl)
def Oj (k : Nat) : bj := ⟨183, [((.int .i64), false), ((.int .i64), false)], [(.int .i64)], (.own true), fun x => db x.1 x.2.1⟩
theorem B4 (k : Nat) : an Tryz.prog (Oj k) := cO Tryz.f183 (aa (p9 k) aq) (by kernel_rfl) (fun _ => by kernel_rfl)
def Ok (k : Nat) : bj := ⟨186, [(dU, false)], [.bool], (.own true), fun x => eQ x.1⟩
theorem vp (k : Nat) : an Tryz.prog (Ok k) := cO Tryz.f186 (aa (p9 k) (aa (qU k) aq)) (by kernel_rfl) (fun _ => by kernel_rfl)
def Ol (k : Nat) : bj := ⟨184, [(dU, false)], [.bool], (.own true), fun x => fX x.1⟩
theorem B5 (k : Nat) : an Tryz.prog (Ol k) := cO Tryz.f184 (aa (vp k) aq) (by kernel_rfl) (fun _ => by kernel_rfl)
def Om (k : Nat) : bj := ⟨185, [(eI, false)], [.bool], (.own true), fun x => fI x.1⟩
theorem Ht (k : Nat) : an Tryz.prog (Om k) := cO Tryz.f185 aq (by kernel_rfl) (fun _ => by kernel_rfl)
def On (k : Nat) : bj := ⟨265, [(dU, false), ((.int .i64), false)], [(.sl (.int .u8))], (.own true), fun x => gu x.1 x.2.1⟩
theorem Hu (k : Nat) : an Tryz.prog (On k) := cO Tryz.f265 (aa (qV k) (aa (vo k) aq)) (by kernel_rfl) (fun _ => by kernel_rfl)
def Oo (k : Nat) : bj := ⟨214, [((.sl (.int .u8)), false)], [(.int .i64)], (.own true), fun x => jG k x.1⟩
theorem K0 (k : Nat) : an Tryz.prog (Oo k) := cO Tryz.f214 (aa (B3 k) aq) (by kernel_rfl) (fun _ => by kernel_rfl)
def Oq (k : Nat) : bj := ⟨266, [(dU, false)], [(.int .i64)], (.own true), fun x => il k x.1⟩
theorem Hv (k : Nat) : an Tryz.prog (Oq k) := cO Tryz.f266 (aa (vp k) (aa (Hu k) (aa (K0 k) aq))) (by kernel_rfl) (fun _ => by kernel_rfl)
def Ot (k : Nat) : bj := ⟨187, [(dU, false)], [(.sl (.int .u8))], (.own true), fun x => gR k x.1⟩
theorem Hw (k : Nat) : an Tryz.prog (Ot k) := cO Tryz.f187 (aa (vp k) (aa (Hv k) (aa (Hu k) aq))) (by kernel_rfl) (fun _ => by kernel_rfl)
def Ou (k : Nat) : bj := ⟨188, [(dU, false)], [.bool], (.own true), fun x => gS x.1⟩
theorem Hx (k : Nat) : an Tryz.prog (Ou k) := cO Tryz.f188 aq (by kernel_rfl) (fun _ => by kernel_rfl)
def IN (k : Nat) : bj := ⟨267, [((.int .i64), false)], [.bool], (.own true), fun x => fJ x.1⟩
theorem Hy (k : Nat) : an Tryz.prog (IN k) := cO Tryz.f267 aq (by kernel_rfl) (fun _ => by kernel_rfl)
def vq (k : Nat) : bj := ⟨189, [(eI, false)], [.bool], (.own true), fun x => iS k x.1⟩
def B6 (k : Nat) : List bj := [KU k, IN k, IM k]
theorem B7 (k : Nat) : ∀ cn ∈ B6 k, an Tryz.prog cn := (aa (p9 k) (aa (Hy k) (aa (qU k) aq)))
abbrev xn : Shape := [(1, .oM eI), (3, .v (.int .i64)), (4, .v (.int .i64))]
abbrev B8 : Exit × Shape := (Exit.ret, [(2, .v .bool)])
abbrev B9 : List (Exit × Shape) := [(Exit.exit 0, [(1, .oM eI), (3, .v (.int .i64))])]
def tZ (k : Nat) : LO := eH [] [] [] xn B8 B9 (iter (dr) k)
theorem FE (k : Nat) (rec v) : evC Tryz.prog ⟨114, []⟩ (B6 k) (inlN Tryz.prog (B6 k) 4) [] (aQ (ad Tryz.f189) [0]) (Kb [] [] [] xn B8 B9 rec) (gO [] [] xn v.1 v.2) = (dr) rec v := by kernel_rfl
theorem FF (k : Nat) {c : Cx} (hP : c.P = Tryz.prog) (hm : c.m = ⟨114, []⟩) (hg : c.gs = []) : ch c (tZ k) (aQ (ad Tryz.f189) [0]) :=
  cE hP hm hg (B7 k) (aO.of (code := (aQ (ad Tryz.f189) [0])) (bs := []) (by kernel_rfl) aO.nil) (fun rec v => FE k rec v) k
theorem K1 (k : Nat) (x) : om Tryz.prog (B6 k) (inlN Tryz.prog (B6 k) 4) [(7, tZ k)] Tryz.f189 (ad Tryz.f189) (vq k).ps (vq k).rs (vq k).rm x = (vq k).m x := by kernel_rfl
theorem yM (k : Nat) : an Tryz.prog (vq k) :=
  ft (B7 k) (cn := vq k) (fn := Tryz.f189) (code := ad Tryz.f189) (m := ⟨114, []⟩) (gs := []) (by kernel_rfl) (by kernel_rfl) (by kernel_rfl) (by kernel_rfl) (by kernel_rfl) (fun _ => by kernel_rfl)
    [(7, tZ k)] (fun c hP hm hg => (aO.of (code := (ad Tryz.f189)) (bs := [(aQ (ad Tryz.f189) [0])]) (by kernel_rfl) (aO.cons (b := (aQ (ad Tryz.f189) [0])) (by kernel_rfl) (FF k hP hm hg) aO.nil))) (K1 k)
def xo (k : Nat) : bj := ⟨268, [(eI, false)], [(.int .i64)], (.own true), fun x => jH k x.1⟩
def Ca (k : Nat) : List bj := [vq k]
theorem Cb (k : Nat) : ∀ cn ∈ Ca k, an Tryz.prog cn := (aa (yM k) aq)
abbrev xp : Shape := [(1, .oM eI), (3, .v (.int .i64)), (4, .v (.int .i64))]
abbrev Cc : Exit × Shape := (Exit.exit 0, [(3, .v (.int .i64))])
abbrev Cd : List (Exit × Shape) := []
def ua (k : Nat) : LO := eH [] [] [] xp Cc Cd (iter (cP) k)
theorem FG (k : Nat) (rec v) : evC Tryz.prog ⟨26, []⟩ (Ca k) (inlN Tryz.prog (Ca k) 4) [] (aQ (ad Tryz.f268) [0]) (Kb [] [] [] xp Cc Cd rec) (gO [] [] xp v.1 v.2) = (cP) rec v := by kernel_rfl
theorem FH (k : Nat) {c : Cx} (hP : c.P = Tryz.prog) (hm : c.m = ⟨26, []⟩) (hg : c.gs = []) : ch c (ua k) (aQ (ad Tryz.f268) [0]) :=
  cE hP hm hg (Cb k) (aO.of (code := (aQ (ad Tryz.f268) [0])) (bs := []) (by kernel_rfl) aO.nil) (fun rec v => FG k rec v) k
theorem K2 (k : Nat) (x) : om Tryz.prog (Ca k) (inlN Tryz.prog (Ca k) 4) [(5, ua k)] Tryz.f268 (ad Tryz.f268) (xo k).ps (xo k).rs (xo k).rm x = (xo k).m x := by kernel_rfl
theorem K3 (k : Nat) : an Tryz.prog (xo k) :=
  ft (Cb k) (cn := xo k) (fn := Tryz.f268) (code := ad Tryz.f268) (m := ⟨26, []⟩) (gs := []) (by kernel_rfl) (by kernel_rfl) (by kernel_rfl) (by kernel_rfl) (by kernel_rfl) (fun _ => by kernel_rfl)
    [(5, ua k)] (fun c hP hm hg => (aO.of (code := (ad Tryz.f268)) (bs := [(aQ (ad Tryz.f268) [0])]) (by kernel_rfl) (aO.cons (b := (aQ (ad Tryz.f268) [0])) (by kernel_rfl) (FH k hP hm hg) aO.nil))) (K2 k)
def K4 (k : Nat) : bj := ⟨269, [(eI, false), ((.int .i64), false)], [(.int .u8)], (.own true), fun x => gw x.1 x.2.1⟩
theorem K5 (k : Nat) : an Tryz.prog (K4 k) := cO Tryz.f269 aq (by kernel_rfl) (fun _ => by kernel_rfl)
def Ai (k : Nat) : bj := ⟨190, [(eI, false)], [(.sl (.int .u8))], (.own true), fun x => iC k x.1⟩
def Ce (k : Nat) : List bj := [vq k, KP k, xo k, KO k, K4 k, Fu k]
theorem Cf (k : Nat) : ∀ cn ∈ Ce k, an Tryz.prog cn := (aa (yM k) (aa (vn k) (aa (K3 k) (aa (qV k) (aa (K5 k) (aa (vo k) aq))))))
abbrev xq : Shape := [(1, .oM eI), (3, .own true (.sl (.int .u8))), (4, .v (.int .i64))]
abbrev Cg : Exit × Shape := (Exit.exit 0, [(1, .oM eI), (3, .own true (.sl (.int .u8)))])
abbrev Ch : List (Exit × Shape) := []
def uc (k : Nat) : LO := eH [] [] [] xq Cg Ch (iter (cQ) k)
theorem FI (k : Nat) (rec v) : evC Tryz.prog ⟨80, []⟩ (Ce k) (inlN Tryz.prog (Ce k) 4) [] (aQ (ad Tryz.f190) [0]) (Kb [] [] [] xq Cg Ch rec) (gO [] [] xq v.1 v.2) = (cQ) rec v := by kernel_rfl
theorem FJ (k : Nat) {c : Cx} (hP : c.P = Tryz.prog) (hm : c.m = ⟨80, []⟩) (hg : c.gs = []) : ch c (uc k) (aQ (ad Tryz.f190) [0]) :=
  cE hP hm hg (Cf k) (aO.of (code := (aQ (ad Tryz.f190) [0])) (bs := []) (by kernel_rfl) aO.nil) (fun rec v => FI k rec v) k
theorem K6 (k : Nat) (x) : om Tryz.prog (Ce k) (inlN Tryz.prog (Ce k) 4) [(9, uc k)] Tryz.f190 (ad Tryz.f190) (Ai k).ps (Ai k).rs (Ai k).rm x = (Ai k).m x := by kernel_rfl
theorem Hz (k : Nat) : an Tryz.prog (Ai k) :=
  ft (Cf k) (cn := Ai k) (fn := Tryz.f190) (code := ad Tryz.f190) (m := ⟨80, []⟩) (gs := []) (by kernel_rfl) (by kernel_rfl) (by kernel_rfl) (by kernel_rfl) (by kernel_rfl) (fun _ => by kernel_rfl)
    [(9, uc k)] (fun c hP hm hg => (aO.of (code := (ad Tryz.f190)) (bs := [(aQ (ad Tryz.f190) [0])]) (by kernel_rfl) (aO.cons (b := (aQ (ad Tryz.f190) [0])) (by kernel_rfl) (FJ k hP hm hg) aO.nil))) (K6 k)
def Ov (k : Nat) : bj := ⟨191, [(fu, false)], [.bool], (.own true), fun x => fA x.1⟩
theorem Ci (k : Nat) : an Tryz.prog (Ov k) := cO Tryz.f191 aq (by kernel_rfl) (fun _ => by kernel_rfl)
def QT (k : Nat) : bj := ⟨49, [(aU, false)], [.bool], (.own true), fun x => dP k x.1⟩
theorem K7 (k : Nat) : an Tryz.prog (QT k) := cO Tryz.f49 (aa (BU k) (aa (BV k) (aa (yL k) (aa (Hs k) (aa (B4 k) (aa (B5 k) (aa (Ht k) (aa (vp k) (aa (Hw k) (aa (Ci k) (aa (Hx k) (aa (yM k) (aa (Hz k) aq))))))))))))) (by kernel_rfl) (fun _ => by kernel_rfl)
def UZ (k : Nat) : bj := ⟨85, [((.sl (.int .i64)), false)], [.bool], (.own true), fun x => Sj k x.1⟩
def Vu (k : Nat) : List bj := []
theorem Ur (k : Nat) : ∀ cn ∈ Vu k, an Tryz.prog cn := aq
abbrev TE : Shape := [(0, .v (.sl (.int .i64))), (3, .v (.int .i64))]
abbrev Us : Exit × Shape := (Exit.ret, [(2, .v .bool)])
abbrev Ut : List (Exit × Shape) := [(Exit.exit 0, [])]
def Tf (k : Nat) : LO := eH [] [] [] TE Us Ut (iter (RV) k)
theorem U0 (k : Nat) (rec v) : evC Tryz.prog ⟨25, []⟩ (Vu k) (inlN Tryz.prog (Vu k) 4) [] (aQ (ad Tryz.f85) [0]) (Kb [] [] [] TE Us Ut rec) (gO [] [] TE v.1 v.2) = (RV) rec v := by kernel_rfl
theorem U1 (k : Nat) {c : Cx} (hP : c.P = Tryz.prog) (hm : c.m = ⟨25, []⟩) (hg : c.gs = []) : ch c (Tf k) (aQ (ad Tryz.f85) [0]) :=
  cE hP hm hg (Ur k) (aO.of (code := (aQ (ad Tryz.f85) [0])) (bs := []) (by kernel_rfl) aO.nil) (fun rec v => U0 k rec v) k
theorem VS (k : Nat) (x) : om Tryz.prog (Vu k) (inlN Tryz.prog (Vu k) 4) [(4, Tf k)] Tryz.f85 (ad Tryz.f85) (UZ k).ps (UZ k).rs (UZ k).rm x = (UZ k).m x := by kernel_rfl
theorem VT (k : Nat) : an Tryz.prog (UZ k) :=
  ft (Ur k) (cn := UZ k) (fn := Tryz.f85) (code := ad Tryz.f85) (m := ⟨25, []⟩) (gs := []) (by kernel_rfl) (by kernel_rfl) (by kernel_rfl) (by kernel_rfl) (by kernel_rfl) (fun _ => by kernel_rfl)
    [(4, Tf k)] (fun c hP hm hg => (aO.of (code := (ad Tryz.f85)) (bs := [(aQ (ad Tryz.f85) [0])]) (by kernel_rfl) (aO.cons (b := (aQ (ad Tryz.f85) [0])) (by kernel_rfl) (U1 k hP hm hg) aO.nil))) (VS k)
def Ow (k : Nat) : bj := ⟨192, [((.int .i64), false)], [(.sl (.int .u8))], (.own true), fun x => jU x.1⟩
theorem K8 (k : Nat) : an Tryz.prog (Ow k) := cO Tryz.f192 (aa (qV k) (aa (vn k) aq)) (by kernel_rfl) (fun _ => by kernel_rfl)
def Ox (k : Nat) : bj := ⟨103, [(fu, false)], [(.sl (.int .u8))], (.own true), fun x => gy x.1⟩
theorem K9 (k : Nat) : an Tryz.prog (Ox k) := cO Tryz.f103 (aa (Ci k) (aa (K8 k) (aa (qV k) aq))) (by kernel_rfl) (fun _ => by kernel_rfl)
def QU (k : Nat) : bj := ⟨27, [(aU, false)], [(.sl (.int .u8))], (.own true), fun x => di k x.1⟩
theorem Oy (k : Nat) : an Tryz.prog (QU k) := cO Tryz.f27 (aa (BU k) (aa (BV k) (aa (yL k) (aa (Hs k) (aa (B4 k) (aa (B5 k) (aa (Ht k) (aa (vp k) (aa (Hw k) (aa (Ci k) (aa (K9 k) (aa (Hx k) (aa (yM k) (aa (Hz k) aq)))))))))))))) (by kernel_rfl) (fun _ => by kernel_rfl)
def Le (k : Nat) : bj := ⟨213, [((.sl (.int .u8)), false), ((.int .i64), false)], [(.int .i64), .bool], (.own true), fun x => aN x.1 x.2.1⟩
theorem yN (k : Nat) : an Tryz.prog (Le k) := cO Tryz.f213 aq (by kernel_rfl) (fun _ => by kernel_rfl)
def Oz (k : Nat) : bj := ⟨233, [((.sl (.int .u8)), false)], [fu, (.int .i64)], (.own true), fun x => jd k x.1⟩
theorem Lg (k : Nat) : an Tryz.prog (Oz k) := cO Tryz.f233 (aa (yN k) (aa (yI k) aq)) (by kernel_rfl) (fun _ => by kernel_rfl)
def OA (k : Nat) : bj := ⟨234, [((.sl (.int .u8)), false)], [dU, (.sl (.int .u8)), (.int .i64)], (.own true), fun x => jI k x.1⟩
theorem Lh (k : Nat) : an Tryz.prog (OA k) := cO Tryz.f234 (aa (yN k) (aa (yJ k) (aa (Hv k) aq))) (by kernel_rfl) (fun _ => by kernel_rfl)
def Aj (k : Nat) : bj := ⟨235, [((.sl (.int .u8)), false)], [eI, (.sl (.int .u8)), (.int .i64)], (.own true), fun x => ko k x.1⟩
def Cj (k : Nat) : List bj := [Le k, xe k, Fx k, IN k]
theorem Ck (k : Nat) : ∀ cn ∈ Cj k, an Tryz.prog cn := (aa (yN k) (aa (yI k) (aa (yJ k) (aa (Hy k) aq))))
abbrev ud : Shape := [(0, .v (.sl (.int .u8))), (2, .box true eI), (7, .v (.int .i64)), (10, .box true eI), (11, .v (.int .i64)), (12, .v (.int .i64))]
abbrev yO : Exit × Shape := (Exit.ret, [(2, .box true eI), (3, .own true (.sl (.int .u8))), (4, .v (.int .i64))])
abbrev yP : List (Exit × Shape) := [(Exit.exit 0, [(0, .v (.sl (.int .u8))), (2, .box true eI), (7, .v (.int .i64)), (10, .box true eI), (11, .v (.int .i64)), (12, .v (.int .i64))])]
def qW (k : Nat) : LO := eH [] [] [] ud yO yP (iter (dJ) k)
theorem Cl (k : Nat) (rec v) : evC Tryz.prog ⟨167, []⟩ (Cj k) (inlN Tryz.prog (Cj k) 4) [] (aQ (ad Tryz.f235) [0]) (Kb [] [] [] ud yO yP rec) (gO [] [] ud v.1 v.2) = (dJ) rec v := by kernel_rfl
theorem Cm (k : Nat) {c : Cx} (hP : c.P = Tryz.prog) (hm : c.m = ⟨167, []⟩) (hg : c.gs = []) : ch c (qW k) (aQ (ad Tryz.f235) [0]) :=
  cE hP hm hg (Ck k) (aO.of (code := (aQ (ad Tryz.f235) [0])) (bs := []) (by kernel_rfl) aO.nil) (fun rec v => Cl k rec v) k
theorem Li (k : Nat) (x) : om Tryz.prog (Cj k) (inlN Tryz.prog (Cj k) 4) [(17, qW k)] Tryz.f235 (ad Tryz.f235) (Aj k).ps (Aj k).rs (Aj k).rm x = (Aj k).m x := by kernel_rfl
theorem Lj (k : Nat) : an Tryz.prog (Aj k) :=
  ft (Ck k) (cn := Aj k) (fn := Tryz.f235) (code := ad Tryz.f235) (m := ⟨167, []⟩) (gs := []) (by kernel_rfl) (by kernel_rfl) (by kernel_rfl) (by kernel_rfl) (by kernel_rfl) (fun _ => by kernel_rfl)
    [(17, qW k)] (fun c hP hm hg => (aO.of (code := (ad Tryz.f235)) (bs := [(aQ (ad Tryz.f235) [0])]) (by kernel_rfl) (aO.cons (b := (aQ (ad Tryz.f235) [0])) (by kernel_rfl) (Cm k hP hm hg) aO.nil))) (Li k)
def OB (k : Nat) : bj := ⟨236, [((.sl (.int .u8)), false), ((.int .i64), false), (aW, false), (aW, false)], [dG, (.int .i64)], (.own true), fun x => dx k x.1 x.2.1 x.2.2.1 x.2.2.2.1⟩
theorem Lk (k : Nat) : an Tryz.prog (OB k) := cO Tryz.f236 (aa (BW k) (aa (p9 k) (aa (B4 k) (aa (yN k) (aa (yI k) (aa (yL k) aq)))))) (by kernel_rfl) (fun _ => by kernel_rfl)
def OC (k : Nat) : bj := ⟨142, [((.sl (.int .u8)), false)], [aU, (.int .i64)], (.own true), fun x => iM k x.1⟩
theorem Ll (k : Nat) : an Tryz.prog (OC k) := cO Tryz.f142 (aa (Lg k) (aa (Lh k) (aa (B5 k) (aa (BU k) (aa (BV k) (aa (Lk k) (aa (Lj k) aq))))))) (by kernel_rfl) (fun _ => by kernel_rfl)
def QV (k : Nat) : bj := ⟨50, [(aU, false)], [aU], (.own true), fun x => jJ k x.1⟩
theorem OD (k : Nat) : an Tryz.prog (QV k) := cO Tryz.f50 (aa (Oy k) (aa (Ll k) aq)) (by kernel_rfl) (fun _ => by kernel_rfl)
def Wt (k : Nat) : bj := ⟨86, [(aU, false)], [(.int .i64)], (.own true), fun x => Sd k x.1⟩
theorem VU (k : Nat) : an Tryz.prog (Wt k) := cO Tryz.f86 (aa (K7 k) (aa (Oy k) aq)) (by kernel_rfl) (fun _ => by kernel_rfl)
def OE (k : Nat) : bj := ⟨143, [((.int .i64), false)], [(.int .i64), (.int .i64)], (.own true), fun x => mc x.1⟩
theorem Ln (k : Nat) : an Tryz.prog (OE k) := cO Tryz.f143 (aa (p9 k) aq) (by kernel_rfl) (fun _ => by kernel_rfl)
def QW (k : Nat) : bj := ⟨53, [(aU, false)], [(.int .i64), (.int .i64)], (.own true), fun x => jV x.1⟩
theorem OF (k : Nat) : an Tryz.prog (QW k) := cO Tryz.f53 (aa (Ln k) aq) (by kernel_rfl) (fun _ => by kernel_rfl)
def QX (k : Nat) : bj := ⟨55, [(aU, false)], [yQ], (.own true), fun x => jq k x.1⟩
theorem OG (k : Nat) : an Tryz.prog (QX k) := cO Tryz.f55 (aa (K7 k) (aa (BU k) (aa (BV k) aq))) (by kernel_rfl) (fun _ => by kernel_rfl)
def Qt (k : Nat) : bj := ⟨56, [(dI, false), (aW, false)], [.bool], (.own true), fun x => dV k x.1 x.2.1⟩
theorem IP (k : Nat) : an Tryz.prog (Qt k) := cO Tryz.f56 (aa (BT k) (aa (qU k) (aa (yH k) (aa (BS k) aq)))) (by kernel_rfl) (fun _ => by kernel_rfl)
def QY (k : Nat) : bj := ⟨54, [(fw, false), (yQ, false)], [.bool], (.own true), fun x => je k x.1 x.2.1⟩
theorem OH (k : Nat) : an Tryz.prog (QY k) := cO Tryz.f54 (aa (IP k) aq) (by kernel_rfl) (fun _ => by kernel_rfl)
def Ks (k : Nat) : bj := ⟨58, [(dI, false), (dI, false), (aW, false)], [aW], (.own true), fun x => jf k x.1 x.2.1 x.2.2.1⟩
def Lo (k : Nat) : List bj := [KT k, Qt k, Fu k, xg k, Fx k]
theorem HA (k : Nat) : ∀ cn ∈ Lo k, an Tryz.prog cn := (aa (Hp k) (aa (IP k) (aa (vo k) (aa (BS k) (aa (yJ k) aq)))))
abbrev Cn : Shape := [(6, .box true aW), (7, .own true (.sl (.int .u8))), (8, .own true (.sl (.int .u8))), (9, .own true (.sl (.int .u8))), (10, .v (.int .i64))]
abbrev HB : Exit × Shape := (Exit.exit 0, [(6, .box true aW), (7, .own true (.sl (.int .u8)))])
abbrev HC : List (Exit × Shape) := []
def xr (k : Nat) : LO := eH [] [] [] Cn HB HC (iter (cC) k)
theorem IQ (k : Nat) (rec v) : evC Tryz.prog ⟨63, []⟩ (Lo k) (inlN Tryz.prog (Lo k) 4) [] (aQ (ad Tryz.f58) [0]) (Kb [] [] [] Cn HB HC rec) (gO [] [] Cn v.1 v.2) = (cC) rec v := by kernel_rfl
theorem IS (k : Nat) {c : Cx} (hP : c.P = Tryz.prog) (hm : c.m = ⟨63, []⟩) (hg : c.gs = []) : ch c (xr k) (aQ (ad Tryz.f58) [0]) :=
  cE hP hm hg (HA k) (aO.of (code := (aQ (ad Tryz.f58) [0])) (bs := []) (by kernel_rfl) aO.nil) (fun rec v => IQ k rec v) k
theorem OI (k : Nat) (x) : om Tryz.prog (Lo k) (inlN Tryz.prog (Lo k) 4) [(7, xr k)] Tryz.f58 (ad Tryz.f58) (Ks k).ps (Ks k).rs (Ks k).rm x = (Ks k).m x := by kernel_rfl
theorem OJ (k : Nat) : an Tryz.prog (Ks k) :=
  ft (HA k) (cn := Ks k) (fn := Tryz.f58) (code := ad Tryz.f58) (m := ⟨63, []⟩) (gs := []) (by kernel_rfl) (by kernel_rfl) (by kernel_rfl) (by kernel_rfl) (by kernel_rfl) (fun _ => by kernel_rfl)
    [(7, xr k)] (fun c hP hm hg => (aO.of (code := (ad Tryz.f58)) (bs := [(aQ (ad Tryz.f58) [0])]) (by kernel_rfl) (aO.cons (b := (aQ (ad Tryz.f58) [0])) (by kernel_rfl) (IS k hP hm hg) aO.nil))) (OI k)
def vt (k : Nat) : bj := ⟨57, [(aU, true), (aW, false), (aW, false)], [aU], .mv, fun x => lx x.1 x.2.1 x.2.2.1⟩
def Co (k : Nat) : List bj := []
theorem FK (k : Nat) : ∀ cn ∈ Co k, an Tryz.prog cn := aq
theorem IT (k : Nat) (x) : FL Tryz.prog (Co k) (inlN Tryz.prog (Co k) 4) [] Tryz.f57 (ad Tryz.f57) (vt k).ps (vt k).rs x = (vt k).m x := by kernel_rfl
theorem IU (k : Nat) : an Tryz.prog (vt k) :=
  HD (FK k) (cn := vt k) (fn := Tryz.f57) (code := ad Tryz.f57) (m := ⟨23, []⟩) (gs := []) (by kernel_rfl) (by kernel_rfl) (by kernel_rfl) (by kernel_rfl) (by kernel_rfl) rfl
    [] (fun c hP hm hg => (aO.of (code := (ad Tryz.f57)) (bs := []) (by kernel_rfl) aO.nil)) (IT k)
def vu (k : Nat) : bj := ⟨59, [(aU, true), ((.int .i64), false), ((.int .i64), false)], [aU], .mv, fun x => dB x.1 x.2.1 x.2.2.1⟩
def Cp (k : Nat) : List bj := []
theorem FM (k : Nat) : ∀ cn ∈ Cp k, an Tryz.prog cn := aq
theorem IV (k : Nat) (x) : FL Tryz.prog (Cp k) (inlN Tryz.prog (Cp k) 4) [] Tryz.f59 (ad Tryz.f59) (vu k).ps (vu k).rs x = (vu k).m x := by kernel_rfl
theorem IW (k : Nat) : an Tryz.prog (vu k) :=
  HD (FM k) (cn := vu k) (fn := Tryz.f59) (code := ad Tryz.f59) (m := ⟨23, []⟩) (gs := []) (by kernel_rfl) (by kernel_rfl) (by kernel_rfl) (by kernel_rfl) (by kernel_rfl) rfl
    [] (fun c hP hm hg => (aO.of (code := (ad Tryz.f59)) (bs := []) (by kernel_rfl) aO.nil)) (IV k)
def c8 (k : Nat) : bj := ⟨8, [(fw, false), (aU, false)], [aU, (.int .i64)], (.own true), fun x => dQ k x.1 x.2.1⟩
theorem QZ (k : Nat) : an Tryz.prog (c8 k) := cO Tryz.f8 (aa (Oa k) (aa (K7 k) (aa (OD k) (aa (BU k) (aa (BV k) (aa (OF k) (aa (OG k) (aa (OH k) (aa (IP k) (aa (OJ k) (aa (IU k) (aa (IW k) aq)))))))))))) (by kernel_rfl) (fun _ => by kernel_rfl)
def Rh (k : Nat) : bj := ⟨16, [((.sl fw), false), (aU, false), ((.sl (.int .i64)), false)], [aU, (.sl (.int .i64)), (.int .i64)], (.own true), fun x => Sq k x.1 x.2.1 x.2.2.1⟩
def Vv (k : Nat) : List bj := [UW k, QT k, UZ k, QV k, Wt k, c8 k]
theorem Uu (k : Nat) : ∀ cn ∈ Vv k, an Tryz.prog cn := (aa (VQ k) (aa (K7 k) (aa (VT k) (aa (OD k) (aa (VU k) (aa (QZ k) aq))))))
abbrev TF : Shape := [(0, .v (.sl fw)), (6, .box true aU), (9, .own true (.sl (.int .i64))), (10, .box true aU), (11, .v (.int .i64))]
abbrev Uv : Exit × Shape := (Exit.ret, [(6, .box true aU), (7, .own true (.sl (.int .i64))), (8, .v (.int .i64))])
abbrev Uw : List (Exit × Shape) := [(Exit.exit 0, [(6, .box true aU), (9, .own true (.sl (.int .i64))), (10, .box true aU)])]
def Tg (k : Nat) : LO := eH [] [] [] TF Uv Uw (iter (RX k) k)
theorem U2 (k : Nat) (rec v) : evC Tryz.prog ⟨80, []⟩ (Vv k) (inlN Tryz.prog (Vv k) 4) [] (aQ (ad Tryz.f16) [0]) (Kb [] [] [] TF Uv Uw rec) (gO [] [] TF v.1 v.2) = (RX k) rec v := by kernel_rfl
theorem U3 (k : Nat) {c : Cx} (hP : c.P = Tryz.prog) (hm : c.m = ⟨80, []⟩) (hg : c.gs = []) : ch c (Tg k) (aQ (ad Tryz.f16) [0]) :=
  cE hP hm hg (Uu k) (aO.of (code := (aQ (ad Tryz.f16) [0])) (bs := []) (by kernel_rfl) aO.nil) (fun rec v => U2 k rec v) k
theorem VV (k : Nat) (x) : om Tryz.prog (Vv k) (inlN Tryz.prog (Vv k) 4) [(6, Tg k)] Tryz.f16 (ad Tryz.f16) (Rh k).ps (Rh k).rs (Rh k).rm x = (Rh k).m x := by kernel_rfl
theorem VW (k : Nat) : an Tryz.prog (Rh k) :=
  ft (Uu k) (cn := Rh k) (fn := Tryz.f16) (code := ad Tryz.f16) (m := ⟨80, []⟩) (gs := []) (by kernel_rfl) (by kernel_rfl) (by kernel_rfl) (by kernel_rfl) (by kernel_rfl) (fun _ => by kernel_rfl)
    [(6, Tg k)] (fun c hP hm hg => (aO.of (code := (ad Tryz.f16)) (bs := [(aQ (ad Tryz.f16) [0])]) (by kernel_rfl) (aO.cons (b := (aQ (ad Tryz.f16) [0])) (by kernel_rfl) (U3 k hP hm hg) aO.nil))) (VV k)
def OK (k : Nat) : bj := ⟨241, [(dI, false)], [.bool], (.own true), fun x => jr x.1⟩
theorem Cq (k : Nat) : an Tryz.prog (OK k) := cO Tryz.f241 aq (by kernel_rfl) (fun _ => by kernel_rfl)
def Lp (k : Nat) : bj := ⟨151, [((.int .i64), false), ((.int .i64), false), ((.int .i64), false)], [.bool], (.own true), fun x => bG x.1 x.2.1 x.2.2.1⟩
theorem mC (k : Nat) : an Tryz.prog (Lp k) := cO Tryz.f151 aq (by kernel_rfl) (fun _ => by kernel_rfl)
def OL (k : Nat) : bj := ⟨297, [((.int .i64), false)], [.bool], (.own true), fun x => dC x.1⟩
theorem HE (k : Nat) : an Tryz.prog (OL k) := cO Tryz.f297 (aa (mC k) aq) (by kernel_rfl) (fun _ => by kernel_rfl)
def Lq (k : Nat) : bj := ⟨242, [(aW, false)], [.bool], (.own true), fun x => fC x.1⟩
theorem vv (k : Nat) : an Tryz.prog (Lq k) := cO Tryz.f242 (aa (HE k) aq) (by kernel_rfl) (fun _ => by kernel_rfl)
def Ls (k : Nat) : bj := ⟨243, [(aW, false)], [(.int .i64)], (.own true), fun x => jW x.1⟩
theorem HF (k : Nat) : an Tryz.prog (Ls k) := cO Tryz.f243 aq (by kernel_rfl) (fun _ => by kernel_rfl)
def Ak (k : Nat) : bj := ⟨326, [((.int .i64), false), ((.int .i64), false)], [(.sl (.int .u8))], (.own true), fun x => mT k x.1 x.2.1⟩
def Cs (k : Nat) : List bj := []
theorem Ct (k : Nat) : ∀ cn ∈ Cs k, an Tryz.prog cn := aq
abbrev xt : Shape := [(0, .v (.int .i64)), (1, .v (.int .i64)), (5, .own true (.sl (.int .u8))), (10, .v (.int .i64)), (11, .v (.int .i64))]
abbrev Cu : Exit × Shape := (Exit.exit 0, [(5, .own true (.sl (.int .u8)))])
abbrev Cv : List (Exit × Shape) := []
def ue (k : Nat) : LO := eH [] [] [] xt Cu Cv (iter (iW) k)
theorem FN (k : Nat) (rec v) : evC Tryz.prog ⟨27, []⟩ (Cs k) (inlN Tryz.prog (Cs k) 4) [] (aQ (ad Tryz.f326) [0]) (Kb [] [] [] xt Cu Cv rec) (gO [] [] xt v.1 v.2) = (iW) rec v := by kernel_rfl
theorem FO (k : Nat) {c : Cx} (hP : c.P = Tryz.prog) (hm : c.m = ⟨27, []⟩) (hg : c.gs = []) : ch c (ue k) (aQ (ad Tryz.f326) [0]) :=
  cE hP hm hg (Ct k) (aO.of (code := (aQ (ad Tryz.f326) [0])) (bs := []) (by kernel_rfl) aO.nil) (fun rec v => FN k rec v) k
theorem Lt (k : Nat) (x) : om Tryz.prog (Cs k) (inlN Tryz.prog (Cs k) 4) [(3, ue k)] Tryz.f326 (ad Tryz.f326) (Ak k).ps (Ak k).rs (Ak k).rm x = (Ak k).m x := by kernel_rfl
theorem HG (k : Nat) : an Tryz.prog (Ak k) :=
  ft (Ct k) (cn := Ak k) (fn := Tryz.f326) (code := ad Tryz.f326) (m := ⟨27, []⟩) (gs := []) (by kernel_rfl) (by kernel_rfl) (by kernel_rfl) (by kernel_rfl) (by kernel_rfl) (fun _ => by kernel_rfl)
    [(3, ue k)] (fun c hP hm hg => (aO.of (code := (ad Tryz.f326)) (bs := [(aQ (ad Tryz.f326) [0])]) (by kernel_rfl) (aO.cons (b := (aQ (ad Tryz.f326) [0])) (by kernel_rfl) (FO k hP hm hg) aO.nil))) (Lt k)
def Lu (k : Nat) : bj := ⟨311, [((.int .i64), false)], [(.sl (.int .u8))], (.own true), fun x => dL k x.1⟩
theorem yR (k : Nat) : an Tryz.prog (Lu k) := cO Tryz.f311 (aa (HG k) aq) (by kernel_rfl) (fun _ => by kernel_rfl)
def xu (k : Nat) : bj := ⟨249, [((.sl (.sl (.int .u8))), false)], [(.sl (.int .u8))], (.own true), fun x => aH k x.1⟩
def xv (k : Nat) : List bj := []
theorem xx (k : Nat) : ∀ cn ∈ xv k, an Tryz.prog cn := aq
abbrev xy : Shape := [(0, .v (.sl (.sl (.int .u8)))), (3, .v (.int .i64)), (9, .v (.sl (.sl (.int .u8)))), (10, .v (.int .i64)), (11, .v (.int .i64))]
abbrev Cw : Exit × Shape := (Exit.exit 0, [(0, .v (.sl (.sl (.int .u8)))), (3, .v (.int .i64))])
abbrev Cy : List (Exit × Shape) := []
def uf (k : Nat) : LO := eH [] [] [] xy Cw Cy (iter (cB) k)
theorem FP (k : Nat) (rec v) : evC Tryz.prog ⟨36, []⟩ (xv k) (inlN Tryz.prog (xv k) 4) [] (aQ (ad Tryz.f249) [0]) (Kb [] [] [] xy Cw Cy rec) (gO [] [] xy v.1 v.2) = (cB) rec v := by kernel_rfl
theorem FQ (k : Nat) {c : Cx} (hP : c.P = Tryz.prog) (hm : c.m = ⟨36, []⟩) (hg : c.gs = []) : ch c (uf k) (aQ (ad Tryz.f249) [0]) :=
  cE hP hm hg (xx k) (aO.of (code := (aQ (ad Tryz.f249) [0])) (bs := []) (by kernel_rfl) aO.nil) (fun rec v => FP k rec v) k
abbrev ug : Shape := [(6, .own true (.sl (.int .u8))), (25, .v (.sl (.sl (.int .u8)))), (26, .v (.int .i64)), (27, .v (.int .i64))]
abbrev yS : Exit × Shape := (Exit.exit 2, [(6, .own true (.sl (.int .u8)))])
abbrev yT : List (Exit × Shape) := []
def qX (k : Nat) : LO := eH [] [] [] ug yS yT (iter (bQ) k)
theorem Cz (k : Nat) (rec v) : evC Tryz.prog ⟨36, []⟩ (xv k) (inlN Tryz.prog (xv k) 4) [] (aQ (ad Tryz.f249) [1]) (Kb [] [] [] ug yS yT rec) (gO [] [] ug v.1 v.2) = (bQ) rec v := by kernel_rfl
theorem CA (k : Nat) {c : Cx} (hP : c.P = Tryz.prog) (hm : c.m = ⟨36, []⟩) (hg : c.gs = []) : ch c (qX k) (aQ (ad Tryz.f249) [1]) :=
  cE hP hm hg (xx k) (aO.of (code := (aQ (ad Tryz.f249) [1])) (bs := []) (by kernel_rfl) aO.nil) (fun rec v => Cz k rec v) k
theorem Lv (k : Nat) (x) : om Tryz.prog (xv k) (inlN Tryz.prog (xv k) 4) [(3, uf k), (11, qX k)] Tryz.f249 (ad Tryz.f249) (xu k).ps (xu k).rs (xu k).rm x = (xu k).m x := by kernel_rfl
theorem qY (k : Nat) : an Tryz.prog (xu k) :=
  ft (xx k) (cn := xu k) (fn := Tryz.f249) (code := ad Tryz.f249) (m := ⟨36, []⟩) (gs := []) (by kernel_rfl) (by kernel_rfl) (by kernel_rfl) (by kernel_rfl) (by kernel_rfl) (fun _ => by kernel_rfl)
    [(3, uf k), (11, qX k)] (fun c hP hm hg => (aO.of (code := (ad Tryz.f249)) (bs := [(aQ (ad Tryz.f249) [0]), (aQ (ad Tryz.f249) [1])]) (by kernel_rfl) (aO.cons (b := (aQ (ad Tryz.f249) [0])) (by kernel_rfl) (FQ k hP hm hg) (aO.cons (b := (aQ (ad Tryz.f249) [1])) (by kernel_rfl) (CA k hP hm hg) aO.nil)))) (Lv k)
def IX (k : Nat) : bj := ⟨298, [(aW, false)], [(.sl (.int .u8))], (.own true), fun x => cD k x.1⟩
theorem yU (k : Nat) : an Tryz.prog (IX k) := cO Tryz.f298 (aa (vv k) (aa (yR k) (aa (qY k) aq))) (by kernel_rfl) (fun _ => by kernel_rfl)
def Lw (k : Nat) : bj := ⟨299, [((.int .i64), false), ((.int .i64), false), ((.int .i64), false)], [(.int .i64)], (.own true), fun x => nE x.1 x.2.1 x.2.2.1⟩
theorem Lz (k : Nat) : an Tryz.prog (Lw k) := cO Tryz.f299 aq (by kernel_rfl) (fun _ => by kernel_rfl)
def Al (k : Nat) : bj := ⟨194, [((.sl (.int .u8)), false)], [(.int .i64)], (.own true), fun x => iX k x.1⟩
def CB (k : Nat) : List bj := []
theorem CC (k : Nat) : ∀ cn ∈ CB k, an Tryz.prog cn := aq
abbrev xz : Shape := [(3, .v (.int .i64)), (6, .v (.sl (.int .u8))), (7, .v (.int .i64)), (8, .v (.int .i64))]
abbrev CD : Exit × Shape := (Exit.exit 0, [(3, .v (.int .i64))])
abbrev CE : List (Exit × Shape) := []
def uh (k : Nat) : LO := eH [] [] [] xz CD CE (iter (iq) k)
theorem FR (k : Nat) (rec v) : evC Tryz.prog ⟨19, []⟩ (CB k) (inlN Tryz.prog (CB k) 4) [] (aQ (ad Tryz.f194) [0]) (Kb [] [] [] xz CD CE rec) (gO [] [] xz v.1 v.2) = (iq) rec v := by kernel_rfl
theorem FT (k : Nat) {c : Cx} (hP : c.P = Tryz.prog) (hm : c.m = ⟨19, []⟩) (hg : c.gs = []) : ch c (uh k) (aQ (ad Tryz.f194) [0]) :=
  cE hP hm hg (CC k) (aO.of (code := (aQ (ad Tryz.f194) [0])) (bs := []) (by kernel_rfl) aO.nil) (fun rec v => FR k rec v) k
theorem LA (k : Nat) (x) : om Tryz.prog (CB k) (inlN Tryz.prog (CB k) 4) [(3, uh k)] Tryz.f194 (ad Tryz.f194) (Al k).ps (Al k).rs (Al k).rm x = (Al k).m x := by kernel_rfl
theorem LB (k : Nat) : an Tryz.prog (Al k) :=
  ft (CC k) (cn := Al k) (fn := Tryz.f194) (code := ad Tryz.f194) (m := ⟨19, []⟩) (gs := []) (by kernel_rfl) (by kernel_rfl) (by kernel_rfl) (by kernel_rfl) (by kernel_rfl) (fun _ => by kernel_rfl)
    [(3, uh k)] (fun c hP hm hg => (aO.of (code := (ad Tryz.f194)) (bs := [(aQ (ad Tryz.f194) [0])]) (by kernel_rfl) (aO.cons (b := (aQ (ad Tryz.f194) [0])) (by kernel_rfl) (FT k hP hm hg) aO.nil))) (LA k)
def LC (k : Nat) : bj := ⟨274, [((.sl (.int .u8)), false)], [aW, .bool], (.own true), fun x => lf k x.1⟩
theorem LD (k : Nat) : an Tryz.prog (LC k) := cO Tryz.f274 (aa (LB k) aq) (by kernel_rfl) (fun _ => by kernel_rfl)
def Am (k : Nat) : bj := ⟨244, [(aW, false), ((.int .i64), false)], [aW], (.own true), fun x => lH k x.1 x.2.1⟩
def CF (k : Nat) : List bj := [Lq k, Ls k, Lp k, IX k, Lw k, LC k]
theorem CG (k : Nat) : ∀ cn ∈ CF k, an Tryz.prog cn := (aa (vv k) (aa (HF k) (aa (mC k) (aa (yU k) (aa (Lz k) (aa (LD k) aq))))))
abbrev xA : Shape := [(1, .v (.int .i64)), (4, .box true aW), (5, .own true (.sl (.int .u8))), (24, .v (.int .i64)), (25, .v (.int .i64))]
abbrev CH : Exit × Shape := (Exit.exit 0, [(4, .box true aW), (5, .own true (.sl (.int .u8)))])
abbrev CI : List (Exit × Shape) := []
def ui (k : Nat) : LO := eH [] [] [] xA CH CI (iter (gT) k)
theorem FU (k : Nat) (rec v) : evC Tryz.prog ⟨49, []⟩ (CF k) (inlN Tryz.prog (CF k) 4) [] (aQ (ad Tryz.f244) [0]) (Kb [] [] [] xA CH CI rec) (gO [] [] xA v.1 v.2) = (gT) rec v := by kernel_rfl
theorem FW (k : Nat) {c : Cx} (hP : c.P = Tryz.prog) (hm : c.m = ⟨49, []⟩) (hg : c.gs = []) : ch c (ui k) (aQ (ad Tryz.f244) [0]) :=
  cE hP hm hg (CG k) (aO.of (code := (aQ (ad Tryz.f244) [0])) (bs := []) (by kernel_rfl) aO.nil) (fun rec v => FU k rec v) k
theorem LF (k : Nat) (x) : om Tryz.prog (CF k) (inlN Tryz.prog (CF k) 4) [(5, ui k)] Tryz.f244 (ad Tryz.f244) (Am k).ps (Am k).rs (Am k).rm x = (Am k).m x := by kernel_rfl
theorem CJ (k : Nat) : an Tryz.prog (Am k) :=
  ft (CG k) (cn := Am k) (fn := Tryz.f244) (code := ad Tryz.f244) (m := ⟨49, []⟩) (gs := []) (by kernel_rfl) (by kernel_rfl) (by kernel_rfl) (by kernel_rfl) (by kernel_rfl) (fun _ => by kernel_rfl)
    [(5, ui k)] (fun c hP hm hg => (aO.of (code := (ad Tryz.f244)) (bs := [(aQ (ad Tryz.f244) [0])]) (by kernel_rfl) (aO.cons (b := (aQ (ad Tryz.f244) [0])) (by kernel_rfl) (FW k hP hm hg) aO.nil))) (LF k)
def OM (k : Nat) : bj := ⟨150, [(dI, false)], [.bool], (.own true), fun x => fK k x.1⟩
theorem HJ (k : Nat) : an Tryz.prog (OM k) := cO Tryz.f150 (aa (Cq k) (aa (vv k) (aa (HF k) (aa (mC k) (aa (CJ k) aq))))) (by kernel_rfl) (fun _ => by kernel_rfl)
def ON (k : Nat) : bj := ⟨152, [((.int .i64), false), ((.int .i64), false)], [.bool], (.own true), fun x => kq x.1 x.2.1⟩
theorem LG (k : Nat) : an Tryz.prog (ON k) := cO Tryz.f152 aq (by kernel_rfl) (fun _ => by kernel_rfl)
def OO (k : Nat) : bj := ⟨153, [(dI, false), (dI, false)], [.bool], (.own true), fun x => jg k x.1 x.2.1⟩
theorem LH (k : Nat) : an Tryz.prog (OO k) := cO Tryz.f153 (aa (HJ k) (aa (Cq k) aq)) (by kernel_rfl) (fun _ => by kernel_rfl)
def Q0 (k : Nat) : bj := ⟨66, [(fw, false)], [.bool], (.own true), fun x => jK k x.1⟩
theorem OP (k : Nat) : an Tryz.prog (Q0 k) := cO Tryz.f66 (aa (HJ k) (aa (mC k) (aa (LG k) (aa (LH k) aq)))) (by kernel_rfl) (fun _ => by kernel_rfl)
def Vw (k : Nat) : bj := ⟨166, [(fw, false)], [.bool], (.own true), fun x => Su k x.1⟩
theorem Vx (k : Nat) : an Tryz.prog (Vw k) := cO Tryz.f166 (aa (OP k) aq) (by kernel_rfl) (fun _ => by kernel_rfl)
def Tu (k : Nat) : bj := ⟨253, [((.sl fw), false), ((.cl 166 .un), false)], [(.int .i64)], (.own true), fun x => RU k x.1 x.2.1⟩
def TG (k : Nat) : List bj := [Vw k]
theorem TH (k : Nat) : ∀ cn ∈ TG k, an Tryz.prog cn := (aa (Vx k) aq)
abbrev Th : Shape := [(0, .v (.sl fw)), (1, .v (.cl 166 .un)), (7, .v (.int .i64)), (8, .v (.int .i64))]
abbrev TI : Exit × Shape := (Exit.ret, [(4, .v (.int .i64))])
abbrev TJ : List (Exit × Shape) := [(Exit.exit 0, [])]
def SY (k : Nat) : LO := eH [] [] [] Th TI TJ (iter (RQ k) k)
theorem TY (k : Nat) (rec v) : evC Tryz.prog ⟨19, []⟩ (TG k) (inlN Tryz.prog (TG k) 4) [] (aQ (ad Tryz.f253) [0]) (Kb [] [] [] Th TI TJ rec) (gO [] [] Th v.1 v.2) = (RQ k) rec v := by kernel_rfl
theorem TZ (k : Nat) {c : Cx} (hP : c.P = Tryz.prog) (hm : c.m = ⟨19, []⟩) (hg : c.gs = []) : ch c (SY k) (aQ (ad Tryz.f253) [0]) :=
  cE hP hm hg (TH k) (aO.of (code := (aQ (ad Tryz.f253) [0])) (bs := []) (by kernel_rfl) aO.nil) (fun rec v => TY k rec v) k
theorem Vy (k : Nat) (x) : om Tryz.prog (TG k) (inlN Tryz.prog (TG k) 4) [(2, SY k)] Tryz.f253 (ad Tryz.f253) (Tu k).ps (Tu k).rs (Tu k).rm x = (Tu k).m x := by kernel_rfl
theorem Vz (k : Nat) : an Tryz.prog (Tu k) :=
  ft (TH k) (cn := Tu k) (fn := Tryz.f253) (code := ad Tryz.f253) (m := ⟨19, []⟩) (gs := []) (by kernel_rfl) (by kernel_rfl) (by kernel_rfl) (by kernel_rfl) (by kernel_rfl) (fun _ => by kernel_rfl)
    [(2, SY k)] (fun c hP hm hg => (aO.of (code := (ad Tryz.f253)) (bs := [(aQ (ad Tryz.f253) [0])]) (by kernel_rfl) (aO.cons (b := (aQ (ad Tryz.f253) [0])) (by kernel_rfl) (TZ k hP hm hg) aO.nil))) (Vy k)
def VX (k : Nat) : bj := ⟨165, [((.sl fw), false), ((.cl 166 .un), false)], [.bool], (.own true), fun x => RT k x.1 x.2.1⟩
theorem VA (k : Nat) : an Tryz.prog (VX k) := cO Tryz.f165 (aa (Vz k) aq) (by kernel_rfl) (fun _ => by kernel_rfl)
def Wu (k : Nat) : bj := ⟨87, [((.sl fw), false)], [.bool], (.own true), fun x => Sr k x.1⟩
theorem VY (k : Nat) : an Tryz.prog (Wu k) := cO Tryz.f87 (aa (VA k) aq) (by kernel_rfl) (fun _ => by kernel_rfl)
def LI (k : Nat) : bj := ⟨300, [((.int .i64), false)], [.bool], (.own true), fun x => kJ x.1⟩
theorem LJ (k : Nat) : an Tryz.prog (LI k) := cO Tryz.f300 aq (by kernel_rfl) (fun _ => by kernel_rfl)
def An (k : Nat) : bj := ⟨254, [((.sl (.int .i64)), false), ((.cl 300 .un), false)], [(.int .i64)], (.own true), fun x => gU k x.1 x.2.1⟩
def CK (k : Nat) : List bj := [LI k]
theorem CL (k : Nat) : ∀ cn ∈ CK k, an Tryz.prog cn := (aa (LJ k) aq)
abbrev xB : Shape := [(0, .v (.sl (.int .i64))), (1, .v (.cl 300 .un)), (7, .v (.int .i64)), (8, .v (.int .i64))]
abbrev CM : Exit × Shape := (Exit.ret, [(4, .v (.int .i64))])
abbrev CN : List (Exit × Shape) := [(Exit.exit 0, [])]
def uj (k : Nat) : LO := eH [] [] [] xB CM CN (iter (bM) k)
theorem FX (k : Nat) (rec v) : evC Tryz.prog ⟨19, []⟩ (CK k) (inlN Tryz.prog (CK k) 4) [] (aQ (ad Tryz.f254) [0]) (Kb [] [] [] xB CM CN rec) (gO [] [] xB v.1 v.2) = (bM) rec v := by kernel_rfl
theorem FY (k : Nat) {c : Cx} (hP : c.P = Tryz.prog) (hm : c.m = ⟨19, []⟩) (hg : c.gs = []) : ch c (uj k) (aQ (ad Tryz.f254) [0]) :=
  cE hP hm hg (CL k) (aO.of (code := (aQ (ad Tryz.f254) [0])) (bs := []) (by kernel_rfl) aO.nil) (fun rec v => FX k rec v) k
theorem LK (k : Nat) (x) : om Tryz.prog (CK k) (inlN Tryz.prog (CK k) 4) [(2, uj k)] Tryz.f254 (ad Tryz.f254) (An k).ps (An k).rs (An k).rm x = (An k).m x := by kernel_rfl
theorem LL (k : Nat) : an Tryz.prog (An k) :=
  ft (CL k) (cn := An k) (fn := Tryz.f254) (code := ad Tryz.f254) (m := ⟨19, []⟩) (gs := []) (by kernel_rfl) (by kernel_rfl) (by kernel_rfl) (by kernel_rfl) (by kernel_rfl) (fun _ => by kernel_rfl)
    [(2, uj k)] (fun c hP hm hg => (aO.of (code := (ad Tryz.f254)) (bs := [(aQ (ad Tryz.f254) [0])]) (by kernel_rfl) (aO.cons (b := (aQ (ad Tryz.f254) [0])) (by kernel_rfl) (FY k hP hm hg) aO.nil))) (LK k)
def OQ (k : Nat) : bj := ⟨167, [((.sl (.int .i64)), false), ((.cl 300 .un), false)], [.bool], (.own true), fun x => fY k x.1 x.2.1⟩
theorem LM (k : Nat) : an Tryz.prog (OQ k) := cO Tryz.f167 (aa (LL k) aq) (by kernel_rfl) (fun _ => by kernel_rfl)
def OR (k : Nat) : bj := ⟨247, [((.sl (.int .i64)), false)], [.bool], (.own true), fun x => dy k x.1⟩
theorem yV (k : Nat) : an Tryz.prog (OR k) := cO Tryz.f247 (aa (LM k) aq) (by kernel_rfl) (fun _ => by kernel_rfl)
def OS (k : Nat) : bj := ⟨245, [(eI, false)], [.bool], (.own true), fun x => jh k x.1⟩
theorem LN (k : Nat) : an Tryz.prog (OS k) := cO Tryz.f245 (aa (yV k) aq) (by kernel_rfl) (fun _ => by kernel_rfl)
def OT (k : Nat) : bj := ⟨246, [(dU, false)], [.bool], (.own true), fun x => iN k x.1⟩
theorem LP (k : Nat) : an Tryz.prog (OT k) := cO Tryz.f246 (aa (yV k) aq) (by kernel_rfl) (fun _ => by kernel_rfl)
def OU (k : Nat) : bj := ⟨107, [(aU, false)], [aW, aW], (.own true), fun x => cR x.1⟩
theorem HL (k : Nat) : an Tryz.prog (OU k) := cO Tryz.f107 aq (by kernel_rfl) (fun _ => by kernel_rfl)
def OV (k : Nat) : bj := ⟨199, [(aW, false), (aW, false)], [.bool], (.own true), fun x => kr x.1 x.2.1⟩
theorem LQ (k : Nat) : an Tryz.prog (OV k) := cO Tryz.f199 (aa (vv k) aq) (by kernel_rfl) (fun _ => by kernel_rfl)
def OW (k : Nat) : bj := ⟨202, [((.int .i64), false)], [(.int .i64)], (.own true), fun x => cK x.1⟩
theorem LR (k : Nat) : an Tryz.prog (OW k) := cO Tryz.f202 aq (by kernel_rfl) (fun _ => by kernel_rfl)
def OX (k : Nat) : bj := ⟨280, [(dG, false)], [(.int .i64)], (.own true), fun x => aS x.1⟩
theorem CO (k : Nat) : an Tryz.prog (OX k) := cO Tryz.f280 (aa (LR k) aq) (by kernel_rfl) (fun _ => by kernel_rfl)
def LS (k : Nat) : bj := ⟨275, [((.int .i64), false)], [.bool], (.own true), fun x => jX x.1⟩
theorem HM (k : Nat) : an Tryz.prog (LS k) := cO Tryz.f275 (aa (mC k) aq) (by kernel_rfl) (fun _ => by kernel_rfl)
def Ao (k : Nat) : bj := ⟨226, [((.sl (.int .i64)), false)], [.bool], (.own true), fun x => iD k x.1⟩
def CP (k : Nat) : List bj := [LS k]
theorem CQ (k : Nat) : ∀ cn ∈ CP k, an Tryz.prog cn := (aa (HM k) aq)
abbrev xC : Shape := [(5, .v (.sl (.int .i64))), (6, .v (.int .i64)), (7, .v (.int .i64))]
abbrev CR : Exit × Shape := (Exit.ret, [(2, .v .bool)])
abbrev CS : List (Exit × Shape) := [(Exit.exit 0, [])]
def uk (k : Nat) : LO := eH [] [] [] xC CR CS (iter (cS) k)
theorem FZ (k : Nat) (rec v) : evC Tryz.prog ⟨15, []⟩ (CP k) (inlN Tryz.prog (CP k) 4) [] (aQ (ad Tryz.f226) [0]) (Kb [] [] [] xC CR CS rec) (gO [] [] xC v.1 v.2) = (cS) rec v := by kernel_rfl
theorem F0 (k : Nat) {c : Cx} (hP : c.P = Tryz.prog) (hm : c.m = ⟨15, []⟩) (hg : c.gs = []) : ch c (uk k) (aQ (ad Tryz.f226) [0]) :=
  cE hP hm hg (CQ k) (aO.of (code := (aQ (ad Tryz.f226) [0])) (bs := []) (by kernel_rfl) aO.nil) (fun rec v => FZ k rec v) k
theorem LU (k : Nat) (x) : om Tryz.prog (CP k) (inlN Tryz.prog (CP k) 4) [(2, uk k)] Tryz.f226 (ad Tryz.f226) (Ao k).ps (Ao k).rs (Ao k).rm x = (Ao k).m x := by kernel_rfl
theorem LV (k : Nat) : an Tryz.prog (Ao k) :=
  ft (CQ k) (cn := Ao k) (fn := Tryz.f226) (code := ad Tryz.f226) (m := ⟨15, []⟩) (gs := []) (by kernel_rfl) (by kernel_rfl) (by kernel_rfl) (by kernel_rfl) (by kernel_rfl) (fun _ => by kernel_rfl)
    [(2, uk k)] (fun c hP hm hg => (aO.of (code := (ad Tryz.f226)) (bs := [(aQ (ad Tryz.f226) [0])]) (by kernel_rfl) (aO.cons (b := (aQ (ad Tryz.f226) [0])) (by kernel_rfl) (F0 k hP hm hg) aO.nil))) (LU k)
def OY (k : Nat) : bj := ⟨200, [((.int .i64), false)], [.bool], (.own true), fun x => dj x.1⟩
theorem yW (k : Nat) : an Tryz.prog (OY k) := cO Tryz.f200 (aa (mC k) aq) (by kernel_rfl) (fun _ => by kernel_rfl)
def OZ (k : Nat) : bj := ⟨278, [(dG, false), ((.int .i64), false)], [.bool], (.own true), fun x => br k x.1 x.2.1⟩
theorem LW (k : Nat) : an Tryz.prog (OZ k) := cO Tryz.f278 (aa (CO k) (aa (LV k) (aa (HE k) (aa (mC k) (aa (yW k) (aa (yV k) aq)))))) (by kernel_rfl) (fun _ => by kernel_rfl)
def LX (k : Nat) : bj := ⟨310, [((.int .i64), false)], [(.sl (.int .u8))], (.own true), fun x => cG k x.1⟩
theorem yX (k : Nat) : an Tryz.prog (LX k) := cO Tryz.f310 (aa (HG k) aq) (by kernel_rfl) (fun _ => by kernel_rfl)
def LY (k : Nat) : bj := ⟨281, [((.int .i64), false), ((.int .i64), false)], [(.int .i64)], (.own true), fun x => jY x.1 x.2.1⟩
theorem HN (k : Nat) : an Tryz.prog (LY k) := cO Tryz.f281 aq (by kernel_rfl) (fun _ => by kernel_rfl)
def Ap (k : Nat) : bj := ⟨282, [((.sl (.int .u8)), false)], [(.int .i64)], (.own true), fun x => dR k x.1⟩
def CU (k : Nat) : List bj := [LY k]
theorem CV (k : Nat) : ∀ cn ∈ CU k, an Tryz.prog cn := (aa (HN k) aq)
abbrev xD : Shape := [(0, .v (.sl (.int .u8))), (3, .v (.int .i64)), (4, .v (.int .i64))]
abbrev CW : Exit × Shape := (Exit.exit 0, [(3, .v (.int .i64))])
abbrev CX : List (Exit × Shape) := []
def um (k : Nat) : LO := eH [] [] [] xD CW CX (iter (eA) k)
theorem F1 (k : Nat) (rec v) : evC Tryz.prog ⟨35, []⟩ (CU k) (inlN Tryz.prog (CU k) 4) [] (aQ (ad Tryz.f282) [0]) (Kb [] [] [] xD CW CX rec) (gO [] [] xD v.1 v.2) = (eA) rec v := by kernel_rfl
theorem F2 (k : Nat) {c : Cx} (hP : c.P = Tryz.prog) (hm : c.m = ⟨35, []⟩) (hg : c.gs = []) : ch c (um k) (aQ (ad Tryz.f282) [0]) :=
  cE hP hm hg (CV k) (aO.of (code := (aQ (ad Tryz.f282) [0])) (bs := []) (by kernel_rfl) aO.nil) (fun rec v => F1 k rec v) k
theorem LZ (k : Nat) (x) : om Tryz.prog (CU k) (inlN Tryz.prog (CU k) 4) [(3, um k)] Tryz.f282 (ad Tryz.f282) (Ap k).ps (Ap k).rs (Ap k).rm x = (Ap k).m x := by kernel_rfl
theorem CY (k : Nat) : an Tryz.prog (Ap k) :=
  ft (CV k) (cn := Ap k) (fn := Tryz.f282) (code := ad Tryz.f282) (m := ⟨35, []⟩) (gs := []) (by kernel_rfl) (by kernel_rfl) (by kernel_rfl) (by kernel_rfl) (by kernel_rfl) (fun _ => by kernel_rfl)
    [(3, um k)] (fun c hP hm hg => (aO.of (code := (ad Tryz.f282)) (bs := [(aQ (ad Tryz.f282) [0])]) (by kernel_rfl) (aO.cons (b := (aQ (ad Tryz.f282) [0])) (by kernel_rfl) (F2 k hP hm hg) aO.nil))) (LZ k)
def O0 (k : Nat) : bj := ⟨279, [(aW, false), (aW, false), ((.int .i64), false), ((.int .i64), false)], [(.int .i64)], (.own true), fun x => gV k x.1 x.2.1 x.2.2.1 x.2.2.2.1⟩
theorem L5 (k : Nat) : an Tryz.prog (O0 k) := cO Tryz.f279 (aa (yX k) (aa (qY k) (aa (yR k) (aa (yU k) (aa (CY k) aq))))) (by kernel_rfl) (fun _ => by kernel_rfl)
def L6 (k : Nat) : bj := ⟨169, [((.sl (.int .u8)), false)], [(.sl (.int .u8))], (.own true), fun x => bw x.1⟩
theorem HO (k : Nat) : an Tryz.prog (L6 k) :=
  IY aq (fn := Tryz.f169) (code := ad Tryz.f169) (by kernel_rfl) (by kernel_rfl) (by kernel_rfl) (by kernel_rfl) (by kernel_rfl) (fun e l => by kernel_rfl) (by kernel_rfl) (fun A cap => by kernel_rfl)
def O1 (k : Nat) : bj := ⟨283, [(dG, false), ((.int .i64), false)], [(.sl (.int .u8))], (.own true), fun x => aJ k x.1 x.2.1⟩
theorem HP (k : Nat) : an Tryz.prog (O1 k) := cO Tryz.f283 (aa (yX k) (aa (qY k) (aa (yR k) (aa (CO k) (aa (HO k) aq))))) (by kernel_rfl) (fun _ => by kernel_rfl)
def O2 (k : Nat) : bj := ⟨204, [(dG, false), (aW, false), (aW, false)], [(.int .i64)], (.own true), fun x => bS k x.1 x.2.1 x.2.2.1⟩
theorem HQ (k : Nat) : an Tryz.prog (O2 k) := cO Tryz.f204 (aa (LQ k) (aa (LW k) (aa (CO k) (aa (L5 k) (aa (HP k) (aa (CY k) (aa (HN k) aq))))))) (by kernel_rfl) (fun _ => by kernel_rfl)
def O3 (k : Nat) : bj := ⟨301, [(dG, false), (aW, false), (aW, false)], [(.sl (.int .u8))], (.own true), fun x => iO k x.1 x.2.1 x.2.2.1⟩
theorem L7 (k : Nat) : an Tryz.prog (O3 k) := cO Tryz.f301 (aa (HQ k) (aa (HP k) aq)) (by kernel_rfl) (fun _ => by kernel_rfl)
def O4 (k : Nat) : bj := ⟨276, [(aW, false), ((.int .i64), false)], [.bool], (.own true), fun x => fL x.1 x.2.1⟩
theorem HT (k : Nat) : an Tryz.prog (O4 k) := cO Tryz.f276 (aa (vv k) aq) (by kernel_rfl) (fun _ => by kernel_rfl)
def O5 (k : Nat) : bj := ⟨309, [(dU, false)], [(.int .i64)], (.own true), fun x => gE x.1⟩
theorem HU (k : Nat) : an Tryz.prog (O5 k) := cO Tryz.f309 aq (by kernel_rfl) (fun _ => by kernel_rfl)
def O6 (k : Nat) : bj := ⟨277, [(dU, false)], [(.int .i64)], (.own true), fun x => iE x.1⟩
theorem HV (k : Nat) : an Tryz.prog (O6 k) := cO Tryz.f277 (aa (HU k) aq) (by kernel_rfl) (fun _ => by kernel_rfl)
def O7 (k : Nat) : bj := ⟨198, [(dU, false)], [.bool], (.own true), fun x => gm x.1⟩
theorem yY (k : Nat) : an Tryz.prog (O7 k) := cO Tryz.f198 (aa (mC k) (aa (HM k) (aa (yW k) (aa (HT k) (aa (HV k) aq))))) (by kernel_rfl) (fun _ => by kernel_rfl)
def O8 (k : Nat) : bj := ⟨106, [(dU, false)], [.bool], (.own true), fun x => ji x.1⟩
theorem L8 (k : Nat) : an Tryz.prog (O8 k) := cO Tryz.f106 (aa (yY k) aq) (by kernel_rfl) (fun _ => by kernel_rfl)
def O9 (k : Nat) : bj := ⟨201, [((.int .i64), false), ((.int .i64), false)], [(.int .i64)], (.own true), fun x => eZ x.1 x.2.1⟩
theorem L9 (k : Nat) : an Tryz.prog (O9 k) := cO Tryz.f201 (aa (yW k) aq) (by kernel_rfl) (fun _ => by kernel_rfl)
def Pa (k : Nat) : bj := ⟨307, [(dU, false), ((.int .i64), false)], [(.sl (.int .u8))], (.own true), fun x => fc k x.1 x.2.1⟩
theorem HW (k : Nat) : an Tryz.prog (Pa k) := cO Tryz.f307 (aa (HU k) (aa (yX k) (aa (HV k) (aa (yU k) (aa (qY k) aq))))) (by kernel_rfl) (fun _ => by kernel_rfl)
def Pb (k : Nat) : bj := ⟨291, [((.sl (.int .u8)), false)], [(.int .i64)], (.own true), fun x => jL k x.1⟩
theorem Ma (k : Nat) : an Tryz.prog (Pb k) := cO Tryz.f291 (aa (CY k) aq) (by kernel_rfl) (fun _ => by kernel_rfl)
def Pc (k : Nat) : bj := ⟨272, [(dU, false)], [(.int .i64)], (.own true), fun x => ku k x.1⟩
theorem Mb (k : Nat) : an Tryz.prog (Pc k) := cO Tryz.f272 (aa (yY k) (aa (HW k) (aa (Ma k) aq))) (by kernel_rfl) (fun _ => by kernel_rfl)
def Pd (k : Nat) : bj := ⟨302, [(dU, false)], [(.sl (.int .u8))], (.own true), fun x => gW k x.1⟩
theorem Mc (k : Nat) : an Tryz.prog (Pd k) := cO Tryz.f302 (aa (yY k) (aa (Mb k) (aa (HW k) (aa (qY k) aq)))) (by kernel_rfl) (fun _ => by kernel_rfl)
def Md (k : Nat) : bj := ⟨308, [((.int .i64), false)], [.bool], (.own true), fun x => gX x.1⟩
theorem HX (k : Nat) : an Tryz.prog (Md k) := cO Tryz.f308 aq (by kernel_rfl) (fun _ => by kernel_rfl)
def Aq (k : Nat) : bj := ⟨325, [((.sl da), false)], [.bool], (.own true), fun x => kx k x.1⟩
def CZ (k : Nat) : List bj := [Md k]
theorem C0 (k : Nat) : ∀ cn ∈ CZ k, an Tryz.prog cn := (aa (HX k) aq)
abbrev xE : Shape := [(0, .v (.sl da)), (5, .v (.sl da)), (6, .v (.int .i64)), (7, .v (.int .i64))]
abbrev C1 : Exit × Shape := (Exit.ret, [(2, .v .bool)])
abbrev C2 : List (Exit × Shape) := [(Exit.exit 0, [(0, .v (.sl da))])]
def uq (k : Nat) : LO := eH [] [] [] xE C1 C2 (iter (dc) k)
theorem F3 (k : Nat) (rec v) : evC Tryz.prog ⟨42, []⟩ (CZ k) (inlN Tryz.prog (CZ k) 4) [] (aQ (ad Tryz.f325) [0]) (Kb [] [] [] xE C1 C2 rec) (gO [] [] xE v.1 v.2) = (dc) rec v := by kernel_rfl
theorem F4 (k : Nat) {c : Cx} (hP : c.P = Tryz.prog) (hm : c.m = ⟨42, []⟩) (hg : c.gs = []) : ch c (uq k) (aQ (ad Tryz.f325) [0]) :=
  cE hP hm hg (C0 k) (aO.of (code := (aQ (ad Tryz.f325) [0])) (bs := []) (by kernel_rfl) aO.nil) (fun rec v => F3 k rec v) k
theorem Me (k : Nat) (x) : om Tryz.prog (CZ k) (inlN Tryz.prog (CZ k) 4) [(2, uq k)] Tryz.f325 (ad Tryz.f325) (Aq k).ps (Aq k).rs (Aq k).rm x = (Aq k).m x := by kernel_rfl
theorem Mf (k : Nat) : an Tryz.prog (Aq k) :=
  ft (C0 k) (cn := Aq k) (fn := Tryz.f325) (code := ad Tryz.f325) (m := ⟨42, []⟩) (gs := []) (by kernel_rfl) (by kernel_rfl) (by kernel_rfl) (by kernel_rfl) (by kernel_rfl) (fun _ => by kernel_rfl)
    [(2, uq k)] (fun c hP hm hg => (aO.of (code := (ad Tryz.f325)) (bs := [(aQ (ad Tryz.f325) [0])]) (by kernel_rfl) (aO.cons (b := (aQ (ad Tryz.f325) [0])) (by kernel_rfl) (F4 k hP hm hg) aO.nil))) (Me k)
def xF (k : Nat) : bj := ⟨324, [((.sl da), false)], [(.int .i64)], (.own true), fun x => iF k x.1⟩
def C3 (k : Nat) : List bj := []
theorem C4 (k : Nat) : ∀ cn ∈ C3 k, an Tryz.prog cn := aq
abbrev xG : Shape := [(3, .v (.int .i64)), (6, .v (.sl da)), (7, .v (.int .i64)), (8, .v (.int .i64))]
abbrev C5 : Exit × Shape := (Exit.exit 0, [(3, .v (.int .i64))])
abbrev C6 : List (Exit × Shape) := []
def uu (k : Nat) : LO := eH [] [] [] xG C5 C6 (iter (cT) k)
theorem F5 (k : Nat) (rec v) : evC Tryz.prog ⟨20, []⟩ (C3 k) (inlN Tryz.prog (C3 k) 4) [] (aQ (ad Tryz.f324) [0]) (Kb [] [] [] xG C5 C6 rec) (gO [] [] xG v.1 v.2) = (cT) rec v := by kernel_rfl
theorem F6 (k : Nat) {c : Cx} (hP : c.P = Tryz.prog) (hm : c.m = ⟨20, []⟩) (hg : c.gs = []) : ch c (uu k) (aQ (ad Tryz.f324) [0]) :=
  cE hP hm hg (C4 k) (aO.of (code := (aQ (ad Tryz.f324) [0])) (bs := []) (by kernel_rfl) aO.nil) (fun rec v => F5 k rec v) k
theorem Mg (k : Nat) (x) : om Tryz.prog (C3 k) (inlN Tryz.prog (C3 k) 4) [(3, uu k)] Tryz.f324 (ad Tryz.f324) (xF k).ps (xF k).rs (xF k).rm x = (xF k).m x := by kernel_rfl
theorem HY (k : Nat) : an Tryz.prog (xF k) :=
  ft (C4 k) (cn := xF k) (fn := Tryz.f324) (code := ad Tryz.f324) (m := ⟨20, []⟩) (gs := []) (by kernel_rfl) (by kernel_rfl) (by kernel_rfl) (by kernel_rfl) (by kernel_rfl) (fun _ => by kernel_rfl)
    [(3, uu k)] (fun c hP hm hg => (aO.of (code := (ad Tryz.f324)) (bs := [(aQ (ad Tryz.f324) [0])]) (by kernel_rfl) (aO.cons (b := (aQ (ad Tryz.f324) [0])) (by kernel_rfl) (F6 k hP hm hg) aO.nil))) (Mg k)
def Mh (k : Nat) : bj := ⟨304, [(eI, false)], [.bool], (.own true), fun x => kK k x.1⟩
theorem HZ (k : Nat) : an Tryz.prog (Mh k) := cO Tryz.f304 (aa (yW k) (aa (mC k) (aa (HX k) (aa (HT k) (aa (Mf k) (aa (HY k) aq)))))) (by kernel_rfl) (fun _ => by kernel_rfl)
def Mi (k : Nat) : bj := ⟨323, [((.int .i64), false), ((.ref eI), false)], [(.int .u8)], (.own true), fun x => eC x.1 x.2.1⟩
theorem Mj (k : Nat) : an Tryz.prog (Mi k) := cO Tryz.f323 aq (by kernel_rfl) (fun _ => by kernel_rfl)
def Ar (k : Nat) : bj := ⟨303, [(eI, false)], [(.sl (.int .u8))], (.own true), fun x => jM k x.1⟩
def C7 (k : Nat) : List bj := [Mh k, xF k, Lu k, LX k, Mi k, IX k, xu k]
theorem C8 (k : Nat) : ∀ cn ∈ C7 k, an Tryz.prog cn := (aa (HZ k) (aa (HY k) (aa (yR k) (aa (yX k) (aa (Mj k) (aa (yU k) (aa (qY k) aq)))))))
abbrev xH : Shape := [(3, .fb 323 [1]), (1, .oM eI), (5, .own true (.sl (.int .u8))), (44, .v (.sl da)), (45, .v (.int .i64)), (46, .v (.int .i64))]
abbrev C9 : Exit × Shape := (Exit.exit 0, [(1, .oM eI), (5, .own true (.sl (.int .u8)))])
abbrev Da : List (Exit × Shape) := []
def uv (k : Nat) : LO := eH [] [] [] xH C9 Da (iter (cU) k)
theorem F7 (k : Nat) (rec v) : evC Tryz.prog ⟨74, []⟩ (C7 k) (inlN Tryz.prog (C7 k) 4) [] (aQ (ad Tryz.f303) [0]) (Kb [] [] [] xH C9 Da rec) (gO [] [] xH v.1 v.2) = (cU) rec v := by kernel_rfl
theorem F8 (k : Nat) {c : Cx} (hP : c.P = Tryz.prog) (hm : c.m = ⟨74, []⟩) (hg : c.gs = []) : ch c (uv k) (aQ (ad Tryz.f303) [0]) :=
  cE hP hm hg (C8 k) (aO.of (code := (aQ (ad Tryz.f303) [0])) (bs := []) (by kernel_rfl) aO.nil) (fun rec v => F7 k rec v) k
theorem Mk (k : Nat) (x) : om Tryz.prog (C7 k) (inlN Tryz.prog (C7 k) 4) [(7, uv k)] Tryz.f303 (ad Tryz.f303) (Ar k).ps (Ar k).rs (Ar k).rm x = (Ar k).m x := by kernel_rfl
theorem Ml (k : Nat) : an Tryz.prog (Ar k) :=
  ft (C8 k) (cn := Ar k) (fn := Tryz.f303) (code := ad Tryz.f303) (m := ⟨74, []⟩) (gs := []) (by kernel_rfl) (by kernel_rfl) (by kernel_rfl) (by kernel_rfl) (by kernel_rfl) (fun _ => by kernel_rfl)
    [(7, uv k)] (fun c hP hm hg => (aO.of (code := (ad Tryz.f303)) (bs := [(aQ (ad Tryz.f303) [0])]) (by kernel_rfl) (aO.cons (b := (aQ (ad Tryz.f303) [0])) (by kernel_rfl) (F8 k hP hm hg) aO.nil))) (Mk k)
def Pe (k : Nat) : bj := ⟨248, [(aU, false)], [(.sl (.int .u8)), .bool], (.own true), fun x => dZ k x.1⟩
theorem Mm (k : Nat) : an Tryz.prog (Pe k) := cO Tryz.f248 (aa (HL k) (aa (HQ k) (aa (L7 k) (aa (L8 k) (aa (L9 k) (aa (Mc k) (aa (yY k) (aa (Ml k) (aa (HZ k) aq))))))))) (by kernel_rfl) (fun _ => by kernel_rfl)
def Pf (k : Nat) : bj := ⟨195, [((.int .i64), false)], [.bool], (.own true), fun x => mU x.1⟩
theorem Mn (k : Nat) : an Tryz.prog (Pf k) := cO Tryz.f195 (aa (mC k) aq) (by kernel_rfl) (fun _ => by kernel_rfl)
def Pg (k : Nat) : bj := ⟨170, [(fu, false)], [(.int .i64)], (.own true), fun x => mV x.1⟩
theorem Mo (k : Nat) : an Tryz.prog (Pg k) := cO Tryz.f170 aq (by kernel_rfl) (fun _ => by kernel_rfl)
def Ph (k : Nat) : bj := ⟨250, [(fu, false)], [.bool], (.own true), fun x => kz x.1⟩
theorem Mp (k : Nat) : an Tryz.prog (Ph k) := cO Tryz.f250 (aa (mC k) (aa (Mn k) (aa (Mo k) aq))) (by kernel_rfl) (fun _ => by kernel_rfl)
def Pj (k : Nat) : bj := ⟨154, [(aU, false)], [fu, .bool], (.own true), fun x => ef k x.1⟩
theorem Mq (k : Nat) : an Tryz.prog (Pj k) := cO Tryz.f154 (aa (LN k) (aa (LP k) (aa (yV k) (aa (Mm k) (aa (qY k) (aa (Mp k) aq)))))) (by kernel_rfl) (fun _ => by kernel_rfl)
def Q1 (k : Nat) : bj := ⟨67, [(aU, false)], [.bool], (.own true), fun x => jN k x.1⟩
theorem Pk (k : Nat) : an Tryz.prog (Q1 k) := cO Tryz.f67 (aa (Mq k) aq) (by kernel_rfl) (fun _ => by kernel_rfl)
def VB (k : Nat) : bj := ⟨168, [((.int .i64), false)], [.bool], (.own true), fun x => Sn x.1⟩
theorem VC (k : Nat) : an Tryz.prog (VB k) := cO Tryz.f168 (aa (mC k) aq) (by kernel_rfl) (fun _ => by kernel_rfl)
def SI (k : Nat) : bj := ⟨254, [((.sl (.int .i64)), false), ((.cl 168 .un), false)], [(.int .i64)], (.own true), fun x => R7 k x.1 x.2.1⟩
def SO (k : Nat) : List bj := [VB k]
theorem S4 (k : Nat) : ∀ cn ∈ SO k, an Tryz.prog cn := (aa (VC k) aq)
abbrev SP : Shape := [(0, .v (.sl (.int .i64))), (1, .v (.cl 168 .un)), (7, .v (.int .i64)), (8, .v (.int .i64))]
abbrev S5 : Exit × Shape := (Exit.ret, [(4, .v (.int .i64))])
abbrev S6 : List (Exit × Shape) := [(Exit.exit 0, [])]
def SJ (k : Nat) : LO := eH [] [] [] SP S5 S6 (iter (RS) k)
theorem Tv (k : Nat) (rec v) : evC Tryz.prog ⟨19, []⟩ (SO k) (inlN Tryz.prog (SO k) 4) [] (aQ (ad Tryz.f254) [0]) (Kb [] [] [] SP S5 S6 rec) (gO [] [] SP v.1 v.2) = (RS) rec v := by kernel_rfl
theorem Tx (k : Nat) {c : Cx} (hP : c.P = Tryz.prog) (hm : c.m = ⟨19, []⟩) (hg : c.gs = []) : ch c (SJ k) (aQ (ad Tryz.f254) [0]) :=
  cE hP hm hg (S4 k) (aO.of (code := (aQ (ad Tryz.f254) [0])) (bs := []) (by kernel_rfl) aO.nil) (fun rec v => Tv k rec v) k
theorem T2 (k : Nat) (x) : om Tryz.prog (SO k) (inlN Tryz.prog (SO k) 4) [(2, SJ k)] Tryz.f254 (ad Tryz.f254) (SI k).ps (SI k).rs (SI k).rm x = (SI k).m x := by kernel_rfl
theorem Ua (k : Nat) : an Tryz.prog (SI k) :=
  ft (S4 k) (cn := SI k) (fn := Tryz.f254) (code := ad Tryz.f254) (m := ⟨19, []⟩) (gs := []) (by kernel_rfl) (by kernel_rfl) (by kernel_rfl) (by kernel_rfl) (by kernel_rfl) (fun _ => by kernel_rfl)
    [(2, SJ k)] (fun c hP hm hg => (aO.of (code := (ad Tryz.f254)) (bs := [(aQ (ad Tryz.f254) [0])]) (by kernel_rfl) (aO.cons (b := (aQ (ad Tryz.f254) [0])) (by kernel_rfl) (Tx k hP hm hg) aO.nil))) (T2 k)
def U4 (k : Nat) : bj := ⟨167, [((.sl (.int .i64)), false), ((.cl 168 .un), false)], [.bool], (.own true), fun x => R4 k x.1 x.2.1⟩
theorem Ub (k : Nat) : an Tryz.prog (U4 k) := cO Tryz.f167 (aa (Ua k) aq) (by kernel_rfl) (fun _ => by kernel_rfl)
def Wv (k : Nat) : bj := ⟨88, [((.sl (.int .i64)), false)], [.bool], (.own true), fun x => Sk k x.1⟩
theorem VZ (k : Nat) : an Tryz.prog (Wv k) := cO Tryz.f88 (aa (Ub k) aq) (by kernel_rfl) (fun _ => by kernel_rfl)
def Kt (k : Nat) : bj := ⟨89, [(aU, false)], [aU], (.own true), fun x => iP k x.1⟩
def Ms (k : Nat) : List bj := [L6 k]
theorem H4 (k : Nat) : ∀ cn ∈ Ms k, an Tryz.prog cn := (aa (HO k) aq)
abbrev Db : Shape := [(1, .uw [true, true, true, true, true, true, true, true, true, true, true, true, true, true, true, true, true, true, true, true, true, true, true, true, true, true, true, true, true, true, true, true, true, true, true, true, true, true, true, false, true, true, true, true, true, true, true, true, true, true, true, true, true, true, true, true] true aU), (2, .box true aU), (3, .own true (.sl da)), (37, .v (.sl da)), (38, .v (.int .i64)), (39, .v (.int .i64))]
abbrev H5 : Exit × Shape := (Exit.exit 0, [(1, .uw [true, true, true, true, true, true, true, true, true, true, true, true, true, true, true, true, true, true, true, true, true, true, true, true, true, true, true, true, true, true, true, true, true, true, true, true, true, true, true, false, true, true, true, true, true, true, true, true, true, true, true, true, true, true, true, true] true aU), (2, .box true aU), (3, .own true (.sl da))])
abbrev H6 : List (Exit × Shape) := []
def xI (k : Nat) : LO := eH [] [] [] Db H5 H6 (iter (bU) k)
theorem IZ (k : Nat) (rec v) : evC Tryz.prog ⟨57, []⟩ (Ms k) (inlN Tryz.prog (Ms k) 4) [] (aQ (ad Tryz.f89) [0]) (Kb [] [] [] Db H5 H6 rec) (gO [] [] Db v.1 v.2) = (bU) rec v := by kernel_rfl
theorem I0 (k : Nat) {c : Cx} (hP : c.P = Tryz.prog) (hm : c.m = ⟨57, []⟩) (hg : c.gs = []) : ch c (xI k) (aQ (ad Tryz.f89) [0]) :=
  cE hP hm hg (H4 k) (aO.of (code := (aQ (ad Tryz.f89) [0])) (bs := []) (by kernel_rfl) aO.nil) (fun rec v => IZ k rec v) k
theorem Pl (k : Nat) (x) : om Tryz.prog (Ms k) (inlN Tryz.prog (Ms k) 4) [(6, xI k)] Tryz.f89 (ad Tryz.f89) (Kt k).ps (Kt k).rs (Kt k).rm x = (Kt k).m x := by kernel_rfl
theorem Pm (k : Nat) : an Tryz.prog (Kt k) :=
  ft (H4 k) (cn := Kt k) (fn := Tryz.f89) (code := ad Tryz.f89) (m := ⟨57, []⟩) (gs := []) (by kernel_rfl) (by kernel_rfl) (by kernel_rfl) (by kernel_rfl) (by kernel_rfl) (fun _ => by kernel_rfl)
    [(6, xI k)] (fun c hP hm hg => (aO.of (code := (ad Tryz.f89)) (bs := [(aQ (ad Tryz.f89) [0])]) (by kernel_rfl) (aO.cons (b := (aQ (ad Tryz.f89) [0])) (by kernel_rfl) (I0 k hP hm hg) aO.nil))) (Pl k)
def Ww (k : Nat) : bj := ⟨90, [((.sl (.int .i64)), false)], [(.sl (.int .i64))], (.own true), fun x => So x.1⟩
theorem V0 (k : Nat) : an Tryz.prog (Ww k) :=
  IY aq (fn := Tryz.f90) (code := ad Tryz.f90) (by kernel_rfl) (by kernel_rfl) (by kernel_rfl) (by kernel_rfl) (by kernel_rfl) (fun e l => by kernel_rfl) (by kernel_rfl) (fun A cap => by kernel_rfl)
def Wx (k : Nat) : bj := ⟨91, [(aU, false)], [(.int .i64)], (.own true), fun x => Se k x.1⟩
theorem V3 (k : Nat) : an Tryz.prog (Wx k) := cO Tryz.f91 (aa (Mq k) (aa (Mo k) aq)) (by kernel_rfl) (fun _ => by kernel_rfl)
def Pn (k : Nat) : bj := ⟨109, [(aU, false)], [(.int .i64)], (.own true), fun x => gL x.1⟩
theorem Mt (k : Nat) : an Tryz.prog (Pn k) := cO Tryz.f109 aq (by kernel_rfl) (fun _ => by kernel_rfl)
def Po (k : Nat) : bj := ⟨156, [(aU, false)], [yQ], (.own true), fun x => iQ x.1⟩
theorem Mv (k : Nat) : an Tryz.prog (Po k) := cO Tryz.f156 (aa (HL k) (aa (Mt k) aq)) (by kernel_rfl) (fun _ => by kernel_rfl)
def Pp (k : Nat) : bj := ⟨227, [(dI, false), (aW, false)], [.bool], (.own true), fun x => dd k x.1 x.2.1⟩
theorem H7 (k : Nat) : an Tryz.prog (Pp k) := cO Tryz.f227 (aa (Cq k) (aa (CJ k) aq)) (by kernel_rfl) (fun _ => by kernel_rfl)
def Pq (k : Nat) : bj := ⟨155, [(fw, false), (yQ, false)], [.bool], (.own true), fun x => fk k x.1 x.2.1⟩
theorem Mw (k : Nat) : an Tryz.prog (Pq k) := cO Tryz.f155 (aa (H7 k) (aa (mC k) aq)) (by kernel_rfl) (fun _ => by kernel_rfl)
def Pr (k : Nat) : bj := ⟨251, [(dI, false), (aW, false)], [aW], (.own true), fun x => kL k x.1 x.2.1⟩
theorem Mx (k : Nat) : an Tryz.prog (Pr k) := cO Tryz.f251 (aa (CJ k) aq) (by kernel_rfl) (fun _ => by kernel_rfl)
def Q2 (k : Nat) : bj := ⟨68, [(fw, false), (aU, false)], [aU, (.int .i64)], (.own true), fun x => fM k x.1 x.2.1⟩
theorem Ps (k : Nat) : an Tryz.prog (Q2 k) := cO Tryz.f68 (aa (Pm k) (aa (Mv k) (aa (Mw k) (aa (H7 k) (aa (Mx k) aq))))) (by kernel_rfl) (fun _ => by kernel_rfl)
def Vn (k : Nat) : bj := ⟨19, [((.sl fw), false), (aU, false), ((.sl (.int .i64)), false)], [aU, (.sl (.int .i64)), (.int .i64)], (.own true), fun x => Sl k x.1 x.2.1 x.2.2.1⟩
def VD (k : Nat) : List bj := [Wu k, Q1 k, Wv k, Kt k, Ww k, Wx k, Q2 k]
theorem Ux (k : Nat) : ∀ cn ∈ VD k, an Tryz.prog cn := (aa (VY k) (aa (Pk k) (aa (VZ k) (aa (Pm k) (aa (V0 k) (aa (V3 k) (aa (Ps k) aq)))))))
abbrev TK : Shape := [(6, .box true aU), (9, .box true aU), (10, .own true (.sl (.int .i64))), (33, .v (.sl fw)), (34, .v (.int .i64)), (35, .v (.int .i64))]
abbrev Uy : Exit × Shape := (Exit.ret, [(6, .box true aU), (7, .own true (.sl (.int .i64))), (8, .v (.int .i64))])
abbrev Uz : List (Exit × Shape) := [(Exit.exit 0, [(6, .box true aU), (9, .box true aU), (10, .own true (.sl (.int .i64)))])]
def Ti (k : Nat) : LO := eH [] [] [] TK Uy Uz (iter (RY k) k)
theorem U5 (k : Nat) (rec v) : evC Tryz.prog ⟨72, []⟩ (VD k) (inlN Tryz.prog (VD k) 4) [] (aQ (ad Tryz.f19) [0]) (Kb [] [] [] TK Uy Uz rec) (gO [] [] TK v.1 v.2) = (RY k) rec v := by kernel_rfl
theorem U6 (k : Nat) {c : Cx} (hP : c.P = Tryz.prog) (hm : c.m = ⟨72, []⟩) (hg : c.gs = []) : ch c (Ti k) (aQ (ad Tryz.f19) [0]) :=
  cE hP hm hg (Ux k) (aO.of (code := (aQ (ad Tryz.f19) [0])) (bs := []) (by kernel_rfl) aO.nil) (fun rec v => U5 k rec v) k
theorem V4 (k : Nat) (x) : om Tryz.prog (VD k) (inlN Tryz.prog (VD k) 4) [(5, Ti k)] Tryz.f19 (ad Tryz.f19) (Vn k).ps (Vn k).rs (Vn k).rm x = (Vn k).m x := by kernel_rfl
theorem V5 (k : Nat) : an Tryz.prog (Vn k) :=
  ft (Ux k) (cn := Vn k) (fn := Tryz.f19) (code := ad Tryz.f19) (m := ⟨72, []⟩) (gs := []) (by kernel_rfl) (by kernel_rfl) (by kernel_rfl) (by kernel_rfl) (by kernel_rfl) (fun _ => by kernel_rfl)
    [(5, Ti k)] (fun c hP hm hg => (aO.of (code := (ad Tryz.f19)) (bs := [(aQ (ad Tryz.f19) [0])]) (by kernel_rfl) (aO.cons (b := (aQ (ad Tryz.f19) [0])) (by kernel_rfl) (U6 k hP hm hg) aO.nil))) (V4 k)
def Ku (k : Nat) : bj := ⟨73, [((.sl (.int .u8)), false), ((.sl (.int .u8)), false)], [.bool], (.own true), fun x => dS k x.1 x.2.1⟩
def My (k : Nat) : List bj := []
theorem H8 (k : Nat) : ∀ cn ∈ My k, an Tryz.prog cn := aq
abbrev Dc : Shape := [(0, .v (.sl (.int .u8))), (1, .v (.sl (.int .u8))), (5, .v (.int .i64))]
abbrev H9 : Exit × Shape := (Exit.ret, [(4, .v .bool)])
abbrev Ia : List (Exit × Shape) := [(Exit.exit 0, [])]
def xJ (k : Nat) : LO := eH [] [] [] Dc H9 Ia (iter (j8) k)
theorem I3 (k : Nat) (rec v) : evC Tryz.prog ⟨26, []⟩ (My k) (inlN Tryz.prog (My k) 4) [] (aQ (ad Tryz.f73) [0]) (Kb [] [] [] Dc H9 Ia rec) (gO [] [] Dc v.1 v.2) = (j8) rec v := by kernel_rfl
theorem I4 (k : Nat) {c : Cx} (hP : c.P = Tryz.prog) (hm : c.m = ⟨26, []⟩) (hg : c.gs = []) : ch c (xJ k) (aQ (ad Tryz.f73) [0]) :=
  cE hP hm hg (H8 k) (aO.of (code := (aQ (ad Tryz.f73) [0])) (bs := []) (by kernel_rfl) aO.nil) (fun rec v => I3 k rec v) k
theorem Pu (k : Nat) (x) : om Tryz.prog (My k) (inlN Tryz.prog (My k) 4) [(4, xJ k)] Tryz.f73 (ad Tryz.f73) (Ku k).ps (Ku k).rs (Ku k).rm x = (Ku k).m x := by kernel_rfl
theorem As (k : Nat) : an Tryz.prog (Ku k) :=
  ft (H8 k) (cn := Ku k) (fn := Tryz.f73) (code := ad Tryz.f73) (m := ⟨26, []⟩) (gs := []) (by kernel_rfl) (by kernel_rfl) (by kernel_rfl) (by kernel_rfl) (by kernel_rfl) (fun _ => by kernel_rfl)
    [(4, xJ k)] (fun c hP hm hg => (aO.of (code := (ad Tryz.f73)) (bs := [(aQ (ad Tryz.f73) [0])]) (by kernel_rfl) (aO.cons (b := (aQ (ad Tryz.f73) [0])) (by kernel_rfl) (I4 k hP hm hg) aO.nil))) (Pu k)
def Q4 (k : Nat) : bj := ⟨69, [(fu, false), (fu, false)], [.bool], (.own true), fun x => kA k x.1 x.2.1⟩
theorem Pv (k : Nat) : an Tryz.prog (Q4 k) := cO Tryz.f69 (aa (As k) aq) (by kernel_rfl) (fun _ => by kernel_rfl)
def Pw (k : Nat) : bj := ⟨161, [(aW, false), (aW, false)], [.bool], (.own true), fun x => gY x.1 x.2.1⟩
theorem Ib (k : Nat) : an Tryz.prog (Pw k) := cO Tryz.f161 aq (by kernel_rfl) (fun _ => by kernel_rfl)
def Q5 (k : Nat) : bj := ⟨70, [(dU, false), (dU, false)], [.bool], (.own true), fun x => lg k x.1 x.2.1⟩
theorem Px (k : Nat) : an Tryz.prog (Q5 k) := cO Tryz.f70 (aa (Ib k) (aa (As k) aq)) (by kernel_rfl) (fun _ => by kernel_rfl)
def Mz (k : Nat) : bj := ⟨252, [(da, false), (da, false)], [.bool], (.own true), fun x => kM k x.1 x.2.1⟩
theorem MA (k : Nat) : an Tryz.prog (Mz k) := cO Tryz.f252 (aa (As k) aq) (by kernel_rfl) (fun _ => by kernel_rfl)
def Au (k : Nat) : bj := ⟨162, [((.sl da), false), ((.sl da), false)], [.bool], (.own true), fun x => mW k x.1 x.2.1⟩
def Dd (k : Nat) : List bj := [Mz k]
theorem De (k : Nat) : ∀ cn ∈ Dd k, an Tryz.prog cn := (aa (MA k) aq)
abbrev xK : Shape := [(0, .v (.sl da)), (1, .v (.sl da)), (5, .v (.int .i64))]
abbrev Df : Exit × Shape := (Exit.ret, [(4, .v .bool)])
abbrev Dg : List (Exit × Shape) := [(Exit.exit 0, [])]
def ux (k : Nat) : LO := eH [] [] [] xK Df Dg (iter (kN k) k)
theorem F9 (k : Nat) (rec v) : evC Tryz.prog ⟨27, []⟩ (Dd k) (inlN Tryz.prog (Dd k) 4) [] (aQ (ad Tryz.f162) [0]) (Kb [] [] [] xK Df Dg rec) (gO [] [] xK v.1 v.2) = (kN k) rec v := by kernel_rfl
theorem Ga (k : Nat) {c : Cx} (hP : c.P = Tryz.prog) (hm : c.m = ⟨27, []⟩) (hg : c.gs = []) : ch c (ux k) (aQ (ad Tryz.f162) [0]) :=
  cE hP hm hg (De k) (aO.of (code := (aQ (ad Tryz.f162) [0])) (bs := []) (by kernel_rfl) aO.nil) (fun rec v => F9 k rec v) k
theorem MB (k : Nat) (x) : om Tryz.prog (Dd k) (inlN Tryz.prog (Dd k) 4) [(4, ux k)] Tryz.f162 (ad Tryz.f162) (Au k).ps (Au k).rs (Au k).rm x = (Au k).m x := by kernel_rfl
theorem MC (k : Nat) : an Tryz.prog (Au k) :=
  ft (De k) (cn := Au k) (fn := Tryz.f162) (code := ad Tryz.f162) (m := ⟨27, []⟩) (gs := []) (by kernel_rfl) (by kernel_rfl) (by kernel_rfl) (by kernel_rfl) (by kernel_rfl) (fun _ => by kernel_rfl)
    [(4, ux k)] (fun c hP hm hg => (aO.of (code := (ad Tryz.f162)) (bs := [(aQ (ad Tryz.f162) [0])]) (by kernel_rfl) (aO.cons (b := (aQ (ad Tryz.f162) [0])) (by kernel_rfl) (Ga k hP hm hg) aO.nil))) (MB k)
def Q6 (k : Nat) : bj := ⟨71, [(eI, false), (eI, false)], [.bool], (.own true), fun x => md k x.1 x.2.1⟩
theorem Py (k : Nat) : an Tryz.prog (Q6 k) := cO Tryz.f71 (aa (Ib k) (aa (MC k) (aa (As k) aq))) (by kernel_rfl) (fun _ => by kernel_rfl)
def Q7 (k : Nat) : bj := ⟨72, [(dG, false), (dG, false)], [.bool], (.own true), fun x => kB k x.1 x.2.1⟩
theorem Pz (k : Nat) : an Tryz.prog (Q7 k) := cO Tryz.f72 (aa (As k) aq) (by kernel_rfl) (fun _ => by kernel_rfl)
def Q8 (k : Nat) : bj := ⟨12, [(aU, false), (aU, false)], [.bool], (.own true), fun x => fN k x.1 x.2.1⟩
theorem PA (k : Nat) : an Tryz.prog (Q8 k) := cO Tryz.f12 (aa (Pv k) (aa (Px k) (aa (Py k) (aa (Pz k) (aa (As k) aq))))) (by kernel_rfl) (fun _ => by kernel_rfl)
def Ri (k : Nat) : bj := ⟨20, [((.sl (.int .i64)), false), ((.sl (.int .i64)), false)], [.bool], (.own true), fun x => Sg k x.1 x.2.1⟩
def VE (k : Nat) : List bj := []
theorem UA (k : Nat) : ∀ cn ∈ VE k, an Tryz.prog cn := aq
abbrev TL : Shape := [(0, .v (.sl (.int .i64))), (1, .v (.sl (.int .i64))), (5, .v (.int .i64))]
abbrev UB : Exit × Shape := (Exit.ret, [(4, .v .bool)])
abbrev UC : List (Exit × Shape) := [(Exit.exit 0, [])]
def Tj (k : Nat) : LO := eH [] [] [] TL UB UC (iter (Sv) k)
theorem U7 (k : Nat) (rec v) : evC Tryz.prog ⟨26, []⟩ (VE k) (inlN Tryz.prog (VE k) 4) [] (aQ (ad Tryz.f20) [0]) (Kb [] [] [] TL UB UC rec) (gO [] [] TL v.1 v.2) = (Sv) rec v := by kernel_rfl
theorem U8 (k : Nat) {c : Cx} (hP : c.P = Tryz.prog) (hm : c.m = ⟨26, []⟩) (hg : c.gs = []) : ch c (Tj k) (aQ (ad Tryz.f20) [0]) :=
  cE hP hm hg (UA k) (aO.of (code := (aQ (ad Tryz.f20) [0])) (bs := []) (by kernel_rfl) aO.nil) (fun rec v => U7 k rec v) k
theorem V6 (k : Nat) (x) : om Tryz.prog (VE k) (inlN Tryz.prog (VE k) 4) [(4, Tj k)] Tryz.f20 (ad Tryz.f20) (Ri k).ps (Ri k).rs (Ri k).rm x = (Ri k).m x := by kernel_rfl
theorem V7 (k : Nat) : an Tryz.prog (Ri k) :=
  ft (UA k) (cn := Ri k) (fn := Tryz.f20) (code := ad Tryz.f20) (m := ⟨26, []⟩) (gs := []) (by kernel_rfl) (by kernel_rfl) (by kernel_rfl) (by kernel_rfl) (by kernel_rfl) (fun _ => by kernel_rfl)
    [(4, Tj k)] (fun c hP hm hg => (aO.of (code := (ad Tryz.f20)) (bs := [(aQ (ad Tryz.f20) [0])]) (by kernel_rfl) (aO.cons (b := (aQ (ad Tryz.f20) [0])) (by kernel_rfl) (U8 k hP hm hg) aO.nil))) (V6 k)
def V8 (k : Nat) : bj := ⟨171, [(dI, false), (dI, false)], [.bool], (.own true), fun x => R9 x.1 x.2.1⟩
theorem VF (k : Nat) : an Tryz.prog (V8 k) := cO Tryz.f171 (aa (Ib k) aq) (by kernel_rfl) (fun _ => by kernel_rfl)
def Wy (k : Nat) : bj := ⟨92, [(fw, false), (fw, false)], [.bool], (.own true), fun x => Sa x.1 x.2.1⟩
theorem V9 (k : Nat) : an Tryz.prog (Wy k) := cO Tryz.f92 (aa (VF k) aq) (by kernel_rfl) (fun _ => by kernel_rfl)
def Vo (k : Nat) : bj := ⟨21, [((.sl fw), false), ((.sl fw), false)], [.bool], (.own true), fun x => Sw k x.1 x.2.1⟩
def VG (k : Nat) : List bj := [Wy k]
theorem UD (k : Nat) : ∀ cn ∈ VG k, an Tryz.prog cn := (aa (V9 k) aq)
abbrev TM : Shape := [(0, .v (.sl fw)), (1, .v (.sl fw)), (5, .v (.int .i64))]
abbrev UE : Exit × Shape := (Exit.ret, [(4, .v .bool)])
abbrev UF : List (Exit × Shape) := [(Exit.exit 0, [])]
def Tk (k : Nat) : LO := eH [] [] [] TM UE UF (iter (Sm) k)
theorem U9 (k : Nat) (rec v) : evC Tryz.prog ⟨27, []⟩ (VG k) (inlN Tryz.prog (VG k) 4) [] (aQ (ad Tryz.f21) [0]) (Kb [] [] [] TM UE UF rec) (gO [] [] TM v.1 v.2) = (Sm) rec v := by kernel_rfl
theorem Va (k : Nat) {c : Cx} (hP : c.P = Tryz.prog) (hm : c.m = ⟨27, []⟩) (hg : c.gs = []) : ch c (Tk k) (aQ (ad Tryz.f21) [0]) :=
  cE hP hm hg (UD k) (aO.of (code := (aQ (ad Tryz.f21) [0])) (bs := []) (by kernel_rfl) aO.nil) (fun rec v => U9 k rec v) k
theorem Wa (k : Nat) (x) : om Tryz.prog (VG k) (inlN Tryz.prog (VG k) 4) [(4, Tk k)] Tryz.f21 (ad Tryz.f21) (Vo k).ps (Vo k).rs (Vo k).rm x = (Vo k).m x := by kernel_rfl
theorem Wb (k : Nat) : an Tryz.prog (Vo k) :=
  ft (UD k) (cn := Vo k) (fn := Tryz.f21) (code := ad Tryz.f21) (m := ⟨27, []⟩) (gs := []) (by kernel_rfl) (by kernel_rfl) (by kernel_rfl) (by kernel_rfl) (by kernel_rfl) (fun _ => by kernel_rfl)
    [(4, Tk k)] (fun c hP hm hg => (aO.of (code := (ad Tryz.f21)) (bs := [(aQ (ad Tryz.f21) [0])]) (by kernel_rfl) (aO.cons (b := (aQ (ad Tryz.f21) [0])) (by kernel_rfl) (Va k hP hm hg) aO.nil))) (Wa k)
def Vp (k : Nat) : bj := ⟨22, [((.sl fw), true), ((.int .i64), false)], [(.int .i64)], (.own true), fun x => R8 k x.1 x.2.1⟩
def VH (k : Nat) : List bj := []
theorem UG (k : Nat) : ∀ cn ∈ VH k, an Tryz.prog cn := aq
abbrev TN : Shape := [(0, .arg 0), (1, .v (.int .i64)), (5, .v (.int .i64))]
abbrev UH : Exit × Shape := (Exit.exit 0, [(1, .v (.int .i64))])
abbrev UI : List (Exit × Shape) := []
def Tl (k : Nat) : LO := eH [(0, 0)] [.full 0] [(.sl fw)] TN UH UI (iter (RW) k)
theorem Vb (k : Nat) (rec v) : evC Tryz.prog ⟨154, [(0, 0)]⟩ (VH k) (inlN Tryz.prog (VH k) 4) [] (aQ (ad Tryz.f22) [0]) (Kb [(0, 0)] [.full 0] [(.sl fw)] TN UH UI rec) (gO [.full 0] [(.sl fw)] TN v.1 v.2) = (RW) rec v := by kernel_rfl
theorem Vc (k : Nat) {c : Cx} (hP : c.P = Tryz.prog) (hm : c.m = ⟨154, [(0, 0)]⟩) (hg : c.gs = [.full 0]) : ch c (Tl k) (aQ (ad Tryz.f22) [0]) :=
  cE hP hm hg (UG k) (aO.of (code := (aQ (ad Tryz.f22) [0])) (bs := []) (by kernel_rfl) aO.nil) (fun rec v => Vb k rec v) k
theorem Wc (k : Nat) (x) : om Tryz.prog (VH k) (inlN Tryz.prog (VH k) 4) [(2, Tl k)] Tryz.f22 (ad Tryz.f22) (Vp k).ps (Vp k).rs (Vp k).rm x = (Vp k).m x := by kernel_rfl
theorem Wd (k : Nat) : an Tryz.prog (Vp k) :=
  ft (UG k) (cn := Vp k) (fn := Tryz.f22) (code := ad Tryz.f22) (m := ⟨154, [(0, 0)]⟩) (gs := [.full 0]) (by kernel_rfl) (by kernel_rfl) (by kernel_rfl) (by kernel_rfl) (by kernel_rfl) (fun _ => by kernel_rfl)
    [(2, Tl k)] (fun c hP hm hg => (aO.of (code := (ad Tryz.f22)) (bs := [(aQ (ad Tryz.f22) [0])]) (by kernel_rfl) (aO.cons (b := (aQ (ad Tryz.f22) [0])) (by kernel_rfl) (Vc k hP hm hg) aO.nil))) (Wc k)
def I5 (k : Nat) : bj := ⟨78, [((.sl (.int .u8)), true), ((.int .i64), false)], [(.int .i64)], (.own true), fun x => aP k x.1 x.2.1⟩
def MD (k : Nat) : List bj := []
theorem Ic (k : Nat) : ∀ cn ∈ MD k, an Tryz.prog cn := aq
abbrev Dh : Shape := [(0, .arg 0), (1, .v (.int .i64)), (5, .v (.int .i64))]
abbrev Ie : Exit × Shape := (Exit.exit 0, [(1, .v (.int .i64))])
abbrev Ig : List (Exit × Shape) := []
def xL (k : Nat) : LO := eH [(0, 0)] [.full 0] [(.sl (.int .u8))] Dh Ie Ig (iter (eg) k)
theorem I6 (k : Nat) (rec v) : evC Tryz.prog ⟨20, [(0, 0)]⟩ (MD k) (inlN Tryz.prog (MD k) 4) [] (aQ (ad Tryz.f78) [0]) (Kb [(0, 0)] [.full 0] [(.sl (.int .u8))] Dh Ie Ig rec) (gO [.full 0] [(.sl (.int .u8))] Dh v.1 v.2) = (eg) rec v := by kernel_rfl
theorem I7 (k : Nat) {c : Cx} (hP : c.P = Tryz.prog) (hm : c.m = ⟨20, [(0, 0)]⟩) (hg : c.gs = [.full 0]) : ch c (xL k) (aQ (ad Tryz.f78) [0]) :=
  cE hP hm hg (Ic k) (aO.of (code := (aQ (ad Tryz.f78) [0])) (bs := []) (by kernel_rfl) aO.nil) (fun rec v => I6 k rec v) k
theorem PD (k : Nat) (x) : om Tryz.prog (MD k) (inlN Tryz.prog (MD k) 4) [(2, xL k)] Tryz.f78 (ad Tryz.f78) (I5 k).ps (I5 k).rs (I5 k).rm x = (I5 k).m x := by kernel_rfl
theorem ME (k : Nat) : an Tryz.prog (I5 k) :=
  ft (Ic k) (cn := I5 k) (fn := Tryz.f78) (code := ad Tryz.f78) (m := ⟨20, [(0, 0)]⟩) (gs := [.full 0]) (by kernel_rfl) (by kernel_rfl) (by kernel_rfl) (by kernel_rfl) (by kernel_rfl) (fun _ => by kernel_rfl)
    [(2, xL k)] (fun c hP hm hg => (aO.of (code := (ad Tryz.f78)) (bs := [(aQ (ad Tryz.f78) [0])]) (by kernel_rfl) (aO.cons (b := (aQ (ad Tryz.f78) [0])) (by kernel_rfl) (I7 k hP hm hg) aO.nil))) (PD k)
def Av (k : Nat) : bj := ⟨163, [((.sl da), true), ((.int .i64), false)], [(.int .i64)], (.own true), fun x => fP k x.1 x.2.1⟩
def Di (k : Nat) : List bj := [I5 k]
theorem Dj (k : Nat) : ∀ cn ∈ Di k, an Tryz.prog cn := (aa (ME k) aq)
abbrev xM : Shape := [(0, .arg 0), (1, .v (.int .i64)), (5, .v (.int .i64))]
abbrev Dk : Exit × Shape := (Exit.exit 0, [(1, .v (.int .i64))])
abbrev Dl : List (Exit × Shape) := []
def uy (k : Nat) : LO := eH [(0, 0)] [.full 0] [(.sl da)] xM Dk Dl (iter (cV k) k)
theorem Gb (k : Nat) (rec v) : evC Tryz.prog ⟨27, [(0, 0)]⟩ (Di k) (inlN Tryz.prog (Di k) 4) [] (aQ (ad Tryz.f163) [0]) (Kb [(0, 0)] [.full 0] [(.sl da)] xM Dk Dl rec) (gO [.full 0] [(.sl da)] xM v.1 v.2) = (cV k) rec v := by kernel_rfl
theorem Gc (k : Nat) {c : Cx} (hP : c.P = Tryz.prog) (hm : c.m = ⟨27, [(0, 0)]⟩) (hg : c.gs = [.full 0]) : ch c (uy k) (aQ (ad Tryz.f163) [0]) :=
  cE hP hm hg (Dj k) (aO.of (code := (aQ (ad Tryz.f163) [0])) (bs := []) (by kernel_rfl) aO.nil) (fun rec v => Gb k rec v) k
theorem MF (k : Nat) (x) : om Tryz.prog (Di k) (inlN Tryz.prog (Di k) 4) [(2, uy k)] Tryz.f163 (ad Tryz.f163) (Av k).ps (Av k).rs (Av k).rm x = (Av k).m x := by kernel_rfl
theorem MG (k : Nat) : an Tryz.prog (Av k) :=
  ft (Dj k) (cn := Av k) (fn := Tryz.f163) (code := ad Tryz.f163) (m := ⟨27, [(0, 0)]⟩) (gs := [.full 0]) (by kernel_rfl) (by kernel_rfl) (by kernel_rfl) (by kernel_rfl) (by kernel_rfl) (fun _ => by kernel_rfl)
    [(2, uy k)] (fun c hP hm hg => (aO.of (code := (ad Tryz.f163)) (bs := [(aQ (ad Tryz.f163) [0])]) (by kernel_rfl) (aO.cons (b := (aQ (ad Tryz.f163) [0])) (by kernel_rfl) (Gc k hP hm hg) aO.nil))) (MF k)
def Vq (k : Nat) : bj := ⟨23, [((.sl (.int .i64)), true), ((.int .i64), false)], [(.int .i64)], (.own true), fun x => Sb k x.1 x.2.1⟩
def VI (k : Nat) : List bj := []
theorem UJ (k : Nat) : ∀ cn ∈ VI k, an Tryz.prog cn := aq
abbrev TO : Shape := [(0, .arg 0), (1, .v (.int .i64)), (5, .v (.int .i64))]
abbrev UK : Exit × Shape := (Exit.exit 0, [(1, .v (.int .i64))])
abbrev UL : List (Exit × Shape) := []
def Tm (k : Nat) : LO := eH [(0, 0)] [.full 0] [(.sl (.int .i64))] TO UK UL (iter (R0) k)
theorem Vd (k : Nat) (rec v) : evC Tryz.prog ⟨19, [(0, 0)]⟩ (VI k) (inlN Tryz.prog (VI k) 4) [] (aQ (ad Tryz.f23) [0]) (Kb [(0, 0)] [.full 0] [(.sl (.int .i64))] TO UK UL rec) (gO [.full 0] [(.sl (.int .i64))] TO v.1 v.2) = (R0) rec v := by kernel_rfl
theorem Ve (k : Nat) {c : Cx} (hP : c.P = Tryz.prog) (hm : c.m = ⟨19, [(0, 0)]⟩) (hg : c.gs = [.full 0]) : ch c (Tm k) (aQ (ad Tryz.f23) [0]) :=
  cE hP hm hg (UJ k) (aO.of (code := (aQ (ad Tryz.f23) [0])) (bs := []) (by kernel_rfl) aO.nil) (fun rec v => Vd k rec v) k
theorem We (k : Nat) (x) : om Tryz.prog (VI k) (inlN Tryz.prog (VI k) 4) [(2, Tm k)] Tryz.f23 (ad Tryz.f23) (Vq k).ps (Vq k).rs (Vq k).rm x = (Vq k).m x := by kernel_rfl
theorem Wf (k : Nat) : an Tryz.prog (Vq k) :=
  ft (UJ k) (cn := Vq k) (fn := Tryz.f23) (code := ad Tryz.f23) (m := ⟨19, [(0, 0)]⟩) (gs := [.full 0]) (by kernel_rfl) (by kernel_rfl) (by kernel_rfl) (by kernel_rfl) (by kernel_rfl) (fun _ => by kernel_rfl)
    [(2, Tm k)] (fun c hP hm hg => (aO.of (code := (ad Tryz.f23)) (bs := [(aQ (ad Tryz.f23) [0])]) (by kernel_rfl) (aO.cons (b := (aQ (ad Tryz.f23) [0])) (by kernel_rfl) (Ve k hP hm hg) aO.nil))) (We k)
def I8 (k : Nat) : bj := ⟨83, [((.sl (.int .u8)), false), ((.int .i64), false)], [(.int .i64)], (.own true), fun x => cM k x.1 x.2.1⟩
def MH (k : Nat) : List bj := []
theorem Ih (k : Nat) : ∀ cn ∈ MH k, an Tryz.prog cn := aq
abbrev Dm : Shape := [(0, .v (.sl (.int .u8))), (1, .v (.int .i64)), (5, .v (.int .i64))]
abbrev Ii : Exit × Shape := (Exit.ret, [(4, .v (.int .i64))])
abbrev Ij : List (Exit × Shape) := [(Exit.exit 0, [(1, .v (.int .i64))])]
def xN (k : Nat) : LO := eH [] [] [] Dm Ii Ij (iter (ej) k)
theorem I9 (k : Nat) (rec v) : evC Tryz.prog ⟨22, []⟩ (MH k) (inlN Tryz.prog (MH k) 4) [] (aQ (ad Tryz.f83) [0]) (Kb [] [] [] Dm Ii Ij rec) (gO [] [] Dm v.1 v.2) = (ej) rec v := by kernel_rfl
theorem Ja (k : Nat) {c : Cx} (hP : c.P = Tryz.prog) (hm : c.m = ⟨22, []⟩) (hg : c.gs = []) : ch c (xN k) (aQ (ad Tryz.f83) [0]) :=
  cE hP hm hg (Ih k) (aO.of (code := (aQ (ad Tryz.f83) [0])) (bs := []) (by kernel_rfl) aO.nil) (fun rec v => I9 k rec v) k
theorem PE (k : Nat) (x) : om Tryz.prog (MH k) (inlN Tryz.prog (MH k) 4) [(2, xN k)] Tryz.f83 (ad Tryz.f83) (I8 k).ps (I8 k).rs (I8 k).rm x = (I8 k).m x := by kernel_rfl
theorem Aw (k : Nat) : an Tryz.prog (I8 k) :=
  ft (Ih k) (cn := I8 k) (fn := Tryz.f83) (code := ad Tryz.f83) (m := ⟨22, []⟩) (gs := []) (by kernel_rfl) (by kernel_rfl) (by kernel_rfl) (by kernel_rfl) (by kernel_rfl) (fun _ => by kernel_rfl)
    [(2, xN k)] (fun c hP hm hg => (aO.of (code := (ad Tryz.f83)) (bs := [(aQ (ad Tryz.f83) [0])]) (by kernel_rfl) (aO.cons (b := (aQ (ad Tryz.f83) [0])) (by kernel_rfl) (Ja k hP hm hg) aO.nil))) (PE k)
def Q9 (k : Nat) : bj := ⟨79, [(fu, false), ((.int .i64), false)], [(.int .i64)], (.own true), fun x => kO k x.1 x.2.1⟩
theorem PF (k : Nat) : an Tryz.prog (Q9 k) := cO Tryz.f79 (aa (Aw k) aq) (by kernel_rfl) (fun _ => by kernel_rfl)
def Ra (k : Nat) : bj := ⟨80, [(dU, false), ((.int .i64), false)], [(.int .i64)], (.own true), fun x => ly k x.1 x.2.1⟩
theorem PG (k : Nat) : an Tryz.prog (Ra k) := cO Tryz.f80 (aa (Aw k) aq) (by kernel_rfl) (fun _ => by kernel_rfl)
def Ax (k : Nat) : bj := ⟨164, [((.sl da), false), ((.int .i64), false)], [(.int .i64)], (.own true), fun x => jO k x.1 x.2.1⟩
def Dn (k : Nat) : List bj := [I8 k]
theorem Dp (k : Nat) : ∀ cn ∈ Dn k, an Tryz.prog cn := (aa (Aw k) aq)
abbrev xO : Shape := [(0, .v (.sl da)), (1, .v (.int .i64)), (5, .v (.int .i64))]
abbrev Dq : Exit × Shape := (Exit.ret, [(4, .v (.int .i64))])
abbrev Dr : List (Exit × Shape) := [(Exit.exit 0, [(1, .v (.int .i64))])]
def uz (k : Nat) : LO := eH [] [] [] xO Dq Dr (iter (cW k) k)
theorem Gd (k : Nat) (rec v) : evC Tryz.prog ⟨31, []⟩ (Dn k) (inlN Tryz.prog (Dn k) 4) [] (aQ (ad Tryz.f164) [0]) (Kb [] [] [] xO Dq Dr rec) (gO [] [] xO v.1 v.2) = (cW k) rec v := by kernel_rfl
theorem Ge (k : Nat) {c : Cx} (hP : c.P = Tryz.prog) (hm : c.m = ⟨31, []⟩) (hg : c.gs = []) : ch c (uz k) (aQ (ad Tryz.f164) [0]) :=
  cE hP hm hg (Dp k) (aO.of (code := (aQ (ad Tryz.f164) [0])) (bs := []) (by kernel_rfl) aO.nil) (fun rec v => Gd k rec v) k
theorem MI (k : Nat) (x) : om Tryz.prog (Dn k) (inlN Tryz.prog (Dn k) 4) [(2, uz k)] Tryz.f164 (ad Tryz.f164) (Ax k).ps (Ax k).rs (Ax k).rm x = (Ax k).m x := by kernel_rfl
theorem MJ (k : Nat) : an Tryz.prog (Ax k) :=
  ft (Dp k) (cn := Ax k) (fn := Tryz.f164) (code := ad Tryz.f164) (m := ⟨31, []⟩) (gs := []) (by kernel_rfl) (by kernel_rfl) (by kernel_rfl) (by kernel_rfl) (by kernel_rfl) (fun _ => by kernel_rfl)
    [(2, uz k)] (fun c hP hm hg => (aO.of (code := (ad Tryz.f164)) (bs := [(aQ (ad Tryz.f164) [0])]) (by kernel_rfl) (aO.cons (b := (aQ (ad Tryz.f164) [0])) (by kernel_rfl) (Ge k hP hm hg) aO.nil))) (MI k)
def Rb (k : Nat) : bj := ⟨81, [(eI, false), ((.int .i64), false)], [(.int .i64)], (.own true), fun x => me k x.1 x.2.1⟩
theorem PH (k : Nat) : an Tryz.prog (Rb k) := cO Tryz.f81 (aa (MJ k) (aa (Aw k) aq)) (by kernel_rfl) (fun _ => by kernel_rfl)
def Rc (k : Nat) : bj := ⟨82, [(dG, false), ((.int .i64), false)], [(.int .i64)], (.own true), fun x => kP k x.1 x.2.1⟩
theorem PI (k : Nat) : an Tryz.prog (Rc k) := cO Tryz.f82 (aa (Aw k) aq) (by kernel_rfl) (fun _ => by kernel_rfl)
def PJ (k : Nat) : bj := ⟨14, [(aU, false), ((.int .i64), false)], [(.int .i64)], (.own true), fun x => gA k x.1 x.2.1⟩
theorem PK (k : Nat) : an Tryz.prog (PJ k) := cO Tryz.f14 (aa (PF k) (aa (PG k) (aa (PH k) (aa (PI k) (aa (Aw k) aq))))) (by kernel_rfl) (fun _ => by kernel_rfl)
def Rj (k : Nat) : bj := ⟨24, [((.sl (.int .i64)), false), ((.int .i64), false)], [(.int .i64)], (.own true), fun x => Sc k x.1 x.2.1⟩
def VJ (k : Nat) : List bj := []
theorem UM (k : Nat) : ∀ cn ∈ VJ k, an Tryz.prog cn := aq
abbrev TP : Shape := [(0, .v (.sl (.int .i64))), (1, .v (.int .i64)), (5, .v (.int .i64))]
abbrev UN : Exit × Shape := (Exit.ret, [(4, .v (.int .i64))])
abbrev UO : List (Exit × Shape) := [(Exit.exit 0, [(1, .v (.int .i64))])]
def Tn (k : Nat) : LO := eH [] [] [] TP UN UO (iter (R3) k)
theorem Vf (k : Nat) (rec v) : evC Tryz.prog ⟨21, []⟩ (VJ k) (inlN Tryz.prog (VJ k) 4) [] (aQ (ad Tryz.f24) [0]) (Kb [] [] [] TP UN UO rec) (gO [] [] TP v.1 v.2) = (R3) rec v := by kernel_rfl
theorem Vg (k : Nat) {c : Cx} (hP : c.P = Tryz.prog) (hm : c.m = ⟨21, []⟩) (hg : c.gs = []) : ch c (Tn k) (aQ (ad Tryz.f24) [0]) :=
  cE hP hm hg (UM k) (aO.of (code := (aQ (ad Tryz.f24) [0])) (bs := []) (by kernel_rfl) aO.nil) (fun rec v => Vf k rec v) k
theorem Wg (k : Nat) (x) : om Tryz.prog (VJ k) (inlN Tryz.prog (VJ k) 4) [(2, Tn k)] Tryz.f24 (ad Tryz.f24) (Rj k).ps (Rj k).rs (Rj k).rm x = (Rj k).m x := by kernel_rfl
theorem Wh (k : Nat) : an Tryz.prog (Rj k) :=
  ft (UM k) (cn := Rj k) (fn := Tryz.f24) (code := ad Tryz.f24) (m := ⟨21, []⟩) (gs := []) (by kernel_rfl) (by kernel_rfl) (by kernel_rfl) (by kernel_rfl) (by kernel_rfl) (fun _ => by kernel_rfl)
    [(2, Tn k)] (fun c hP hm hg => (aO.of (code := (ad Tryz.f24)) (bs := [(aQ (ad Tryz.f24) [0])]) (by kernel_rfl) (aO.cons (b := (aQ (ad Tryz.f24) [0])) (by kernel_rfl) (Vg k hP hm hg) aO.nil))) (Wg k)
def c4 (k : Nat) : bj := ⟨4, [((.sl fw), false), (aU, false), ((.sl (.int .i64)), false)], [.bool], (.own true), fun x => R5 k x.1 x.2.1 x.2.2.1⟩
theorem WA (k : Nat) : an Tryz.prog (c4 k) := cO Tryz.f4 (aa (VK k) (aa (QI k) (aa (VM k) (aa (N4 k) (aa (VO k) (aa (VW k) (aa (V5 k) (aa (PA k) (aa (V7 k) (aa (Wb k) (aa (Wd k) (aa (ME k) (aa (MG k) (aa (Wf k) (aa (PK k) (aa (Wh k) aq)))))))))))))))) (by kernel_rfl) (fun _ => by kernel_rfl)
end Go.Tw
