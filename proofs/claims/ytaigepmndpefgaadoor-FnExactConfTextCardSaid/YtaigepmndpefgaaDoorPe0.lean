/- Plain facts on the mirrors of the functions are proved here. -/
import Derived.Test.YtaigepmndpefgaaDoorT24
import Derived.Shelf.Strconv.Itoa3
import Derived.Lib.LaidTab
set_option linter.all false
namespace Go.Tw
open Go Go.RowKit
variable [Grd]

/-! A function of the library by its contract. -/
theorem argR_none {w : World} {imm ok : Nat → Prop} : ∀ {ps : List (Ty × Bool)} {x : den (prodT (ps.map (·.1)))} {vs : List Value} {L : List Nat}, ps.all (fun p => !p.2) = true → ArgR w imm ok ps x vs L → L = []
  | [], x, vs, L, _, h => h.2
  | (t, b) :: ps, x, vs, L, hp, h => by
    simp only [List.all_cons, Bool.and_eq_true, Bool.not_eq_true'] at hp
    obtain ⟨us, vs', L1, L2, rfl, rfl, h1, _, h3⟩ := h
    obtain ⟨_, rfl⟩ := h1 hp.1
    rw [argR_none hp.2 h3]; rfl
theorem mutR_none {w : World} {imm ok : Nat → Prop} : ∀ {ps : List (Ty × Bool)} {y : den (prodT ((ps.filter (·.2)).map (·.1)))} {vs : List Value}, ps.all (fun p => !p.2) = true → MutR w imm ok ps y vs []
  | [], y, vs, _ => rfl
  | (t, false) :: ps, y, vs, hp => mutR_none (ps := ps) (by simpa using hp)
  | (t, true) :: ps, y, vs, hp => by simp at hp
theorem ext_str {P : Program} {f : FuncId} {ps : List (Ty × Bool)} {m : den (prodT (ps.map (·.1))) → Option (den (prodT [.str]) × den (prodT (mutT ps)))} (hc : callable P f = true) (hps : ps.all (fun p => !p.2) = true)
    (h : ∀ (w : World) (imm : Nat → Prop) (vals : List Value) (x : den (prodT (ps.map (·.1)))) (y : den (prodT [.str]) × den (prodT (mutT ps))), (∀ b, imm b → b < w.heap.size) → Grd.J w → ArgR w imm (· ∈ ([] : List Nat)) ps x vals [] → m x = some y → Calls P f vals.toArray w fun e w' => e = .returned (.string y.1.1) ∧ Below w.heap.size w w') :
    ConOk P ⟨f, ps, [.str], .own true, m⟩ := by
  refine ⟨hc, fun w imm vals x Lm y himm hgd hLm harg hy => ?_⟩
  have hL := argR_none hps harg
  subst hL
  refine (h w imm vals x y (fun b hb => (himm b hb).1) hgd.2 harg hy).mono ?_
  rintro e w' ⟨rfl, hb⟩
  refine ⟨[.string y.1.1], [], [], rfl, ⟨hb.os, hb.tape, hb.output, hb.size, fun k hk _ => hb.block k hk, fun b m hr => hr.same (hb.block b hr.lt)⟩, ?_, mutR_none hps, by simp⟩
  exact ⟨[.string y.1.1], [], [], [], rfl, rfl, ⟨_, [], [], [], rfl, rfl, ⟨rfl, rfl⟩, rfl, rfl⟩, rfl, rfl⟩
/-- a table that reads so -/
theorem tab_same {P : Program} {w w' : World} {name : String} {k : IntKind} {zs : List Int} {g : Nat} (hg : P.globalNamed name = some g) (hw : w'.heap[g]? = w.heap[g]?) (h : Lib.TabIs P w name k zs) : Lib.TabIs P w' name k zs := by
  unfold Lib.TabIs World.var? at h ⊢
  rw [hg] at h ⊢
  simp only [Option.bind_some] at h ⊢
  rw [hw]; exact h
/-- strconv.Itoa, strings.Join -/
def itoaM (x : Int × Unit) : Option ((ByteArray × Unit) × Unit) :=
  bif decide ((-9223372036854775808 : Int) ≤ x.1) && decide (x.1 ≤ 9223372036854775807) then some ((⟨(Lib.itoa x.1).toArray⟩, ()), ()) else none
end Go.Tw
