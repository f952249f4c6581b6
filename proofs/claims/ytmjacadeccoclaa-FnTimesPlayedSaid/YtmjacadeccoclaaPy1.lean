/- Plain facts on the mirrors of the functions are proved here. -/
import Derived.Test.YtmjacadeccoclaaPx2
set_option linter.all false
namespace Go.Tw
open Go Go.RowKit

def goneI : List D_Job → List Int
  | [] => []
  | e :: _ => bif decide (IntKind.wrap .i64 (e.2.1.2.2.1 - 1) = 0) then [e.1] else []
def gone (x : D_Line) : List Int := goneI x.2.2.2.1
abbrev ids (l : List D_Job) : List Int := l.map (·.1)
theorem idA (A : List D_Job) : ids A = ids (tickA A).2 ++ ids (tickA A).1 := by
  cases A with
  | nil => rfl
  | cons e l => by_cases h : IntKind.wrap .i64 (e.2.1.1 - 1) = 0 <;> simp [tickA, h, decA]
theorem idB (A : List D_Job) : ids A = ids (tickB A).2 ++ ids (tickB A).1 := by
  cases A with
  | nil => rfl
  | cons e l => by_cases h : IntKind.wrap .i64 (e.2.1.2.1 - 1) = 0 <;> simp [tickB, h, decB]
theorem idC (A : List D_Job) : ids A = goneI A ++ ids (tickC A).1 := by
  cases A with
  | nil => rfl
  | cons e l => by_cases h : IntKind.wrap .i64 (e.2.1.2.2.1 - 1) = 0 <;> simp [tickC, goneI, h, decC]
theorem tick_idsall (x : D_Line) : ids (allJ x) = gone x ++ ids (allJ (tick x).1) := by
  unfold allJ gone tick ids
  have hA := idA x.2.1
  have hB := idB x.2.2.1
  have hC := idC x.2.2.2.1
  unfold ids at hA hB hC
  simp only [List.map_append]
  rw [hC, hB, hA]
  simp
theorem tickC_gone (C : List D_Job) (h : ∀ e ∈ C, 0 ≤ e.1) (out : List D_Done) (a : Int) : addD out (tickC C).2 a = out ++ (goneI C).map (fun i => (i, a, ())) := by
  cases C with
  | nil => simp [tickC, addD, goneI]
  | cons e l =>
    have he := h e (by simp)
    by_cases g : IntKind.wrap .i64 (e.2.1.2.2.1 - 1) = 0 <;> simp [tickC, addD, goneI, g, he]
theorem perm_all (x : D_Line) : (allJ x).Perm ((x.2.1 ++ x.2.2.1) ++ x.2.2.2.1) := by
  refine List.perm_append_comm.trans ?_
  rw [List.append_assoc]
  exact List.Perm.append_left _ List.perm_append_comm
/-- a valid line by its jobs in order -/
theorem lineP_iff (x : D_Line) : LineP x ↔ capB x = true ∧ NeedsOk x ∧ (∀ e ∈ allJ x, idOk e = true) ∧ (ids (allJ x)).Nodup := by
  have hp := perm_all x
  have h1 : (∀ e ∈ (x.2.1 ++ x.2.2.1) ++ x.2.2.2.1, idOk e = true) ↔ ∀ e ∈ allJ x, idOk e = true := by
    constructor
    · exact fun h e he => h e (hp.mem_iff.1 he)
    · exact fun h e he => h e (hp.mem_iff.2 he)
  have h2 : (ids (allJ x)).Nodup ↔ (((x.2.1 ++ x.2.2.1) ++ x.2.2.2.1).map (·.1)).Nodup := (hp.map _).nodup_iff
  unfold LineP NeedsOk
  rw [h1, ← h2]
  constructor
  · rintro ⟨a, b, c, d, e, f⟩; exact ⟨a, ⟨b, c, d⟩, e, f⟩
  · rintro ⟨a, ⟨b, c, d⟩, e, f⟩; exact ⟨a, b, c, d, e, f⟩
theorem idOk_iff (e : D_Job) : idOk e = true ↔ 0 ≤ e.1 ∧ e.1 ≤ 1000000000000 := by unfold idOk; simp
theorem ids_ok (l : List D_Job) : (∀ e ∈ l, idOk e = true) ↔ ∀ i ∈ ids l, 0 ≤ i ∧ i ≤ 1000000000000 := by
  constructor
  · intro h i hi
    obtain ⟨e, he, rfl⟩ := List.mem_map.1 hi
    exact (idOk_iff e).1 (h e he)
  · intro h e he
    exact (idOk_iff e).2 (h e.1 (List.mem_map.2 ⟨e, he, rfl⟩))
theorem tick_cap (x : D_Line) : (tick x).1.1 = x.1 := rfl
theorem tick_lineP {x : D_Line} (h : LineP x) : LineP (tick x).1 := by
  rw [lineP_iff] at h ⊢
  obtain ⟨h1, h2, h3, h4⟩ := h
  have hi := tick_idsall x
  refine ⟨?_, tick_needs x h2, ?_, ?_⟩
  · have ht := tick_tot x
    unfold capB at h1
    simp only [Bool.and_eq_true, decide_eq_true_eq] at h1
    have h9 : (((tick x).1.2.1.length + (tick x).1.2.2.1.length + (tick x).1.2.2.2.1.length : Nat) : Int) ≤ x.1 := by
      unfold tot at ht
      omega
    unfold capB
    rw [Bool.and_eq_true, Bool.and_eq_true]
    exact ⟨⟨decide_eq_true h1.1.1, decide_eq_true h1.1.2⟩, decide_eq_true h9⟩
  · rw [ids_ok] at h3 ⊢
    intro i hm
    exact h3 i (by rw [hi]; exact List.mem_append_right _ hm)
  · rw [hi] at h4
    exact (List.nodup_append.1 h4).2.1
theorem lineP_ids {x : D_Line} (h : LineP x) : ∀ e ∈ x.2.2.2.1, 0 ≤ e.1 := fun e he => ((idOk_iff e).1 (((lineP_iff x).1 h).2.2.1 e (by simp [allJ, he]))).1
/-- so many ticks: the jobs that left, with their times -/
def runG : Nat → D_Line → Int → List D_Done
  | 0, _, _ => []
  | m + 1, l, a => (gone l).map (fun i => (i, a, ())) ++ runG m (tick l).1 (a + 1)
def tickN : Nat → D_Line → D_Line
  | 0, l => l
  | m + 1, l => tickN m (tick l).1
theorem runN_eq : ∀ (m : Nat) (l : D_Line) (a : Int) (out : List D_Done), LineP l → runN m l a out = (tickN m l, out ++ runG m l a)
  | 0, l, a, out, _ => by simp [runN, tickN, runG]
  | m + 1, l, a, out, h => by
    simp only [runN, tickN, runG]
    have e : addD out (tick l).2.1 a = out ++ (gone l).map (fun i => (i, a, ())) := tickC_gone _ (lineP_ids h) out a
    rw [e, runN_eq m _ _ _ (tick_lineP h)]
    simp
theorem tickN_lineP : ∀ (m : Nat) (l : D_Line), LineP l → LineP (tickN m l)
  | 0, _, h => h
  | m + 1, l, h => tickN_lineP m _ (tick_lineP h)
theorem tickN_add : ∀ (m n : Nat) (l : D_Line), tickN (m + n) l = tickN n (tickN m l)
  | 0, n, l => by simp [tickN]
  | m + 1, n, l => by rw [show m + 1 + n = m + n + 1 by omega]; simp only [tickN]; exact tickN_add m n _
theorem runG_add : ∀ (m n : Nat) (l : D_Line) (a : Int), runG (m + n) l a = runG m l a ++ runG n (tickN m l) (a + (m : Int))
  | 0, n, l, a => by simp [runG, tickN]
  | m + 1, n, l, a => by
    rw [show m + 1 + n = m + n + 1 by omega]
    simp only [runG, tickN, runG_add m n, List.append_assoc]
    rw [show a + 1 + (m : Int) = a + ((m + 1 : Nat) : Int) by omega]
theorem runG_shift (s : Int) : ∀ (m : Nat) (l : D_Line) (a : Int), runG m l (a + s) = (runG m l a).map fun d => (d.1, d.2.1 + s, ())
  | 0, _, _ => rfl
  | m + 1, l, a => by
    simp only [runG, List.map_append, List.map_map]
    rw [show a + s + 1 = a + 1 + s by omega, runG_shift s m]
    rfl
theorem runG_ids : ∀ (m : Nat) (l : D_Line) (a : Int), ids (allJ l) = (runG m l a).map (·.1) ++ ids (allJ (tickN m l))
  | 0, l, a => by simp [runG, tickN]
  | m + 1, l, a => by
    rw [tick_idsall l, runG_ids m (tick l).1 (a + 1), ← List.append_assoc]
    have e : (runG (m + 1) l a).map (·.1) = gone l ++ (runG m (tick l).1 (a + 1)).map (·.1) := by
      simp only [runG, List.map_append, List.map_map]
      congr 1
      simp [Function.comp_def]
    rw [e]
    rfl
theorem runG_time : ∀ (m : Nat) (l : D_Line) (a : Int), ∀ d ∈ runG m l a, a ≤ d.2.1 ∧ d.2.1 < a + m
  | 0, _, _, d, h => by simp [runG] at h
  | m + 1, l, a, d, h => by
    simp only [runG, List.mem_append, List.mem_map] at h
    rcases h with ⟨i, _, rfl⟩ | h
    · simp only; omega
    · have := runG_time m _ _ d h; omega
theorem lineRun_eq {l : D_Line} (h : LineP l) (m : Nat) (hm : m ≤ 20000) : lineRun l (m : Int) = (tickN m l, runG m l 1, ()) := by
  unfold lineRun
  rw [(lineI_iff l).2 h]
  have e : (true && (decide ((0 : Int) ≤ (m : Int)) && decide ((m : Int) ≤ 20000))) = true := by simp; omega
  rw [e]
  simp only [cond_true, Int.toNat_natCast, runN_eq m l 1 [] h, List.nil_append]
theorem tot_all (x : D_Line) : tot x = (ids (allJ x)).length := by simp [tot, allJ]; omega
theorem held_eq (k : Nat) (hk : MM < k) (x : D_Line) (h : fits x) : impl_LineHeld k x = some (((bif lineI x then (tot x : Int) else -1), ()), ()) := by
  unfold impl_LineHeld
  rw [implOk_eq k hk x h]
  simp only [Option.bind_some]
  cases lineI x with
  | false => rfl
  | true =>
    simp only [Bool.not_true, cond_false, cond_true]
    rw [jobs_eq k hk x h]
    simp [tot]
    omega
end Go.Tw
