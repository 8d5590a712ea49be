/- What the laws of sets share: may, the one task of known. -/
import Derived.Test.YtopmnpkjhaabcaaGreatDoorAe
set_option linter.unusedVariables false
set_option linter.unusedSimpArgs false
namespace Go.Proofs.YtopmnpkjhaabcaaGreatDoor
open Go.RowKit

def mayK (ts : List Task) (k : Nat) : Bool := decide (3 ≤ (gT ts k).T) && decide ((gT ts k).D ≤ 300)
/-- What may answers. -/
def mayB (reload : Int) (ts : List Task) : Bool := decide (ts.length ≤ 10) && (refAllB reload ts && (List.range ts.length).all (mayK ts))
theorem mayB_no {reload : Int} {ts : List Task} {k : Nat} (hk : k < ts.length) (h : mayK ts k = false) : mayB reload ts = false := by
  have : (List.range ts.length).all (mayK ts) = false := by
    rw [List.all_eq_false]
    exact ⟨k, List.mem_range.2 hk, by simp [h]⟩
  simp [mayB, this]
theorem mayB_at {reload : Int} {ts : List Task} (h : mayB reload ts = true) : refAllB reload ts = true ∧ ∀ k, k < ts.length → 3 ≤ (gT ts k).T ∧ (gT ts k).D ≤ 300 := by
  unfold mayB mayK at h
  simp only [Bool.and_eq_true, decide_eq_true_eq, List.all_eq_true, List.mem_range] at h
  exact ⟨h.2.1, h.2.2⟩
/-- The one task of known. -/
def oneTask : Task := ⟨⟨#[97]⟩, 5, 5, 0, 0, 0, [2, 1], 0, 0⟩
theorem one_refAll : refAllB 0 [oneTask] = true := by decide +kernel
theorem one_good : Good 0 [oneTask] := refAll_good one_refAll (fun k hk => by obtain rfl : k = 0 := by simp at hk; omega
                                                                              decide) (fun k hk => by obtain rfl : k = 0 := by simp at hk; omega
                                                                                                      decide)
theorem one_reads {W : World} {p q c d : Nat} (h1 : Blk W p [.int .i64 2, .int .i64 1] 2) (h2 : Blk W q (oneTask.cells (.slice (some ⟨p, 0, none⟩) 2 c)) 41) : RdT W (.slice (some ⟨q, 0, none⟩) 1 d) [oneTask] := by
  refine ⟨_, d, rfl, by simp, fun j x hj => ?_⟩
  match j, hj with
  | 0, hj =>
    cases hj
    refine ⟨q, 0, _, rfl, ⟨_, rfl, ⟨_, c, rfl, by simp [oneTask], fun j x hj => ?_⟩⟩, fun k u hu => by have := h2.cell k hu; simpa using this⟩
    match j, hj with
    | 0, hj => cases hj; exact ⟨p, 0, _, rfl, rfl, fun k u hu => by
        match k, hu with
        | 0, hu => cases hu; exact h1.cell 0 rfl
        | k + 1, hu => simp at hu⟩
    | 1, hj => cases hj; exact ⟨p, 0, _, rfl, rfl, fun k u hu => by
        match k, hu with
        | 0, hu => cases hu; exact h1.cell 1 rfl
        | k + 1, hu => simp at hu⟩
    | j + 2, hj => simp [oneTask] at hj
  | j + 1, hj => simp at hj
theorem one_names : ∀ t ∈ [oneTask], t.name.size ≤ 140737488351232 := by
  intro t ht
  rw [List.mem_singleton] at ht
  subst ht
  decide
def KnowSt (w W : World) : Prop := Blk W w.heap.size [.int .i64 2, .int .i64 1] 2 ∧ Blk W (w.heap.size + 1) (oneTask.cells (.slice (some ⟨w.heap.size, 0, none⟩) 2 2)) 41 ∧ Blk W (w.heap.size + 2) [.int .i64 0, .slice (some ⟨w.heap.size + 1, 0, none⟩) 1 1] 24 ∧ Below w.heap.size w W
theorem KnowSt.kept {w W W' : World} (h : KnowSt w W) (hb : Below W.heap.size W W') : KnowSt w W' := ⟨h.1.kept hb, h.2.1.kept hb, h.2.2.1.kept hb, below_tr h.2.2.2 hb⟩
theorem KnowSt.reads {w W : World} (h : KnowSt w W) : RdT W (.slice (some ⟨w.heap.size + 1, 0, none⟩) 1 1) [oneTask] := one_reads h.1 h.2.1
theorem one_list {α β : Type} {xs : List (α × β)} {t : α} (h : xs.map Prod.fst = [t]) : ∃ x, xs = [x] ∧ x.1 = t := by
  cases xs with
  | nil => simp at h
  | cons x l =>
    cases l with
    | nil => exact ⟨x, rfl, by simpa using h⟩
    | cons y l => simp at h
theorem one_cap {A : Option Addr} : CapOk (.slice A 1 1) := by intro A' n c he; cases he; exact Nat.le_refl _
end Go.Proofs.YtopmnpkjhaabcaaGreatDoor
