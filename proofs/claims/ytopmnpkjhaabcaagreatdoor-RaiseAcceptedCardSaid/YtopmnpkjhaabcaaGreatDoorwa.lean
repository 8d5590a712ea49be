/- slices.Clone at whole numbers; rows of tasks that the run owns. -/
import Derived.Test.YtopmnpkjhaabcaaGreatDoorv
import Derived.Test.YtopmnpkjhaabcaaGreatDoorShelf
import Derived.Laws.OwnMore
import Derived.Deep.CutBlock
import Derived.Deep.DeepCutAuto
set_option linter.unusedVariables false
set_option linter.unusedSimpArgs false
namespace Go.Proofs.YtopmnpkjhaabcaaGreatDoor
open Go.RowKit

theorem clone_any (A : Option Addr) (n c : Nat) (l : List Int) (w : World) (hr : RdI w (.slice A n c) l) (h1 : 0 < n) (h2 : n ≤ 1000) :
    Calls Tryz.prog 22 #[.slice A n c] w fun e w' => ∃ v, e = .returned v ∧ w'.ownsRow w.heap.size 2 1 v n (intC l) ∧ Below w.heap.size w w' := by
  obtain ⟨i0, hi, hzz⟩ := Option.map_eq_some_iff.1 i64_info
  simp only [Prod.mk.injEq] at hzz
  obtain ⟨hz0, hz1, hz2⟩ := hzz
  obtain ⟨rfl, b, o, rfl, hc⟩ := hr.place h1
  have hle := hr.len.2
  refine (Tryz.slices_Clone i0 (.int .i64 0) 1 8 hi hz0 hz1 hz2 rfl (by decide) (by intro w; kernel_rfl) b o l.length c (intC l) w (by simp [intC]) (by unfold maxLen; omega) (by omega) ?_ ?_).mono ?_
  · intro j u hu
    simp only [intC, List.getElem?_map, Option.map_eq_some_iff] at hu
    obtain ⟨x, hx, rfl⟩ := hu
    have hj : j < l.length := (List.getElem?_eq_some_iff.1 hx).1
    rw [hc j hj, gI_at hj]
    rw [List.getElem?_eq_getElem hj] at hx
    cases hx
    rfl
  · intro u hu
    simp only [intC, List.mem_map] at hu
    obtain ⟨x, -, rfl⟩ := hu
    rfl
  · rintro e w' ⟨v, rfl, h2, -, h3⟩
    exact ⟨v, rfl, h2, h3⟩
theorem int_info : (Tryz.prog.info? 3).map (fun i => (i.zero, i.size, i.bytes)) = some (some (.int .i64 0), 1, 8) := by kernel_rfl
theorem task_info : ∃ z, z.cells.size = 9 ∧ (Tryz.prog.info? 41).map (fun i => (i.zero, i.size, i.bytes)) = some (some z, 9, 96) := ⟨.agg #[.string ⟨#[]⟩, .int .i64 0, .int .i64 0, .int .i64 0, .int .i64 0, .int .i64 0, .slice none 0 0, .int .u64 0, .int .u64 0], rfl, by kernel_rfl⟩
def tasksC (l : List (Task × Value)) : List Value := l.flatMap fun x => x.1.cells x.2
theorem tasksC_snoc (l : List (Task × Value)) (x : Task × Value) : tasksC (l ++ [x]) = tasksC l ++ x.1.cells x.2 := by simp [tasksC]
/-- A row of tasks that the run owns, each task's regions too. -/
structure OwnT (W : World) (base : Nat) (v : Value) (l : List (Task × Value)) : Prop where
  row : W.ownsRow base 41 9 v l.length (tasksC l)
  regs : ∀ x ∈ l, W.ownsRow base 2 1 x.2 x.1.regs.length (intC x.1.regs) ∧ (x.2.ownBlock = none ∨ x.2.ownBlock ≠ v.ownBlock)
theorem OwnT.nil (W : World) (base : Nat) : OwnT W base (.slice none 0 0) [] := ⟨own_nil _ _ _ _, fun x hx => by cases hx⟩
theorem OwnT.kept {W W' : World} {base : Nat} {v : Value} {l : List (Task × Value)} (h : OwnT W base v l) (hb : Below W.heap.size W W') : OwnT W' base v l := ⟨own_kept h.row hb, fun x hx => ⟨own_kept (h.regs x hx).1 hb, (h.regs x hx).2⟩⟩
theorem OwnT.push {W W1 : World} {B : Nat} {vo vn v1 : Value} {xs : List (Task × Value)} {t : Task} (h : OwnT W B vo xs) (hnew : W.ownsRow B 2 1 vn t.regs.length (intC t.regs)) (hne : vn.ownBlock = none ∨ vn.ownBlock ≠ vo.ownBlock)
    (hown : W1.ownsRow B 41 9 v1 (xs.length + 1) (tasksC xs ++ t.cells vn)) (hg : W.grownBy W1 vo.ownBlock) (hat : v1.ownBlock = vo.ownBlock ∨ ∃ b, v1.ownBlock = some b ∧ W.heap.size ≤ b) : OwnT W1 B v1 (xs ++ [(t, vn)]) := by
  have key : ∀ x : Task × Value, W.ownsRow B 2 1 x.2 x.1.regs.length (intC x.1.regs) → (x.2.ownBlock = none ∨ x.2.ownBlock ≠ vo.ownBlock) → W1.ownsRow B 2 1 x.2 x.1.regs.length (intC x.1.regs) ∧ (x.2.ownBlock = none ∨ x.2.ownBlock ≠ v1.ownBlock) := by
    intro x h1 h2
    refine ⟨h1.kept hg h2, ?_⟩
    rcases h2 with h2 | h2
    · exact .inl h2
    · right
      rcases hat with hat | ⟨b, hb, hbs⟩
      · rw [hat]; exact h2
      · intro he
        rw [hb] at he
        have := own_lt h1 b he
        omega
  refine ⟨by rw [tasksC_snoc, List.length_append, List.length_singleton]; exact hown, fun x hx => ?_⟩
  rcases List.mem_append.1 hx with hx | hx
  · exact key x (h.regs x hx).1 (h.regs x hx).2
  · rw [List.mem_singleton] at hx
    subst hx
    exact key (t, vn) hnew hne
theorem OwnT.setFar {W : World} {B : Nat} {v : Value} {l : List (Task × Value)} (h : OwnT W B v l) {p : Addr} (hp : p.block < B) (u : Value) : OwnT (W.setCell p u) B v l :=
  ⟨own_set h.row (fun he => by have := own_base h.row _ he; omega) u, fun x hx => ⟨own_set (h.regs x hx).1 (fun he => by have := own_base (h.regs x hx).1 _ he; omega) u, (h.regs x hx).2⟩⟩
def PutPost (reload : Int) (r : Option (List Task)) (w : World) (e : Ending) (w' : World) : Prop :=
  match r with
  | none => e = .returned (.tuple #[.agg #[.int .i64 0, .slice none 0 0], .bool false]) ∧ Below w.heap.size w w'
  | some l => ∃ v xs, e = .returned (.tuple #[.agg #[.int .i64 reload, v], .bool true]) ∧ xs.map Prod.fst = l ∧ OwnT w' w.heap.size v xs ∧ Below w.heap.size w w'
end Go.Proofs.YtopmnpkjhaabcaaGreatDoor
