/- What is put, and then reset, is what was handed in: the laws' own walk. -/
import Derived.Test.YtopmnpkjhaabcaaGreatDoorAk
set_option linter.unusedVariables false
set_option linter.unusedSimpArgs false
namespace Go.Proofs.YtopmnpkjhaabcaaGreatDoor
open Go.RowKit

def resetT (t s : Task) : Task := { t with mode := s.mode, Q := s.Q, theta := s.theta }
theorem tasksC_set (xs : List (Task × Value)) (k : Nat) (hk : k < xs.length) (m q h : Int) :
    tasksC (xs.set k ({ (xs[k]).1 with mode := m, Q := q, theta := h }, (xs[k]).2)) = (((tasksC xs).set (k * 9 + 3) (.int .i64 m)).set (k * 9 + 4) (.int .i64 q)).set (k * 9 + 5) (.int .i64 h) := by
  induction xs generalizing k with
  | nil => simp at hk
  | cons x xs ih =>
    have h9 : (x.1.cells x.2).length = 9 := rfl
    cases k with
    | zero => rfl
    | succ k =>
      show x.1.cells x.2 ++ tasksC (xs.set k _) = (((x.1.cells x.2 ++ tasksC xs).set _ _).set _ _).set _ _
      rw [List.set_append_right _ _ (by omega), List.set_append_right _ _ (by omega), List.set_append_right _ _ (by omega), h9, show (k + 1) * 9 + 3 - 9 = k * 9 + 3 by omega, show (k + 1) * 9 + 4 - 9 = k * 9 + 4 by omega, show (k + 1) * 9 + 5 - 9 = k * 9 + 5 by omega]
      congr 1
      exact ih k (by simpa using hk)
theorem OwnT.put3 {W : World} {B g n c : Nat} {ys : List (Task × Value)} (h : OwnT W B (.slice (some ⟨g, 0, none⟩) n c) ys) (k : Nat) (hk : k < ys.length) (m q th : Int) :
    OwnT (((W.setCell ⟨g, k * 9 + 3, none⟩ (.int .i64 m)).setCell ⟨g, k * 9 + 4, none⟩ (.int .i64 q)).setCell ⟨g, k * 9 + 5, none⟩ (.int .i64 th)) B (.slice (some ⟨g, 0, none⟩) n c) (ys.set k ({ (ys[k]).1 with mode := m, Q := q, theta := th }, (ys[k]).2)) := by
  have h1 := h.row
  have hn : n = ys.length := by
    rcases h1.2 with ⟨he, _⟩ | ⟨_, _, _, he, _⟩
    · cases he
    · cases he; rfl
  subst hn
  have s1 := (World.ownsRow.stored h1 (k * 9 + 3) (.int .i64 m)).1
  have s2 := (World.ownsRow.stored s1 (k * 9 + 4) (.int .i64 q)).1
  have s3 := (World.ownsRow.stored s2 (k * 9 + 5) (.int .i64 th)).1
  refine ⟨by rw [List.length_set, tasksC_set ys k hk]; exact s3, fun x hx => ?_⟩
  have key : ∀ x : Task × Value, W.ownsRow B 2 1 x.2 x.1.regs.length (intC x.1.regs) ∧ (x.2.ownBlock = none ∨ x.2.ownBlock ≠ some g) →
      World.ownsRow (((W.setCell ⟨g, k * 9 + 3, none⟩ (.int .i64 m)).setCell ⟨g, k * 9 + 4, none⟩ (.int .i64 q)).setCell ⟨g, k * 9 + 5, none⟩ (.int .i64 th)) B 2 1 x.2 x.1.regs.length (intC x.1.regs) ∧ (x.2.ownBlock = none ∨ x.2.ownBlock ≠ some g) := by
    rintro x ⟨k1, k2⟩
    have hne : x.2.ownBlock ≠ some g := by
      rcases k2 with k2 | k2
      · rw [k2]; simp
      · exact k2
    exact ⟨own_set (own_set (own_set k1 hne _) hne _) hne _, .inr hne⟩
  rcases List.mem_or_eq_of_mem_set hx with hx | rfl
  · exact key x (h.regs x hx)
  · exact key (ys[k]) (h.regs _ (List.getElem_mem hk))
theorem restore {ts l : List Task} (hl : l.length = ts.length) {k : Nat} (hk : k < ts.length) : (ts.take k ++ l.drop k).set k (gT ts k) = ts.take (k + 1) ++ l.drop (k + 1) := by
  rw [List.set_append_right _ _ (by rw [List.length_take]; omega), List.length_take, show k - min k ts.length = 0 by omega, List.drop_eq_getElem_cons (show k < l.length by omega), List.set_cons_zero, List.take_succ_eq_append_getElem hk, List.append_assoc, gT_at hk]
  rfl
/-- What holds at the head of the law's loop. -/
structure OwnLaw (reload : Int) (vs : Value) (w : World) (P : Nat) (v1 : Value) (xs : List (Task × Value)) (B Q : Nat) (v2 : Value) (ys : List (Task × Value)) (W : World) : Prop where
  s : Blk W w.heap.size [.int .i64 reload, vs] 24
  p : Blk W P [.int .i64 reload, v1] 24
  q : Blk W Q [.int .i64 reload, v2] 24
  x1 : OwnT W w.heap.size v1 xs
  x2 : OwnT W B v2 ys
  lt1 : w.heap.size < B
  lt2 : P < B
  lt3 : ∀ k, v1.ownBlock = some k → k < B
  lt3r : ∀ x ∈ xs, ∀ k, x.2.ownBlock = some k → k < B
  lt4 : ∀ k, v2.ownBlock = some k → k < Q
  below : Below w.heap.size w W
theorem OwnLaw.kept {reload : Int} {vs : Value} {w : World} {P : Nat} {v1 : Value} {xs : List (Task × Value)} {B Q : Nat} {v2 : Value} {ys : List (Task × Value)} {W W' : World} (h : OwnLaw reload vs w P v1 xs B Q v2 ys W) (hb : Below W.heap.size W W') : OwnLaw reload vs w P v1 xs B Q v2 ys W' :=
  ⟨h.s.kept hb, h.p.kept hb, h.q.kept hb, h.x1.kept hb, h.x2.kept hb, h.lt1, h.lt2, h.lt3, h.lt3r, h.lt4, below_tr h.below hb⟩
theorem OwnT.far {W : World} {B : Nat} {v : Value} {xs : List (Task × Value)} (h : OwnT W B v xs) {p : Addr} (h1 : v.ownBlock ≠ some p.block) (h2 : ∀ x ∈ xs, x.2.ownBlock ≠ some p.block) (u : Value) : OwnT (W.setCell p u) B v xs :=
  ⟨own_set h.row h1 u, fun x hx => ⟨own_set (h.regs x hx).1 (h2 x hx) u, (h.regs x hx).2⟩⟩
theorem OwnLaw.put3 {reload : Int} {vs : Value} {w : World} {P : Nat} {v1 : Value} {xs : List (Task × Value)} {B Q g n c : Nat} {ys : List (Task × Value)} {W : World} (h : OwnLaw reload vs w P v1 xs B Q (.slice (some ⟨g, 0, none⟩) n c) ys W) (k : Nat) (hk : k < ys.length) (m q th : Int) :
    OwnLaw reload vs w P v1 xs B Q (.slice (some ⟨g, 0, none⟩) n c) (ys.set k ({ (ys[k]).1 with mode := m, Q := q, theta := th }, (ys[k]).2)) (((W.setCell ⟨g, k * 9 + 3, none⟩ (.int .i64 m)).setCell ⟨g, k * 9 + 4, none⟩ (.int .i64 q)).setCell ⟨g, k * 9 + 5, none⟩ (.int .i64 th)) := by
  have hB := own_base h.x2.row g rfl
  have hQ := h.lt4 g rfl
  have e1 := h.lt1
  have e2 := h.lt2
  have n1 : g ≠ w.heap.size := by omega
  have n2 : g ≠ P := by omega
  have n3 : g ≠ Q := by omega
  have n4 : v1.ownBlock ≠ some g := fun he => by have := h.lt3 g he; omega
  have n5 : ∀ x ∈ xs, x.2.ownBlock ≠ some g := fun x hx he => by have := h.lt3r x hx g he; omega
  exact ⟨((h.s.far n1 _).far n1 _).far n1 _, ((h.p.far n2 _).far n2 _).far n2 _, ((h.q.far n3 _).far n3 _).far n3 _, ((h.x1.far n4 n5 _).far n4 n5 _).far n4 n5 _, h.x2.put3 k hk m q th, e1, e2, h.lt3, h.lt3r, h.lt4,
    below_setCell (below_setCell (below_setCell h.below (by simp; omega) _) (by simp; omega) _) (by simp; omega) _⟩
theorem OwnLaw.drew {reload : Int} {vs : Value} {w : World} {P : Nat} {v1 : Value} {xs : List (Task × Value)} {B Q : Nat} {v2 : Value} {ys : List (Task × Value)} {W : World} (h : OwnLaw reload vs w P v1 xs B Q v2 ys W) : OwnLaw reload vs w P v1 xs B Q v2 ys W.drew :=
  h.kept (below_drew (Below.refl _ _))

end Go.Proofs.YtopmnpkjhaabcaaGreatDoor
