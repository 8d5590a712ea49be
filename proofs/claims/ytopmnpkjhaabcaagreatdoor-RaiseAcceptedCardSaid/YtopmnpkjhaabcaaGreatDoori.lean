/- task.isMode, task.Is walked. -/
import Derived.Test.YtopmnpkjhaabcaaGreatDoorh
set_option linter.unusedVariables false
set_option linter.unusedSimpArgs false
namespace Go.Proofs.YtopmnpkjhaabcaaGreatDoor
open Go.RowKit

def modeB (t : Task) (p : Int) : Bool :=
  if t.mode = 0 then decide (t.Q = 0) && decide (t.theta = 0)
  else if t.mode = 1 then timeB t.Q 0 && decide (t.theta = 0)
  else if t.mode = 2 then decide (t.Q = 0) && (decide (0 ≤ t.theta) && decide (t.theta ≤ p))
  else false

set_option maxRecDepth 100000 in
theorem isMode_any (t : Task) (vr : Value) (p : Int) (w : World) :
    Calls Tryz.prog 53 #[.agg #[.string t.name, .int .i64 t.T, .int .i64 t.D, .int .i64 t.mode, .int .i64 t.Q, .int .i64 t.theta, vr, .int .u64 t.ecb, .int .u64 t.ucb], .int .i64 p] w fun e w' => e = .returned (.bool (modeB t p)) ∧ Below w.heap.size w w' := by
  have HT := Lib.hid (show timeB t.Q 0 = timeB t.Q 0 from rfl)
  by_cases h0 : t.mode = 0
  · have m0 : (t.mode == 0) = true := by simp [h0]
    by_cases h1 : t.Q = 0
    · have q0 : (t.Q == 0) = true := by simp [h1]
      by_cases h2 : t.theta = 0
      · have t0 : (t.theta == 0) = true := by simp [h2]
        have HR : Hid (modeB t p = true) := Lib.hid (by simp [modeB, h0, h1, h2])
        clear h0 h1 h2
        go_enter Tryz.func53, Tryz.ntmps53
        go_wp2_with (go_at_call 38; refine (isTime_any _ _ _).mono ?_; rintro e w' ⟨rfl, rfl⟩; rw [HT.out])
        go_ret
        exact ⟨ret_bool (by rw [HR.out]), (Below.refl _ _).alloc (Nat.le_refl _) _⟩
      · have t0 : (t.theta == 0) = false := by simp [h2]
        have HR : Hid (modeB t p = false) := Lib.hid (by simp [modeB, h0, h1, h2])
        clear h0 h1 h2
        go_enter Tryz.func53, Tryz.ntmps53
        go_wp2_with (go_at_call 38; refine (isTime_any _ _ _).mono ?_; rintro e w' ⟨rfl, rfl⟩; rw [HT.out])
        go_ret
        exact ⟨ret_bool (by rw [HR.out]), (Below.refl _ _).alloc (Nat.le_refl _) _⟩
    · have q0 : (t.Q == 0) = false := by simp [h1]
      have HR : Hid (modeB t p = false) := Lib.hid (by simp [modeB, h0, h1])
      clear h0 h1
      go_enter Tryz.func53, Tryz.ntmps53
      go_wp2_with (go_at_call 38; refine (isTime_any _ _ _).mono ?_; rintro e w' ⟨rfl, rfl⟩; rw [HT.out])
      go_ret
      exact ⟨ret_bool (by rw [HR.out]), (Below.refl _ _).alloc (Nat.le_refl _) _⟩
  · have m0 : (t.mode == 0) = false := by simp [h0]
    by_cases h1 : t.mode = 1
    · have m1 : (t.mode == 1) = true := by simp [h1]
      cases hq : timeB t.Q 0
      · have HR : Hid (modeB t p = false) := Lib.hid (by simp [modeB, h1, hq])
        have HT := Lib.hid hq
        clear h0 h1 hq
        go_enter Tryz.func53, Tryz.ntmps53
        go_wp2_with (go_at_call 38; refine (isTime_any _ _ _).mono ?_; rintro e w' ⟨rfl, rfl⟩; rw [HT.out])
        go_ret
        exact ⟨ret_bool (by rw [HR.out]), (Below.refl _ _).alloc (Nat.le_refl _) _⟩
      · have HT := Lib.hid hq
        by_cases h2 : t.theta = 0
        · have t0 : (t.theta == 0) = true := by simp [h2]
          have HR : Hid (modeB t p = true) := Lib.hid (by simp [modeB, h1, hq, h2])
          clear h0 h1 hq h2
          go_enter Tryz.func53, Tryz.ntmps53
          go_wp2_with (go_at_call 38; refine (isTime_any _ _ _).mono ?_; rintro e w' ⟨rfl, rfl⟩; rw [HT.out])
          go_ret
          exact ⟨ret_bool (by rw [HR.out]), (Below.refl _ _).alloc (Nat.le_refl _) _⟩
        · have t0 : (t.theta == 0) = false := by simp [h2]
          have HR : Hid (modeB t p = false) := Lib.hid (by simp [modeB, h1, hq, h2])
          clear h0 h1 hq h2
          go_enter Tryz.func53, Tryz.ntmps53
          go_wp2_with (go_at_call 38; refine (isTime_any _ _ _).mono ?_; rintro e w' ⟨rfl, rfl⟩; rw [HT.out])
          go_ret
          exact ⟨ret_bool (by rw [HR.out]), (Below.refl _ _).alloc (Nat.le_refl _) _⟩
    · have m1 : (t.mode == 1) = false := by simp [h1]
      by_cases h2 : t.mode = 2
      · have m2 : (t.mode == 2) = true := by simp [h2]
        by_cases h3 : t.Q = 0
        · have q0 : (t.Q == 0) = true := by simp [h3]
          by_cases h4 : 0 ≤ t.theta
          · by_cases h5 : t.theta ≤ p
            · have HR : Hid (modeB t p = true) := Lib.hid (by simp [modeB, h2, h3, h4, h5])
              clear h0 h1 h2 h3
              go_enter Tryz.func53, Tryz.ntmps53
              go_wp2_with (go_at_call 38; refine (isTime_any _ _ _).mono ?_; rintro e w' ⟨rfl, rfl⟩; rw [HT.out])
              go_ret
              exact ⟨ret_bool (by rw [HR.out]), (Below.refl _ _).alloc (Nat.le_refl _) _⟩
            · have HR : Hid (modeB t p = false) := Lib.hid (by simp [modeB, h2, h3, h4, h5])
              clear h0 h1 h2 h3
              go_enter Tryz.func53, Tryz.ntmps53
              go_wp2_with (go_at_call 38; refine (isTime_any _ _ _).mono ?_; rintro e w' ⟨rfl, rfl⟩; rw [HT.out])
              go_ret
              exact ⟨ret_bool (by rw [HR.out]), (Below.refl _ _).alloc (Nat.le_refl _) _⟩
          · have HR : Hid (modeB t p = false) := Lib.hid (by simp [modeB, h2, h3, h4])
            clear h0 h1 h2 h3
            go_enter Tryz.func53, Tryz.ntmps53
            go_wp2_with (go_at_call 38; refine (isTime_any _ _ _).mono ?_; rintro e w' ⟨rfl, rfl⟩; rw [HT.out])
            go_ret
            exact ⟨ret_bool (by rw [HR.out]), (Below.refl _ _).alloc (Nat.le_refl _) _⟩
        · have q0 : (t.Q == 0) = false := by simp [h3]
          have HR : Hid (modeB t p = false) := Lib.hid (by simp [modeB, h2, h3])
          clear h0 h1 h2 h3
          go_enter Tryz.func53, Tryz.ntmps53
          go_wp2_with (go_at_call 38; refine (isTime_any _ _ _).mono ?_; rintro e w' ⟨rfl, rfl⟩; rw [HT.out])
          go_ret
          exact ⟨ret_bool (by rw [HR.out]), (Below.refl _ _).alloc (Nat.le_refl _) _⟩
      · have m2 : (t.mode == 2) = false := by simp [h2]
        have HR : Hid (modeB t p = false) := Lib.hid (by simp [modeB, h0, h1, h2])
        clear h0 h1 h2
        go_enter Tryz.func53, Tryz.ntmps53
        go_wp2_with (go_at_call 38; refine (isTime_any _ _ _).mono ?_; rintro e w' ⟨rfl, rfl⟩; rw [HT.out])
        go_ret
        exact ⟨ret_bool (by rw [HR.out]), (Below.refl _ _).alloc (Nat.le_refl _) _⟩

/-- What task.Is answers. -/
def isB (t : Task) (p : Int) : Bool :=
  nameB t.name && (regsB t.regs && (decide (t.regs.sum ≤ t.D) && (decide (t.D ≤ t.T) && (timeB t.T 0 && (modeB t p && decide (Go.bits .andNot .u64 t.ucb t.ecb = 0))))))
def IsC (t : Task) (vr : Value) (w W : World) : Prop := Blk W w.heap.size (t.cells vr) 41 ∧ Below w.heap.size w W
theorem IsC.kept {t : Task} {vr : Value} {w W W' : World} (h : IsC t vr w W) (hb : Below W.heap.size W W') : IsC t vr w W' := ⟨h.1.kept hb, below_tr h.2 hb⟩
set_option maxRecDepth 100000 in
set_option maxHeartbeats 1000000 in
theorem is_any (t : Task) (vr : Value) (p : Int) (w : World) (hr : RdI w vr t.regs) (hn : t.name.size ≤ 140737488351232) (hT : SpaceTab w) :
    Calls Tryz.prog 39 #[.agg #[.string t.name, .int .i64 t.T, .int .i64 t.D, .int .i64 t.mode, .int .i64 t.Q, .int .i64 t.theta, vr, .int .u64 t.ecb, .int .u64 t.ucb], .int .i64 p] w fun e w' => e = .returned (.bool (isB t p)) ∧ Below w.heap.size w w' := by
  obtain ⟨hrr⟩ : Nonempty (Hid (RdI w vr t.regs)) := ⟨Lib.hid hr⟩
  clear hr
  have hr := hrr
  clear hrr
  cases h1 : nameB t.name
  · have HN := Lib.hid h1
    have HR : Hid (isB t p = false) := Lib.hid (by simp [isB, h1])
    clear h1
    go_enter Tryz.func39, Tryz.ntmps39
    go_wp2_with fail
    refine wp_region_cls (fun w' => Hid (IsC t vr w w')) (by kernel_rfl) (by kernel_rfl) (Lib.hid ⟨Blk.newAt rfl, by repeat (first | exact Below.refl _ _ | refine Below.drew ?_ | refine Below.alloc ?_ (by simp <;> omega) _)⟩) ?_
    repeat (first
      | go_big_quiet_skip
      | (go_big_quiet_want; go_big_quiet_op; first
        | go_big_quiet_on
        | (refine ⟨_, fun _ _ => rfl, ?_⟩; go_big_quiet_on)
        | (apply Exists.intro; refine ⟨fun W HC => ?_, ?_⟩; (rw [HC.out.1.cell 0 rfl]; exact ⟨rfl, rfl⟩); go_big_quiet_on)
        | (apply Exists.intro; refine ⟨fun W HC => ?_, ?_⟩; (rw [HC.out.1.cell 1 rfl]; exact ⟨rfl, rfl⟩); go_big_quiet_on)
        | (apply Exists.intro; refine ⟨fun W HC => ?_, ?_⟩; (rw [HC.out.1.cell 2 rfl]; exact ⟨rfl, rfl⟩); go_big_quiet_on)
        | (apply Exists.intro; refine ⟨fun W HC => ?_, ?_⟩; (rw [HC.out.1.cell 6 rfl]; exact ⟨rfl, rfl⟩); go_big_quiet_on)
        | (apply Exists.intro; refine ⟨fun W HC => ?_, ?_⟩; (rw [HC.out.1.cell 7 rfl]; exact ⟨rfl, rfl⟩); go_big_quiet_on)
        | (apply Exists.intro; refine ⟨fun W HC => ?_, ?_⟩; (rw [HC.out.1.cell 8 rfl]; exact ⟨rfl, rfl⟩); go_big_quiet_on)
        | (apply Exists.intro; refine ⟨fun W HC => ?_, ?_⟩; (have c0 := HC.out.1.cell 0 rfl; have c1 := HC.out.1.cell 1 rfl; have c2 := HC.out.1.cell 2 rfl; have c3 := HC.out.1.cell 3 rfl; have c4 := HC.out.1.cell 4 rfl; have c5 := HC.out.1.cell 5 rfl; have c6 := HC.out.1.cell 6 rfl; have c7 := HC.out.1.cell 7 rfl; have c8 := HC.out.1.cell 8 rfl; simp only [c0, c1, c2, c3, c4, c5, c6, c7, c8, Result.andThen_ok]; exact ⟨trivial, rfl⟩); go_big_quiet_on)
        | (apply Exists.intro; refine ⟨fun W HC => ?_, ?_⟩; (go_at_call 51; refine (isName_any t.name W hn (hT.below HC.out.2)).mono ?_; rintro e w' ⟨rfl, hb⟩; rw [HN.out]; exact ⟨rfl, Lib.hid (HC.out.kept hb)⟩); go_big_quiet_on)
        | (apply Exists.intro; refine ⟨fun W HC => ?_, ?_⟩; (go_at_call 52; refine (isRegions_any vr t.regs W (Rows'.kept CInt.mono HC.out.2 hr.out)).mono ?_; rintro e w' ⟨rfl, rfl⟩; rw [HG.out]; exact ⟨rfl, HC⟩); go_big_quiet_on)
        | (apply Exists.intro; refine ⟨fun W HC => ?_, ?_⟩; (go_at_call 18; refine (work_any t vr W (Rows'.kept CInt.mono HC.out.2 hr.out) HG.out).mono ?_; rintro e w' ⟨rfl, hb⟩; exact ⟨rfl, Lib.hid (HC.out.kept hb)⟩); go_big_quiet_on)
        | (apply Exists.intro; refine ⟨fun W HC => ?_, ?_⟩; (go_at_call 38; refine (isTime_any t.T 0 W).mono ?_; rintro e w' ⟨rfl, rfl⟩; rw [HM.out]; exact ⟨rfl, HC⟩); go_big_quiet_on)
        | (apply Exists.intro; refine ⟨fun W HC => ?_, ?_⟩; (go_at_call 53; refine (isMode_any t vr p W).mono ?_; rintro e w' ⟨rfl, hb⟩; rw [HO.out]; exact ⟨rfl, Lib.hid (HC.out.kept hb)⟩); go_big_quiet_on)))
    refine wpQuiet_nil ?_
    intro W HC
    go_wp2
    go_ret
    exact ⟨ret_bool (by rw [HR.out]), HC.out.2⟩
  · have HN := Lib.hid h1
    cases h2 : regsB t.regs
    · have HG := Lib.hid h2
      have HR : Hid (isB t p = false) := Lib.hid (by simp [isB, h1, h2])
      clear h1 h2
      go_enter Tryz.func39, Tryz.ntmps39
      go_wp2_with fail
      refine wp_region_cls (fun w' => Hid (IsC t vr w w')) (by kernel_rfl) (by kernel_rfl) (Lib.hid ⟨Blk.newAt rfl, by repeat (first | exact Below.refl _ _ | refine Below.drew ?_ | refine Below.alloc ?_ (by simp <;> omega) _)⟩) ?_
      repeat (first
        | go_big_quiet_skip
        | (go_big_quiet_want; go_big_quiet_op; first
          | go_big_quiet_on
          | (refine ⟨_, fun _ _ => rfl, ?_⟩; go_big_quiet_on)
          | (apply Exists.intro; refine ⟨fun W HC => ?_, ?_⟩; (rw [HC.out.1.cell 0 rfl]; exact ⟨rfl, rfl⟩); go_big_quiet_on)
          | (apply Exists.intro; refine ⟨fun W HC => ?_, ?_⟩; (rw [HC.out.1.cell 1 rfl]; exact ⟨rfl, rfl⟩); go_big_quiet_on)
          | (apply Exists.intro; refine ⟨fun W HC => ?_, ?_⟩; (rw [HC.out.1.cell 2 rfl]; exact ⟨rfl, rfl⟩); go_big_quiet_on)
          | (apply Exists.intro; refine ⟨fun W HC => ?_, ?_⟩; (rw [HC.out.1.cell 6 rfl]; exact ⟨rfl, rfl⟩); go_big_quiet_on)
          | (apply Exists.intro; refine ⟨fun W HC => ?_, ?_⟩; (rw [HC.out.1.cell 7 rfl]; exact ⟨rfl, rfl⟩); go_big_quiet_on)
          | (apply Exists.intro; refine ⟨fun W HC => ?_, ?_⟩; (rw [HC.out.1.cell 8 rfl]; exact ⟨rfl, rfl⟩); go_big_quiet_on)
          | (apply Exists.intro; refine ⟨fun W HC => ?_, ?_⟩; (have c0 := HC.out.1.cell 0 rfl; have c1 := HC.out.1.cell 1 rfl; have c2 := HC.out.1.cell 2 rfl; have c3 := HC.out.1.cell 3 rfl; have c4 := HC.out.1.cell 4 rfl; have c5 := HC.out.1.cell 5 rfl; have c6 := HC.out.1.cell 6 rfl; have c7 := HC.out.1.cell 7 rfl; have c8 := HC.out.1.cell 8 rfl; simp only [c0, c1, c2, c3, c4, c5, c6, c7, c8, Result.andThen_ok]; exact ⟨trivial, rfl⟩); go_big_quiet_on)
          | (apply Exists.intro; refine ⟨fun W HC => ?_, ?_⟩; (go_at_call 51; refine (isName_any t.name W hn (hT.below HC.out.2)).mono ?_; rintro e w' ⟨rfl, hb⟩; rw [HN.out]; exact ⟨rfl, Lib.hid (HC.out.kept hb)⟩); go_big_quiet_on)
          | (apply Exists.intro; refine ⟨fun W HC => ?_, ?_⟩; (go_at_call 52; refine (isRegions_any vr t.regs W (Rows'.kept CInt.mono HC.out.2 hr.out)).mono ?_; rintro e w' ⟨rfl, rfl⟩; rw [HG.out]; exact ⟨rfl, HC⟩); go_big_quiet_on)
          | (apply Exists.intro; refine ⟨fun W HC => ?_, ?_⟩; (go_at_call 18; refine (work_any t vr W (Rows'.kept CInt.mono HC.out.2 hr.out) HG.out).mono ?_; rintro e w' ⟨rfl, hb⟩; exact ⟨rfl, Lib.hid (HC.out.kept hb)⟩); go_big_quiet_on)
          | (apply Exists.intro; refine ⟨fun W HC => ?_, ?_⟩; (go_at_call 38; refine (isTime_any t.T 0 W).mono ?_; rintro e w' ⟨rfl, rfl⟩; rw [HM.out]; exact ⟨rfl, HC⟩); go_big_quiet_on)
          | (apply Exists.intro; refine ⟨fun W HC => ?_, ?_⟩; (go_at_call 53; refine (isMode_any t vr p W).mono ?_; rintro e w' ⟨rfl, hb⟩; rw [HO.out]; exact ⟨rfl, Lib.hid (HC.out.kept hb)⟩); go_big_quiet_on)))
      refine wpQuiet_nil ?_
      intro W HC
      go_wp2
      go_ret
      exact ⟨ret_bool (by rw [HR.out]), HC.out.2⟩
    · have HG := Lib.hid h2
      by_cases h3 : t.regs.sum ≤ t.D
      · by_cases h4 : t.D ≤ t.T
        · cases h5 : timeB t.T 0
          · have HM := Lib.hid h5
            have HR : Hid (isB t p = false) := Lib.hid (by simp [isB, h1, h2, h3, h4, h5])
            clear h1 h2 h5
            go_enter Tryz.func39, Tryz.ntmps39
            go_wp2_with fail
            refine wp_region_cls (fun w' => Hid (IsC t vr w w')) (by kernel_rfl) (by kernel_rfl) (Lib.hid ⟨Blk.newAt rfl, by repeat (first | exact Below.refl _ _ | refine Below.drew ?_ | refine Below.alloc ?_ (by simp <;> omega) _)⟩) ?_
            repeat (first
              | go_big_quiet_skip
              | (go_big_quiet_want; go_big_quiet_op; first
                | go_big_quiet_on
                | (refine ⟨_, fun _ _ => rfl, ?_⟩; go_big_quiet_on)
                | (apply Exists.intro; refine ⟨fun W HC => ?_, ?_⟩; (rw [HC.out.1.cell 0 rfl]; exact ⟨rfl, rfl⟩); go_big_quiet_on)
                | (apply Exists.intro; refine ⟨fun W HC => ?_, ?_⟩; (rw [HC.out.1.cell 1 rfl]; exact ⟨rfl, rfl⟩); go_big_quiet_on)
                | (apply Exists.intro; refine ⟨fun W HC => ?_, ?_⟩; (rw [HC.out.1.cell 2 rfl]; exact ⟨rfl, rfl⟩); go_big_quiet_on)
                | (apply Exists.intro; refine ⟨fun W HC => ?_, ?_⟩; (rw [HC.out.1.cell 6 rfl]; exact ⟨rfl, rfl⟩); go_big_quiet_on)
                | (apply Exists.intro; refine ⟨fun W HC => ?_, ?_⟩; (rw [HC.out.1.cell 7 rfl]; exact ⟨rfl, rfl⟩); go_big_quiet_on)
                | (apply Exists.intro; refine ⟨fun W HC => ?_, ?_⟩; (rw [HC.out.1.cell 8 rfl]; exact ⟨rfl, rfl⟩); go_big_quiet_on)
                | (apply Exists.intro; refine ⟨fun W HC => ?_, ?_⟩; (have c0 := HC.out.1.cell 0 rfl; have c1 := HC.out.1.cell 1 rfl; have c2 := HC.out.1.cell 2 rfl; have c3 := HC.out.1.cell 3 rfl; have c4 := HC.out.1.cell 4 rfl; have c5 := HC.out.1.cell 5 rfl; have c6 := HC.out.1.cell 6 rfl; have c7 := HC.out.1.cell 7 rfl; have c8 := HC.out.1.cell 8 rfl; simp only [c0, c1, c2, c3, c4, c5, c6, c7, c8, Result.andThen_ok]; exact ⟨trivial, rfl⟩); go_big_quiet_on)
                | (apply Exists.intro; refine ⟨fun W HC => ?_, ?_⟩; (go_at_call 51; refine (isName_any t.name W hn (hT.below HC.out.2)).mono ?_; rintro e w' ⟨rfl, hb⟩; rw [HN.out]; exact ⟨rfl, Lib.hid (HC.out.kept hb)⟩); go_big_quiet_on)
                | (apply Exists.intro; refine ⟨fun W HC => ?_, ?_⟩; (go_at_call 52; refine (isRegions_any vr t.regs W (Rows'.kept CInt.mono HC.out.2 hr.out)).mono ?_; rintro e w' ⟨rfl, rfl⟩; rw [HG.out]; exact ⟨rfl, HC⟩); go_big_quiet_on)
                | (apply Exists.intro; refine ⟨fun W HC => ?_, ?_⟩; (go_at_call 18; refine (work_any t vr W (Rows'.kept CInt.mono HC.out.2 hr.out) HG.out).mono ?_; rintro e w' ⟨rfl, hb⟩; exact ⟨rfl, Lib.hid (HC.out.kept hb)⟩); go_big_quiet_on)
                | (apply Exists.intro; refine ⟨fun W HC => ?_, ?_⟩; (go_at_call 38; refine (isTime_any t.T 0 W).mono ?_; rintro e w' ⟨rfl, rfl⟩; rw [HM.out]; exact ⟨rfl, HC⟩); go_big_quiet_on)
                | (apply Exists.intro; refine ⟨fun W HC => ?_, ?_⟩; (go_at_call 53; refine (isMode_any t vr p W).mono ?_; rintro e w' ⟨rfl, hb⟩; rw [HO.out]; exact ⟨rfl, Lib.hid (HC.out.kept hb)⟩); go_big_quiet_on)))
            refine wpQuiet_nil ?_
            intro W HC
            go_wp2
            go_ret
            exact ⟨ret_bool (by rw [HR.out]), HC.out.2⟩
          · have HM := Lib.hid h5
            cases h6 : modeB t p
            · have HO := Lib.hid h6
              have HR : Hid (isB t p = false) := Lib.hid (by simp [isB, h1, h2, h3, h4, h5, h6])
              clear h1 h2 h5 h6
              go_enter Tryz.func39, Tryz.ntmps39
              go_wp2_with fail
              refine wp_region_cls (fun w' => Hid (IsC t vr w w')) (by kernel_rfl) (by kernel_rfl) (Lib.hid ⟨Blk.newAt rfl, by repeat (first | exact Below.refl _ _ | refine Below.drew ?_ | refine Below.alloc ?_ (by simp <;> omega) _)⟩) ?_
              repeat (first
                | go_big_quiet_skip
                | (go_big_quiet_want; go_big_quiet_op; first
                  | go_big_quiet_on
                  | (refine ⟨_, fun _ _ => rfl, ?_⟩; go_big_quiet_on)
                  | (apply Exists.intro; refine ⟨fun W HC => ?_, ?_⟩; (rw [HC.out.1.cell 0 rfl]; exact ⟨rfl, rfl⟩); go_big_quiet_on)
                  | (apply Exists.intro; refine ⟨fun W HC => ?_, ?_⟩; (rw [HC.out.1.cell 1 rfl]; exact ⟨rfl, rfl⟩); go_big_quiet_on)
                  | (apply Exists.intro; refine ⟨fun W HC => ?_, ?_⟩; (rw [HC.out.1.cell 2 rfl]; exact ⟨rfl, rfl⟩); go_big_quiet_on)
                  | (apply Exists.intro; refine ⟨fun W HC => ?_, ?_⟩; (rw [HC.out.1.cell 6 rfl]; exact ⟨rfl, rfl⟩); go_big_quiet_on)
                  | (apply Exists.intro; refine ⟨fun W HC => ?_, ?_⟩; (rw [HC.out.1.cell 7 rfl]; exact ⟨rfl, rfl⟩); go_big_quiet_on)
                  | (apply Exists.intro; refine ⟨fun W HC => ?_, ?_⟩; (rw [HC.out.1.cell 8 rfl]; exact ⟨rfl, rfl⟩); go_big_quiet_on)
                  | (apply Exists.intro; refine ⟨fun W HC => ?_, ?_⟩; (have c0 := HC.out.1.cell 0 rfl; have c1 := HC.out.1.cell 1 rfl; have c2 := HC.out.1.cell 2 rfl; have c3 := HC.out.1.cell 3 rfl; have c4 := HC.out.1.cell 4 rfl; have c5 := HC.out.1.cell 5 rfl; have c6 := HC.out.1.cell 6 rfl; have c7 := HC.out.1.cell 7 rfl; have c8 := HC.out.1.cell 8 rfl; simp only [c0, c1, c2, c3, c4, c5, c6, c7, c8, Result.andThen_ok]; exact ⟨trivial, rfl⟩); go_big_quiet_on)
                  | (apply Exists.intro; refine ⟨fun W HC => ?_, ?_⟩; (go_at_call 51; refine (isName_any t.name W hn (hT.below HC.out.2)).mono ?_; rintro e w' ⟨rfl, hb⟩; rw [HN.out]; exact ⟨rfl, Lib.hid (HC.out.kept hb)⟩); go_big_quiet_on)
                  | (apply Exists.intro; refine ⟨fun W HC => ?_, ?_⟩; (go_at_call 52; refine (isRegions_any vr t.regs W (Rows'.kept CInt.mono HC.out.2 hr.out)).mono ?_; rintro e w' ⟨rfl, rfl⟩; rw [HG.out]; exact ⟨rfl, HC⟩); go_big_quiet_on)
                  | (apply Exists.intro; refine ⟨fun W HC => ?_, ?_⟩; (go_at_call 18; refine (work_any t vr W (Rows'.kept CInt.mono HC.out.2 hr.out) HG.out).mono ?_; rintro e w' ⟨rfl, hb⟩; exact ⟨rfl, Lib.hid (HC.out.kept hb)⟩); go_big_quiet_on)
                  | (apply Exists.intro; refine ⟨fun W HC => ?_, ?_⟩; (go_at_call 38; refine (isTime_any t.T 0 W).mono ?_; rintro e w' ⟨rfl, rfl⟩; rw [HM.out]; exact ⟨rfl, HC⟩); go_big_quiet_on)
                  | (apply Exists.intro; refine ⟨fun W HC => ?_, ?_⟩; (go_at_call 53; refine (isMode_any t vr p W).mono ?_; rintro e w' ⟨rfl, hb⟩; rw [HO.out]; exact ⟨rfl, Lib.hid (HC.out.kept hb)⟩); go_big_quiet_on)))
              refine wpQuiet_nil ?_
              intro W HC
              go_wp2
              go_ret
              exact ⟨ret_bool (by rw [HR.out]), HC.out.2⟩
            · have HO := Lib.hid h6
              by_cases h7 : Go.bits .andNot .u64 t.ucb t.ecb = 0
              · have k7 : (Go.bits .andNot .u64 t.ucb t.ecb == 0) = true := by simp [h7]
                have HR : Hid (isB t p = true) := Lib.hid (by simp [isB, h1, h2, h3, h4, h5, h6, h7])
                clear h1 h2 h5 h6 h7
                go_enter Tryz.func39, Tryz.ntmps39
                go_wp2_with fail
                refine wp_region_cls (fun w' => Hid (IsC t vr w w')) (by kernel_rfl) (by kernel_rfl) (Lib.hid ⟨Blk.newAt rfl, by repeat (first | exact Below.refl _ _ | refine Below.drew ?_ | refine Below.alloc ?_ (by simp <;> omega) _)⟩) ?_
                repeat (first
                  | go_big_quiet_skip
                  | (go_big_quiet_want; go_big_quiet_op; first
                    | go_big_quiet_on
                    | (refine ⟨_, fun _ _ => rfl, ?_⟩; go_big_quiet_on)
                    | (apply Exists.intro; refine ⟨fun W HC => ?_, ?_⟩; (rw [HC.out.1.cell 0 rfl]; exact ⟨rfl, rfl⟩); go_big_quiet_on)
                    | (apply Exists.intro; refine ⟨fun W HC => ?_, ?_⟩; (rw [HC.out.1.cell 1 rfl]; exact ⟨rfl, rfl⟩); go_big_quiet_on)
                    | (apply Exists.intro; refine ⟨fun W HC => ?_, ?_⟩; (rw [HC.out.1.cell 2 rfl]; exact ⟨rfl, rfl⟩); go_big_quiet_on)
                    | (apply Exists.intro; refine ⟨fun W HC => ?_, ?_⟩; (rw [HC.out.1.cell 6 rfl]; exact ⟨rfl, rfl⟩); go_big_quiet_on)
                    | (apply Exists.intro; refine ⟨fun W HC => ?_, ?_⟩; (rw [HC.out.1.cell 7 rfl]; exact ⟨rfl, rfl⟩); go_big_quiet_on)
                    | (apply Exists.intro; refine ⟨fun W HC => ?_, ?_⟩; (rw [HC.out.1.cell 8 rfl]; exact ⟨rfl, rfl⟩); go_big_quiet_on)
                    | (apply Exists.intro; refine ⟨fun W HC => ?_, ?_⟩; (have c0 := HC.out.1.cell 0 rfl; have c1 := HC.out.1.cell 1 rfl; have c2 := HC.out.1.cell 2 rfl; have c3 := HC.out.1.cell 3 rfl; have c4 := HC.out.1.cell 4 rfl; have c5 := HC.out.1.cell 5 rfl; have c6 := HC.out.1.cell 6 rfl; have c7 := HC.out.1.cell 7 rfl; have c8 := HC.out.1.cell 8 rfl; simp only [c0, c1, c2, c3, c4, c5, c6, c7, c8, Result.andThen_ok]; exact ⟨trivial, rfl⟩); go_big_quiet_on)
                    | (apply Exists.intro; refine ⟨fun W HC => ?_, ?_⟩; (go_at_call 51; refine (isName_any t.name W hn (hT.below HC.out.2)).mono ?_; rintro e w' ⟨rfl, hb⟩; rw [HN.out]; exact ⟨rfl, Lib.hid (HC.out.kept hb)⟩); go_big_quiet_on)
                    | (apply Exists.intro; refine ⟨fun W HC => ?_, ?_⟩; (go_at_call 52; refine (isRegions_any vr t.regs W (Rows'.kept CInt.mono HC.out.2 hr.out)).mono ?_; rintro e w' ⟨rfl, rfl⟩; rw [HG.out]; exact ⟨rfl, HC⟩); go_big_quiet_on)
                    | (apply Exists.intro; refine ⟨fun W HC => ?_, ?_⟩; (go_at_call 18; refine (work_any t vr W (Rows'.kept CInt.mono HC.out.2 hr.out) HG.out).mono ?_; rintro e w' ⟨rfl, hb⟩; exact ⟨rfl, Lib.hid (HC.out.kept hb)⟩); go_big_quiet_on)
                    | (apply Exists.intro; refine ⟨fun W HC => ?_, ?_⟩; (go_at_call 38; refine (isTime_any t.T 0 W).mono ?_; rintro e w' ⟨rfl, rfl⟩; rw [HM.out]; exact ⟨rfl, HC⟩); go_big_quiet_on)
                    | (apply Exists.intro; refine ⟨fun W HC => ?_, ?_⟩; (go_at_call 53; refine (isMode_any t vr p W).mono ?_; rintro e w' ⟨rfl, hb⟩; rw [HO.out]; exact ⟨rfl, Lib.hid (HC.out.kept hb)⟩); go_big_quiet_on)))
                refine wpQuiet_nil ?_
                intro W HC
                go_wp2
                go_ret
                exact ⟨ret_bool (by rw [HR.out]), HC.out.2⟩
              · have k7 : (Go.bits .andNot .u64 t.ucb t.ecb == 0) = false := by simp [h7]
                have HR : Hid (isB t p = false) := Lib.hid (by simp [isB, h1, h2, h3, h4, h5, h6, h7])
                clear h1 h2 h5 h6 h7
                go_enter Tryz.func39, Tryz.ntmps39
                go_wp2_with fail
                refine wp_region_cls (fun w' => Hid (IsC t vr w w')) (by kernel_rfl) (by kernel_rfl) (Lib.hid ⟨Blk.newAt rfl, by repeat (first | exact Below.refl _ _ | refine Below.drew ?_ | refine Below.alloc ?_ (by simp <;> omega) _)⟩) ?_
                repeat (first
                  | go_big_quiet_skip
                  | (go_big_quiet_want; go_big_quiet_op; first
                    | go_big_quiet_on
                    | (refine ⟨_, fun _ _ => rfl, ?_⟩; go_big_quiet_on)
                    | (apply Exists.intro; refine ⟨fun W HC => ?_, ?_⟩; (rw [HC.out.1.cell 0 rfl]; exact ⟨rfl, rfl⟩); go_big_quiet_on)
                    | (apply Exists.intro; refine ⟨fun W HC => ?_, ?_⟩; (rw [HC.out.1.cell 1 rfl]; exact ⟨rfl, rfl⟩); go_big_quiet_on)
                    | (apply Exists.intro; refine ⟨fun W HC => ?_, ?_⟩; (rw [HC.out.1.cell 2 rfl]; exact ⟨rfl, rfl⟩); go_big_quiet_on)
                    | (apply Exists.intro; refine ⟨fun W HC => ?_, ?_⟩; (rw [HC.out.1.cell 6 rfl]; exact ⟨rfl, rfl⟩); go_big_quiet_on)
                    | (apply Exists.intro; refine ⟨fun W HC => ?_, ?_⟩; (rw [HC.out.1.cell 7 rfl]; exact ⟨rfl, rfl⟩); go_big_quiet_on)
                    | (apply Exists.intro; refine ⟨fun W HC => ?_, ?_⟩; (rw [HC.out.1.cell 8 rfl]; exact ⟨rfl, rfl⟩); go_big_quiet_on)
                    | (apply Exists.intro; refine ⟨fun W HC => ?_, ?_⟩; (have c0 := HC.out.1.cell 0 rfl; have c1 := HC.out.1.cell 1 rfl; have c2 := HC.out.1.cell 2 rfl; have c3 := HC.out.1.cell 3 rfl; have c4 := HC.out.1.cell 4 rfl; have c5 := HC.out.1.cell 5 rfl; have c6 := HC.out.1.cell 6 rfl; have c7 := HC.out.1.cell 7 rfl; have c8 := HC.out.1.cell 8 rfl; simp only [c0, c1, c2, c3, c4, c5, c6, c7, c8, Result.andThen_ok]; exact ⟨trivial, rfl⟩); go_big_quiet_on)
                    | (apply Exists.intro; refine ⟨fun W HC => ?_, ?_⟩; (go_at_call 51; refine (isName_any t.name W hn (hT.below HC.out.2)).mono ?_; rintro e w' ⟨rfl, hb⟩; rw [HN.out]; exact ⟨rfl, Lib.hid (HC.out.kept hb)⟩); go_big_quiet_on)
                    | (apply Exists.intro; refine ⟨fun W HC => ?_, ?_⟩; (go_at_call 52; refine (isRegions_any vr t.regs W (Rows'.kept CInt.mono HC.out.2 hr.out)).mono ?_; rintro e w' ⟨rfl, rfl⟩; rw [HG.out]; exact ⟨rfl, HC⟩); go_big_quiet_on)
                    | (apply Exists.intro; refine ⟨fun W HC => ?_, ?_⟩; (go_at_call 18; refine (work_any t vr W (Rows'.kept CInt.mono HC.out.2 hr.out) HG.out).mono ?_; rintro e w' ⟨rfl, hb⟩; exact ⟨rfl, Lib.hid (HC.out.kept hb)⟩); go_big_quiet_on)
                    | (apply Exists.intro; refine ⟨fun W HC => ?_, ?_⟩; (go_at_call 38; refine (isTime_any t.T 0 W).mono ?_; rintro e w' ⟨rfl, rfl⟩; rw [HM.out]; exact ⟨rfl, HC⟩); go_big_quiet_on)
                    | (apply Exists.intro; refine ⟨fun W HC => ?_, ?_⟩; (go_at_call 53; refine (isMode_any t vr p W).mono ?_; rintro e w' ⟨rfl, hb⟩; rw [HO.out]; exact ⟨rfl, Lib.hid (HC.out.kept hb)⟩); go_big_quiet_on)))
                refine wpQuiet_nil ?_
                intro W HC
                go_wp2
                go_ret
                exact ⟨ret_bool (by rw [HR.out]), HC.out.2⟩
        · have k4 : decide (t.D ≤ t.T) = false := by simp [h4]
          have HR : Hid (isB t p = false) := Lib.hid (by simp [isB, h1, h2, h3, h4])
          clear h1 h2
          go_enter Tryz.func39, Tryz.ntmps39
          go_wp2_with fail
          refine wp_region_cls (fun w' => Hid (IsC t vr w w')) (by kernel_rfl) (by kernel_rfl) (Lib.hid ⟨Blk.newAt rfl, by repeat (first | exact Below.refl _ _ | refine Below.drew ?_ | refine Below.alloc ?_ (by simp <;> omega) _)⟩) ?_
          repeat (first
            | go_big_quiet_skip
            | (go_big_quiet_want; go_big_quiet_op; first
              | go_big_quiet_on
              | (refine ⟨_, fun _ _ => rfl, ?_⟩; go_big_quiet_on)
              | (apply Exists.intro; refine ⟨fun W HC => ?_, ?_⟩; (rw [HC.out.1.cell 0 rfl]; exact ⟨rfl, rfl⟩); go_big_quiet_on)
              | (apply Exists.intro; refine ⟨fun W HC => ?_, ?_⟩; (rw [HC.out.1.cell 1 rfl]; exact ⟨rfl, rfl⟩); go_big_quiet_on)
              | (apply Exists.intro; refine ⟨fun W HC => ?_, ?_⟩; (rw [HC.out.1.cell 2 rfl]; exact ⟨rfl, rfl⟩); go_big_quiet_on)
              | (apply Exists.intro; refine ⟨fun W HC => ?_, ?_⟩; (rw [HC.out.1.cell 6 rfl]; exact ⟨rfl, rfl⟩); go_big_quiet_on)
              | (apply Exists.intro; refine ⟨fun W HC => ?_, ?_⟩; (rw [HC.out.1.cell 7 rfl]; exact ⟨rfl, rfl⟩); go_big_quiet_on)
              | (apply Exists.intro; refine ⟨fun W HC => ?_, ?_⟩; (rw [HC.out.1.cell 8 rfl]; exact ⟨rfl, rfl⟩); go_big_quiet_on)
              | (apply Exists.intro; refine ⟨fun W HC => ?_, ?_⟩; (have c0 := HC.out.1.cell 0 rfl; have c1 := HC.out.1.cell 1 rfl; have c2 := HC.out.1.cell 2 rfl; have c3 := HC.out.1.cell 3 rfl; have c4 := HC.out.1.cell 4 rfl; have c5 := HC.out.1.cell 5 rfl; have c6 := HC.out.1.cell 6 rfl; have c7 := HC.out.1.cell 7 rfl; have c8 := HC.out.1.cell 8 rfl; simp only [c0, c1, c2, c3, c4, c5, c6, c7, c8, Result.andThen_ok]; exact ⟨trivial, rfl⟩); go_big_quiet_on)
              | (apply Exists.intro; refine ⟨fun W HC => ?_, ?_⟩; (go_at_call 51; refine (isName_any t.name W hn (hT.below HC.out.2)).mono ?_; rintro e w' ⟨rfl, hb⟩; rw [HN.out]; exact ⟨rfl, Lib.hid (HC.out.kept hb)⟩); go_big_quiet_on)
              | (apply Exists.intro; refine ⟨fun W HC => ?_, ?_⟩; (go_at_call 52; refine (isRegions_any vr t.regs W (Rows'.kept CInt.mono HC.out.2 hr.out)).mono ?_; rintro e w' ⟨rfl, rfl⟩; rw [HG.out]; exact ⟨rfl, HC⟩); go_big_quiet_on)
              | (apply Exists.intro; refine ⟨fun W HC => ?_, ?_⟩; (go_at_call 18; refine (work_any t vr W (Rows'.kept CInt.mono HC.out.2 hr.out) HG.out).mono ?_; rintro e w' ⟨rfl, hb⟩; exact ⟨rfl, Lib.hid (HC.out.kept hb)⟩); go_big_quiet_on)
              | (apply Exists.intro; refine ⟨fun W HC => ?_, ?_⟩; (go_at_call 38; refine (isTime_any t.T 0 W).mono ?_; rintro e w' ⟨rfl, rfl⟩; rw [HM.out]; exact ⟨rfl, HC⟩); go_big_quiet_on)
              | (apply Exists.intro; refine ⟨fun W HC => ?_, ?_⟩; (go_at_call 53; refine (isMode_any t vr p W).mono ?_; rintro e w' ⟨rfl, hb⟩; rw [HO.out]; exact ⟨rfl, Lib.hid (HC.out.kept hb)⟩); go_big_quiet_on)))
          refine wpQuiet_nil ?_
          intro W HC
          go_wp2
          go_ret
          exact ⟨ret_bool (by rw [HR.out]), HC.out.2⟩
      · have k3 : decide (t.regs.sum ≤ t.D) = false := by simp [h3]
        have HR : Hid (isB t p = false) := Lib.hid (by simp [isB, h1, h2, h3])
        clear h1 h2
        go_enter Tryz.func39, Tryz.ntmps39
        go_wp2_with fail
        refine wp_region_cls (fun w' => Hid (IsC t vr w w')) (by kernel_rfl) (by kernel_rfl) (Lib.hid ⟨Blk.newAt rfl, by repeat (first | exact Below.refl _ _ | refine Below.drew ?_ | refine Below.alloc ?_ (by simp <;> omega) _)⟩) ?_
        repeat (first
          | go_big_quiet_skip
          | (go_big_quiet_want; go_big_quiet_op; first
            | go_big_quiet_on
            | (refine ⟨_, fun _ _ => rfl, ?_⟩; go_big_quiet_on)
            | (apply Exists.intro; refine ⟨fun W HC => ?_, ?_⟩; (rw [HC.out.1.cell 0 rfl]; exact ⟨rfl, rfl⟩); go_big_quiet_on)
            | (apply Exists.intro; refine ⟨fun W HC => ?_, ?_⟩; (rw [HC.out.1.cell 1 rfl]; exact ⟨rfl, rfl⟩); go_big_quiet_on)
            | (apply Exists.intro; refine ⟨fun W HC => ?_, ?_⟩; (rw [HC.out.1.cell 2 rfl]; exact ⟨rfl, rfl⟩); go_big_quiet_on)
            | (apply Exists.intro; refine ⟨fun W HC => ?_, ?_⟩; (rw [HC.out.1.cell 6 rfl]; exact ⟨rfl, rfl⟩); go_big_quiet_on)
            | (apply Exists.intro; refine ⟨fun W HC => ?_, ?_⟩; (rw [HC.out.1.cell 7 rfl]; exact ⟨rfl, rfl⟩); go_big_quiet_on)
            | (apply Exists.intro; refine ⟨fun W HC => ?_, ?_⟩; (rw [HC.out.1.cell 8 rfl]; exact ⟨rfl, rfl⟩); go_big_quiet_on)
            | (apply Exists.intro; refine ⟨fun W HC => ?_, ?_⟩; (have c0 := HC.out.1.cell 0 rfl; have c1 := HC.out.1.cell 1 rfl; have c2 := HC.out.1.cell 2 rfl; have c3 := HC.out.1.cell 3 rfl; have c4 := HC.out.1.cell 4 rfl; have c5 := HC.out.1.cell 5 rfl; have c6 := HC.out.1.cell 6 rfl; have c7 := HC.out.1.cell 7 rfl; have c8 := HC.out.1.cell 8 rfl; simp only [c0, c1, c2, c3, c4, c5, c6, c7, c8, Result.andThen_ok]; exact ⟨trivial, rfl⟩); go_big_quiet_on)
            | (apply Exists.intro; refine ⟨fun W HC => ?_, ?_⟩; (go_at_call 51; refine (isName_any t.name W hn (hT.below HC.out.2)).mono ?_; rintro e w' ⟨rfl, hb⟩; rw [HN.out]; exact ⟨rfl, Lib.hid (HC.out.kept hb)⟩); go_big_quiet_on)
            | (apply Exists.intro; refine ⟨fun W HC => ?_, ?_⟩; (go_at_call 52; refine (isRegions_any vr t.regs W (Rows'.kept CInt.mono HC.out.2 hr.out)).mono ?_; rintro e w' ⟨rfl, rfl⟩; rw [HG.out]; exact ⟨rfl, HC⟩); go_big_quiet_on)
            | (apply Exists.intro; refine ⟨fun W HC => ?_, ?_⟩; (go_at_call 18; refine (work_any t vr W (Rows'.kept CInt.mono HC.out.2 hr.out) HG.out).mono ?_; rintro e w' ⟨rfl, hb⟩; exact ⟨rfl, Lib.hid (HC.out.kept hb)⟩); go_big_quiet_on)
            | (apply Exists.intro; refine ⟨fun W HC => ?_, ?_⟩; (go_at_call 38; refine (isTime_any t.T 0 W).mono ?_; rintro e w' ⟨rfl, rfl⟩; rw [HM.out]; exact ⟨rfl, HC⟩); go_big_quiet_on)
            | (apply Exists.intro; refine ⟨fun W HC => ?_, ?_⟩; (go_at_call 53; refine (isMode_any t vr p W).mono ?_; rintro e w' ⟨rfl, hb⟩; rw [HO.out]; exact ⟨rfl, Lib.hid (HC.out.kept hb)⟩); go_big_quiet_on)))
        refine wpQuiet_nil ?_
        intro W HC
        go_wp2
        go_ret
        exact ⟨ret_bool (by rw [HR.out]), HC.out.2⟩
end Go.Proofs.YtopmnpkjhaabcaaGreatDoor
