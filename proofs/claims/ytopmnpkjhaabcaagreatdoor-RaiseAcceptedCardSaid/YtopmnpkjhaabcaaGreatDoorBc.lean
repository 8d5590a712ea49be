/- taskmasterref8, taskmasterref9 walked, at sets that may be (9: all tasks with thresholds). -/
import Derived.Test.YtopmnpkjhaabcaaGreatDoorBb
import Derived.Test.YtopmnpkjhaabcaaGreatDoorz
import Derived.Test.YtopmnpkjhaabcaaGreatDoorAa
import Derived.IntWalk
set_option linter.unusedVariables false
set_option linter.unusedSimpArgs false
namespace Go.Proofs.YtopmnpkjhaabcaaGreatDoor
open Go.RowKit

set_option maxRecDepth 100000 in
theorem rown_any (reload : Int) (vs : Value) (ts : List Task) (k : Nat) (w : World) (hv : RdT w vs ts) (hG : Good reload ts) (hk : k < ts.length) :
    Calls Tryz.prog 33 #[.agg #[.int .i64 reload, vs], .int .i64 k] w fun e w' => e = .returned (.int .i64 (ownI reload ts k)) ∧ Below w.heap.size w w' := by
  have HCN := Lib.hid (fun W => rcount_any (gT ts k).ucb W (hG.ucb k hk).1 (hG.ucb k hk).2)
  obtain ⟨tb0, tb1⟩ := ticks_bound (x := (gT ts k).ucb) hG.r0 hG.r1
  have hl := hG.n8
  obtain ⟨A, c, rfl, hle, hat⟩ := hv.at
  obtain ⟨b, o, vr, rfl, hr, hcell⟩ := hat k hk
  have HC8 := Lib.hid (hcell 8 _ rfl)
  have HX := Lib.hid (show ownI reload ts k = reload * popI (gT ts k).ucb from rfl)
  have d1 : decide ((k : Int) < 0) = false := by simp
  have d2 : decide (ts.length ≤ k) = false := by simp; omega
  clear hG hv hat hcell hr
  generalize (gT ts k).ucb = x at *
  generalize popI x = n at *
  go_enter Tryz.func33, Tryz.ntmps33
  go_wp2_with fail
  refine wp_region_cls (fun w' => Hid (SetC reload (.slice (some ⟨b, o, none⟩) ts.length c) w w')) (by kernel_rfl) (by kernel_rfl) (Lib.hid ⟨Blk.newAt rfl, (by repeat (first | exact Below.refl _ _ | refine Below.drew ?_ | refine Below.alloc ?_ (by simp <;> omega) _))⟩) ?_
  repeat (first
    | go_big_quiet_skip
    | (go_big_quiet_want; go_big_quiet_op; first
      | go_big_quiet_on
      | (refine ⟨_, fun _ _ => rfl, ?_⟩; go_big_quiet_on)
      | (apply Exists.intro; refine ⟨fun W HC => ?_, ?_⟩; (rw [HC.out.1.cell 0 rfl]; exact ⟨rfl, rfl⟩); go_big_quiet_on)
      | (apply Exists.intro; refine ⟨fun W HC => ?_, ?_⟩; (rw [HC.out.1.cell 1 rfl]; exact ⟨rfl, rfl⟩); go_big_quiet_on)
      | (apply Exists.intro; refine ⟨fun W HC => ?_, ?_⟩; (have c0 := HC.out.1.cell 0 rfl; have c1 := HC.out.1.cell 1 rfl; simp only [c0, c1, Result.andThen_ok]; exact ⟨trivial, rfl⟩); go_big_quiet_on)
      | (apply Exists.intro; refine ⟨fun W HC => ?_, ?_⟩; (rw [cell_kept HC.out.2 HC8.out]; exact ⟨rfl, rfl⟩); go_big_quiet_on)
      | (apply Exists.intro; refine ⟨fun W HC => ?_, ?_⟩; (go_at_call 44; refine (HCN.out _).mono ?_; rintro e w2 ⟨rfl, hb2⟩; exact ⟨rfl, Lib.hid (HC.out.kept hb2)⟩); go_big_quiet_on)))
  refine wpQuiet_nil ?_
  intro W HC
  go_wp2
  go_ret
  exact ⟨ret_int (by rw [HX.out]), HC.out.2⟩
set_option maxRecDepth 100000 in
theorem rmade_any (reload : Int) (vs : Value) (ts : List Task) (j : Nat) (w : World) (hv : RdT w vs ts) (hG : Good reload ts) (hj : j < ts.length) :
    Calls Tryz.prog 61 #[.agg #[.int .i64 reload, vs], .int .i64 j] w fun e w' => e = .returned (.int .i64 (madeI reload ts j)) ∧ Below w.heap.size w w' := by
  have hxr := bits_range .and (gT ts j).ecb (lowTo ts j (ts.length - (j + 1)))
  have HCN := Lib.hid (fun W => rcount_any (madeX ts j) W hxr.1 hxr.2)
  obtain ⟨tb0, tb1⟩ := ticks_bound (x := madeX ts j) hG.r0 hG.r1
  have HXX : Hid (Go.bits .and .u64 (lowTo ts j (ts.length - (j + 1))) (gT ts j).ecb = madeX ts j) := Lib.hid (by rw [and_swap]; rfl)
  have HX := Lib.hid (show madeI reload ts j = reload * popI (madeX ts j) from rfl)
  have hl := hG.n8
  obtain ⟨A, c, rfl, hle, hat⟩ := hv.at
  obtain ⟨b, o, vr, rfl, hr, hcell⟩ := hat j hj
  have HC7 := Lib.hid (hcell 7 _ rfl)
  have HAT := Lib.hid hat
  have d1 : decide ((j : Int) < 0) = false := by simp
  have d2 : decide (ts.length ≤ j) = false := by simp; omega
  clear hG hv hat hcell hr hxr
  generalize madeX ts j = x at *
  generalize popI x = n at *
  go_enter Tryz.func61, Tryz.ntmps61
  go_wp2_with fail
  go_loopw [5, 6] (fun l i W => ∃ k : Nat, k ≤ ts.length - (j + 1) ∧ i = .int .i64 (j + 1 + k : Nat) ∧ l = .int .u64 (lowTo ts j k) ∧ Hid (SetC reload (.slice (some ⟨b, o, none⟩) ts.length c) w W)) (fun _ i _ => ts.length - (intOf i).toNat)
  case atStart => exact ⟨0, Nat.zero_le _, by go_num, rfl, Lib.hid ⟨Blk.newAt rfl, (by repeat (first | exact Below.refl _ _ | refine Below.drew ?_ | refine Below.alloc ?_ (by simp <;> omega) _))⟩⟩
  case round =>
    obtain ⟨k, hk, rfl, rfl, HS2⟩ := hrel
    have b1 := HS2.out.1.cell 1 rfl
    by_cases hlt : k < ts.length - (j + 1)
    · obtain ⟨b', o', vr', hbo, hr, hcell⟩ := HAT.out (j + 1 + k) (by omega)
      cases hbo
      have c8 := cell_kept HS2.out.2 (hcell 8 _ rfl)
      have hlt2 : j + 1 + k < ts.length := by omega
      clear hcell hr
      go_wp2
      go_roundw
      case rel => exact ⟨k + 1, by omega, by go_num, rfl, HS2⟩
      case measure => simp [intOf]; omega
    · obtain rfl : k = ts.length - (j + 1) := by omega
      have hge : ¬ j + 1 + (ts.length - (j + 1)) < ts.length := by omega
      go_wp2_with fail
      refine wp_region_cls (fun w' => Hid (SetC reload (.slice (some ⟨b, o, none⟩) ts.length c) w w')) (by kernel_rfl) (by kernel_rfl) (Lib.hid (SetC.kept HS2.out ((Below.refl _ _).drew))) ?_
      repeat (first
        | go_big_quiet_skip
        | (go_big_quiet_want; go_big_quiet_op; first
          | go_big_quiet_on
          | (refine ⟨_, fun _ _ => rfl, ?_⟩; go_big_quiet_on)
          | (apply Exists.intro; refine ⟨fun W HC => ?_, ?_⟩; (rw [HC.out.1.cell 0 rfl]; exact ⟨rfl, rfl⟩); go_big_quiet_on)
          | (apply Exists.intro; refine ⟨fun W HC => ?_, ?_⟩; (rw [HC.out.1.cell 1 rfl]; exact ⟨rfl, rfl⟩); go_big_quiet_on)
          | (apply Exists.intro; refine ⟨fun W HC => ?_, ?_⟩; (have c0 := HC.out.1.cell 0 rfl; have c1 := HC.out.1.cell 1 rfl; simp only [c0, c1, Result.andThen_ok]; exact ⟨trivial, rfl⟩); go_big_quiet_on)
          | (apply Exists.intro; refine ⟨fun W HC => ?_, ?_⟩; (rw [cell_kept HC.out.2 HC7.out]; exact ⟨rfl, rfl⟩); go_big_quiet_on)
              | (apply Exists.intro; refine ⟨fun W HC => ?_, ?_⟩; (rw [HXX.out]; go_at_call 44; refine (HCN.out _).mono ?_; rintro e w2 ⟨rfl, hb2⟩; exact ⟨rfl, Lib.hid (HC.out.kept hb2)⟩); go_big_quiet_on)))
      refine wpQuiet_nil ?_
      intro W HC
      go_wp2
      go_ret
      exact ⟨ret_int (by rw [HX.out]), HC.out.2⟩
set_option maxRecDepth 100000 in
theorem rwork8_any (reload : Int) (vs : Value) (ts : List Task) (k : Nat) (w : World) (hv : RdT w vs ts) (hG : Good reload ts) (hk : k < ts.length) :
    Calls Tryz.prog 32 #[.agg #[.int .i64 reload, vs], .int .i64 k] w fun e w' => e = .returned (.int .i64 (workI ts k)) ∧ Below w.heap.size w w' := by
  have hl := hG.n8
  obtain ⟨A, c, rfl, hle, hat⟩ := hv.at
  obtain ⟨b, o, vr, rfl, hr, hcell⟩ := hat k hk
  obtain ⟨Ar, cr, rfl, -⟩ := id hr
  have HWK := Lib.hid (fun W (h : Below w.heap.size w W) => rwork_any (gT ts k) (.slice Ar (gT ts k).regs.length cr) W (hr.kept CInt.mono h) (hG.regs k hk))
  have HWI : Hid ((gT ts k).regs.sum = workI ts k) := Lib.hid rfl
  have hcell2 := fun j u hu => cell_kept ((Below.refl w.heap.size w).alloc (Nat.le_refl _) (Obj.cells #[.int .i64 reload, .slice (some ⟨b, o, none⟩) ts.length c] 24)) (hcell j u hu)
  obtain ⟨c0, c1, c2, c3, c4, c5, c6, c7, c8⟩ := task_cells hcell2
  clear hG hv hat hcell hcell2 hr
  go_enter Tryz.func32, Tryz.ntmps32
  go_wp2_with (go_at_call 35; refine (HWK.out _ (by repeat (first | exact Below.refl _ _ | refine Below.drew ?_ | refine Below.alloc ?_ (by simp <;> omega) _))).mono ?_; rintro e w1 ⟨rfl, hb1⟩; rw [HWI.out])
  go_ret
  exact ⟨rfl, below_tr (by repeat (first | exact Below.refl _ _ | refine Below.drew ?_ | refine Below.alloc ?_ (by simp <;> omega) _)) hb1⟩
set_option maxRecDepth 100000 in
theorem rwhole_any (reload : Int) (vs : Value) (ts : List Task) (k : Nat) (w : World) (hv : RdT w vs ts) (hG : Good reload ts) (hk : k < ts.length) :
    Calls Tryz.prog 21 #[.agg #[.int .i64 reload, vs], .int .i64 k] w fun e w' => e = .returned (.int .i64 (workI ts k + ownI reload ts k - 1)) ∧ Below w.heap.size w w' := by
  have HWK := Lib.hid (fun W (h : Below w.heap.size w W) => rwork8_any reload vs ts k W (hv.kept CTask.mono h) hG hk)
  have HOW := Lib.hid (fun W (h : Below w.heap.size w W) => rown_any reload vs ts k W (hv.kept CTask.mono h) hG hk)
  have h1 := work_bound hG hk
  have h2 := ticks_bound (x := (gT ts k).ucb) hG.r0 hG.r1
  have hl := hG.n8
  change 0 ≤ ownI reload ts k ∧ ownI reload ts k ≤ 640000 at h2
  obtain ⟨A, c, rfl, hle, hat⟩ := hv.at
  clear hG hv hat
  generalize ownI reload ts k = n at *
  generalize workI ts k = m at *
  have hs1 : IntKind.i64.wrap (m + n) = m + n := IntWalk.i64_in _ (by omega)
  have hs2 : IntKind.i64.wrap (m + n - 1) = m + n - 1 := IntWalk.i64_in _ (by omega)
  go_enter Tryz.func21, Tryz.ntmps21
  go_wp2_with fail
  refine wp_region_cls (fun w' => Hid (SetC reload (.slice A ts.length c) w w')) (by kernel_rfl) (by kernel_rfl) (Lib.hid ⟨Blk.newAt rfl, (by repeat (first | exact Below.refl _ _ | refine Below.drew ?_ | refine Below.alloc ?_ (by simp <;> omega) _))⟩) ?_
  repeat (first
    | go_big_quiet_skip
    | (go_big_quiet_want; go_big_quiet_op; first
      | go_big_quiet_on
      | (refine ⟨_, fun _ _ => rfl, ?_⟩; go_big_quiet_on)
      | (apply Exists.intro; refine ⟨fun W HC => ?_, ?_⟩; (rw [HC.out.1.cell 0 rfl]; exact ⟨rfl, rfl⟩); go_big_quiet_on)
      | (apply Exists.intro; refine ⟨fun W HC => ?_, ?_⟩; (rw [HC.out.1.cell 1 rfl]; exact ⟨rfl, rfl⟩); go_big_quiet_on)
      | (apply Exists.intro; refine ⟨fun W HC => ?_, ?_⟩; (have c0 := HC.out.1.cell 0 rfl; have c1 := HC.out.1.cell 1 rfl; simp only [c0, c1, Result.andThen_ok]; exact ⟨trivial, rfl⟩); go_big_quiet_on)
      | (apply Exists.intro; refine ⟨fun W HC => ?_, ?_⟩; (go_at_call 32; refine (HWK.out _ HC.out.2).mono ?_; rintro e w2 ⟨rfl, hb2⟩; exact ⟨rfl, Lib.hid (HC.out.kept hb2)⟩); go_big_quiet_on)
      | (apply Exists.intro; refine ⟨fun W HC => ?_, ?_⟩; (go_at_call 33; refine (HOW.out _ HC.out.2).mono ?_; rintro e w2 ⟨rfl, hb2⟩; exact ⟨rfl, Lib.hid (HC.out.kept hb2)⟩); go_big_quiet_on)))
  refine wpQuiet_nil ?_
  intro W HC
  go_wp2
  try simp only [hs1, hs2]
  go_ret
  exact ⟨ret_int (by simp only [hs1, hs2]), HC.out.2⟩
/-- How long a lower task with a threshold stands in the way. -/
def thrI (reload : Int) (ts : List Task) (low high : Nat) : Int := if (gT ts low).theta ≤ high then workI ts low + ownI reload ts low - 1 else 0
set_option maxRecDepth 100000 in
theorem rblock_any (reload : Int) (vs : Value) (ts : List Task) (low high : Nat) (w : World) (hv : RdT w vs ts) (hG : Good reload ts) (hk : low < ts.length) (hh : high < low) (hm : (gT ts low).mode = 2) :
    Calls Tryz.prog 50 #[.agg #[.int .i64 reload, vs], .int .i64 low, .int .i64 high] w fun e w' => e = .returned (.int .i64 (thrI reload ts low high)) ∧ Below w.heap.size w w' := by
  have HWH := Lib.hid (fun W (h : Below w.heap.size w W) => rwhole_any reload vs ts low W (hv.kept CTask.mono h) hG hk)
  have hl := hG.n8
  obtain ⟨A, c, rfl, hle, hat⟩ := hv.at
  obtain ⟨b, o, vr, rfl, hr, hcell⟩ := hat low hk
  obtain ⟨Ar, cr, rfl, -⟩ := id hr
  have hcell2 := fun j u hu => cell_kept ((Below.refl w.heap.size w).alloc (Nat.le_refl _) (Obj.cells #[.int .i64 reload, .slice (some ⟨b, o, none⟩) ts.length c] 24)) (hcell j u hu)
  obtain ⟨c0, c1, c2, c3, c4, c5, c6, c7, c8⟩ := task_cells hcell2
  have d1 : decide ((high : Int) < 0) = false := by simp
  have d2 : decide (low ≤ high) = false := by simp; omega
  have d3 : decide (ts.length ≤ low) = false := by simp; omega
  have m0 : ((gT ts low).mode == 0) = false := by rw [hm]; rfl
  have m1 : ((gT ts low).mode == 1) = false := by rw [hm]; rfl
  clear hG hv hat hcell hcell2 hr hm
  by_cases ht : (gT ts low).theta ≤ high
  · have HF : Hid (thrI reload ts low high = workI ts low + ownI reload ts low - 1) := Lib.hid (by unfold thrI; rw [if_pos ht])
    go_enter Tryz.func50, Tryz.ntmps50
    go_wp2_with (go_at_call 21; refine (HWH.out _ (by repeat (first | exact Below.refl _ _ | refine Below.drew ?_ | refine Below.alloc ?_ (by simp <;> omega) _))).mono ?_; rintro e w1 ⟨rfl, hb1⟩)
    go_ret
    exact ⟨ret_int (by rw [HF.out]), below_tr (by repeat (first | exact Below.refl _ _ | refine Below.drew ?_ | refine Below.alloc ?_ (by simp <;> omega) _)) hb1⟩
  · have HF : Hid (thrI reload ts low high = 0) := Lib.hid (by unfold thrI; rw [if_neg ht])
    have hd : decide ((gT ts low).theta ≤ (high : Int)) = false := by simp; omega
    go_enter Tryz.func50, Tryz.ntmps50
    go_wp2_with fail
    go_ret
    exact ⟨ret_int (by rw [HF.out]), (by repeat (first | exact Below.refl _ _ | refine Below.drew ?_ | refine Below.alloc ?_ (by simp <;> omega) _))⟩
/-- The most that lower tasks stand in the way, of the first so many. -/
def mostTo (reload : Int) (ts : List Task) (i : Nat) : Nat → Int
  | 0 => 0
  | m + 1 => max (mostTo reload ts i m) (thrI reload ts (i + 1 + m) i)
def mostI (reload : Int) (ts : List Task) (i : Nat) : Int := mostTo reload ts i (ts.length - (i + 1))
theorem thr_bound {reload : Int} {ts : List Task} (hG : Good reload ts) {low : Nat} (hk : low < ts.length) (high : Nat) : 0 ≤ thrI reload ts low high ∧ thrI reload ts low high ≤ 650000 := by
  have h1 := work_bound hG hk
  have h2 := ticks_bound (x := (gT ts low).ucb) hG.r0 hG.r1
  change 0 ≤ ownI reload ts low ∧ ownI reload ts low ≤ 640000 at h2
  unfold thrI; split <;> omega
theorem mostTo_bound {reload : Int} {ts : List Task} (hG : Good reload ts) (i m : Nat) (hm : i + 1 + m ≤ ts.length) : 0 ≤ mostTo reload ts i m ∧ mostTo reload ts i m ≤ 650000 := by
  induction m with
  | zero => exact ⟨Int.le_refl _, by simp [mostTo]⟩
  | succ m ih =>
    have h1 := ih (by omega)
    have h2 := thr_bound hG (show i + 1 + m < ts.length by omega) i
    rw [mostTo]; omega
set_option maxRecDepth 100000 in
theorem rmost_any (reload : Int) (vs : Value) (ts : List Task) (i : Nat) (w : World) (hv : RdT w vs ts) (hG : Good reload ts) (hi : i < ts.length) (hm : ∀ k, k < ts.length → (gT ts k).mode = 2) :
    Calls Tryz.prog 37 #[.agg #[.int .i64 reload, vs], .int .i64 i] w fun e w' => e = .returned (.int .i64 (mostI reload ts i)) ∧ Below w.heap.size w w' := by
  have HBL := Lib.hid (fun W (h : Below w.heap.size w W) k (hk : k < ts.length) (hh : i < k) => rblock_any reload vs ts k i W (hv.kept CTask.mono h) hG hk hh (hm k hk))
  have HMB := Lib.hid (fun m (h : i + 1 + m ≤ ts.length) => mostTo_bound hG i m h)
  have HTB := Lib.hid (fun k (h : k < ts.length) => thr_bound hG h i)
  have hl := hG.n8
  obtain ⟨A, c, rfl, hle, hat⟩ := hv.at
  clear hG hv hat hm
  go_enter Tryz.func37, Tryz.ntmps37
  go_wp2_with fail
  go_loopw [5, 6] (fun n l W => ∃ m : Nat, m ≤ ts.length - (i + 1) ∧ l = .int .i64 (i + 1 + m : Nat) ∧ n = .int .i64 (mostTo reload ts i m) ∧ Hid (SetC reload (.slice A ts.length c) w W)) (fun _ l _ => ts.length - (intOf l).toNat)
  case atStart => exact ⟨0, Nat.zero_le _, by go_num, rfl, Lib.hid ⟨Blk.newAt rfl, (by repeat (first | exact Below.refl _ _ | refine Below.drew ?_ | refine Below.alloc ?_ (by simp <;> omega) _))⟩⟩
  case round =>
    obtain ⟨m, hm, rfl, rfl, HS⟩ := hrel
    have b0 := HS.out.1.cell 0 rfl
    have b1 := HS.out.1.cell 1 rfl
    by_cases hlt : m < ts.length - (i + 1)
    · have hlt2 : i + 1 + m < ts.length := by omega
      have HB := Lib.hid (HBL.out wr HS.out.2 (i + 1 + m) hlt2 (by omega))
      have HSU : Hid (mostTo reload ts i (m + 1) = max (mostTo reload ts i m) (thrI reload ts (i + 1 + m) i)) := Lib.hid rfl
      generalize thrI reload ts (i + 1 + m) i = tt at *
      go_wp2_with (go_at_call 50; refine HB.out.mono ?_; rintro e w1 ⟨rfl, hb1⟩; have HS1 := Lib.hid (HS.out.kept hb1); clear hb1)
      go_roundw
      case rel => exact ⟨m + 1, by omega, by go_num, by rw [HSU.out], HS1⟩
      case measure => simp [intOf]; omega
    · obtain rfl : m = ts.length - (i + 1) := by omega
      have hge : ¬ i + 1 + (ts.length - (i + 1)) < ts.length := by omega
      go_wp2
      go_ret
      exact ⟨rfl, HS.out.2⟩
end Go.Proofs.YtopmnpkjhaabcaaGreatDoor
