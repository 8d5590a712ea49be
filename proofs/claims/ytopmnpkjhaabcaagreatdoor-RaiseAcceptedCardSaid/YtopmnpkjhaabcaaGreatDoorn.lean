/- again.is, ticks, Own, Made, Cost walked, at a set that may be. -/
import Derived.Test.YtopmnpkjhaabcaaGreatDoorm
set_option linter.unusedVariables false
set_option linter.unusedSimpArgs false
namespace Go.Proofs.YtopmnpkjhaabcaaGreatDoor
open Go.RowKit

/-- A set that may be, its cache sets of 64 bits. -/
structure Good (reload : Int) (ts : List Task) : Prop where
  r0 : 0 ≤ reload
  r1 : reload ≤ 10000
  n1 : 1 ≤ ts.length
  n8 : ts.length ≤ 8
  regs : ∀ k, k < ts.length → regsB (gT ts k).regs = true
  cd : ∀ k, k < ts.length → (gT ts k).regs.sum ≤ (gT ts k).D
  dt : ∀ k, k < ts.length → (gT ts k).D ≤ (gT ts k).T
  tm : ∀ k, k < ts.length → (gT ts k).T ≤ 10000
  ucb : ∀ k, k < ts.length → 0 ≤ (gT ts k).ucb ∧ (gT ts k).ucb < 18446744073709551616
  ecb : ∀ k, k < ts.length → 0 ≤ (gT ts k).ecb ∧ (gT ts k).ecb < 18446744073709551616
def SetC (reload : Int) (vs : Value) (w W : World) : Prop := Blk W w.heap.size [.int .i64 reload, vs] 24 ∧ Below w.heap.size w W
theorem SetC.kept {reload : Int} {vs : Value} {w W W' : World} (h : SetC reload vs w W) (hb : Below W.heap.size W W') : SetC reload vs w W' := ⟨h.1.kept hb, below_tr h.2 hb⟩
def isI (ts : List Task) (i : Int) : Bool := decide (0 ≤ i) && decide (i < ts.length)
theorem againIs_any (reload : Int) (vs : Value) (ts : List Task) (i : Int) (w : World) (hv : RdT w vs ts) : Calls Tryz.prog 29 #[.agg #[.int .i64 reload, vs], .int .i64 i] w fun e w' => e = .returned (.bool (isI ts i)) ∧ Below w.heap.size w w' := by
  obtain ⟨A, c, rfl, hle, hat⟩ := hv.at
  clear hv hat
  by_cases h1 : 0 ≤ i
  · go_enter Tryz.func29, Tryz.ntmps29
    go_wp2
    go_ret
    exact ⟨ret_bool (by simp [isI, h1]; try omega), (Below.refl _ _).alloc (Nat.le_refl _) _⟩
  · go_enter Tryz.func29, Tryz.ntmps29
    go_wp2
    go_ret
    exact ⟨ret_bool (by simp [isI, h1]; try omega), (Below.refl _ _).alloc (Nat.le_refl _) _⟩
theorem ticks_bound {r x : Int} (r0 : 0 ≤ r) (r1 : r ≤ 10000) : 0 ≤ r * popI x ∧ r * popI x ≤ 640000 := by
  have h := popI_le x
  exact ⟨Int.mul_nonneg r0 h.1, by have := Int.mul_le_mul r1 h.2 h.1 (by omega); omega⟩
theorem ticks_any (reload : Int) (vs : Value) (x : Int) (w : World) (r0 : 0 ≤ reload) (r1 : reload ≤ 10000) (h0 : 0 ≤ x) (h1 : x < 18446744073709551616) :
    Calls Tryz.prog 30 #[.agg #[.int .i64 reload, vs], .int .u64 x] w fun e w' => e = .returned (.int .i64 (reload * popI x)) ∧ Below w.heap.size w w' := by
  obtain ⟨b0, b1⟩ := ticks_bound (x := x) r0 r1
  have HN := Lib.hid (fun W => count_any x h0 h1 W)
  generalize popI x = n at *
  go_enter Tryz.func30, Tryz.ntmps30
  go_wp2_with fail
  refine wp_region_cls (fun w' => Hid (SetC reload (vs) w w')) (by kernel_rfl) (by kernel_rfl) (Lib.hid ⟨Blk.newAt rfl, (by repeat (first | exact Below.refl _ _ | refine Below.drew ?_ | refine Below.alloc ?_ (by simp <;> omega) _))⟩) ?_
  repeat (first
    | go_big_quiet_skip
    | (go_big_quiet_want; go_big_quiet_op; first
      | go_big_quiet_on
      | (refine ⟨_, fun _ _ => rfl, ?_⟩; go_big_quiet_on)
      | (apply Exists.intro; refine ⟨fun W HC => ?_, ?_⟩; (rw [HC.out.1.cell 0 rfl]; exact ⟨rfl, rfl⟩); go_big_quiet_on)
      | (apply Exists.intro; refine ⟨fun W HC => ?_, ?_⟩; (rw [HC.out.1.cell 1 rfl]; exact ⟨rfl, rfl⟩); go_big_quiet_on)
      | (apply Exists.intro; refine ⟨fun W HC => ?_, ?_⟩; (have c0 := HC.out.1.cell 0 rfl; have c1 := HC.out.1.cell 1 rfl; simp only [c0, c1, Result.andThen_ok]; exact ⟨trivial, rfl⟩); go_big_quiet_on)
      | (apply Exists.intro; refine ⟨fun W HC => ?_, ?_⟩; (go_at_call 43; refine (HN.out _).mono ?_; rintro e w1 ⟨rfl, rfl⟩; exact ⟨rfl, HC⟩); go_big_quiet_on)))
  refine wpQuiet_nil ?_
  intro W HC
  go_wp2
  go_ret
  exact ⟨by go_num, HC.out.2⟩

theorem isI_yes {ts : List Task} {k : Nat} (h : k < ts.length) : isI ts (k : Int) = true := by simp [isI]; omega
def ownI (reload : Int) (ts : List Task) (k : Nat) : Int := reload * popI (gT ts k).ucb
theorem own_any (reload : Int) (vs : Value) (ts : List Task) (k : Nat) (w : World) (hv : RdT w vs ts) (hG : Good reload ts) (hk : k < ts.length) :
    Calls Tryz.prog 19 #[.agg #[.int .i64 reload, vs], .int .i64 k] w fun e w' => e = .returned (.int .i64 (ownI reload ts k)) ∧ Below w.heap.size w w' := by
  have HIS := Lib.hid (fun W (h : Below w.heap.size w W) => (againIs_any reload vs ts k W (hv.kept CTask.mono h)).mono (by rintro e w1 ⟨rfl, hb⟩; exact ⟨by rw [isI_yes hk], hb⟩ : ∀ e w1, _ → (e = .returned (.bool true) ∧ Below W.heap.size W w1)))
  have HTI := Lib.hid (fun W => ticks_any reload vs (gT ts k).ucb W hG.r0 hG.r1 (hG.ucb k hk).1 (hG.ucb k hk).2)
  have hl := hG.n8
  obtain ⟨A, c, rfl, hle, hat⟩ := hv.at
  obtain ⟨b, o, vr, rfl, hr, hcell⟩ := hat k hk
  obtain ⟨c0, c1, c2, c3, c4, c5, c6, c7, c8⟩ := task_cells hcell
  have HC8 := Lib.hid c8
  have HX := Lib.hid (show ownI reload ts k = reload * popI (gT ts k).ucb from rfl)
  clear hG hv hat hcell c0 c1 c2 c3 c4 c5 c6 c7 c8 hr
  generalize (gT ts k).ucb = x at *
  generalize popI x = n at *
  go_enter Tryz.func19, Tryz.ntmps19
  go_wp2_with (go_at_call 29; refine (HIS.out _ (by repeat (first | exact Below.refl _ _ | refine Below.drew ?_ | refine Below.alloc ?_ (by simp <;> omega) _))).mono ?_; rintro e w1 ⟨rfl, hb1⟩; have HS : Hid (SetC reload (.slice (some ⟨b, o, none⟩) ts.length c) w w1) := Lib.hid (SetC.kept ⟨Blk.newAt rfl, (by repeat (first | exact Below.refl _ _ | refine Below.drew ?_ | refine Below.alloc ?_ (by simp <;> omega) _))⟩ hb1); clear hb1)
  refine wp_region_cls (fun w' => Hid (SetC reload (.slice (some ⟨b, o, none⟩) ts.length c) w w')) (by kernel_rfl) (by kernel_rfl) (Lib.hid (SetC.kept HS.out ((Below.refl _ _).drew))) ?_
  repeat (first
    | go_big_quiet_skip
    | (go_big_quiet_want; go_big_quiet_op; first
      | go_big_quiet_on
      | (refine ⟨_, fun _ _ => rfl, ?_⟩; go_big_quiet_on)
      | (apply Exists.intro; refine ⟨fun W HC => ?_, ?_⟩; (rw [HC.out.1.cell 0 rfl]; exact ⟨rfl, rfl⟩); go_big_quiet_on)
      | (apply Exists.intro; refine ⟨fun W HC => ?_, ?_⟩; (rw [HC.out.1.cell 1 rfl]; exact ⟨rfl, rfl⟩); go_big_quiet_on)
      | (apply Exists.intro; refine ⟨fun W HC => ?_, ?_⟩; (have c0 := HC.out.1.cell 0 rfl; have c1 := HC.out.1.cell 1 rfl; simp only [c0, c1, Result.andThen_ok]; exact ⟨trivial, rfl⟩); go_big_quiet_on)
      | (apply Exists.intro; refine ⟨fun W HC => ?_, ?_⟩; (rw [cell_kept HC.out.2 HC8.out]; exact ⟨rfl, rfl⟩); go_big_quiet_on)
      | (apply Exists.intro; refine ⟨fun W HC => ?_, ?_⟩; (go_at_call 30; refine (HTI.out _).mono ?_; rintro e w2 ⟨rfl, hb2⟩; exact ⟨rfl, Lib.hid (HC.out.kept hb2)⟩); go_big_quiet_on)))
  refine wpQuiet_nil ?_
  intro W HC
  go_wp2
  go_ret
  exact ⟨ret_int (by rw [HX.out]), HC.out.2⟩

def lowTo (ts : List Task) (j : Nat) : Nat → Int
  | 0 => 0
  | k + 1 => bits .or .u64 (lowTo ts j k) (gT ts (j + 1 + k)).ucb
def madeX (ts : List Task) (j : Nat) : Int := bits .and .u64 (gT ts j).ecb (lowTo ts j (ts.length - (j + 1)))
def madeI (reload : Int) (ts : List Task) (j : Nat) : Int := reload * popI (madeX ts j)
theorem bits_range (op : BinOp) (a b : Int) : 0 ≤ bits op .u64 a b ∧ bits op .u64 a b < 18446744073709551616 := by
  have h : ∃ x, bits op .u64 a b = IntKind.u64.wrap x := ⟨_, rfl⟩
  obtain ⟨x, hx⟩ := h
  rw [hx, IntKind.wrap_u64]
  omega
/-- A slice's length is no more than its room. -/
def CapOk (v : Value) : Prop := ∀ A n c, v = .slice A n c → n ≤ c
set_option maxRecDepth 100000 in
theorem made_any (reload : Int) (vs : Value) (ts : List Task) (j : Nat) (w : World) (hv : RdT w vs ts) (hcap : CapOk vs) (hG : Good reload ts) (hj : j < ts.length) :
    Calls Tryz.prog 79 #[.agg #[.int .i64 reload, vs], .int .i64 j] w fun e w' => e = .returned (.int .i64 (madeI reload ts j)) ∧ Below w.heap.size w w' := by
  have HIS := Lib.hid (fun W (h : Below w.heap.size w W) => (againIs_any reload vs ts j W (hv.kept CTask.mono h)).mono (by rintro e w1 ⟨rfl, hb⟩; exact ⟨by rw [isI_yes hj], hb⟩ : ∀ e w1, _ → (e = .returned (.bool true) ∧ Below W.heap.size W w1)))
  have hxr := bits_range .and (gT ts j).ecb (lowTo ts j (ts.length - (j + 1)))
  have HTI := Lib.hid (fun W => ticks_any reload vs (madeX ts j) W hG.r0 hG.r1 hxr.1 hxr.2)
  have HXX := Lib.hid (show madeX ts j = bits .and .u64 (gT ts j).ecb (lowTo ts j (ts.length - (j + 1))) from rfl)
  have HX := Lib.hid (show madeI reload ts j = reload * popI (madeX ts j) from rfl)
  have hl := hG.n8
  obtain ⟨A, c, rfl, hle, hat⟩ := hv.at
  have hcc := hcap _ _ _ rfl
  obtain ⟨b, o, vr, rfl, hr, hcell⟩ := hat j hj
  obtain ⟨c0, c1, c2, c3, c4, c5, c6, c7, c8⟩ := task_cells hcell
  have HC7 := Lib.hid c7
  have HAT := Lib.hid hat
  clear hG hv hat hcell c0 c1 c2 c3 c4 c5 c6 c7 c8 hr hxr hcap
  generalize madeX ts j = x at *
  generalize popI x = n at *
  by_cases hc : c = j + 1
  · subst hc
    go_enter Tryz.func79, Tryz.ntmps79
    go_wp2_with (go_at_call 29; refine (HIS.out _ (by repeat (first | exact Below.refl _ _ | refine Below.drew ?_ | refine Below.alloc ?_ (by simp <;> omega) _))).mono ?_; rintro e w1 ⟨rfl, hb1⟩; have HS : Hid (SetC reload (.slice (some ⟨b, o, none⟩) ts.length (j + 1)) w w1) := Lib.hid (SetC.kept ⟨Blk.newAt rfl, (by repeat (first | exact Below.refl _ _ | refine Below.drew ?_ | refine Below.alloc ?_ (by simp <;> omega) _))⟩ hb1); clear hb1; have b1 := HS.out.1.cell 1 rfl)
    go_loopw [5, 7, 18] (fun l _ i W => i = .int .i64 0 ∧ l = .int .u64 0 ∧ Hid (SetC reload (.slice (some ⟨b, o, none⟩) ts.length (j + 1)) w W)) (fun _ _ i _ => 0)
    case atStart => exact ⟨rfl, rfl, HS⟩
    case round =>
      obtain ⟨rfl, rfl, HS2⟩ := hrel
      clear HS b1
      have b1 := HS2.out.1.cell 1 rfl
      go_wp2_with fail
      have HXX : Hid (bits .and .u64 (gT ts j).ecb 0 = x) := Lib.hid (by rw [HXX.out, show ts.length - (j + 1) = 0 by omega]; rfl)
      refine wp_region_cls (fun w' => Hid (SetC reload (.slice (some ⟨b, o, none⟩) ts.length (j + 1)) w w')) (by kernel_rfl) (by kernel_rfl) (Lib.hid (SetC.kept HS2.out ((Below.refl _ _).drew))) ?_
      repeat (first
        | go_big_quiet_skip
        | (go_big_quiet_want; go_big_quiet_op; first
          | go_big_quiet_on
          | (refine ⟨_, fun _ _ => rfl, ?_⟩; go_big_quiet_on)
          | (apply Exists.intro; refine ⟨fun W HC => ?_, ?_⟩; (rw [HC.out.1.cell 0 rfl]; exact ⟨rfl, rfl⟩); go_big_quiet_on)
          | (apply Exists.intro; refine ⟨fun W HC => ?_, ?_⟩; (rw [HC.out.1.cell 1 rfl]; exact ⟨rfl, rfl⟩); go_big_quiet_on)
          | (apply Exists.intro; refine ⟨fun W HC => ?_, ?_⟩; (have c0 := HC.out.1.cell 0 rfl; have c1 := HC.out.1.cell 1 rfl; simp only [c0, c1, Result.andThen_ok]; exact ⟨trivial, rfl⟩); go_big_quiet_on)
          | (apply Exists.intro; refine ⟨fun W HC => ?_, ?_⟩; (rw [cell_kept HC.out.2 HC7.out]; exact ⟨rfl, rfl⟩); go_big_quiet_on)
              | (apply Exists.intro; refine ⟨fun W HC => ?_, ?_⟩; (rw [HXX.out]; go_at_call 30; refine (HTI.out _).mono ?_; rintro e w2 ⟨rfl, hb2⟩; exact ⟨rfl, Lib.hid (HC.out.kept hb2)⟩); go_big_quiet_on)))
      refine wpQuiet_nil ?_
      intro W HC
      go_wp2
      go_ret
      exact ⟨ret_int (by rw [HX.out]), HC.out.2⟩
  · go_enter Tryz.func79, Tryz.ntmps79
    go_wp2_with (go_at_call 29; refine (HIS.out _ (by repeat (first | exact Below.refl _ _ | refine Below.drew ?_ | refine Below.alloc ?_ (by simp <;> omega) _))).mono ?_; rintro e w1 ⟨rfl, hb1⟩; have HS : Hid (SetC reload (.slice (some ⟨b, o, none⟩) ts.length c) w w1) := Lib.hid (SetC.kept ⟨Blk.newAt rfl, (by repeat (first | exact Below.refl _ _ | refine Below.drew ?_ | refine Below.alloc ?_ (by simp <;> omega) _))⟩ hb1); clear hb1; have b1 := HS.out.1.cell 1 rfl)
    go_loopw [5, 7, 18] (fun l _ i W => ∃ k : Nat, k ≤ ts.length - (j + 1) ∧ i = .int .i64 k ∧ l = .int .u64 (lowTo ts j k) ∧ Hid (SetC reload (.slice (some ⟨b, o, none⟩) ts.length c) w W)) (fun _ _ i _ => ts.length - (intOf i).toNat)
    case atStart => exact ⟨0, Nat.zero_le _, rfl, rfl, HS⟩
    case round =>
      obtain ⟨k, hk, rfl, rfl, HS2⟩ := hrel
      clear HS b1
      have b1 := HS2.out.1.cell 1 rfl
      by_cases hlt : k < ts.length - (j + 1)
      · obtain ⟨b', o', vr', hbo, hr, hcell⟩ := HAT.out (j + 1 + k) (by omega)
        cases hbo
        have hcell2 := fun j u hu => cell_kept HS2.out.2 (hcell j u hu)
        obtain ⟨c0, c1, c2, c3, c4, c5, c6, c7, c8⟩ := task_cells hcell2
        obtain ⟨Ar, cr, rfl, -⟩ := id hr
        rw [show o + (j + 1 + k) * 9 = o + (j + 1) * 9 + k * 9 by omega] at c0 c1 c2 c3 c4 c5 c6 c7 c8
        clear hcell hcell2 hr
        go_wp2
        go_roundw
        case rel => exact ⟨k + 1, by omega, by go_num, rfl, Lib.hid (SetC.kept HS2.out (Below.alloc (Below.refl _ _) (Nat.le_refl _) _))⟩
        case measure => simp [intOf]; omega
      · go_wp2_with fail
        obtain rfl : k = ts.length - (j + 1) := by omega
        have HXX : Hid (bits .and .u64 (gT ts j).ecb (lowTo ts j (ts.length - (j + 1))) = x) := Lib.hid HXX.out.symm
        refine wp_region_cls (fun w' => Hid (SetC reload (.slice (some ⟨b, o, none⟩) ts.length c) w w')) (by kernel_rfl) (by kernel_rfl) (Lib.hid (SetC.kept HS2.out ((Below.refl _ _).drew))) ?_
        repeat (first
          | go_big_quiet_skip
          | (go_big_quiet_want; go_big_quiet_op; first
            | go_big_quiet_on
            | (refine ⟨_, fun _ _ => rfl, ?_⟩; go_big_quiet_on)
            | (apply Exists.intro; refine ⟨fun W HC => ?_, ?_⟩; (rw [HC.out.1.cell 0 rfl]; exact ⟨rfl, rfl⟩); go_big_quiet_on)
            | (apply Exists.intro; refine ⟨fun W HC => ?_, ?_⟩; (rw [HC.out.1.cell 1 rfl]; exact ⟨rfl, rfl⟩); go_big_quiet_on)
            | (apply Exists.intro; refine ⟨fun W HC => ?_, ?_⟩; (have c0 := HC.out.1.cell 0 rfl; have c1 := HC.out.1.cell 1 rfl; simp only [c0, c1, Result.andThen_ok]; exact ⟨trivial, rfl⟩); go_big_quiet_on)
            | (apply Exists.intro; refine ⟨fun W HC => ?_, ?_⟩; (rw [cell_kept HC.out.2 HC7.out]; exact ⟨rfl, rfl⟩); go_big_quiet_on)
                  | (apply Exists.intro; refine ⟨fun W HC => ?_, ?_⟩; (rw [HXX.out]; go_at_call 30; refine (HTI.out _).mono ?_; rintro e w2 ⟨rfl, hb2⟩; exact ⟨rfl, Lib.hid (HC.out.kept hb2)⟩); go_big_quiet_on)))
        refine wpQuiet_nil ?_
        intro W HC
        go_wp2
        go_ret
        exact ⟨ret_int (by rw [HX.out]), HC.out.2⟩

theorem made_bound {reload : Int} {ts : List Task} (hG : Good reload ts) (j : Nat) : 0 ≤ madeI reload ts j ∧ madeI reload ts j ≤ 640000 := ticks_bound hG.r0 hG.r1
def workI (ts : List Task) (j : Nat) : Int := (gT ts j).regs.sum
theorem work_bound {reload : Int} {ts : List Task} (hG : Good reload ts) {j : Nat} (hj : j < ts.length) : 1 ≤ workI ts j ∧ workI ts j ≤ 10000 := by
  have h1 := (regs_work (hG.regs j hj)).1
  have h2 := hG.cd j hj
  have h3 := hG.dt j hj
  have h4 := hG.tm j hj
  unfold workI; omega
set_option maxRecDepth 100000 in
theorem cost_any (reload : Int) (vs : Value) (ts : List Task) (j : Nat) (w : World) (hv : RdT w vs ts) (hcap : CapOk vs) (hG : Good reload ts) (hj : j < ts.length) :
    Calls Tryz.prog 68 #[.agg #[.int .i64 reload, vs], .int .i64 j] w fun e w' => e = .returned (.tuple #[.complex .f64 (flN (workI ts j).toNat) (flN (madeI reload ts j).toNat), .bool true]) ∧ Below w.heap.size w w' := by
  have HIS := Lib.hid (fun W (h : Below w.heap.size w W) => (againIs_any reload vs ts j W (hv.kept CTask.mono h)).mono (by rintro e w1 ⟨rfl, hb⟩; exact ⟨by rw [isI_yes hj], hb⟩ : ∀ e w1, _ → (e = .returned (.bool true) ∧ Below W.heap.size W w1)))
  have HMA := Lib.hid (fun W (h : Below w.heap.size w W) => made_any reload vs ts j W (hv.kept CTask.mono h) hcap hG hj)
  obtain ⟨b1, b2⟩ := work_bound hG hj
  obtain ⟨b3, b4⟩ := made_bound hG j
  have HCO := Lib.hid (fun W => costOf_yes (workI ts j).toNat (madeI reload ts j).toNat (by omega) (by omega) W)
  have HMM : Hid (((madeI reload ts j).toNat : Int) = madeI reload ts j) := Lib.hid (by omega)
  have HWW : Hid (((workI ts j).toNat : Int) = workI ts j) := Lib.hid (by omega)
  have hl := hG.n8
  obtain ⟨A, c, rfl, hle, hat⟩ := hv.at
  obtain ⟨b, o, vr, rfl, hr, hcell⟩ := hat j hj
  have HWK := Lib.hid (fun W (h : Below w.heap.size w W) => work_any (gT ts j) vr W (hr.kept CInt.mono h) (hG.regs j hj))
  have HWI := Lib.hid (show (gT ts j).regs.sum = workI ts j from rfl)
  obtain ⟨c0, c1, c2, c3, c4, c5, c6, c7, c8⟩ := task_cells hcell
  have HC := Lib.hid (And.intro c0 (And.intro c1 (And.intro c2 (And.intro c3 (And.intro c4 (And.intro c5 (And.intro c6 (And.intro c7 c8))))))))
  clear hG hv hat hcell c0 c1 c2 c3 c4 c5 c6 c7 c8 hr hcap
  generalize flN (workI ts j).toNat = fw at *
  generalize flN (madeI reload ts j).toNat = fm at *
  generalize madeI reload ts j = m at *
  go_enter Tryz.func68, Tryz.ntmps68
  go_wp2_with (go_at_call 29; refine (HIS.out _ (by repeat (first | exact Below.refl _ _ | refine Below.drew ?_ | refine Below.alloc ?_ (by simp <;> omega) _))).mono ?_; rintro e w1 ⟨rfl, hb1⟩; have HS : Hid (SetC reload (.slice (some ⟨b, o, none⟩) ts.length c) w w1) := Lib.hid (SetC.kept ⟨Blk.newAt rfl, (by repeat (first | exact Below.refl _ _ | refine Below.drew ?_ | refine Below.alloc ?_ (by simp <;> omega) _))⟩ hb1); clear hb1)
  refine wp_region_cls (fun w' => Hid (SetC reload (.slice (some ⟨b, o, none⟩) ts.length c) w w')) (by kernel_rfl) (by kernel_rfl) (Lib.hid (SetC.kept HS.out ((Below.refl _ _).drew))) ?_
  repeat (first
    | go_big_quiet_skip
    | (go_big_quiet_want; go_big_quiet_op; first
      | go_big_quiet_on
      | (refine ⟨_, fun _ _ => rfl, ?_⟩; go_big_quiet_on)
      | (apply Exists.intro; refine ⟨fun W HC => ?_, ?_⟩; (rw [HC.out.1.cell 0 rfl]; exact ⟨rfl, rfl⟩); go_big_quiet_on)
      | (apply Exists.intro; refine ⟨fun W HC => ?_, ?_⟩; (rw [HC.out.1.cell 1 rfl]; exact ⟨rfl, rfl⟩); go_big_quiet_on)
      | (apply Exists.intro; refine ⟨fun W HC => ?_, ?_⟩; (have c0 := HC.out.1.cell 0 rfl; have c1 := HC.out.1.cell 1 rfl; simp only [c0, c1, Result.andThen_ok]; exact ⟨trivial, rfl⟩); go_big_quiet_on)
      | (apply Exists.intro; refine ⟨fun W HC2 => ?_, ?_⟩; (obtain ⟨c0, c1, c2, c3, c4, c5, c6, c7, c8⟩ := HC.out; have d0 := cell_kept HC2.out.2 c0; have d1 := cell_kept HC2.out.2 c1; have d2 := cell_kept HC2.out.2 c2; have d3 := cell_kept HC2.out.2 c3; have d4 := cell_kept HC2.out.2 c4; have d5 := cell_kept HC2.out.2 c5; have d6 := cell_kept HC2.out.2 c6; have d7 := cell_kept HC2.out.2 c7; have d8 := cell_kept HC2.out.2 c8; simp only [d0, d1, d2, d3, d4, d5, d6, d7, d8, Result.andThen_ok]; exact ⟨trivial, rfl⟩); go_big_quiet_on)
      | (apply Exists.intro; refine ⟨fun W HC => ?_, ?_⟩; (go_at_call 18; refine (HWK.out _ HC.out.2).mono ?_; rintro e w2 ⟨rfl, hb2⟩; rw [HWI.out]; exact ⟨rfl, Lib.hid (HC.out.kept hb2)⟩); go_big_quiet_on)
      | (apply Exists.intro; refine ⟨fun W HC => ?_, ?_⟩; (go_at_call 79; refine (HMA.out _ HC.out.2).mono ?_; rintro e w2 ⟨rfl, hb2⟩; exact ⟨rfl, Lib.hid (HC.out.kept hb2)⟩); go_big_quiet_on)
      | (apply Exists.intro; refine ⟨fun W HC => ?_, ?_⟩; (rw [← HMM.out, ← HWW.out]; go_at_call 78; refine (HCO.out _).mono ?_; rintro e w2 ⟨rfl, rfl⟩; exact ⟨rfl, HC⟩); go_big_quiet_on)))
  refine wpQuiet_nil ?_
  intro W HC
  go_wp2
  go_ret2
  exact ⟨rfl, HC.out.2⟩
end Go.Proofs.YtopmnpkjhaabcaaGreatDoor
