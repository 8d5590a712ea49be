/- active.Loads, Of walked, at a set that may be. -/
import Derived.Test.YtopmnpkjhaabcaaGreatDooro
set_option linter.unusedVariables false
set_option linter.unusedSimpArgs false
namespace Go.Proofs.YtopmnpkjhaabcaaGreatDoor
open Go.RowKit

theorem ld_info : (Tryz.prog.info? 79).map (fun i => (i.zero, i.size, i.bytes)) = some (some (.agg #[.int .i64 0, .int .i64 0]), 2, 16) := by kernel_rfl
def ldC (l : List Ld) : List Value := l.flatMap fun x => [.int .i64 x.1, .int .i64 x.2]
theorem ldC_snoc (l : List Ld) (x : Ld) : ldC (l ++ [x]) = ldC l ++ [.int .i64 x.1, .int .i64 x.2] := by simp [ldC]
def loadI (reload : Int) (ts : List Task) (j : Nat) : Ld := ((gT ts j).T, workI ts j + madeI reload ts j)
def loadsI (reload : Int) (ts : List Task) (k : Nat) : List Ld := (List.range k).map (loadI reload ts)
theorem loadsI_succ (reload : Int) (ts : List Task) (k : Nat) : loadsI reload ts (k + 1) = loadsI reload ts k ++ [loadI reload ts k] := by simp [loadsI, List.range_succ]
theorem loadsI_len (reload : Int) (ts : List Task) (k : Nat) : (loadsI reload ts k).length = k := by simp [loadsI]
def LoadSt (reload : Int) (vs : Value) (ts : List Task) (w : World) (v : Value) (k : Nat) (W : World) : Prop :=
  SetC reload vs w W ∧ W.ownsRow (w.heap.size + 1) 79 2 v k (ldC (loadsI reload ts k))
theorem LoadSt.kept {reload : Int} {vs : Value} {ts : List Task} {w W W' : World} {v : Value} {k : Nat} (h : LoadSt reload vs ts w v k W) (hb : Below W.heap.size W W') : LoadSt reload vs ts w v k W' := ⟨h.1.kept hb, own_kept h.2 hb⟩
theorem flN_bound {reload : Int} {ts : List Task} (hG : Good reload ts) {j : Nat} (hj : j < ts.length) : (workI ts j).toNat + (madeI reload ts j).toNat ≤ 1099511627776 ∧ ((workI ts j).toNat : Int) + ((madeI reload ts j).toNat : Int) = workI ts j + madeI reload ts j := by
  have h1 := work_bound hG hj
  have h2 := made_bound hG j
  omega
set_option maxRecDepth 100000 in
set_option maxHeartbeats 1000000 in
theorem loads_any (reload : Int) (vs : Value) (ts : List Task) (i : Nat) (w : World) (hv : RdT w vs ts) (hcap : CapOk vs) (hG : Good reload ts) (hi : i < ts.length) :
    Calls Tryz.prog 55 #[.agg #[.int .i64 reload, vs], .int .i64 i] w fun e w' => ∃ v, e = .returned v ∧ w'.ownsRow w.heap.size 79 2 v i (ldC (loadsI reload ts i)) ∧ Below w.heap.size w w' := by
  have HCO := Lib.hid (fun W (h : Below w.heap.size w W) j (hj : j < ts.length) => cost_any reload vs ts j W (hv.kept CTask.mono h) hcap hG hj)
  have HFB := Lib.hid (fun j (hj : j < ts.length) => flN_bound hG hj)
  have hl := hG.n8
  obtain ⟨A, c, rfl, hle, hat⟩ := hv.at
  have hcc := hcap _ _ _ rfl
  obtain ⟨b, o, -, rfl, -, -⟩ := hat i hi
  have HAT := Lib.hid hat
  clear hG hv hat hcap
  have d1 : decide (ts.length ≤ i) = false := by simp; omega
  have d2 : decide ((i : Int) < 0) = false := by simp
  go_enter Tryz.func55, Tryz.ntmps55
  go_wp2
  go_loopw [5, 26] (fun v i' W => ∃ k : Nat, k ≤ i ∧ i' = .int .i64 k ∧ Hid (LoadSt reload (.slice (some ⟨b, o, none⟩) ts.length c) ts w v k W)) (fun _ i' _ => i - (intOf i').toNat)
  case atStart => exact ⟨0, Nat.zero_le _, rfl, Lib.hid ⟨⟨Blk.newAt rfl, (by repeat (first | exact Below.refl _ _ | refine Below.drew ?_ | refine Below.alloc ?_ (by simp <;> omega) _))⟩, own_nil _ _ _ _⟩⟩
  case round =>
    obtain ⟨k, hk, rfl, HST⟩ := hrel
    by_cases hlt : k < i
    · obtain ⟨b', o', vr', hbo, hr, hcell⟩ := HAT.out k (by omega)
      cases hbo
      have hcell2 := fun j u hu => cell_kept HST.out.1.2 (hcell j u hu)
      obtain ⟨c0, c1, c2, c3, c4, c5, c6, c7, c8⟩ := task_cells hcell2
      obtain ⟨Ar, cr, rfl, -⟩ := id hr
      obtain ⟨f1, f2⟩ := HFB.out k (by omega)
      have HTO := Lib.hid (fun W => total_yes (workI ts k).toNat (madeI reload ts k).toNat f1 W)
      rw [f2] at HTO
      have HCK := Lib.hid (fun W (h : Below w.heap.size w W) => HCO.out W h k (by omega))
      have s0 := (HST.out.1.1.alloc (Obj.cells #[.string (gT ts k).name, .int .i64 (gT ts k).T, .int .i64 (gT ts k).D, .int .i64 (gT ts k).mode, .int .i64 (gT ts k).Q, .int .i64 (gT ts k).theta, .slice Ar (gT ts k).regs.length cr, .int .u64 (gT ts k).ecb, .int .u64 (gT ts k).ucb] 41)).cell 0 rfl
      have s1 := (HST.out.1.1.alloc (Obj.cells #[.string (gT ts k).name, .int .i64 (gT ts k).T, .int .i64 (gT ts k).D, .int .i64 (gT ts k).mode, .int .i64 (gT ts k).Q, .int .i64 (gT ts k).theta, .slice Ar (gT ts k).regs.length cr, .int .u64 (gT ts k).ecb, .int .u64 (gT ts k).ucb] 41)).cell 1 rfl
      clear hcell hcell2 hr f1 f2
      have HLS : Hid (loadsI reload ts (k + 1) = loadsI reload ts k ++ [((gT ts k).T, workI ts k + madeI reload ts k)]) := Lib.hid (loadsI_succ reload ts k)
      generalize flN (workI ts k).toNat = fw at *
      generalize flN (madeI reload ts k).toNat = fm at *
      generalize workI ts k + madeI reload ts k = n at *
      go_wp2_with (first
        | (go_at_call 68; refine (HCK.out _ (HST.out.1.2.alloc HST.out.1.2.size _)).mono ?_; rintro e w1 ⟨rfl, hb1⟩; have H1 := Lib.hid ((HST.out.kept ((Below.refl _ _).alloc (Nat.le_refl _) _)).kept hb1); have hbx := (Blk.newAt (W := wr) (cs := (gT ts k).cells (.slice Ar (gT ts k).regs.length cr)) (t := 41) rfl).kept hb1; have d1 := hbx.cell 1 rfl; clear hbx HST hb1 s0 s1)
        | (go_at_call 69; refine (HTO.out _).mono ?_; rintro e w2 ⟨rfl, rfl⟩)
        | (at_builtin; refine append_one (w0 := w) (w.heap.size + 1) rfl (.tmp 42) (.tmp 47) 70 79 (.agg #[.int .i64 0, .int .i64 0]) 2 16 rfl Tryz.underlying70 ld_info rfl (by decide) (by decide) u5 k (ldC (loadsI reload ts k)) [.int .i64 (gT ts k).T, .int .i64 n] rfl rfl rfl (by simp [Value.oneCell']) H1.out.2 H1.out.1.2 (Nat.le_succ _) H1.out.1.1.lt (by omega) ?_; intro v1 w3 hown hB hg hat))
      have HG : Hid (LoadSt reload (.slice (some ⟨b, o, none⟩) ts.length c) ts w v1 (k + 1) w3) := Lib.hid ⟨⟨H1.out.1.1.grown hg (fun he => by have hc := own_base H1.out.2 _ he.symm; omega), hB⟩, by rw [HLS.out, ldC_snoc]; exact hown⟩
      go_roundw
      case rel => exact ⟨k + 1, hlt, by go_num, HG⟩
      case measure => simp [intOf]; omega
    · obtain rfl : k = i := by omega
      go_wp2
      go_ret
      exact ⟨u5, rfl, ⟨HST.out.2.1, HST.out.2.2.imp_right fun ⟨g, c, cur, h1, h2, h3⟩ => ⟨g, c, cur, h1, by omega, h3⟩⟩, HST.out.1.2⟩
end Go.Proofs.YtopmnpkjhaabcaaGreatDoor
