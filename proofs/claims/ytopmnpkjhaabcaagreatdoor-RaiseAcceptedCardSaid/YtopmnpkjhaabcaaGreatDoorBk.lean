/- taskmasterref14, taskmasterref12.Of walked, at sets that may be. -/
import Derived.Test.YtopmnpkjhaabcaaGreatDoorBf
set_option linter.unusedVariables false
set_option linter.unusedSimpArgs false
namespace Go.Proofs.YtopmnpkjhaabcaaGreatDoor
open Go.RowKit

theorem tolF_at {reload : Int} {ts : List Task} (hG : Good reload ts) {i : Nat} (hi : i < ts.length) {b : Int} (h0 : 0 ≤ b) (h1 : b ≤ (gT ts i).D + 1) (hall : ∀ x, 0 ≤ x → x < b → (withF reload ts i x).2 = 1) (hend : b = (gT ts i).D + 1 ∨ ¬ (withF reload ts i b).2 = 1) :
    (tolF reload ts i).getD 0 = max (b - 1) 0 ∧ (tolF reload ts i).isSome = decide (0 < b) := by
  have hD := D_bound hG hi
  by_cases hb : b = 0
  · subst hb
    have hn : ¬ (withF reload ts i 0).2 = 1 := by
      rcases hend with h | h
      · omega
      · exact h
    rw [(tolF_none hG hi).2 hn]
    exact ⟨by rw [show (none : Option Int).getD 0 = 0 from rfl]; omega, by simp⟩
  · have h2 := hall 0 (Int.le_refl _) (by omega)
    cases ht : tolF reload ts i with
    | none => exact absurd h2 ((tolF_none hG hi).1 ht)
    | some n =>
      obtain ⟨g0, g1, g2⟩ := tolF_some hG hi ht
      have h3 := (g2 (b - 1) (by omega)).1 (hall (b - 1) (by omega) (by omega))
      have h4 : n = b - 1 := by
        rcases hend with h | h
        · omega
        · have : ¬ b ≤ n := fun hbn => h ((g2 b h0).2 hbn)
          omega
      refine ⟨?_, ?_⟩
      · simp only [Option.getD_some]; omega
      · simp; omega
set_option maxRecDepth 100000 in
set_option maxHeartbeats 1000000 in
theorem rtolOf_any (reload : Int) (vs : Value) (ts : List Task) (i : Nat) (w : World) (hv : RdT w vs ts) (hG : Good reload ts) (hi : i < ts.length) :
    Calls Tryz.prog 31 #[.agg #[.int .i64 reload, vs], .int .i64 i] w fun e w' => e = .returned (.tuple #[.int .i64 ((tolF reload ts i).getD 0), .bool (tolF reload ts i).isSome]) ∧ Below w.heap.size w w' := by
  obtain ⟨D0, D1⟩ := D_bound hG hi
  have HWI := Lib.hid (fun W (h : Below w.heap.size w W) b (b0 : 0 ≤ b) (b1 : b ≤ 1000000) => rwith_any reload vs ts i b W (hv.kept CTask.mono h) hG hi b0 b1)
  have HTA := Lib.hid (fun b (h0 : 0 ≤ b) (h1 : b ≤ (gT ts i).D + 1) hall hend => tolF_at hG hi (b := b) h0 h1 hall hend)
  have hl := hG.n8
  obtain ⟨A, c, rfl, hle, hat⟩ := hv.at
  obtain ⟨b, o, vr, rfl, hr, hcell⟩ := hat i hi
  have HC := Lib.hid (hcell 2 _ rfl)
  clear hG hv hat hcell hr
  have hki : (i : Int) < (ts.length : Int) := by omega
  generalize (gT ts i).D = D at *
  go_enter Tryz.func31, Tryz.ntmps31
  go_wp2_with fail
  go_loopw [6, 7, 8] (fun bv _ _ W => ∃ x : Int, bv = .int .i64 x ∧ 0 ≤ x ∧ x ≤ D + 1 ∧ Hid (∀ y, 0 ≤ y → y < x → (withF reload ts i y).2 = 1) ∧ Hid (SetC reload (.slice (some ⟨b, o, none⟩) ts.length c) w W)) (fun bv _ _ _ => (10002 - intOf bv).toNat)
  case atStart => exact ⟨0, rfl, Int.le_refl _, by omega, Lib.hid (fun y h1 h2 => by omega), Lib.hid ⟨Blk.newAt rfl, (by repeat (first | exact Below.refl _ _ | refine Below.drew ?_ | refine Below.alloc ?_ (by simp <;> omega) _))⟩⟩
  case round =>
    obtain ⟨x, rfl, hx0, hx1, HALL, HST⟩ := hrel
    have b0 := HST.out.1.cell 0 rfl
    have b1 := HST.out.1.cell 1 rfl
    have c2 := cell_kept HST.out.2 HC.out
    by_cases hx : x ≤ D
    · have HW := Lib.hid (HWI.out wr HST.out.2 x hx0 (by omega))
      by_cases hh : (withF reload ts i x).2 = 1
      · have k1 : ((withF reload ts i x).2 != 1) = false := by simp [hh]
        have HAL2 : Hid (∀ y, 0 ≤ y → y < x + 1 → (withF reload ts i y).2 = 1) := Lib.hid (fun y h1 h2 => by
          by_cases h : y = x
          · subst h; exact hh
          · exact HALL.out y h1 (by omega))
        clear hh
        go_wp2_with (go_at_call 36; refine HW.out.mono ?_; rintro e w2 ⟨rfl, hb2⟩; have HS2 := Lib.hid (HST.out.kept hb2); clear hb2)
        go_roundw
        case rel => exact ⟨x + 1, rfl, by omega, by omega, HAL2, HS2⟩
        case measure => simp [intOf]; omega
      · have k1 : ((withF reload ts i x).2 != 1) = true := by simp [hh]
        have HF := Lib.hid (HTA.out x hx0 hx1 HALL.out (.inr hh))
        clear hh
        go_wp2_with (go_at_call 36; refine HW.out.mono ?_; rintro e w2 ⟨rfl, hb2⟩; have HS2 := Lib.hid (HST.out.kept hb2); clear hb2)
        go_ret2
        exact ⟨by rw [HF.out.1, HF.out.2]; rfl, HS2.out.2⟩
    · obtain rfl : x = D + 1 := by omega
      have HF : Hid ((tolF reload ts i).getD 0 = max D 0 ∧ (tolF reload ts i).isSome = decide (0 < D + 1)) := Lib.hid (by have := HTA.out (D + 1) hx0 hx1 HALL.out (.inl rfl); rw [show D + 1 - 1 = D by omega] at this; exact this)
      go_wp2
      go_ret2
      exact ⟨by rw [HF.out.1, HF.out.2]; rfl, HST.out.2⟩
set_option maxRecDepth 100000 in
set_option maxHeartbeats 1000000 in
theorem rtolAll_any (reload : Int) (vs : Value) (ts : List Task) (w : World) (hv : RdT w vs ts) (hG : Good reload ts) :
    Calls Tryz.prog 20 #[.agg #[.int .i64 reload, vs]] w (TolPost reload ts w) := by
  have HTO := Lib.hid (fun W (h : Below w.heap.size w W) j (hj : j < ts.length) => rtolOf_any reload vs ts j W (hv.kept CTask.mono h) hG hj)
  have hl := hG.n8
  have HTF : Hid (tolAllF reload ts = if ∀ j, j < ts.length → (tolF reload ts j).isSome = true then some (bearL reload ts ts.length) else none) := Lib.hid rfl
  obtain ⟨A, c, rfl, hle, hat⟩ := hv.at
  clear hv hG hat
  go_enter Tryz.func20, Tryz.ntmps20
  go_wp2_with fail
  go_loopw [4, 5, 6, 7] (fun v i _ _ W => ∃ k : Nat, k ≤ ts.length ∧ i = .int .i64 k ∧ Hid (TolSt reload (.slice A ts.length c) ts w v k W)) (fun _ i _ _ _ => ts.length - (intOf i).toNat)
  case atStart => exact ⟨0, Nat.zero_le _, rfl, Lib.hid ⟨⟨Blk.newAt rfl, (by repeat (first | exact Below.refl _ _ | refine Below.drew ?_ | refine Below.alloc ?_ (by simp <;> omega) _))⟩, own_nil _ _ _ _, fun j hj => by omega⟩⟩
  case round =>
    obtain ⟨k, hk, rfl, HST⟩ := hrel
    have s0 := HST.out.1.1.cell 0 rfl
    have s1 := HST.out.1.1.cell 1 rfl
    by_cases hlt : k < ts.length
    · have HCK := Lib.hid (HTO.out wr HST.out.1.2 k hlt)
      have HLS : Hid (bearL reload ts (k + 1) = bearL reload ts k ++ [(tolF reload ts k).getD 0]) := Lib.hid (bearL_succ reload ts k)
      cases hs : (tolF reload ts k).isSome
      · have HF : Hid (tolAllF reload ts = none) := Lib.hid (by rw [HTF.out, if_neg (fun h => by rw [h k hlt] at hs; cases hs)])
        have HS := Lib.hid hs
        clear hs
        generalize (tolF reload ts k).getD 0 = n at *
        go_wp2_with (go_at_call 31; refine HCK.out.mono ?_; rintro e w1 ⟨rfl, hb1⟩; rw [HS.out])
        go_ret2
        exact TolPost.no HF.out rfl (below_tr HST.out.1.2 hb1)
      · have HS := Lib.hid hs
        clear hs
        generalize (tolF reload ts k).getD 0 = n at *
        go_wp2_with (first
          | (go_at_call 31; refine HCK.out.mono ?_; rintro e w1 ⟨rfl, hb1⟩; rw [HS.out]; have H1 := Lib.hid (HST.out.kept hb1); clear HST hb1 s0 s1)
          | (at_builtin; refine append_one (w0 := w) (w.heap.size + 1) rfl (.tmp 23) (.tmp 25) 34 2 (.int .i64 0) 1 8 rfl Tryz.underlying34 i64_info rfl (by decide) (by decide) u4 k (intC (bearL reload ts k)) [.int .i64 n] rfl rfl rfl (by simp [Value.oneCell']) H1.out.2.1 H1.out.1.2 (Nat.le_succ _) H1.out.1.1.lt (by omega) ?_; intro v1 w3 hown hB hg hat))
        have HG : Hid (TolSt reload (.slice A ts.length c) ts w v1 (k + 1) w3) := Lib.hid ⟨⟨H1.out.1.1.grown hg (fun he => by have hc := own_base H1.out.2.1 _ he.symm; omega), hB⟩, by rw [HLS.out, intC_snoc]; exact hown, fun j hj => (Nat.lt_or_ge j k).elim (fun h => H1.out.2.2 j h) (fun h => (show k = j by omega) ▸ HS.out)⟩
        go_roundw
        case rel => exact ⟨k + 1, hlt, by go_num, HG⟩
        case measure => simp [intOf]; omega
    · obtain rfl : k = ts.length := by omega
      have HF : Hid (tolAllF reload ts = some (bearL reload ts ts.length)) := Lib.hid (by rw [HTF.out, if_pos HST.out.2.2])
      go_wp2
      go_ret2
      exact TolPost.yes HF.out u4 rfl (by rw [bearL_len]; exact own_weak HST.out.2.1 (Nat.le_succ _)) HST.out.1.2
set_option maxRecDepth 100000 in
theorem rresp_any (reload : Int) (vs : Value) (ts : List Task) (i : Nat) (w : World) (hv : RdT w vs ts) (hG : Good reload ts) (hi : i < ts.length) (hm : ∀ k, k < ts.length → (gT ts k).mode = 2) :
    Calls Tryz.prog 26 #[.agg #[.int .i64 reload, vs], .int .i64 i] w fun e w' => e = .returned (.tuple #[.int .i64 (withF reload ts i (mostI reload ts i)).1, .int .i64 (withF reload ts i (mostI reload ts i)).2]) ∧ Below w.heap.size w w' := by
  have hb := mostTo_bound hG i (ts.length - (i + 1)) (by omega)
  have HMO := Lib.hid (fun W (h : Below w.heap.size w W) => rmost_any reload vs ts i W (hv.kept CTask.mono h) hG hi hm)
  have HWI := Lib.hid (fun W (h : Below w.heap.size w W) => rwith_any reload vs ts i (mostI reload ts i) W (hv.kept CTask.mono h) hG hi hb.1 (by have := hb.2; unfold mostI; omega))
  have hl := hG.n8
  obtain ⟨A, c, rfl, hle, hat⟩ := hv.at
  clear hG hv hat hm hb
  generalize mostI reload ts i = n at *
  generalize (withF reload ts i n).1 = r1 at *
  generalize (withF reload ts i n).2 = r2 at *
  go_enter Tryz.func26, Tryz.ntmps26
  go_wp2_with fail
  refine wp_region_cls (fun w' => Hid (SetC reload (.slice A ts.length c) w w')) (by kernel_rfl) (by kernel_rfl) (Lib.hid ⟨Blk.newAt rfl, (by repeat (first | exact Below.refl _ _ | refine Below.drew ?_ | refine Below.alloc ?_ (by simp <;> omega) _))⟩) ?_
  repeat (first
    | go_big_quiet_skip
    | (go_big_quiet_want; go_big_quiet_op; first
      | go_big_quiet_on
      | (refine ⟨_, fun _ _ => rfl, ?_⟩; go_big_quiet_on)
      | (apply Exists.intro; refine ⟨fun W HC => ?_, ?_⟩; (rw [HC.out.1.cell 0 rfl]; exact ⟨rfl, rfl⟩); go_big_quiet_on)
      | (apply Exists.intro; refine ⟨fun W HC => ?_, ?_⟩; (rw [HC.out.1.cell 1 rfl]; exact ⟨rfl, rfl⟩); go_big_quiet_on)
      | (apply Exists.intro; refine ⟨fun W HC => ?_, ?_⟩; (have c0 := HC.out.1.cell 0 rfl; have c1 := HC.out.1.cell 1 rfl; simp only [c0, c1, Result.andThen_ok]; exact ⟨trivial, rfl⟩); go_big_quiet_on)
      | (apply Exists.intro; refine ⟨fun W HC => ?_, ?_⟩; (go_at_call 37; refine (HMO.out _ HC.out.2).mono ?_; rintro e w2 ⟨rfl, hb2⟩; exact ⟨rfl, Lib.hid (HC.out.kept hb2)⟩); go_big_quiet_on)
      | (apply Exists.intro; refine ⟨fun W HC => ?_, ?_⟩; (go_at_call 36; refine (HWI.out _ HC.out.2).mono ?_; rintro e w2 ⟨rfl, hb2⟩; exact ⟨rfl, Lib.hid (HC.out.kept hb2)⟩); go_big_quiet_on)))
  refine wpQuiet_nil ?_
  intro W HC
  go_wp2
  go_ret2
  exact ⟨rfl, HC.out.2⟩
end Go.Proofs.YtopmnpkjhaabcaaGreatDoor
