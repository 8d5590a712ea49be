/- taskmasterref11 walked, at sets that may be. -/
import Derived.Test.YtopmnpkjhaabcaaGreatDoorBd
set_option linter.unusedVariables false
set_option linter.unusedSimpArgs false
namespace Go.Proofs.YtopmnpkjhaabcaaGreatDoor
open Go.RowKit

theorem keep3 {W W' : World} (hb : Below W.heap.size W W') {a0 a1 a2 : Addr} {v0 v1 v2 : Value} (h : W.cell? a0 = some v0 ∧ W.cell? a1 = some v1 ∧ W.cell? a2 = some v2) : W'.cell? a0 = some v0 ∧ W'.cell? a1 = some v1 ∧ W'.cell? a2 = some v2 :=
  ⟨cell_kept hb h.1, cell_kept hb h.2.1, cell_kept hb h.2.2⟩
theorem cell_grown {W W' : World} {row : Option Nat} (hg : W.grownBy W' row) {a : Addr} {v : Value} (hc : W.cell? a = some v) (hne : some a.block ≠ row) : W'.cell? a = some v := by
  have h := hg.block a.block (World.block_lt_of_cell? _ _ hc) hne
  unfold World.cell? at hc ⊢
  rw [h]
  exact hc
theorem keep3g {W W' : World} {row : Option Nat} (hg : W.grownBy W' row) {a0 a1 a2 : Addr} {v0 v1 v2 : Value} (n0 : some a0.block ≠ row) (n1 : some a1.block ≠ row) (n2 : some a2.block ≠ row) (h : W.cell? a0 = some v0 ∧ W.cell? a1 = some v1 ∧ W.cell? a2 = some v2) : W'.cell? a0 = some v0 ∧ W'.cell? a1 = some v1 ∧ W'.cell? a2 = some v2 :=
  ⟨cell_grown hg h.1 n0, cell_grown hg h.2.1 n1, cell_grown hg h.2.2 n2⟩
set_option maxRecDepth 100000 in
set_option maxHeartbeats 2000000 in
theorem rloads_any (reload : Int) (vs : Value) (ts : List Task) (i : Nat) (w : World) (hv : RdT w vs ts) (hG : Good reload ts) (hi : i < ts.length) :
    Calls Tryz.prog 48 #[.agg #[.int .i64 reload, vs], .int .i64 i] w fun e w' => ∃ v, e = .returned v ∧ w'.ownsRow w.heap.size 79 2 v i (ldC (loadsI reload ts i)) ∧ Below w.heap.size w w' := by
  have HWK := Lib.hid (fun W (h : Below w.heap.size w W) k (hk : k < ts.length) => rwork8_any reload vs ts k W (hv.kept CTask.mono h) hG hk)
  have HMA := Lib.hid (fun W (h : Below w.heap.size w W) k (hk : k < ts.length) => rmade_any reload vs ts k W (hv.kept CTask.mono h) hG hk)
  have HWB := Lib.hid (fun k (hk : k < ts.length) => work_bound hG hk)
  have HMB := Lib.hid (fun k => made_bound hG k)
  have hl := hG.n8
  obtain ⟨A, c, rfl, hle, hat⟩ := hv.at
  have HAT := Lib.hid hat
  clear hG hv hat
  go_enter Tryz.func48, Tryz.ntmps48
  go_wp2_with fail
  go_loopw [5, 6] (fun v h W => ∃ k : Nat, k ≤ i ∧ h = .int .i64 k ∧ Hid (SetC reload (.slice A ts.length c) w W ∧ W.ownsRow (w.heap.size + 1) 79 2 v k (ldC (loadsI reload ts k)))) (fun _ h _ => i - (intOf h).toNat)
  case atStart => exact ⟨0, Nat.zero_le _, rfl, Lib.hid ⟨⟨Blk.newAt rfl, (by repeat (first | exact Below.refl _ _ | refine Below.drew ?_ | refine Below.alloc ?_ (by simp <;> omega) _))⟩, own_nil _ _ _ _⟩⟩
  case round =>
    obtain ⟨k, hk, rfl, HST⟩ := hrel
    obtain ⟨v, hv5⟩ : ∃ v, v = u5 := ⟨_, rfl⟩
    subst hv5
    have b1 := HST.out.1.1.cell 1 rfl
    by_cases hlt : k < i
    · have hk2 : k < ts.length := by omega
      obtain ⟨b, o, vr, rfl, hr, hcell⟩ := HAT.out k hk2
      have HZ : Hid (wr.cell? ⟨w.heap.size, 0, none⟩ = some (.int .i64 reload) ∧ wr.cell? ⟨w.heap.size, 1, none⟩ = some (.slice (some ⟨b, o, none⟩) ts.length c) ∧ wr.cell? ⟨b, o + k * 9 + 1, none⟩ = some (.int .i64 (gT ts k).T)) := Lib.hid ⟨HST.out.1.1.cell 0 rfl, HST.out.1.1.cell 1 rfl, cell_kept HST.out.1.2 (hcell 1 _ rfl)⟩
      have HW1 := Lib.hid (fun W (h : Below w.heap.size w W) => HWK.out W h k hk2)
      have HM1 := Lib.hid (fun W (h : Below w.heap.size w W) => HMA.out W h k hk2)
      obtain ⟨q1, q2⟩ := HWB.out k hk2
      obtain ⟨q3, q4⟩ := HMB.out k
      have HLS : Hid (ldC (loadsI reload ts (k + 1)) = ldC (loadsI reload ts k) ++ [.int .i64 (gT ts k).T, .int .i64 (workI ts k + madeI reload ts k)]) := Lib.hid (by rw [loadsI_succ, ldC_snoc]; rfl)
      have hbw := World.block_lt_of_cell? _ _ (hcell 1 _ rfl)
      simp only at hbw
      have HN0 : Hid (some w.heap.size ≠ v.ownBlock) := Lib.hid (fun he => by have := own_base HST.out.2 _ he.symm; omega)
      have HN1 : Hid (some b ≠ v.ownBlock) := Lib.hid (fun he => by have := own_base HST.out.2 _ he.symm; omega)
      clear hcell hr hbw
      have hki : (k : Int) < (ts.length : Int) := by omega
      generalize (gT ts k).T = T at *
      generalize workI ts k = m at *
      generalize madeI reload ts k = n at *
      have hs1 : IntKind.i64.wrap (m + n) = m + n := IntWalk.i64_in _ (by omega)
      go_wp2
      go_region_held3 (fun W => W.cell? ⟨w.heap.size, 0, none⟩ = some (.int .i64 reload) ∧ W.cell? ⟨w.heap.size, 1, none⟩ = some (.slice (some ⟨b, o, none⟩) ts.length c) ∧ W.cell? ⟨b, o + k * 9 + 1, none⟩ = some (.int .i64 T)) (first | exact keep3g hg HN0.out HN0.out HN1.out (keep3 hB2 HZ.out) | exact keep3 (hB2.alloc hB2.size _) HZ.out | exact keep3 hB2 HZ.out | exact keep3 hB1 HZ.out | exact keep3 (below_drew (Below.refl _ _)) HZ.out | go_keep) (first
        | (go_at_call 32; refine (HW1.out _ (below_drew HST.out.1.2)).mono ?_; rintro e w1 ⟨rfl, hb1⟩; have hB1 : Below wr.heap.size wr w1 := below_tr (below_drew (Below.refl _ _)) hb1)
        | (go_at_call 61; refine (HM1.out _ (below_tr HST.out.1.2 hB1)).mono ?_; rintro e w2 ⟨rfl, hb2⟩; have hB2 := below_tr hB1 hb2; have hown2 := own_kept HST.out.2 hB2)
        | (refine step_append_one (w0 := w) (w.heap.size + 1) rfl (.tmp 19) (.tmp 34) 70 79 (.agg #[.int .i64 0, .int .i64 0]) 2 16 rfl Tryz.underlying70 ld_info rfl (by decide) (by decide) v k (ldC (loadsI reload ts k)) [.int .i64 T, .int .i64 (m + n)] rfl rfl rfl (by simp [Value.oneCell']) hown2 (below_tr HST.out.1.2 hB2) (by omega) (by have := HST.out.1.1.lt; have := hB2.size; omega) (by omega) ?_; intro v3 w3 hown3 hB3 hg))
      have HG3 : Hid (SetC reload (.slice (some ⟨b, o, none⟩) ts.length c) w w3 ∧ w3.ownsRow (w.heap.size + 1) 79 2 v3 (k + 1) (ldC (loadsI reload ts (k + 1)))) := Lib.hid ⟨⟨(HST.out.1.1.kept hB2).grown hg HN0.out, hB3⟩, by rw [HLS.out]; exact hown3⟩
      go_wp2
      go_roundw
      case rel => exact ⟨k + 1, by omega, by go_num, HG3⟩
      case measure => simp [intOf]; omega
    · obtain rfl : k = i := by omega
      go_wp2
      go_ret
      exact ⟨_, rfl, own_weak HST.out.2 (by omega), HST.out.1.2⟩
set_option maxRecDepth 100000 in
set_option maxHeartbeats 2000000 in
theorem ractOf_any (reload : Int) (vs : Value) (ts : List Task) (i : Nat) (bl : Int) (w : World) (hv : RdT w vs ts) (hG : Good reload ts) (hi : i < ts.length) (h0 : 0 ≤ bl) (h1 : bl ≤ 1000000) :
    Calls Tryz.prog 47 #[.agg #[.int .i64 reload, vs], .int .i64 i, .int .i64 bl] w fun e w' => e = .returned (.tuple #[.int .i64 ((actF reload ts i bl).getD 0), .bool (actF reload ts i bl).isSome]) ∧ Below w.heap.size w w' := by
  have HLO := Lib.hid (fun W (h : Below w.heap.size w W) => rloads_any reload vs ts i W (hv.kept CTask.mono h) hG hi)
  have HLE := Lib.hid (fun W v (hl : RdL W v (actL reload ts i)) => rleast_any bl v (actL reload ts i) W hl (actL_ok hG hi) h0 h1)
  have HWK := Lib.hid (fun W (h : Below w.heap.size w W) => rwork8_any reload vs ts i W (hv.kept CTask.mono h) hG hi)
  have hl := hG.n8
  obtain ⟨A, c, rfl, hle, hat⟩ := hv.at
  obtain ⟨b, o, vr, rfl, hr, hcell⟩ := hat i hi
  have hA : Hid (actF reload ts i bl = leastF bl (actL reload ts i)) := Lib.hid rfl
  have HAL : Hid (actL reload ts i = loadsI reload ts i ++ [((gT ts i).T, workI ts i)]) := Lib.hid rfl
  have HLN := Lib.hid (loadsI_len reload ts i)
  have HC := Lib.hid (hcell 1 _ rfl)
  clear hG hv hat hcell hr
  have d1 : decide (ts.length ≤ i) = false := by simp; omega
  have d2 : decide ((i : Int) < 0) = false := by simp
  have hki : (i : Int) < (ts.length : Int) := by omega
  go_enter Tryz.func47, Tryz.ntmps47
  go_wp2_with fail
  have HZ : Hid ((w.alloc (Obj.cells #[.int .i64 reload, .slice (some ⟨b, o, none⟩) ts.length c] 24)).drew.cell? ⟨w.heap.size, 0, none⟩ = some (.int .i64 reload) ∧ (w.alloc (Obj.cells #[.int .i64 reload, .slice (some ⟨b, o, none⟩) ts.length c] 24)).drew.cell? ⟨w.heap.size, 1, none⟩ = some (.slice (some ⟨b, o, none⟩) ts.length c) ∧ (w.alloc (Obj.cells #[.int .i64 reload, .slice (some ⟨b, o, none⟩) ts.length c] 24)).drew.cell? ⟨b, o + i * 9 + 1, none⟩ = some (.int .i64 (gT ts i).T)) := Lib.hid ⟨(Blk.newAt rfl).drew.cell 0 rfl, (Blk.newAt rfl).drew.cell 1 rfl, cell_kept (by repeat (first | exact Below.refl _ _ | refine Below.drew ?_ | refine Below.alloc ?_ (by simp <;> omega) _)) HC.out⟩
  go_region_held3 (fun W => W.cell? ⟨w.heap.size, 0, none⟩ = some (.int .i64 reload) ∧ W.cell? ⟨w.heap.size, 1, none⟩ = some (.slice (some ⟨b, o, none⟩) ts.length c) ∧ W.cell? ⟨b, o + i * 9 + 1, none⟩ = some (.int .i64 (gT ts i).T)) (first | exact HZ.out | exact keep3 hB4 HZ.out | exact keep3 hB3 HZ.out | exact keep3 (hB2.alloc hB2.size _) HZ.out | exact keep3 hB2 HZ.out | exact keep3 hB1 HZ.out | go_keep) (first
    | (go_at_call 48; refine (HLO.out _ (by repeat (first | exact Below.refl _ _ | refine Below.drew ?_ | refine Below.alloc ?_ (by simp <;> omega) _))).mono ?_; rintro e w1 ⟨v1, rfl, hown1, hB1⟩; have B1 : Below w.heap.size w w1 := below_tr (below_drew ((Below.refl _ _).alloc (Nat.le_refl _) _)) hB1)
    | (go_at_call 32; (refine (HWK.out _ B1).mono ?_; rintro e w2 ⟨rfl, hb2⟩; have hB2 := below_tr hB1 hb2; have hown2 := own_kept hown1 hb2))
    | (refine step_append_one (w0 := (w.alloc (Obj.cells #[.int .i64 reload, .slice (some ⟨b, o, none⟩) ts.length c] 24)).drew) ((w.alloc (Obj.cells #[.int .i64 reload, .slice (some ⟨b, o, none⟩) ts.length c] 24)).drew.heap.size) rfl (.tmp 20) (.tmp 31) 70 79 (.agg #[.int .i64 0, .int .i64 0]) 2 16 rfl Tryz.underlying70 ld_info rfl (by decide) (by decide) v1 i (ldC (loadsI reload ts i)) [.int .i64 (gT ts i).T, .int .i64 (workI ts i)] rfl rfl rfl (by simp [Value.oneCell']) hown2 hB2 (Nat.le_refl _) hB2.size (by omega) ?_; intro v3 w3 hown3 hB3 hg)
    | (go_at_call 49; refine (HLE.out _ _ ?_).mono ?_; (rw [HAL.out]; exact own_loads (l := loadsI reload ts i ++ [((gT ts i).T, workI ts i)]) (by rw [ldC_snoc]; exact hown3) (by simp [HLN.out]) (by omega)); rintro e w4 ⟨rfl, hb4⟩; have hB4 := below_tr hB3 hb4))
  go_wp2
  go_ret2
  exact ⟨by rw [hA.out]; rfl, below_tr (below_drew ((Below.refl _ _).alloc (Nat.le_refl _) _)) hB4⟩
end Go.Proofs.YtopmnpkjhaabcaaGreatDoor
