/- taskmasterref5.Is, Nums walked. -/
import Derived.Test.YtopmnpkjhaabcaaGreatDoorAa
import Derived.Deep.LoopGhost
set_option linter.unusedVariables false
set_option linter.unusedSimpArgs false
namespace Go.Proofs.YtopmnpkjhaabcaaGreatDoor
open Go.RowKit

/-- What taskmasterref5.Is answers. -/
def refIsB (t : Task) (p : Int) : Bool :=
  refName t.name && (regsB t.regs && (decide (Go.bits .andNot .u64 t.ucb t.ecb = 0) && (decide (t.regs.sum ≤ t.D) && (decide (t.D ≤ t.T) && (decide (t.T ≤ 10000) && modeB t p)))))
theorem inB_bad (x : Int) : inB x 1 10000 = !badReg x := by unfold badReg timeB inB; simp
theorem any_bad {l : List Int} {k : Nat} (h : k < l.length) (hb : inB (gI l k) 1 10000 = false) : l.any badReg = true := by
  rw [inB_bad, gI_at h] at hb
  exact List.any_eq_true.2 ⟨_, List.getElem_mem h, by simpa using hb⟩
theorem any_good {l : List Int} (h : ∀ j, j < l.length → inB (gI l j) 1 10000 = true) : l.any badReg = false := by
  rw [List.any_eq_false]
  intro x hx
  obtain ⟨j, hj, rfl⟩ := List.getElem_of_mem hx
  have := h j hj
  rw [inB_bad, gI_at hj] at this
  simpa using this
set_option maxRecDepth 100000 in
set_option maxHeartbeats 2000000 in
theorem ris_any (t : Task) (vr : Value) (p : Int) (w : World) (hr : RdI w vr t.regs) (hn : t.name.size ≤ 140737488351232) :
    Calls Tryz.prog 25 #[.agg #[.string t.name, .int .i64 t.T, .int .i64 t.D, .int .i64 t.mode, .int .i64 t.Q, .int .i64 t.theta, vr, .int .u64 t.ecb, .int .u64 t.ucb], .int .i64 p] w fun e w' => e = .returned (.bool (refIsB t p)) ∧ Below w.heap.size w w' := by
  have HR := Lib.hid hr
  obtain ⟨A, c, rfl, hle, hat⟩ := hr.at
  have HAT := Lib.hid hat
  clear hr hat
  cases h1 : refName t.name
  · have HN := Lib.hid h1
    have HF : Hid (refIsB t p = false) := Lib.hid (by simp [refIsB, h1])
    clear h1
    go_enter Tryz.func25, Tryz.ntmps25
    go_wp2_with (go_at_call 34; refine (rname_any _ _ hn).mono ?_; rintro e w1 ⟨rfl, hb1⟩; rw [HN.out]; have HX : Hid (IsC t (.slice A t.regs.length c) w w1) := Lib.hid ⟨Blk.kept (Blk.newAt rfl) hb1, below_tr (Below.alloc (Below.refl _ _) (Nat.le_refl _) _) hb1⟩; clear hb1; have c6 := HX.out.1.cell 6 rfl; have c7 := HX.out.1.cell 7 rfl; have c8 := HX.out.1.cell 8 rfl)
    go_ret
    exact ⟨ret_bool (by rw [HF.out]), HX.out.2⟩
  · have HN := Lib.hid h1
    by_cases h2 : 1 ≤ t.regs.length
    · by_cases h3 : t.regs.length ≤ 8
      · by_cases h4 : Go.bits .andNot .u64 t.ucb t.ecb = 0
        · have k4 : (Go.bits .andNot .u64 t.ucb t.ecb != 0) = false := by simp [h4]
          have HRB : Hid (refIsB t p = (regsB t.regs && (decide (t.regs.sum ≤ t.D) && (decide (t.D ≤ t.T) && (decide (t.T ≤ 10000) && modeB t p))))) := Lib.hid (by simp [refIsB, h1, h4])
          have HRG : Hid (regsB t.regs = !(t.regs.any badReg)) := Lib.hid (by simp [regsB, h2, h3])
          clear h1 h4
          go_enter Tryz.func25, Tryz.ntmps25
          go_wp2_with (go_at_call 34; refine (rname_any _ _ hn).mono ?_; rintro e w1 ⟨rfl, hb1⟩; rw [HN.out]; have HX : Hid (IsC t (.slice A t.regs.length c) w w1) := Lib.hid ⟨Blk.kept (Blk.newAt rfl) hb1, below_tr (Below.alloc (Below.refl _ _) (Nat.le_refl _) _) hb1⟩; clear hb1; have c6 := HX.out.1.cell 6 rfl; have c7 := HX.out.1.cell 7 rfl; have c8 := HX.out.1.cell 8 rfl)
          go_loop [5] (fun i => ∃ k : Nat, k ≤ t.regs.length ∧ i = .int .i64 k ∧ Hid (∀ j, j < k → inB (gI t.regs j) 1 10000 = true)) (fun i => t.regs.length - (intOf i).toNat)
          case atStart => exact ⟨0, Nat.zero_le _, rfl, Lib.hid (fun j hj => by omega)⟩
          case round =>
            obtain ⟨k, hk, rfl, HALL⟩ := hrel
            by_cases hlt : k < t.regs.length
            · obtain ⟨b, o, rfl, hc⟩ := HAT.out k hlt
              have hc := cell_kept HX.out.2 hc
              cases hb : inB (gI t.regs k) 1 10000
              · have HF : Hid (refIsB t p = false) := Lib.hid (by rw [HRB.out, HRG.out, any_bad hlt hb]; rfl)
                have HB := Lib.hid hb
                clear hb
                go_wp2_with (go_at_call 24; refine (rin_any _ _ _ _).mono ?_; rintro e w' ⟨rfl, rfl⟩; rw [HB.out])
                go_ret
                exact ⟨ret_bool (by rw [HF.out]), HX.out.2⟩
              · have HAL2 : Hid (∀ j, j < k + 1 → inB (gI t.regs j) 1 10000 = true) := Lib.hid (fun j hj => by
                  by_cases h : j = k
                  · subst h; exact hb
                  · exact HALL.out j (by omega))
                have HB := Lib.hid hb
                clear hb
                go_wp2_with (go_at_call 24; refine (rin_any _ _ _ _).mono ?_; rintro e w' ⟨rfl, rfl⟩; rw [HB.out])
                go_round
                case rel => exact ⟨k + 1, hlt, by go_num, HAL2⟩
                case measure => simp [intOf]; omega
            · obtain rfl : k = t.regs.length := by omega
              have hg : regsB t.regs = true := by rw [HRG.out, any_good HALL.out]; rfl
              have HG := Lib.hid hg
              have HRM : Hid (refIsB t p = (decide (t.regs.sum ≤ t.D) && (decide (t.D ≤ t.T) && (decide (t.T ≤ 10000) && modeB t p)))) := Lib.hid (by rw [HRB.out, hg]; rfl)
              clear hg
              go_wp2_with fail
              have HT := Lib.hid (show inB t.Q 0 10000 = inB t.Q 0 10000 from rfl)
              by_cases g3 : t.regs.sum ≤ t.D
              · have d3 : decide (t.D < t.regs.sum) = false := by simp; omega
                by_cases g4 : t.D ≤ t.T
                · have d4 : decide (t.T < t.D) = false := by simp; omega
                  by_cases g5 : t.T ≤ 10000
                  · have d5 : decide (10000 < t.T) = false := by simp; omega
                    have HRX : Hid (refIsB t p = modeB t p) := Lib.hid (by rw [HRM.out]; simp [g3, g4, g5])
                    by_cases h0 : t.mode = 0
                    · have m0 : (t.mode == 0) = true := by simp [h0]
                      by_cases h1 : t.Q = 0
                      · have q0 : (t.Q == 0) = true := by simp [h1]
                        by_cases h2 : t.theta = 0
                        · have t0 : (t.theta == 0) = true := by simp [h2]
                          have HF : Hid (refIsB t p = true) := Lib.hid (by rw [HRX.out]; simp [modeB, h0, h1, h2])
                          clear h0 h1 h2
                          refine wp_region_cls (fun w' => Hid (IsC t (.slice A t.regs.length c) w w')) (by kernel_rfl) (by kernel_rfl) (Lib.hid (IsC.kept HX.out (Below.refl _ _).drew)) ?_
                          repeat (first
                            | go_big_quiet_skip
                            | (go_big_quiet_want; go_big_quiet_op; first
                              | go_big_quiet_on
                              | (refine ⟨_, fun _ _ => rfl, ?_⟩; go_big_quiet_on)
                              | (apply Exists.intro; refine ⟨fun W HC => ?_, ?_⟩; (rw [HC.out.1.cell 0 rfl]; exact ⟨rfl, rfl⟩); go_big_quiet_on)
                              | (apply Exists.intro; refine ⟨fun W HC => ?_, ?_⟩; (rw [HC.out.1.cell 1 rfl]; exact ⟨rfl, rfl⟩); go_big_quiet_on)
                              | (apply Exists.intro; refine ⟨fun W HC => ?_, ?_⟩; (rw [HC.out.1.cell 2 rfl]; exact ⟨rfl, rfl⟩); go_big_quiet_on)
                              | (apply Exists.intro; refine ⟨fun W HC => ?_, ?_⟩; (have c0 := HC.out.1.cell 0 rfl; have c1 := HC.out.1.cell 1 rfl; have c2 := HC.out.1.cell 2 rfl; have c3 := HC.out.1.cell 3 rfl; have c4 := HC.out.1.cell 4 rfl; have c5 := HC.out.1.cell 5 rfl; have c6 := HC.out.1.cell 6 rfl; have c7 := HC.out.1.cell 7 rfl; have c8 := HC.out.1.cell 8 rfl; simp only [c0, c1, c2, c3, c4, c5, c6, c7, c8, Result.andThen_ok]; exact ⟨trivial, rfl⟩); go_big_quiet_on)
                              | (apply Exists.intro; refine ⟨fun W HC => ?_, ?_⟩; (go_at_call 35; refine (rwork_any t _ W (Rows'.kept CInt.mono HC.out.2 HR.out) HG.out).mono ?_; rintro e w' ⟨rfl, hb⟩; exact ⟨rfl, Lib.hid (HC.out.kept hb)⟩); go_big_quiet_on)))
                          refine wpQuiet_nil ?_
                          intro W HC
                          clear HX c6 c7 c8
                          have c3 := HC.out.1.cell 3 rfl
                          have c4 := HC.out.1.cell 4 rfl
                          have c5 := HC.out.1.cell 5 rfl
                          go_wp2_with (go_at_call 24; refine (rin_any _ _ _ _).mono ?_; rintro e w' ⟨rfl, rfl⟩; rw [HT.out])
                          go_ret
                          exact ⟨ret_bool (by rw [HF.out]), HC.out.2⟩
                        · have t0 : (t.theta == 0) = false := by simp [h2]
                          have HF : Hid (refIsB t p = false) := Lib.hid (by rw [HRX.out]; simp [modeB, h0, h1, h2])
                          clear h0 h1 h2
                          refine wp_region_cls (fun w' => Hid (IsC t (.slice A t.regs.length c) w w')) (by kernel_rfl) (by kernel_rfl) (Lib.hid (IsC.kept HX.out (Below.refl _ _).drew)) ?_
                          repeat (first
                            | go_big_quiet_skip
                            | (go_big_quiet_want; go_big_quiet_op; first
                              | go_big_quiet_on
                              | (refine ⟨_, fun _ _ => rfl, ?_⟩; go_big_quiet_on)
                              | (apply Exists.intro; refine ⟨fun W HC => ?_, ?_⟩; (rw [HC.out.1.cell 0 rfl]; exact ⟨rfl, rfl⟩); go_big_quiet_on)
                              | (apply Exists.intro; refine ⟨fun W HC => ?_, ?_⟩; (rw [HC.out.1.cell 1 rfl]; exact ⟨rfl, rfl⟩); go_big_quiet_on)
                              | (apply Exists.intro; refine ⟨fun W HC => ?_, ?_⟩; (rw [HC.out.1.cell 2 rfl]; exact ⟨rfl, rfl⟩); go_big_quiet_on)
                              | (apply Exists.intro; refine ⟨fun W HC => ?_, ?_⟩; (have c0 := HC.out.1.cell 0 rfl; have c1 := HC.out.1.cell 1 rfl; have c2 := HC.out.1.cell 2 rfl; have c3 := HC.out.1.cell 3 rfl; have c4 := HC.out.1.cell 4 rfl; have c5 := HC.out.1.cell 5 rfl; have c6 := HC.out.1.cell 6 rfl; have c7 := HC.out.1.cell 7 rfl; have c8 := HC.out.1.cell 8 rfl; simp only [c0, c1, c2, c3, c4, c5, c6, c7, c8, Result.andThen_ok]; exact ⟨trivial, rfl⟩); go_big_quiet_on)
                              | (apply Exists.intro; refine ⟨fun W HC => ?_, ?_⟩; (go_at_call 35; refine (rwork_any t _ W (Rows'.kept CInt.mono HC.out.2 HR.out) HG.out).mono ?_; rintro e w' ⟨rfl, hb⟩; exact ⟨rfl, Lib.hid (HC.out.kept hb)⟩); go_big_quiet_on)))
                          refine wpQuiet_nil ?_
                          intro W HC
                          clear HX c6 c7 c8
                          have c3 := HC.out.1.cell 3 rfl
                          have c4 := HC.out.1.cell 4 rfl
                          have c5 := HC.out.1.cell 5 rfl
                          go_wp2_with (go_at_call 24; refine (rin_any _ _ _ _).mono ?_; rintro e w' ⟨rfl, rfl⟩; rw [HT.out])
                          go_ret
                          exact ⟨ret_bool (by rw [HF.out]), HC.out.2⟩
                      · have q0 : (t.Q == 0) = false := by simp [h1]
                        have HF : Hid (refIsB t p = false) := Lib.hid (by rw [HRX.out]; simp [modeB, h0, h1])
                        clear h0 h1
                        refine wp_region_cls (fun w' => Hid (IsC t (.slice A t.regs.length c) w w')) (by kernel_rfl) (by kernel_rfl) (Lib.hid (IsC.kept HX.out (Below.refl _ _).drew)) ?_
                        repeat (first
                          | go_big_quiet_skip
                          | (go_big_quiet_want; go_big_quiet_op; first
                            | go_big_quiet_on
                            | (refine ⟨_, fun _ _ => rfl, ?_⟩; go_big_quiet_on)
                            | (apply Exists.intro; refine ⟨fun W HC => ?_, ?_⟩; (rw [HC.out.1.cell 0 rfl]; exact ⟨rfl, rfl⟩); go_big_quiet_on)
                            | (apply Exists.intro; refine ⟨fun W HC => ?_, ?_⟩; (rw [HC.out.1.cell 1 rfl]; exact ⟨rfl, rfl⟩); go_big_quiet_on)
                            | (apply Exists.intro; refine ⟨fun W HC => ?_, ?_⟩; (rw [HC.out.1.cell 2 rfl]; exact ⟨rfl, rfl⟩); go_big_quiet_on)
                            | (apply Exists.intro; refine ⟨fun W HC => ?_, ?_⟩; (have c0 := HC.out.1.cell 0 rfl; have c1 := HC.out.1.cell 1 rfl; have c2 := HC.out.1.cell 2 rfl; have c3 := HC.out.1.cell 3 rfl; have c4 := HC.out.1.cell 4 rfl; have c5 := HC.out.1.cell 5 rfl; have c6 := HC.out.1.cell 6 rfl; have c7 := HC.out.1.cell 7 rfl; have c8 := HC.out.1.cell 8 rfl; simp only [c0, c1, c2, c3, c4, c5, c6, c7, c8, Result.andThen_ok]; exact ⟨trivial, rfl⟩); go_big_quiet_on)
                            | (apply Exists.intro; refine ⟨fun W HC => ?_, ?_⟩; (go_at_call 35; refine (rwork_any t _ W (Rows'.kept CInt.mono HC.out.2 HR.out) HG.out).mono ?_; rintro e w' ⟨rfl, hb⟩; exact ⟨rfl, Lib.hid (HC.out.kept hb)⟩); go_big_quiet_on)))
                        refine wpQuiet_nil ?_
                        intro W HC
                        clear HX c6 c7 c8
                        have c3 := HC.out.1.cell 3 rfl
                        have c4 := HC.out.1.cell 4 rfl
                        have c5 := HC.out.1.cell 5 rfl
                        go_wp2_with (go_at_call 24; refine (rin_any _ _ _ _).mono ?_; rintro e w' ⟨rfl, rfl⟩; rw [HT.out])
                        go_ret
                        exact ⟨ret_bool (by rw [HF.out]), HC.out.2⟩
                    · have m0 : (t.mode == 0) = false := by simp [h0]
                      by_cases h1 : t.mode = 1
                      · have m1 : (t.mode == 1) = true := by simp [h1]
                        cases hq : timeB t.Q 0
                        · have HF : Hid (refIsB t p = false) := Lib.hid (by rw [HRX.out]; simp [modeB, h1, hq])
                          have HT : Hid (inB t.Q 0 10000 = false) := Lib.hid hq
                          clear h0 h1 hq
                          refine wp_region_cls (fun w' => Hid (IsC t (.slice A t.regs.length c) w w')) (by kernel_rfl) (by kernel_rfl) (Lib.hid (IsC.kept HX.out (Below.refl _ _).drew)) ?_
                          repeat (first
                            | go_big_quiet_skip
                            | (go_big_quiet_want; go_big_quiet_op; first
                              | go_big_quiet_on
                              | (refine ⟨_, fun _ _ => rfl, ?_⟩; go_big_quiet_on)
                              | (apply Exists.intro; refine ⟨fun W HC => ?_, ?_⟩; (rw [HC.out.1.cell 0 rfl]; exact ⟨rfl, rfl⟩); go_big_quiet_on)
                              | (apply Exists.intro; refine ⟨fun W HC => ?_, ?_⟩; (rw [HC.out.1.cell 1 rfl]; exact ⟨rfl, rfl⟩); go_big_quiet_on)
                              | (apply Exists.intro; refine ⟨fun W HC => ?_, ?_⟩; (rw [HC.out.1.cell 2 rfl]; exact ⟨rfl, rfl⟩); go_big_quiet_on)
                              | (apply Exists.intro; refine ⟨fun W HC => ?_, ?_⟩; (have c0 := HC.out.1.cell 0 rfl; have c1 := HC.out.1.cell 1 rfl; have c2 := HC.out.1.cell 2 rfl; have c3 := HC.out.1.cell 3 rfl; have c4 := HC.out.1.cell 4 rfl; have c5 := HC.out.1.cell 5 rfl; have c6 := HC.out.1.cell 6 rfl; have c7 := HC.out.1.cell 7 rfl; have c8 := HC.out.1.cell 8 rfl; simp only [c0, c1, c2, c3, c4, c5, c6, c7, c8, Result.andThen_ok]; exact ⟨trivial, rfl⟩); go_big_quiet_on)
                              | (apply Exists.intro; refine ⟨fun W HC => ?_, ?_⟩; (go_at_call 35; refine (rwork_any t _ W (Rows'.kept CInt.mono HC.out.2 HR.out) HG.out).mono ?_; rintro e w' ⟨rfl, hb⟩; exact ⟨rfl, Lib.hid (HC.out.kept hb)⟩); go_big_quiet_on)))
                          refine wpQuiet_nil ?_
                          intro W HC
                          clear HX c6 c7 c8
                          have c3 := HC.out.1.cell 3 rfl
                          have c4 := HC.out.1.cell 4 rfl
                          have c5 := HC.out.1.cell 5 rfl
                          go_wp2_with (go_at_call 24; refine (rin_any _ _ _ _).mono ?_; rintro e w' ⟨rfl, rfl⟩; rw [HT.out])
                          go_ret
                          exact ⟨ret_bool (by rw [HF.out]), HC.out.2⟩
                        · have HT : Hid (inB t.Q 0 10000 = true) := Lib.hid hq
                          by_cases h2 : t.theta = 0
                          · have t0 : (t.theta == 0) = true := by simp [h2]
                            have HF : Hid (refIsB t p = true) := Lib.hid (by rw [HRX.out]; simp [modeB, h1, hq, h2])
                            clear h0 h1 hq h2
                            refine wp_region_cls (fun w' => Hid (IsC t (.slice A t.regs.length c) w w')) (by kernel_rfl) (by kernel_rfl) (Lib.hid (IsC.kept HX.out (Below.refl _ _).drew)) ?_
                            repeat (first
                              | go_big_quiet_skip
                              | (go_big_quiet_want; go_big_quiet_op; first
                                | go_big_quiet_on
                                | (refine ⟨_, fun _ _ => rfl, ?_⟩; go_big_quiet_on)
                                | (apply Exists.intro; refine ⟨fun W HC => ?_, ?_⟩; (rw [HC.out.1.cell 0 rfl]; exact ⟨rfl, rfl⟩); go_big_quiet_on)
                                | (apply Exists.intro; refine ⟨fun W HC => ?_, ?_⟩; (rw [HC.out.1.cell 1 rfl]; exact ⟨rfl, rfl⟩); go_big_quiet_on)
                                | (apply Exists.intro; refine ⟨fun W HC => ?_, ?_⟩; (rw [HC.out.1.cell 2 rfl]; exact ⟨rfl, rfl⟩); go_big_quiet_on)
                                | (apply Exists.intro; refine ⟨fun W HC => ?_, ?_⟩; (have c0 := HC.out.1.cell 0 rfl; have c1 := HC.out.1.cell 1 rfl; have c2 := HC.out.1.cell 2 rfl; have c3 := HC.out.1.cell 3 rfl; have c4 := HC.out.1.cell 4 rfl; have c5 := HC.out.1.cell 5 rfl; have c6 := HC.out.1.cell 6 rfl; have c7 := HC.out.1.cell 7 rfl; have c8 := HC.out.1.cell 8 rfl; simp only [c0, c1, c2, c3, c4, c5, c6, c7, c8, Result.andThen_ok]; exact ⟨trivial, rfl⟩); go_big_quiet_on)
                                | (apply Exists.intro; refine ⟨fun W HC => ?_, ?_⟩; (go_at_call 35; refine (rwork_any t _ W (Rows'.kept CInt.mono HC.out.2 HR.out) HG.out).mono ?_; rintro e w' ⟨rfl, hb⟩; exact ⟨rfl, Lib.hid (HC.out.kept hb)⟩); go_big_quiet_on)))
                            refine wpQuiet_nil ?_
                            intro W HC
                            clear HX c6 c7 c8
                            have c3 := HC.out.1.cell 3 rfl
                            have c4 := HC.out.1.cell 4 rfl
                            have c5 := HC.out.1.cell 5 rfl
                            go_wp2_with (go_at_call 24; refine (rin_any _ _ _ _).mono ?_; rintro e w' ⟨rfl, rfl⟩; rw [HT.out])
                            go_ret
                            exact ⟨ret_bool (by rw [HF.out]), HC.out.2⟩
                          · have t0 : (t.theta == 0) = false := by simp [h2]
                            have HF : Hid (refIsB t p = false) := Lib.hid (by rw [HRX.out]; simp [modeB, h1, hq, h2])
                            clear h0 h1 hq h2
                            refine wp_region_cls (fun w' => Hid (IsC t (.slice A t.regs.length c) w w')) (by kernel_rfl) (by kernel_rfl) (Lib.hid (IsC.kept HX.out (Below.refl _ _).drew)) ?_
                            repeat (first
                              | go_big_quiet_skip
                              | (go_big_quiet_want; go_big_quiet_op; first
                                | go_big_quiet_on
                                | (refine ⟨_, fun _ _ => rfl, ?_⟩; go_big_quiet_on)
                                | (apply Exists.intro; refine ⟨fun W HC => ?_, ?_⟩; (rw [HC.out.1.cell 0 rfl]; exact ⟨rfl, rfl⟩); go_big_quiet_on)
                                | (apply Exists.intro; refine ⟨fun W HC => ?_, ?_⟩; (rw [HC.out.1.cell 1 rfl]; exact ⟨rfl, rfl⟩); go_big_quiet_on)
                                | (apply Exists.intro; refine ⟨fun W HC => ?_, ?_⟩; (rw [HC.out.1.cell 2 rfl]; exact ⟨rfl, rfl⟩); go_big_quiet_on)
                                | (apply Exists.intro; refine ⟨fun W HC => ?_, ?_⟩; (have c0 := HC.out.1.cell 0 rfl; have c1 := HC.out.1.cell 1 rfl; have c2 := HC.out.1.cell 2 rfl; have c3 := HC.out.1.cell 3 rfl; have c4 := HC.out.1.cell 4 rfl; have c5 := HC.out.1.cell 5 rfl; have c6 := HC.out.1.cell 6 rfl; have c7 := HC.out.1.cell 7 rfl; have c8 := HC.out.1.cell 8 rfl; simp only [c0, c1, c2, c3, c4, c5, c6, c7, c8, Result.andThen_ok]; exact ⟨trivial, rfl⟩); go_big_quiet_on)
                                | (apply Exists.intro; refine ⟨fun W HC => ?_, ?_⟩; (go_at_call 35; refine (rwork_any t _ W (Rows'.kept CInt.mono HC.out.2 HR.out) HG.out).mono ?_; rintro e w' ⟨rfl, hb⟩; exact ⟨rfl, Lib.hid (HC.out.kept hb)⟩); go_big_quiet_on)))
                            refine wpQuiet_nil ?_
                            intro W HC
                            clear HX c6 c7 c8
                            have c3 := HC.out.1.cell 3 rfl
                            have c4 := HC.out.1.cell 4 rfl
                            have c5 := HC.out.1.cell 5 rfl
                            go_wp2_with (go_at_call 24; refine (rin_any _ _ _ _).mono ?_; rintro e w' ⟨rfl, rfl⟩; rw [HT.out])
                            go_ret
                            exact ⟨ret_bool (by rw [HF.out]), HC.out.2⟩
                      · have m1 : (t.mode == 1) = false := by simp [h1]
                        by_cases h2 : t.mode = 2
                        · have m2 : (t.mode == 2) = true := by simp [h2]
                          by_cases h3 : t.Q = 0
                          · have q0 : (t.Q == 0) = true := by simp [h3]
                            by_cases h4 : 0 ≤ t.theta
                            · by_cases h5 : t.theta ≤ p
                              · have HF : Hid (refIsB t p = true) := Lib.hid (by rw [HRX.out]; simp [modeB, h2, h3, h4, h5])
                                clear h0 h1 h2 h3
                                refine wp_region_cls (fun w' => Hid (IsC t (.slice A t.regs.length c) w w')) (by kernel_rfl) (by kernel_rfl) (Lib.hid (IsC.kept HX.out (Below.refl _ _).drew)) ?_
                                repeat (first
                                  | go_big_quiet_skip
                                  | (go_big_quiet_want; go_big_quiet_op; first
                                    | go_big_quiet_on
                                    | (refine ⟨_, fun _ _ => rfl, ?_⟩; go_big_quiet_on)
                                    | (apply Exists.intro; refine ⟨fun W HC => ?_, ?_⟩; (rw [HC.out.1.cell 0 rfl]; exact ⟨rfl, rfl⟩); go_big_quiet_on)
                                    | (apply Exists.intro; refine ⟨fun W HC => ?_, ?_⟩; (rw [HC.out.1.cell 1 rfl]; exact ⟨rfl, rfl⟩); go_big_quiet_on)
                                    | (apply Exists.intro; refine ⟨fun W HC => ?_, ?_⟩; (rw [HC.out.1.cell 2 rfl]; exact ⟨rfl, rfl⟩); go_big_quiet_on)
                                    | (apply Exists.intro; refine ⟨fun W HC => ?_, ?_⟩; (have c0 := HC.out.1.cell 0 rfl; have c1 := HC.out.1.cell 1 rfl; have c2 := HC.out.1.cell 2 rfl; have c3 := HC.out.1.cell 3 rfl; have c4 := HC.out.1.cell 4 rfl; have c5 := HC.out.1.cell 5 rfl; have c6 := HC.out.1.cell 6 rfl; have c7 := HC.out.1.cell 7 rfl; have c8 := HC.out.1.cell 8 rfl; simp only [c0, c1, c2, c3, c4, c5, c6, c7, c8, Result.andThen_ok]; exact ⟨trivial, rfl⟩); go_big_quiet_on)
                                    | (apply Exists.intro; refine ⟨fun W HC => ?_, ?_⟩; (go_at_call 35; refine (rwork_any t _ W (Rows'.kept CInt.mono HC.out.2 HR.out) HG.out).mono ?_; rintro e w' ⟨rfl, hb⟩; exact ⟨rfl, Lib.hid (HC.out.kept hb)⟩); go_big_quiet_on)))
                                refine wpQuiet_nil ?_
                                intro W HC
                                clear HX c6 c7 c8
                                have c3 := HC.out.1.cell 3 rfl
                                have c4 := HC.out.1.cell 4 rfl
                                have c5 := HC.out.1.cell 5 rfl
                                go_wp2_with (go_at_call 24; refine (rin_any _ _ _ _).mono ?_; rintro e w' ⟨rfl, rfl⟩; rw [HT.out])
                                go_ret
                                exact ⟨ret_bool (by rw [HF.out]), HC.out.2⟩
                              · have HF : Hid (refIsB t p = false) := Lib.hid (by rw [HRX.out]; simp [modeB, h2, h3, h4, h5])
                                clear h0 h1 h2 h3
                                refine wp_region_cls (fun w' => Hid (IsC t (.slice A t.regs.length c) w w')) (by kernel_rfl) (by kernel_rfl) (Lib.hid (IsC.kept HX.out (Below.refl _ _).drew)) ?_
                                repeat (first
                                  | go_big_quiet_skip
                                  | (go_big_quiet_want; go_big_quiet_op; first
                                    | go_big_quiet_on
                                    | (refine ⟨_, fun _ _ => rfl, ?_⟩; go_big_quiet_on)
                                    | (apply Exists.intro; refine ⟨fun W HC => ?_, ?_⟩; (rw [HC.out.1.cell 0 rfl]; exact ⟨rfl, rfl⟩); go_big_quiet_on)
                                    | (apply Exists.intro; refine ⟨fun W HC => ?_, ?_⟩; (rw [HC.out.1.cell 1 rfl]; exact ⟨rfl, rfl⟩); go_big_quiet_on)
                                    | (apply Exists.intro; refine ⟨fun W HC => ?_, ?_⟩; (rw [HC.out.1.cell 2 rfl]; exact ⟨rfl, rfl⟩); go_big_quiet_on)
                                    | (apply Exists.intro; refine ⟨fun W HC => ?_, ?_⟩; (have c0 := HC.out.1.cell 0 rfl; have c1 := HC.out.1.cell 1 rfl; have c2 := HC.out.1.cell 2 rfl; have c3 := HC.out.1.cell 3 rfl; have c4 := HC.out.1.cell 4 rfl; have c5 := HC.out.1.cell 5 rfl; have c6 := HC.out.1.cell 6 rfl; have c7 := HC.out.1.cell 7 rfl; have c8 := HC.out.1.cell 8 rfl; simp only [c0, c1, c2, c3, c4, c5, c6, c7, c8, Result.andThen_ok]; exact ⟨trivial, rfl⟩); go_big_quiet_on)
                                    | (apply Exists.intro; refine ⟨fun W HC => ?_, ?_⟩; (go_at_call 35; refine (rwork_any t _ W (Rows'.kept CInt.mono HC.out.2 HR.out) HG.out).mono ?_; rintro e w' ⟨rfl, hb⟩; exact ⟨rfl, Lib.hid (HC.out.kept hb)⟩); go_big_quiet_on)))
                                refine wpQuiet_nil ?_
                                intro W HC
                                clear HX c6 c7 c8
                                have c3 := HC.out.1.cell 3 rfl
                                have c4 := HC.out.1.cell 4 rfl
                                have c5 := HC.out.1.cell 5 rfl
                                go_wp2_with (go_at_call 24; refine (rin_any _ _ _ _).mono ?_; rintro e w' ⟨rfl, rfl⟩; rw [HT.out])
                                go_ret
                                exact ⟨ret_bool (by rw [HF.out]), HC.out.2⟩
                            · have HF : Hid (refIsB t p = false) := Lib.hid (by rw [HRX.out]; simp [modeB, h2, h3, h4])
                              clear h0 h1 h2 h3
                              refine wp_region_cls (fun w' => Hid (IsC t (.slice A t.regs.length c) w w')) (by kernel_rfl) (by kernel_rfl) (Lib.hid (IsC.kept HX.out (Below.refl _ _).drew)) ?_
                              repeat (first
                                | go_big_quiet_skip
                                | (go_big_quiet_want; go_big_quiet_op; first
                                  | go_big_quiet_on
                                  | (refine ⟨_, fun _ _ => rfl, ?_⟩; go_big_quiet_on)
                                  | (apply Exists.intro; refine ⟨fun W HC => ?_, ?_⟩; (rw [HC.out.1.cell 0 rfl]; exact ⟨rfl, rfl⟩); go_big_quiet_on)
                                  | (apply Exists.intro; refine ⟨fun W HC => ?_, ?_⟩; (rw [HC.out.1.cell 1 rfl]; exact ⟨rfl, rfl⟩); go_big_quiet_on)
                                  | (apply Exists.intro; refine ⟨fun W HC => ?_, ?_⟩; (rw [HC.out.1.cell 2 rfl]; exact ⟨rfl, rfl⟩); go_big_quiet_on)
                                  | (apply Exists.intro; refine ⟨fun W HC => ?_, ?_⟩; (have c0 := HC.out.1.cell 0 rfl; have c1 := HC.out.1.cell 1 rfl; have c2 := HC.out.1.cell 2 rfl; have c3 := HC.out.1.cell 3 rfl; have c4 := HC.out.1.cell 4 rfl; have c5 := HC.out.1.cell 5 rfl; have c6 := HC.out.1.cell 6 rfl; have c7 := HC.out.1.cell 7 rfl; have c8 := HC.out.1.cell 8 rfl; simp only [c0, c1, c2, c3, c4, c5, c6, c7, c8, Result.andThen_ok]; exact ⟨trivial, rfl⟩); go_big_quiet_on)
                                  | (apply Exists.intro; refine ⟨fun W HC => ?_, ?_⟩; (go_at_call 35; refine (rwork_any t _ W (Rows'.kept CInt.mono HC.out.2 HR.out) HG.out).mono ?_; rintro e w' ⟨rfl, hb⟩; exact ⟨rfl, Lib.hid (HC.out.kept hb)⟩); go_big_quiet_on)))
                              refine wpQuiet_nil ?_
                              intro W HC
                              clear HX c6 c7 c8
                              have c3 := HC.out.1.cell 3 rfl
                              have c4 := HC.out.1.cell 4 rfl
                              have c5 := HC.out.1.cell 5 rfl
                              go_wp2_with (go_at_call 24; refine (rin_any _ _ _ _).mono ?_; rintro e w' ⟨rfl, rfl⟩; rw [HT.out])
                              go_ret
                              exact ⟨ret_bool (by rw [HF.out]), HC.out.2⟩
                          · have q0 : (t.Q == 0) = false := by simp [h3]
                            have HF : Hid (refIsB t p = false) := Lib.hid (by rw [HRX.out]; simp [modeB, h2, h3])
                            clear h0 h1 h2 h3
                            refine wp_region_cls (fun w' => Hid (IsC t (.slice A t.regs.length c) w w')) (by kernel_rfl) (by kernel_rfl) (Lib.hid (IsC.kept HX.out (Below.refl _ _).drew)) ?_
                            repeat (first
                              | go_big_quiet_skip
                              | (go_big_quiet_want; go_big_quiet_op; first
                                | go_big_quiet_on
                                | (refine ⟨_, fun _ _ => rfl, ?_⟩; go_big_quiet_on)
                                | (apply Exists.intro; refine ⟨fun W HC => ?_, ?_⟩; (rw [HC.out.1.cell 0 rfl]; exact ⟨rfl, rfl⟩); go_big_quiet_on)
                                | (apply Exists.intro; refine ⟨fun W HC => ?_, ?_⟩; (rw [HC.out.1.cell 1 rfl]; exact ⟨rfl, rfl⟩); go_big_quiet_on)
                                | (apply Exists.intro; refine ⟨fun W HC => ?_, ?_⟩; (rw [HC.out.1.cell 2 rfl]; exact ⟨rfl, rfl⟩); go_big_quiet_on)
                                | (apply Exists.intro; refine ⟨fun W HC => ?_, ?_⟩; (have c0 := HC.out.1.cell 0 rfl; have c1 := HC.out.1.cell 1 rfl; have c2 := HC.out.1.cell 2 rfl; have c3 := HC.out.1.cell 3 rfl; have c4 := HC.out.1.cell 4 rfl; have c5 := HC.out.1.cell 5 rfl; have c6 := HC.out.1.cell 6 rfl; have c7 := HC.out.1.cell 7 rfl; have c8 := HC.out.1.cell 8 rfl; simp only [c0, c1, c2, c3, c4, c5, c6, c7, c8, Result.andThen_ok]; exact ⟨trivial, rfl⟩); go_big_quiet_on)
                                | (apply Exists.intro; refine ⟨fun W HC => ?_, ?_⟩; (go_at_call 35; refine (rwork_any t _ W (Rows'.kept CInt.mono HC.out.2 HR.out) HG.out).mono ?_; rintro e w' ⟨rfl, hb⟩; exact ⟨rfl, Lib.hid (HC.out.kept hb)⟩); go_big_quiet_on)))
                            refine wpQuiet_nil ?_
                            intro W HC
                            clear HX c6 c7 c8
                            have c3 := HC.out.1.cell 3 rfl
                            have c4 := HC.out.1.cell 4 rfl
                            have c5 := HC.out.1.cell 5 rfl
                            go_wp2_with (go_at_call 24; refine (rin_any _ _ _ _).mono ?_; rintro e w' ⟨rfl, rfl⟩; rw [HT.out])
                            go_ret
                            exact ⟨ret_bool (by rw [HF.out]), HC.out.2⟩
                        · have m2 : (t.mode == 2) = false := by simp [h2]
                          have HF : Hid (refIsB t p = false) := Lib.hid (by rw [HRX.out]; simp [modeB, h0, h1, h2])
                          clear h0 h1 h2
                          refine wp_region_cls (fun w' => Hid (IsC t (.slice A t.regs.length c) w w')) (by kernel_rfl) (by kernel_rfl) (Lib.hid (IsC.kept HX.out (Below.refl _ _).drew)) ?_
                          repeat (first
                            | go_big_quiet_skip
                            | (go_big_quiet_want; go_big_quiet_op; first
                              | go_big_quiet_on
                              | (refine ⟨_, fun _ _ => rfl, ?_⟩; go_big_quiet_on)
                              | (apply Exists.intro; refine ⟨fun W HC => ?_, ?_⟩; (rw [HC.out.1.cell 0 rfl]; exact ⟨rfl, rfl⟩); go_big_quiet_on)
                              | (apply Exists.intro; refine ⟨fun W HC => ?_, ?_⟩; (rw [HC.out.1.cell 1 rfl]; exact ⟨rfl, rfl⟩); go_big_quiet_on)
                              | (apply Exists.intro; refine ⟨fun W HC => ?_, ?_⟩; (rw [HC.out.1.cell 2 rfl]; exact ⟨rfl, rfl⟩); go_big_quiet_on)
                              | (apply Exists.intro; refine ⟨fun W HC => ?_, ?_⟩; (have c0 := HC.out.1.cell 0 rfl; have c1 := HC.out.1.cell 1 rfl; have c2 := HC.out.1.cell 2 rfl; have c3 := HC.out.1.cell 3 rfl; have c4 := HC.out.1.cell 4 rfl; have c5 := HC.out.1.cell 5 rfl; have c6 := HC.out.1.cell 6 rfl; have c7 := HC.out.1.cell 7 rfl; have c8 := HC.out.1.cell 8 rfl; simp only [c0, c1, c2, c3, c4, c5, c6, c7, c8, Result.andThen_ok]; exact ⟨trivial, rfl⟩); go_big_quiet_on)
                              | (apply Exists.intro; refine ⟨fun W HC => ?_, ?_⟩; (go_at_call 35; refine (rwork_any t _ W (Rows'.kept CInt.mono HC.out.2 HR.out) HG.out).mono ?_; rintro e w' ⟨rfl, hb⟩; exact ⟨rfl, Lib.hid (HC.out.kept hb)⟩); go_big_quiet_on)))
                          refine wpQuiet_nil ?_
                          intro W HC
                          clear HX c6 c7 c8
                          have c3 := HC.out.1.cell 3 rfl
                          have c4 := HC.out.1.cell 4 rfl
                          have c5 := HC.out.1.cell 5 rfl
                          go_wp2_with (go_at_call 24; refine (rin_any _ _ _ _).mono ?_; rintro e w' ⟨rfl, rfl⟩; rw [HT.out])
                          go_ret
                          exact ⟨ret_bool (by rw [HF.out]), HC.out.2⟩
                  · have d5 : decide (10000 < t.T) = true := by simp; omega
                    have HF : Hid (refIsB t p = false) := Lib.hid (by rw [HRM.out]; simp [g5])
                    refine wp_region_cls (fun w' => Hid (IsC t (.slice A t.regs.length c) w w')) (by kernel_rfl) (by kernel_rfl) (Lib.hid (IsC.kept HX.out (Below.refl _ _).drew)) ?_
                    repeat (first
                      | go_big_quiet_skip
                      | (go_big_quiet_want; go_big_quiet_op; first
                        | go_big_quiet_on
                        | (refine ⟨_, fun _ _ => rfl, ?_⟩; go_big_quiet_on)
                        | (apply Exists.intro; refine ⟨fun W HC => ?_, ?_⟩; (rw [HC.out.1.cell 0 rfl]; exact ⟨rfl, rfl⟩); go_big_quiet_on)
                        | (apply Exists.intro; refine ⟨fun W HC => ?_, ?_⟩; (rw [HC.out.1.cell 1 rfl]; exact ⟨rfl, rfl⟩); go_big_quiet_on)
                        | (apply Exists.intro; refine ⟨fun W HC => ?_, ?_⟩; (rw [HC.out.1.cell 2 rfl]; exact ⟨rfl, rfl⟩); go_big_quiet_on)
                        | (apply Exists.intro; refine ⟨fun W HC => ?_, ?_⟩; (have c0 := HC.out.1.cell 0 rfl; have c1 := HC.out.1.cell 1 rfl; have c2 := HC.out.1.cell 2 rfl; have c3 := HC.out.1.cell 3 rfl; have c4 := HC.out.1.cell 4 rfl; have c5 := HC.out.1.cell 5 rfl; have c6 := HC.out.1.cell 6 rfl; have c7 := HC.out.1.cell 7 rfl; have c8 := HC.out.1.cell 8 rfl; simp only [c0, c1, c2, c3, c4, c5, c6, c7, c8, Result.andThen_ok]; exact ⟨trivial, rfl⟩); go_big_quiet_on)
                        | (apply Exists.intro; refine ⟨fun W HC => ?_, ?_⟩; (go_at_call 35; refine (rwork_any t _ W (Rows'.kept CInt.mono HC.out.2 HR.out) HG.out).mono ?_; rintro e w' ⟨rfl, hb⟩; exact ⟨rfl, Lib.hid (HC.out.kept hb)⟩); go_big_quiet_on)))
                    refine wpQuiet_nil ?_
                    intro W HC
                    clear HX c6 c7 c8
                    have c3 := HC.out.1.cell 3 rfl
                    have c4 := HC.out.1.cell 4 rfl
                    have c5 := HC.out.1.cell 5 rfl
                    go_wp2_with (go_at_call 24; refine (rin_any _ _ _ _).mono ?_; rintro e w' ⟨rfl, rfl⟩; rw [HT.out])
                    go_ret
                    exact ⟨ret_bool (by rw [HF.out]), HC.out.2⟩
                · have d4 : decide (t.T < t.D) = true := by simp; omega
                  have HF : Hid (refIsB t p = false) := Lib.hid (by rw [HRM.out]; simp [g4])
                  refine wp_region_cls (fun w' => Hid (IsC t (.slice A t.regs.length c) w w')) (by kernel_rfl) (by kernel_rfl) (Lib.hid (IsC.kept HX.out (Below.refl _ _).drew)) ?_
                  repeat (first
                    | go_big_quiet_skip
                    | (go_big_quiet_want; go_big_quiet_op; first
                      | go_big_quiet_on
                      | (refine ⟨_, fun _ _ => rfl, ?_⟩; go_big_quiet_on)
                      | (apply Exists.intro; refine ⟨fun W HC => ?_, ?_⟩; (rw [HC.out.1.cell 0 rfl]; exact ⟨rfl, rfl⟩); go_big_quiet_on)
                      | (apply Exists.intro; refine ⟨fun W HC => ?_, ?_⟩; (rw [HC.out.1.cell 1 rfl]; exact ⟨rfl, rfl⟩); go_big_quiet_on)
                      | (apply Exists.intro; refine ⟨fun W HC => ?_, ?_⟩; (rw [HC.out.1.cell 2 rfl]; exact ⟨rfl, rfl⟩); go_big_quiet_on)
                      | (apply Exists.intro; refine ⟨fun W HC => ?_, ?_⟩; (have c0 := HC.out.1.cell 0 rfl; have c1 := HC.out.1.cell 1 rfl; have c2 := HC.out.1.cell 2 rfl; have c3 := HC.out.1.cell 3 rfl; have c4 := HC.out.1.cell 4 rfl; have c5 := HC.out.1.cell 5 rfl; have c6 := HC.out.1.cell 6 rfl; have c7 := HC.out.1.cell 7 rfl; have c8 := HC.out.1.cell 8 rfl; simp only [c0, c1, c2, c3, c4, c5, c6, c7, c8, Result.andThen_ok]; exact ⟨trivial, rfl⟩); go_big_quiet_on)
                      | (apply Exists.intro; refine ⟨fun W HC => ?_, ?_⟩; (go_at_call 35; refine (rwork_any t _ W (Rows'.kept CInt.mono HC.out.2 HR.out) HG.out).mono ?_; rintro e w' ⟨rfl, hb⟩; exact ⟨rfl, Lib.hid (HC.out.kept hb)⟩); go_big_quiet_on)))
                  refine wpQuiet_nil ?_
                  intro W HC
                  clear HX c6 c7 c8
                  have c3 := HC.out.1.cell 3 rfl
                  have c4 := HC.out.1.cell 4 rfl
                  have c5 := HC.out.1.cell 5 rfl
                  go_wp2_with (go_at_call 24; refine (rin_any _ _ _ _).mono ?_; rintro e w' ⟨rfl, rfl⟩; rw [HT.out])
                  go_ret
                  exact ⟨ret_bool (by rw [HF.out]), HC.out.2⟩
              · have d3 : decide (t.D < t.regs.sum) = true := by simp; omega
                have HF : Hid (refIsB t p = false) := Lib.hid (by rw [HRM.out]; simp [g3])
                refine wp_region_cls (fun w' => Hid (IsC t (.slice A t.regs.length c) w w')) (by kernel_rfl) (by kernel_rfl) (Lib.hid (IsC.kept HX.out (Below.refl _ _).drew)) ?_
                repeat (first
                  | go_big_quiet_skip
                  | (go_big_quiet_want; go_big_quiet_op; first
                    | go_big_quiet_on
                    | (refine ⟨_, fun _ _ => rfl, ?_⟩; go_big_quiet_on)
                    | (apply Exists.intro; refine ⟨fun W HC => ?_, ?_⟩; (rw [HC.out.1.cell 0 rfl]; exact ⟨rfl, rfl⟩); go_big_quiet_on)
                    | (apply Exists.intro; refine ⟨fun W HC => ?_, ?_⟩; (rw [HC.out.1.cell 1 rfl]; exact ⟨rfl, rfl⟩); go_big_quiet_on)
                    | (apply Exists.intro; refine ⟨fun W HC => ?_, ?_⟩; (rw [HC.out.1.cell 2 rfl]; exact ⟨rfl, rfl⟩); go_big_quiet_on)
                    | (apply Exists.intro; refine ⟨fun W HC => ?_, ?_⟩; (have c0 := HC.out.1.cell 0 rfl; have c1 := HC.out.1.cell 1 rfl; have c2 := HC.out.1.cell 2 rfl; have c3 := HC.out.1.cell 3 rfl; have c4 := HC.out.1.cell 4 rfl; have c5 := HC.out.1.cell 5 rfl; have c6 := HC.out.1.cell 6 rfl; have c7 := HC.out.1.cell 7 rfl; have c8 := HC.out.1.cell 8 rfl; simp only [c0, c1, c2, c3, c4, c5, c6, c7, c8, Result.andThen_ok]; exact ⟨trivial, rfl⟩); go_big_quiet_on)
                    | (apply Exists.intro; refine ⟨fun W HC => ?_, ?_⟩; (go_at_call 35; refine (rwork_any t _ W (Rows'.kept CInt.mono HC.out.2 HR.out) HG.out).mono ?_; rintro e w' ⟨rfl, hb⟩; exact ⟨rfl, Lib.hid (HC.out.kept hb)⟩); go_big_quiet_on)))
                refine wpQuiet_nil ?_
                intro W HC
                clear HX c6 c7 c8
                have c3 := HC.out.1.cell 3 rfl
                have c4 := HC.out.1.cell 4 rfl
                have c5 := HC.out.1.cell 5 rfl
                go_wp2_with (go_at_call 24; refine (rin_any _ _ _ _).mono ?_; rintro e w' ⟨rfl, rfl⟩; rw [HT.out])
                go_ret
                exact ⟨ret_bool (by rw [HF.out]), HC.out.2⟩
        · have k4 : (Go.bits .andNot .u64 t.ucb t.ecb != 0) = true := by simp [h4]
          have HF : Hid (refIsB t p = false) := Lib.hid (by simp [refIsB, h4])
          clear h1 h4
          go_enter Tryz.func25, Tryz.ntmps25
          go_wp2_with (go_at_call 34; refine (rname_any _ _ hn).mono ?_; rintro e w1 ⟨rfl, hb1⟩; rw [HN.out]; have HX : Hid (IsC t (.slice A t.regs.length c) w w1) := Lib.hid ⟨Blk.kept (Blk.newAt rfl) hb1, below_tr (Below.alloc (Below.refl _ _) (Nat.le_refl _) _) hb1⟩; clear hb1; have c6 := HX.out.1.cell 6 rfl; have c7 := HX.out.1.cell 7 rfl; have c8 := HX.out.1.cell 8 rfl)
          go_ret
          exact ⟨ret_bool (by rw [HF.out]), HX.out.2⟩
      · have HF : Hid (refIsB t p = false) := Lib.hid (by simp [refIsB, regsB, h3])
        clear h1
        go_enter Tryz.func25, Tryz.ntmps25
        go_wp2_with (go_at_call 34; refine (rname_any _ _ hn).mono ?_; rintro e w1 ⟨rfl, hb1⟩; rw [HN.out]; have HX : Hid (IsC t (.slice A t.regs.length c) w w1) := Lib.hid ⟨Blk.kept (Blk.newAt rfl) hb1, below_tr (Below.alloc (Below.refl _ _) (Nat.le_refl _) _) hb1⟩; clear hb1; have c6 := HX.out.1.cell 6 rfl; have c7 := HX.out.1.cell 7 rfl; have c8 := HX.out.1.cell 8 rfl)
        go_ret
        exact ⟨ret_bool (by rw [HF.out]), HX.out.2⟩
    · have HF : Hid (refIsB t p = false) := Lib.hid (by simp [refIsB, regsB, h2])
      clear h1
      go_enter Tryz.func25, Tryz.ntmps25
      go_wp2_with (go_at_call 34; refine (rname_any _ _ hn).mono ?_; rintro e w1 ⟨rfl, hb1⟩; rw [HN.out]; have HX : Hid (IsC t (.slice A t.regs.length c) w w1) := Lib.hid ⟨Blk.kept (Blk.newAt rfl) hb1, below_tr (Below.alloc (Below.refl _ _) (Nat.le_refl _) _) hb1⟩; clear hb1; have c6 := HX.out.1.cell 6 rfl; have c7 := HX.out.1.cell 7 rfl; have c8 := HX.out.1.cell 8 rfl)
      go_ret
      exact ⟨ret_bool (by rw [HF.out]), HX.out.2⟩
/-- Are two rows of numbers one, as far as they go. -/
theorem rnums_any (v v' : Value) (l l' : List Int) (w : World) (h : RdI w v l) (h' : RdI w v' l') : Calls Tryz.prog 23 #[v, v'] w fun e w' => e = .returned (.bool (decide (l = l'))) ∧ Below w.heap.size w w' := by
  obtain ⟨A, c, rfl, hle, hat⟩ := h.at
  obtain ⟨A', c', rfl, hle', hat'⟩ := h'.at
  have HAT := Lib.hid hat
  have HAT' := Lib.hid hat'
  clear h h' hat hat'
  by_cases hlen : l.length = l'.length
  · have k0 : ((l.length : Int) != (l'.length : Int)) = false := by simp [hlen]
    have HL := Lib.hid hlen
    have hll : l'.length ≤ l.length := by omega
    have hll2 : l.length ≤ l'.length := by omega
    clear hlen
    go_enter Tryz.func23, Tryz.ntmps23
    go_wp2
    go_loopw [5] (fun i W => ∃ k : Nat, k ≤ l.length ∧ i = .int .i64 k ∧ Hid (∀ j, j < k → gI l j = gI l' j) ∧ Hid (Below w.heap.size w W)) (fun i _ => l.length - (intOf i).toNat)
    case atStart => exact ⟨0, Nat.zero_le _, rfl, Lib.hid (fun j hj => by omega), Lib.hid (Below.refl _ _)⟩
    case round =>
      obtain ⟨k, hk, rfl, HALL, HB⟩ := hrel
      by_cases hlt : k < l.length
      · obtain ⟨b, o, rfl, hc⟩ := HAT.out k hlt
        obtain ⟨b', o', rfl, hc'⟩ := HAT'.out k (by omega)
        have hd := cell_kept HB.out hc
        have hd' := cell_kept HB.out hc'
        clear hc hc'
        have hi1 : (k : Int) < (l.length : Int) := by omega
        have hi2 : (k : Int) < (l'.length : Int) := by omega
        by_cases he : gI l k = gI l' k
        · have k1 : (gI l k != gI l' k) = false := by simp [he]
          have HAL2 : Hid (∀ j, j < k + 1 → gI l j = gI l' j) := Lib.hid (fun j hj => by
            by_cases h : j = k
            · subst h; exact he
            · exact HALL.out j (by omega))
          clear he
          go_wp2
          go_quiet (fail)
          go_wp2
          go_roundw
          case rel => exact ⟨k + 1, hlt, by go_num, HAL2, Lib.hid (below_drewN HB.out _)⟩
          case measure => simp [intOf]; omega
        · have k1 : (gI l k != gI l' k) = true := by simp [he]
          have HF : Hid (decide (l = l') = false) := Lib.hid (by simp; intro hh; subst hh; exact he rfl)
          clear he
          go_wp2
          go_quiet (fail)
          go_wp2
          go_ret
          exact ⟨ret_bool (by rw [HF.out]), below_drewN HB.out _⟩
      · obtain rfl : k = l.length := by omega
        have HF : Hid (decide (l = l') = true) := Lib.hid (by
          simp
          refine List.ext_getElem HL.out fun j h1 h2 => ?_
          have := HALL.out j h1
          rw [gI_at h1, gI_at h2] at this
          exact this)
        go_wp2
        go_ret
        exact ⟨ret_bool (by rw [HF.out]), HB.out⟩
  · have k0 : ((l.length : Int) != (l'.length : Int)) = true := by simp; omega
    have HF : Hid (decide (l = l') = false) := Lib.hid (by simp; intro hh; subst hh; exact hlen rfl)
    go_enter Tryz.func23, Tryz.ntmps23
    go_wp2
    go_ret
    exact ⟨ret_bool (by rw [HF.out]), Below.refl _ _⟩
end Go.Proofs.YtopmnpkjhaabcaaGreatDoor
